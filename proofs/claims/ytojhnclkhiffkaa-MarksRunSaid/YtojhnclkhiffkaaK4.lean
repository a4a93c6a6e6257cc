/-
  What an operation that only reads yields.
-/
import Derived.Test.YtojhnclkhiffkaaK3
namespace Go.Proofs.Ytojhnclkhiffkaa
set_option linter.unusedVariables false
variable {P : Program} {e : Env} {h : H} {a : Act} {w : World}

theorem qz {s : Sem Next} {v : Value} (h1 : s.run P w = .ok (.value v) w) (h2 : s.events P w #[] = #[]) : s.run P w = .ok (.value v) w ∧ ∀ e ∈ s.events P w #[], EvO h e := ⟨h1, fun e he => by rw [h2] at he; simp at he⟩
theorem ev_bound (P : Program) (w : World) (es : Array Event) (k : IntKind) (i : Int) (y : Nat) (code : BoundsCode) (h0 : 0 ≤ i) (h1 : i ≤ y) : (Instr.sliceBound (.int k i) y code).events P w es = es := by
  simp [Instr.sliceBound, asIntOf, h0, h1]
theorem ev_bounds {es : Array Event} (ha : agree e a) (isS : Bool) (len cap : Nat) (lo hi mx : Option Operand) (l h' m : Int)
    (hm : bnd e mx cap = some m) (hh : bnd e hi len = some h') (hl : bnd e lo 0 = some l) (h1 : 0 ≤ l) (h2 : l ≤ h') (h3 : h' ≤ m) (h4 : m ≤ cap) (h5 : mx.isSome = true → hi.isSome = true) (h6 : mx = none → m = cap) :
    (Instr.sliceBounds isS len cap (lo.map a.eval) (hi.map a.eval) (mx.map a.eval)).events P w es = es := by
  unfold Instr.sliceBounds
  rcases bnd_sound ha hm with ⟨e1, e2⟩ | ⟨y1, k1, e1, e2⟩ <;> rcases bnd_sound ha hh with ⟨e3, e4⟩ | ⟨y2, k2, e3, e4⟩ <;> rcases bnd_sound ha hl with ⟨e5, e6⟩ | ⟨y3, k3, e5, e6⟩ <;> subst e1 <;> subst e3 <;> subst e5 <;>
    simp only [Option.isSome_some, Option.isSome_none, forall_const, Bool.false_eq_true, false_imp_iff, reduceCtorEq] at h5 h6 <;> (try subst e2) <;> (try subst e4) <;> (try subst e6) <;>
    simp (disch := omega) [run_bound, ev_bound, *]
theorem run_mapM_places (P : Program) (w : World) (fs : List Field) (hf : ∀ f ∈ fs, (P.info? f.type).isSome = true) :
    (List.mapM (fun f : Field => Prod.mk f.offset <$> sizeOf f.type : Field → Sem (Nat × Nat)) fs).run P w = .ok (fs.map fun f => (f.offset, P.cellsOf f.type)) w := by
  induction fs with
  | nil => simp
  | cons f r ih =>
    have h1 := hf f (by simp)
    obtain ⟨i, hi⟩ := Option.isSome_iff_exists.1 h1
    have h2 := ih (fun g hg => hf g (by simp [hg]))
    have h3 : P.cellsOf f.type = i.size := by simp [Program.cellsOf, hi]
    simp [List.mapM_cons, run_size hi, h2, h3]
theorem ev_mapM_places (P : Program) (w : World) (es : Array Event) (fs : List Field) (hf : ∀ f ∈ fs, (P.info? f.type).isSome = true) :
    (List.mapM (fun f : Field => Prod.mk f.offset <$> sizeOf f.type : Field → Sem (Nat × Nat)) fs).events P w es = es := by
  induction fs generalizing es with
  | nil => simp
  | cons f r ih =>
    have h1 := hf f (by simp)
    obtain ⟨i, hi⟩ := Option.isSome_iff_exists.1 h1
    have h2 := fun es => ih es (fun g hg => hf g (by simp [hg]))
    have h4 := run_mapM_places P w r (fun g hg => hf g (by simp [hg]))
    simp [List.mapM_cons, run_size hi, h2, h4]
theorem q_mv {o : Oper} {x : Operand} (ho : o.op = .move x ∨ o.op = .assign x) (ha : agree e a) {v : Value} (hv : ev e x = some v) : (execOp a.eval o).run P w = .ok (.value v) w ∧ ∀ e ∈ (execOp a.eval o).events P w #[], EvO h e := by
  rcases ho with ho | ho <;> exact qz (by simp [execOp, ho, ev_sound ha hv]) (by simp [execOp, ho])

theorem q_sound (ha : agree e a) (hw : Hol h w) (o : Oper) (hq : isQ (lowOp P o) = true) {v : Value} (hv : qV (lowOp P o) e h = some v) : (execOp a.eval o).run P w = .ok (.value v) w ∧ ∀ e ∈ (execOp a.eval o).events P w #[], EvO h e := by
  obtain ⟨dst, op, type, pos, after, guard⟩ := o
  cases op with
  | move x => exact q_mv (.inl rfl) ha hv
  | assign x => exact q_mv (.inr rfl) ha hv
  | pick c x y =>
    obtain ⟨t, h1, h2⟩ := bindo hv
    split at h2
    · rename_i b
      have hc := ev_sound ha h1
      cases b
      · have := ev_sound ha h2; exact qz (by simp [execOp, asBool, hc, this]) (by simp [execOp, asBool, hc, this])
      · have := ev_sound ha h2; exact qz (by simp [execOp, asBool, hc, this]) (by simp [execOp, asBool, hc, this])
    · cases h2
  | nilCheck x =>
    obtain ⟨t, h1, h2⟩ := bindo hv
    have hx := ev_sound ha h1
    split at h2 <;> try (cases h2; done)
    all_goals
      simp only [Option.some.injEq] at h2; subst h2
      exact qz (by simp [execOp, hx]) (by simp [execOp, hx, ev_part])
  | binOp op t x y yt =>
    simp only [lowOp] at hq hv
    split at hq
    · simp [isQ] at hq
    rename_i hc
    rw [if_neg hc] at hv
    obtain ⟨u, h1, h2⟩ := bindo hv
    obtain ⟨u', h3, h4⟩ := bindo h2
    have hx := ev_sound ha h1
    have hy := ev_sound ha h3
    obtain ⟨hn1, hn2⟩ := binV_no h4
    exact qz (by simp [execOp, hx, hy, run_guardV hn1 hn2, run_binV h4]) (by simp [execOp, hx, hy, run_guardV hn1 hn2, run_binV h4, ev_part, ev_guardV hn1 hn2, ev_binV h4])
  | unOp op t x =>
    obtain ⟨u, h1, h2⟩ := bindo hv
    exact qz (by simp [execOp, ev_sound ha h1, run_unV h2]) (by simp [execOp, ev_sound ha h1, run_unV h2, ev_part, ev_unV h2])
  | extract x i =>
    obtain ⟨u, h1, h2⟩ := bindo hv
    split at h2
    · exact qz (by simp [execOp, ev_sound ha h1, Instr.extract, h2]) (by simp [execOp, ev_sound ha h1, Instr.extract, h2, ev_part])
    · cases h2
  | makeFunc fn f c =>
    obtain ⟨u, h1, h2⟩ := bindo hv
    obtain ⟨u', h3, h4⟩ := bindo h2
    simp only [Option.some.injEq] at h4; subst h4
    exact qz (by simp [execOp, Instr.makeFunc, evs_arr ha h1, evs_arr ha h3]) (by simp [execOp, Instr.makeFunc, evs_arr ha h1, evs_arr ha h3, ev_part])
  | load t x =>
    simp only [lowOp] at hq hv
    split at hq
    all_goals (try (simp [isQ] at hq; done))
    · rename_i i hu hi
      simp only [hu, hi, qV] at hv
      obtain ⟨u, h1, h2⟩ := bindo hv
      split at h2 <;> try (cases h2; done)
      simp only [Option.map_eq_some_iff] at h2
      obtain ⟨cs, h3, h4⟩ := h2
      subst h4
      refine ⟨by simp [execOp, ev_sound ha h1, Instr.loadAt, Instr.sureAddr, loadVar, isAgg, run_underlying hu, run_size hi, run_lds hw h3], fun e he => ev_lds (P := P) hw h3 e ?_⟩
      simpa [execOp, ev_sound ha h1, Instr.loadAt, Instr.sureAddr, loadVar, isAgg, run_underlying hu, run_size hi] using he
    · rename_i i hu hi
      simp only [hu, hi, qV] at hv
      obtain ⟨u, h1, h2⟩ := bindo hv
      split at h2 <;> try (cases h2; done)
      simp only [Option.map_eq_some_iff] at h2
      obtain ⟨cs, h3, h4⟩ := h2
      subst h4
      refine ⟨by simp [execOp, ev_sound ha h1, Instr.loadAt, Instr.sureAddr, loadVar, isAgg, run_underlying hu, run_size hi, run_lds hw h3], fun e he => ev_lds (P := P) hw h3 e ?_⟩
      simpa [execOp, ev_sound ha h1, Instr.loadAt, Instr.sureAddr, loadVar, isAgg, run_underlying hu, run_size hi] using he
    · rename_i d i hd1 hd2 hu hi
      have hv' : qV (.ld x) e h = some v := by
        revert hv; simp only [hu, hi]
        cases d <;> first | exact fun h => h | (exact absurd rfl (hd1 _)) | (exact absurd rfl (hd2 _ _))
      obtain ⟨u, h1, h2⟩ := bindo hv'
      split at h2 <;> try (cases h2; done)
      have hr := run_underlying hu w
      cases d <;> first
        | (exact absurd rfl (hd1 _))
        | (exact absurd rfl (hd2 _ _))
        | (refine ⟨by simp [execOp, ev_sound ha h1, Instr.loadAt, Instr.sureAddr, loadVar, isAgg, hr, cell_of hw h2], fun e he => ev_ld (P := P) hw h2 e ?_⟩
           simpa [execOp, ev_sound ha h1, Instr.loadAt, Instr.sureAddr, loadVar, isAgg, hr] using he)
  | makeInterface t x =>
    simp only [lowOp] at hq hv
    split at hq
    · simp [isQ] at hq
    · rename_i d hd hu
      have hv' : qV (.iface t x) e h = some v := by
        revert hv; simp only [hu]
        cases d <;> first | exact fun h => h | (exact absurd rfl (hd _))
      obtain ⟨u, h1, h2⟩ := bindo hv'
      simp only [Option.some.injEq] at h2; subst h2
      have hr := run_underlying hu w
      cases d <;> first
        | (exact absurd rfl (hd _))
        | exact qz (by simp [execOp, ev_sound ha h1, Instr.makeInterface, hr]) (by simp [execOp, ev_sound ha h1, Instr.makeInterface, hr, ev_part])
    · simp [isQ] at hq
  | convert s d x =>
    simp only [lowOp] at hq hv
    split at hq
    · rename_i k k' hs hd
      simp only [hs, hd, qV] at hv
      obtain ⟨u, h1, h2⟩ := bindo hv
      split at h2 <;> try (cases h2; done)
      simp only [Option.some.injEq] at h2; subst h2
      exact qz (by simp [execOp, ev_sound ha h1, convert, run_underlying hs, run_underlying hd, Conv.intToInt]) (by simp [execOp, ev_sound ha h1, convert, run_underlying hs, run_underlying hd, Conv.intToInt, ev_part])
    · rename_i hs hd
      simp only [hs, hd, qV] at hv
      obtain ⟨u, h1, h2⟩ := bindo hv
      split at h2 <;> try (cases h2; done)
      simp only [Option.some.injEq] at h2; subst h2
      exact qz (by simp [execOp, ev_sound ha h1, convert, run_underlying hs, run_underlying hd]) (by simp [execOp, ev_sound ha h1, convert, run_underlying hs, run_underlying hd, ev_part])
    · rename_i E hs hd
      split at hq <;> simp [isQ] at hq
    · rename_i E hs hd
      split at hq <;> simp [isQ] at hq
    · simp [isQ] at hq
  | fieldAddr s x f =>
    simp only [lowOp] at hq hv
    split at hq
    · rename_i fs hs
      split at hq
      · rename_i fd hf
        split at hq
        · rename_i i hi
          split at hq
          · simp [isQ] at hq
          · rename_i hz
            simp only [hs, hf, hi, hz, if_false, qV] at hv
            obtain ⟨u, h1, h2⟩ := bindo hv
            split at h2 <;> try (cases h2; done)
            simp only [Option.some.injEq] at h2; subst h2
            exact qz (by simp [execOp, ev_sound ha h1, Instr.fieldAt, run_underlying hs, hf, Instr.sureAddr, fieldPlace, run_size hi, hz]) (by simp [execOp, ev_sound ha h1, Instr.fieldAt, run_underlying hs, hf, Instr.sureAddr, fieldPlace, run_size hi, hz, ev_part])
        · simp [isQ] at hq
      · simp [isQ] at hq
    · simp [isQ] at hq
  | field s x f =>
    simp only [lowOp] at hq hv
    split at hq
    · rename_i fs hs
      split at hq
      · rename_i fd hf
        split at hq
        · rename_i i hu hi
          simp only [hs, hf, hu, hi, qV] at hv
          obtain ⟨u, h1, h2⟩ := bindo hv
          split at h2 <;> try (cases h2; done)
          simp only [Option.some.injEq] at h2; subst h2
          exact qz (by simp [execOp, ev_sound ha h1, Instr.field, run_underlying hs, hf, asAgg, partA hu hi]) (by simp [execOp, ev_sound ha h1, Instr.field, run_underlying hs, hf, asAgg, partA hu hi, ev_part])
        · rename_i i hu hi
          simp only [hs, hf, hu, hi, qV] at hv
          obtain ⟨u, h1, h2⟩ := bindo hv
          split at h2 <;> try (cases h2; done)
          simp only [Option.some.injEq] at h2; subst h2
          exact qz (by simp [execOp, ev_sound ha h1, Instr.field, run_underlying hs, hf, asAgg, partA hu hi]) (by simp [execOp, ev_sound ha h1, Instr.field, run_underlying hs, hf, asAgg, partA hu hi, ev_part])
        · rename_i d i hd1 hd2 hu hi
          have hv' : qV (.fld fd.offset x) e h = some v := by
            revert hv; simp only [hs, hf, hu, hi]
            cases d <;> first | exact fun h => h | (exact absurd rfl (hd1 _)) | (exact absurd rfl (hd2 _ _))
          obtain ⟨u, h1, h2⟩ := bindo hv'
          split at h2 <;> try (cases h2; done)
          have hp := partV (P := P) (w := w) (o := fd.offset) hu (by cases d <;> first | rfl | (exact absurd rfl (hd1 _)) | (exact absurd rfl (hd2 _ _))) h2
          exact qz (by simp [execOp, ev_sound ha h1, Instr.field, run_underlying hs, hf, asAgg, hp]) (by simp [execOp, ev_sound ha h1, Instr.field, run_underlying hs, hf, asAgg, hp, ev_part])
        · simp [isQ] at hq
      · simp [isQ] at hq
    · simp [isQ] at hq
  | indexAddr t x ix =>
    simp only [lowOp] at hq hv
    split at hq
    · rename_i E hu
      split at hq
      · rename_i i hi
        simp only [hu, hi, qV] at hv
        obtain ⟨u, h1, h2⟩ := bindo hv
        obtain ⟨u', h3, h4⟩ := bindo h2
        split at h4 <;> try (cases h4; done)
        obtain ⟨⟨h5, h6⟩, rfl⟩ := chk_spec h4
        exact qz (by simp [execOp, ev_sound ha h1, ev_sound ha h3, idx_run P hu hi h5 h6]) (by simp [execOp, ev_sound ha h1, ev_sound ha h3, idx_run P hu hi h5 h6, ev_part, ev_idx hu hi h5 h6])
      · simp [isQ] at hq
    · rename_i n E hu
      split at hq
      · rename_i i hi
        simp only [hu, hi, qV] at hv
        obtain ⟨u, h1, h2⟩ := bindo hv
        obtain ⟨u', h3, h4⟩ := bindo h2
        split at h4 <;> try (cases h4; done)
        obtain ⟨⟨h5, h6⟩, rfl⟩ := chk_spec h4
        exact qz (by simp [execOp, ev_sound ha h1, ev_sound ha h3, idxp_run P hu hi h5 h6]) (by simp [execOp, ev_sound ha h1, ev_sound ha h3, idxp_run P hu hi h5 h6, ev_part, ev_idxp hu hi h5 h6])
      · simp [isQ] at hq
    · simp [isQ] at hq
  | index t x ix =>
    simp only [lowOp] at hq hv
    split at hq
    · rename_i hu
      simp only [hu, qV] at hv
      obtain ⟨u, h1, h2⟩ := bindo hv
      obtain ⟨u', h3, h4⟩ := bindo h2
      split at h4 <;> try (cases h4; done)
      obtain ⟨_, h5, h6⟩ := bindo h4
      obtain ⟨h7, _⟩ := chk_spec h5
      simp only [Option.map_eq_some_iff] at h6
      obtain ⟨b, h8, h9⟩ := h6
      subst h9
      exact qz (by simp [execOp, ev_sound ha h1, ev_sound ha h3, Instr.index, asIntOf, run_underlying hu, h7, h8]) (by simp [execOp, ev_sound ha h1, ev_sound ha h3, Instr.index, asIntOf, run_underlying hu, h7, h8, ev_part])
    · rename_i n E hu
      split at hq
      · rename_i i hE hi
        simp only [hu, hE, hi, qV] at hv
        obtain ⟨u, h1, h2⟩ := bindo hv
        obtain ⟨u', h3, h4⟩ := bindo h2
        split at h4 <;> try (cases h4; done)
        obtain ⟨⟨h5, h6⟩, rfl⟩ := chk_spec h4
        exact qz (by simp [execOp, ev_sound ha h1, ev_sound ha h3, Instr.index, asIntOf, run_underlying hu, run_size hi, h5, h6, partA hE hi]) (by simp [execOp, ev_sound ha h1, ev_sound ha h3, Instr.index, asIntOf, run_underlying hu, run_size hi, h5, h6, partA hE hi, ev_part])
      · rename_i i hE hi
        simp only [hu, hE, hi, qV] at hv
        obtain ⟨u, h1, h2⟩ := bindo hv
        obtain ⟨u', h3, h4⟩ := bindo h2
        split at h4 <;> try (cases h4; done)
        obtain ⟨⟨h5, h6⟩, rfl⟩ := chk_spec h4
        exact qz (by simp [execOp, ev_sound ha h1, ev_sound ha h3, Instr.index, asIntOf, run_underlying hu, run_size hi, h5, h6, partA hE hi]) (by simp [execOp, ev_sound ha h1, ev_sound ha h3, Instr.index, asIntOf, run_underlying hu, run_size hi, h5, h6, partA hE hi, ev_part])
      · rename_i d i hd1 hd2 hE hi
        split at hq
        · rename_i hsz
          have hv' : qV (.idxv n x ix) e h = some v := by
            revert hv; simp only [hu, hE, hi]
            cases d <;> first | (simp only [hsz, if_true]; exact fun h => h) | (exact absurd rfl (hd1 _)) | (exact absurd rfl (hd2 _ _))
          obtain ⟨u, h1, h2⟩ := bindo hv'
          obtain ⟨u', h3, h4⟩ := bindo h2
          split at h4 <;> try (cases h4; done)
          obtain ⟨_, h5, h6⟩ := bindo h4
          obtain ⟨⟨h7, h8⟩, _⟩ := chk_spec h5
          have hp := partV (P := P) (w := w) hE (by cases d <;> first | rfl | (exact absurd rfl (hd1 _)) | (exact absurd rfl (hd2 _ _))) h6
          exact qz (by simp [execOp, ev_sound ha h1, ev_sound ha h3, Instr.index, asIntOf, run_underlying hu, run_size hi, h7, h8, hsz, hp]) (by simp [execOp, ev_sound ha h1, ev_sound ha h3, Instr.index, asIntOf, run_underlying hu, run_size hi, h7, h8, hsz, hp, ev_part])
        · simp [isQ] at hq
      · simp [isQ] at hq
    · simp [isQ] at hq
  | slice t x lo hi mx =>
    simp only [lowOp] at hq hv
    split at hq
    · rename_i hu
      split at hq
      · simp only [hu, qV] at hv
        obtain ⟨u, h1, h2⟩ := bindo hv
        split at h2 <;> try (cases h2; done)
        rename_i s
        obtain ⟨hh, h3, h4⟩ := bindo h2
        obtain ⟨ll, h5, h6⟩ := bindo h4
        obtain ⟨⟨h7, h8, h9⟩, rfl⟩ := chk_spec h6
        have := run_bounds (P := P) (w := w) ha false s.size s.size lo hi none ll hh s.size (by simp [bnd]) h3 h5 h7 h8 h9 (Int.le_refl _) (by simp) (by simp)
        have evb := fun es => ev_bounds (P := P) (w := w) (es := es) ha false s.size s.size lo hi none ll hh s.size (by simp [bnd]) h3 h5 h7 h8 h9 (Int.le_refl _) (by simp) (by simp)
        simp only [Option.map_none, Int.toNat_natCast] at this evb
        exact qz (by simp [execOp, ev_sound ha h1, Instr.sliceAt, Instr.slice, run_underlying hu, this]) (by simp [execOp, ev_sound ha h1, Instr.sliceAt, Instr.slice, run_underlying hu, this, ev_part, evb])
      · simp [isQ] at hq
    · rename_i E hu
      split at hq
      · rename_i i hi'
        split at hq
        · simp [isQ] at hq
        · rename_i hmx
          simp only [hu, hi', hmx, if_false, qV] at hv
          obtain ⟨u, h1, h2⟩ := bindo hv
          split at h2 <;> try (cases h2; done)
          rename_i base len cap
          obtain ⟨m, h3, h2⟩ := bindo h2
          obtain ⟨hh, h4, h2⟩ := bindo h2
          obtain ⟨ll, h5, h2⟩ := bindo h2
          obtain ⟨a1, a2, a3, a4, a5, rfl⟩ := run_slcV h2
          have := run_bounds (P := P) (w := w) ha true len cap lo hi mx ll hh m h3 h4 h5 a1 a2 a3 a4 (by intro hm; cases hi <;> simp_all) (by rintro rfl; simpa [bnd] using h3.symm)
          have evb := fun es => ev_bounds (P := P) (w := w) (es := es) ha true len cap lo hi mx ll hh m h3 h4 h5 a1 a2 a3 a4 (by intro hm; cases hi <;> simp_all) (by rintro rfl; simpa [bnd] using h3.symm)
          exact qz (by simp [execOp, ev_sound ha h1, Instr.sliceAt, Instr.slice, run_underlying hu, this, run_size hi']) (by simp [execOp, ev_sound ha h1, Instr.sliceAt, Instr.slice, run_underlying hu, this, run_size hi', ev_part, evb])
      · simp [isQ] at hq
    · rename_i n E hu
      split at hq
      · rename_i i hi'
        split at hq
        · simp [isQ] at hq
        · rename_i hmx
          simp only [hu, hi', hmx, if_false, qV] at hv
          obtain ⟨u, h1, h2⟩ := bindo hv
          split at h2 <;> try (cases h2; done)
          obtain ⟨m, h3, h2⟩ := bindo h2
          obtain ⟨hh, h4, h2⟩ := bindo h2
          obtain ⟨ll, h5, h2⟩ := bindo h2
          obtain ⟨a1, a2, a3, a4, a5, rfl⟩ := run_slcV h2
          have := run_bounds (P := P) (w := w) ha false n n lo hi mx ll hh m h3 h4 h5 a1 a2 a3 a4 (by intro hm; cases hi <;> simp_all) (by rintro rfl; simpa [bnd] using h3.symm)
          have evb := fun es => ev_bounds (P := P) (w := w) (es := es) ha false n n lo hi mx ll hh m h3 h4 h5 a1 a2 a3 a4 (by intro hm; cases hi <;> simp_all) (by rintro rfl; simpa [bnd] using h3.symm)
          exact qz (by simp [execOp, ev_sound ha h1, Instr.sliceAt, Instr.sureAddr, run_underlying hu, this, run_size hi']; split <;> rfl) (by simp [execOp, ev_sound ha h1, Instr.sliceAt, Instr.sureAddr, run_underlying hu, this, run_size hi', evb]; try (split <;> simp))
      · simp [isQ] at hq
    · simp [isQ] at hq
  | build t ps =>
    simp only [lowOp] at hq hv
    split at hq
    · rename_i i fs hi hu
      split at hq
      · rename_i z l hz hall hp
        simp only [hi, hu, hz, hall, hp, qV] at hv
        obtain ⟨vs, h1, h2⟩ := bindo hv
        simp only [Option.map_eq_some_iff] at h2
        obtain ⟨c, h3, h4⟩ := h2
        subst h4
        have hf := fill_sound ha _ ps.toList l vs z.cells c hp h1 h3
        have hm := run_mapM_places P w fs.toList (fun f hf' => Array.all_eq_true_iff_forall_mem.1 hall f (by simpa using hf'))
        have evm := fun es => ev_mapM_places P w es fs.toList (fun f hf' => Array.all_eq_true_iff_forall_mem.1 hall f (by simpa using hf'))
        exact qz (by simp [execOp, Instr.build, run_zero hi hz, run_underlying hu, Array.mapM_eq_mapM_toList, hm, hf]) (by simp [execOp, Instr.build, run_zero hi hz, run_underlying hu, Array.mapM_eq_mapM_toList, hm, hf, ev_part, evm])
      · simp [isQ] at hq
    · rename_i i n E hi hu
      split at hq
      · rename_i z iE l hz hiE hp
        simp only [hi, hu, hz, hiE, hp, qV] at hv
        obtain ⟨vs, h1, h2⟩ := bindo hv
        simp only [Option.map_eq_some_iff] at h2
        obtain ⟨c, h3, h4⟩ := h2
        subst h4
        have hf := fill_sound ha _ ps.toList l vs z.cells c hp h1 h3
        have hc : P.cellsOf E = iE.size := by simp [Program.cellsOf, hiE]
        rw [hc] at hf
        exact qz (by simp [execOp, Instr.build, run_zero hi hz, run_underlying hu, run_size hiE, hf]) (by simp [execOp, Instr.build, run_zero hi hz, run_underlying hu, run_size hiE, hf, ev_part])
      · simp [isQ] at hq
    · simp [isQ] at hq
  | call c =>
    obtain ⟨cal, args, ts⟩ := c
    cases cal with
    | builtin b =>
      simp only [lowOp, lowBuiltin] at hq hv
      split at hq
      · rename_i x t hax htx
        obtain ⟨args⟩ := args; obtain ⟨ts⟩ := ts
        simp only at hax htx; subst hax; subst htx
        split at hq
        · rename_i hu
          simp only [hu, qV] at hv
          obtain ⟨u, h1, h2⟩ := bindo hv
          split at h2 <;> try (cases h2; done)
          simp only [Option.some.injEq] at h2; subst h2
          exact qz (by simp [execOp, resolve, invoke, builtin, ev_sound ha h1, Builtin.len_, run_underlying hu, goInt]) (by simp [execOp, resolve, invoke, builtin, ev_sound ha h1, Builtin.len_, run_underlying hu, goInt, ev_part])
        · rename_i E hu
          simp only [hu, qV] at hv
          obtain ⟨u, h1, h2⟩ := bindo hv
          split at h2 <;> try (cases h2; done)
          simp only [Option.some.injEq] at h2; subst h2
          exact qz (by simp [execOp, resolve, invoke, builtin, ev_sound ha h1, Builtin.len_, run_underlying hu, goInt]) (by simp [execOp, resolve, invoke, builtin, ev_sound ha h1, Builtin.len_, run_underlying hu, goInt, ev_part])
        · rename_i n E hu
          simp only [hu, qV, Option.some.injEq] at hv; subst hv
          exact qz (by simp [execOp, resolve, invoke, builtin, Builtin.len_, run_underlying hu, goInt]) (by simp [execOp, resolve, invoke, builtin, Builtin.len_, run_underlying hu, goInt, ev_part])
        · rename_i E hu
          split at hq
          · rename_i n E' hu'
            simp only [hu, hu', qV, Option.some.injEq] at hv; subst hv
            exact qz (by simp [execOp, resolve, invoke, builtin, Builtin.len_, run_underlying hu, run_underlying hu', goInt]) (by simp [execOp, resolve, invoke, builtin, Builtin.len_, run_underlying hu, run_underlying hu', goInt, ev_part])
          · simp [isQ] at hq
        · simp [isQ] at hq
      · rename_i x t hax htx
        obtain ⟨args⟩ := args; obtain ⟨ts⟩ := ts
        simp only at hax htx; subst hax; subst htx
        split at hq
        · rename_i E hu
          simp only [hu, qV] at hv
          obtain ⟨u, h1, h2⟩ := bindo hv
          split at h2 <;> try (cases h2; done)
          simp only [Option.some.injEq] at h2; subst h2
          exact qz (by simp [execOp, resolve, invoke, builtin, ev_sound ha h1, Builtin.cap_, run_underlying hu, goInt]) (by simp [execOp, resolve, invoke, builtin, ev_sound ha h1, Builtin.cap_, run_underlying hu, goInt, ev_part])
        · simp [isQ] at hq
      · split at hq <;> (try split at hq) <;> (try split at hq) <;> simp [isQ] at hq
      · split at hq <;> (try split at hq) <;> simp [isQ] at hq
      · rename_i x y hax
        obtain ⟨args⟩ := args
        simp only at hax; subst hax
        simp only [qV] at hv
        obtain ⟨u, h1, h2⟩ := bindo hv
        obtain ⟨u', h3, h4⟩ := bindo h2
        split at h4 <;> try (cases h4; done)
        simp only [Option.some.injEq] at h4; subst h4
        exact qz (by simp [execOp, resolve, invoke, builtin, ev_sound ha h1, ev_sound ha h3, Builtin.min_, Builtin.min2]) (by simp [execOp, resolve, invoke, builtin, ev_sound ha h1, ev_sound ha h3, Builtin.min_, Builtin.min2, ev_part])
      · rename_i x y hax
        obtain ⟨args⟩ := args
        simp only at hax; subst hax
        simp only [qV] at hv
        obtain ⟨u, h1, h2⟩ := bindo hv
        obtain ⟨u', h3, h4⟩ := bindo h2
        split at h4 <;> try (cases h4; done)
        simp only [Option.some.injEq] at h4; subst h4
        exact qz (by simp [execOp, resolve, invoke, builtin, ev_sound ha h1, ev_sound ha h3, Builtin.max_, Builtin.max2]) (by simp [execOp, resolve, invoke, builtin, ev_sound ha h1, ev_sound ha h3, Builtin.max_, Builtin.max2, ev_part])
      · simp [isQ] at hq
    | invoke r m => simp [lowOp, isQ] at hq
    | value f =>
      cases f with
      | func f => simp only [lowOp, lowFunc] at hq; split at hq <;> simp [isQ] at hq
      | tmp t => simp [lowOp, isQ] at hq
      | _ => simp [lowOp, isQ] at hq
  | _ => 
    simp only [lowOp] at hq
    revert hq
    repeat' split
    all_goals (intro hq; simp [isQ] at hq)
end Go.Proofs.Ytojhnclkhiffkaa
