/-
  What an operation that only reads yields.
-/
import Derived.Test.YtooimdgoibdhlaaDoorK3
namespace Go.Proofs.YtooimdgoibdhlaaDoor
set_option linter.unusedVariables false
variable {P : Program} {e : Env} {h : H} {a : Act} {w : World}

theorem q_mv {o : Oper} {x : Operand} (ho : o.op = .move x ∨ o.op = .assign x) (ha : agree e a) {v : Value} (hv : ev e x = some v) : (execOp a.eval o).run P w = .ok (.value v) w := by
  rcases ho with ho | ho <;> simp [execOp, ho, ev_sound ha hv]

theorem run_mapM_places (P : Program) (w : World) (fs : List Field) (hf : ∀ f ∈ fs, (P.info? f.type).isSome = true) :
    (List.mapM (fun f : Field => Prod.mk f.offset <$> sizeOf f.type : Field → Sem (Nat × Nat)) fs).run P w = .ok (fs.map fun f => (f.offset, P.cellsOf f.type)) w := by
  induction fs with
  | nil => simp
  | cons f r ih =>
    have h1 := hf f (by simp)
    obtain ⟨i, hi⟩ := Option.isSome_iff_exists.1 h1
    have h2 := ih (fun g hg => hf g (by simp [hg]))
    have h3 : P.cellsOf f.type = i.size := by simp [Program.cellsOf, hi]
    simp [List.mapM_cons, run_size hi, h2, h3]
theorem q_sound (ha : agree e a) (hw : hp w = h) (o : Oper) (hq : isQ (lowOp P o) = true) {v : Value} (hv : qV (lowOp P o) e h = some v) : (execOp a.eval o).run P w = .ok (.value v) w := by
  obtain ⟨dst, op, type, pos, after, guard⟩ := o
  cases op with
  | move x => exact q_mv (.inl rfl) ha hv
  | assign x => exact q_mv (.inr rfl) ha hv
  | pick c x y =>
    obtain ⟨t, h1, h2⟩ := bindo hv
    split at h2
    · rename_i b
      have hc := ev_sound ha h1
      cases b
      · have := ev_sound ha h2; simp [execOp, asBool, hc, this]
      · have := ev_sound ha h2; simp [execOp, asBool, hc, this]
    · cases h2
  | nilCheck x =>
    obtain ⟨t, h1, h2⟩ := bindo hv
    have hx := ev_sound ha h1
    split at h2 <;> try (cases h2; done)
    all_goals
      simp only [Option.some.injEq] at h2; subst h2
      simp [execOp, hx]
  | binOp op t x y yt =>
    simp only [lowOp] at hq hv
    split at hq
    · simp [isQ] at hq
    rename_i hc
    rw [if_neg hc] at hv
    obtain ⟨u, h1, h2⟩ := bindo hv
    obtain ⟨u', h3, h4⟩ := bindo h2
    have hx := ev_sound ha h1
    have hy := ev_sound ha h3
    obtain ⟨hn1, hn2⟩ := binV_no h4
    simp [execOp, hx, hy, run_guardV hn1 hn2, run_binV h4]
  | unOp op t x =>
    obtain ⟨u, h1, h2⟩ := bindo hv
    simp [execOp, ev_sound ha h1, run_unV h2]
  | extract x i =>
    obtain ⟨u, h1, h2⟩ := bindo hv
    split at h2
    · simp [execOp, ev_sound ha h1, Instr.extract, h2]
    · cases h2
  | makeFunc fn f c =>
    obtain ⟨u, h1, h2⟩ := bindo hv
    obtain ⟨u', h3, h4⟩ := bindo h2
    simp only [Option.some.injEq] at h4; subst h4
    simp [execOp, Instr.makeFunc, evs_arr ha h1, evs_arr ha h3]
  | load t x =>
    simp only [lowOp] at hq hv
    split at hq
    all_goals (try (simp [isQ] at hq; done))
    · rename_i i hu hi
      simp only [hu, hi, qV] at hv
      obtain ⟨u, h1, h2⟩ := bindo hv
      split at h2 <;> try (cases h2; done)
      simp only [Option.map_eq_some_iff] at h2
      obtain ⟨cs, h3, h4⟩ := h2
      subst h4
      simp [execOp, ev_sound ha h1, Instr.loadAt, Instr.sureAddr, loadVar, isAgg, run_underlying hu, run_size hi, run_lds hw h3]
    · rename_i i hu hi
      simp only [hu, hi, qV] at hv
      obtain ⟨u, h1, h2⟩ := bindo hv
      split at h2 <;> try (cases h2; done)
      simp only [Option.map_eq_some_iff] at h2
      obtain ⟨cs, h3, h4⟩ := h2
      subst h4
      simp [execOp, ev_sound ha h1, Instr.loadAt, Instr.sureAddr, loadVar, isAgg, run_underlying hu, run_size hi, run_lds hw h3]
    · rename_i d i hd1 hd2 hu hi
      have hv' : qV (.ld x) e h = some v := by
        revert hv; simp only [hu, hi]
        cases d <;> first | exact fun h => h | (exact absurd rfl (hd1 _)) | (exact absurd rfl (hd2 _ _))
      obtain ⟨u, h1, h2⟩ := bindo hv'
      split at h2 <;> try (cases h2; done)
      have hr := run_underlying hu w
      cases d <;> first
        | (exact absurd rfl (hd1 _))
        | (exact absurd rfl (hd2 _ _))
        | simp [execOp, ev_sound ha h1, Instr.loadAt, Instr.sureAddr, loadVar, isAgg, hr, cell_of hw h2]
  | makeInterface t x =>
    simp only [lowOp] at hq hv
    split at hq
    · simp [isQ] at hq
    · rename_i d hd hu
      have hv' : qV (.iface t x) e h = some v := by
        revert hv; simp only [hu]
        cases d <;> first | exact fun h => h | (exact absurd rfl (hd _))
      obtain ⟨u, h1, h2⟩ := bindo hv'
      simp only [Option.some.injEq] at h2; subst h2
      have hr := run_underlying hu w
      cases d <;> first
        | (exact absurd rfl (hd _))
        | simp [execOp, ev_sound ha h1, Instr.makeInterface, hr]
    · simp [isQ] at hq
  | convert s d x =>
    simp only [lowOp] at hq hv
    split at hq
    · rename_i k k' hs hd
      simp only [hs, hd, qV] at hv
      obtain ⟨u, h1, h2⟩ := bindo hv
      split at h2 <;> try (cases h2; done)
      simp only [Option.some.injEq] at h2; subst h2
      simp [execOp, ev_sound ha h1, convert, run_underlying hs, run_underlying hd, Conv.intToInt]
    · rename_i hs hd
      simp only [hs, hd, qV] at hv
      obtain ⟨u, h1, h2⟩ := bindo hv
      split at h2 <;> try (cases h2; done)
      simp only [Option.some.injEq] at h2; subst h2
      simp [execOp, ev_sound ha h1, convert, run_underlying hs, run_underlying hd]
    · rename_i E hs hd
      split at hq <;> simp [isQ] at hq
    · rename_i E hs hd
      split at hq <;> simp [isQ] at hq
    · simp [isQ] at hq
  | fieldAddr s x f =>
    simp only [lowOp] at hq hv
    split at hq
    · rename_i fs hs
      split at hq
      · rename_i fd hf
        split at hq
        · rename_i i hi
          split at hq
          · simp [isQ] at hq
          · rename_i hz
            simp only [hs, hf, hi, hz, if_false, qV] at hv
            obtain ⟨u, h1, h2⟩ := bindo hv
            split at h2 <;> try (cases h2; done)
            simp only [Option.some.injEq] at h2; subst h2
            simp [execOp, ev_sound ha h1, Instr.fieldAt, run_underlying hs, hf, Instr.sureAddr, fieldPlace, run_size hi, hz]
        · simp [isQ] at hq
      · simp [isQ] at hq
    · simp [isQ] at hq
  | field s x f =>
    simp only [lowOp] at hq hv
    split at hq
    · rename_i fs hs
      split at hq
      · rename_i fd hf
        split at hq
        · rename_i i hu hi
          simp only [hs, hf, hu, hi, qV] at hv
          obtain ⟨u, h1, h2⟩ := bindo hv
          split at h2 <;> try (cases h2; done)
          simp only [Option.some.injEq] at h2; subst h2
          simp [execOp, ev_sound ha h1, Instr.field, run_underlying hs, hf, asAgg, partA hu hi]
        · rename_i i hu hi
          simp only [hs, hf, hu, hi, qV] at hv
          obtain ⟨u, h1, h2⟩ := bindo hv
          split at h2 <;> try (cases h2; done)
          simp only [Option.some.injEq] at h2; subst h2
          simp [execOp, ev_sound ha h1, Instr.field, run_underlying hs, hf, asAgg, partA hu hi]
        · rename_i d i hd1 hd2 hu hi
          have hv' : qV (.fld fd.offset x) e h = some v := by
            revert hv; simp only [hs, hf, hu, hi]
            cases d <;> first | exact fun h => h | (exact absurd rfl (hd1 _)) | (exact absurd rfl (hd2 _ _))
          obtain ⟨u, h1, h2⟩ := bindo hv'
          split at h2 <;> try (cases h2; done)
          have hp := partV (P := P) (w := w) (o := fd.offset) hu (by cases d <;> first | rfl | (exact absurd rfl (hd1 _)) | (exact absurd rfl (hd2 _ _))) h2
          simp [execOp, ev_sound ha h1, Instr.field, run_underlying hs, hf, asAgg, hp]
        · simp [isQ] at hq
      · simp [isQ] at hq
    · simp [isQ] at hq
  | indexAddr t x ix =>
    simp only [lowOp] at hq hv
    split at hq
    · rename_i E hu
      split at hq
      · rename_i i hi
        simp only [hu, hi, qV] at hv
        obtain ⟨u, h1, h2⟩ := bindo hv
        obtain ⟨u', h3, h4⟩ := bindo h2
        split at h4 <;> try (cases h4; done)
        obtain ⟨⟨h5, h6⟩, rfl⟩ := chk_spec h4
        simp [execOp, ev_sound ha h1, ev_sound ha h3, idx_run P hu hi h5 h6]
      · simp [isQ] at hq
    · rename_i n E hu
      split at hq
      · rename_i i hi
        simp only [hu, hi, qV] at hv
        obtain ⟨u, h1, h2⟩ := bindo hv
        obtain ⟨u', h3, h4⟩ := bindo h2
        split at h4 <;> try (cases h4; done)
        obtain ⟨⟨h5, h6⟩, rfl⟩ := chk_spec h4
        simp [execOp, ev_sound ha h1, ev_sound ha h3, idxp_run P hu hi h5 h6]
      · simp [isQ] at hq
    · simp [isQ] at hq
  | index t x ix =>
    simp only [lowOp] at hq hv
    split at hq
    · rename_i hu
      simp only [hu, qV] at hv
      obtain ⟨u, h1, h2⟩ := bindo hv
      obtain ⟨u', h3, h4⟩ := bindo h2
      split at h4 <;> try (cases h4; done)
      obtain ⟨_, h5, h6⟩ := bindo h4
      obtain ⟨h7, _⟩ := chk_spec h5
      simp only [Option.map_eq_some_iff] at h6
      obtain ⟨b, h8, h9⟩ := h6
      subst h9
      simp [execOp, ev_sound ha h1, ev_sound ha h3, Instr.index, asIntOf, run_underlying hu, h7, h8]
    · rename_i n E hu
      split at hq
      · rename_i i hE hi
        simp only [hu, hE, hi, qV] at hv
        obtain ⟨u, h1, h2⟩ := bindo hv
        obtain ⟨u', h3, h4⟩ := bindo h2
        split at h4 <;> try (cases h4; done)
        obtain ⟨⟨h5, h6⟩, rfl⟩ := chk_spec h4
        simp [execOp, ev_sound ha h1, ev_sound ha h3, Instr.index, asIntOf, run_underlying hu, run_size hi, h5, h6, partA hE hi]
      · rename_i i hE hi
        simp only [hu, hE, hi, qV] at hv
        obtain ⟨u, h1, h2⟩ := bindo hv
        obtain ⟨u', h3, h4⟩ := bindo h2
        split at h4 <;> try (cases h4; done)
        obtain ⟨⟨h5, h6⟩, rfl⟩ := chk_spec h4
        simp [execOp, ev_sound ha h1, ev_sound ha h3, Instr.index, asIntOf, run_underlying hu, run_size hi, h5, h6, partA hE hi]
      · rename_i d i hd1 hd2 hE hi
        split at hq
        · rename_i hsz
          have hv' : qV (.idxv n x ix) e h = some v := by
            revert hv; simp only [hu, hE, hi]
            cases d <;> first | (simp only [hsz, if_true]; exact fun h => h) | (exact absurd rfl (hd1 _)) | (exact absurd rfl (hd2 _ _))
          obtain ⟨u, h1, h2⟩ := bindo hv'
          obtain ⟨u', h3, h4⟩ := bindo h2
          split at h4 <;> try (cases h4; done)
          obtain ⟨_, h5, h6⟩ := bindo h4
          obtain ⟨⟨h7, h8⟩, _⟩ := chk_spec h5
          have hp := partV (P := P) (w := w) hE (by cases d <;> first | rfl | (exact absurd rfl (hd1 _)) | (exact absurd rfl (hd2 _ _))) h6
          simp [execOp, ev_sound ha h1, ev_sound ha h3, Instr.index, asIntOf, run_underlying hu, run_size hi, h7, h8, hsz, hp]
        · simp [isQ] at hq
      · simp [isQ] at hq
    · simp [isQ] at hq
  | slice t x lo hi mx =>
    simp only [lowOp] at hq hv
    split at hq
    · rename_i hu
      split at hq
      · simp only [hu, qV] at hv
        obtain ⟨u, h1, h2⟩ := bindo hv
        split at h2 <;> try (cases h2; done)
        rename_i s
        obtain ⟨hh, h3, h4⟩ := bindo h2
        obtain ⟨ll, h5, h6⟩ := bindo h4
        obtain ⟨⟨h7, h8, h9⟩, rfl⟩ := chk_spec h6
        have := run_bounds (P := P) (w := w) ha false s.size s.size lo hi none ll hh s.size (by simp [bnd]) h3 h5 h7 h8 h9 (Int.le_refl _) (by simp) (by simp)
        simp only [Option.map_none, Int.toNat_natCast] at this
        simp [execOp, ev_sound ha h1, Instr.sliceAt, Instr.slice, run_underlying hu, this]
      · simp [isQ] at hq
    · rename_i E hu
      split at hq
      · rename_i i hi'
        split at hq
        · simp [isQ] at hq
        · rename_i hmx
          simp only [hu, hi', hmx, if_false, qV] at hv
          obtain ⟨u, h1, h2⟩ := bindo hv
          split at h2 <;> try (cases h2; done)
          rename_i base len cap
          obtain ⟨m, h3, h2⟩ := bindo h2
          obtain ⟨hh, h4, h2⟩ := bindo h2
          obtain ⟨ll, h5, h2⟩ := bindo h2
          obtain ⟨a1, a2, a3, a4, a5, rfl⟩ := run_slcV h2
          have := run_bounds (P := P) (w := w) ha true len cap lo hi mx ll hh m h3 h4 h5 a1 a2 a3 a4 (by intro hm; cases hi <;> simp_all) (by rintro rfl; simpa [bnd] using h3.symm)
          simp [execOp, ev_sound ha h1, Instr.sliceAt, Instr.slice, run_underlying hu, this, run_size hi']
      · simp [isQ] at hq
    · rename_i n E hu
      split at hq
      · rename_i i hi'
        split at hq
        · simp [isQ] at hq
        · rename_i hmx
          simp only [hu, hi', hmx, if_false, qV] at hv
          obtain ⟨u, h1, h2⟩ := bindo hv
          split at h2 <;> try (cases h2; done)
          obtain ⟨m, h3, h2⟩ := bindo h2
          obtain ⟨hh, h4, h2⟩ := bindo h2
          obtain ⟨ll, h5, h2⟩ := bindo h2
          obtain ⟨a1, a2, a3, a4, a5, rfl⟩ := run_slcV h2
          have := run_bounds (P := P) (w := w) ha false n n lo hi mx ll hh m h3 h4 h5 a1 a2 a3 a4 (by intro hm; cases hi <;> simp_all) (by rintro rfl; simpa [bnd] using h3.symm)
          simp [execOp, ev_sound ha h1, Instr.sliceAt, Instr.sureAddr, run_underlying hu, this, run_size hi']
          split <;> rfl
      · simp [isQ] at hq
    · simp [isQ] at hq
  | build t ps =>
    simp only [lowOp] at hq hv
    split at hq
    · rename_i i fs hi hu
      split at hq
      · rename_i z l hz hall hp
        simp only [hi, hu, hz, hall, hp, qV] at hv
        obtain ⟨vs, h1, h2⟩ := bindo hv
        simp only [Option.map_eq_some_iff] at h2
        obtain ⟨c, h3, h4⟩ := h2
        subst h4
        have hf := fill_sound ha _ ps.toList l vs z.cells c hp h1 h3
        have hm := run_mapM_places P w fs.toList (fun f hf' => Array.all_eq_true_iff_forall_mem.1 hall f (by simpa using hf'))
        simp [execOp, Instr.build, run_zero hi hz, run_underlying hu, Array.mapM_eq_mapM_toList, hm, hf]
      · simp [isQ] at hq
    · rename_i i n E hi hu
      split at hq
      · rename_i z iE l hz hiE hp
        simp only [hi, hu, hz, hiE, hp, qV] at hv
        obtain ⟨vs, h1, h2⟩ := bindo hv
        simp only [Option.map_eq_some_iff] at h2
        obtain ⟨c, h3, h4⟩ := h2
        subst h4
        have hf := fill_sound ha _ ps.toList l vs z.cells c hp h1 h3
        have hc : P.cellsOf E = iE.size := by simp [Program.cellsOf, hiE]
        rw [hc] at hf
        simp [execOp, Instr.build, run_zero hi hz, run_underlying hu, run_size hiE, hf]
      · simp [isQ] at hq
    · simp [isQ] at hq
  | call c =>
    obtain ⟨cal, args, ts⟩ := c
    cases cal with
    | builtin b =>
      simp only [lowOp, lowBuiltin] at hq hv
      split at hq
      · rename_i x t hax htx
        obtain ⟨args⟩ := args; obtain ⟨ts⟩ := ts
        simp only at hax htx; subst hax; subst htx
        split at hq
        · rename_i hu
          simp only [hu, qV] at hv
          obtain ⟨u, h1, h2⟩ := bindo hv
          split at h2 <;> try (cases h2; done)
          simp only [Option.some.injEq] at h2; subst h2
          simp [execOp, resolve, invoke, builtin, ev_sound ha h1, Builtin.len_, run_underlying hu, goInt]
        · rename_i E hu
          simp only [hu, qV] at hv
          obtain ⟨u, h1, h2⟩ := bindo hv
          split at h2 <;> try (cases h2; done)
          simp only [Option.some.injEq] at h2; subst h2
          simp [execOp, resolve, invoke, builtin, ev_sound ha h1, Builtin.len_, run_underlying hu, goInt]
        · rename_i n E hu
          simp only [hu, qV, Option.some.injEq] at hv; subst hv
          simp [execOp, resolve, invoke, builtin, Builtin.len_, run_underlying hu, goInt]
        · rename_i E hu
          split at hq
          · rename_i n E' hu'
            simp only [hu, hu', qV, Option.some.injEq] at hv; subst hv
            simp [execOp, resolve, invoke, builtin, Builtin.len_, run_underlying hu, run_underlying hu', goInt]
          · simp [isQ] at hq
        · simp [isQ] at hq
      · rename_i x t hax htx
        obtain ⟨args⟩ := args; obtain ⟨ts⟩ := ts
        simp only at hax htx; subst hax; subst htx
        split at hq
        · rename_i E hu
          simp only [hu, qV] at hv
          obtain ⟨u, h1, h2⟩ := bindo hv
          split at h2 <;> try (cases h2; done)
          simp only [Option.some.injEq] at h2; subst h2
          simp [execOp, resolve, invoke, builtin, ev_sound ha h1, Builtin.cap_, run_underlying hu, goInt]
        · simp [isQ] at hq
      · split at hq <;> (try split at hq) <;> (try split at hq) <;> simp [isQ] at hq
      · split at hq <;> (try split at hq) <;> simp [isQ] at hq
      · rename_i x y hax
        obtain ⟨args⟩ := args
        simp only at hax; subst hax
        simp only [qV] at hv
        obtain ⟨u, h1, h2⟩ := bindo hv
        obtain ⟨u', h3, h4⟩ := bindo h2
        split at h4 <;> try (cases h4; done)
        simp only [Option.some.injEq] at h4; subst h4
        simp [execOp, resolve, invoke, builtin, ev_sound ha h1, ev_sound ha h3, Builtin.min_, Builtin.min2]
      · rename_i x y hax
        obtain ⟨args⟩ := args
        simp only at hax; subst hax
        simp only [qV] at hv
        obtain ⟨u, h1, h2⟩ := bindo hv
        obtain ⟨u', h3, h4⟩ := bindo h2
        split at h4 <;> try (cases h4; done)
        simp only [Option.some.injEq] at h4; subst h4
        simp [execOp, resolve, invoke, builtin, ev_sound ha h1, ev_sound ha h3, Builtin.max_, Builtin.max2]
      · simp [isQ] at hq
    | invoke r m => simp [lowOp, isQ] at hq
    | value f =>
      cases f with
      | func f => simp only [lowOp, lowFunc] at hq; split at hq <;> simp [isQ] at hq
      | tmp t => simp [lowOp, isQ] at hq
      | _ => simp [lowOp, isQ] at hq
  | _ => 
    simp only [lowOp] at hq
    revert hq
    repeat' split
    all_goals (intro hq; simp [isQ] at hq)
end Go.Proofs.YtooimdgoibdhlaaDoor
