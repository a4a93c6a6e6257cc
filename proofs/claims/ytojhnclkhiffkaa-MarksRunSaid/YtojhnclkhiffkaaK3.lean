/-
  Operations that only read: what the lowered form yields is what the operation yields, nothing is touched, nothing is listed.
-/
import Derived.Test.YtojhnclkhiffkaaK2
namespace Go.Proofs.Ytojhnclkhiffkaa
set_option linter.unusedVariables false
variable {P : Program} {e : Env} {h : H} {a : Act} {w : World}

theorem bindo {α β : Type} {o : Option α} {f : α → Option β} {b : β} (h : o.bind f = some b) : ∃ x, o = some x ∧ f x = some b := Option.bind_eq_some_iff.1 h

theorem chk_spec {α : Type} {c : Prop} [Decidable c] {v x : α} (h : chk c v = some x) : c ∧ v = x := by
  unfold chk at h
  split at h
  · exact ⟨‹_›, Option.some.inj h⟩
  · cases h


/-- Which look-up the class of a '==' stands for. -/
theorem eqk_bool {t : TypeId} (h : eqkOf P t = .bool) : P.underlying t = some .bool := by
  unfold eqkOf at h; split at h <;> first | assumption | (cases h; done) | (split at h <;> first | (cases h; done) | (split at h <;> cases h))
theorem eqk_slice {t : TypeId} (h : eqkOf P t = .slice) : ∃ E, P.underlying t = some (.slice E) := by
  unfold eqkOf at h; split at h <;> first | exact ⟨_, by assumption⟩ | (cases h; done) | (split at h <;> first | (cases h; done) | (split at h <;> cases h))
theorem eqk_map {t : TypeId} (h : eqkOf P t = .map) : ∃ k E, P.underlying t = some (.map k E) := by
  unfold eqkOf at h; split at h <;> first | exact ⟨_, _, by assumption⟩ | (cases h; done) | (split at h <;> first | (cases h; done) | (split at h <;> cases h))
theorem eqk_func {t : TypeId} (h : eqkOf P t = .func) : ∃ x y z, P.underlying t = some (.func x y z) := by
  unfold eqkOf at h; split at h <;> first | exact ⟨_, _, _, by assumption⟩ | (cases h; done) | (split at h <;> first | (cases h; done) | (split at h <;> cases h))
theorem eqk_iface {t : TypeId} (h : eqkOf P t = .iface) : ∃ m, P.underlying t = some (.interface m) := by
  unfold eqkOf at h; split at h <;> first | exact ⟨_, by assumption⟩ | (cases h; done) | (split at h <;> first | (cases h; done) | (split at h <;> cases h))
theorem eqk_ptr {t : TypeId} (h : eqkOf P t = .ptr) : ∃ E i, P.underlying t = some (.pointer E) ∧ P.info? E = some i ∧ i.size ≠ 0 := by
  unfold eqkOf at h
  split at h <;> try (cases h; done)
  split at h <;> try (cases h; done)
  split at h <;> try (cases h; done)
  exact ⟨_, _, by assumption, by assumption, by assumption⟩

theorem run_eqV {t : TypeId} {x y : Value} {b : Bool} (d : Nat) (hb : eqV (eqkOf P t) x y = some b) : (Op.equalIn (d + 1) t x y).run P w = .ok b w := by
  generalize hk : eqkOf P t = k at hb
  unfold eqV at hb
  split at hb
  · have hr := run_underlying (eqk_bool hk) w
    simp only [Option.some.injEq] at hb; subst hb
    simp [Op.equalIn, hr]
  · obtain ⟨E, i, hu, hi, hs⟩ := eqk_ptr hk
    have hr := run_underlying hu w
    rename_i b'
    simp only [Option.some.injEq] at hb; subst hb
    cases b' <;> simp [Op.equalIn, hr]
  · obtain ⟨E, i, hu, hi, hs⟩ := eqk_ptr hk
    have hr := run_underlying hu w
    simp only [Option.some.injEq] at hb; subst hb
    simp [Op.equalIn, hr]
  · obtain ⟨E, i, hu, hi, hs⟩ := eqk_ptr hk
    have hr := run_underlying hu w
    obtain ⟨h1, h2⟩ := chk_spec hb
    simp [Op.equalIn, hr, run_size hi, hs, sameAddr, h1, ← h2]
    rw [Bool.eq_iff_iff]; simp
  · obtain ⟨E, hu⟩ := eqk_slice hk
    have hr := run_underlying hu w
    rename_i b' _ _
    simp only [Option.some.injEq] at hb; subst hb
    cases b' <;> simp [Op.equalIn, hr]
  · obtain ⟨E, hu⟩ := eqk_slice hk
    have hr := run_underlying hu w
    simp only [Option.some.injEq] at hb; subst hb
    simp [Op.equalIn, hr]
  · obtain ⟨k, E, hu⟩ := eqk_map hk
    have hr := run_underlying hu w
    rename_i b'
    simp only [Option.some.injEq] at hb; subst hb
    cases b' <;> simp [Op.equalIn, hr]
  · obtain ⟨k, E, hu⟩ := eqk_map hk
    have hr := run_underlying hu w
    simp only [Option.some.injEq] at hb; subst hb
    simp [Op.equalIn, hr]
  · obtain ⟨_, _, _, hu⟩ := eqk_func hk
    have hr := run_underlying hu w
    simp only [Option.some.injEq] at hb; subst hb
    simp [Op.equalIn, hr]
  · obtain ⟨_, _, _, hu⟩ := eqk_func hk
    have hr := run_underlying hu w
    simp only [Option.some.injEq] at hb; subst hb
    simp [Op.equalIn, hr]
  · obtain ⟨_, _, _, hu⟩ := eqk_func hk
    have hr := run_underlying hu w
    simp only [Option.some.injEq] at hb; subst hb
    simp [Op.equalIn, hr]
  · obtain ⟨_, hu⟩ := eqk_iface hk
    have hr := run_underlying hu w
    simp only [Option.some.injEq] at hb; subst hb
    simp [Op.equalIn, hr]
  · obtain ⟨_, hu⟩ := eqk_iface hk
    have hr := run_underlying hu w
    simp only [Option.some.injEq] at hb; subst hb
    simp [Op.equalIn, hr]
  · cases hb
theorem run_equalV {t : TypeId} {x y : Value} {b : Bool} (hb : eqV (eqkOf P t) x y = some b) : (Op.equal t x y).run P w = .ok b w :=
  run_eqV 9999 hb

theorem run_guardV {op : BinOp} {t : TypeId} {x y : Operand} {u v : Value} (h : ∀ c d, ¬ (u = .agg c ∧ v = .agg d)) (h' : ¬ (u = .nilIface ∧ v = .nilIface)) : (eqGuard op t x y u v).run P w = .ok () w := by
  cases op <;> first
    | rfl
    | (cases u <;> cases v <;> first
        | rfl
        | exact absurd ⟨rfl, rfl⟩ h'
        | exact absurd ⟨rfl, rfl⟩ (h _ _))
theorem run_binV {op : BinOp} {t : TypeId} {x y : Value} {v : Value} (hb : binV op (eqkOf P t) x y = some v) : (binOp op t x y).run P w = .ok v w := by
  unfold binV at hb
  split at hb
  · rename_i k m k' n
    split at hb
    · obtain ⟨h1, h2⟩ := chk_spec hb
      subst h2
      simp [binOp, Op.shift, show ¬ n < 0 by omega]
    · obtain ⟨h1, h2⟩ := chk_spec hb
      subst h2
      simp [binOp, Op.shift, show ¬ n < 0 by omega]
    · split at hb
      · rename_i h1 h2 hk
        subst hk
        cases op <;> simp only [intV, Option.some.injEq, reduceCtorEq] at hb <;> try (subst hb)
        all_goals (try (simp [binOp, Op.intArith, Op.intBits, Op.intCmp]; done))
        · obtain ⟨h3, h4⟩ := chk_spec hb
          subst h4
          simp [binOp, Op.intDiv, h3]
        · obtain ⟨h3, h4⟩ := chk_spec hb
          subst h4
          simp [binOp, Op.intDiv, h3]
        · simp [binOp, Op.intCmp]; rfl
        · simp [binOp, Op.intCmp]; rfl
      · cases hb
  · rename_i s u
    cases op <;> simp only [strV, Option.some.injEq, reduceCtorEq] at hb <;> try (subst hb)
    · obtain ⟨h3, h4⟩ := chk_spec hb
      subst h4
      simp [binOp, Op.stringOp, IntKind.max, IntKind.signed, IntKind.bits]
      omega
    all_goals
      have hd : (s.toList == u.toList) = decide (s.toList = u.toList) := by rw [Bool.eq_iff_iff]; simp
      simp [binOp, Op.stringOp, hd]
  · rename_i k m k' n
    split at hb
    · split at hb
      · rename_i hk
        subst hk
        simp only [Option.some.injEq] at hb; subst hb
        simp [binOp, Op.floatCmp]
      · cases hb
    · split at hb
      · rename_i hk
        subst hk
        simp only [Option.some.injEq] at hb; subst hb
        simp [binOp, Op.floatCmp]
      · cases hb
    · cases hb
  · rename_i hn1 hn2 hn3
    split at hb
    · cases hq : eqV (eqkOf P t) x y with
      | none => simp [hq] at hb
      | some b =>
        simp only [hq, Option.map_some, Option.some.injEq] at hb; subst hb
        have := run_equalV (w := w) hq
        unfold eqV at hq
        split at hq <;> try (cases hq; done)
        all_goals simp [binOp, this]
    · cases hq : eqV (eqkOf P t) x y with
      | none => simp [hq] at hb
      | some b =>
        simp only [hq, Option.map_some, Option.some.injEq] at hb; subst hb
        have := run_equalV (w := w) hq
        unfold eqV at hq
        split at hq <;> try (cases hq; done)
        all_goals simp [binOp, this]
    · cases hb
theorem binV_no {op : BinOp} {k : EqK} {u v x : Value} (hb : binV op k u v = some x) : (∀ c d, ¬ (u = .agg c ∧ v = .agg d)) ∧ ¬ (u = .nilIface ∧ v = .nilIface) := by
  refine ⟨?_, ?_⟩
  · rintro c d ⟨rfl, rfl⟩
    cases op <;> simp [binV, eqV] at hb
  · rintro ⟨rfl, rfl⟩
    cases op <;> simp [binV, eqV] at hb

theorem run_unV {op : UnOp} {x v : Value} (hb : unV op x = some v) : (Op.unary op x).run P w = .ok v w := by
  unfold unV at hb
  split at hb <;> try (cases hb; done)
  all_goals
    simp only [Option.some.injEq] at hb; subst hb
  · simp [Op.unary, Op.intArith]
  · simp [Op.unary, Op.intBits]
  · simp [Op.unary]

theorem run_slcV {size : Nat} {base : Option Addr} {len cap : Nat} {m3 : Bool} {lo hi mx : Int} {v : Value} (hv : slcV size base len cap m3 lo hi mx = some v) :
    0 ≤ lo ∧ lo ≤ hi ∧ hi ≤ mx ∧ mx ≤ cap ∧ (m3 = true ∨ mx = cap) ∧ v = .slice (if mx.toNat = lo.toNat then base else base.map (·.add (lo.toNat * size))) (hi.toNat - lo.toNat) (mx.toNat - lo.toNat) := by
  obtain ⟨⟨h1, h2, h3, h4, h5⟩, rfl⟩ := chk_spec hv
  refine ⟨h1, h2, h3, h4, h5, ?_⟩
  have : (mx = lo) = (mx.toNat = lo.toNat) := propext ⟨fun h => by rw [h], fun h => by omega⟩
  simp only [this]

theorem partV {P : Program} {w : World} {t : TypeId} {d : TypeDesc} (hu : P.underlying t = some d) (hd : (match d with | .struct _ | .array _ _ => true | _ => false) = false) {cs : Array Value} {o : Nat} {v : Value} (hc : cs[o]? = some v) :
    (part t cs o).run P w = .ok v w := by
  have hr := run_underlying hu w
  cases d <;> first | (simp at hd; done) | simp [part, isAgg, hr, hc]
theorem partA {P : Program} {w : World} {t : TypeId} {d : TypeDesc} {i : TypeInfo} (hu : P.underlying t = some d) (hi : P.info? t = some i) (hd : (match d with | .struct _ | .array _ _ => true | _ => false) = true) {cs : Array Value} {o : Nat} :
    (part t cs o).run P w = .ok (.agg (cs.extract o (o + i.size))) w := by
  have hr := run_underlying hu w
  cases d <;> first | (simp at hd; done) | simp [part, isAgg, hr, run_size hi]


theorem idx_run (P : Program) {w : World} {t E : TypeId} {i : TypeInfo} (hu : P.underlying t = some (.slice E)) (hi : P.info? E = some i) {p : Addr} {len cap : Nat} {k : IntKind} {j : Int} (h0 : 0 ≤ j) (h1 : j < len) :
    (Instr.indexAt t (.slice (some p) len cap) (.int k j)).run P w = .ok (.pointer (some (p.add (j.toNat * i.size)))) w := by
  simp [Instr.indexAt, asIntOf, run_underlying hu, run_size hi, h0, h1]
theorem idxp_run (P : Program) {w : World} {t E : TypeId} {n : Nat} {i : TypeInfo} (hu : P.underlying t = some (.array n E)) (hi : P.info? E = some i) {p : Addr} {k : IntKind} {j : Int} (h0 : 0 ≤ j) (h1 : j < n) :
    (Instr.indexAt t (.pointer (some p)) (.int k j)).run P w = .ok (.pointer (some (p.add (j.toNat * i.size)))) w := by
  simp [Instr.indexAt, asIntOf, run_underlying hu, run_size hi, h0, h1, Instr.sureAddr]


/-! ### .. and list nothing -/
section
variable {es : Array Event}
theorem ev_eqV {t : TypeId} {x y : Value} {b : Bool} (d : Nat) (hb : eqV (eqkOf P t) x y = some b) : (Op.equalIn (d + 1) t x y).events P w es = es := by
  generalize hk : eqkOf P t = k at hb
  unfold eqV at hb
  split at hb
  · have hr := run_underlying (eqk_bool hk) w
    simp [Op.equalIn, hr]
  · obtain ⟨E, i, hu, hi, hs⟩ := eqk_ptr hk
    have hr := run_underlying hu w
    rename_i b'
    cases b' <;> simp [Op.equalIn, hr]
  · obtain ⟨E, i, hu, hi, hs⟩ := eqk_ptr hk
    have hr := run_underlying hu w
    simp [Op.equalIn, hr]
  · obtain ⟨E, i, hu, hi, hs⟩ := eqk_ptr hk
    have hr := run_underlying hu w
    obtain ⟨h1, h2⟩ := chk_spec hb
    simp [Op.equalIn, hr, run_size hi, hs, sameAddr, h1]
  · obtain ⟨E, hu⟩ := eqk_slice hk
    have hr := run_underlying hu w
    rename_i b' _ _
    cases b' <;> simp [Op.equalIn, hr]
  · obtain ⟨E, hu⟩ := eqk_slice hk
    have hr := run_underlying hu w
    simp [Op.equalIn, hr]
  · obtain ⟨k, E, hu⟩ := eqk_map hk
    have hr := run_underlying hu w
    rename_i b'
    cases b' <;> simp [Op.equalIn, hr]
  · obtain ⟨k, E, hu⟩ := eqk_map hk
    have hr := run_underlying hu w
    simp [Op.equalIn, hr]
  · obtain ⟨_, _, _, hu⟩ := eqk_func hk
    have hr := run_underlying hu w
    simp [Op.equalIn, hr]
  · obtain ⟨_, _, _, hu⟩ := eqk_func hk
    have hr := run_underlying hu w
    simp [Op.equalIn, hr]
  · obtain ⟨_, _, _, hu⟩ := eqk_func hk
    have hr := run_underlying hu w
    simp [Op.equalIn, hr]
  · obtain ⟨_, hu⟩ := eqk_iface hk
    have hr := run_underlying hu w
    simp [Op.equalIn, hr]
  · obtain ⟨_, hu⟩ := eqk_iface hk
    have hr := run_underlying hu w
    simp [Op.equalIn, hr]
  · cases hb
theorem ev_equalV {t : TypeId} {x y : Value} {b : Bool} (hb : eqV (eqkOf P t) x y = some b) : (Op.equal t x y).events P w es = es := ev_eqV 9999 hb
theorem ev_guardV {op : BinOp} {t : TypeId} {x y : Operand} {u v : Value} (h : ∀ c d, ¬ (u = .agg c ∧ v = .agg d)) (h' : ¬ (u = .nilIface ∧ v = .nilIface)) : (eqGuard op t x y u v).events P w es = es := by
  cases op <;> first
    | rfl
    | (cases u <;> cases v <;> first
        | rfl
        | exact absurd ⟨rfl, rfl⟩ h'
        | exact absurd ⟨rfl, rfl⟩ (h _ _))
theorem ev_binV {op : BinOp} {t : TypeId} {x y : Value} {v : Value} (hb : binV op (eqkOf P t) x y = some v) : (binOp op t x y).events P w es = es := by
  unfold binV at hb
  split at hb
  · rename_i k m k' n
    split at hb
    · obtain ⟨h1, h2⟩ := chk_spec hb
      simp [binOp, Op.shift, show ¬ n < 0 by omega]
    · obtain ⟨h1, h2⟩ := chk_spec hb
      simp [binOp, Op.shift, show ¬ n < 0 by omega]
    · split at hb
      · rename_i h1 h2 hk
        subst hk
        cases op <;> simp only [intV, Option.some.injEq, reduceCtorEq] at hb
        all_goals (try (simp [binOp, Op.intArith, Op.intBits, Op.intCmp]; done))
        · obtain ⟨h3, h4⟩ := chk_spec hb
          simp [binOp, Op.intDiv, h3]
        · obtain ⟨h3, h4⟩ := chk_spec hb
          simp [binOp, Op.intDiv, h3]
      · cases hb
  · rename_i s u
    cases op <;> simp only [strV, Option.some.injEq, reduceCtorEq] at hb
    · obtain ⟨h3, h4⟩ := chk_spec hb
      have : ¬ (IntKind.i64.max < (s.size : Int) + (u.size : Int)) := by simp only [IntKind.max, IntKind.signed, IntKind.bits]; simp; omega
      simp [binOp, Op.stringOp, this]
    all_goals
      simp [binOp, Op.stringOp]
  · rename_i k m k' n
    split at hb
    · split at hb
      · rename_i hk
        subst hk
        simp [binOp, Op.floatCmp]
      · cases hb
    · split at hb
      · rename_i hk
        subst hk
        simp [binOp, Op.floatCmp]
      · cases hb
    · cases hb
  · rename_i hn1 hn2 hn3
    split at hb
    · cases hq : eqV (eqkOf P t) x y with
      | none => simp [hq] at hb
      | some b =>
        have h1 := run_equalV (w := w) hq
        have h2 := ev_equalV (w := w) (es := es) hq
        unfold eqV at hq
        split at hq <;> try (cases hq; done)
        all_goals simp [binOp, h1, h2]
    · cases hq : eqV (eqkOf P t) x y with
      | none => simp [hq] at hb
      | some b =>
        have h1 := run_equalV (w := w) hq
        have h2 := ev_equalV (w := w) (es := es) hq
        unfold eqV at hq
        split at hq <;> try (cases hq; done)
        all_goals simp [binOp, h1, h2]
    · cases hb
theorem ev_unV {op : UnOp} {x v : Value} (hb : unV op x = some v) : (Op.unary op x).events P w es = es := by
  unfold unV at hb
  split at hb <;> try (cases hb; done)
  · simp [Op.unary, Op.intArith]
  · simp [Op.unary, Op.intBits]
  · simp [Op.unary]
theorem ev_part {t : TypeId} {cs : Array Value} {o : Nat} : (part t cs o).events P w es = es := by
  simp only [part, Sem.events_bind, events_isAgg]
  cases (isAgg t).run P w with
  | halt _ _ => rfl
  | ok x w' =>
    simp only [Result.evThen_ok]
    split
    · simp only [Sem.events_bind, events_sizeOf]
      cases (sizeOf t).run P w' <;> simp
    · split <;> simp
theorem ev_idx {t E : TypeId} {i : TypeInfo} (hu : P.underlying t = some (.slice E)) (hi : P.info? E = some i) {p : Addr} {len cap : Nat} {k : IntKind} {j : Int} (h0 : 0 ≤ j) (h1 : j < len) :
    (Instr.indexAt t (.slice (some p) len cap) (.int k j)).events P w es = es := by
  simp [Instr.indexAt, asIntOf, run_underlying hu, run_size hi, h0, h1]
theorem ev_idxp {t E : TypeId} {n : Nat} {i : TypeInfo} (hu : P.underlying t = some (.array n E)) (hi : P.info? E = some i) {p : Addr} {k : IntKind} {j : Int} (h0 : 0 ≤ j) (h1 : j < n) :
    (Instr.indexAt t (.pointer (some p)) (.int k j)).events P w es = es := by
  simp [Instr.indexAt, asIntOf, run_underlying hu, run_size hi, h0, h1, Instr.sureAddr]
end

end Go.Proofs.Ytojhnclkhiffkaa
