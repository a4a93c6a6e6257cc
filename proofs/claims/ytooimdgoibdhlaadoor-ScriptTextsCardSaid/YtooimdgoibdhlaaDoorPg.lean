/-
  The library's contracts, told by heaps.
-/
import Derived.Test.YtooimdgoibdhlaaDoorPe
import Derived.Test.YtooimdgoibdhlaaDoorSh
namespace Go.Proofs.YtooimdgoibdhlaaDoor.sc
open Go Go.Proofs.YtooimdgoibdhlaaDoor Go.RowKit
set_option linter.unusedVariables false
set_option linter.unusedSimpArgs false
theorem kin_below {w w' : World} (b : Below w.heap.size w w') : Kin w w' :=
  ⟨b.os, b.tape, b.output, b.size, fun k o hk _ => (b.block k (Array.getElem?_eq_some_iff.1 hk).1).trans hk⟩
theorem ext_below {w w' : World} (b : Below w.heap.size w w') : Ext (hp w) (hp w') := by
  intro k o hk _
  have h1 : w.heap[k]? = some o := hid_some hk
  show hid w'.heap[k]? = some o
  rw [b.block k (Array.getElem?_eq_some_iff.1 h1).1]
  exact hk
theorem ok_below {f : FuncId} {args : Array Value} {h : H} {R : Value → H → Prop} (hc : ∀ w, hp w = h → Calls Tryd.prog f args w fun e w' => ∃ v, e = .returned v ∧ Below w.heap.size w w' ∧ R v (hp w')) : Ok Tryd.prog f args h R :=
  fun w hw => (hc w hw).mono fun e w' ⟨v, he, hb, hr⟩ => ⟨kin_below hb, v, he, hr⟩
theorem below_grow (w : World) (k : Nat) (os : Array Obj) : Below w.heap.size w (Go.Sort.grow (w.drewN k) os) := by
  refine ⟨rfl, rfl, rfl, ?_, fun b hb => ?_⟩
  · show w.heap.size ≤ (w.heap ++ os).size
    simp
  · show (w.heap ++ os)[b]? = _
    rw [Array.getElem?_append_left hb]

/-! ### What the library's variables hold -/
structure GL (h : H) : Prop where
  tab : ∃ E fr, h 3 = some (.cells (Lib.pow10Tab.map fun z => Value.int .u64 z).toArray E fr)
  syn : ∃ te pe, cellAt h ⟨1, 0, none⟩ = some (.iface te pe)
  rng : ∃ te pe, cellAt h ⟨2, 0, none⟩ = some (.iface te pe)
  mx : ∃ m, cellAt h ⟨0, 0, none⟩ = some (.int .i64 m)
theorem GL.ext {h h' : H} (g : GL h) (e : Ext h h') : GL h' := by
  obtain ⟨⟨E, fr, h1⟩, ⟨t2, p2, h2⟩, ⟨t3, p3, h3⟩, m, h4⟩ := g
  exact ⟨⟨E, fr, e.at h1⟩, ⟨t2, p2, cellAt_ext e h2⟩, ⟨t3, p3, cellAt_ext e h3⟩, m, cellAt_ext e h4⟩
theorem gtab : Tryd.prog.globalNamed "internal/strconv.uint64pow10" = some 3 := by kernel_rfl
theorem GL.tabIs {w : World} (g : GL (hp w)) : Lib.TabIs Tryd.prog w "internal/strconv.uint64pow10" .u64 Lib.pow10Tab := by
  obtain ⟨E, fr, h1⟩ := g.tab
  unfold Lib.TabIs World.var?
  rw [gtab]
  simp only [Option.bind_some]
  rw [show w.heap[3]? = _ from hid_some h1]

/-! ### Numbers -/
theorem dec_lib (n : Nat) : Lib.decDigits n = dec n := by
  induction n using Nat.strongRecOn with
  | _ n ih =>
    rw [Lib.decDigits]
    split
    · rename_i h; rw [dec_small h]; rfl
    · rename_i h; rw [dec_big (by omega), ih _ (by omega)]; rfl
theorem Itoa_ok {h : H} (g : GL h) (n : Nat) (hn : n ≤ 2147483647) : Ok Tryd.prog 35 #[.int .i64 (n : Int)] h fun v h' => v = sv (dec n) ∧ Ext h h' := by
  refine ok_below fun w hw => ?_
  subst hw
  refine (Tryd.strconv_Itoa (n : Int) (by omega) (by omega) w g.tabIs).mono ?_
  rintro e w' ⟨rfl, k, os, rfl⟩
  refine ⟨_, rfl, below_grow w k os, ?_, ext_below (below_grow w k os)⟩
  unfold Lib.itoa
  rw [if_neg (by omega), Int.toNat_natCast, dec_lib]
theorem parse_num : ∀ (l : List UInt8) (acc : Nat), (∀ c ∈ l, isDg c) → l.foldl (fun n c => 10 * n + (c.toNat - 48)) acc < 1844674407370955162 → Lib.parseUint10 acc l = .ok (l.foldl (fun n c => 10 * n + (c.toNat - 48)) acc)
  | [], acc, _, _ => rfl
  | c :: r, acc, h, hb => by
    have hc := h c (by simp)
    unfold isDg at hc
    have mono : ∀ (l : List UInt8) (a : Nat), a ≤ l.foldl (fun n c => 10 * n + (c.toNat - 48)) a := by
      intro l
      induction l with
      | nil => intro a; exact Nat.le_refl _
      | cons x t ih => intro a; exact Nat.le_trans (show a ≤ 10 * a + (x.toNat - 48) by omega) (ih _)
    simp only [List.foldl_cons] at hb ⊢
    have h1 := mono r (10 * acc + (c.toNat - 48))
    unfold Lib.parseUint10
    rw [if_pos hc, if_neg (by omega), if_neg (by omega)]
    have e : acc * 10 + (c.toNat - 48) = 10 * acc + (c.toNat - 48) := by omega
    rw [e]
    exact parse_num r _ (fun x hx => h x (by simp [hx])) hb
theorem atoi_dec {n : Nat} (hn : n ≤ 2147483647) : Lib.atoiAll (dec n) = .ok (n : Int) := by
  have hne := dec_ne n
  have hd : ∀ c ∈ dec n, isDg c := fun c => dec_dg
  have hnum := num_dec n
  cases hl : dec n with
  | nil => exact absurd hl hne
  | cons c r =>
    rw [hl] at hd hnum
    have hc := hd c (by simp)
    unfold isDg at hc
    unfold Lib.atoiAll
    simp only
    rw [if_neg (by omega)]
    unfold Lib.parseMag
    rw [if_neg (by simp), parse_num (c :: r) 0 hd (by show num (c :: r) < _; omega)]
    simp only
    rw [if_neg (by show ¬ (_ ∧ 9223372036854775808 ≤ num (c :: r)); omega), if_neg (by omega), if_neg (by omega)]
    show Lib.NumEnd.ok ((num (c :: r) : Nat) : Int) = _
    rw [hnum]
theorem atoi_in {l : List UInt8} {v : Int} (h : Lib.atoiAll l = .ok v) : inI v := by
  unfold Lib.atoiAll at h
  split at h
  · cases h
  · simp only at h
    split at h
    · cases h
    · cases h
    · rename_i u hu
      split at h
      · cases h
      · split at h
        · cases h
        · injection h with h
          subst h
          split <;> constructor <;> omega
theorem below_bytes (w : World) (E : TypeId) (t : ByteArray) : Below w.heap.size w (Lib.bytesWorld w E t) := by
  unfold Lib.bytesWorld
  refine Lib.below_freeze ((Below.refl _ w).drew.alloc (Nat.le_refl _) _) (Nat.le_refl _) _
theorem Atoi_ok {h : H} (g : GL h) (s : List UInt8) (hs : s.length ≤ 1048576) : Ok Tryd.prog 40 #[sv s] h fun v h' => (∃ (n : Int) (e : Value), v = .tuple #[.int .i64 n, e] ∧ inI n ∧ (e = .nilIface ∨ ∃ t p, e = .iface t p) ∧ ∀ m : Nat, m ≤ 2147483647 → s = dec m → n = m ∧ e = .nilIface) ∧ Ext h h' := by
  refine ok_below fun w hw => ?_
  subst hw
  have hsz : (⟨s.toArray⟩ : ByteArray).size = s.length := rfl
  have hds : (⟨s.toArray⟩ : ByteArray).data.toList = s := rfl
  by_cases hok : ∃ v, Lib.atoiAll s = .ok v
  · obtain ⟨v, ha⟩ := hok
    refine (Tryd.strconv_Atoi_ok ⟨s.toArray⟩ (by rw [hsz]; omega) v ha w).mono ?_
    rintro e w' ⟨rfl, hw⟩
    have hb : Below w.heap.size w w' := by
      rcases hw with rfl | ⟨t, rfl⟩
      · exact Below.refl _ _
      · exact below_bytes _ _ _
    refine ⟨_, rfl, hb, ⟨v, .nilIface, rfl, atoi_in ha, .inl rfl, fun m hm hsm => ?_⟩, ext_below hb⟩
    rw [hsm, atoi_dec hm] at ha
    injection ha with ha
    exact ⟨ha.symm, rfl⟩
  by_cases ha : Lib.atoiAll s = .range
  · obtain ⟨te, pe, hc⟩ := g.rng
    refine (Tryd.strconv_Atoi_range ⟨s.toArray⟩ (by rw [hsz]; omega) ha (.iface te pe) w ((cellAt_hp w _).symm.trans hc) (.inr ⟨te, pe, rfl⟩)).mono ?_
    rintro e w' ⟨N, rfl, h1, h2, hb⟩
    refine ⟨_, rfl, hb, ⟨_, _, rfl, ?_, .inr ⟨_, _, rfl⟩, fun m hm hsm => ?_⟩, ext_below hb⟩
    · unfold Lib.atoiSat; split <;> exact ⟨by omega, by omega⟩
    · rw [hsm, atoi_dec hm] at ha
      cases ha
  · obtain ⟨te, pe, hc⟩ := g.syn
    refine (Tryd.strconv_Atoi_syntax ⟨s.toArray⟩ (by rw [hsz]; omega) (fun v hv => hok ⟨v, hv⟩) ha (.iface te pe) w ((cellAt_hp w _).symm.trans hc) (.inr ⟨te, pe, rfl⟩)).mono ?_
    rintro e w' ⟨N, rfl, h1, h2, hb⟩
    refine ⟨_, rfl, hb, ⟨0, _, rfl, ⟨by omega, by omega⟩, .inr ⟨_, _, rfl⟩, fun m hm hsm => ?_⟩, ext_below hb⟩
    exact absurd ⟨_, by rw [hsm]; exact atoi_dec hm⟩ hok
end Go.Proofs.YtooimdgoibdhlaaDoor.sc
