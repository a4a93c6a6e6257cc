/-
  Lines joined and split; digits looked up.
-/
import Derived.Test.YtooimdgoibdhlaaDoorPg
namespace Go.Proofs.YtooimdgoibdhlaaDoor.sc
open Go Go.Proofs.YtooimdgoibdhlaaDoor Go.RowKit
set_option linter.unusedVariables false
set_option linter.unusedSimpArgs false
theorem jn_lib : ∀ ws : List (List UInt8), Lib.join ws [32] = jn ws
  | [] => rfl
  | [w] => by simp [Lib.join_one, jn]
  | w :: x :: t => by
    rw [Lib.join_cons, jn_cons w (by simp), ← jn_lib (x :: t), Lib.join_cons]
    simp [Lib.joinTail]
theorem Join_ok {S : Nat → Prop} {h : H} {v : Value} {ws : List (List UInt8)} (hv : S1 S h v (ws.map sv)) (hn : ws.length ≤ 140737488355328) (hl : (jn ws).length ≤ 140737488355328) : Ok Tryd.prog 36 #[v, sv [32]] h fun v h' => v = sv (jn ws) ∧ Ext h h' := by
  refine ok_below fun w hw => ?_
  subst hw
  obtain ⟨_, ⟨a, rfl, h2⟩ | ⟨b, o, cp, c, E, fr, h1, h2, h3, h4, h5, _⟩⟩ := hv
  · have : ws = [] := by cases ws <;> simp [one] at h2 ⊢
    subst this
    refine (Tryd.strings_Join_none a 0 ⟨#[32]⟩ w).mono ?_
    rintro e w' ⟨rfl, rfl⟩
    exact ⟨_, rfl, Below.refl _ _, rfl, Ext.refl _⟩
  · rw [one_len, List.length_map] at h1 h4
    rw [flat_one] at h5
    subst h1
    have hw2 : w.heap[b]? = some (.cells c E fr) := hid_some h2
    have e1 : (ws.map fun x => (⟨x.toArray⟩ : ByteArray)).map (·.data.toList) = ws := by
      rw [List.map_map]; exact (List.map_congr_left fun x _ => rfl).trans (List.map_id ws)
    have hj : Lib.join ((ws.map fun x => (⟨x.toArray⟩ : ByteArray)).map (·.data.toList)) (⟨#[32]⟩ : ByteArray).data.toList = jn ws := by rw [e1]; exact jn_lib ws
    have k := Tryd.strings_Join b o cp (ws.map fun x => ⟨x.toArray⟩) ⟨#[32]⟩ w (fun j x hj => by
      rw [List.getElem?_map, Option.map_eq_some_iff] at hj
      obtain ⟨y, hy, rfl⟩ := hj
      have hjl := (List.getElem?_eq_some_iff.1 hy).1
      rw [← cellAt_hp, cellAt_of h2, h5 j (by rw [List.length_map]; exact hjl)]
      have := (List.getElem?_eq_some_iff.1 hy).2
      simp [this]) (Array.getElem?_eq_some_iff.1 hw2).1 (by rw [List.length_map]; exact hn) (by rw [List.length_map]; exact h4) (by rw [hj]; exact hl)
    rw [List.length_map, hj] at k
    refine k.mono ?_
    rintro e w' ⟨rfl, hb⟩
    exact ⟨_, rfl, hb, rfl, ext_below hb⟩

/-! ### Split -/
theorem idx_spec : ∀ (s : List UInt8), (Lib.index s [32] = -1 ∧ noB s) ∨ ∃ i : Nat, Lib.index s [32] = (i : Int) ∧ i < s.length ∧ noB (s.take i) ∧ s = s.take i ++ 32 :: s.drop (i + 1)
  | [] => .inl ⟨rfl, fun c hc => by simp at hc⟩
  | b :: l => by
    unfold Lib.index
    by_cases hb : b = 32
    · subst hb
      exact .inr ⟨0, by simp, by simp, fun c hc => by simp at hc, by simp⟩
    · have h1 : ([32] : List UInt8).isPrefixOf (b :: l) = false := by
        simp only [List.isPrefixOf, Bool.and_true, beq_eq_false_iff_ne]; exact fun h => hb h.symm
      have hb' : b.toNat ≠ 32 := fun h => hb (UInt8.toNat_inj.1 h)
      rw [h1]
      simp only [Bool.false_eq_true, if_false]
      rcases idx_spec l with ⟨h2, h3⟩ | ⟨i, h2, h3, h4, h5⟩
      · rw [h2]
        refine .inl ⟨rfl, fun c hc => ?_⟩
        rcases List.mem_cons.1 hc with rfl | hc
        · exact hb'
        · exact h3 c hc
      · rw [h2, if_neg (by simp <;> omega)]
        refine .inr ⟨i + 1, by omega, by simp <;> omega, fun c hc => ?_, ?_⟩
        · rw [List.take_succ_cons] at hc
          rcases List.mem_cons.1 hc with rfl | hc
          · exact hb'
          · exact h4 c hc
        · rw [List.take_succ_cons, List.drop_succ_cons, List.cons_append, ← h5]
theorem cnt_noB {s : List UInt8} (h : noB s) : cnt 32 s = 0 := by
  unfold cnt
  rw [List.countP_eq_zero]
  intro a ha
  have := h a ha
  simpa using this
theorem split_wds : ∀ (k : Nat) (s : List UInt8), cnt 32 s ≤ k → Lib.splitB ⟨#[32]⟩ 0 k ⟨s.toArray⟩ = (wds s).map fun w => ⟨w.toArray⟩
  | k, s, hk => by
    have hds : Lib.indexB ⟨s.toArray⟩ ⟨#[32]⟩ = Lib.index s [32] := rfl
    rcases idx_spec s with ⟨h1, h2⟩ | ⟨i, h1, h2, h3, h4⟩
    · rw [Lib.splitB_miss _ _ _ _ (hds.trans h1), wds_word s h2, List.map_singleton]
    · have hc : cnt 32 s = 1 + cnt 32 (s.drop (i + 1)) := by
        conv => lhs; rw [h4]
        have := cnt_noB h3
        unfold cnt at this ⊢
        rw [List.countP_append, this, List.countP_cons_of_pos (by decide)]; omega
      cases k with
      | zero => omega
      | succ k =>
        rw [Lib.splitB_hit _ _ _ _ i (hds.trans h1)]
        have hw : wds s = s.take i :: wds (s.drop (i + 1)) := by
          conv => lhs; rw [h4]
          exact wds_blank _ _ h3
        have e1 : (⟨s.toArray⟩ : ByteArray).extract 0 (i + 0) = ⟨(s.take i).toArray⟩ := by rw [ext_mk]; rfl
        have e2 : (⟨s.toArray⟩ : ByteArray).extract (i + (⟨#[32]⟩ : ByteArray).size) (⟨s.toArray⟩ : ByteArray).size = ⟨(s.drop (i + 1)).toArray⟩ := by
          rw [ext_mk]
          show (⟨((s.take s.length).drop (i + 1)).toArray⟩ : ByteArray) = _
          rw [List.take_length]
        rw [e1, e2, split_wds k (s.drop (i + 1)) (by omega), hw]; rfl
theorem cnt_lib (s : List UInt8) : Lib.countB ⟨s.toArray⟩ ⟨#[32]⟩ = cnt 32 s := by
  have h1 : Lib.countB ⟨s.toArray⟩ ⟨#[32]⟩ = Lib.count s [32] := rfl
  rw [h1, Lib.count_one]
  unfold cnt List.count
  refine congrArg (fun p => List.countP p s) (funext fun x => ?_)
  by_cases hx : x = 32
  · subst hx; rfl
  · have : x.toNat ≠ 32 := fun h => hx (UInt8.toNat_inj.1 h)
    rw [beq_eq_false_iff_ne.2 hx, beq_eq_false_iff_ne.2 this]
theorem Split_ok {h : H} (g : GL h) (s : List UInt8) (hl : s.length ≤ 1048576) : Ok Tryd.prog 37 #[sv s, sv [32]] h fun v h' => O1 (fun y => h y = none) h' 9 v ((wds s).map sv) ∧ Ext h h' := by
  refine ok_below fun w hw => ?_
  subst hw
  obtain ⟨m, hm⟩ := g.mx
  refine (Tryd.strings_Split ⟨s.toArray⟩ ⟨#[32]⟩ m w (by show s.length < _; omega) ((cellAt_hp w _).symm.trans hm) (by decide)).mono ?_
  rintro e w' ⟨rfl, rfl⟩
  have hb : ∀ o, Below w.heap.size w (w.alloc o) := fun o => (Below.refl _ w).alloc (Nat.le_refl _) o
  refine ⟨_, rfl, hb _, ?_, ext_below (hb _)⟩
  rw [cnt_lib, split_wds _ _ (Nat.le_refl _), List.map_map]
  have hh : hp (w.alloc (.cells ((wds s).map (Value.string ∘ fun w => ⟨w.toArray⟩)).toArray 9)) = hupd (hp w) w.heap.size (.cells ((wds s).map sv).toArray 9) := by
    funext x
    show hid (w.alloc _).heap[x]? = _
    unfold hupd
    by_cases hx : x = w.heap.size
    · subst hx
      rw [if_pos rfl]
      show hid ((w.heap.push _)[w.heap.size]?) = _
      simp [hid]
    · rw [if_neg hx, alloc_old w _ hx]; rfl
  rw [hh]
  exact olit1 ((wds s).map sv) (by rw [List.length_map, wds_len]) (hp_new w)
theorem ib_dec : ∀ c : Fin 256, Lib.indexByte sixteen (UInt8.ofNat c.val) = if hd (UInt8.ofNat c.val) < 16 then (hd (UInt8.ofNat c.val) : Int) else -1 := by decide +kernel
theorem ib_hd (c : UInt8) : Lib.indexByte sixteen c = dgI c := by
  have := ib_dec ⟨c.toNat, c.toNat_lt⟩
  simpa [dgI] using this
theorem IB_ok (h : H) (c : UInt8) : Ok Tryd.prog 68 #[sv sixteen, .int .u8 (c.toNat : Int)] h fun v h' => v = .int .i64 (dgI c) ∧ h = h' := by
  refine ok_below fun w hw => ?_
  subst hw
  refine (Tryd.strings_IndexByte ⟨sixteen.toArray⟩ (c.toNat : Int) w).mono ?_
  rintro e w' ⟨rfl, rfl⟩
  refine ⟨_, rfl, Below.refl _ _, ?_, rfl⟩
  rw [← ib_hd]
  simp
end Go.Proofs.YtooimdgoibdhlaaDoor.sc
