/-
  Arguments opened, with the reach of each list in them.
-/
import Derived.Test.YtojhnclkhiffkaaK20
namespace Go.Proofs.Ytojhnclkhiffkaa
open Go.ChangeShapes Go.WideShapes Go.ChangeAt Go.RowKit
set_option linter.unusedVariables false
set_option linter.unusedSimpArgs false
/-- At least so many bytes. -/
def Ty.by : Ty → Nat
  | .int k => k.bits / 8
  | .byte => 1
  | .bool => 1
  | .str => 16
  | .flt => 8
  | .sl _ => 24
  | .pair a b => a.by + b.by
/-- No list in it is greater than the form's reach. -/
def Ty.fit : (t : Ty) → t.D → Prop
  | .sl t, xs => List.length xs * t.by ≤ 140737488351232 ∧ ∀ y ∈ xs, Ty.fit t y
  | .pair a b, x => Ty.fit a x.1 ∧ Ty.fit b x.2
  | .int _, _ => True
  | .byte, _ => True
  | .bool, _ => True
  | .str, _ => True
  | .flt, _ => True
mutual
def tyW (P : Program) : Nat → TypeId → Ty → Bool
  | 0, _, _ => false
  | n + 1, t, ty => match P.underlying t, ty with
    | some (.slice e), .sl ty => decide (ty.by ≤ P.bytesOf e) && tyW P n e ty
    | some (.struct fs), ty => tyWs P n fs.toList ty
    | _, _ => true
def tyWs (P : Program) : Nat → List Field → Ty → Bool
  | 0, _, _ => false
  | n + 1, [f], ty => tyW P n f.type ty
  | n + 1, f :: g :: r, .pair a b => tyW P n f.type a && tyWs P n (g :: r) b
  | _, _, _ => false
end
theorem wall {H' : Type} {P : Program} {e : TypeId} {d : DataW H'} : ∀ {l : List (DataW H')}, (DataW.weightsAll P e l).all (· ≤ reachBytes) = true → d ∈ l → (d.weights P e).all (· ≤ reachBytes) = true
  | [], _, h => by cases h
  | x :: r, ha, h => by
    unfold DataW.weightsAll at ha
    rw [List.all_append, Bool.and_eq_true] at ha
    rcases List.mem_cons.1 h with rfl | h
    · exact ha.1
    · exact wall ha.2 h
theorem weach {H' : Type} {P : Program} {d : DataW H'} {t : TypeId} : ∀ {ts : List TypeId} {l : List (DataW H')}, (DataW.weightsEach P ts l).all (· ≤ reachBytes) = true → ∀ (i : Nat), ts[i]? = some t → l[i]? = some d → (d.weights P t).all (· ≤ reachBytes) = true
  | [], _, _, i, h, _ => by simp at h
  | _ :: _, [], _, i, _, h => by simp at h
  | s :: ts, x :: r, ha, i, h1, h2 => by
    unfold DataW.weightsEach at ha
    rw [List.all_append, Bool.and_eq_true] at ha
    cases i with
    | zero =>
      simp only [List.getElem?_cons_zero, Option.some.injEq] at h1 h2
      subst h1 h2
      exact ha.1
    | succ i =>
      simp only [List.getElem?_cons_succ] at h1 h2
      exact weach ha.2 i h1 h2
section
variable {H' : Type} {enc : TypeId × Value → H'} {P : Program} {W : World}
theorem rep_all3 : ∀ n : Nat,
    (∀ (t : TypeId) (ty : Ty), tyB P n t ty = true → tyW P n t ty = true → ∀ (fuel : Nat) (cs : List Value) (x : DataW H' × List MemPlace), DataW.trod enc P W 0 (fun _ => true) true fuel t cs = some x → (x.1.weights P t).all (· ≤ reachBytes) = true → ∃ d : ty.D, Rep nos ty (hp W) cs d ∧ ty.fit d) ∧
    (∀ (o : Nat) (fs : List Field) (ty : Ty), tyBs P n o fs ty = true → tyWs P n fs ty = true → ∀ (fuel : Nat) (cs : List Value), (∀ f ∈ fs, ∃ y, DataW.trod enc P W 0 (fun _ => true) true fuel f.type ((cs.drop f.offset).take (P.cellsOf f.type)) = some y ∧ (y.1.weights P f.type).all (· ≤ reachBytes) = true) → ∃ d : ty.D, Rep nos ty (hp W) ((cs.drop o).take ty.sz) d ∧ ty.fit d) := by
  intro n
  induction n with
  | zero => exact ⟨fun t ty h => by simp [tyB] at h, fun o fs ty h => by simp [tyBs] at h⟩
  | succ n ih =>
    obtain ⟨ih1, ih2⟩ := ih
    refine ⟨?_, ?_⟩
    · intro t ty h hW fuel cs x hx hxB
      have hcell := rep_cells h
      simp only [tyB, Bool.and_eq_true] at h
      obtain ⟨-, h⟩ := h
      split at h
      · rename_i hu
        obtain ⟨m, rfl, _, hw⟩ := DataW.trod_int hu hx
        have hw' : (decide ((0 : Int) ≤ m) && decide (m ≤ 255)) = true := hw
        simp only [Bool.and_eq_true, decide_eq_true_eq] at hw'
        refine ⟨UInt8.ofNat m.toNat, ?_, trivial⟩
        show [_] = [_]
        congr 1
        simp only [bv, Value.int.injEq, true_and, UInt8.toNat_ofNat']
        omega
      · rename_i hu
        obtain ⟨m, rfl, _, hw⟩ := DataW.trod_int hu hx
        have h := of_decide_eq_true h
        subst h
        simp only [Lit.wf, Bool.and_eq_true, decide_eq_true_eq] at hw
        exact ⟨m, ⟨rfl, hw.1, hw.2⟩, trivial⟩
      · rename_i hu
        obtain ⟨b, rfl, _⟩ := DataW.trod_bool hu hx
        exact ⟨b, rfl, trivial⟩
      · rename_i hu
        obtain ⟨s, rfl, _, hs⟩ := DataW.trod_string hu hx
        refine ⟨s.data.toList, ⟨?_, ?_⟩, trivial⟩
        · rw [← bytes_of]
        · rw [Array.length_toList]; exact hs
      · rename_i hu
        obtain ⟨b, rfl, hw⟩ := trod_f64 hu hx
        exact ⟨b, ⟨rfl, hw⟩, trivial⟩
      · rename_i e ty' hu
        rcases DataW.trod_slice hu hx with ⟨rfl, _⟩ | ⟨a, len, cap, elems, rest, m, _, rfl, hxe, hb, hl, hm, hlen, hel, hsp, _⟩
        · exact ⟨[], ⟨.slice none 0 0, [], rfl, ⟨fun r hr => by simp at hr, .inl ⟨_, rfl, rfl⟩⟩, rfl, fun i r x hr => by simp at hr⟩, by simp [Ty.fit]⟩
        · have hce := rep_cells h
          obtain ⟨hrl, hr⟩ := hsp rfl
          simp only [tyW, hu, Bool.and_eq_true, decide_eq_true_eq] at hW
          obtain ⟨hW1, hW⟩ := hW
          rw [hxe] at hxB
          unfold DataW.weights at hxB
          rw [hu] at hxB
          simp only [List.all_cons, Bool.and_eq_true, decide_eq_true_eq, List.length_map, List.all_append] at hxB
          obtain ⟨hb1, hb2, hb3⟩ := hxB
          have each : ∀ i, i < cap → ∃ row, W.cells? 0 (a.add (i * ty'.sz)) ty'.sz = some row ∧ ∃ d, Rep nos ty' (hp W) row d ∧ ty'.fit d := by
            intro i hi
            have hb' : ∃ y, (W.cells? 0 (a.add (i * P.cellsOf e)) (P.cellsOf e)).bind (DataW.trod enc P W 0 (fun _ => true) true m e) = some y ∧ (y.1.weights P e).all (· ≤ reachBytes) = true := by
              by_cases hil : i < len
              · exact ⟨elems[i], by rw [hel i hil]; simp [hlen, hil], wall hb2 (List.mem_map_of_mem (List.getElem_mem _))⟩
              · refine ⟨rest[i - len]'(by omega), ?_, wall hb3 (List.mem_map_of_mem (List.getElem_mem _))⟩
                have := hr (i - len) (by omega)
                rw [show len + (i - len) = i by omega] at this
                rw [this]; simp
            obtain ⟨y, hy, hyB⟩ := hb'
            rw [Option.bind_eq_some_iff, hce] at hy
            obtain ⟨row, h1, h2⟩ := hy
            exact ⟨row, h1, ih1 e ty' h hW m row y h2 hyB⟩
          have hrow : ∀ i, ∃ row : List Value, i < cap → W.cells? 0 (a.add (i * ty'.sz)) ty'.sz = some row ∧ ∃ d, Rep nos ty' (hp W) row d ∧ ty'.fit d := by
            intro i
            by_cases hi : i < cap
            · obtain ⟨row, hr⟩ := each i hi
              exact ⟨row, fun _ => hr⟩
            · exact ⟨[], fun h => absurd h hi⟩
          obtain ⟨rowf, hrf⟩ := Classical.axiomOfChoice hrow
          have hdf' : ∀ i, ∃ d : ty'.D, i < cap → Rep nos ty' (hp W) (rowf i) d ∧ ty'.fit d := by
            intro i
            by_cases hi : i < cap
            · obtain ⟨_, d, hd⟩ := hrf i hi
              exact ⟨d, fun _ => hd⟩
            · by_cases hc0 : 0 < cap
              · obtain ⟨_, d, hd⟩ := hrf 0 hc0
                exact ⟨d, fun h => absurd h hi⟩
              · exact ⟨Classical.choice (by
                  have : ∀ t : Ty, Nonempty t.D := by
                    intro t
                    induction t with
                    | int k => exact ⟨(0 : Int)⟩
                    | byte => exact ⟨(0 : UInt8)⟩
                    | bool => exact ⟨false⟩
                    | str => exact ⟨[]⟩
                    | flt => exact ⟨(0 : Nat)⟩
                    | sl t _ => exact ⟨[]⟩
                    | pair a b iha ihb => exact iha.elim fun x => ihb.elim fun y => ⟨(x, y)⟩
                  exact this ty'), fun h => absurd h hi⟩
          obtain ⟨df, hdf⟩ := Classical.axiomOfChoice hdf'
          have hrows : ((List.range cap).map rowf).length = cap := by simp
          have hs := slk_of (W := W) (k := ty'.sz) (a := a) (len := len) (cap := cap) (rows := (List.range cap).map rowf) ty'.sz_pos hl (by simp) (fun r hr => by
            obtain ⟨i, hi, rfl⟩ := List.mem_map.1 hr
            exact (cellsOk (hrf i (List.mem_range.1 hi)).1).1) (fun i hi j hj => by
            simp at hi
            simp only [List.getElem_map, List.getElem_range] at hj ⊢
            rw [← (cellsOk (hrf i hi).1).2 j hj]
            congr 1
            rw [add_add'])
          refine ⟨(List.range len).map df, ⟨.slice (some a) len cap, _, rfl, hs, by simp; omega, ?_⟩, ?_, ?_⟩
          rotate_left
          · have h4 : reachBytes = 140737488351232 := rfl
            have h5 : ((List.range len).map df).length * ty'.by ≤ (elems.length + rest.length) * P.bytesOf e := Nat.mul_le_mul (by simp; omega) hW1
            omega
          · intro y hy
            obtain ⟨i, hi, rfl⟩ := List.mem_map.1 hy
            exact (hdf i (by have := List.mem_range.1 hi; omega)).2
          intro i r x hr hx
          rw [List.getElem?_take] at hr
          split at hr
          · rename_i hil
            rw [List.getElem?_map, List.getElem?_range (by omega)] at hr hx
            simp only [Option.map_some, Option.some.injEq] at hr hx
            subst hr hx
            exact (hdf i (by omega)).1
          · cases hr
      · rename_i fs hu
        obtain ⟨xs, m, _, hxe, hl, hlen, hf⟩ := DataW.trod_struct hu hx
        have hW' := hW
        simp only [tyW, hu] at hW'
        rw [hxe] at hxB
        unfold DataW.weights at hxB
        rw [hu] at hxB
        simp only [] at hxB
        obtain ⟨d, hd, hdl⟩ := ih2 0 fs.toList _ h hW' m cs (fun f hmem => by
          obtain ⟨i, hi⟩ := List.getElem?_of_mem hmem
          have hi' := hi
          rw [Array.getElem?_toList] at hi
          have h1 := hf i f hi
          have hlt : i < fs.size := (Array.getElem?_eq_some_iff.1 hi).1
          exact ⟨xs[i], by rw [h1]; simp [hlen, hlt], weach hxB i (by simp [hi']) (by simp [hlen, hlt])⟩)
        refine ⟨d, ?_, hdl⟩
        rw [List.drop_zero, List.take_of_length_le (by omega)] at hd
        exact hd
      · cases h
    · intro o fs ty h hW fuel cs hcs
      unfold tyBs at h
      split at h
      · cases h
      · rename_i n' f heq
        obtain rfl := Nat.succ.inj heq
        simp only [Bool.and_eq_true, beq_iff_eq] at h
        obtain ⟨⟨h1, h2⟩, h3⟩ := h
        obtain ⟨y, hy, hyB⟩ := hcs f (by simp)
        rw [h1, h2] at hy
        exact ih1 _ _ h3 (by simpa only [tyWs] using hW) fuel _ _ hy hyB
      · rename_i n' f r a b hne heq
        obtain rfl := Nat.succ.inj heq
        simp only [Bool.and_eq_true, beq_iff_eq] at h
        obtain ⟨⟨⟨h1, h2⟩, h3⟩, h4⟩ := h
        obtain ⟨y, hy, hyB⟩ := hcs f (by simp)
        rw [h1, h2] at hy
        have hW2 : tyW P n f.type a = true ∧ tyWs P n r b = true := by
          cases r with
          | nil => simp at hne
          | cons g r => simpa only [tyWs, Bool.and_eq_true] using hW
        obtain ⟨d1, hd1, hl1⟩ := ih1 _ _ h3 hW2.1 fuel _ _ hy hyB
        obtain ⟨d2, hd2, hl2⟩ := ih2 _ _ _ h4 hW2.2 fuel cs (fun g hg => hcs g (by simp [hg]))
        refine ⟨(d1, d2), ⟨_, _, ?_, hd1, hd2⟩, hl1, hl2⟩
        show List.take (a.sz + b.sz) _ = _
        rw [List.take_add, List.drop_drop]
      · cases h


theorem rep_open3 {n : Nat} {t : TypeId} (ty : Ty) {v : Value} {d : DataW H'} {p : List MemPlace} (ht : tyB P n t ty = true) (hW : tyW P n t ty = true) (h : DataW.Trod enc P W 0 (fun _ => true) true t v d p) (hB : (d.weights P t).all (· ≤ reachBytes) = true) : ∃ x : ty.D, Rep nos ty (hp W) v.cells.toList x ∧ ty.fit x := by
  obtain ⟨fuel, h⟩ := h
  exact (rep_all3 n).1 t ty ht hW fuel _ _ h hB
theorem arg_sl3 {t e : TypeId} {n base : Nat} {v : Value} {d : DataW H'} {p : List MemPlace} (ty : Ty) (ht : P.underlying t = some (.slice e)) (hB : tyB P n t (.sl ty) = true) (hW : tyW P n t (.sl ty) = true) (hval : Value.okWide P W .any base t v) (h : DataW.Trod enc P W 0 (fun _ => true) true t v d p) (hbd : (d.weights P t).all (· ≤ reachBytes) = true) : ∃ xs : List ty.D, RepL nos ty (hp W) v xs ∧ Ty.fit (.sl ty) xs := by
  obtain ⟨a, l, c, rfl⟩ := okWide_slice ht hval
  exact rep_open3 (.sl ty) hB hW h hbd
theorem arg_st3 {fs : Array Field} {t : TypeId} {n base : Nat} {v : Value} {d : DataW H'} {p : List MemPlace} (ty : Ty) (ht : P.underlying t = some (.struct fs)) (hB : tyB P n t ty = true) (hW : tyW P n t ty = true) (hval : Value.okWide P W .any base t v) (h : DataW.Trod enc P W 0 (fun _ => true) true t v d p) (hbd : (d.weights P t).all (· ≤ reachBytes) = true) : ∃ (cs : List Value) (x : ty.D), v = .agg cs.toArray ∧ Rep nos ty (hp W) cs x ∧ ty.fit x := by
  unfold Value.okWide at hval
  rw [ht] at hval
  obtain ⟨cs, rfl, _⟩ := hval
  obtain ⟨x, hx, hf⟩ := rep_open3 ty hB hW h hbd
  exact ⟨cs.toList, x, by simp, hx, hf⟩
end
end Go.Proofs.Ytojhnclkhiffkaa
