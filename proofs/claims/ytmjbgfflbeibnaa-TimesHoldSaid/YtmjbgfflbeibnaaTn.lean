/-
  times: plain laws for TimesHold.
-/
import Derived.Test.YtmjbgfflbeibnaaTl
namespace Go.Proofs.Ytmjbgfflbeibnaa.ti
open Go.Proofs.Ytmjbgfflbeibnaa wi
set_option linter.unusedVariables false
set_option linter.unusedSimpArgs false
/-- The first record that is not older, from a place on. -/
def hitB (t : Int) (r : rc.D) : Bool := decide (@LE.le Int _ t r.1)
def fiP (t : Int) (rs : List rc.D) (m : Nat) : Int := match (rs.drop m).findIdx? (hitB t) with | none => -1 | some j => (m : Int) + j
theorem fi_step {t : Int} {rs : List rc.D} {m : Nat} (hm : m < rs.length) : fiP t rs m = if @LE.le Int _ t rs[m].1 then (m : Int) else fiP t rs (m + 1) := by
  unfold fiP
  rw [List.drop_eq_getElem_cons hm, List.findIdx?_cons]
  by_cases h : @LE.le Int _ t rs[m].1
  · have hb : hitB t rs[m] = true := by simp [hitB, h]
    rw [if_pos h, hb]
    simp
  · have hb : hitB t rs[m] = false := by simp [hitB, h]
    rw [if_neg h, hb]
    cases hc : (rs.drop (m + 1)).findIdx? (hitB t) with
    | none => simp
    | some j => simp; omega
theorem fi_end {t : Int} {rs : List rc.D} : fiP t rs rs.length = -1 := by simp [fiP]
theorem fi_ge {t : Int} {rs : List rc.D} (m : Nat) : -1 ≤ fiP t rs m ∧ fiP t rs m < rs.length + 1 ∨ False := by
  left
  unfold fiP
  cases hc : (rs.drop m).findIdx? (hitB t) with
  | none => simp only []; omega
  | some j =>
    have hj := (List.findIdx?_eq_some_iff_getElem.1 hc).1
    rw [List.length_drop] at hj
    simp only []; omega
theorem find_rises {t : Int} : ∀ (rs : List rc.D) (top off : Int), top < t → findP (risesP top off rs) t = match rs.findIdx? (hitB t) with | none => (0, false) | some j => (off + j, true)
  | [], top, off, h => by simp [risesP, findP]
  | x :: r, top, off, h => by
    rw [risesP, List.findIdx?_cons]
    by_cases hx : @LE.le Int _ t x.1
    · have hb : hitB t x = true := by simp [hitB, hx]
      rw [hb, if_pos (by omega)]
      simp [findP, hx]
    · have hb : hitB t x = false := by simp [hitB, hx]
      rw [hb]
      simp only [Bool.false_eq_true, if_false]
      have key : ∀ top', top' < t → findP (risesP top' (off + 1) r) t = match Option.map (fun i => i + 1) (r.findIdx? (hitB t)) with | none => (0, false) | some j => (off + (j : Nat), true) := fun top' ht => by
        rw [find_rises r top' (off + 1) ht]
        cases hc : r.findIdx? (hitB t) with
        | none => simp
        | some j => simp; omega
      split
      · have h2 := key x.1 (by omega)
        rw [← h2]
        simp [findP, hx]
      · exact key top h
theorem find_out {t base : Int} {rs : List rc.D} (hm : rs.all may = true) : findP (outP [] base rs) t = if 0 ≤ fiP t rs 0 then (base + fiP t rs 0, true) else (0, false) := by
  have hout : outP [] base rs = risesP (-1) base rs := rfl
  rw [hout]
  by_cases ht : (-1 : Int) < t
  · rw [find_rises rs (-1) base ht, fiP, List.drop_zero]
    cases hc : rs.findIdx? (hitB t) with
    | none => simp
    | some j => simp
  · cases rs with
    | nil => simp [risesP, findP, fiP]
    | cons x r =>
      have hx := (may_t (List.all_eq_true.1 hm x List.mem_cons_self)).1
      have hb : hitB t x = true := by simp [hitB]; omega
      have hf : fiP t (x :: r) 0 = 0 := by rw [fiP, List.drop_zero, List.findIdx?_cons, hb]; rfl
      have h2 : @LT.lt Int _ (-1) x.1 := by omega
      have h3 : @LE.le Int _ t x.1 := by omega
      rw [hf, risesP, if_pos h2, if_pos (Int.le_refl _), findP, List.find?_cons_of_pos (by simpa using h3)]
      simp
section
variable {b e : Int} {l : List Ri}
theorem until_at (h : WF b e l) {k : Nat} (hk : k < l.length) : untilP l l[k].1 = (l[k].2, true) := by
  have hF : IsFirst (fun r => decide (l[k].1 < r.1)) l (k + 1) := ⟨by omega, fun i hi hik => by
    have := srt2 h hi hk (by omega)
    simp; omega, fun i hi hik => by
    have := List.pairwise_iff_getElem.1 h.srt k i hk hi (by omega)
    simp; omega⟩
  have h1 := take_first hF
  have h2 : l.filter (fun r => decide (r.1 ≤ l[k].1)) = l.take (k + 1) := by
    rw [← h1]
    congr 1
    funext r
    by_cases h : r.1 ≤ l[k].1
    · simp [h, show ¬ l[k].1 < r.1 by omega]
    · simp [h, show l[k].1 < r.1 by omega]
  rw [untilP, h2, List.getLast?_eq_getElem?, List.length_take, Nat.min_eq_left (by omega), List.getElem?_take, if_pos (by omega)]
  simp [hk]
theorem until_before (h : WF b e l) {k : Nat} (hk : k < l.length) : untilP l (l[k].1 - 1) = if h0 : 0 < k then ((l[k - 1]'(by omega)).2, true) else (0, false) := by
  have hF : IsFirst (fun r => decide (l[k].1 ≤ r.1)) l k := ⟨by omega, fun i hi hik => by
    have := List.pairwise_iff_getElem.1 h.srt i k hi hk hik
    simp; omega, fun i hi hik => by
    have := srt2 h hk hi hik
    simp; omega⟩
  have h1 := take_first hF
  have h2 : l.filter (fun r => decide (r.1 ≤ l[k].1 - 1)) = l.take k := by
    rw [← h1]
    congr 1
    funext r
    by_cases h : l[k].1 ≤ r.1
    · simp [h, show ¬ r.1 ≤ l[k].1 - 1 by omega]
    · simp [h, show r.1 ≤ l[k].1 - 1 by omega]
  rw [untilP, h2, List.getLast?_eq_getElem?, List.length_take, Nat.min_eq_left (by omega)]
  by_cases h0 : 0 < k
  · rw [dif_pos h0, List.getElem?_take, if_pos (by omega), List.getElem?_eq_getElem (by omega)]
  · rw [dif_neg h0]
    have : k = 0 := by omega
    subst this
    simp
/-- What Find tells, and Until of it. -/
theorem find_until (h : WF b e l) {t o : Int} (hf : findP l t = (o, true)) : (∃ u, untilP l o = (u, true) ∧ t ≤ u) ∧ ((untilP l (o - 1)).2 = true → (untilP l (o - 1)).1 < t) := by
  unfold findP at hf
  cases hc : l.find? (fun r => decide (t ≤ r.2)) with
  | none => rw [hc] at hf; simp at hf
  | some r =>
    rw [hc] at hf
    simp only [Prod.mk.injEq, and_true] at hf
    obtain ⟨h1, k, hk, rfl, h2⟩ := List.find?_eq_some_iff_getElem.1 hc
    subst hf
    refine ⟨⟨_, until_at h hk, by simpa using h1⟩, ?_⟩
    rw [until_before h hk]
    by_cases h0 : 0 < k
    · rw [dif_pos h0]
      intro _
      have := h2 (k - 1) (by omega)
      simp only [Bool.not_eq_true', decide_eq_false_iff_not] at this
      simp only []; omega
    · rw [dif_neg h0]
      intro h; cases h
end
theorem filter_rises {T : Int} : ∀ (rs : List rc.D) (top off : Int), top ≤ T → (risesP top off rs).filter (fun r => decide (T < r.2)) = risesP T off rs
  | [], _, _, _ => by simp [risesP]
  | x :: r, top, off, h => by
    rw [risesP]
    by_cases h1 : @LT.lt Int _ top x.1
    · rw [if_pos h1]
      by_cases h2 : @LT.lt Int _ T x.1
      · rw [List.filter_cons_of_pos (by simpa using h2)]
        have h3 : (risesP x.1 (off + 1) r).filter (fun s => decide (T < s.2)) = risesP x.1 (off + 1) r := List.filter_eq_self.2 fun s hs => by
          have := (rises_rng hs).2.2.1
          simp; omega
        rw [h3, risesP, if_pos h2]
      · rw [List.filter_cons_of_neg (by simpa using h2), filter_rises r x.1 (off + 1) (by omega), risesP, if_neg h2]
    · rw [if_neg h1, filter_rises r top (off + 1) h, risesP, if_neg (by omega)]
theorem topP_ge {b e : Int} {l : List Ri} (h : WF b e l) : -1 ≤ topP l := by
  by_cases h0 : 0 < l.length
  · rw [topP_last h0]
    have := h.rng _ (List.getElem_mem (l := l) (n := l.length - 1) (by omega))
    omega
  · have : l = [] := List.length_eq_zero_iff.1 (by omega)
    subst this
    exact Int.le_refl _
theorem join_out {base : Int} (a c : List rc.D) (h : -1 ≤ topP (outP [] base a)) : joinP (outP [] base a) (outP [] (base + a.length) c) = outP [] base (a ++ c) := by
  have h1 : outP [] (base + a.length) c = risesP (-1) (base + a.length) c := rfl
  rw [joinP, h1, filter_rises c (-1) _ h, ← out_two]
  rfl
/-- A beginning of an index's bytes is torn. -/
theorem open_torn {b e : Int} {l : List Ri} (hl : l.length ≤ 65536) {m : Nat} (hm : m < (bytesP b e l).length) : openE ((bytesP b e l).take m) = 111 := by
  have hn := bytes_len b e l
  have hlt : ((bytesP b e l).take m).length = m := by rw [List.length_take]; omega
  by_cases h20 : m < 20
  · rw [openE, if_pos (by omega)]
  · have hc : oCnt ((bytesP b e l).take m) = l.length := by
      have := back_cnt (b := b) (e := e) hl
      unfold oCnt at this ⊢
      rw [List.drop_take, List.take_take, Nat.min_eq_left (by omega)]
      exact this
    exact oe2 (by omega) (by rw [hc, hlt]; omega)
end Go.Proofs.Ytmjbgfflbeibnaa.ti
