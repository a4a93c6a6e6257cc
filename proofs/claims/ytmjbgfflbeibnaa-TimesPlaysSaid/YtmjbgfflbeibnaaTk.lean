/-
  times: plain laws: bytes there and back; records put in two goes.
-/
import Derived.Test.YtmjbgfflbeibnaaTj
namespace Go.Proofs.Ytmjbgfflbeibnaa.ti
open Go.Proofs.Ytmjbgfflbeibnaa wi
set_option linter.unusedVariables false
set_option linter.unusedSimpArgs false
/-! ### Bytes, there and back -/
theorem drop_l {α : Type} {a b : List α} {n : Nat} (h : a.length = n) : (a ++ b).drop n = b := by subst h; exact List.drop_left
theorem take_l {α : Type} {a b : List α} {n : Nat} (h : a.length = n) : (a ++ b).take n = a := by subst h; exact List.take_left
theorem sgn_bits {x : Int} (h : inI x) : sgn64 (bits64 x) = x := by
  unfold inI at h
  unfold sgn64 bits64
  split <;> omega
theorem num8 (x : Int) : num (low 8 (bits64 x)) = bits64 x := by
  rw [num_low, Nat.mod_eq_of_lt]
  have := bits64_lt x
  exact this
theorem flat_drop16 (l : List Ri) (i : Nat) : (l.flatMap rB).drop (16 * i) = (l.drop i).flatMap rB := by
  induction i generalizing l with
  | zero => simp
  | succ i ih =>
    cases l with
    | nil => simp
    | cons r t =>
      rw [List.drop_succ_cons, ← ih, List.flatMap_cons, show 16 * (i + 1) = 16 + 16 * i by omega, ← List.drop_drop, drop_l (rB_len r)]
theorem bytes_len (b e : Int) (l : List Ri) : (bytesP b e l).length = 20 + 16 * l.length := by rw [bytesP, List.length_append, headB_len, flat_rB]
section
variable {b e : Int} {l : List Ri}
theorem back_base (hb : inI b) : oBase (bytesP b e l) = b := by
  have h : ((bytesP b e l).drop 0).take 8 = low 8 (bits64 b) := by
    rw [List.drop_zero, bytesP, headB, List.append_assoc, List.append_assoc, take_l (low_len _ _)]
  rw [oBase, h, num8, sgn_bits hb]
theorem back_end (he : inI e) : oEnd (bytesP b e l) = e := by
  have h : ((bytesP b e l).drop 8).take 8 = low 8 (bits64 e) := by
    rw [bytesP, headB, List.append_assoc, List.append_assoc, drop_l (low_len _ _), take_l (low_len _ _)]
  rw [oEnd, h, num8, sgn_bits he]
theorem back_cnt (hl : l.length ≤ 65536) : oCnt (bytesP b e l) = l.length := by
  have h : ((bytesP b e l).drop 16).take 4 = low 4 l.length := by
    rw [bytesP, headB, List.append_assoc, drop_l (by simp [low_len]), take_l (low_len _ _)]
  rw [oCnt, h, num_low, Nat.mod_eq_of_lt (by omega)]
theorem back_rise {i : Nat} (hi : i < l.length) (h1 : inI l[i].1) (h2 : inI l[i].2) : oRise (bytesP b e l) i = l[i] := by
  have hd : ∀ k, (bytesP b e l).drop (20 + 16 * i + k) = (rB l[i] ++ (l.drop (i + 1)).flatMap rB).drop k := by
    intro k
    rw [bytesP, ← List.drop_drop, ← List.drop_drop, drop_l (headB_len _ _ _), flat_drop16, List.drop_eq_getElem_cons hi, List.flatMap_cons]
  have e1 : ((bytesP b e l).drop (20 + 16 * i)).take 8 = low 8 (bits64 l[i].1) := by
    have := hd 0
    rw [Nat.add_zero, List.drop_zero] at this
    rw [this, rB, List.append_assoc, take_l (low_len _ _)]
  have e2 : ((bytesP b e l).drop (28 + 16 * i)).take 8 = low 8 (bits64 l[i].2) := by
    have := hd 8
    rw [show 20 + 16 * i + 8 = 28 + 16 * i by omega] at this
    rw [this, rB, List.append_assoc, drop_l (low_len _ _), take_l (low_len _ _)]
  rw [oRise, e1, e2, num8, num8, sgn_bits h1, sgn_bits h2]
theorem back_lst (h : WF b e l) : oLst (bytesP b e l) l.length = l := by
  refine List.ext_getElem (oLst_len _ _) fun i h1 h2 => ?_
  have hr := h.rng _ (List.getElem_mem h2)
  have hbe := h.be
  have hb0 := h.b0
  simp only [oLst, List.getElem_map, List.getElem_range]
  exact back_rise h2 (by unfold inI; omega) (by unfold inI; omega)
theorem WF.i (h : WF b e l) : inI b ∧ inI e := by
  have h1 := h.b0
  have h2 := h.be
  unfold inI
  omega
theorem open_back (h : WF b e l) : openE (bytesP b e l) = 0 := by
  have hl := h.len
  have hc := back_cnt (b := b) (e := e) hl
  have hn := bytes_len b e l
  refine oe4 (by omega) (by rw [hc]; omega) (by rw [hc]; omega) ?_
  rw [hc, back_lst h, back_base h.i.1, back_end h.i.2]
  exact h
end
/-! ### Records put -/
theorem topP_snoc (l : List Ri) (r : Ri) : topP (l ++ [r]) = r.2 := by simp [topP]
theorem top_rises : ∀ (rs : List rc.D) (top off : Int) (l : List Ri), topP l = top → topP (l ++ risesP top off rs) = topR top rs
  | [], top, off, l, h => by simp [risesP, topR, h]
  | x :: t, top, off, l, h => by
    rw [risesP, topR]
    split
    · rw [show l ++ (off, x.1) :: risesP x.1 (off + 1) t = (l ++ [(off, x.1)]) ++ risesP x.1 (off + 1) t by simp]
      exact top_rises t _ _ _ (topP_snoc _ _)
    · exact top_rises t _ _ _ h
theorem out_two (l : List Ri) (e : Int) (a c : List rc.D) : outP (outP l e a) (e + a.length) c = outP l e (a ++ c) := by
  rw [outP, outP, outP, top_rises a _ _ l rfl, risesP_append, List.append_assoc]
theorem cut_out {l : List Ri} {e : Int} (a c : List rc.D) (h : ∀ r ∈ l, r.1 < e) : cutP (outP l e (a ++ c)) (e + a.length) = outP l e a := by
  rw [← out_two, cutP, outP, List.filter_append]
  have f1 : (outP l e a).filter (fun r => decide (r.1 < e + a.length)) = outP l e a := List.filter_eq_self.2 fun r hr => by
    rcases List.mem_append.1 hr with hr | hr
    · have := h r hr; simp; omega
    · have := rises_rng hr; simp; omega
  have f2 : (risesP (topP (outP l e a)) (e + a.length) c).filter (fun r => decide (r.1 < e + a.length)) = [] := List.filter_eq_nil_iff.2 fun r hr => by
    have := rises_rng hr; simp; omega
  rw [f1, f2, List.append_nil]
theorem put_fine {l : List Ri} {e : Int} {rs : List rc.D} (hm : rs.all may = true) (h1 : l.length + rs.length ≤ 65536) (h2 : @LE.le Int _ rs.length (9007199254740993 - e)) : putE l e rs = 0 := by
  rw [putE, if_neg (by rw [hm]; simp), if_neg]
  rintro (h | h)
  · have := risesP_len (topP l) e rs
    rw [outP, List.length_append] at h; omega
  · omega
end Go.Proofs.Ytmjbgfflbeibnaa.ti
