/-
  proto: requests, replies: what may be, told plainly; the programs' checks.
-/
import Derived.Test.YtfeaaliocdkonaaPa
import Derived.Test.YtfeaaliocdkonaaPb
import Derived.Test.YtfeaaliocdkonaaPc
namespace Go.Proofs.Ytfeaaliocdkonaa.pr
open Go.Proofs.Ytfeaaliocdkonaa rr wi
set_option linter.unusedVariables false
set_option linter.unusedSimpArgs false
/-- A request's type: kind, number, part, records, offset, most. -/
abbrev reqT : Ty := .pair (.int .i64) (.pair (.int .u32) (.pair (.int .i64) (.pair (.sl rc) (.pair (.int .i64) (.int .i64)))))
/-- A reply's type: kind, number, error, offset, records, marks. -/
abbrev ansT : Ty := .pair (.int .i64) (.pair (.int .u32) (.pair (.int .i64) (.pair (.int .i64) (.pair (.sl rc) (.sl (.int .i64))))))
abbrev inI (n : Int) : Prop := -9223372036854775808 ≤ n ∧ n ≤ 9223372036854775807
abbrev inU (n : Int) : Prop := (0 : Int) ≤ n ∧ n ≤ 4294967295
def qCs (x : reqT.D) (w : Value) : List Value := [.int .i64 x.1, .int .u32 x.2.1, .int .i64 x.2.2.1, w, .int .i64 x.2.2.2.2.1, .int .i64 x.2.2.2.2.2]
def qB (x : reqT.D) : Prop := inI x.1 ∧ inU x.2.1 ∧ inI x.2.2.1 ∧ inI x.2.2.2.2.1 ∧ inI x.2.2.2.2.2
theorem rep_req {S : Nat → Prop} {h : H} {cs : List Value} {x : reqT.D} : Rep S reqT h cs x ↔ ∃ w, cs = qCs x w ∧ qB x ∧ RepL S rc h w x.2.2.2.1 := by
  constructor
  · rintro ⟨_, _, rfl, ⟨rfl, b1⟩, _, _, rfl, ⟨rfl, b2⟩, _, _, rfl, ⟨rfl, b3⟩, _, _, rfl, r4, _, _, rfl, ⟨rfl, b5⟩, rfl, b6⟩
    obtain ⟨w, _, rfl, _⟩ := id r4
    exact ⟨w, rfl, ⟨b1, b2, b3, b5, b6⟩, r4⟩
  · rintro ⟨w, rfl, ⟨b1, b2, b3, b5, b6⟩, r4⟩
    exact ⟨[_], [_, _, _, _, _], rfl, ⟨rfl, b1⟩, [_], [_, _, _, _], rfl, ⟨rfl, b2⟩, [_], [_, _, _], rfl, ⟨rfl, b3⟩, [_], [_, _], rfl, r4, [_], [_], rfl, ⟨rfl, b5⟩, rfl, b6⟩
def aCs (x : ansT.D) (w m : Value) : List Value := [.int .i64 x.1, .int .u32 x.2.1, .int .i64 x.2.2.1, .int .i64 x.2.2.2.1, w, m]
def aB (x : ansT.D) : Prop := inI x.1 ∧ inU x.2.1 ∧ inI x.2.2.1 ∧ inI x.2.2.2.1
theorem rep_ans {S : Nat → Prop} {h : H} {cs : List Value} {x : ansT.D} : Rep S ansT h cs x ↔ ∃ w m, cs = aCs x w m ∧ aB x ∧ RepL S rc h w x.2.2.2.2.1 ∧ RepL S (.int .i64) h m x.2.2.2.2.2 := by
  constructor
  · rintro ⟨_, _, rfl, ⟨rfl, b1⟩, _, _, rfl, ⟨rfl, b2⟩, _, _, rfl, ⟨rfl, b3⟩, _, _, rfl, ⟨rfl, b4⟩, _, _, rfl, r5, r6⟩
    obtain ⟨w, _, rfl, _⟩ := id r5
    obtain ⟨m, _, rfl, _⟩ := id r6
    exact ⟨w, m, rfl, ⟨b1, b2, b3, b4⟩, r5, r6⟩
  · rintro ⟨w, m, rfl, ⟨b1, b2, b3, b4⟩, r5, r6⟩
    exact ⟨[_], [_, _, _, _, _], rfl, ⟨rfl, b1⟩, [_], [_, _, _, _], rfl, ⟨rfl, b2⟩, [_], [_, _, _], rfl, ⟨rfl, b3⟩, [_], [_, _], rfl, ⟨rfl, b4⟩, [_], [_], rfl, r5, r6⟩
/-! ### Records that may be carried -/
def one16 (r : rc.D) : Nat := 16 + r.2.1.length + r.2.2.length
def szR (l : List rc.D) : Nat := (l.map one16).sum
theorem szR_app (a b : List rc.D) : szR (a ++ b) = szR a + szR b := by simp [szR]
theorem szR_one (r : rc.D) : szR [r] = 16 + r.2.1.length + r.2.2.length := by simp [szR, one16]
def carryP (l : List rc.D) : Bool := decide (l.length ≤ 1024) && l.all may
theorem szR_le {l : List rc.D} (h : l.all may = true) : szR l ≤ 4368 * l.length := by
  induction l with
  | nil => simp [szR]
  | cons r t ih =>
    rw [List.all_cons, Bool.and_eq_true] at h
    have h1 := may_t h.1
    have h2 := ih h.2
    rw [show r :: t = [r] ++ t from rfl, szR_app, szR_one]
    simp only [List.length_append, List.length_cons, List.length_nil]
    omega
theorem carry_t {l : List rc.D} (h : carryP l = true) : l.length ≤ 1024 ∧ l.all may = true := by
  rw [carryP, Bool.and_eq_true, decide_eq_true_eq] at h
  exact h
theorem carry_f {l : List rc.D} {i : Nat} (hi : i < l.length) (h : ¬ may l[i] = true) : carryP l = false := by
  have : l.all may = false := by
    rw [Bool.eq_false_iff]; intro ha
    exact h (List.all_eq_true.1 ha _ (List.getElem_mem hi))
  rw [carryP, this, Bool.and_false]
theorem all_take {l : List rc.D} {i : Nat} (hi : i < l.length) (h : (l.take i).all may = true) (h1 : may l[i] = true) : (l.take (i + 1)).all may = true := by
  rw [show l.take (i + 1) = l.take i ++ [l[i]] by simp, List.all_append, h]; simp [h1]
theorem sz_take {l : List rc.D} {i : Nat} (hi : i < l.length) : szR (l.take (i + 1)) = szR (l.take i) + (16 + l[i].2.1.length + l[i].2.2.length) := by
  rw [show l.take (i + 1) = l.take i ++ [l[i]] by simp, szR_app, szR_one]
theorem carry_ok {S : Nat → Prop} {h : H} {v : Value} {l : List rc.D} (hs : RepL S rc h v l) : Ok Try.prog 44 #[v] h fun w h' => w = .tuple #[.int .i64 ((if carryP l = true then 4 + szR l else 0 : Nat) : Int), .bool (carryP l)] ∧ Ext h h' := by
  obtain ⟨sa, sc, rfl⟩ := hs.len
  refine c44_ok (args := [_]) (by simp) ?_
  by_cases h1 : l.length ≤ 1024
  · simp (disch := omega) only [dm_t, wS, simprocAttr, IntKind.bits]
    refine vc_loop2 (fun vn vi h' => ∃ i : Nat, vi = .int .i64 (i : Int) ∧ i ≤ l.length ∧ (l.take i).all may = true ∧ vn = .int .i64 ((4 + szR (l.take i) : Nat) : Int) ∧ Ext h h') (fun _ vi _ => l.length - m1 vi) ?_ ?_
    · simp (disch := omega) only [dm_t, wS, simprocAttr, IntKind.bits]
      exact ⟨0, rfl, by omega, rfl, rfl, Ext.refl h⟩
    rintro _ _ g ⟨i, rfl, hi, hm, rfl, e⟩
    by_cases hil : i < l.length
    · have hsz := szR_le hm
      rw [List.length_take] at hsz
      simp (disch := omega) only [dm_t, wS, simprocAttr, IntKind.bits]
      refine (hs.ext e).at sz_rc i rfl hil ?_
      intro pb po cs g1 g2 g3
      obtain ⟨ka, kc, va, vc, rfl, hbd, hk, hv⟩ := rc_len g3
      simp (disch := omega) only [dm_t, wS, simprocAttr, IntKind.bits, g1]
      intro rb hrb
      simp (disch := omega) only [dm_t, wS, simprocAttr, IntKind.bits]
      refine (stn_new rfl (by rfl) g3.cells ?_).2
      generalize hG : hupd g rb _ = G
      obtain ⟨e1, q1⟩ := new_ext hG hrb
      clear hG
      have l1 : cellsAt G ⟨rb, 0, none⟩ 3 = _ := cellsAt_all q1 3 rfl
      simp (disch := omega) only [dm_t, wS, simprocAttr, IntKind.bits, l1]
      refine (May_ok (g3.ext e1)).k ?_
      rintro _ G2 ⟨rfl, e2⟩
      by_cases hmay : may l[i] = true
      · have c1 : cellAt G2 ⟨rb, 1, none⟩ = some (.slice ka (l[i]).2.1.length kc) := by rw [cellAt_of (e2.at q1)]; rfl
        have c2 : cellAt G2 ⟨rb, 2, none⟩ = some (.slice va (l[i]).2.2.length vc) := by rw [cellAt_of (e2.at q1)]; rfl
        have hmt := may_t hmay
        rw [hmay]
        simp (disch := omega) only [dm_t, wS, simprocAttr, IntKind.bits, c1, c2]
        exact ⟨⟨i + 1, by simp, by omega, all_take hil hm hmay, by rw [sz_take hil]; congr 1; omega, (e.trans e1).trans e2⟩, by simp [m1]; omega⟩
      · rw [Bool.eq_false_iff.2 hmay]
        simp (disch := omega) only [dm_t, wS, simprocAttr, IntKind.bits]
        rw [carry_f hil hmay]
        exact ⟨rfl, (e.trans e1).trans e2⟩
    · obtain rfl : i = l.length := by omega
      rw [List.take_length] at hm ⊢
      simp (disch := omega) only [dm_t, wS, simprocAttr, IntKind.bits]
      have : carryP l = true := by rw [carryP, hm, decide_eq_true h1]; rfl
      rw [this]
      exact ⟨rfl, e⟩
  · simp (disch := omega) only [dm_t, wS, simprocAttr, IntKind.bits]
    have : carryP l = false := by rw [carryP, decide_eq_false h1]; rfl
    rw [this]
    exact ⟨rfl, Ext.refl h⟩
theorem dcarry_ok {S : Nat → Prop} {h : H} {v : Value} {l : List rc.D} (hs : RepL S rc h v l) : Ok Try.prog 42 #[v] h fun w h' => w = .bool (carryP l) ∧ Ext h h' := by
  obtain ⟨sa, sc, rfl⟩ := hs.len
  refine c42_ok (args := [_]) (by simp) ?_
  by_cases h1 : l.length ≤ 1024
  · simp (disch := omega) only [dm_t, wS, simprocAttr, IntKind.bits]
    refine vc_loop1 (fun vi h' => ∃ i : Nat, vi = .int .i64 (i : Int) ∧ i ≤ l.length ∧ (l.take i).all may = true ∧ Ext h h') (fun vi _ => l.length - m1 vi) ?_ ?_
    · simp (disch := omega) only [dm_t, wS, simprocAttr, IntKind.bits]
      exact ⟨0, rfl, by omega, rfl, Ext.refl h⟩
    rintro _ g ⟨i, rfl, hi, hm, e⟩
    by_cases hil : i < l.length
    · simp (disch := omega) only [dm_t, wS, simprocAttr, IntKind.bits]
      refine (hs.ext e).at sz_rc i rfl hil ?_
      intro pb po cs g1 g2 g3
      simp (disch := omega) only [dm_t, wS, simprocAttr, IntKind.bits, g1]
      refine (DMay_ok g3).k ?_
      rintro _ G2 ⟨rfl, e2⟩
      by_cases hmay : may l[i] = true
      · rw [hmay]
        simp (disch := omega) only [dm_t, wS, simprocAttr, IntKind.bits]
        exact ⟨⟨i + 1, by simp, by omega, all_take hil hm hmay, e.trans e2⟩, by simp [m1]; omega⟩
      · rw [Bool.eq_false_iff.2 hmay]
        simp (disch := omega) only [dm_t, wS, simprocAttr, IntKind.bits]
        rw [carry_f hil hmay]
        exact ⟨rfl, e.trans e2⟩
    · obtain rfl : i = l.length := by omega
      rw [List.take_length] at hm
      simp (disch := omega) only [dm_t, wS, simprocAttr, IntKind.bits]
      have : carryP l = true := by rw [carryP, hm, decide_eq_true h1]; rfl
      rw [this]
      exact ⟨rfl, e⟩
  · simp (disch := omega) only [dm_t, wS, simprocAttr, IntKind.bits]
    have : carryP l = false := by rw [carryP, decide_eq_false h1]; rfl
    rw [this]
    exact ⟨rfl, Ext.refl h⟩
theorem size_ok {S : Nat → Prop} {h : H} {v : Value} {l : List rc.D} (hs : RepL S rc h v l) (hc : l.all may = true) (h1 : l.length ≤ 1024) : Ok Try.prog 43 #[v] h fun w h' => w = .int .i64 ((4 + szR l : Nat) : Int) ∧ h = h' := by
  obtain ⟨sa, sc, rfl⟩ := hs.len
  refine c43_ok (args := [_]) (by simp) ?_
  simp (disch := omega) only [dm_t, wS, simprocAttr, IntKind.bits]
  refine vc_loop2 (fun vn vi h' => h' = h ∧ ∃ i : Nat, vi = .int .i64 (i : Int) ∧ i ≤ l.length ∧ vn = .int .i64 ((4 + szR (l.take i) : Nat) : Int)) (fun _ vi _ => l.length - m1 vi) ?_ ?_
  · simp (disch := omega) only [dm_t, wS, simprocAttr, IntKind.bits]
    exact ⟨0, rfl, by omega, rfl⟩
  rintro _ _ g ⟨rfl, i, rfl, hi, rfl⟩
  by_cases hil : i < l.length
  · have hm : (l.take i).all may = true := List.all_eq_true.2 fun x hx => List.all_eq_true.1 hc x (List.mem_of_mem_take hx)
    have hsz := szR_le hm
    rw [List.length_take] at hsz
    have hmt := may_t (List.all_eq_true.1 hc _ (List.getElem_mem hil))
    obtain ⟨pb, po, k, v, gi, t1, x1, y1, hk1, hv1⟩ := rec_at hs hil
    obtain ⟨ka, kc, rfl⟩ := By.len hk1
    obtain ⟨va, vc, rfl⟩ := By.len hv1
    simp (disch := omega) only [dm_t, wS, simprocAttr, IntKind.bits, gi, x1, y1]
    repeat' (first | exact ⟨⟨i + 1, by simp, by omega, by rw [sz_take hil]; congr 1; omega⟩, by simp [m1]; omega⟩ | refine ⟨?_, ?_⟩)
  · obtain rfl : i = l.length := by omega
    rw [List.take_length]
    simp (disch := omega) only [dm_t, wS, simprocAttr, IntKind.bits]
theorem in_ok (h : H) (x most : Int) : Ok Try.prog 45 #[.int .i64 x, .int .i64 most] h fun w h' => w = .bool (decide (0 ≤ x) && decide (x ≤ most)) ∧ h = h' := by
  refine c45_ok (args := [_, _]) (by simp) ?_
  by_cases h1 : 0 ≤ x
  · by_cases h2 : x ≤ most
    · simp (disch := omega) only [dm_t, wS, simprocAttr, IntKind.bits, Bool.and_self]
    · simp (disch := omega) only [dm_t, wS, simprocAttr, IntKind.bits, Bool.true_and]
  · simp (disch := omega) only [dm_t, wS, simprocAttr, IntKind.bits, Bool.false_and]
end Go.Proofs.Ytfeaaliocdkonaa.pr
