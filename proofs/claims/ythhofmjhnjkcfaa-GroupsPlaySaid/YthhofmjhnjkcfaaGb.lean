/-
  groups: names, places; may they be?
-/
import Derived.Test.YthhofmjhnjkcfaaGa
namespace Go.Proofs.Ythhofmjhnjkcfaa.gr
open Go.Proofs.Ythhofmjhnjkcfaa wi
set_option linter.unusedVariables false
set_option linter.unusedSimpArgs false
abbrev tI : Ty := .int .i64
abbrev plT : Ty := .pair .str (.pair tI (.pair tI tI))
abbrev Pl := List UInt8 × Int × Int × Int
def chr (b : UInt8) : Bool := decide (33 ≤ b.toNat) && decide (b.toNat ≤ 126)
def grp (s : List UInt8) : Bool := decide (1 ≤ s.length) && decide (s.length ≤ 64) && s.all chr
def prt (n : Int) : Bool := decide (0 ≤ n) && decide (n < 16)
def tm (n : Int) : Bool := decide (0 ≤ n) && decide (n ≤ 9007199254740992)
def mayP (p : Pl) : Bool := grp p.1 && prt p.2.1 && tm p.2.2.1 && tm p.2.2.2
abbrev sv (s : List UInt8) : Value := .string ⟨s.toArray⟩
theorem get_mk (l : List UInt8) {i : Nat} (hi : i < l.length) : (⟨l.toArray⟩ : ByteArray).get! i = l[i] := by
  show l.toArray[i]! = l[i]
  rw [getElem!_pos _ _ (by simpa using hi)]; simp
theorem decode_lo (l : List UInt8) {i : Nat} (hi : i < l.length) (h : l[i].toNat < 128) : Utf8.decode ⟨l.toArray⟩ i = (l[i].toNat, 1) := by
  unfold Utf8.decode
  simp only [Nat.add_zero, get_mk l hi]
  rw [if_pos h]
theorem decode_hi (l : List UInt8) {i : Nat} (hi : i < l.length) (h : ¬ l[i].toNat < 128) : 128 ≤ (Utf8.decode ⟨l.toArray⟩ i).1 := by
  unfold Utf8.decode
  simp only [Nat.add_zero, get_mk l hi]
  rw [if_neg h]
  simp only [Utf8.runeError]
  repeat' split
  all_goals (try decide)
  all_goals (simp only [Bool.and_eq_true, decide_eq_true_eq] at *; omega)
/-- May a record be? -/
def mayR (r : rc.D) : Bool := decide (0 ≤ r.1) && (decide (r.1 ≤ 9007199254740992) && (decide (r.2.1.length ≤ 256) && decide (r.2.2.length ≤ 4096)))
theorem May_ok {S : Nat → Prop} {h : H} {cs : List Value} {x : rc.D} (hx : Rep S rc h cs x) : Ok Try.prog 38 #[.agg cs.toArray] h fun v h' => v = .bool (mayR x) ∧ Ext h h' := by
  obtain ⟨ka, kc, va, vc, rfl, hbd, hk, hv⟩ := rc_len hx
  refine c38_ok (args := [_]) (by simp) ?_
  simp (disch := omega) only [dm_t, wS, simprocAttr, IntKind.bits]
  intro b hb
  by_cases c1 : 0 ≤ x.1 <;> by_cases c2 : x.1 ≤ 9007199254740992 <;> by_cases c3 : x.2.1.length ≤ 256 <;> by_cases c4 : x.2.2.length ≤ 4096 <;>
    (simp (disch := omega) only [dm_t, wS, simprocAttr, IntKind.bits, cellAt_same]; exact ⟨by simp [mayR, c1, c2, c3, c4], Ext.new hb _⟩)
theorem W1_ok (h : H) (c : Nat) : Ok Try.prog 78 #[.int .i32 (c : Int)] h fun v h' => v = .bool (decide (c < 33) || decide (126 < c)) ∧ h = h' := by
  refine c78_ok (args := [_]) (by simp) ?_
  by_cases h1 : c < 33
  · simp (disch := omega) only [dm_t, wS, simprocAttr, IntKind.bits]
    simp [h1]
  · by_cases h2 : 126 < c
    · simp (disch := omega) only [dm_t, wS, simprocAttr, IntKind.bits]
      simp [h2]
    · simp (disch := omega) only [dm_t, wS, simprocAttr, IntKind.bits]
      simp [h1, h2]
theorem iF_ok (h : H) (s : List UInt8) : Ok Try.prog 98 #[sv s, .func (.func 78) #[] #[], .bool true] h fun v h' => (∃ r : Int, v = .int .i64 r ∧ (0 ≤ r ↔ s.all chr = false)) ∧ Ext h h' := by
  refine c98_ok (args := [_, _, _]) (by simp) ?_
  simp (disch := omega) only [dm_t, wS, simprocAttr, IntKind.bits]
  refine raw_ranges Try.underlying9 rfl ?_
  intro r hr
  generalize hG : hupd h r _ = g1
  obtain ⟨e1, q1⟩ := new_ext hG hr
  clear hG
  simp (disch := omega) only [dm_t, wS, simprocAttr, IntKind.bits]
  refine vc_loop0 (fun G => ∃ i : Nat, i ≤ s.length ∧ (∀ j (hj : j < s.length), j < i → chr s[j] = true) ∧ G r = some (.stringIter ⟨s.toArray⟩ i) ∧ Ext h G) (fun G => match G r with | some (.stringIter _ p) => s.length - p | _ => 0) ?_ ?_
  · exact ⟨0, by omega, fun j _ h => by omega, q1, e1⟩
  rintro G ⟨i, hi, hall, q, e⟩
  by_cases hil : i < s.length
  · simp (disch := omega) only [dm_t, wS, simprocAttr, IntKind.bits]
    refine raw_nexts rfl q ?_
    rw [if_pos (show i < (⟨s.toArray⟩ : ByteArray).size from hil)]
    have hc : chr s[i] = true ↔ ¬ ((Utf8.decode ⟨s.toArray⟩ i).1 < 33 ∨ 126 < (Utf8.decode ⟨s.toArray⟩ i).1) := by
      by_cases hb : s[i].toNat < 128
      · rw [decode_lo s hil hb]
        simp only [chr, Bool.and_eq_true, decide_eq_true_eq]; omega
      · obtain ⟨c, hc⟩ : ∃ c, (Utf8.decode ⟨s.toArray⟩ i).1 = c := ⟨_, rfl⟩
        have h9 : 128 ≤ c := hc ▸ decode_hi s hil hb
        rw [hc]
        simp only [chr, Bool.and_eq_true, decide_eq_true_eq]; omega
    have hw : chr s[i] = true → (Utf8.decode ⟨s.toArray⟩ i).2 = 1 := by
      intro h1
      have h2 : s[i].toNat < 128 := by simp only [chr, Bool.and_eq_true, decide_eq_true_eq] at h1; omega
      rw [decode_lo s hil h2]
    generalize Utf8.decode ⟨s.toArray⟩ i = cd at hc hw ⊢
    obtain ⟨c, w⟩ := cd
    simp only at hc hw ⊢
    generalize hG : hupd G r _ = G1
    have q2 : G1 r = some (.stringIter ⟨s.toArray⟩ (i + w)) := by rw [← hG, hupd_same]
    have f2 : Fr (fun y => y = r) G G1 := hG ▸ Fr.upd (S := fun y => y = r) rfl _
    have e2 : Ext h G1 := Ext.step' e f2 fun y hy => by rw [hy]; exact hr
    clear hG
    simp (disch := omega) only [dm_t, wS, simprocAttr, IntKind.bits]
    refine ⟨by kernel_rfl, (W1_ok G1 c).k ?_⟩
    rintro _ _ ⟨rfl, rfl⟩
    cases hcs : chr s[i] with
    | true =>
      have h1 := hc.1 hcs
      have h2 := hw hcs
      subst h2
      rw [decide_eq_false (show ¬ c < 33 by omega), decide_eq_false (show ¬ 126 < c by omega)]
      simp (disch := omega) only [dm_t, wS, simprocAttr, IntKind.bits, Bool.or_false]
      refine ⟨⟨i + 1, by omega, fun j hj hji => ?_, q2, e2⟩, ?_⟩
      · by_cases hji' : j = i
        · subst hji'; exact hcs
        · exact hall j hj (by omega)
      · rw [q2, q]; simp only; omega
    | false =>
      have h1 : c < 33 ∨ 126 < c := by
        by_cases h : c < 33 ∨ 126 < c
        · exact h
        · rw [hc.2 h] at hcs; cases hcs
      have h2 : (decide (c < 33) || decide (126 < c)) = true := by simp only [Bool.or_eq_true, decide_eq_true_eq]; exact h1
      rw [h2]
      simp (disch := omega) only [dm_t, wS, simprocAttr, IntKind.bits]
      refine ⟨⟨_, rfl, fun _ => ?_, fun _ => by omega⟩, e2⟩
      rw [List.all_eq_false]
      exact ⟨s[i], List.getElem_mem hil, by rw [hcs]; simp⟩
  · simp (disch := omega) only [dm_t, wS, simprocAttr, IntKind.bits]
    refine raw_nexts rfl q ?_
    rw [if_neg (show ¬ i < (⟨s.toArray⟩ : ByteArray).size from hil)]
    simp (disch := omega) only [dm_t, wS, simprocAttr, IntKind.bits]
    refine ⟨⟨_, rfl, fun h => absurd h (by omega), fun h => ?_⟩, e⟩
    obtain ⟨x, hx, hx2⟩ := List.all_eq_false.1 h
    obtain ⟨j, hj, rfl⟩ := List.getElem_of_mem hx
    exact absurd (hall j hj (by omega)) hx2
theorem CF_ok (h : H) (s : List UInt8) : Ok Try.prog 77 #[sv s, .func (.func 78) #[] #[]] h fun v h' => v = .bool (!s.all chr) ∧ Ext h h' := by
  refine c77_ok (args := [_, _]) (by simp) ?_
  simp (disch := omega) only [dm_t, wS, simprocAttr, IntKind.bits]
  have k : Ok Try.prog 87 #[sv s, .func (.func 78) #[] #[]] h fun v h' => (∃ r : Int, v = .int .i64 r ∧ (0 ≤ r ↔ s.all chr = false)) ∧ Ext h h' := by
    refine c87_ok (args := [_, _]) (by simp) ?_
    simp (disch := omega) only [dm_t, wS, simprocAttr, IntKind.bits]
    refine (iF_ok h s).k ?_
    rintro _ g ⟨⟨r, rfl, hr⟩, e⟩
    simp (disch := omega) only [dm_t, wS, simprocAttr, IntKind.bits]
    exact ⟨⟨_, rfl, hr⟩, e⟩
  refine (k).k ?_
  rintro _ g ⟨⟨r, rfl, hr⟩, e⟩
  cases hb : s.all chr with
  | true =>
    have : r < 0 := by
      by_cases h0 : 0 ≤ r
      · rw [hr.1 h0] at hb; cases hb
      · omega
    simp (disch := omega) only [dm_t, wS, simprocAttr, IntKind.bits]
    exact e
  | false =>
    have := hr.2 hb
    simp (disch := omega) only [dm_t, wS, simprocAttr, IntKind.bits]
    exact e
theorem in_ok (h : H) (x m : Int) : Ok Try.prog 57 #[.int .i64 x, .int .i64 m] h fun v h' => v = .bool (decide (0 ≤ x) && decide (x ≤ m)) ∧ h = h' := by
  refine c57_ok (args := [_, _]) (by simp) ?_
  by_cases h1 : 0 ≤ x
  · simp (disch := omega) only [dm_t, wS, simprocAttr, IntKind.bits]
    simp [h1]
  · simp (disch := omega) only [dm_t, wS, simprocAttr, IntKind.bits]
    simp [h1]
theorem num_ok (h : H) (x : Int) : Ok Try.prog 13 #[.int .i64 x] h fun v h' => v = .int .i64 x ∧ h = h' := by
  refine c13_ok (args := [_]) (by simp) ?_
  simp (disch := omega) only [dm_t, wS, simprocAttr, IntKind.bits]
theorem where_ok (h : H) (s : List UInt8) (n : Int) (hs : s.length ≤ 9223372036854775807) : Ok Try.prog 53 #[sv s, .int .i64 n] h fun v h' => v = .bool (grp s && prt n) ∧ Ext h h' := by
  refine c53_ok (args := [_, _]) (by simp) ?_
  simp (disch := omega) only [dm_t, wS, simprocAttr, IntKind.bits]
  refine (CF_ok h s).k ?_
  rintro _ g ⟨rfl, e⟩
  cases s with
  | nil =>
    simp (disch := omega) only [dm_t, wS, simprocAttr, IntKind.bits]
    exact ⟨rfl, e⟩
  | cons x t =>
    have hne : ((⟨(x :: t).toArray⟩ : ByteArray).toList = (⟨#[]⟩ : ByteArray).toList) = False := by
      rw [toList_mk, show (⟨#[]⟩ : ByteArray) = ⟨([] : List UInt8).toArray⟩ from rfl, toList_mk]
      simp
    have hsz : ((⟨(x :: t).toArray⟩ : ByteArray).size : Nat) = (x :: t).length := rfl
    have h1 : 1 ≤ (x :: t).length := by simp
    have hg : grp (x :: t) = (decide ((x :: t).length ≤ 64) && (x :: t).all chr) := by
      rw [grp, decide_eq_true h1, Bool.true_and]
    rw [hg]
    clear hg
    generalize (x :: t).length = m at hsz h1 hs
    generalize hal : (x :: t).all chr = al
    by_cases h2 : m ≤ 64
    · cases al with
      | true =>
        by_cases h3 : 0 ≤ n
        · simp (disch := omega) only [dm_t, wS, simprocAttr, IntKind.bits, hne, hsz]
          exact ⟨by simp [prt, h2, h3], e⟩
        · simp (disch := omega) only [dm_t, wS, simprocAttr, IntKind.bits, hne, hsz]
          exact ⟨by simp [prt, h2, h3], e⟩
      | false =>
        simp (disch := omega) only [dm_t, wS, simprocAttr, IntKind.bits, hne, hsz]
        exact ⟨by simp [h2], e⟩
    · simp (disch := omega) only [dm_t, wS, simprocAttr, IntKind.bits, hne, hsz]
      exact ⟨by simp [h2], e⟩
theorem rep_pl {S : Nat → Prop} {h : H} {cs : List Value} {x : Pl} : Rep S plT h cs x ↔ cs = [sv x.1, .int .i64 x.2.1, .int .i64 x.2.2.1, .int .i64 x.2.2.2] ∧ x.1.length ≤ 9223372036854775807 ∧ (-9223372036854775808 ≤ x.2.1 ∧ x.2.1 ≤ 9223372036854775807) ∧ (-9223372036854775808 ≤ x.2.2.1 ∧ x.2.2.1 ≤ 9223372036854775807) ∧ (-9223372036854775808 ≤ x.2.2.2 ∧ x.2.2.2 ≤ 9223372036854775807) := by
  constructor
  · rintro ⟨c1, d1, rfl, ⟨rfl, b1⟩, c2, d2, rfl, ⟨rfl, b2⟩, c3, d3, rfl, ⟨rfl, b3⟩, rfl, b4⟩
    exact ⟨rfl, b1, b2, b3, b4⟩
  · rintro ⟨rfl, b1, b2, b3, b4⟩
    exact ⟨[_], _, rfl, ⟨rfl, b1⟩, [_], _, rfl, ⟨rfl, b2⟩, [_], [_], rfl, ⟨rfl, b3⟩, rfl, b4⟩
abbrev pCs (x : Pl) : List Value := [sv x.1, .int .i64 x.2.1, .int .i64 x.2.2.1, .int .i64 x.2.2.2]
theorem may_ok (h : H) (x : Pl) (hl : x.1.length ≤ 9223372036854775807) : Ok Try.prog 34 #[.agg (pCs x).toArray] h fun v h' => v = .bool (mayP x) ∧ Ext h h' := by
  refine c34_ok (args := [_]) (by simp) ?_
  simp (disch := omega) only [dm_t, wS, simprocAttr, IntKind.bits]
  intro b hb
  generalize hG : hupd h b _ = g
  obtain ⟨e, q⟩ := new_ext hG hb
  clear hG
  have c0 : ∀ G, Ext g G → cellAt G ⟨b, 0, none⟩ = some (sv x.1) := fun G e => by rw [cellAt_of (e.at q)]; rfl
  have c1 : ∀ G, Ext g G → cellAt G ⟨b, 1, none⟩ = some (.int .i64 x.2.1) := fun G e => by rw [cellAt_of (e.at q)]; rfl
  have c2 : ∀ G, Ext g G → cellAt G ⟨b, 2, none⟩ = some (.int .i64 x.2.2.1) := fun G e => by rw [cellAt_of (e.at q)]; rfl
  have c3 : ∀ G, Ext g G → cellAt G ⟨b, 3, none⟩ = some (.int .i64 x.2.2.2) := fun G e => by rw [cellAt_of (e.at q)]; rfl
  have er := Ext.refl g
  simp (disch := omega) only [dm_t, wS, simprocAttr, IntKind.bits, c0 g er, c1 g er]
  refine (where_ok g x.1 x.2.1 hl).k ?_
  rintro _ g1 ⟨rfl, e1⟩
  rw [show mayP x = (grp x.1 && prt x.2.1 && tm x.2.2.1 && tm x.2.2.2) from rfl]
  cases hw : (grp x.1 && prt x.2.1) with
  | false =>
    simp (disch := omega) only [dm_t, wS, simprocAttr, IntKind.bits]
    exact ⟨rfl, e.trans e1⟩
  | true =>
    simp (disch := omega) only [dm_t, wS, simprocAttr, IntKind.bits, c2 g1 e1]
    refine (in_ok g1 x.2.2.1 9007199254740992).k ?_
    rintro _ _ ⟨rfl, rfl⟩
    rw [show (decide (0 ≤ x.2.2.1) && decide (x.2.2.1 ≤ 9007199254740992)) = tm x.2.2.1 from rfl]
    cases ht : tm x.2.2.1 with
    | false =>
      simp (disch := omega) only [dm_t, wS, simprocAttr, IntKind.bits]
      exact ⟨rfl, e.trans e1⟩
    | true =>
      simp (disch := omega) only [dm_t, wS, simprocAttr, IntKind.bits, c3 g1 e1]
      refine (in_ok g1 x.2.2.2 9007199254740992).k ?_
      rintro _ _ ⟨rfl, rfl⟩
      rw [show (decide (0 ≤ x.2.2.2) && decide (x.2.2.2 ≤ 9007199254740992)) = tm x.2.2.2 from rfl]
      simp (disch := omega) only [dm_t, wS, simprocAttr, IntKind.bits]
      exact ⟨rfl, e.trans e1⟩
/-! ### The document's -/
theorem DPart_ok (h : H) (n : Int) : Ok Try.prog 45 #[.int .i64 n] h fun v h' => v = .bool (prt n) ∧ h = h' := by
  refine c45_ok (args := [_]) (by simp) ?_
  by_cases h1 : 0 ≤ n
  · simp (disch := omega) only [dm_t, wS, simprocAttr, IntKind.bits]
    simp [prt, h1]
  · simp (disch := omega) only [dm_t, wS, simprocAttr, IntKind.bits]
    simp [prt, h1]
theorem Dtime_ok (h : H) (n : Int) : Ok Try.prog 46 #[.int .i64 n] h fun v h' => v = .bool (tm n) ∧ h = h' := by
  refine c46_ok (args := [_]) (by simp) ?_
  by_cases h1 : 0 ≤ n
  · simp (disch := omega) only [dm_t, wS, simprocAttr, IntKind.bits]
    simp [tm, h1]
  · simp (disch := omega) only [dm_t, wS, simprocAttr, IntKind.bits]
    simp [tm, h1]
theorem DGroup_ok (h : H) (s : List UInt8) (hs : s.length ≤ 9223372036854775807) : Ok Try.prog 44 #[sv s] h fun v h' => v = .bool (grp s) ∧ h = h' := by
  refine c44_ok (args := [_]) (by simp) ?_
  have hsz : ((⟨s.toArray⟩ : ByteArray).size : Nat) = s.length := rfl
  simp (disch := omega) only [dm_t, wS, simprocAttr, IntKind.bits]
  refine vc_loop1 (fun vi G => G = h ∧ ∃ i : Nat, vi = .int .i64 (i : Int) ∧ i ≤ s.length ∧ ∀ j (hj : j < s.length), j < i → chr s[j] = true) (fun vi _ => s.length - m1 vi) ?_ ?_
  · simp (disch := omega) only [dm_t, wS, simprocAttr, IntKind.bits]
    exact ⟨0, rfl, by omega, fun j _ h => by omega⟩
  rintro _ _ ⟨rfl, i, rfl, hi, hall⟩
  by_cases hil : i < s.length
  · have hget : (⟨s.toArray⟩ : ByteArray)[i]? = some s[i] := by
      rw [getElem?_pos (⟨s.toArray⟩ : ByteArray) i (show i < (⟨s.toArray⟩ : ByteArray).size from hil)]; rfl
    have bad : chr s[i] = false → grp s = false := by
      intro hc
      rw [grp, show s.all chr = false from List.all_eq_false.2 ⟨s[i], List.getElem_mem hil, by rw [hc]; simp⟩, Bool.and_false]
    by_cases h1 : s[i].toNat < 33
    · simp (disch := omega) only [dm_t, wS, simprocAttr, IntKind.bits, hsz, hget]
      rw [bad (by simp only [chr, Bool.and_eq_false_iff, decide_eq_false_iff_not]; omega)]
    · by_cases h2 : 126 < s[i].toNat
      · simp (disch := omega) only [dm_t, wS, simprocAttr, IntKind.bits, hsz, hget]
        rw [bad (by simp only [chr, Bool.and_eq_false_iff, decide_eq_false_iff_not]; omega)]
      · simp (disch := omega) only [dm_t, wS, simprocAttr, IntKind.bits, hsz, hget]
        refine ⟨⟨i + 1, by simp, by omega, fun j hj hji => ?_⟩, by simp [m1]; omega⟩
        by_cases hji' : j = i
        · subst hji'; simp only [chr, Bool.and_eq_true, decide_eq_true_eq]; omega
        · exact hall j hj (by omega)
  · obtain rfl : i = s.length := by omega
    have hal : s.all chr = true := by
      rw [List.all_eq_true]
      intro x hx
      obtain ⟨j, hj, rfl⟩ := List.getElem_of_mem hx
      exact hall j hj hj
    rw [grp, hal, Bool.and_true]
    by_cases h1 : 0 < s.length
    · simp (disch := omega) only [dm_t, wS, simprocAttr, IntKind.bits, hsz]
      simp [h1]; omega
    · simp (disch := omega) only [dm_t, wS, simprocAttr, IntKind.bits, hsz]
      simp [h1]
theorem DMay_ok (h : H) (x : Pl) (hl : x.1.length ≤ 9223372036854775807) : Ok Try.prog 15 #[.agg (pCs x).toArray] h fun v h' => v = .bool (mayP x) ∧ Ext h h' := by
  refine c15_ok (args := [_]) (by simp) ?_
  simp (disch := omega) only [dm_t, wS, simprocAttr, IntKind.bits]
  intro b hb
  generalize hG : hupd h b _ = g
  obtain ⟨e, q⟩ := new_ext hG hb
  clear hG
  have c0 : cellAt g ⟨b, 0, none⟩ = some (sv x.1) := by rw [cellAt_of q]; rfl
  have c1 : cellAt g ⟨b, 1, none⟩ = some (.int .i64 x.2.1) := by rw [cellAt_of q]; rfl
  have c2 : cellAt g ⟨b, 2, none⟩ = some (.int .i64 x.2.2.1) := by rw [cellAt_of q]; rfl
  have c3 : cellAt g ⟨b, 3, none⟩ = some (.int .i64 x.2.2.2) := by rw [cellAt_of q]; rfl
  simp (disch := omega) only [dm_t, wS, simprocAttr, IntKind.bits, c0]
  refine (DGroup_ok g x.1 hl).k ?_
  rintro _ _ ⟨rfl, rfl⟩
  rw [show mayP x = (grp x.1 && prt x.2.1 && tm x.2.2.1 && tm x.2.2.2) from rfl]
  cases hw : grp x.1 with
  | false =>
    simp (disch := omega) only [dm_t, wS, simprocAttr, IntKind.bits]
    exact ⟨rfl, e⟩
  | true =>
    simp (disch := omega) only [dm_t, wS, simprocAttr, IntKind.bits, c1]
    refine (DPart_ok g x.2.1).k ?_
    rintro _ _ ⟨rfl, rfl⟩
    cases hp : prt x.2.1 with
    | false =>
      simp (disch := omega) only [dm_t, wS, simprocAttr, IntKind.bits]
      exact ⟨rfl, e⟩
    | true =>
      simp (disch := omega) only [dm_t, wS, simprocAttr, IntKind.bits, c2]
      refine (Dtime_ok g x.2.2.1).k ?_
      rintro _ _ ⟨rfl, rfl⟩
      cases ht : tm x.2.2.1 with
      | false =>
        simp (disch := omega) only [dm_t, wS, simprocAttr, IntKind.bits]
        exact ⟨rfl, e⟩
      | true =>
        simp (disch := omega) only [dm_t, wS, simprocAttr, IntKind.bits, c3]
        refine (Dtime_ok g x.2.2.2).k ?_
        rintro _ _ ⟨rfl, rfl⟩
        simp (disch := omega) only [dm_t, wS, simprocAttr, IntKind.bits]
        exact ⟨rfl, e⟩
end Go.Proofs.Ythhofmjhnjkcfaa.gr
