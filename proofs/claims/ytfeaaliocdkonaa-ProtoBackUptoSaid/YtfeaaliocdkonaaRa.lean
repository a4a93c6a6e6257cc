/-
  proto: some bits within 32 that follow each other turned: the sum is another one; a frame's beginnings.
-/
import Derived.Test.YtfeaaliocdkonaaPq
import Derived.Test.YtfeaaliocdkonaaPv
namespace Go.Proofs.Ytfeaaliocdkonaa.pr
open Go.Proofs.Ytfeaaliocdkonaa rr wi
set_option linter.unusedVariables false
set_option linter.unusedSimpArgs false
theorem step_two : ∀ m : Fin 31, rr.step (BitVec.ofNat 32 (2 ^ (m.val + 1))) = BitVec.ofNat 32 (2 ^ m.val) := by decide
theorem steps_two : ∀ (m : Nat), m < 32 → steps m (BitVec.ofNat 32 (2 ^ m)) = 1#32
  | 0, _ => rfl
  | m + 1, h => by rw [steps, step_two ⟨m, by omega⟩]; exact steps_two m (by omega)
theorem step_zero : rr.step 0#32 = 0#32 := by decide
theorem steps_zero : ∀ n, steps n 0#32 = 0#32
  | 0 => rfl
  | n + 1 => by rw [steps, step_zero]; exact steps_zero n
theorem step_inj {x : BitVec 32} (h : rr.step x = 0#32) : x = 0#32 := by
  by_cases h1 : x.toNat % 2 = 1
  · rw [step_odd h1] at h
    have h2 := congrArg (fun y => BitVec.getLsbD y 31) h
    simp only [BitVec.getLsbD_xor, BitVec.getLsbD_ushiftRight] at h2
    rw [BitVec.getLsbD_of_ge x (1 + 31) (by omega)] at h2
    exact absurd h2 (by decide)
  · rw [step_even h1] at h
    apply BitVec.eq_of_toNat_eq
    have h2 := congrArg BitVec.toNat h
    rw [BitVec.toNat_ushiftRight, Nat.shiftRight_eq_div_pow] at h2
    simp at h2 ⊢
    omega
theorem steps_inj : ∀ {n : Nat} {x : BitVec 32}, steps n x = 0#32 → x = 0#32
  | 0, x, h => h
  | n + 1, x, h => step_inj (steps_inj (n := n) h)
/-- One bit of a power, many steps on. -/
theorem steps_pow {n m : Nat} (hm : m < 32) (hn : m ≤ n) : steps n (BitVec.ofNat 32 (2 ^ m)) = steps (n - m) 1#32 := by
  conv => lhs; rw [show n = m + (n - m) by omega, steps_add, steps_two m hm]
theorem intos_nil (x : BitVec 32) : intos x [] = x := rfl
theorem intos_cons (x : BitVec 32) (c : UInt8) (l : List UInt8) : intos x (c :: l) = intos (into x c) l := rfl
theorem intos_xor : ∀ (l : List UInt8) (x d : BitVec 32), intos (x ^^^ d) l = intos x l ^^^ steps (8 * l.length) d
  | [], x, d => by simp [intos_nil, steps]
  | c :: l, x, d => by
    have h1 : into (x ^^^ d) c = into x c ^^^ steps 8 d := by
      unfold into
      rw [show x ^^^ d ^^^ BitVec.ofNat 32 c.toNat = (x ^^^ BitVec.ofNat 32 c.toNat) ^^^ d by rw [BitVec.xor_assoc, BitVec.xor_comm d, ← BitVec.xor_assoc], steps_xor]
    rw [intos_cons, h1, intos_xor l, intos_cons, ← steps_add]
    congr 2
    rw [List.length_cons]; omega
/-- A byte with one bit turned. -/
def turn (c : UInt8) (m : Nat) : UInt8 := UInt8.ofNat (BitVec.ofInt 8 (c.toNat : Int) ^^^ BitVec.ofNat 8 (2 ^ m)).toNat
theorem turn_bits (c : UInt8) {m : Nat} (hm : m < 8) : BitVec.ofNat 32 (turn c m).toNat = BitVec.ofNat 32 c.toNat ^^^ BitVec.ofNat 32 (2 ^ m) := by
  have hy := (BitVec.ofInt 8 (c.toNat : Int) ^^^ BitVec.ofNat 8 (2 ^ m)).isLt
  have h1 : (turn c m).toNat = (BitVec.ofInt 8 (c.toNat : Int) ^^^ BitVec.ofNat 8 (2 ^ m)).toNat := by
    rw [turn, UInt8.toNat_ofNat']; omega
  have hc := c.toNat_lt
  rw [h1, BitVec.ofNat_toNat, BitVec.setWidth_xor]
  congr 1
  · rw [BitVec.ofInt_natCast]
    apply BitVec.eq_of_toNat_eq
    simp
  · have : m = 0 ∨ m = 1 ∨ m = 2 ∨ m = 3 ∨ m = 4 ∨ m = 5 ∨ m = 6 ∨ m = 7 := by omega
    rcases this with rfl | rfl | rfl | rfl | rfl | rfl | rfl | rfl <;> decide
theorem into_turn (x : BitVec 32) (c : UInt8) {m : Nat} (hm : m < 8) : into x (turn c m) = into x c ^^^ steps (8 - m) 1#32 := by
  unfold into
  rw [turn_bits c hm, ← BitVec.xor_assoc, steps_xor, steps_pow (by omega) (by omega)]
/-- Bytes with one bit turned. -/
theorem intos_turn : ∀ (l : List UInt8) (x : BitVec 32) (q m : Nat) (hq : q < l.length), m < 8 → intos x (l.set q (turn l[q] m)) = intos x l ^^^ steps (8 * l.length - (8 * q + m)) 1#32
  | c :: l, x, 0, m, hq, hm => by
    simp only [List.set_cons_zero, List.getElem_cons_zero]
    rw [intos_cons, into_turn x c hm, intos_xor, ← steps_add, intos_cons]
    congr 2
    rw [List.length_cons]; omega
  | c :: l, x, q + 1, m, hq, hm => by
    simp only [List.set_cons_succ, List.getElem_cons_succ]
    rw [intos_cons, intos_turn l (into x c) q m (by simpa using hq) hm, intos_cons]
    congr 2
    rw [List.length_cons]; omega
/-- What the turned bits have done so far: k of 32 are done. -/
structure TB (b tb : List UInt8) (at' k : Nat) : Prop where
  len : tb.length = b.length
  ex : ∃ D : BitVec 32, D.toNat < 2 ^ k ∧ (D = 0#32 → tb = b) ∧ intos (~~~0#32) tb = intos (~~~0#32) b ^^^ steps (8 * b.length - at') D
theorem tb0 (b : List UInt8) (at' : Nat) : TB b b at' 0 := ⟨rfl, 0#32, by decide, fun _ => rfl, by rw [steps_zero]; simp⟩
theorem TB.skip {b tb : List UInt8} {at' k : Nat} (T : TB b tb at' k) : TB b tb at' (k + 1) := by
  obtain ⟨D, h1, h2, h3⟩ := T.ex
  exact ⟨T.len, D, by rw [Nat.pow_succ]; omega, h2, h3⟩
theorem TB.turn {b tb : List UInt8} {at' k : Nat} (T : TB b tb at' k) (hk : k < 32) (hq : at' + k < 8 * b.length) : TB b (tb.set ((at' + k) / 8) (pr.turn (tb[(at' + k) / 8]'(by have := T.len; omega)) ((at' + k) % 8))) at' (k + 1) := by
  obtain ⟨D, h1, h2, h3⟩ := T.ex
  have hl := T.len
  have hp : (BitVec.ofNat 32 (2 ^ k)).toNat = 2 ^ k := by
    rw [BitVec.toNat_ofNat, Nat.mod_eq_of_lt]
    exact Nat.pow_lt_pow_right (by decide) hk
  have hx : (D ^^^ BitVec.ofNat 32 (2 ^ k)).toNat = D.toNat + 2 ^ k := by
    rw [BitVec.toNat_xor, hp, Nat.xor_comm]
    have h5 : 2 ^ k ^^^ D.toNat = 2 ^ k + D.toNat := by
      have h6 := Nat.two_pow_add_eq_or_of_lt h1 1
      rw [Nat.mul_one] at h6
      rw [h6]
      apply Nat.eq_of_testBit_eq
      intro i
      rw [Nat.testBit_xor, Nat.testBit_or, Nat.testBit_two_pow]
      by_cases hi : k = i
      · subst hi
        rw [Nat.testBit_lt_two_pow h1]; simp
      · simp [hi]
    omega
  refine ⟨by rw [List.length_set]; exact hl, D ^^^ BitVec.ofNat 32 (2 ^ k), ?_, ?_, ?_⟩
  · rw [hx, Nat.pow_succ]; omega
  · intro h0
    have := congrArg BitVec.toNat h0
    rw [hx] at this
    have hpos : 0 < 2 ^ k := Nat.pow_pos (by decide)
    simp at this
  · rw [intos_turn tb _ _ _ (by omega) (Nat.mod_lt _ (by decide)), h3, steps_xor, steps_pow hk (by omega), BitVec.xor_assoc, hl]
    congr 3
    omega
theorem TB.sum {b tb : List UInt8} {at' k : Nat} (T : TB b tb at' k) (hn : ¬ tb = b) : ¬ sumB tb = sumB b := by
  obtain ⟨D, h1, h2, h3⟩ := T.ex
  intro h
  unfold sumB at h
  have h4 : intos (~~~0#32) tb = intos (~~~0#32) b := by
    have := congrArg (fun x : BitVec 32 => ~~~x) h
    simpa using this
  rw [h3] at h4
  have h5 : steps (8 * b.length - at') D = 0#32 := by
    have := congrArg (fun x => intos (~~~0#32) b ^^^ x) h4
    simpa [← BitVec.xor_assoc] using this
  exact hn (h2 (steps_inj h5))
/-- A frame whose body was changed is none. -/
theorem split_turned {b tb : List UInt8} (h1 : 1 ≤ b.length) (h2 : b.length ≤ 1048568) (hl : tb.length = b.length) (hs : ¬ sumB tb = sumB b) : splitE (low 4 (b.length + 4) ++ (low 4 (sumB b).toNat ++ tb)) = 300 := by
  generalize hf : low 4 (b.length + 4) ++ (low 4 (sumB b).toNat ++ tb) = f
  have n1 : num (f.take 4) = b.length + 4 := by
    have := num_mid (a := []) (c := low 4 (sumB b).toNat ++ tb) (k := 0) (n := 4) (x := b.length + 4) rfl (by omega)
    rw [List.drop_zero, List.nil_append, hf] at this
    exact this
  have n2 : num ((f.drop 4).take 4) = (sumB b).toNat := by
    rw [← hf]; exact num_mid (low_len _ _).symm (sumB b).isLt
  have hB : splitB f = tb := by
    rw [splitB, n1, ← hf, ← List.append_assoc]
    have := mid (a := low 4 (b.length + 4) ++ low 4 (sumB b).toNat) (b := tb) (c := []) (k := 8) (n := b.length + 4 - 4) (by simp [low_len]) (by omega)
    simpa using this
  have hlen : f.length = b.length + 8 := by rw [← hf]; simp only [List.length_append, low_len]; omega
  rw [splitE, if_neg (by omega), n1, if_neg (by omega), if_neg (by omega), n2, hB, if_pos fun h => hs (BitVec.eq_of_toNat_eq h.symm)]
/-- A frame's beginning wants more. -/
theorem split_pre {b : List UInt8} {m : Nat} (h1 : 1 ≤ b.length) (h2 : b.length ≤ 1048568) (hm : m < b.length + 8) : splitE ((sealB b).take m) = 111 := by
  have hl := sealB_len b
  have hlm : ((sealB b).take m).length = m := by rw [List.length_take]; omega
  by_cases h4 : m < 4
  · rw [splitE, if_pos (by omega)]
  have n1 : num (((sealB b).take m).take 4) = b.length + 4 := by
    rw [List.take_take, Nat.min_eq_left (by omega)]
    have := num_mid (a := []) (c := low 4 (sumB b).toNat ++ b) (k := 0) (n := 4) (x := b.length + 4) rfl (by omega)
    rw [List.drop_zero, List.nil_append] at this
    exact this
  rw [splitE, if_neg (by omega), n1, if_neg (by omega), if_pos (by omega)]
end Go.Proofs.Ytfeaaliocdkonaa.pr
namespace Go.Proofs.Ytfeaaliocdkonaa.pr
open Go.Proofs.Ytfeaaliocdkonaa rr wi
set_option linter.unusedVariables false
set_option linter.unusedSimpArgs false
theorem RdX.of {h g : H} {b xb k0 k : Nat} {s : Value} {l : List UInt8} (r0 : RdX h b xb s l k0) (F : Fr (fun y => y = b ∨ y = xb) h g) (q : g b = some (.cells #[s, .int .i64 (k : Int), .bool true] 134)) (hk : k ≤ l.length) : RdX g b xb s l k := by
  have hx := SlK.fr r0.x F fun y hy => hy
  exact ⟨⟨q, SlK.mono hx fun _ _ _ h => .inl h, hk, r0.r.big⟩, hx, r0.ne⟩
theorem msB_split {marks : List Int} {i : Nat} (hi : i < marks.length) : msB marks = msB (marks.take i) ++ (low 8 (bits64 marks[i]) ++ msB (marks.drop (i + 1))) := by
  have h1 : marks = marks.take i ++ (marks[i] :: marks.drop (i + 1)) := by
    rw [List.getElem_cons_drop, List.take_append_drop]
  conv => lhs; rw [h1]
  simp only [msB, List.map_append, List.map_cons, List.flatten_append, List.flatten_cons]
/-- How the closure ends on a reply's body. -/
abbrev AR (x : ansT.D) (xb b : Nat) (s : Value) (l : List UInt8) (h : H) : Ending → H → Prop := ClR ansT 73 (fun _ => some (x, (bodyA x).length)) xb b s l h
theorem A1_i {h : H} {b xb : Nat} {s : Value} {recs : List rc.D} {marks : List Int} (kind number err off : Int) (hB : aB (kind, number, err, off, recs, marks)) (hmb : ∀ m ∈ marks, inI m) (hck : ckA (kind, number, err, off, recs, marks) = 0) (r0 : RdX h b xb s (bodyA (kind, number, err, off, recs, marks)) 0)
    (qx : h xb = some (.cells #[.int .i64 0, .int .u32 0, .int .i64 0, .int .i64 0, .slice none 0 0, .slice none 0 0] 73)) :
    CallsE Try.prog 69 #[.agg #[.pointer (some ⟨b, 0, none⟩)], .pointer (some ⟨xb, 0, none⟩)] h (AR (kind, number, err, off, recs, marks) xb b s (bodyA (kind, number, err, off, recs, marks)) h) := by
  have A := ckA_k hck
  have hlen := bodyA_len A
  obtain ⟨hk, he, ho, hml, hms, hrl, hrm, h1, h2, h3, h4, h5⟩ := A
  have hB0 := hB
  obtain ⟨b1, b2, b3, b4⟩ := hB
  have b2' : 0 ≤ number ∧ number ≤ 4294967295 := b2
  have htA : tailA (kind, number, err, off, recs, marks) = if ¬ err = 0 then [] else if kind = 1 then low 8 (bits64 off) else if kind = 2 then low 8 (bits64 off) ++ bodyR recs else low 4 marks.length ++ msB marks := rfl
  have e0 : bodyA (kind, number, err, off, recs, marks) = [UInt8.ofNat (kind + 128).toNat] ++ (low 4 number.toNat ++ (low 2 err.toNat ++ tailA (kind, number, err, off, recs, marks))) := by
    simp [bodyA, headA]
  have e1' : bodyA (kind, number, err, off, recs, marks) = ([UInt8.ofNat (kind + 128).toNat] ++ low 4 number.toNat) ++ (low 2 err.toNat ++ tailA (kind, number, err, off, recs, marks)) := by rw [e0]; simp
  have e2' : bodyA (kind, number, err, off, recs, marks) = headA kind number err ++ tailA (kind, number, err, off, recs, marks) := rfl
  have hhl := headA_len kind number err
  have hrd : ∀ l' : List UInt8, (fun _ : List UInt8 => some ((kind, number, err, off, recs, marks), (bodyA (kind, number, err, off, recs, marks)).length)) l' = some ((kind, number, err, off, recs, marks), (bodyA (kind, number, err, off, recs, marks)).length) := fun _ => rfl
  generalize hbody : bodyA (kind, number, err, off, recs, marks) = l at *
  generalize tailA (kind, number, err, off, recs, marks) = T at *
  generalize hhd : headA kind number err = hd at *
  have hll : l.length = 7 + T.length := by rw [e2', List.length_append, hhl]
  have hK8 : (num ((l.drop 0).take 1) : Int) = kind + 128 := by
    rw [e0]
    have h1 : (([UInt8.ofNat (kind + 128).toNat] ++ (low 4 number.toNat ++ (low 2 err.toNat ++ T))).drop 0).take 1 = [UInt8.ofNat (kind + 128).toNat] := rfl
    rw [h1, num, num, UInt8.toNat_ofNat']
    omega
  have hN8 : (num ((l.drop (0 + 1)).take 4) : Int) = number := by
    rw [e0, num_mid (a := [UInt8.ofNat (kind + 128).toNat]) (k := 0 + 1) rfl (by omega)]; omega
  have hE8 : (num ((l.drop (0 + 1 + 4)).take 2) : Int) = err := by
    rw [e1', num_mid (by simp [low_len]) (by omega)]; omega
  refine c69_ce (args := [_, _]) (by simp) ?_
  have hbig := r0.r.big
  simp (disch := omega) only [dm_t, wS, simprocAttr, IntKind.bits]
  intro qb hqb
  generalize hG : hupd h qb _ = G
  obtain ⟨e1, q⟩ := new_ext hG hqb
  clear hG
  have hne : qb ≠ b := fun h => ne_of r0.r.obj hqb h.symm
  have hne2 : qb ≠ xb := fun h => ne_of qx hqb h.symm
  have r := r0.ext e1
  replace qx := e1.at qx
  have cc : ∀ g, Fr (fun y => y = b ∨ y = xb) G g → cellAt g ⟨qb, 0, none⟩ = some (.pointer (some ⟨b, 0, none⟩)) := fun g f => by rw [cellAt_of (f _ _ q fun hh => hh.elim hne hne2)]; rfl
  have c0 := cc G (Fr.refl _ _)
  have F0 : ∀ g, Fr (fun y => y = b) G g → Fr (fun y => y = b ∨ y = xb) G g := fun g f => f.mono fun _ h => .inl h
  have toh : ∀ g', Fr (fun y => y = b ∨ y = xb) G g' → Fr (fun y => y = b ∨ y = xb) h g' := fun g' f => (e1.mono fun _ h => h.elim).trans f
  simp (disch := omega) only [dm_t, wS, simprocAttr, IntKind.bits, c0]
  refine (U8_ok r.r (by omega)).k ?_
  rintro _ g1 ⟨rfl, r1, f1⟩
  rw [hK8]
  have c1 := cc g1 (F0 _ f1)
  simp (disch := omega) only [dm_t, wS, simprocAttr, IntKind.bits, c1]
  refine (mU8_ok _ _).k ?_
  rintro _ _ ⟨rfl, rfl⟩
  simp (disch := omega) only [dm_t, wS, simprocAttr, IntKind.bits, c1]
  refine (U32_ok r1 (by omega)).k ?_
  rintro _ g2 ⟨rfl, r2, f2⟩
  rw [hN8]
  have c2 := cc g2 (F0 _ (f1.trans f2))
  simp (disch := omega) only [dm_t, wS, simprocAttr, IntKind.bits, c2]
  refine (mU32_ok _ _).k ?_
  rintro _ _ ⟨rfl, rfl⟩
  simp (disch := omega) only [dm_t, wS, simprocAttr, IntKind.bits, c2]
  refine (U16_ok r2 (by omega)).k ?_
  rintro _ g3 ⟨rfl, r3, f3⟩
  rw [hE8]
  have f123 := (f1.trans f2).trans f3
  have c3 := cc g3 (F0 _ f123)
  simp (disch := omega) only [dm_t, wS, simprocAttr, IntKind.bits, c3]
  refine (mU16_ok _ _).k ?_
  rintro _ _ ⟨rfl, rfl⟩
  have qx3 := f123 _ _ qx fun hh => r.ne hh.symm
  simp (disch := omega) only [dm_t, wS, simprocAttr, IntKind.bits, c3, storeH_0 qx3, storeH_same, hupd_hupd, Int.add_sub_cancel]
  have hq : ∀ (g : H) (o : Obj), ∃ g', hupd g xb o = g' ∧ g' xb = some o ∧ Fr (fun y => y = xb) g g' := fun g o => ⟨_, rfl, hupd_same _ _ _, Fr.upd (S := fun y => y = xb) rfl _⟩
  obtain ⟨g4, hg4, q4, f4⟩ := hq g3 (.cells #[.int .i64 kind, .int .u32 number, .int .i64 err, .int .i64 0, .slice none 0 0, .slice none 0 0] 73)
  rw [hg4]
  have F4 : Fr (fun y => y = b ∨ y = xb) G g4 := (F0 _ f123).trans (f4.mono fun _ h => .inr h)
  have r4 := (r.to r3 f123).put f4
  have c4 := cc g4 F4
  have k0 : cellAt g4 ⟨xb, 0, none⟩ = some (.int .i64 kind) := by rw [cellAt_of q4]; rfl
  have k2 : cellAt g4 ⟨xb, 2, none⟩ = some (.int .i64 err) := by rw [cellAt_of q4]; rfl
  by_cases z : err = 0
  case neg =>
    obtain ⟨h11, h12, h13⟩ := h1 z
    rw [if_pos z] at htA
    simp (disch := omega) only [dm_t, wS, simprocAttr, IntKind.bits, k2]
    refine .inl ⟨_, _, _, rfl, rfl, q4, rep_ans.2 ⟨_, _, by rw [h11]; rfl, hB0, by rw [h12]; exact RepL.nil, by rw [h13]; exact RepL.nil⟩, ?_, toh _ F4⟩
    have := r4.r
    rwa [show 0 + 1 + 4 + 2 = (bodyA (kind, number, err, off, recs, marks)).length by rw [hbody, hll, htA]; rfl] at this
  rw [if_neg (fun h => h z)] at htA
  have hr7 : RdX g4 b xb s l 7 := r4
  have hfin : ∀ (g : H) (w m : Value) (kk : Nat), g xb = some (.cells (aCs (kind, number, err, off, recs, marks) w m).toArray 73) → RepL (fun y => h y ≠ none) rc g w recs → RepL (fun y => h y ≠ none) (.int .i64) g m marks → Rd g b s l kk → kk = l.length → Fr (fun y => y = b ∨ y = xb) G g → AR (kind, number, err, off, recs, marks) xb b s l h (.returned (.tuple #[])) g := by
    intro g w m kk q hw hm hr hkk f
    refine .inl ⟨_, _, _, rfl, rfl, q, rep_ans.2 ⟨_, _, rfl, hB0, hw, hm⟩, ?_, toh _ f⟩
    rwa [hbody, ← hkk]
  by_cases k1 : kind = 1
  · rw [if_pos k1] at htA
    have hTl : T.length = 8 := by rw [htA, low_len]
    have ht : sgn64 (num ((l.drop 7).take 8)) = off := by
      rw [e2', htA]
      have := sgn_mid (a := hd) (c := []) (k := 7) (t := off) hhl.symm b4
      simpa using this
    have hr0 : recs = [] := h2 (by omega)
    have hm0 : marks = [] := h3 (by omega)
    simp (disch := omega) only [dm_t, wS, simprocAttr, IntKind.bits, k2, k0, c4]
    refine (I64_ok hr7.r (by omega)).k ?_
    rintro _ g5 ⟨rfl, r5, f5⟩
    rw [ht]
    have F5 := F4.trans (f5.mono fun _ h => .inl h)
    have q5 := f5 _ _ q4 fun hh => r.ne hh.symm
    simp (disch := omega) only [dm_t, wS, simprocAttr, IntKind.bits]
    refine (mI64_ok _ _).k ?_
    rintro _ _ ⟨rfl, rfl⟩
    simp (disch := omega) only [dm_t, wS, simprocAttr, IntKind.bits, storeH_0 q5]
    obtain ⟨g6, hg6, q6, f6⟩ := hq g5 (.cells #[.int .i64 kind, .int .u32 number, .int .i64 err, .int .i64 off, .slice none 0 0, .slice none 0 0] 73)
    rw [hg6]
    exact hfin g6 _ _ 15 q6 (by rw [hr0]; exact RepL.nil) (by rw [hm0]; exact RepL.nil) ((hr7.to r5 f5).put f6).r (by omega) (F5.trans (f6.mono fun _ h => .inr h))
  rw [if_neg k1] at htA
  by_cases k2' : kind = 2
  · rw [if_pos k2'] at htA
    have hTl : T.length = 8 + (bodyR recs).length := by rw [htA, List.length_append, low_len]
    have hm0 : marks = [] := h3 (by omega)
    have ht : sgn64 (num ((l.drop 7).take 8)) = off := by
      rw [e2', htA]; exact sgn_mid hhl.symm b4
    have hrr : rdRecL l 15 = some (recs, 15 + (bodyR recs).length) := by
      have := rdRecL_mid (a := hd ++ low 8 (bits64 off)) (c := []) (l := recs) (k := 15) (by rw [List.length_append, low_len, hhl]) hrm hrl
      rw [List.append_nil, List.append_assoc, ← htA, ← e2'] at this
      exact this
    have ld : ∀ g, Fr (fun y => y = b ∨ y = xb) G g → cellsAt g ⟨qb, 0, none⟩ 1 = some #[.pointer (some ⟨b, 0, none⟩)] := fun g f => cellsAt_all (f _ _ q fun hh => hh.elim hne hne2) 1 rfl
    simp (disch := omega) only [dm_t, wS, simprocAttr, IntKind.bits, k2, k0, c4, ld _ F4]
    refine (I64_ok hr7.r (by omega)).k ?_
    rintro _ g5 ⟨rfl, r5, f5⟩
    rw [ht]
    have F5 := F4.trans (f5.mono fun _ h => .inl h)
    have q5 := f5 _ _ q4 fun hh => r.ne hh.symm
    have r5' := hr7.to r5 f5
    simp (disch := omega) only [dm_t, wS, simprocAttr, IntKind.bits, cc _ F5, ld _ F5]
    refine (mI64_ok _ _).k ?_
    rintro _ _ ⟨rfl, rfl⟩
    simp (disch := omega) only [dm_t, wS, simprocAttr, IntKind.bits, cc _ F5, ld _ F5]
    refine list_k r5'.r ?_ ?_
    · intro v g6 recs' k' h6 hv6 r6 f6
      rw [hrr] at h6
      obtain ⟨rfl, rfl⟩ : recs = recs' ∧ 15 + (bodyR recs).length = k' := by simpa using h6
      have F6 := F5.trans (f6.mono fun _ h => .inl h)
      have q6 := f6 _ _ q5 fun hh => r.ne hh.symm
      have hvc := Rep.cells hv6
      obtain ⟨va, vz, rfl⟩ := hv6.len
      simp (disch := omega) only [dm_t, wS, simprocAttr, IntKind.bits, cc _ F6, ld _ F6, storeH_0 q6, storeH_same, hupd_hupd]
      obtain ⟨g7, hg7, q7, f7⟩ := hq g6 (.cells #[.int .i64 kind, .int .u32 number, .int .i64 err, .int .i64 off, .slice va recs.length vz, .slice none 0 0] 73)
      rw [hg7]
      refine hfin g7 _ _ _ q7 ?_ (by rw [hm0]; exact RepL.nil) ((r5'.to r6 f6).put f7).r (by omega) (F6.trans (f7.mono fun _ h => .inr h))
      refine RepL.mono (RepL.fr hv6 f7 fun y hy => by rw [hy, q5]; simp) fun y o _ hy => ?_
      by_cases hyx : y = b ∨ y = xb
      · rcases hyx with rfl | rfl
        · rw [r5'.r.obj]; simp
        · rw [q5]; simp
      · obtain ⟨o, ho⟩ := Option.ne_none_iff_exists'.1 hy
        rw [toh _ F5 _ _ ho hyx]; simp
    · intro g6 h6
      rw [hrr] at h6; cases h6
  rw [if_neg k2'] at htA
  have k3 : kind = 3 := by omega
  have hr0 : recs = [] := h2 (by omega)
  have ho0 : off = 0 := h4 k3
  have hTl : T.length = 4 + 8 * marks.length := by rw [htA, List.length_append, low_len, msB_len]
  have hn : num ((l.drop 7).take 4) = marks.length := by
    rw [e2', htA]; exact num_mid hhl.symm (by omega)
  simp (disch := omega) only [dm_t, wS, simprocAttr, IntKind.bits, k2, k0, c4]
  refine (U32_ok hr7.r (by omega)).k ?_
  rintro _ g5 ⟨rfl, r5, f5⟩
  rw [hn]
  have F5 := F4.trans (f5.mono fun _ h => .inl h)
  have q5 := f5 _ _ q4 fun hh => r.ne hh.symm
  simp (disch := omega) only [dm_t, wS, simprocAttr, IntKind.bits]
  refine (mU32_ok _ _).k ?_
  rintro _ _ ⟨rfl, rfl⟩
  simp (disch := omega) only [dm_t, wS, simprocAttr, IntKind.bits]
  refine vc_loop1 (fun vi g => ∃ (i : Nat) (vm : Value), vi = .int .u32 (i : Int) ∧ i ≤ marks.length ∧ Rd g b s l (11 + 8 * i) ∧ Fr (fun y => y = b ∨ y = xb) G g ∧ g xb = some (.cells #[.int .i64 kind, .int .u32 number, .int .i64 err, .int .i64 0, .slice none 0 0, vm] 73) ∧
    O1 (fun y => G y = none) g 2 vm ((marks.take i).map (.int .i64))) (fun vi _ => marks.length - m1 vi) ?_ ?_
  · simp (disch := omega) only [dm_t, wS, simprocAttr, IntKind.bits]
    exact ⟨0, _, rfl, by omega, r5, F5, q5, OwK.nil⟩
  rintro _ g6 ⟨i, vm, rfl, hi, r6, F6, q6, o6⟩
  by_cases hil : i < marks.length
  · have ht : sgn64 (num ((l.drop (11 + 8 * i)).take 8)) = marks[i] := by
      rw [e2', htA, msB_split hil, ← List.append_assoc (low 4 _), ← List.append_assoc hd]
      refine sgn_mid ?_ (hmb _ (List.getElem_mem hil))
      simp only [List.length_append, low_len, msB_len, List.length_take, hhl]
      omega
    have m5 : cellAt g6 ⟨xb, 5, none⟩ = some vm := by rw [cellAt_of q6]; rfl
    have hbd := hmb _ (List.getElem_mem hil)
    simp (disch := omega) only [dm_t, wS, simprocAttr, IntKind.bits, m5, cc _ F6]
    refine (I64_ok r6 (by omega)).k ?_
    rintro _ g7 ⟨rfl, r7, f7⟩
    rw [ht]
    have F7 := F6.trans (f7.mono fun _ h => .inl h)
    have q7 := f7 _ _ q6 fun hh => r.ne hh.symm
    have m7 : cellAt g7 ⟨xb, 5, none⟩ = some vm := by rw [cellAt_of q7]; rfl
    simp (disch := omega) only [dm_t, wS, simprocAttr, IntKind.bits, m7, cc _ F7]
    refine (mI64_ok _ _).k ?_
    rintro _ _ ⟨rfl, rfl⟩
    have hbG : G b ≠ none := r.r.there
    have o7 := OwK.fr o6 f7 fun y hy hn _ => hbG (by rw [← hy]; exact hn)
    have hback : ∀ y, g7 y = none → G y = none := fun y hy => F7.back hy fun z hz => hz.elim (fun hz => by rw [hz]; exact r7.there) fun hz => by rw [hz, q7]; simp
    simp (disch := omega) only [dm_t, wS, simprocAttr, IntKind.bits, m7, cc _ F7]
    intro lb hlb
    have eb := Ext.new hlb (.cells #[.int .i64 marks[i]] 2)
    simp (disch := omega) only [dm_t, wS, simprocAttr, IntKind.bits, cellAt_ext eb m7, cellAt_ext eb (cc _ F7)]
    refine push1 (V := fun _ => _) (bytes := 8) (v := .int .i64 marks[i]) o7 hback rfl (by simp; omega) (by simp; omega) ?_ lb hlb
    intro _ vm8 g8 _ o8 f8
    have F8 : Fr (fun y => y = b ∨ y = xb) G g8 := fun y o hy hn => f8 _ _ (F7 _ _ hy hn) fun hh => by rw [hh.1] at hy; cases hy
    have q8 := f8 _ _ q7 fun hh => by rw [hh.1] at qx; cases qx
    have rb8 := f8 _ _ r7.obj fun hh => hbG hh.1
    obtain ⟨va8, vc8, rfl⟩ := S1.len o8.s0
    have m8 : cellAt g8 ⟨xb, 5, none⟩ = some vm := by rw [cellAt_of q8]; rfl
    have hl8 : ((marks.take i).map (Value.int .i64) ++ [Value.int .i64 marks[i]]).length = i + 1 := by simp; omega
    rw [hl8] at o8 ⊢
    simp (disch := omega) only [dm_t, wS, simprocAttr, IntKind.bits, m8, cc _ F8, storeH_0 q8]
    have f9 := Fr.upd (h := g8) (b := xb) (S := fun y => y = xb) rfl (.cells #[.int .i64 kind, .int .u32 number, .int .i64 err, .int .i64 0, .slice none 0 0, .slice va8 (i + 1) vc8] 73)
    have q9 : hupd g8 xb (.cells #[.int .i64 kind, .int .u32 number, .int .i64 err, .int .i64 0, .slice none 0 0, .slice va8 (i + 1) vc8] 73) xb = some (.cells #[.int .i64 kind, .int .u32 number, .int .i64 err, .int .i64 0, .slice none 0 0, .slice va8 (i + 1) vc8] 73) := hupd_same _ _ _
    have hxG : G xb ≠ none := by rw [qx]; simp
    have o9 := OwK.fr o8 f9 fun y hy hn _ => hxG (by rw [← hy]; exact hn)
    have F9 := F8.trans (f9.mono fun _ h => .inr h)
    have rb9 := f9 _ _ rb8 r.ne
    have hmap : (marks.take (i + 1)).map (Value.int .i64) = (marks.take i).map (Value.int .i64) ++ [Value.int .i64 marks[i]] := by
      rw [show marks.take (i + 1) = marks.take i ++ [marks[i]] by simp, List.map_append]; rfl
    refine ⟨⟨i + 1, _, by simp, by omega, ?_, F9, q9, by rw [hmap]; exact o9⟩, by simp [m1]; omega⟩
    have r9 := (RdX.of r F9 (k := 11 + 8 * i + 8) rb9 (by omega)).r
    rwa [show 11 + 8 * (i + 1) = 11 + 8 * i + 8 by omega]
  · obtain rfl : i = marks.length := by omega
    rw [List.take_length] at o6
    simp (disch := omega) only [dm_t, wS, simprocAttr, IntKind.bits]
    have q6' : g6 xb = some (.cells (aCs (kind, number, err, off, recs, marks) (.slice none 0 0) vm).toArray 73) := by rw [q6, ho0]; rfl
    refine hfin g6 _ vm (11 + 8 * marks.length) q6' (by rw [hr0]; exact RepL.nil) ?_ r6 (by omega) F6
    refine iRep (OwK.sl o6 fun y hy hn => hn (e1.bk hy)) fun m hm => hmb m hm
theorem Answer_ok {S : Nat → Prop} {h : H} {v : Value} {x : ansT.D} (hb : By S h v (sealB (bodyA x))) (hB : aB x) (hmb : ∀ m ∈ x.2.2.2.2.2, inI m) (hck : ckA x = 0) :
    Ok Try.prog 36 #[v] h fun r h' => (∃ cs, r = .tuple #[.agg cs.toArray, .int .i64 0] ∧ Rep nos ansT h' cs x) ∧ Ext h h' := by
  have A : AOk x.1 x.2.1 x.2.2.1 x.2.2.2.1 x.2.2.2.2.1 x.2.2.2.2.2 := ckA_k hck
  have hml := A.ml
  have hlen : 7 ≤ (bodyA x).length ∧ (bodyA x).length ≤ 1048568 := bodyA_len A
  obtain ⟨sp1, sp2, sp3⟩ := split_seal (b := bodyA x) (c := []) (by omega) (by omega)
  rw [List.append_nil] at sp1 sp2 sp3
  have hsl := sealB_len (bodyA x)
  have ho : openE (fun _ => some (x, (bodyA x).length)) (sealB (bodyA x)) = 0 := by
    rw [openE, if_neg (fun h => h sp1), if_neg (fun h => h (by rw [sp2, hsl])), sp3, readE_some rfl, if_pos rfl]
  generalize sealB (bodyA x) = f at *
  obtain ⟨sa, sc, rfl⟩ := hb.len
  refine c36_ok (args := [_]) (by simp) ?_
  simp (disch := omega) only [dm_t, wS, simprocAttr, IntKind.bits]
  intro ra hra
  simp (disch := omega) only [dm_t, wS, simprocAttr, IntKind.bits]
  intro xb hxb
  generalize hG : hupd h ra _ = G at hxb ⊢
  obtain ⟨e1, q1⟩ := new_ext hG hra
  clear hG
  generalize hG : hupd G xb _ = g2
  obtain ⟨e2, q2⟩ := new_ext hG hxb
  clear hG
  have hrx : ra ≠ xb := ne_of q1 hxb
  have E2 := e1.trans e2
  simp (disch := omega) only [dm_t, wS, simprocAttr, IntKind.bits]
  refine (open_ok (ty := ansT) (T := 73) (rd := fun _ => some (x, (bodyA x).length)) (SlK.ext hb E2) (by omega) (by rfl) q2 (fun g b s l r q hl => ?_)).k ?_
  · rw [sp3] at hl
    subst hl
    exact A1_i x.1 x.2.1 x.2.2.1 x.2.2.2.1 hB hmb hck r q
  rintro _ g3 ⟨rfl, f3, _, h3⟩
  obtain ⟨cs, d, k', h4, q3, h5⟩ := h3 ho
  obtain ⟨rfl, _⟩ : x = d ∧ (bodyA x).length = k' := by simpa using h4
  rw [ho]
  have hlen := Rep.len h5
  have l3 : cellsAt g3 ⟨xb, 0, none⟩ 6 = some cs.toArray := cellsAt_all q3 6 hlen
  simp (disch := omega) only [dm_t, wS, simprocAttr, IntKind.bits, l3]
  refine (CkA_ok h5 (by omega)).k ?_
  rintro _ g4 ⟨rfl, e4⟩
  rw [hck]
  have q4 := e4.at q3
  have r4 := e4.at (f3 _ _ (e2.at q1) hrx)
  have l4 : cellsAt g4 ⟨xb, 0, none⟩ 6 = some cs.toArray := cellsAt_all q4 6 hlen
  simp (disch := omega) only [dm_t, wS, simprocAttr, IntKind.bits, l4]
  refine ⟨hlen, storeH_all r4 (by rw [hlen]; rfl) (Rep.cells h5) ?_⟩
  generalize hG : hupd g4 ra _ = g5
  have q5 : g5 ra = some (.cells cs.toArray 73) := by rw [← hG, hupd_same]
  have f5 : Fr (fun y => y = ra) g4 g5 := by rw [← hG]; exact Fr.upd (S := fun y => y = ra) rfl _
  simp (disch := omega) only [dm_t, wS, simprocAttr, IntKind.bits, cellsAt_all q5 6 hlen]
  refine ⟨⟨cs, rfl, ?_⟩, ?_⟩
  · exact Rep.mono (Rep.fr (Rep.ext h5 e4) f5 fun y hy => by rw [hy, e2.at q1]; simp) fun _ _ _ h => h.elim
  · intro y o hy _
    have hyr : y ≠ ra := fun hh => by rw [hh, hra] at hy; cases hy
    have hyx : y ≠ xb := fun hh => by rw [hh, e1.bk hxb] at hy; cases hy
    exact f5 _ _ (e4.at (f3 _ _ (E2.at hy) hyx)) hyr
end Go.Proofs.Ytfeaaliocdkonaa.pr
