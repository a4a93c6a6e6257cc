/-
  proto: ProtoBack walked: bits turned.
-/
import Derived.Test.YtfeaaliocdkonaaRc
import Derived.Test.YtfeaaliocdkonaaRa
namespace Go.Proofs.Ytfeaaliocdkonaa.pr
open Go.Proofs.Ytfeaaliocdkonaa rr wi
set_option linter.unusedVariables false
set_option linter.unusedSimpArgs false
abbrev backT : Ty := .pair reqT (.pair ansT (.pair (.sl (.int .i64)) (.pair (.int .i64) (.int .u32))))
theorem rep_back {S : Nat → Prop} {h : H} {cs : List Value} {x : backT.D} (r : Rep S backT h cs x) : ∃ w w' m v, cs = qCs x.1 w ++ (aCs x.2.1 w' m ++ [v, .int .i64 x.2.2.2.1, .int .u32 x.2.2.2.2]) ∧ Rep S reqT h (qCs x.1 w) x.1 ∧ Rep S ansT h (aCs x.2.1 w' m) x.2.1 ∧ RepL S (.int .i64) h v x.2.2.1 ∧ inI x.2.2.2.1 ∧ inU x.2.2.2.2 := by
  obtain ⟨_, _, rfl, r1, _, _, rfl, r2, _, _, rfl, r3, _, _, rfl, ⟨rfl, b4⟩, rfl, b5⟩ := r
  obtain ⟨w, rfl, _⟩ := rep_req.1 r1
  obtain ⟨w', m, rfl, _⟩ := rep_ans.1 r2
  obtain ⟨v, _, rfl, _⟩ := id r3
  exact ⟨w, w', m, v, rfl, r1, r2, r3, b4, b5⟩
abbrev QB (h : H) : Post := retQ [2] (okR fun v h' => v = .bool true ∧ Ext h h')
theorem mod_place (a : Int) {n : Nat} (hn : 0 < n) : ∃ k : Nat, k < n ∧ (Int.tmod a (n : Int) + n) % (n : Int) = k ∧ -(n : Int) < Int.tmod a n ∧ Int.tmod a n < n := by
  have h1 := Int.lt_tmod_of_pos a (show (0 : Int) < n by omega)
  have h2 := Int.tmod_lt_of_pos a (show (0 : Int) < n by omega)
  have h3 := Int.emod_lt_of_pos (Int.tmod a n + n) (show (0 : Int) < n by omega)
  have h4 := Int.emod_nonneg (Int.tmod a n + n) (show (n : Int) ≠ 0 by omega)
  exact ⟨((Int.tmod a n + n) % (n : Int)).toNat, by omega, by omega, h1, h2⟩
theorem turn_nat (c : UInt8) {m : Nat} (hm : m < 8) : (((BitVec.ofInt 8 (c.toNat : Int) ^^^ BitVec.ofInt 8 (IntKind.u8.wrap (1 * 2 ^ m))).toNat : Nat) : Int) = ((turn c m).toNat : Int) := by
  have h1 : BitVec.ofInt 8 (IntKind.u8.wrap (1 * 2 ^ m)) = BitVec.ofNat 8 (2 ^ m) := by
    have : m = 0 ∨ m = 1 ∨ m = 2 ∨ m = 3 ∨ m = 4 ∨ m = 5 ∨ m = 6 ∨ m = 7 := by omega
    rcases this with rfl | rfl | rfl | rfl | rfl | rfl | rfl | rfl <;> decide
  rw [h1, turn]
  exact bv8 _
section
variable {h g : H} {xb at' : Nat} {fv tv : Value} {b : List UInt8} {bits : Int}
theorem PB_turn (E : Ext h g) (hbx : cellAt g ⟨xb, 14, none⟩ = some (.int .u32 bits)) (hxn : ∃ o, g xb = some o) (hb : inU bits) (h1 : 7 ≤ b.length) (h2 : b.length ≤ 1048568) (hat : at' < 8 * b.length) (hf : By nos g fv (sealB b)) {g0 : H} (e0 : Ext g0 g) (hf0 : By nos g0 fv (sealB b)) (hx0 : cellAt g0 ⟨xb, 14, none⟩ = some (.int .u32 bits)) (E0 : Ext h g0) (ht : OwB (fun y => g0 y = none) g 5 tv (sealB b)) :
    vc Try.prog c8_s12 (QB h) [(1, .pointer (some ⟨xb, 0, none⟩)), (3, fv), (14, .int .i64 ((8 * b.length : Nat) : Int)), (15, .int .i64 (at' : Int)), (16, tv)] g := by
  have hsl := sealB_len b
  obtain ⟨ta, tz, rfl⟩ := By.len ht.s0
  simp (disch := omega) only [dm_t, wS, simprocAttr, IntKind.bits]
  refine vc_loop1 (fun vk g' => ∃ (k : Nat) (tb : List UInt8), vk = .int .i64 (k : Int) ∧ k ≤ 32 ∧ TB b tb at' k ∧ Ext g0 g' ∧ OwB (fun y => g0 y = none) g' 5 (.slice ta (sealB b).length tz) (low 4 (b.length + 4) ++ (low 4 (sumB b).toNat ++ tb))) (fun vk _ => 32 - m1 vk) ?_ ?_
  · simp (disch := omega) only [dm_t, wS, simprocAttr, IntKind.bits]
    exact ⟨0, b, rfl, by omega, tb0 b at', e0, ht⟩
  rintro _ g1 ⟨k, tb, rfl, hk, T, e1, o1⟩
  have x1 := cellAt_ext e1 hx0
  by_cases hk32 : k < 32
  · simp (disch := omega) only [dm_t, wS, simprocAttr, IntKind.bits, x1]
    generalize (bits / 2 ^ k).tmod 2 = y
    by_cases hy : y = 1
    case neg =>
      simp (disch := omega) only [dm_t, wS, simprocAttr, IntKind.bits]
      exact ⟨⟨k + 1, tb, by simp, by omega, T.skip, e1, o1⟩, by simp [m1]; omega⟩
    by_cases hatk : at' + k < 8 * b.length
    case neg =>
      simp (disch := omega) only [dm_t, wS, simprocAttr, IntKind.bits]
      exact ⟨⟨k + 1, tb, by simp, by omega, T.skip, e1, o1⟩, by simp [m1]; omega⟩
    have hTl := T.len
    have hll : (low 4 (b.length + 4) ++ (low 4 (sumB b).toNat ++ tb)).length = b.length + 8 := by simp only [List.length_append, low_len]; omega
    obtain ⟨pb, po, i2, t2, hO2, hat2, hst2⟩ := OwB.set (kk := .i64) (e := 8 + ((at' : Int) + (k : Int)) / 8) o1 (8 + (at' + k) / 8) (by omega) (by omega)
    have hmod : (((at' : Int) + (k : Int)) % 8).toNat = (at' + k) % 8 := by omega
    have hget : (low 4 (b.length + 4) ++ (low 4 (sumB b).toNat ++ tb))[8 + (at' + k) / 8]'(by omega) = tb[(at' + k) / 8]'(by omega) := by
      rw [List.getElem_append_right (by rw [low_len]; omega), List.getElem_append_right (by rw [low_len, low_len]; omega)]
      congr 1
      rw [low_len, low_len]; omega
    have hset : (low 4 (b.length + 4) ++ (low 4 (sumB b).toNat ++ tb)).set (8 + (at' + k) / 8) (turn (tb[(at' + k) / 8]'(by omega)) ((at' + k) % 8)) = low 4 (b.length + 4) ++ (low 4 (sumB b).toNat ++ tb.set ((at' + k) / 8) (turn (tb[(at' + k) / 8]'(by omega)) ((at' + k) % 8))) := by
      rw [List.set_append_right _ _ (by rw [low_len]; omega), List.set_append_right _ _ (by rw [low_len, low_len]; omega)]
      congr 3
      rw [low_len, low_len]; omega
    have hT := T.turn hk32 hatk
    rw [hget] at t2
    generalize hcq : tb[(at' + k) / 8]'(by omega) = cq at t2 hset hT
    have hcql := cq.toNat_lt
    simp (disch := omega) only [dm_t, wS, simprocAttr, IntKind.bits, i2, t2, hmod]
    refine hst2 (turn cq ((at' + k) % 8)) _ _ (turn_nat cq (Nat.mod_lt _ (by decide))) ?_
    intro g2 o2 f2
    rw [hset] at o2
    simp (disch := omega) only [dm_t, wS, simprocAttr, IntKind.bits, i2]
    exact ⟨⟨k + 1, _, by simp, by omega, hT, Ext.step' e1 f2 fun y hy => by rw [hy]; exact hO2, o2⟩, by simp [m1]; omega⟩
  · have hk : k = 32 := by omega
    have hf1 := hf0.ext e1
    have hTl := T.len
    have hll : (low 4 (b.length + 4) ++ (low 4 (sumB b).toNat ++ tb)).length = b.length + 8 := by simp only [List.length_append, low_len]; omega
    simp (disch := omega) only [dm_t, wS, simprocAttr, IntKind.bits]
    refine cvbs_of o1.s0 ?_
    simp (disch := omega) only [dm_t, wS, simprocAttr, IntKind.bits]
    refine cvbs_of hf1 ?_
    by_cases heq : tb = b
    · have hs : low 4 (b.length + 4) ++ (low 4 (sumB b).toNat ++ tb) = sealB b := by rw [heq]; rfl
      simp (disch := omega) only [dm_t, wS, simprocAttr, IntKind.bits, hs]
      refine works_k fun g3 e3 => ?_
      simp (disch := omega) only [dm_t, wS, simprocAttr, IntKind.bits]
      exact (E0.trans e1).trans e3
    · have hs : ¬ low 4 (b.length + 4) ++ (low 4 (sumB b).toNat ++ tb) = sealB b := fun hh => by
        rw [sealB, List.append_cancel_left_eq, List.append_cancel_left_eq] at hh
        exact heq hh
      have h300 := split_turned (b := b) (tb := tb) (by omega) h2 hTl (T.sum heq)
      have hne : ¬ splitE (low 4 (b.length + 4) ++ (low 4 (sumB b).toNat ++ tb)) = 0 := by rw [h300]; decide
      generalize low 4 (b.length + 4) ++ (low 4 (sumB b).toNat ++ tb) = L at *
      simp (disch := omega) only [dm_t, wS, simprocAttr, IntKind.bits, toList_mk, hs]
      refine (Split_ok o1.s0 (by omega)).k ?_
      rintro _ g3 ⟨hsp, e3⟩
      rcases hsp with ⟨he, _⟩ | ⟨_, rfl⟩
      · exact absurd he hne
      rw [h300]
      simp (disch := omega) only [dm_t, wS, simprocAttr, IntKind.bits]
      refine (num_ok _ _).k ?_
      rintro _ _ ⟨rfl, rfl⟩
      simp (disch := omega) only [dm_t, wS, simprocAttr, IntKind.bits]
      refine works_k fun g4 e4 => ?_
      simp (disch := omega) only [dm_t, wS, simprocAttr, IntKind.bits]
      exact ((E0.trans e1).trans e3).trans e4
end
end Go.Proofs.Ytfeaaliocdkonaa.pr
namespace Go.Proofs.Ytfeaaliocdkonaa.pr
open Go.Proofs.Ytfeaaliocdkonaa rr wi
set_option linter.unusedVariables false
set_option linter.unusedSimpArgs false
theorem two_ok {h : H} {b : Nat} {E : TypeId} (e e' : Int) : Ok Try.prog 34 #[.slice (some ⟨b, 0, none⟩) 2 2] (hupd h b (.cells #[.int .i64 e, .int .i64 e'] E)) fun w h' => w = .bool (decide (e = 0) && decide (e' = 0)) ∧ hupd h b (.cells #[.int .i64 e, .int .i64 e'] E) = h' :=
  (ok_ok (S := nos) (l := [e, e']) (slit1 [_, _] rfl) (by simp)).mono fun v h' ⟨h1, h2⟩ => ⟨by rw [h1]; simp, h2⟩
/-- What stands ahead of all. -/
structure XB (h g : H) (xb : Nat) (x : backT.D) (w w' m v : Value) : Prop where
  q : g xb = some (.cells (qCs x.1 w ++ (aCs x.2.1 w' m ++ [v, .int .i64 x.2.2.2.1, .int .u32 x.2.2.2.2])).toArray 79)
  E : Ext h g
theorem XB.ext {h g g' : H} {xb : Nat} {x : backT.D} {w w' m v : Value} (X : XB h g xb x w w' m v) (e : Ext g g') : XB h g' xb x w w' m v := ⟨e.at X.q, X.E.trans e⟩
section
variable {h g : H} {xb : Nat} {x : backT.D} {w w' m v : Value}
theorem XB.c3 (X : XB h g xb x w w' m v) : cellAt g ⟨xb, 3, none⟩ = some w := by rw [cellAt_of X.q]; rfl
theorem XB.c10 (X : XB h g xb x w w' m v) : cellAt g ⟨xb, 10, none⟩ = some w' := by rw [cellAt_of X.q]; rfl
theorem XB.c12 (X : XB h g xb x w w' m v) : cellAt g ⟨xb, 12, none⟩ = some v := by rw [cellAt_of X.q]; rfl
theorem XB.c13 (X : XB h g xb x w w' m v) : cellAt g ⟨xb, 13, none⟩ = some (.int .i64 x.2.2.2.1) := by rw [cellAt_of X.q]; rfl
theorem XB.c14 (X : XB h g xb x w w' m v) : cellAt g ⟨xb, 14, none⟩ = some (.int .u32 x.2.2.2.2) := by rw [cellAt_of X.q]; rfl
theorem XB.lq (X : XB h g xb x w w' m v) : cellsAt g ⟨xb, 0, none⟩ 6 = some (qCs x.1 w).toArray := by
  rw [cellsAt_of X.q (by simp [qCs, aCs])]
  simp [qCs, aCs]
theorem XB.la (X : XB h g xb x w w' m v) : cellsAt g ⟨xb, 6, none⟩ 6 = some (aCs x.2.1 w' m).toArray := by
  rw [cellsAt_of X.q (by simp [qCs, aCs])]
  simp [qCs, aCs]
end
abbrev QB2 (h : H) : Post := retQ [2] (okR fun v h' => v = .bool true ∧ Ext h h')
/-- Both are frames. -/
theorem PB_tail {h g : H} {xb : Nat} {x : backT.D} {w w' m v fv gv : Value} (X : XB h g xb x w w' m v) (rQ : Rep nos reqT h (qCs x.1 w) x.1) (rA : Rep nos ansT h (aCs x.2.1 w' m) x.2.1) (rC : RepL nos (.int .i64) h v x.2.2.1) (hat : inI x.2.2.2.1) (hbi : inU x.2.2.2.2) (hcl : x.2.2.1.length ≤ 100)
    (sQ : Short x.1.2.2.2.1) (sA : Short x.2.1.2.2.2.2.1) (kQ : ckQ x.1 = 0) (kA : ckA x.2.1 = 0) (of : By nos g fv (sealB (bodyQ x.1))) (og : By nos g gv (sealB (bodyA x.2.1))) :
    vc Try.prog c8_s4 (QB2 h) [(1, .pointer (some ⟨xb, 0, none⟩)), (3, fv), (5, gv)] g := by
  obtain ⟨w1, hw1, bQ, rr1⟩ := rep_req.1 rQ
  obtain ⟨w2, m2, hw2, bA, rr2, rm2⟩ := rep_ans.1 rA
  have A : AOk x.2.1.1 x.2.1.2.1 x.2.1.2.2.1 x.2.1.2.2.2.1 x.2.1.2.2.2.2.1 x.2.1.2.2.2.2.2 := ckA_k kA
  have hml := A.ml
  have lQ := bodyQ_len kQ
  have lA : 7 ≤ (bodyA x.2.1).length ∧ (bodyA x.2.1).length ≤ 1048568 := bodyA_len A
  have hrd := rdQ_body bQ kQ
  obtain ⟨sp1, sp2, sp3⟩ := split_seal (b := bodyQ x.1) (c := []) (by omega) (by omega)
  rw [List.append_nil] at sp1 sp2 sp3
  have hfl := sealB_len (bodyQ x.1)
  have hgl := sealB_len (bodyA x.2.1)
  have ho : openE rdQ (sealB (bodyQ x.1)) = 0 := by
    rw [openE, if_neg (fun h => h sp1), if_neg (fun h => h (by rw [sp2, hfl])), sp3, readE_some hrd, if_pos rfl]
  have hmI : ∀ mm ∈ x.2.1.2.2.2.2.2, inI mm := fun mm hm => (repI rm2).2 mm hm
  have sl1 : x.1.2.2.2.1.length ≤ 1100 := sQ.1
  have sl2 : x.2.1.2.2.2.2.1.length ≤ 1100 := sA.1
  obtain ⟨fa, fc, rfl⟩ := By.len of
  simp (disch := omega) only [dm_t, wS, simprocAttr, IntKind.bits]
  refine (Request_ok of (by omega) ho (by rw [sp3]; exact hrd) kQ).k ?_
  rintro _ g1 ⟨⟨cs1, rfl, hr1⟩, e1⟩
  have hc1 := Rep.cells hr1
  have hn1 := Rep.len hr1
  simp (disch := omega) only [dm_t, wS, simprocAttr, IntKind.bits]
  intro qb hqb
  simp (disch := omega) only [dm_t, wS, simprocAttr, IntKind.bits]
  refine ⟨hn1, storeH_all (hupd_same _ _ _) hn1 hc1 ?_⟩
  rw [hupd_hupd]
  generalize hG : hupd g1 qb _ = g2
  obtain ⟨e2, q2⟩ := new_ext hG hqb
  clear hG
  have E2 := e1.trans e2
  simp (disch := omega) only [dm_t, wS, simprocAttr, IntKind.bits]
  refine (Answer_ok (SlK.ext og E2) bA hmI kA).k ?_
  rintro _ g3 ⟨⟨cs3, rfl, hr3⟩, e3⟩
  have hc3 := Rep.cells hr3
  have hn3 := Rep.len hr3
  simp (disch := omega) only [dm_t, wS, simprocAttr, IntKind.bits]
  intro ab hab
  simp (disch := omega) only [dm_t, wS, simprocAttr, IntKind.bits]
  refine ⟨hn3, storeH_all (hupd_same _ _ _) hn3 hc3 ?_⟩
  rw [hupd_hupd]
  generalize hG : hupd g3 ab _ = g4
  obtain ⟨e4, q4⟩ := new_ext hG hab
  clear hG
  have E4 := E2.trans (e3.trans e4)
  have q2' := (e3.trans e4).at q2
  have X4 := X.ext E4
  simp (disch := omega) only [dm_t, wS, simprocAttr, IntKind.bits]
  intro lb hlb
  refine (two_ok 0 0).k ?_
  rintro _ _ ⟨rfl, rfl⟩
  have e5 := Ext.new hlb (.cells #[.int .i64 0, .int .i64 0] 33)
  generalize hupd g4 lb (.cells #[.int .i64 0, .int .i64 0] 33) = g5 at e5 ⊢
  have E5 := E4.trans e5
  have X5 := X4.ext e5
  have lq5 : cellsAt g5 ⟨qb, 0, none⟩ 6 = some cs1.toArray := cellsAt_all (e5.at q2') 6 hn1
  have la5 : cellsAt g5 ⟨ab, 0, none⟩ 6 = some cs3.toArray := cellsAt_all (e5.at q4) 6 hn3
  simp (disch := omega) only [dm_t, wS, simprocAttr, IntKind.bits, lq5, X5.lq, decide_true, Bool.and_self]
  refine (SQ_ok (Rep.ext (Rep.ext hr1 e2) ((e3.trans e4).trans e5)) (rQ.ext X5.E) (by omega)).k ?_
  rintro _ g6 ⟨rfl, e6⟩
  rw [sameQ_self]
  have X6 := X5.ext e6
  simp (disch := omega) only [dm_t, wS, simprocAttr, IntKind.bits, cellsAt_ext e6 la5, X6.la]
  refine (SA_ok (Rep.ext (Rep.ext (Rep.ext hr3 e4) e5) e6) (rA.ext X6.E) (by omega) (by omega)).k ?_
  rintro _ g7 ⟨rfl, e7⟩
  rw [sameA_self]
  have X7 := X6.ext e7
  have E7 := (E5.trans e6).trans e7
  obtain ⟨pl, hpl, hpm, hp1, hp2⟩ := mod_place x.2.2.2.1 (n := (sealB (bodyQ x.1)).length) (by omega)
  generalize hnL : (sealB (bodyQ x.1)).length = nL at *
  have hIat : -9223372036854775808 ≤ x.2.2.2.1 ∧ x.2.2.2.1 ≤ 9223372036854775807 := hat
  have c13 := X7.c13
  generalize x.2.2.2.1 = atv at *
  simp (disch := omega) only [dm_t, wS, simprocAttr, IntKind.bits, c13]
  rw [hpm]
  obtain ⟨_, _, hfc⟩ := SlK.cap of
  rw [one_len, bvs_len] at hfc
  refine slc_pre pl rfl rfl (by omega) ?_
  have ofp := By.pre (SlK.ext of E7) (m := pl) (by omega)
  have hpre := split_pre (b := bodyQ x.1) (m := pl) (by omega) lQ.2 (by omega)
  simp (disch := omega) only [dm_t, wS, simprocAttr, IntKind.bits]
  refine (Split_ok ofp (by rw [List.length_take]; omega)).k ?_
  rintro _ g8 ⟨hsp, e8⟩
  rcases hsp with ⟨he, _⟩ | ⟨_, rfl⟩
  · rw [hpre] at he; cases he
  rw [hpre]
  have X8 := X7.ext e8
  have E8 := E7.trans e8
  simp (disch := omega) only [dm_t, wS, simprocAttr, IntKind.bits]
  refine (num_ok _ _).k ?_
  rintro _ _ ⟨rfl, rfl⟩
  have T : Two (sealB (bodyQ x.1)) (sealB (bodyA x.2.1)) (bodyQ x.1) (bodyA x.2.1) := ⟨rfl, rfl, ⟨by omega, lQ.2⟩, ⟨by omega, lA.2⟩⟩
  simp (disch := omega) only [dm_t, wS, simprocAttr, IntKind.bits, X8.c12]
  refine (pieces_ok T (SlK.ext of E8) (SlK.ext og E8) (rC.ext X8.E) hcl).k ?_
  rintro _ g9 ⟨rfl, e9⟩
  have X9 := X8.ext e9
  have E9 := E8.trans e9
  obtain ⟨p2, hp2', hpm2, hp21, hp22⟩ := mod_place atv (n := 8 * (bodyQ x.1).length) (by omega)
  have hnn : 8 * ((nL : Int) - 8) = ((8 * (bodyQ x.1).length : Nat) : Int) := by omega
  generalize hN : 8 * (bodyQ x.1).length = N8 at hnn hp2' hpm2 hp21 hp22 ⊢
  have c13' := cellAt_ext (e8.trans e9) c13
  simp (disch := omega) only [dm_t, wS, simprocAttr, IntKind.bits, hnn, c13']
  rw [hpm2]
  intro b5 hb5
  refine appB (O := fun y => g9 y = none) (xs := []) (olit1 (xs := []) rfl hb5) (fun y hy => (Ext.new hb5 _).bk hy) (SlK.ext of (E9.trans (Ext.new hb5 _))) (by simp; omega) ?_
  intro tv g10 o10 f10
  rw [List.nil_append] at o10
  have e10 : Ext g9 g10 := Ext.step' (Ext.new hb5 _) f10 fun y hy => hy.1
  have X10 := X9.ext e10
  have E10 := E9.trans e10
  have t := PB_turn (h := h) (g := g10) (xb := xb) (at' := p2) (b := bodyQ x.1) X10.E X10.c14 ⟨_, X10.q⟩ hbi (by omega) lQ.2 (by omega) (SlK.ext of (E9.trans e10)) (g0 := g9) e10 (SlK.ext of E9) X9.c14 X9.E o10
  rw [hN] at t
  revert t
  simp (disch := omega) only [dm_t, wS, simprocAttr, IntKind.bits]
  exact id
theorem Ask_two {S : Nat → Prop} {h : H} {cs : List Value} {x : reqT.D} (hx : Rep S reqT h cs x) :
    Ok Try.prog 12 #[.agg cs.toArray] h fun v h' => ∃ f l, v = .tuple #[f, .int .i64 (ckQ x)] ∧ OwB (fun y => h y = none) h' 5 f l ∧ ((ckQ x = 0 ∧ l = sealB (bodyQ x)) ∨ (¬ ckQ x = 0 ∧ l = [])) ∧ Ext h h' := by
  by_cases hck : ckQ x = 0
  · exact (Ask_ok hx hck).mono fun v h' ⟨f, h1, h2, h3⟩ => ⟨f, _, by rw [h1, hck], h2, .inl ⟨hck, rfl⟩, h3⟩
  · exact (Ask_no hx hck).mono fun v h' ⟨h1, h3⟩ => ⟨.slice none 0 0, [], by rw [h1], OwK.nil, .inr ⟨hck, rfl⟩, h3⟩
/-- After the lengths. -/
theorem PB_mid {h g : H} {xb : Nat} {x : backT.D} {w w' m v : Value} (X : XB h g xb x w w' m v) (rQ : Rep nos reqT h (qCs x.1 w) x.1) (rA : Rep nos ansT h (aCs x.2.1 w' m) x.2.1) (rC : RepL nos (.int .i64) h v x.2.2.1) (hat : inI x.2.2.2.1) (hbi : inU x.2.2.2.2) (hcl : x.2.2.1.length ≤ 100)
    (sQ : Short x.1.2.2.2.1) (sA : Short x.2.1.2.2.2.2.1) (hml : x.2.1.2.2.2.2.2.length ≤ 4611686018427387904) :
    vc Try.prog c8_s1 (QB2 h) [(1, .pointer (some ⟨xb, 0, none⟩))] g := by
  simp (disch := omega) only [dm_t, wS, simprocAttr, IntKind.bits, X.lq]
  refine (Ask_two (rQ.ext X.E)).k ?_
  rintro _ g1 ⟨fv, fl, rfl, o1, hf, e1⟩
  have X1 := X.ext e1
  simp (disch := omega) only [dm_t, wS, simprocAttr, IntKind.bits, X1.la]
  refine (Tell_both (rA.ext X1.E) hml).k ?_
  rintro _ g2 ⟨gv, gl, rfl, o2, hg, e2⟩
  have X2 := X1.ext e2
  have of : By nos g2 fv fl := (o1.ext e2).s0
  have og : By nos g2 gv gl := o2.s0
  simp (disch := omega) only [dm_t, wS, simprocAttr, IntKind.bits]
  intro lb hlb
  refine (two_ok _ _).k ?_
  rintro _ _ ⟨rfl, rfl⟩
  have e3 := Ext.new hlb (.cells #[.int .i64 (ckQ x.1), .int .i64 (ckA x.2.1)] 33)
  generalize hupd g2 lb (.cells #[.int .i64 (ckQ x.1), .int .i64 (ckA x.2.1)] 33) = g3 at e3 ⊢
  have X3 := X2.ext e3
  have of3 := SlK.ext of e3
  have og3 := SlK.ext og e3
  by_cases hboth : ckQ x.1 = 0 ∧ ckA x.2.1 = 0
  · obtain ⟨k1, k2⟩ := hboth
    obtain ⟨_, rfl⟩ : ckQ x.1 = 0 ∧ fl = sealB (bodyQ x.1) := hf.elim id fun hh => absurd k1 hh.1
    obtain ⟨_, rfl⟩ : ckA x.2.1 = 0 ∧ gl = sealB (bodyA x.2.1) := hg.elim id fun hh => absurd k2 hh.1
    have t := PB_tail X3 rQ rA rC hat hbi hcl sQ sA k1 k2 of3 og3
    revert t
    rw [k1, k2]
    simp (disch := omega) only [dm_t, wS, simprocAttr, IntKind.bits, decide_true, Bool.and_self]
    exact id
  have hd : (decide (ckQ x.1 = 0) && decide (ckA x.2.1 = 0)) = false := by
    rw [← Bool.decide_and]; exact decide_eq_false hboth
  rw [hd]
  simp (disch := omega) only [dm_t, wS, simprocAttr, IntKind.bits]
  intro lb2 hlb2
  refine (one_ok _).k ?_
  rintro _ _ ⟨rfl, rfl⟩
  have e4 := Ext.new hlb2 (.cells #[.int .i64 (ckQ x.1)] 33)
  generalize hupd g3 lb2 (.cells #[.int .i64 (ckQ x.1)] 33) = g4 at e4 ⊢
  have X4 := X3.ext e4
  obtain ⟨fa, fc, rfl⟩ := By.len of3
  obtain ⟨ga, gc, rfl⟩ := By.len og3
  have hlen : (if ckQ x.1 = 0 then true else decide (fl.length = 0)) = true := by
    rcases hf with ⟨k, _⟩ | ⟨k, rfl⟩
    · rw [if_pos k]
    · rw [if_neg k]; rfl
  have hlen2 : ckA x.2.1 = 0 ∨ gl = [] := hg.elim (fun hh => .inl hh.1) fun hh => .inr hh.2
  have fin : ∀ g5, Ext g4 g5 → Ext h g5 := fun g5 e => X4.E.trans e
  by_cases k1 : ckQ x.1 = 0
  · simp (disch := omega) only [dm_t, wS, simprocAttr, IntKind.bits, k1]
    intro lb3 hlb3
    refine (one_ok _).k ?_
    rintro _ _ ⟨rfl, rfl⟩
    have e5 := Ext.new hlb3 (.cells #[.int .i64 (ckA x.2.1)] 33)
    generalize hupd g4 lb3 (.cells #[.int .i64 (ckA x.2.1)] 33) = g5 at e5 ⊢
    have k2 : ¬ ckA x.2.1 = 0 := fun hh => hboth ⟨k1, hh⟩
    obtain rfl : gl = [] := hlen2.elim (fun hh => absurd hh k2) id
    simp (disch := omega) only [dm_t, wS, simprocAttr, IntKind.bits, k2, List.length_nil]
    refine works_k fun g6 e6 => ?_
    simp (disch := omega) only [dm_t, wS, simprocAttr, IntKind.bits]
    exact fin g6 (e5.trans e6)
  · obtain ⟨_, rfl⟩ : ¬ ckQ x.1 = 0 ∧ fl = [] := hf.elim (fun hh => absurd hh.1 k1) id
    simp (disch := omega) only [dm_t, wS, simprocAttr, IntKind.bits, List.length_nil, k1]
    intro lb3 hlb3
    refine (one_ok _).k ?_
    rintro _ _ ⟨rfl, rfl⟩
    have e5 := Ext.new hlb3 (.cells #[.int .i64 (ckA x.2.1)] 33)
    generalize hupd g4 lb3 (.cells #[.int .i64 (ckA x.2.1)] 33) = g5 at e5 ⊢
    by_cases k2 : ckA x.2.1 = 0
    · simp (disch := omega) only [dm_t, wS, simprocAttr, IntKind.bits, k2]
      refine works_k fun g6 e6 => ?_
      simp (disch := omega) only [dm_t, wS, simprocAttr, IntKind.bits]
      exact fin g6 (e5.trans e6)
    · obtain rfl : gl = [] := hlen2.elim (fun hh => absurd hh k2) id
      simp (disch := omega) only [dm_t, wS, simprocAttr, IntKind.bits, k2, List.length_nil]
      refine works_k fun g6 e6 => ?_
      simp (disch := omega) only [dm_t, wS, simprocAttr, IntKind.bits]
      exact fin g6 (e5.trans e6)
theorem PB_ok {h : H} {cs : List Value} {x : backT.D} (r : Rep nos backT h cs x) (l1 : x.1.2.2.2.1.length ≤ 4611686018427387904) (l2 : x.2.1.2.2.2.2.1.length ≤ 4611686018427387904) (l3 : x.2.1.2.2.2.2.2.length ≤ 4611686018427387904) :
    Ok Try.prog 8 #[.agg cs.toArray] h fun v h' => v = .bool true ∧ Ext h h' := by
  have hcs := Rep.cells r
  have hn := Rep.len r
  obtain ⟨w, w', m, v, rfl, rQ, rA, rC, hat, hbi⟩ := rep_back r
  refine c8_ok (args := [_]) (by simp) ?_
  simp (disch := omega) only [dm_t, wS, simprocAttr, IntKind.bits]
  intro xb hxb
  generalize hG : hupd h xb _ = g1
  obtain ⟨e1, q1⟩ := new_ext hG hxb
  clear hG
  have X : XB h g1 xb x w w' m v := ⟨q1, e1⟩
  obtain ⟨w1, hw1, _, r1⟩ := rep_req.1 rQ
  obtain ⟨w2, m2, hw2, _, r2, _⟩ := rep_ans.1 rA
  obtain rfl : w = w1 := by simpa [qCs] using hw1
  obtain rfl : w' = w2 := (by simpa [aCs] using hw2 : w' = w2 ∧ m = m2).1
  have fin : ∀ g5, Ext g1 g5 → Ext h g5 := fun g5 e => e1.trans e
  simp (disch := omega) only [dm_t, wS, simprocAttr, IntKind.bits, X.c3]
  refine (long_ok (r1.ext e1) l1).k ?_
  rintro _ _ ⟨⟨b1, rfl, h1⟩, rfl⟩
  cases b1 with
  | true =>
    simp (disch := omega) only [dm_t, wS, simprocAttr, IntKind.bits]
    refine works_k fun g6 e6 => ?_
    simp (disch := omega) only [dm_t, wS, simprocAttr, IntKind.bits]
    exact fin g6 e6
  | false =>
  have sQ := h1 rfl
  simp (disch := omega) only [dm_t, wS, simprocAttr, IntKind.bits, X.c10]
  refine (long_ok (r2.ext e1) l2).k ?_
  rintro _ _ ⟨⟨b2, rfl, h2⟩, rfl⟩
  cases b2 with
  | true =>
    simp (disch := omega) only [dm_t, wS, simprocAttr, IntKind.bits]
    refine works_k fun g6 e6 => ?_
    simp (disch := omega) only [dm_t, wS, simprocAttr, IntKind.bits]
    exact fin g6 e6
  | false =>
  have sA := h2 rfl
  obtain ⟨va, vz, rfl⟩ := rC.len
  by_cases hcl : 100 < x.2.2.1.length
  · simp (disch := omega) only [dm_t, wS, simprocAttr, IntKind.bits, X.c12]
    refine works_k fun g6 e6 => ?_
    simp (disch := omega) only [dm_t, wS, simprocAttr, IntKind.bits]
    exact fin g6 e6
  · have t := PB_mid X rQ rA rC hat hbi (by omega) sQ sA l3
    revert t
    simp (disch := omega) only [dm_t, wS, simprocAttr, IntKind.bits, X.c12]
    exact id
end Go.Proofs.Ytfeaaliocdkonaa.pr
