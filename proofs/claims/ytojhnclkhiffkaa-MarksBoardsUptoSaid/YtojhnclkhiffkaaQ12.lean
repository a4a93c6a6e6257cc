/-
  What a worker of a run of boards leaves; its whole goroutine; what stands behind the join.
-/
import Derived.Test.YtojhnclkhiffkaaQ11
import Derived.Test.YtojhnclkhiffkaaQ7
import Derived.Test.YtojhnclkhiffkaaQ5
/-
  What a worker of a run of boards leaves; its whole goroutine; what stands behind the join.
-/
namespace Go.Proofs.Ytojhnclkhiffkaa.mk
open Go.Proofs.Ytojhnclkhiffkaa Go.Conc
set_option linter.unusedVariables false
set_option linter.unusedSimpArgs false
def encBW (i k A m M : Nat) (row : List Int) : Value := .tuple #[num 0, num i, num k, num A, num m, num M, .tuple (row.map (Value.int .i64)).toArray]
def encBR (i k A m M looks : Nat) : Value := .tuple #[num 1, num i, num k, num A, num m, num M, num looks]
structure LeftBW (i k A m M : Nat) (row : List Int) (h : H) (γ : List Value) (vers : List Nat) (ls : List Value) (u : Value) : Prop where
  mm : h M = some (noteO 53 1 1 k γ.toArray)
  aa : h A = some (oneO i u m 67)
  o : OwK 2 (fun _ => True) h 71 u (rowsV vers ls)
  own : ownV k γ = vers
  lv : vers.length = row.length
  ll : ls.length = row.length
  lst : ∀ (t : Nat) (l : Value), ls[t]? = some l → SlX 2 h l ((row.take (t + 1)).map (.int .i64))
structure LeftBR (i k A m M looks : Nat) (h : H) (γ : List Value) (vers : List Nat) (ls : List Value) (u : Value) : Prop where
  mm : h M = some (noteO 53 1 1 k γ.toArray)
  aa : h A = some (oneO i u m 67)
  o : OwK 2 (fun _ => True) h 71 u (rowsV vers ls)
  lv : vers.length = looks
  ll : ls.length = looks
  lst : ∀ (t : Nat) (l : Value) (ver : Nat), ls[t]? = some l → vers[t]? = some ver → ∃ xs, SlX 2 h l xs ∧ Said γ ver xs
  ch : chain 0 (ints vers)
def bpost (d : Value) (h : H) : Prop :=
  (∃ i k A m M row γ vers ls u, d = encBW i k A m M row ∧ LeftBW i k A m M row h γ vers ls u) ∨ (∃ i k A m M looks γ vers ls u, d = encBR i k A m M looks ∧ LeftBR i k A m M looks h γ vers ls u)
theorem bpost_W {i k A m M : Nat} {row : List Int} {h : H} (hp : bpost (encBW i k A m M row) h) : ∃ γ vers ls u, LeftBW i k A m M row h γ vers ls u := by
  rcases hp with ⟨i', k', A', m', M', row', γ, vers, ls, u, e, H⟩ | ⟨i', k', A', m', M', l, γ, vers, ls, u, e, H⟩
  · simp only [encBW, Value.tuple.injEq, Array.mk.injEq, List.cons.injEq, and_true] at e
    obtain ⟨_, e1, e2, e3, e4, e5, e6⟩ := e
    have e6' : row = row' := (List.map_inj_right (fun a b h => by injection h)).1 e6
    rw [num_inj e1, num_inj e2, num_inj e3, num_inj e4, num_inj e5, e6']
    exact ⟨γ, vers, ls, u, H⟩
  · simp [encBW, encBR, num] at e
theorem bpost_R {i k A m M looks : Nat} {h : H} (hp : bpost (encBR i k A m M looks) h) : ∃ γ vers ls u, LeftBR i k A m M looks h γ vers ls u := by
  rcases hp with ⟨i', k', A', m', M', row', γ, vers, ls, u, e, H⟩ | ⟨i', k', A', m', M', l, γ, vers, ls, u, e, H⟩
  · simp [encBW, encBR, num] at e
  · simp only [encBR, Value.tuple.injEq, Array.mk.injEq, List.cons.injEq, and_true] at e
    obtain ⟨_, e1, e2, e3, e4, e5, e6⟩ := e
    rw [num_inj e1, num_inj e2, num_inj e3, num_inj e4, num_inj e5, num_inj e6]
    exact ⟨γ, vers, ls, u, H⟩
section
variable {n : Nat} {xss : Nat → List Int} {fin : Value → H → Prop}
theorem bhtg : (bpr n xss bpost fin).tg = lnk.tWg := rfl
theorem SlX.del {h : H} {b : Nat} {v : Value} {xs : List Value} (s : SlX 2 h v xs) {c : Array Value} (hb : h b = some (.cells c 3)) : SlX 2 (hdel h b) v xs := by
  rcases s with s | ⟨b', cp, c', h1, h2, h3⟩
  · exact .inl s
  · refine .inr ⟨b', cp, c', h1, ?_, h3⟩
    unfold hdel
    rw [if_neg (by rintro rfl; rw [hb] at h2; cases h2)]
    exact h2
theorem bwchild {h : H} {Wg wb ib R S Bv A M i m k : Nat} {wv rdv lk : Value} {ws : List Value} {row : List Int} {fR fS fV : Nat × Nat}
    (hWg : h Wg = some (nW (bpr n xss bpost fin) (encBW i k A m M row))) (hwb : cellAt h ⟨wb, 0, none⟩ = some (.func (.func 33) #[] #[.pointer (some ⟨R, 0, none⟩), .pointer (some ⟨Bv, 0, none⟩), .pointer (some ⟨S, 0, none⟩)]))
    (hib : h ib = some (.cells #[.int .i64 (i : Int)] 3)) (hR : h R = some (.cells #[wv, rdv, lk] 56 fR)) (hS : h S = some (.cells #[.slice (some ⟨A, 0, none⟩) m m] 66 fS)) (hV : h Bv = some (.cells #[.pointer (some ⟨M, 0, none⟩)] 37 fV))
    (hA : h A = some (oneO i (.slice none 0 0) m 67)) (hM : h M = some (nM (bpr n xss bpost fin) k [e00])) (k1 : 1 ≤ k) (kn : k ≤ n) (hxr : xss (k - 1) = row) (hin : i < m) (hW : Sl h wv ws) (hi : i < ws.length) (hrow : Sl h ws[i] (row.map (.int .i64)))
    (hbig : sumL xss n ≤ 1099511627776) (hrows : ∀ i, i < n → (xss i).length ≤ 1099511627776) (hne : Wg ≠ A ∧ Wg ≠ M ∧ ib ≠ A ∧ ib ≠ M) :
    JW (bpr n xss bpost fin) Try.prog (born Try.prog (call44 Wg wb ib)) h := by
  have hib0 : cellAt h ⟨ib, 0, none⟩ = some (.int .i64 (i : Int)) := by rw [cellAt_of hib]; rfl
  have z : ownV k [e00] = [] := by
    have : byE e00 = 0 := rfl
    unfold ownV
    rw [List.filter_cons_of_neg (by rw [this]; simp; omega)]; rfl
  refine child44 (d := encBW i k A m M row) bhtg hwb hib0 (by kernel_rfl) (Ok.k (X := fun _ _ => True) (bwr_ok (n := n) (xss := xss) (post := bpost) (fin := fin) (rv := undef) hR hS hV hA hM ⟨[], rfl⟩ .one k1 kn hxr z hin hW hi hrow hbig hrows) ?_)
  rintro _ h' ⟨rfl, γ, vers, ls, u, I⟩
  have hib' := I.fr _ _ hib (by rintro (e | e); exact hne.2.2.1 e; exact hne.2.2.2 e)
  refine ⟨I.fr _ _ hWg (by rintro (e | e); exact hne.1 e; exact hne.2.1 e), ⟨3, _, hib'⟩, .inl ⟨i, k, A, m, M, row, γ, vers, ls, u, rfl, ?_⟩⟩
  have d : ∀ y, y ≠ ib → hdel h' ib y = h' y := fun y hy => by unfold hdel; rw [if_neg hy]
  refine ⟨by rw [d _ (Ne.symm hne.2.2.2)]; exact I.mm, by rw [d _ (Ne.symm hne.2.2.1)]; exact I.aa, ?_, I.own, I.lv, I.ll, fun t l hl => (I.lst t l hl).del hib'⟩
  have o2 := I.o.fr (h' := hdel h' ib) (T := fun y => y = ib) (fun y o hy hs => by rw [d y hs]; exact hy) (by
    rintro x rfl h0 _
    rw [hib] at h0; cases h0)
  exact o2.mono fun _ _ _ _ => trivial
theorem brchild {h : H} {Wg wb ib R S Bv A M i m k looks : Nat} {wv rdv : Value} {fR fS fV : Nat × Nat}
    (hWg : h Wg = some (nW (bpr n xss bpost fin) (encBR i k A m M looks))) (hwb : cellAt h ⟨wb, 0, none⟩ = some (.func (.func 34) #[] #[.pointer (some ⟨R, 0, none⟩), .pointer (some ⟨Bv, 0, none⟩), .pointer (some ⟨S, 0, none⟩)]))
    (hib : h ib = some (.cells #[.int .i64 (i : Int)] 3)) (hR : h R = some (.cells #[wv, rdv, .int .i64 (looks : Int)] 56 fR)) (hS : h S = some (.cells #[.slice (some ⟨A, 0, none⟩) m m] 66 fS)) (hV : h Bv = some (.cells #[.pointer (some ⟨M, 0, none⟩)] 37 fV))
    (hA : h A = some (oneO i (.slice none 0 0) m 67)) (hM : h M = some (nM (bpr n xss bpost fin) k [e00])) (hin : i < m) (hlk : looks ≤ 1000000)
    (hbig : sumL xss n ≤ 1099511627776) (hrows : ∀ i, i < n → (xss i).length ≤ 1099511627776) (hne : Wg ≠ A ∧ Wg ≠ M ∧ ib ≠ A ∧ ib ≠ M) :
    JW (bpr n xss bpost fin) Try.prog (born Try.prog (call46 Wg wb ib)) h := by
  have hib0 : cellAt h ⟨ib, 0, none⟩ = some (.int .i64 (i : Int)) := by rw [cellAt_of hib]; rfl
  refine child46 (d := encBR i k A m M looks) bhtg hwb hib0 (by kernel_rfl) (Ok.k (X := fun _ _ => True) (brd_ok (n := n) (xss := xss) (post := bpost) (fin := fin) hR hS hV hA hM ⟨[], rfl⟩ .one hin hlk hbig hrows) ?_)
  rintro _ h' ⟨rfl, γ, vers, ls, u, I⟩
  have hib' := I.fr _ _ hib (by rintro (e | e); exact hne.2.2.1 e; exact hne.2.2.2 e)
  refine ⟨I.fr _ _ hWg (by rintro (e | e); exact hne.1 e; exact hne.2.1 e), ⟨3, _, hib'⟩, .inr ⟨i, k, A, m, M, looks, γ, vers, ls, u, rfl, ?_⟩⟩
  have d : ∀ y, y ≠ ib → hdel h' ib y = h' y := fun y hy => by unfold hdel; rw [if_neg hy]
  refine ⟨by rw [d _ (Ne.symm hne.2.2.2)]; exact I.mm, by rw [d _ (Ne.symm hne.2.2.1)]; exact I.aa, ?_, I.lv, I.ll, fun t l ver hl hv => let ⟨xs, k1, k2⟩ := I.lst t l ver hl hv; ⟨xs, k1.del hib', k2⟩, I.ch⟩
  have o2 := I.o.fr (h' := hdel h' ib) (T := fun y => y = ib) (fun y o hy hs => by rw [d y hs]; exact hy) (by
    rintro x rfl h0 _
    rw [hib] at h0; cases h0)
  exact o2.mono fun _ _ _ _ => trivial
end
end Go.Proofs.Ytojhnclkhiffkaa.mk

/-
  Lists of published lists, put together.
-/
namespace Go.Proofs.Ytojhnclkhiffkaa.mk
open Go.Proofs.Ytojhnclkhiffkaa
variable {PX : Cx Try.prog}
set_option linter.unusedVariables false
set_option linter.unusedSimpArgs false
abbrev Rw := List Value
def tot : List (List Rw) → Nat
  | [] => 0
  | x :: t => x.length + tot t
theorem tot_append (a b : List (List Rw)) : tot (a ++ b) = tot a + tot b := by
  induction a with
  | nil => simp [tot]
  | cons r t ih => simp [tot, ih]; omega
theorem tot_flat (a : List (List Rw)) : (List.flatten a).length = tot a := by
  induction a with
  | nil => rfl
  | cons r t ih => simp [tot, ih]
theorem tot_take (a : List (List Rw)) (i : Nat) : tot (a.take i) ≤ tot a := by
  have : tot a = tot (a.take i) + tot (a.drop i) := by rw [← tot_append, List.take_append_drop]
  omega
theorem inf71 : Try.prog.info? 71 = some ((Try.prog.info? 71).getD default) := by kernel_rfl
theorem zer71 : ((Try.prog.info? 71).getD default).zero = some (.agg #[.int .i64 0, .slice none 0 0]) := by kernel_rfl
theorem byt71 : ((Try.prog.info? 71).getD default).bytes = 32 := by kernel_rfl
theorem siz71 : ((Try.prog.info? 71).getD default).size ≠ 0 := by decide +kernel
theorem bGrow_ok {h : H} (n : Nat) (hn : n ≤ 134217727) : Ok PX 48 #[.slice none 0 0, .int .i64 (n : Int)] h fun v h' => OwK 2 (fun y => h y = none) h' 71 v [] ∧ Ext h h' := by
  refine c48_ok (args := [_, _]) (by simp) ?_
  by_cases h0 : n = 0
  · subst h0
    simp (disch := omega) only [dm_t, wA, wB, wL, wW, wY, Int.fdiv_eq_ediv_of_nonneg, Int.tdiv_eq_ediv_of_nonneg, Int.tmod_eq_emod_of_nonneg, chk_pos, decT, decF, br_pos, br_neg, wX, ↓reduceIte, Nat.reduceEqDiff, Nat.reduceAdd, Nat.reduceSub, Nat.reduceMul, Nat.reduceLeDiff, Nat.reduceLT, Nat.reduceMod, Nat.reduceDiv, Int.reduceToNat, Nat.min_eq_left, IntKind.bits, Int.reducePow, Int.reduceLT, Int.reduceLE, Int.reduceEq, Int.reduceNe, Int.reduceAdd, Int.reduceSub, and_self, reduceCtorEq, decide_eq_true_eq, decide_eq_false_iff_not, eq_self, implies_true, exists_const, Option.isNone_some, Option.isNone_none, Option.isSome_some, Option.isSome_none, Option.getD_some]
    exact ⟨OwK.nil, Ext.refl h⟩
  · simp (disch := omega) only [dm_t, wA, wB, wL, wW, wY, Int.fdiv_eq_ediv_of_nonneg, Int.tdiv_eq_ediv_of_nonneg, Int.tmod_eq_emod_of_nonneg, chk_pos, decT, decF, br_pos, br_neg, wX, ↓reduceIte, Nat.reduceEqDiff, Nat.reduceAdd, Nat.reduceSub, Nat.reduceMul, Nat.reduceLeDiff, Nat.reduceLT, Nat.reduceMod, Nat.reduceDiv, Int.reduceToNat, Nat.min_eq_left, IntKind.bits, Int.reducePow, Int.reduceLT, Int.reduceLE, Int.reduceEq, Int.reduceNe, Int.reduceAdd, Int.reduceSub, and_self, reduceCtorEq, decide_eq_true_eq, decide_eq_false_iff_not, eq_self, implies_true, exists_const, Option.isNone_some, Option.isNone_none, Option.isSome_some, Option.isSome_none, Option.getD_some]
    refine raw_grow (X := fun _ _ => True) (n := n) (c := 0) Try.underlying67 Try.underlying3 inf71 zer71 rfl rfl (by simp) (by omega) rfl (by rw [byt71]; omega) (by omega) siz71 ?_
    intro cp hcp b hb
    simp (disch := omega) only [dm_t, wA, wB, wL, wW, wY, Int.fdiv_eq_ediv_of_nonneg, Int.tdiv_eq_ediv_of_nonneg, Int.tmod_eq_emod_of_nonneg, chk_pos, decT, decF, br_pos, br_neg, wX, ↓reduceIte, Nat.reduceEqDiff, Nat.reduceAdd, Nat.reduceSub, Nat.reduceMul, Nat.reduceLeDiff, Nat.reduceLT, Nat.reduceMod, Nat.reduceDiv, Int.reduceToNat, Nat.min_eq_left, IntKind.bits, Int.reducePow, Int.reduceLT, Int.reduceLE, Int.reduceEq, Int.reduceNe, Int.reduceAdd, Int.reduceSub, and_self, reduceCtorEq, decide_eq_true_eq, decide_eq_false_iff_not, eq_self, implies_true, exists_const, Option.isNone_some, Option.isNone_none, Option.isSome_some, Option.isSome_none, Option.getD_some]
    refine slc_pre 0 rfl rfl (by omega) ?_
    simp (disch := omega) only [dm_t, wA, wB, wL, wW, wY, Int.fdiv_eq_ediv_of_nonneg, Int.tdiv_eq_ediv_of_nonneg, Int.tmod_eq_emod_of_nonneg, chk_pos, decT, decF, br_pos, br_neg, wX, ↓reduceIte, Nat.reduceEqDiff, Nat.reduceAdd, Nat.reduceSub, Nat.reduceMul, Nat.reduceLeDiff, Nat.reduceLT, Nat.reduceMod, Nat.reduceDiv, Int.reduceToNat, Nat.min_eq_left, IntKind.bits, Int.reducePow, Int.reduceLT, Int.reduceLE, Int.reduceEq, Int.reduceNe, Int.reduceAdd, Int.reduceSub, and_self, reduceCtorEq, decide_eq_true_eq, decide_eq_false_iff_not, eq_self, implies_true, exists_const, Option.isNone_some, Option.isNone_none, Option.isSome_some, Option.isSome_none, Option.getD_some]
    refine ⟨?_, Ext.new hb _⟩
    refine OwK.lit (fun r hr => by simp at hr) rfl ?_ (by omega) (fun m hm => by simp [flat] at hm) hb (.inl rfl)
    simp [Builtin.zeroCells, Value.cells]
    show cp * 2 ≤ _
    omega
theorem bConcat_ok {h : H} {s : Value} {us : List Value} {rss : List (List Rw)} (hs : Sl h s us) (hlen : us.length = rss.length) (hall : ∀ i (hi : i < us.length) (hi' : i < rss.length), SlK 2 nos h us[i] rss[i]) (hcell : ∀ rs ∈ rss, ∀ r ∈ rs, r.all isCell = true) (hl : us.length ≤ 1000000) (ht : tot rss ≤ 134217727) :
    Ok PX 35 #[s] h fun v h' => OwK 2 (fun y => h y = none) h' 71 v (List.flatten rss) ∧ Ext h h' := by
  obtain ⟨sa, sc, rfl⟩ := hs.len
  refine c35_ok (args := [_]) (by simp) ?_
  simp (disch := omega) only [dm_t, wA, wB, wL, wW, wY, Int.fdiv_eq_ediv_of_nonneg, Int.tdiv_eq_ediv_of_nonneg, Int.tmod_eq_emod_of_nonneg, chk_pos, decT, decF, br_pos, br_neg, wX, ↓reduceIte, Nat.reduceEqDiff, Nat.reduceAdd, Nat.reduceSub, Nat.reduceMul, Nat.reduceLeDiff, Nat.reduceLT, Nat.reduceMod, Nat.reduceDiv, Int.reduceToNat, Nat.min_eq_left, IntKind.bits, Int.reducePow, Int.reduceLT, Int.reduceLE, Int.reduceEq, Int.reduceNe, Int.reduceAdd, Int.reduceSub, and_self, reduceCtorEq, decide_eq_true_eq, decide_eq_false_iff_not, eq_self, implies_true, exists_const, Option.isNone_some, Option.isNone_none, Option.isSome_some, Option.isSome_none, Option.getD_some]
  refine vc_loop2 (fun vz vi h' => ∃ i : Nat, vi = .int .i64 (i : Int) ∧ vz = .int .i64 (tot (rss.take i) : Nat) ∧ i ≤ us.length ∧ h' = h) (fun _ vi _ => us.length - m1 vi) ?_ ?_
  · simp (disch := omega) only [dm_t, wA, wB, wL, wW, wY, Int.fdiv_eq_ediv_of_nonneg, Int.tdiv_eq_ediv_of_nonneg, Int.tmod_eq_emod_of_nonneg, chk_pos, decT, decF, br_pos, br_neg, wX, ↓reduceIte, Nat.reduceEqDiff, Nat.reduceAdd, Nat.reduceSub, Nat.reduceMul, Nat.reduceLeDiff, Nat.reduceLT, Nat.reduceMod, Nat.reduceDiv, Int.reduceToNat, Nat.min_eq_left, IntKind.bits, Int.reducePow, Int.reduceLT, Int.reduceLE, Int.reduceEq, Int.reduceNe, Int.reduceAdd, Int.reduceSub, and_self, reduceCtorEq, decide_eq_true_eq, decide_eq_false_iff_not, eq_self, implies_true, exists_const, Option.isNone_some, Option.isNone_none, Option.isSome_some, Option.isSome_none, Option.getD_some]
    exact ⟨0, rfl, rfl, by omega⟩
  rintro _ _ h' ⟨i, rfl, rfl, hi, rfl⟩
  have htk := tot_take rss i
  by_cases hil : i < us.length
  · have hil' : i < rss.length := by omega
    have hsplit : rss.take (i + 1) = rss.take i ++ [rss[i]] := by simp
    have htk1 := tot_take rss (i + 1)
    rw [hsplit, tot_append, tot, tot] at htk1
    obtain ⟨p, hp, hpc⟩ := hs.load hil .i64
    obtain ⟨wa, wc, hw⟩ := (hall i hil hil').len
    rw [hw] at hpc
    simp (disch := omega) only [dm_t, wA, wB, wL, wW, wY, Int.fdiv_eq_ediv_of_nonneg, Int.tdiv_eq_ediv_of_nonneg, Int.tmod_eq_emod_of_nonneg, chk_pos, decT, decF, br_pos, br_neg, wX, ↓reduceIte, Nat.reduceEqDiff, Nat.reduceAdd, Nat.reduceSub, Nat.reduceMul, Nat.reduceLeDiff, Nat.reduceLT, Nat.reduceMod, Nat.reduceDiv, Int.reduceToNat, Nat.min_eq_left, IntKind.bits, Int.reducePow, Int.reduceLT, Int.reduceLE, Int.reduceEq, Int.reduceNe, Int.reduceAdd, Int.reduceSub, and_self, reduceCtorEq, decide_eq_true_eq, decide_eq_false_iff_not, eq_self, implies_true, exists_const, Option.isNone_some, Option.isNone_none, Option.isSome_some, Option.isSome_none, Option.getD_some, hp, hpc]
    refine ⟨⟨i + 1, by simp, ?_, by omega⟩, by simp [m1]; omega⟩
    rw [hsplit, tot_append]; simp [tot]
  · obtain rfl : i = us.length := by omega
    rw [hlen, List.take_length]
    simp (disch := omega) only [dm_t, wA, wB, wL, wW, wY, Int.fdiv_eq_ediv_of_nonneg, Int.tdiv_eq_ediv_of_nonneg, Int.tmod_eq_emod_of_nonneg, chk_pos, decT, decF, br_pos, br_neg, wX, ↓reduceIte, Nat.reduceEqDiff, Nat.reduceAdd, Nat.reduceSub, Nat.reduceMul, Nat.reduceLeDiff, Nat.reduceLT, Nat.reduceMod, Nat.reduceDiv, Int.reduceToNat, Nat.min_eq_left, IntKind.bits, Int.reducePow, Int.reduceLT, Int.reduceLE, Int.reduceEq, Int.reduceNe, Int.reduceAdd, Int.reduceSub, and_self, reduceCtorEq, decide_eq_true_eq, decide_eq_false_iff_not, eq_self, implies_true, exists_const, Option.isNone_some, Option.isNone_none, Option.isSome_some, Option.isSome_none, Option.getD_some]
    refine (bGrow_ok (tot rss) ht).k ?_
    rintro w h1 ⟨o1, e1⟩
    simp (disch := omega) only [dm_t, wA, wB, wL, wW, wY, Int.fdiv_eq_ediv_of_nonneg, Int.tdiv_eq_ediv_of_nonneg, Int.tmod_eq_emod_of_nonneg, chk_pos, decT, decF, br_pos, br_neg, wX, ↓reduceIte, Nat.reduceEqDiff, Nat.reduceAdd, Nat.reduceSub, Nat.reduceMul, Nat.reduceLeDiff, Nat.reduceLT, Nat.reduceMod, Nat.reduceDiv, Int.reduceToNat, Nat.min_eq_left, IntKind.bits, Int.reducePow, Int.reduceLT, Int.reduceLE, Int.reduceEq, Int.reduceNe, Int.reduceAdd, Int.reduceSub, and_self, reduceCtorEq, decide_eq_true_eq, decide_eq_false_iff_not, eq_self, implies_true, exists_const, Option.isNone_some, Option.isNone_none, Option.isSome_some, Option.isSome_none, Option.getD_some]
    refine vc_loop2 (fun vs vi h2 => ∃ i : Nat, vi = .int .i64 (i : Int) ∧ i ≤ us.length ∧ OwK 2 (fun y => h' y = none) h2 71 vs (List.flatten (rss.take i)) ∧ Ext h' h2) (fun _ vi _ => us.length - m1 vi) ?_ ?_
    · simp (disch := omega) only [dm_t, wA, wB, wL, wW, wY, Int.fdiv_eq_ediv_of_nonneg, Int.tdiv_eq_ediv_of_nonneg, Int.tmod_eq_emod_of_nonneg, chk_pos, decT, decF, br_pos, br_neg, wX, ↓reduceIte, Nat.reduceEqDiff, Nat.reduceAdd, Nat.reduceSub, Nat.reduceMul, Nat.reduceLeDiff, Nat.reduceLT, Nat.reduceMod, Nat.reduceDiv, Int.reduceToNat, Nat.min_eq_left, IntKind.bits, Int.reducePow, Int.reduceLT, Int.reduceLE, Int.reduceEq, Int.reduceNe, Int.reduceAdd, Int.reduceSub, and_self, reduceCtorEq, decide_eq_true_eq, decide_eq_false_iff_not, eq_self, implies_true, exists_const, Option.isNone_some, Option.isNone_none, Option.isSome_some, Option.isSome_none, Option.getD_some]
      exact ⟨0, rfl, by omega, by simpa using o1, e1⟩
    rintro vs _ h2 ⟨i, rfl, hi, o2, e2⟩
    by_cases hil : i < us.length
    · have hil' : i < rss.length := by omega
      have hsplit : rss.take (i + 1) = rss.take i ++ [rss[i]] := by simp
      have htk1 := tot_take rss (i + 1)
      rw [hsplit, tot_append, tot, tot] at htk1
      have hfl : (List.flatten (rss.take i)).length = tot (rss.take i) := tot_flat _
      obtain ⟨p, hp, hpc⟩ := (hs.ext e2).load hil .i64
      rw [hlen] at hp
      have g3 := (hall i hil hil').ext e2
      obtain ⟨s1, s2⟩ := g3.src
      have s3 := s2 _ (Nat.le_refl _)
      rw [List.take_length] at s3
      simp (disch := omega) only [dm_t, wA, wB, wL, wW, wY, Int.fdiv_eq_ediv_of_nonneg, Int.tdiv_eq_ediv_of_nonneg, Int.tmod_eq_emod_of_nonneg, chk_pos, decT, decF, br_pos, br_neg, wX, ↓reduceIte, Nat.reduceEqDiff, Nat.reduceAdd, Nat.reduceSub, Nat.reduceMul, Nat.reduceLeDiff, Nat.reduceLT, Nat.reduceMod, Nat.reduceDiv, Int.reduceToNat, Nat.min_eq_left, IntKind.bits, Int.reducePow, Int.reduceLT, Int.reduceLE, Int.reduceEq, Int.reduceNe, Int.reduceAdd, Int.reduceSub, and_self, reduceCtorEq, decide_eq_true_eq, decide_eq_false_iff_not, eq_self, implies_true, exists_const, Option.isNone_some, Option.isNone_none, Option.isSome_some, Option.isSome_none, Option.getD_some, hp, hpc]
      refine app_ow o2 (fun y hy => e2.bk hy) g3.rect s1 s3 (all_flat fun r hr => hcell _ (List.getElem_mem hil') r hr) ?_ ?_ ?_ ?_
      · rfl
      · rw [hfl]; omega
      · rw [hfl]; omega
      intro s' h3 o3 f3 _
      simp (disch := omega) only [dm_t, wA, wB, wL, wW, wY, Int.fdiv_eq_ediv_of_nonneg, Int.tdiv_eq_ediv_of_nonneg, Int.tmod_eq_emod_of_nonneg, chk_pos, decT, decF, br_pos, br_neg, wX, ↓reduceIte, Nat.reduceEqDiff, Nat.reduceAdd, Nat.reduceSub, Nat.reduceMul, Nat.reduceLeDiff, Nat.reduceLT, Nat.reduceMod, Nat.reduceDiv, Int.reduceToNat, Nat.min_eq_left, IntKind.bits, Int.reducePow, Int.reduceLT, Int.reduceLE, Int.reduceEq, Int.reduceNe, Int.reduceAdd, Int.reduceSub, and_self, reduceCtorEq, decide_eq_true_eq, decide_eq_false_iff_not, eq_self, implies_true, exists_const, Option.isNone_some, Option.isNone_none, Option.isSome_some, Option.isSome_none, Option.getD_some]
      refine ⟨⟨i + 1, by simp, by omega, ?_, Ext.step e2 f3⟩, by simp [m1]; omega⟩
      rw [hsplit, List.flatten_append]; simpa using o3
    · obtain rfl : i = us.length := by omega
      rw [hlen, List.take_length] at o2
      simp (disch := omega) only [dm_t, wA, wB, wL, wW, wY, Int.fdiv_eq_ediv_of_nonneg, Int.tdiv_eq_ediv_of_nonneg, Int.tmod_eq_emod_of_nonneg, chk_pos, decT, decF, br_pos, br_neg, wX, ↓reduceIte, Nat.reduceEqDiff, Nat.reduceAdd, Nat.reduceSub, Nat.reduceMul, Nat.reduceLeDiff, Nat.reduceLT, Nat.reduceMod, Nat.reduceDiv, Int.reduceToNat, Nat.min_eq_left, IntKind.bits, Int.reducePow, Int.reduceLT, Int.reduceLE, Int.reduceEq, Int.reduceNe, Int.reduceAdd, Int.reduceSub, and_self, reduceCtorEq, decide_eq_true_eq, decide_eq_false_iff_not, eq_self, implies_true, exists_const, Option.isNone_some, Option.isNone_none, Option.isSome_some, Option.isSome_none, Option.getD_some]
      exact ⟨o2, e2⟩
end Go.Proofs.Ytojhnclkhiffkaa.mk

/-
  marks: the order by which Boards sorts: lists that were published.
-/
namespace Go.Proofs.Ytojhnclkhiffkaa.so
open Go.Proofs.Ytojhnclkhiffkaa
variable {PX : Cx Try.prog}
set_option linter.unusedVariables false
set_option linter.unusedSimpArgs false
abbrev Row := List Value
/-- cells of a row -/
abbrev kR : Nat := 2
def begV : Option Value → Int
  | some (Value.int _ n) => n
  | _ => 0
def beg (r : Row) : Int := begV r[0]?
def lt (r s : Row) : Prop := beg r < beg s
instance (r s : Row) : Decidable (lt r s) := inferInstanceAs (Decidable (beg r < beg s))
theorem lt_asym {r s : Row} (h : lt r s) : ¬ lt s r := by unfold lt at *; omega
theorem lt_ntr {r s t : Row} (h1 : ¬ lt s r) (h2 : ¬ lt t s) : ¬ lt t r := by unfold lt at *; omega
structure Good (r : Row) : Prop where
  len : r.length = kR
  cell : r.all isCell = true
  at9 : r[0]? = some (.int .i64 (beg r))
  lo : 0 ≤ beg r
  hi : beg r ≤ 4294967295
theorem less_ok {r s : Row} (h : H) (hr : Good r) (hs : Good s) : Ok PX 37 #[.agg r.toArray, .agg s.toArray] h fun v h' => (∃ c : Int, v = .int .i64 c ∧ (c < 0 ↔ lt r s)) ∧ Ext h h' := by
  obtain ⟨r1, r2, r3, r4, r5⟩ := hr
  obtain ⟨s1, s2, s3, s4, s5⟩ := hs
  refine c37_ok (args := [_, _]) (by simp) ?_
  simp (disch := omega) only [dm_t, wA, wB, wL, wW, wY, Int.fdiv_eq_ediv_of_nonneg, Int.tdiv_eq_ediv_of_nonneg, Int.tmod_eq_emod_of_nonneg, chk_pos, decT, decF, br_pos, br_neg, wX, ↓reduceIte, Nat.reduceEqDiff, Nat.reduceAdd, Nat.reduceSub, Nat.reduceMul, Nat.reduceLeDiff, Nat.reduceLT, Nat.reduceMod, Nat.reduceDiv, Int.reduceToNat, Nat.min_eq_left, IntKind.bits, Int.reducePow, Int.reduceLT, Int.reduceLE, Int.reduceEq, Int.reduceNe, Int.reduceAdd, Int.reduceSub, and_self, reduceCtorEq, decide_eq_true_eq, decide_eq_false_iff_not, eq_self, implies_true, exists_const, Option.isNone_some, Option.isNone_none, Option.isSome_some, Option.isSome_none, Option.getD_some]
  intro pa hpa pb hpb
  generalize hG : hupd h pa _ = g1 at hpb ⊢
  obtain ⟨e1, qa⟩ := new_ext hG hpa
  clear hG
  generalize hG : hupd g1 pb _ = g2
  obtain ⟨e2, qb⟩ := new_ext hG hpb
  clear hG
  have ca : cellAt g2 ⟨pa, 0, none⟩ = some (.int .i64 (beg r)) := by rw [cellAt_of (e2.at qa), List.getElem?_toArray, r3]
  have cb : cellAt g2 ⟨pb, 0, none⟩ = some (.int .i64 (beg s)) := by rw [cellAt_of qb, List.getElem?_toArray, s3]
  simp (disch := omega) only [dm_t, wA, wB, wL, wW, wY, Int.fdiv_eq_ediv_of_nonneg, Int.tdiv_eq_ediv_of_nonneg, Int.tmod_eq_emod_of_nonneg, chk_pos, decT, decF, br_pos, br_neg, wX, ↓reduceIte, Nat.reduceEqDiff, Nat.reduceAdd, Nat.reduceSub, Nat.reduceMul, Nat.reduceLeDiff, Nat.reduceLT, Nat.reduceMod, Nat.reduceDiv, Int.reduceToNat, Nat.min_eq_left, IntKind.bits, Int.reducePow, Int.reduceLT, Int.reduceLE, Int.reduceEq, Int.reduceNe, Int.reduceAdd, Int.reduceSub, and_self, reduceCtorEq, decide_eq_true_eq, decide_eq_false_iff_not, eq_self, implies_true, exists_const, Option.isNone_some, Option.isNone_none, Option.isSome_some, Option.isSome_none, Option.getD_some, ca, cb]
  exact ⟨⟨_, rfl, by unfold lt; omega⟩, e1.trans e2⟩
end Go.Proofs.Ytojhnclkhiffkaa.so

/-
  sort: rows, two of them changed for one another. (No program in sight.)
-/
namespace Go.Proofs.Ytojhnclkhiffkaa.so
open Go.Proofs.Ytojhnclkhiffkaa
variable {PX : Cx Try.prog}
set_option linter.unusedVariables false
set_option linter.unusedSimpArgs false
def gt (xs : List Row) (i : Nat) : Row := xs.getD i []
theorem gt_of {xs : List Row} {i : Nat} (h : i < xs.length) : gt xs i = xs[i] := by
  rw [gt, List.getD_eq_getElem?_getD, List.getElem?_eq_getElem h]; rfl
theorem gt_mem {xs : List Row} {i : Nat} (h : i < xs.length) : gt xs i ∈ xs := by rw [gt_of h]; exact List.getElem_mem h
def swp (xs : List Row) (i j : Nat) : List Row := (xs.set i (gt xs j)).set j (gt xs i)
theorem gt_swp {xs : List Row} {i j : Nat} (hi : i < xs.length) (hj : j < xs.length) (k : Nat) : gt (swp xs i j) k = if k = j then gt xs i else if k = i then gt xs j else gt xs k := by
  simp only [swp, gt, List.getD_eq_getElem?_getD, List.getElem?_set, List.length_set]
  by_cases h1 : k = j
  · subst h1; simp [hj]
  · by_cases h2 : k = i
    · subst h2; simp [hi, h1, Ne.symm h1]
    · simp [h1, h2, Ne.symm h1, Ne.symm h2]
theorem swp_perm {xs : List Row} {i j : Nat} (hi : i < xs.length) (hj : j < xs.length) : (swp xs i j).Perm xs := by
  rw [swp, gt_of hi, gt_of hj]
  exact List.set_set_perm hi hj
/-- Rows between two places changed about. -/
structure Rg (a b : Nat) (xs ys : List Row) : Prop where
  perm : ys.Perm xs
  out : ∀ k, k < a ∨ b ≤ k → gt ys k = gt xs k
  ins : ∀ k, a ≤ k → k < b → ∃ k', a ≤ k' ∧ k' < b ∧ gt ys k = gt xs k'
section
variable {a b a' b' : Nat} {xs ys zs : List Row}
theorem Rg.len (r : Rg a b xs ys) : ys.length = xs.length := r.perm.length_eq
theorem Rg.refl (a b : Nat) (xs : List Row) : Rg a b xs xs := ⟨.refl _, fun _ _ => rfl, fun k h1 h2 => ⟨k, h1, h2, rfl⟩⟩
theorem Rg.trans (r : Rg a b xs ys) (s : Rg a b ys zs) : Rg a b xs zs := ⟨s.perm.trans r.perm, fun k h => (s.out k h).trans (r.out k h), fun k h1 h2 => by
  obtain ⟨k', h3, h4, h5⟩ := s.ins k h1 h2
  obtain ⟨k2, h6, h7, h8⟩ := r.ins k' h3 h4
  exact ⟨k2, h6, h7, h5.trans h8⟩⟩
theorem Rg.mono (r : Rg a b xs ys) (ha : a' ≤ a) (hb : b ≤ b') : Rg a' b' xs ys := ⟨r.perm, fun k h => r.out k (by omega), fun k h1 h2 => by
  by_cases h : a ≤ k ∧ k < b
  · obtain ⟨k', h3, h4, h5⟩ := r.ins k h.1 h.2
    exact ⟨k', by omega, by omega, h5⟩
  · exact ⟨k, h1, h2, r.out k (by omega)⟩⟩
theorem Rg.swp {i j : Nat} (hb : b ≤ xs.length) (hi : a ≤ i) (hi2 : i < b) (hj : a ≤ j) (hj2 : j < b) : Rg a b xs (swp xs i j) := by
  refine ⟨swp_perm (by omega) (by omega), fun k h => ?_, fun k h1 h2 => ?_⟩
  · rw [gt_swp (by omega) (by omega), if_neg (by omega), if_neg (by omega)]
  · rw [gt_swp (by omega) (by omega)]
    by_cases h : k = j
    · exact ⟨i, hi, hi2, by rw [if_pos h]⟩
    · rw [if_neg h]
      by_cases h : k = i
      · exact ⟨j, hj, hj2, by rw [if_pos h]⟩
      · exact ⟨k, h1, h2, by rw [if_neg h]⟩
end
/-- No row is ahead of itself; le is an order. -/
abbrev le (r s : Row) : Prop := ¬ lt s r
theorem le_refl (r : Row) : le r r := fun h => lt_asym h h
theorem le_of_lt {r s : Row} (h : lt r s) : le r s := lt_asym h
theorem le_tr {r s t : Row} (h1 : le r s) (h2 : le s t) : le r t := lt_ntr h1 h2
/-- Sorted between two places. -/
def Srt (a b : Nat) (ys : List Row) : Prop := ∀ i j, a ≤ i → i < j → j < b → le (gt ys i) (gt ys j)
/-- What stands ahead of the two places is not behind what stands between them. -/
def Pre (a b : Nat) (xs : List Row) : Prop := 0 < a → ∀ k, a ≤ k → k < b → le (gt xs (a - 1)) (gt xs k)
theorem Pre.rg {a b : Nat} {xs ys : List Row} (p : Pre a b xs) (r : Rg a b xs ys) : Pre a b ys := fun h k h1 h2 => by
  obtain ⟨k', h3, h4, h5⟩ := r.ins k h1 h2
  rw [r.out (a - 1) (by omega), h5]
  exact p h k' h3 h4
/-! ### Insertion -/
/-- Between a and i (and at i) sorted, but for what stands at j, which goes to its place. -/
structure Ins (a i j : Nat) (ys : List Row) : Prop where
  s : ∀ p q, a ≤ p → p < q → q ≤ i → q ≠ j → le (gt ys p) (gt ys q)
theorem Ins.start {a i : Nat} {ys : List Row} (h : Srt a i ys) : Ins a i i ys := ⟨fun p q h1 h2 h3 h4 => h p q h1 h2 (by omega)⟩
theorem Ins.step {a i j : Nat} {ys : List Row} (h : Ins a i j ys) (hj : a < j) (hji : j ≤ i) (hi : i < ys.length) (hlt : lt (gt ys j) (gt ys (j - 1))) : Ins a i (j - 1) (swp ys j (j - 1)) := by
  refine ⟨fun p q h1 h2 h3 h4 => ?_⟩
  rw [gt_swp (by omega) (by omega), gt_swp (by omega) (by omega)]
  by_cases hq : q = j
  · subst hq
    rw [if_neg h4, if_pos rfl]
    by_cases hp : p = q - 1
    · rw [if_pos hp]; exact le_of_lt hlt
    · rw [if_neg hp, if_neg (by omega)]; exact h.s p (q - 1) h1 (by omega) (by omega) (by omega)
  · rw [if_neg h4, if_neg hq]
    by_cases hp : p = j - 1
    · rw [if_pos hp]; exact h.s j q (by omega) (by omega) h3 (by omega)
    · rw [if_neg hp]
      by_cases hp2 : p = j
      · rw [if_pos hp2]; exact h.s (j - 1) q (by omega) (by omega) h3 (by omega)
      · rw [if_neg hp2]; exact h.s p q h1 h2 h3 (by omega)
theorem Ins.done {a i j : Nat} {ys : List Row} (h : Ins a i j ys) (hj : j ≤ a ∨ le (gt ys (j - 1)) (gt ys j)) : Srt a (i + 1) ys := fun p q h1 h2 h3 => by
  by_cases hq : q = j
  · subst hq
    rcases hj with hj | hj
    · omega
    · by_cases hp : p = q - 1
      · rw [hp]; exact hj
      · exact le_tr (h.s p (q - 1) h1 (by omega) (by omega) (by omega)) hj
  · exact h.s p q h1 h2 (by omega) hq
end Go.Proofs.Ytojhnclkhiffkaa.so

/-
  sort: a slice of rows in memory; two rows changed for one another.
-/
namespace Go.Proofs.Ytojhnclkhiffkaa.so
open Go.Proofs.Ytojhnclkhiffkaa
variable {PX : Cx Try.prog}
set_option linter.unusedVariables false
set_option linter.unusedSimpArgs false
abbrev lessV : Value := .func (.func 37) #[] #[]
structure DX (g0 g : H) (sv : Value) (xs : List Row) : Prop where
  ow : OwK kR (fun _ => True) g 71 sv xs
  good : ∀ r ∈ xs, Good r
  fr : Fr (fun y => isAt sv y) g0 g
section
variable {g0 g g' : H} {sv : Value} {xs ys : List Row}
theorem DX.ext (d : DX g0 g sv xs) (e : Ext g g') : DX g0 g' sv xs := ⟨d.ow.ext e, d.good, fun y o hy hn => e y o (d.fr y o hy hn) id⟩
theorem DX.self (d : DX g0 g sv xs) : DX g g sv xs := ⟨d.ow, d.good, fun y o hy hn => hy⟩
theorem DX.from (d : DX g0 g sv xs) (d' : DX g g' sv ys) : DX g0 g' sv ys := ⟨d'.ow, d'.good, fun y o hy hn => d'.fr y o (d.fr y o hy hn) hn⟩
theorem DX.gd (d : DX g0 g sv xs) {i : Nat} (hi : i < xs.length) : Good (gt xs i) := d.good _ (gt_mem hi)
theorem DX.at (d : DX g0 g sv xs) {i : Nat} (hi : i < xs.length) {e : Int} (he : e = i) : ∃ b o, idxV1 kR sv (.int .i64 e) = some (.pointer (some ⟨b, o, none⟩)) ∧ cellsAt g ⟨b, o, none⟩ kR = some (gt xs i).toArray := by
  subst he
  obtain ⟨b, o, h1, _, _, h4⟩ := d.ow.s0.row hi .i64
  exact ⟨b, o, h1, by rw [gt_of hi]; exact h4⟩
/-- The place of a row, what stands there, and what a store of a whole row makes. -/
theorem DX.put (d : DX g0 g sv xs) {i : Nat} (hi : i < xs.length) {e : Int} (he : e = i) : ∃ b o, idxV1 kR sv (.int .i64 e) = some (.pointer (some ⟨b, o, none⟩)) ∧ ∀ (r : Row) (K : H → Prop), Good r → (∀ g', DX g0 g' sv (xs.set i r) → K g') → storeH g ⟨b, o, none⟩ r K := by
  subst he
  obtain ⟨b, o, h1, _, h3, h4⟩ := d.ow.put hi .i64
  refine ⟨b, o, h1, fun r K hr hK => ?_⟩
  have hk : (xs[i]).length = kR := d.ow.s0.rect _ (List.getElem_mem hi)
  refine h4 0 r K (by rw [hr.len]; omega) hr.cell fun g' o' f' => hK g' ⟨?_, ?_, ?_⟩
  · rw [hr.len, List.take_zero, List.nil_append, List.drop_of_length_le (by omega), List.append_nil] at o'
    exact o'
  · intro s hs
    rcases List.mem_or_eq_of_mem_set hs with hs | rfl
    · exact d.good s hs
    · exact hr
  · intro y o hy hn
    exact f' y o (d.fr y o hy hn) fun h => hn (h ▸ h3)
theorem DX.st (d : DX g0 g sv xs) {i : Nat} (hi : i < xs.length) {e : Int} (he : e = i) {b o : Nat} (hidx : idxV1 kR sv (.int .i64 e) = some (.pointer (some ⟨b, o, none⟩))) {r : Row} {K : H → Prop} (hr : Good r) (hK : ∀ g', DX g0 g' sv (xs.set i r) → K g') : storeH g ⟨b, o, none⟩ r K := by
  obtain ⟨b', o', h1, h2⟩ := d.put hi he
  rw [hidx] at h1
  simp only [Option.some.injEq, Value.pointer.injEq, Addr.mk.injEq, and_true] at h1
  obtain ⟨rfl, rfl⟩ := h1
  exact h2 r K hr hK
theorem DX.st2 (d : DX g0 g sv xs) {i : Nat} (hi : i < xs.length) {e : Int} (he : e = i) {b o : Nat} (hidx : idxV1 kR sv (.int .i64 e) = some (.pointer (some ⟨b, o, none⟩))) {r : Row} {K : H → Prop} (hr : Good r) (hK : ∀ g', DX g0 g' sv (xs.set i r) → Fr (fun y => isAt sv y) g g' → K g') : storeH g ⟨b, o, none⟩ r K :=
  (d.self).st hi he hidx hr fun g' d' => hK g' (d.from d') d'.fr
end
end Go.Proofs.Ytojhnclkhiffkaa.so

/-
  sort: insertionSortCmpFunc.
-/
namespace Go.Proofs.Ytojhnclkhiffkaa.so
open Go.Proofs.Ytojhnclkhiffkaa
variable {PX : Cx Try.prog}
set_option linter.unusedVariables false
set_option linter.unusedSimpArgs false
theorem Ins_ok {h : H} {sv : Value} {xs : List Row} {a b : Nat} (d : DX h h sv xs) (hab : a ≤ b) (hb : b ≤ xs.length) (hl : xs.length ≤ 4611686018427387904) :
    Ok PX 70 #[sv, .int .i64 (a : Int), .int .i64 (b : Int), lessV] h fun _ h' => ∃ ys, DX h h' sv ys ∧ Rg a b xs ys ∧ Srt a b ys := by
  refine c70_ok (args := [_, _, _, _]) (by simp) ?_
  simp (disch := omega) only [dm_t, wA, wB, wL, wW, wY, Int.fdiv_eq_ediv_of_nonneg, Int.tdiv_eq_ediv_of_nonneg, Int.tmod_eq_emod_of_nonneg, chk_pos, decT, decF, br_pos, br_neg, wX, ↓reduceIte, Nat.reduceEqDiff, Nat.reduceAdd, Nat.reduceSub, Nat.reduceMul, Nat.reduceLeDiff, Nat.reduceLT, Nat.reduceMod, Nat.reduceDiv, Int.reduceToNat, Nat.min_eq_left, IntKind.bits, Int.reducePow, Int.reduceLT, Int.reduceLE, Int.reduceEq, Int.reduceNe, Int.reduceAdd, Int.reduceSub, and_self, reduceCtorEq, decide_eq_true_eq, decide_eq_false_iff_not, eq_self, implies_true, exists_const, Option.isNone_some, Option.isNone_none, Option.isSome_some, Option.isSome_none, Option.getD_some]
  refine vc_loop1 (fun vi g => ∃ (i : Nat) (ys : List Row), vi = .int .i64 (i : Int) ∧ a < i ∧ (i ≤ b ∨ i = a + 1) ∧ DX h g sv ys ∧ Rg a b xs ys ∧ Srt a i ys) (fun vi _ => b - m1 vi) ?_ ?_
  · simp (disch := omega) only [dm_t, wA, wB, wL, wW, wY, Int.fdiv_eq_ediv_of_nonneg, Int.tdiv_eq_ediv_of_nonneg, Int.tmod_eq_emod_of_nonneg, chk_pos, decT, decF, br_pos, br_neg, wX, ↓reduceIte, Nat.reduceEqDiff, Nat.reduceAdd, Nat.reduceSub, Nat.reduceMul, Nat.reduceLeDiff, Nat.reduceLT, Nat.reduceMod, Nat.reduceDiv, Int.reduceToNat, Nat.min_eq_left, IntKind.bits, Int.reducePow, Int.reduceLT, Int.reduceLE, Int.reduceEq, Int.reduceNe, Int.reduceAdd, Int.reduceSub, and_self, reduceCtorEq, decide_eq_true_eq, decide_eq_false_iff_not, eq_self, implies_true, exists_const, Option.isNone_some, Option.isNone_none, Option.isSome_some, Option.isSome_none, Option.getD_some]
    exact ⟨a + 1, xs, by simp, by omega, by omega, d, Rg.refl _ _ _, fun i j h1 h2 h3 => by omega⟩
  rintro _ g ⟨i, ys, rfl, hai, hib, D, R, s⟩
  have hlen := R.len
  by_cases hi : i < b
  · generalize hQ0 : lq1 _ _ _ _ _ _ _ = Q0
    simp (disch := omega) only [dm_t, wA, wB, wL, wW, wY, Int.fdiv_eq_ediv_of_nonneg, Int.tdiv_eq_ediv_of_nonneg, Int.tmod_eq_emod_of_nonneg, chk_pos, decT, decF, br_pos, br_neg, wX, ↓reduceIte, Nat.reduceEqDiff, Nat.reduceAdd, Nat.reduceSub, Nat.reduceMul, Nat.reduceLeDiff, Nat.reduceLT, Nat.reduceMod, Nat.reduceDiv, Int.reduceToNat, Nat.min_eq_left, IntKind.bits, Int.reducePow, Int.reduceLT, Int.reduceLE, Int.reduceEq, Int.reduceNe, Int.reduceAdd, Int.reduceSub, and_self, reduceCtorEq, decide_eq_true_eq, decide_eq_false_iff_not, eq_self, implies_true, exists_const, Option.isNone_some, Option.isNone_none, Option.isSome_some, Option.isSome_none, Option.getD_some]
    refine vc_loop1 (fun vj g => ∃ (j : Nat) (ys : List Row), vj = .int .i64 (j : Int) ∧ a ≤ j ∧ j ≤ i ∧ DX h g sv ys ∧ Rg a b xs ys ∧ Ins a i j ys) (fun vj _ => m1 vj) ?_ ?_
    · simp (disch := omega) only [dm_t, wA, wB, wL, wW, wY, Int.fdiv_eq_ediv_of_nonneg, Int.tdiv_eq_ediv_of_nonneg, Int.tmod_eq_emod_of_nonneg, chk_pos, decT, decF, br_pos, br_neg, wX, ↓reduceIte, Nat.reduceEqDiff, Nat.reduceAdd, Nat.reduceSub, Nat.reduceMul, Nat.reduceLeDiff, Nat.reduceLT, Nat.reduceMod, Nat.reduceDiv, Int.reduceToNat, Nat.min_eq_left, IntKind.bits, Int.reducePow, Int.reduceLT, Int.reduceLE, Int.reduceEq, Int.reduceNe, Int.reduceAdd, Int.reduceSub, and_self, reduceCtorEq, decide_eq_true_eq, decide_eq_false_iff_not, eq_self, implies_true, exists_const, Option.isNone_some, Option.isNone_none, Option.isSome_some, Option.isSome_none, Option.getD_some]
      exact ⟨i, ys, rfl, by omega, by omega, D, R, Ins.start s⟩
    clear D R s
    rintro _ g2 ⟨j, zs, rfl, haj, hji, D, R, I⟩
    have hlen := R.len
    by_cases hja : a < j
    · obtain ⟨b1, o1, i1, t1⟩ := D.at (i := j) (by omega) rfl
      obtain ⟨b2, o2, i2, t2⟩ := D.at (i := j - 1) (by omega) (e := (j : Int) - 1) (by omega)
      simp (disch := omega) only [dm_t, wA, wB, wL, wW, wY, Int.fdiv_eq_ediv_of_nonneg, Int.tdiv_eq_ediv_of_nonneg, Int.tmod_eq_emod_of_nonneg, chk_pos, decT, decF, br_pos, br_neg, wX, ↓reduceIte, Nat.reduceEqDiff, Nat.reduceAdd, Nat.reduceSub, Nat.reduceMul, Nat.reduceLeDiff, Nat.reduceLT, Nat.reduceMod, Nat.reduceDiv, Int.reduceToNat, Nat.min_eq_left, IntKind.bits, Int.reducePow, Int.reduceLT, Int.reduceLE, Int.reduceEq, Int.reduceNe, Int.reduceAdd, Int.reduceSub, and_self, reduceCtorEq, decide_eq_true_eq, decide_eq_false_iff_not, eq_self, implies_true, exists_const, Option.isNone_some, Option.isNone_none, Option.isSome_some, Option.isSome_none, Option.getD_some, i1, t1, i2, t2]
      refine ⟨rfl, (less_ok g2 (D.gd (i := j) (by omega)) (D.gd (i := j - 1) (by omega))).k ?_⟩
      rintro _ g3 ⟨⟨c, rfl, hc⟩, e3⟩
      have D3 := D.ext e3
      have t1' := cellsAt_ext e3 t1
      have t2' := cellsAt_ext e3 t2
      by_cases hc0 : c < 0
      · have hlt := hc.1 hc0
        simp (disch := omega) only [dm_t, wA, wB, wL, wW, wY, Int.fdiv_eq_ediv_of_nonneg, Int.tdiv_eq_ediv_of_nonneg, Int.tmod_eq_emod_of_nonneg, chk_pos, decT, decF, br_pos, br_neg, wX, ↓reduceIte, Nat.reduceEqDiff, Nat.reduceAdd, Nat.reduceSub, Nat.reduceMul, Nat.reduceLeDiff, Nat.reduceLT, Nat.reduceMod, Nat.reduceDiv, Int.reduceToNat, Nat.min_eq_left, IntKind.bits, Int.reducePow, Int.reduceLT, Int.reduceLE, Int.reduceEq, Int.reduceNe, Int.reduceAdd, Int.reduceSub, and_self, reduceCtorEq, decide_eq_true_eq, decide_eq_false_iff_not, eq_self, implies_true, exists_const, Option.isNone_some, Option.isNone_none, Option.isSome_some, Option.isSome_none, Option.getD_some, i1, t1', i2, t2']
        refine ⟨(D3.gd (i := j - 1) (by omega)).len, D3.st (i := j) (by omega) rfl i1 (D3.gd (i := j - 1) (by omega)) fun g4 D4 => ?_⟩
        simp (disch := omega) only [dm_t, wA, wB, wL, wW, wY, Int.fdiv_eq_ediv_of_nonneg, Int.tdiv_eq_ediv_of_nonneg, Int.tmod_eq_emod_of_nonneg, chk_pos, decT, decF, br_pos, br_neg, wX, ↓reduceIte, Nat.reduceEqDiff, Nat.reduceAdd, Nat.reduceSub, Nat.reduceMul, Nat.reduceLeDiff, Nat.reduceLT, Nat.reduceMod, Nat.reduceDiv, Int.reduceToNat, Nat.min_eq_left, IntKind.bits, Int.reducePow, Int.reduceLT, Int.reduceLE, Int.reduceEq, Int.reduceNe, Int.reduceAdd, Int.reduceSub, and_self, reduceCtorEq, decide_eq_true_eq, decide_eq_false_iff_not, eq_self, implies_true, exists_const, Option.isNone_some, Option.isNone_none, Option.isSome_some, Option.isSome_none, Option.getD_some, i1, i2]
        refine ⟨(D3.gd (i := j) (by omega)).len, D4.st (i := j - 1) (by rw [List.length_set]; omega) (by omega) i2 (D3.gd (i := j) (by omega)) fun g5 D5 => ?_⟩
        simp (disch := omega) only [dm_t, wA, wB, wL, wW, wY, Int.fdiv_eq_ediv_of_nonneg, Int.tdiv_eq_ediv_of_nonneg, Int.tmod_eq_emod_of_nonneg, chk_pos, decT, decF, br_pos, br_neg, wX, ↓reduceIte, Nat.reduceEqDiff, Nat.reduceAdd, Nat.reduceSub, Nat.reduceMul, Nat.reduceLeDiff, Nat.reduceLT, Nat.reduceMod, Nat.reduceDiv, Int.reduceToNat, Nat.min_eq_left, IntKind.bits, Int.reducePow, Int.reduceLT, Int.reduceLE, Int.reduceEq, Int.reduceNe, Int.reduceAdd, Int.reduceSub, and_self, reduceCtorEq, decide_eq_true_eq, decide_eq_false_iff_not, eq_self, implies_true, exists_const, Option.isNone_some, Option.isNone_none, Option.isSome_some, Option.isSome_none, Option.getD_some]
        exact ⟨⟨j - 1, _, by congr 1; omega, by omega, by omega, D5, R.trans (Rg.swp (by omega) (by omega) (by omega) (by omega) (by omega)), I.step hja (by omega) (by omega) hlt⟩, by simp [m1]; omega⟩
      · simp (disch := omega) only [dm_t, wA, wB, wL, wW, wY, Int.fdiv_eq_ediv_of_nonneg, Int.tdiv_eq_ediv_of_nonneg, Int.tmod_eq_emod_of_nonneg, chk_pos, decT, decF, br_pos, br_neg, wX, ↓reduceIte, Nat.reduceEqDiff, Nat.reduceAdd, Nat.reduceSub, Nat.reduceMul, Nat.reduceLeDiff, Nat.reduceLT, Nat.reduceMod, Nat.reduceDiv, Int.reduceToNat, Nat.min_eq_left, IntKind.bits, Int.reducePow, Int.reduceLT, Int.reduceLE, Int.reduceEq, Int.reduceNe, Int.reduceAdd, Int.reduceSub, and_self, reduceCtorEq, decide_eq_true_eq, decide_eq_false_iff_not, eq_self, implies_true, exists_const, Option.isNone_some, Option.isNone_none, Option.isSome_some, Option.isSome_none, Option.getD_some, i1, t1', i2, t2']
        rw [← hQ0]
        simp (disch := omega) only [dm_t, wA, wB, wL, wW, wY, Int.fdiv_eq_ediv_of_nonneg, Int.tdiv_eq_ediv_of_nonneg, Int.tmod_eq_emod_of_nonneg, chk_pos, decT, decF, br_pos, br_neg, wX, ↓reduceIte, Nat.reduceEqDiff, Nat.reduceAdd, Nat.reduceSub, Nat.reduceMul, Nat.reduceLeDiff, Nat.reduceLT, Nat.reduceMod, Nat.reduceDiv, Int.reduceToNat, Nat.min_eq_left, IntKind.bits, Int.reducePow, Int.reduceLT, Int.reduceLE, Int.reduceEq, Int.reduceNe, Int.reduceAdd, Int.reduceSub, and_self, reduceCtorEq, decide_eq_true_eq, decide_eq_false_iff_not, eq_self, implies_true, exists_const, Option.isNone_some, Option.isNone_none, Option.isSome_some, Option.isSome_none, Option.getD_some]
        exact ⟨⟨i + 1, zs, by simp, by omega, by omega, D3, R, I.done (.inr fun h => hc0 (hc.2 h))⟩, by simp [m1]; omega⟩
    · simp (disch := omega) only [dm_t, wA, wB, wL, wW, wY, Int.fdiv_eq_ediv_of_nonneg, Int.tdiv_eq_ediv_of_nonneg, Int.tmod_eq_emod_of_nonneg, chk_pos, decT, decF, br_pos, br_neg, wX, ↓reduceIte, Nat.reduceEqDiff, Nat.reduceAdd, Nat.reduceSub, Nat.reduceMul, Nat.reduceLeDiff, Nat.reduceLT, Nat.reduceMod, Nat.reduceDiv, Int.reduceToNat, Nat.min_eq_left, IntKind.bits, Int.reducePow, Int.reduceLT, Int.reduceLE, Int.reduceEq, Int.reduceNe, Int.reduceAdd, Int.reduceSub, and_self, reduceCtorEq, decide_eq_true_eq, decide_eq_false_iff_not, eq_self, implies_true, exists_const, Option.isNone_some, Option.isNone_none, Option.isSome_some, Option.isSome_none, Option.getD_some]
      rw [← hQ0]
      simp (disch := omega) only [dm_t, wA, wB, wL, wW, wY, Int.fdiv_eq_ediv_of_nonneg, Int.tdiv_eq_ediv_of_nonneg, Int.tmod_eq_emod_of_nonneg, chk_pos, decT, decF, br_pos, br_neg, wX, ↓reduceIte, Nat.reduceEqDiff, Nat.reduceAdd, Nat.reduceSub, Nat.reduceMul, Nat.reduceLeDiff, Nat.reduceLT, Nat.reduceMod, Nat.reduceDiv, Int.reduceToNat, Nat.min_eq_left, IntKind.bits, Int.reducePow, Int.reduceLT, Int.reduceLE, Int.reduceEq, Int.reduceNe, Int.reduceAdd, Int.reduceSub, and_self, reduceCtorEq, decide_eq_true_eq, decide_eq_false_iff_not, eq_self, implies_true, exists_const, Option.isNone_some, Option.isNone_none, Option.isSome_some, Option.isSome_none, Option.getD_some]
      exact ⟨⟨i + 1, zs, by simp, by omega, by omega, D, R, I.done (.inl (by omega))⟩, by simp [m1]; omega⟩
  · simp (disch := omega) only [dm_t, wA, wB, wL, wW, wY, Int.fdiv_eq_ediv_of_nonneg, Int.tdiv_eq_ediv_of_nonneg, Int.tmod_eq_emod_of_nonneg, chk_pos, decT, decF, br_pos, br_neg, wX, ↓reduceIte, Nat.reduceEqDiff, Nat.reduceAdd, Nat.reduceSub, Nat.reduceMul, Nat.reduceLeDiff, Nat.reduceLT, Nat.reduceMod, Nat.reduceDiv, Int.reduceToNat, Nat.min_eq_left, IntKind.bits, Int.reducePow, Int.reduceLT, Int.reduceLE, Int.reduceEq, Int.reduceNe, Int.reduceAdd, Int.reduceSub, and_self, reduceCtorEq, decide_eq_true_eq, decide_eq_false_iff_not, eq_self, implies_true, exists_const, Option.isNone_some, Option.isNone_none, Option.isSome_some, Option.isSome_none, Option.getD_some]
    exact ⟨ys, D, R, fun p q h1 h2 h3 => s p q h1 h2 (by omega)⟩
end Go.Proofs.Ytojhnclkhiffkaa.so

/-
  sort: reverseRange, order2, median, choosePivot.
-/
namespace Go.Proofs.Ytojhnclkhiffkaa.so
open Go.Proofs.Ytojhnclkhiffkaa
variable {PX : Cx Try.prog}
set_option linter.unusedVariables false
set_option linter.unusedSimpArgs false
theorem Rev_ok {h : H} {sv cv : Value} {xs : List Row} {a b : Nat} (d : DX h h sv xs) (hab : a < b) (hb : b ≤ xs.length) (hl : xs.length ≤ 4611686018427387904) :
    Ok PX 74 #[sv, .int .i64 (a : Int), .int .i64 (b : Int), cv] h fun _ h' => ∃ ys, DX h h' sv ys ∧ Rg a b xs ys := by
  refine c74_ok (args := [_, _, _, _]) (by simp) ?_
  simp (disch := omega) only [dm_t, wA, wB, wL, wW, wY, Int.fdiv_eq_ediv_of_nonneg, Int.tdiv_eq_ediv_of_nonneg, Int.tmod_eq_emod_of_nonneg, chk_pos, decT, decF, br_pos, br_neg, wX, ↓reduceIte, Nat.reduceEqDiff, Nat.reduceAdd, Nat.reduceSub, Nat.reduceMul, Nat.reduceLeDiff, Nat.reduceLT, Nat.reduceMod, Nat.reduceDiv, Int.reduceToNat, Nat.min_eq_left, IntKind.bits, Int.reducePow, Int.reduceLT, Int.reduceLE, Int.reduceEq, Int.reduceNe, Int.reduceAdd, Int.reduceSub, and_self, reduceCtorEq, decide_eq_true_eq, decide_eq_false_iff_not, eq_self, implies_true, exists_const, Option.isNone_some, Option.isNone_none, Option.isSome_some, Option.isSome_none, Option.getD_some]
  refine vc_loop2 (fun vi vj g => ∃ (i j : Nat) (ys : List Row), vi = .int .i64 (i : Int) ∧ vj = .int .i64 (j : Int) ∧ a ≤ i ∧ j < b ∧ a ≤ j + 1 ∧ i ≤ b ∧ DX h g sv ys ∧ Rg a b xs ys) (fun vi _ _ => b - m1 vi) ?_ ?_
  · simp (disch := omega) only [dm_t, wA, wB, wL, wW, wY, Int.fdiv_eq_ediv_of_nonneg, Int.tdiv_eq_ediv_of_nonneg, Int.tmod_eq_emod_of_nonneg, chk_pos, decT, decF, br_pos, br_neg, wX, ↓reduceIte, Nat.reduceEqDiff, Nat.reduceAdd, Nat.reduceSub, Nat.reduceMul, Nat.reduceLeDiff, Nat.reduceLT, Nat.reduceMod, Nat.reduceDiv, Int.reduceToNat, Nat.min_eq_left, IntKind.bits, Int.reducePow, Int.reduceLT, Int.reduceLE, Int.reduceEq, Int.reduceNe, Int.reduceAdd, Int.reduceSub, and_self, reduceCtorEq, decide_eq_true_eq, decide_eq_false_iff_not, eq_self, implies_true, exists_const, Option.isNone_some, Option.isNone_none, Option.isSome_some, Option.isSome_none, Option.getD_some]
    exact ⟨a, b - 1, xs, rfl, by congr 1; omega, by omega, by omega, by omega, by omega, d, Rg.refl _ _ _⟩
  rintro _ _ g ⟨i, j, ys, rfl, rfl, hai, hjb, haj, hib, D, R⟩
  have hlen := R.len
  by_cases hij : i < j
  · obtain ⟨b1, o1, i1, t1⟩ := D.at (i := i) (by omega) rfl
    obtain ⟨b2, o2, i2, t2⟩ := D.at (i := j) (by omega) rfl
    simp (disch := omega) only [dm_t, wA, wB, wL, wW, wY, Int.fdiv_eq_ediv_of_nonneg, Int.tdiv_eq_ediv_of_nonneg, Int.tmod_eq_emod_of_nonneg, chk_pos, decT, decF, br_pos, br_neg, wX, ↓reduceIte, Nat.reduceEqDiff, Nat.reduceAdd, Nat.reduceSub, Nat.reduceMul, Nat.reduceLeDiff, Nat.reduceLT, Nat.reduceMod, Nat.reduceDiv, Int.reduceToNat, Nat.min_eq_left, IntKind.bits, Int.reducePow, Int.reduceLT, Int.reduceLE, Int.reduceEq, Int.reduceNe, Int.reduceAdd, Int.reduceSub, and_self, reduceCtorEq, decide_eq_true_eq, decide_eq_false_iff_not, eq_self, implies_true, exists_const, Option.isNone_some, Option.isNone_none, Option.isSome_some, Option.isSome_none, Option.getD_some, i1, t1, i2, t2]
    refine ⟨(D.gd (i := j) (by omega)).len, D.st (i := i) (by omega) rfl i1 (D.gd (i := j) (by omega)) fun g4 D4 => ?_⟩
    simp (disch := omega) only [dm_t, wA, wB, wL, wW, wY, Int.fdiv_eq_ediv_of_nonneg, Int.tdiv_eq_ediv_of_nonneg, Int.tmod_eq_emod_of_nonneg, chk_pos, decT, decF, br_pos, br_neg, wX, ↓reduceIte, Nat.reduceEqDiff, Nat.reduceAdd, Nat.reduceSub, Nat.reduceMul, Nat.reduceLeDiff, Nat.reduceLT, Nat.reduceMod, Nat.reduceDiv, Int.reduceToNat, Nat.min_eq_left, IntKind.bits, Int.reducePow, Int.reduceLT, Int.reduceLE, Int.reduceEq, Int.reduceNe, Int.reduceAdd, Int.reduceSub, and_self, reduceCtorEq, decide_eq_true_eq, decide_eq_false_iff_not, eq_self, implies_true, exists_const, Option.isNone_some, Option.isNone_none, Option.isSome_some, Option.isSome_none, Option.getD_some, i1, i2]
    refine ⟨(D.gd (i := i) (by omega)).len, D4.st (i := j) (by rw [List.length_set]; omega) rfl i2 (D.gd (i := i) (by omega)) fun g5 D5 => ?_⟩
    simp (disch := omega) only [dm_t, wA, wB, wL, wW, wY, Int.fdiv_eq_ediv_of_nonneg, Int.tdiv_eq_ediv_of_nonneg, Int.tmod_eq_emod_of_nonneg, chk_pos, decT, decF, br_pos, br_neg, wX, ↓reduceIte, Nat.reduceEqDiff, Nat.reduceAdd, Nat.reduceSub, Nat.reduceMul, Nat.reduceLeDiff, Nat.reduceLT, Nat.reduceMod, Nat.reduceDiv, Int.reduceToNat, Nat.min_eq_left, IntKind.bits, Int.reducePow, Int.reduceLT, Int.reduceLE, Int.reduceEq, Int.reduceNe, Int.reduceAdd, Int.reduceSub, and_self, reduceCtorEq, decide_eq_true_eq, decide_eq_false_iff_not, eq_self, implies_true, exists_const, Option.isNone_some, Option.isNone_none, Option.isSome_some, Option.isSome_none, Option.getD_some]
    exact ⟨⟨i + 1, j - 1, _, by simp, by congr 1; omega, by omega, by omega, by omega, by omega, D5, R.trans (Rg.swp (by omega) (by omega) (by omega) (by omega) (by omega))⟩, by simp [m1]; omega⟩
  · simp (disch := omega) only [dm_t, wA, wB, wL, wW, wY, Int.fdiv_eq_ediv_of_nonneg, Int.tdiv_eq_ediv_of_nonneg, Int.tmod_eq_emod_of_nonneg, chk_pos, decT, decF, br_pos, br_neg, wX, ↓reduceIte, Nat.reduceEqDiff, Nat.reduceAdd, Nat.reduceSub, Nat.reduceMul, Nat.reduceLeDiff, Nat.reduceLT, Nat.reduceMod, Nat.reduceDiv, Int.reduceToNat, Nat.min_eq_left, IntKind.bits, Int.reducePow, Int.reduceLT, Int.reduceLE, Int.reduceEq, Int.reduceNe, Int.reduceAdd, Int.reduceSub, and_self, reduceCtorEq, decide_eq_true_eq, decide_eq_false_iff_not, eq_self, implies_true, exists_const, Option.isNone_some, Option.isNone_none, Option.isSome_some, Option.isSome_none, Option.getD_some]
    exact ⟨ys, D, R⟩
/-- One of two. -/
def Two2 (a b x y : Nat) : Prop := (x = a ∧ y = b) ∨ (x = b ∧ y = a)
theorem Ord2_ok {h g : H} {sv : Value} {xs : List Row} {a b p : Nat} {n : Int} (d : DX h g sv xs) (ha : a < xs.length) (hb : b < xs.length) (hl : xs.length ≤ 4611686018427387904)
    (hp : g p = some (.cells #[.int .i64 n] 3)) : Ok PX 90 #[sv, .int .i64 (a : Int), .int .i64 (b : Int), .pointer (some ⟨p, 0, none⟩), lessV] g
      fun v g' => ∃ (x y : Nat) (n' : Int), v = .tuple #[.int .i64 (x : Int), .int .i64 (y : Int)] ∧ Two2 a b x y ∧ g' p = some (.cells #[.int .i64 n'] 3) ∧ Fr (fun z => z = p) g g' := by
  refine c90_ok (args := [_, _, _, _, _]) (by simp) ?_
  obtain ⟨b1, o1, i1, t1⟩ := d.at (i := b) hb rfl
  obtain ⟨b2, o2, i2, t2⟩ := d.at (i := a) ha rfl
  simp (disch := omega) only [dm_t, wA, wB, wL, wW, wY, Int.fdiv_eq_ediv_of_nonneg, Int.tdiv_eq_ediv_of_nonneg, Int.tmod_eq_emod_of_nonneg, chk_pos, decT, decF, br_pos, br_neg, wX, ↓reduceIte, Nat.reduceEqDiff, Nat.reduceAdd, Nat.reduceSub, Nat.reduceMul, Nat.reduceLeDiff, Nat.reduceLT, Nat.reduceMod, Nat.reduceDiv, Int.reduceToNat, Nat.min_eq_left, IntKind.bits, Int.reducePow, Int.reduceLT, Int.reduceLE, Int.reduceEq, Int.reduceNe, Int.reduceAdd, Int.reduceSub, and_self, reduceCtorEq, decide_eq_true_eq, decide_eq_false_iff_not, eq_self, implies_true, exists_const, Option.isNone_some, Option.isNone_none, Option.isSome_some, Option.isSome_none, Option.getD_some, i1, t1, i2, t2]
  refine ⟨rfl, (less_ok g (d.gd hb) (d.gd ha)).k ?_⟩
  rintro _ g3 ⟨⟨c, rfl, hc⟩, e3⟩
  have t1' := cellsAt_ext e3 t1
  have t2' := cellsAt_ext e3 t2
  have hp3 := e3.at hp
  by_cases hc0 : c < 0
  · simp (disch := omega) only [dm_t, wA, wB, wL, wW, wY, Int.fdiv_eq_ediv_of_nonneg, Int.tdiv_eq_ediv_of_nonneg, Int.tmod_eq_emod_of_nonneg, chk_pos, decT, decF, br_pos, br_neg, wX, ↓reduceIte, Nat.reduceEqDiff, Nat.reduceAdd, Nat.reduceSub, Nat.reduceMul, Nat.reduceLeDiff, Nat.reduceLT, Nat.reduceMod, Nat.reduceDiv, Int.reduceToNat, Nat.min_eq_left, IntKind.bits, Int.reducePow, Int.reduceLT, Int.reduceLE, Int.reduceEq, Int.reduceNe, Int.reduceAdd, Int.reduceSub, and_self, reduceCtorEq, decide_eq_true_eq, decide_eq_false_iff_not, eq_self, implies_true, exists_const, Option.isNone_some, Option.isNone_none, Option.isSome_some, Option.isSome_none, Option.getD_some, i1, t1', i2, t2', cellAt_of hp3, storeH_0 hp3]
    exact ⟨b, a, _, rfl, .inr ⟨rfl, rfl⟩, hupd_same _ _ _, fun y o hy hn => by rw [hupd_ne _ _ hn]; exact e3 y o hy id⟩
  · simp (disch := omega) only [dm_t, wA, wB, wL, wW, wY, Int.fdiv_eq_ediv_of_nonneg, Int.tdiv_eq_ediv_of_nonneg, Int.tmod_eq_emod_of_nonneg, chk_pos, decT, decF, br_pos, br_neg, wX, ↓reduceIte, Nat.reduceEqDiff, Nat.reduceAdd, Nat.reduceSub, Nat.reduceMul, Nat.reduceLeDiff, Nat.reduceLT, Nat.reduceMod, Nat.reduceDiv, Int.reduceToNat, Nat.min_eq_left, IntKind.bits, Int.reducePow, Int.reduceLT, Int.reduceLE, Int.reduceEq, Int.reduceNe, Int.reduceAdd, Int.reduceSub, and_self, reduceCtorEq, decide_eq_true_eq, decide_eq_false_iff_not, eq_self, implies_true, exists_const, Option.isNone_some, Option.isNone_none, Option.isSome_some, Option.isSome_none, Option.getD_some, i1, t1', i2, t2']
    exact ⟨a, b, n, rfl, .inl ⟨rfl, rfl⟩, hp3, fun y o hy hn => e3 y o hy id⟩
theorem DX.at' {h g g' : H} {sv : Value} {xs : List Row} {p : Nat} (d : DX h g sv xs) (hp : ¬ isAt sv p) (f : Fr (fun z => z = p) g g') (hn : h p = none) : DX h g' sv xs :=
  ⟨d.ow.fr f fun x hx _ => hx ▸ hp, d.good, fun y o hy hs => f y o (d.fr y o hy hs) fun h => by rw [h, hn] at hy; cases hy⟩
theorem Med_ok {h g : H} {sv : Value} {xs : List Row} {a b c p : Nat} {n : Int} (d : DX h g sv xs) (ha : a < xs.length) (hb : b < xs.length) (hc : c < xs.length) (hl : xs.length ≤ 4611686018427387904)
    (hn : h p = none) (hps : ¬ isAt sv p) (hp : g p = some (.cells #[.int .i64 n] 3)) : Ok PX 89 #[sv, .int .i64 (a : Int), .int .i64 (b : Int), .int .i64 (c : Int), .pointer (some ⟨p, 0, none⟩), lessV] g
      fun v g' => ∃ (x : Nat) (n' : Int), v = .int .i64 (x : Int) ∧ (x = a ∨ x = b ∨ x = c) ∧ g' p = some (.cells #[.int .i64 n'] 3) ∧ DX h g' sv xs ∧ Fr (fun z => z = p) g g' := by
  refine c89_ok (args := [_, _, _, _, _, _]) (by simp) ?_
  simp (disch := omega) only [dm_t, wA, wB, wL, wW, wY, Int.fdiv_eq_ediv_of_nonneg, Int.tdiv_eq_ediv_of_nonneg, Int.tmod_eq_emod_of_nonneg, chk_pos, decT, decF, br_pos, br_neg, wX, ↓reduceIte, Nat.reduceEqDiff, Nat.reduceAdd, Nat.reduceSub, Nat.reduceMul, Nat.reduceLeDiff, Nat.reduceLT, Nat.reduceMod, Nat.reduceDiv, Int.reduceToNat, Nat.min_eq_left, IntKind.bits, Int.reducePow, Int.reduceLT, Int.reduceLE, Int.reduceEq, Int.reduceNe, Int.reduceAdd, Int.reduceSub, and_self, reduceCtorEq, decide_eq_true_eq, decide_eq_false_iff_not, eq_self, implies_true, exists_const, Option.isNone_some, Option.isNone_none, Option.isSome_some, Option.isSome_none, Option.getD_some]
  refine (Ord2_ok d ha hb hl hp).k ?_
  rintro _ g1 ⟨x1, y1, n1, rfl, k1, q1, f1⟩
  have d1 := d.at' hps f1 hn
  have hx1 : (x1 = a ∧ y1 = b) ∨ (x1 = b ∧ y1 = a) := k1
  simp (disch := omega) only [dm_t, wA, wB, wL, wW, wY, Int.fdiv_eq_ediv_of_nonneg, Int.tdiv_eq_ediv_of_nonneg, Int.tmod_eq_emod_of_nonneg, chk_pos, decT, decF, br_pos, br_neg, wX, ↓reduceIte, Nat.reduceEqDiff, Nat.reduceAdd, Nat.reduceSub, Nat.reduceMul, Nat.reduceLeDiff, Nat.reduceLT, Nat.reduceMod, Nat.reduceDiv, Int.reduceToNat, Nat.min_eq_left, IntKind.bits, Int.reducePow, Int.reduceLT, Int.reduceLE, Int.reduceEq, Int.reduceNe, Int.reduceAdd, Int.reduceSub, and_self, reduceCtorEq, decide_eq_true_eq, decide_eq_false_iff_not, eq_self, implies_true, exists_const, Option.isNone_some, Option.isNone_none, Option.isSome_some, Option.isSome_none, Option.getD_some]
  refine (Ord2_ok d1 (a := y1) (b := c) (by omega) hc hl q1).k ?_
  rintro _ g2 ⟨x2, y2, n2, rfl, k2, q2, f2⟩
  have d2 := d1.at' hps f2 hn
  have hx2 : (x2 = y1 ∧ y2 = c) ∨ (x2 = c ∧ y2 = y1) := k2
  simp (disch := omega) only [dm_t, wA, wB, wL, wW, wY, Int.fdiv_eq_ediv_of_nonneg, Int.tdiv_eq_ediv_of_nonneg, Int.tmod_eq_emod_of_nonneg, chk_pos, decT, decF, br_pos, br_neg, wX, ↓reduceIte, Nat.reduceEqDiff, Nat.reduceAdd, Nat.reduceSub, Nat.reduceMul, Nat.reduceLeDiff, Nat.reduceLT, Nat.reduceMod, Nat.reduceDiv, Int.reduceToNat, Nat.min_eq_left, IntKind.bits, Int.reducePow, Int.reduceLT, Int.reduceLE, Int.reduceEq, Int.reduceNe, Int.reduceAdd, Int.reduceSub, and_self, reduceCtorEq, decide_eq_true_eq, decide_eq_false_iff_not, eq_self, implies_true, exists_const, Option.isNone_some, Option.isNone_none, Option.isSome_some, Option.isSome_none, Option.getD_some]
  refine (Ord2_ok d2 (a := x1) (b := x2) (by omega) (by omega) hl q2).k ?_
  rintro _ g3 ⟨x3, y3, n3, rfl, k3, q3, f3⟩
  have d3 := d2.at' hps f3 hn
  have hx3 : (x3 = x1 ∧ y3 = x2) ∨ (x3 = x2 ∧ y3 = x1) := k3
  simp (disch := omega) only [dm_t, wA, wB, wL, wW, wY, Int.fdiv_eq_ediv_of_nonneg, Int.tdiv_eq_ediv_of_nonneg, Int.tmod_eq_emod_of_nonneg, chk_pos, decT, decF, br_pos, br_neg, wX, ↓reduceIte, Nat.reduceEqDiff, Nat.reduceAdd, Nat.reduceSub, Nat.reduceMul, Nat.reduceLeDiff, Nat.reduceLT, Nat.reduceMod, Nat.reduceDiv, Int.reduceToNat, Nat.min_eq_left, IntKind.bits, Int.reducePow, Int.reduceLT, Int.reduceLE, Int.reduceEq, Int.reduceNe, Int.reduceAdd, Int.reduceSub, and_self, reduceCtorEq, decide_eq_true_eq, decide_eq_false_iff_not, eq_self, implies_true, exists_const, Option.isNone_some, Option.isNone_none, Option.isSome_some, Option.isSome_none, Option.getD_some]
  exact ⟨y3, n3, rfl, by omega, q3, d3, (f1.trans f2).trans f3⟩
theorem Adj_ok {h g : H} {sv : Value} {xs : List Row} {a p : Nat} {n : Int} (d : DX h g sv xs) (ha0 : 0 < a) (ha : a + 1 < xs.length) (hl : xs.length ≤ 4611686018427387904)
    (hn : h p = none) (hps : ¬ isAt sv p) (hp : g p = some (.cells #[.int .i64 n] 3)) : Ok PX 88 #[sv, .int .i64 (a : Int), .pointer (some ⟨p, 0, none⟩), lessV] g
      fun v g' => ∃ (x : Nat) (n' : Int), v = .int .i64 (x : Int) ∧ (x + 1 = a ∨ x = a ∨ x = a + 1) ∧ g' p = some (.cells #[.int .i64 n'] 3) ∧ DX h g' sv xs ∧ Fr (fun z => z = p) g g' := by
  refine c88_ok (args := [_, _, _, _]) (by simp) ?_
  have e1 : ((a : Int) - 1) = ((a - 1 : Nat) : Int) := by omega
  simp (disch := omega) only [dm_t, wA, wB, wL, wW, wY, Int.fdiv_eq_ediv_of_nonneg, Int.tdiv_eq_ediv_of_nonneg, Int.tmod_eq_emod_of_nonneg, chk_pos, decT, decF, br_pos, br_neg, wX, ↓reduceIte, Nat.reduceEqDiff, Nat.reduceAdd, Nat.reduceSub, Nat.reduceMul, Nat.reduceLeDiff, Nat.reduceLT, Nat.reduceMod, Nat.reduceDiv, Int.reduceToNat, Nat.min_eq_left, IntKind.bits, Int.reducePow, Int.reduceLT, Int.reduceLE, Int.reduceEq, Int.reduceNe, Int.reduceAdd, Int.reduceSub, and_self, reduceCtorEq, decide_eq_true_eq, decide_eq_false_iff_not, eq_self, implies_true, exists_const, Option.isNone_some, Option.isNone_none, Option.isSome_some, Option.isSome_none, Option.getD_some, e1]
  refine (Med_ok d (a := a - 1) (b := a) (c := a + 1) (by omega) (by omega) (by omega) hl hn hps hp).k ?_
  rintro _ g1 ⟨x, n1, rfl, hx, q1, d1, f1⟩
  simp (disch := omega) only [dm_t, wA, wB, wL, wW, wY, Int.fdiv_eq_ediv_of_nonneg, Int.tdiv_eq_ediv_of_nonneg, Int.tmod_eq_emod_of_nonneg, chk_pos, decT, decF, br_pos, br_neg, wX, ↓reduceIte, Nat.reduceEqDiff, Nat.reduceAdd, Nat.reduceSub, Nat.reduceMul, Nat.reduceLeDiff, Nat.reduceLT, Nat.reduceMod, Nat.reduceDiv, Int.reduceToNat, Nat.min_eq_left, IntKind.bits, Int.reducePow, Int.reduceLT, Int.reduceLE, Int.reduceEq, Int.reduceNe, Int.reduceAdd, Int.reduceSub, and_self, reduceCtorEq, decide_eq_true_eq, decide_eq_false_iff_not, eq_self, implies_true, exists_const, Option.isNone_some, Option.isNone_none, Option.isSome_some, Option.isSome_none, Option.getD_some]
  exact ⟨x, n1, rfl, by omega, q1, d1, f1⟩
theorem Piv_ok {h : H} {sv : Value} {xs : List Row} {a b : Nat} (d : DX h h sv xs) (hab : a + 12 < b) (hb : b ≤ xs.length) (hl : xs.length ≤ 4611686018427387904) :
    Ok PX 73 #[sv, .int .i64 (a : Int), .int .i64 (b : Int), lessV] h fun v h' => ∃ (p : Nat) (t : Int), v = .tuple #[.int .i64 (p : Int), .int .i64 t] ∧ a ≤ p ∧ p < b ∧ Ext h h' := by
  refine c73_ok (args := [_, _, _, _]) (by simp) ?_
  simp (disch := omega) only [dm_t, wA, wB, wL, wW, wY, Int.fdiv_eq_ediv_of_nonneg, Int.tdiv_eq_ediv_of_nonneg, Int.tmod_eq_emod_of_nonneg, chk_pos, decT, decF, br_pos, br_neg, wX, ↓reduceIte, Nat.reduceEqDiff, Nat.reduceAdd, Nat.reduceSub, Nat.reduceMul, Nat.reduceLeDiff, Nat.reduceLT, Nat.reduceMod, Nat.reduceDiv, Int.reduceToNat, Nat.min_eq_left, IntKind.bits, Int.reducePow, Int.reduceLT, Int.reduceLE, Int.reduceEq, Int.reduceNe, Int.reduceAdd, Int.reduceSub, and_self, reduceCtorEq, decide_eq_true_eq, decide_eq_false_iff_not, eq_self, implies_true, exists_const, Option.isNone_some, Option.isNone_none, Option.isSome_some, Option.isSome_none, Option.getD_some]
  intro p hp
  generalize hG : hupd h p _ = g1
  obtain ⟨e1, q1⟩ := new_ext hG hp
  clear hG
  have hps : ¬ isAt sv p := fun hy => d.ow.there hy hp
  have d1 := d.ext e1
  have fin : ∀ g, Fr (fun z => z = p) h g → Ext h g := fun g f y o hy _ => f y o hy fun hh => by rw [hh, hp] at hy; cases hy
  obtain ⟨l, hlb⟩ : ∃ l, l = b - a := ⟨_, rfl⟩
  have hl1 : (b : Int) - (a : Int) = (l : Int) := by omega
  have key : ∀ (g : H) (x : Nat) (n : Int), a ≤ x → x < b → Fr (fun z => z = p) h g → g p = some (.cells #[.int .i64 n] 3) → vc PX c73_s9 (retQ [8, 9] (okR fun v h' => ∃ (p : Nat) (t : Int), v = .tuple #[.int .i64 (p : Int), .int .i64 t] ∧ a ≤ p ∧ p < b ∧ Ext h h')) [(11, .pointer (some ⟨p, 0, none⟩)), (13, .int .i64 (x : Int))] g := by
    intro g x n h1 h2 f q
    by_cases hn0 : n = 0
    · simp (disch := omega) only [dm_t, wA, wB, wL, wW, wY, Int.fdiv_eq_ediv_of_nonneg, Int.tdiv_eq_ediv_of_nonneg, Int.tmod_eq_emod_of_nonneg, chk_pos, decT, decF, br_pos, br_neg, wX, ↓reduceIte, Nat.reduceEqDiff, Nat.reduceAdd, Nat.reduceSub, Nat.reduceMul, Nat.reduceLeDiff, Nat.reduceLT, Nat.reduceMod, Nat.reduceDiv, Int.reduceToNat, Nat.min_eq_left, IntKind.bits, Int.reducePow, Int.reduceLT, Int.reduceLE, Int.reduceEq, Int.reduceNe, Int.reduceAdd, Int.reduceSub, and_self, reduceCtorEq, decide_eq_true_eq, decide_eq_false_iff_not, eq_self, implies_true, exists_const, Option.isNone_some, Option.isNone_none, Option.isSome_some, Option.isSome_none, Option.getD_some, cellAt_of q]
      exact ⟨x, _, rfl, h1, h2, fin g f⟩
    by_cases hn12 : n = 12
    · simp (disch := omega) only [dm_t, wA, wB, wL, wW, wY, Int.fdiv_eq_ediv_of_nonneg, Int.tdiv_eq_ediv_of_nonneg, Int.tmod_eq_emod_of_nonneg, chk_pos, decT, decF, br_pos, br_neg, wX, ↓reduceIte, Nat.reduceEqDiff, Nat.reduceAdd, Nat.reduceSub, Nat.reduceMul, Nat.reduceLeDiff, Nat.reduceLT, Nat.reduceMod, Nat.reduceDiv, Int.reduceToNat, Nat.min_eq_left, IntKind.bits, Int.reducePow, Int.reduceLT, Int.reduceLE, Int.reduceEq, Int.reduceNe, Int.reduceAdd, Int.reduceSub, and_self, reduceCtorEq, decide_eq_true_eq, decide_eq_false_iff_not, eq_self, implies_true, exists_const, Option.isNone_some, Option.isNone_none, Option.isSome_some, Option.isSome_none, Option.getD_some, cellAt_of q]
      exact ⟨x, _, rfl, h1, h2, fin g f⟩
    · simp (disch := omega) only [dm_t, wA, wB, wL, wW, wY, Int.fdiv_eq_ediv_of_nonneg, Int.tdiv_eq_ediv_of_nonneg, Int.tmod_eq_emod_of_nonneg, chk_pos, decT, decF, br_pos, br_neg, wX, ↓reduceIte, Nat.reduceEqDiff, Nat.reduceAdd, Nat.reduceSub, Nat.reduceMul, Nat.reduceLeDiff, Nat.reduceLT, Nat.reduceMod, Nat.reduceDiv, Int.reduceToNat, Nat.min_eq_left, IntKind.bits, Int.reducePow, Int.reduceLT, Int.reduceLE, Int.reduceEq, Int.reduceNe, Int.reduceAdd, Int.reduceSub, and_self, reduceCtorEq, decide_eq_true_eq, decide_eq_false_iff_not, eq_self, implies_true, exists_const, Option.isNone_some, Option.isNone_none, Option.isSome_some, Option.isSome_none, Option.getD_some, cellAt_of q]
      exact ⟨x, _, rfl, h1, h2, fin g f⟩
  have mid : ∀ (g : H) (i j k : Nat) (n : Int), a ≤ i → i < b → a ≤ j → j < b → a ≤ k → k < b → DX h g sv xs → Fr (fun z => z = p) h g → g p = some (.cells #[.int .i64 n] 3) → vc PX c73_s8 (seqQ PX [11, 13] c73_s9 (retQ [8, 9] (okR fun v h' => ∃ (p : Nat) (t : Int), v = .tuple #[.int .i64 (p : Int), .int .i64 t] ∧ a ≤ p ∧ p < b ∧ Ext h h'))) [(0, sv), (3, lessV), (11, .pointer (some ⟨p, 0, none⟩)), (12, .int .i64 (i : Int)), (13, .int .i64 (j : Int)), (14, .int .i64 (k : Int))] g := by
    intro g i j k n h1 h2 h3 h4 h5 h6 D f q
    simp (disch := omega) only [dm_t, wA, wB, wL, wW, wY, Int.fdiv_eq_ediv_of_nonneg, Int.tdiv_eq_ediv_of_nonneg, Int.tmod_eq_emod_of_nonneg, chk_pos, decT, decF, br_pos, br_neg, wX, ↓reduceIte, Nat.reduceEqDiff, Nat.reduceAdd, Nat.reduceSub, Nat.reduceMul, Nat.reduceLeDiff, Nat.reduceLT, Nat.reduceMod, Nat.reduceDiv, Int.reduceToNat, Nat.min_eq_left, IntKind.bits, Int.reducePow, Int.reduceLT, Int.reduceLE, Int.reduceEq, Int.reduceNe, Int.reduceAdd, Int.reduceSub, and_self, reduceCtorEq, decide_eq_true_eq, decide_eq_false_iff_not, eq_self, implies_true, exists_const, Option.isNone_some, Option.isNone_none, Option.isSome_some, Option.isSome_none, Option.getD_some]
    refine (Med_ok D (a := i) (b := j) (c := k) (by omega) (by omega) (by omega) hl hp hps q).k ?_
    rintro _ g2 ⟨x, n2, rfl, hx, q2, d2, f2⟩
    have t := key g2 x n2 (by omega) (by omega) (f.trans f2) q2
    revert t
    simp (disch := omega) only [dm_t, wA, wB, wL, wW, wY, Int.fdiv_eq_ediv_of_nonneg, Int.tdiv_eq_ediv_of_nonneg, Int.tmod_eq_emod_of_nonneg, chk_pos, decT, decF, br_pos, br_neg, wX, ↓reduceIte, Nat.reduceEqDiff, Nat.reduceAdd, Nat.reduceSub, Nat.reduceMul, Nat.reduceLeDiff, Nat.reduceLT, Nat.reduceMod, Nat.reduceDiv, Int.reduceToNat, Nat.min_eq_left, IntKind.bits, Int.reducePow, Int.reduceLT, Int.reduceLE, Int.reduceEq, Int.reduceNe, Int.reduceAdd, Int.reduceSub, and_self, reduceCtorEq, decide_eq_true_eq, decide_eq_false_iff_not, eq_self, implies_true, exists_const, Option.isNone_some, Option.isNone_none, Option.isSome_some, Option.isSome_none, Option.getD_some]
    exact id
  have f1 : Fr (fun z => z = p) h g1 := fun y o hy hn => e1 y o hy id
  have hq1 : (a : Int) + ((l : Int) / 4) * 1 = ((a + l / 4 : Nat) : Int) := by omega
  have hq2 : (a : Int) + ((l : Int) / 4) * 2 = ((a + l / 4 * 2 : Nat) : Int) := by omega
  have hq3 : (a : Int) + ((l : Int) / 4) * 3 = ((a + l / 4 * 3 : Nat) : Int) := by omega
  have hm1 : a ≤ a + l / 4 ∧ a + l / 4 + 1 < b ∧ 0 < a + l / 4 := by omega
  have hm2 : a + l / 4 * 2 + 1 < b ∧ 0 < a + l / 4 * 2 := by omega
  have hm3 : a + l / 4 * 3 < b ∧ 0 < a + l / 4 * 3 ∧ (50 ≤ l → a + l / 4 * 3 + 1 < b) := by omega
  by_cases h50 : 50 ≤ l
  · have h50' := hm3.2.2 h50
    simp (disch := omega) only [dm_t, wA, wB, wL, wW, wY, Int.fdiv_eq_ediv_of_nonneg, Int.tdiv_eq_ediv_of_nonneg, Int.tmod_eq_emod_of_nonneg, chk_pos, decT, decF, br_pos, br_neg, wX, ↓reduceIte, Nat.reduceEqDiff, Nat.reduceAdd, Nat.reduceSub, Nat.reduceMul, Nat.reduceLeDiff, Nat.reduceLT, Nat.reduceMod, Nat.reduceDiv, Int.reduceToNat, Nat.min_eq_left, IntKind.bits, Int.reducePow, Int.reduceLT, Int.reduceLE, Int.reduceEq, Int.reduceNe, Int.reduceAdd, Int.reduceSub, and_self, reduceCtorEq, decide_eq_true_eq, decide_eq_false_iff_not, eq_self, implies_true, exists_const, Option.isNone_some, Option.isNone_none, Option.isSome_some, Option.isSome_none, Option.getD_some, hl1, hq1, hq2, hq3]
    refine (Adj_ok d1 (a := a + l / 4) (by omega) (by omega) hl hp hps q1).k ?_
    rintro _ g2 ⟨x1, n1, rfl, hx1, q2, d2, f2⟩
    simp (disch := omega) only [dm_t, wA, wB, wL, wW, wY, Int.fdiv_eq_ediv_of_nonneg, Int.tdiv_eq_ediv_of_nonneg, Int.tmod_eq_emod_of_nonneg, chk_pos, decT, decF, br_pos, br_neg, wX, ↓reduceIte, Nat.reduceEqDiff, Nat.reduceAdd, Nat.reduceSub, Nat.reduceMul, Nat.reduceLeDiff, Nat.reduceLT, Nat.reduceMod, Nat.reduceDiv, Int.reduceToNat, Nat.min_eq_left, IntKind.bits, Int.reducePow, Int.reduceLT, Int.reduceLE, Int.reduceEq, Int.reduceNe, Int.reduceAdd, Int.reduceSub, and_self, reduceCtorEq, decide_eq_true_eq, decide_eq_false_iff_not, eq_self, implies_true, exists_const, Option.isNone_some, Option.isNone_none, Option.isSome_some, Option.isSome_none, Option.getD_some]
    refine (Adj_ok d2 (a := a + l / 4 * 2) (by omega) (by omega) hl hp hps q2).k ?_
    rintro _ g3 ⟨x2, n2, rfl, hx2, q3, d3, f3⟩
    simp (disch := omega) only [dm_t, wA, wB, wL, wW, wY, Int.fdiv_eq_ediv_of_nonneg, Int.tdiv_eq_ediv_of_nonneg, Int.tmod_eq_emod_of_nonneg, chk_pos, decT, decF, br_pos, br_neg, wX, ↓reduceIte, Nat.reduceEqDiff, Nat.reduceAdd, Nat.reduceSub, Nat.reduceMul, Nat.reduceLeDiff, Nat.reduceLT, Nat.reduceMod, Nat.reduceDiv, Int.reduceToNat, Nat.min_eq_left, IntKind.bits, Int.reducePow, Int.reduceLT, Int.reduceLE, Int.reduceEq, Int.reduceNe, Int.reduceAdd, Int.reduceSub, and_self, reduceCtorEq, decide_eq_true_eq, decide_eq_false_iff_not, eq_self, implies_true, exists_const, Option.isNone_some, Option.isNone_none, Option.isSome_some, Option.isSome_none, Option.getD_some]
    refine (Adj_ok d3 (a := a + l / 4 * 3) (by omega) (by omega) hl hp hps q3).k ?_
    rintro _ g4 ⟨x3, n3, rfl, hx3, q4, d4, f4⟩
    have t := mid g4 x1 x2 x3 n3 (by omega) (by omega) (by omega) (by omega) (by omega) (by omega) d4 (((f1.trans f2).trans f3).trans f4) q4
    revert t
    simp (disch := omega) only [dm_t, wA, wB, wL, wW, wY, Int.fdiv_eq_ediv_of_nonneg, Int.tdiv_eq_ediv_of_nonneg, Int.tmod_eq_emod_of_nonneg, chk_pos, decT, decF, br_pos, br_neg, wX, ↓reduceIte, Nat.reduceEqDiff, Nat.reduceAdd, Nat.reduceSub, Nat.reduceMul, Nat.reduceLeDiff, Nat.reduceLT, Nat.reduceMod, Nat.reduceDiv, Int.reduceToNat, Nat.min_eq_left, IntKind.bits, Int.reducePow, Int.reduceLT, Int.reduceLE, Int.reduceEq, Int.reduceNe, Int.reduceAdd, Int.reduceSub, and_self, reduceCtorEq, decide_eq_true_eq, decide_eq_false_iff_not, eq_self, implies_true, exists_const, Option.isNone_some, Option.isNone_none, Option.isSome_some, Option.isSome_none, Option.getD_some]
    exact id
  · have t := mid g1 (a + l / 4) (a + l / 4 * 2) (a + l / 4 * 3) 0 (by omega) (by omega) (by omega) (by omega) (by omega) (by omega) d1 f1 q1
    revert t
    simp (disch := omega) only [dm_t, wA, wB, wL, wW, wY, Int.fdiv_eq_ediv_of_nonneg, Int.tdiv_eq_ediv_of_nonneg, Int.tmod_eq_emod_of_nonneg, chk_pos, decT, decF, br_pos, br_neg, wX, ↓reduceIte, Nat.reduceEqDiff, Nat.reduceAdd, Nat.reduceSub, Nat.reduceMul, Nat.reduceLeDiff, Nat.reduceLT, Nat.reduceMod, Nat.reduceDiv, Int.reduceToNat, Nat.min_eq_left, IntKind.bits, Int.reducePow, Int.reduceLT, Int.reduceLE, Int.reduceEq, Int.reduceNe, Int.reduceAdd, Int.reduceSub, and_self, reduceCtorEq, decide_eq_true_eq, decide_eq_false_iff_not, eq_self, implies_true, exists_const, Option.isNone_some, Option.isNone_none, Option.isSome_some, Option.isSome_none, Option.getD_some, hl1, hq1, hq2, hq3]
    exact id
end Go.Proofs.Ytojhnclkhiffkaa.so

/-
  sort: bits.Len, xorshift, breakPatterns.
-/
namespace Go.Proofs.Ytojhnclkhiffkaa.so
open Go.Proofs.Ytojhnclkhiffkaa
variable {PX : Cx Try.prog}
set_option linter.unusedVariables false
set_option linter.unusedSimpArgs false
def tab : ByteArray := ⟨#[0, 1, 2, 2, 3, 3, 3, 3, 4, 4, 4, 4, 4, 4, 4, 4, 5, 5, 5, 5, 5, 5, 5, 5, 5, 5, 5, 5, 5, 5, 5, 5, 6, 6, 6, 6, 6, 6, 6, 6, 6, 6, 6, 6, 6, 6, 6, 6, 6, 6, 6, 6, 6, 6, 6, 6, 6, 6, 6, 6, 6, 6, 6, 6, 7, 7, 7, 7, 7, 7, 7, 7, 7, 7, 7, 7, 7, 7, 7, 7, 7, 7, 7, 7, 7, 7, 7, 7, 7, 7, 7, 7, 7, 7, 7, 7, 7, 7, 7, 7, 7, 7, 7, 7, 7, 7, 7, 7, 7, 7, 7, 7, 7, 7, 7, 7, 7, 7, 7, 7, 7, 7, 7, 7, 7, 7, 7, 7, 8, 8, 8, 8, 8, 8, 8, 8, 8, 8, 8, 8, 8, 8, 8, 8, 8, 8, 8, 8, 8, 8, 8, 8, 8, 8, 8, 8, 8, 8, 8, 8, 8, 8, 8, 8, 8, 8, 8, 8, 8, 8, 8, 8, 8, 8, 8, 8, 8, 8, 8, 8, 8, 8, 8, 8, 8, 8, 8, 8, 8, 8, 8, 8, 8, 8, 8, 8, 8, 8, 8, 8, 8, 8, 8, 8, 8, 8, 8, 8, 8, 8, 8, 8, 8, 8, 8, 8, 8, 8, 8, 8, 8, 8, 8, 8, 8, 8, 8, 8, 8, 8, 8, 8, 8, 8, 8, 8, 8, 8, 8, 8, 8, 8, 8, 8, 8, 8, 8, 8, 8, 8, 8, 8, 8, 8, 8, 8]⟩
theorem tab_ok : ∀ n : Fin 256, (tab[n.val]?).map (fun b => decide (b.toNat ≤ 8 ∧ n.val < 2 ^ b.toNat ∧ 2 ^ b.toNat ≤ 2 * n.val + 1)) = some true := by decide +kernel
theorem tab_at {n : Nat} (hn : n < 256) : ∃ k : Nat, (tab[n]?).map (fun b => Value.int .u8 (b.toNat : Int)) = some (.int .u8 (k : Int)) ∧ k ≤ 8 ∧ n < 2 ^ k ∧ 2 ^ k ≤ 2 * n + 1 := by
  have h := tab_ok ⟨n, hn⟩
  simp only at h
  cases hb : tab[n]? with
  | none => rw [hb] at h; cases h
  | some b =>
    rw [hb] at h
    simp only [Option.map_some, Option.some.injEq, decide_eq_true_eq] at h
    exact ⟨b.toNat, rfl, h⟩
set_option maxRecDepth 20000 in
theorem Len64_ok {h : H} {n : Nat} (hn : n < 4294967296) : Ok PX 79 #[.int .u64 (n : Int)] h fun v h' => (∃ k : Nat, v = .int .i64 (k : Int) ∧ k ≤ 32 ∧ n < 2 ^ k ∧ 2 ^ k ≤ 2 * n + 1) ∧ h = h' := by
  refine c79_ok (args := [_]) (by simp) ?_
  by_cases h1 : n < 256
  · obtain ⟨k, hk, hk1, hk2, hk3⟩ := tab_at h1
    simp (disch := omega) only [dm_t, wA, wB, wL, wW, wY, Int.fdiv_eq_ediv_of_nonneg, Int.tdiv_eq_ediv_of_nonneg, Int.tmod_eq_emod_of_nonneg, chk_pos, decT, decF, br_pos, br_neg, wX, ↓reduceIte, Nat.reduceEqDiff, Nat.reduceAdd, Nat.reduceSub, Nat.reduceMul, Nat.reduceLeDiff, Nat.reduceLT, Nat.reduceMod, Nat.reduceDiv, Int.reduceToNat, Nat.min_eq_left, IntKind.bits, Int.reducePow, Int.reduceLT, Int.reduceLE, Int.reduceEq, Int.reduceNe, Int.reduceAdd, Int.reduceSub, and_self, reduceCtorEq, decide_eq_true_eq, decide_eq_false_iff_not, eq_self, implies_true, exists_const, Option.isNone_some, Option.isNone_none, Option.isSome_some, Option.isSome_none, Option.getD_some]
    change opt (Option.map _ tab[n]?) h _
    rw [hk]
    simp (disch := omega) only [dm_t, wA, wB, wL, wW, wY, Int.fdiv_eq_ediv_of_nonneg, Int.tdiv_eq_ediv_of_nonneg, Int.tmod_eq_emod_of_nonneg, chk_pos, decT, decF, br_pos, br_neg, wX, ↓reduceIte, Nat.reduceEqDiff, Nat.reduceAdd, Nat.reduceSub, Nat.reduceMul, Nat.reduceLeDiff, Nat.reduceLT, Nat.reduceMod, Nat.reduceDiv, Int.reduceToNat, Nat.min_eq_left, IntKind.bits, Int.reducePow, Int.reduceLT, Int.reduceLE, Int.reduceEq, Int.reduceNe, Int.reduceAdd, Int.reduceSub, and_self, reduceCtorEq, decide_eq_true_eq, decide_eq_false_iff_not, eq_self, implies_true, exists_const, Option.isNone_some, Option.isNone_none, Option.isSome_some, Option.isSome_none, Option.getD_some]
    exact ⟨k, by simp, by omega, hk2, hk3⟩
  by_cases h2 : n < 65536
  · obtain ⟨m, hm⟩ : ∃ m, m = n / 256 := ⟨_, rfl⟩
    obtain ⟨k, hk, hk1, hk2, hk3⟩ := tab_at (n := m) (by omega)
    have hd : (n : Int) / 2 ^ 8 = (m : Int) := by omega
    have hd2 : (n : Int) / 256 = (m : Int) := by omega
    simp (disch := omega) only [dm_t, wA, wB, wL, wW, wY, Int.fdiv_eq_ediv_of_nonneg, Int.tdiv_eq_ediv_of_nonneg, Int.tmod_eq_emod_of_nonneg, chk_pos, decT, decF, br_pos, br_neg, wX, ↓reduceIte, Nat.reduceEqDiff, Nat.reduceAdd, Nat.reduceSub, Nat.reduceMul, Nat.reduceLeDiff, Nat.reduceLT, Nat.reduceMod, Nat.reduceDiv, Int.reduceToNat, Nat.min_eq_left, IntKind.bits, Int.reducePow, Int.reduceLT, Int.reduceLE, Int.reduceEq, Int.reduceNe, Int.reduceAdd, Int.reduceSub, and_self, reduceCtorEq, decide_eq_true_eq, decide_eq_false_iff_not, eq_self, implies_true, exists_const, Option.isNone_some, Option.isNone_none, Option.isSome_some, Option.isSome_none, Option.getD_some, hd, hd2]
    change opt (Option.map _ tab[m]?) h _
    rw [hk]
    simp (disch := omega) only [dm_t, wA, wB, wL, wW, wY, Int.fdiv_eq_ediv_of_nonneg, Int.tdiv_eq_ediv_of_nonneg, Int.tmod_eq_emod_of_nonneg, chk_pos, decT, decF, br_pos, br_neg, wX, ↓reduceIte, Nat.reduceEqDiff, Nat.reduceAdd, Nat.reduceSub, Nat.reduceMul, Nat.reduceLeDiff, Nat.reduceLT, Nat.reduceMod, Nat.reduceDiv, Int.reduceToNat, Nat.min_eq_left, IntKind.bits, Int.reducePow, Int.reduceLT, Int.reduceLE, Int.reduceEq, Int.reduceNe, Int.reduceAdd, Int.reduceSub, and_self, reduceCtorEq, decide_eq_true_eq, decide_eq_false_iff_not, eq_self, implies_true, exists_const, Option.isNone_some, Option.isNone_none, Option.isSome_some, Option.isSome_none, Option.getD_some]
    obtain ⟨k', rfl⟩ : ∃ k', k = k' + 1 := by
      cases k with
      | zero => simp at hk2; omega
      | succ k' => exact ⟨k', rfl⟩
    rw [Nat.pow_succ] at hk2 hk3
    refine ⟨k' + 1 + 8, by congr 1; omega, by omega, ?_, ?_⟩
    · rw [Nat.pow_add, Nat.pow_succ]; omega
    · rw [Nat.pow_add, Nat.pow_succ]; omega
  by_cases h3 : n < 16777216
  · obtain ⟨m, hm⟩ : ∃ m, m = n / 65536 := ⟨_, rfl⟩
    obtain ⟨k, hk, hk1, hk2, hk3⟩ := tab_at (n := m) (by omega)
    have hd : (n : Int) / 2 ^ 16 = (m : Int) := by omega
    have hd2 : (n : Int) / 65536 = (m : Int) := by omega
    simp (disch := omega) only [dm_t, wA, wB, wL, wW, wY, Int.fdiv_eq_ediv_of_nonneg, Int.tdiv_eq_ediv_of_nonneg, Int.tmod_eq_emod_of_nonneg, chk_pos, decT, decF, br_pos, br_neg, wX, ↓reduceIte, Nat.reduceEqDiff, Nat.reduceAdd, Nat.reduceSub, Nat.reduceMul, Nat.reduceLeDiff, Nat.reduceLT, Nat.reduceMod, Nat.reduceDiv, Int.reduceToNat, Nat.min_eq_left, IntKind.bits, Int.reducePow, Int.reduceLT, Int.reduceLE, Int.reduceEq, Int.reduceNe, Int.reduceAdd, Int.reduceSub, and_self, reduceCtorEq, decide_eq_true_eq, decide_eq_false_iff_not, eq_self, implies_true, exists_const, Option.isNone_some, Option.isNone_none, Option.isSome_some, Option.isSome_none, Option.getD_some, hd, hd2]
    change opt (Option.map _ tab[m]?) h _
    rw [hk]
    simp (disch := omega) only [dm_t, wA, wB, wL, wW, wY, Int.fdiv_eq_ediv_of_nonneg, Int.tdiv_eq_ediv_of_nonneg, Int.tmod_eq_emod_of_nonneg, chk_pos, decT, decF, br_pos, br_neg, wX, ↓reduceIte, Nat.reduceEqDiff, Nat.reduceAdd, Nat.reduceSub, Nat.reduceMul, Nat.reduceLeDiff, Nat.reduceLT, Nat.reduceMod, Nat.reduceDiv, Int.reduceToNat, Nat.min_eq_left, IntKind.bits, Int.reducePow, Int.reduceLT, Int.reduceLE, Int.reduceEq, Int.reduceNe, Int.reduceAdd, Int.reduceSub, and_self, reduceCtorEq, decide_eq_true_eq, decide_eq_false_iff_not, eq_self, implies_true, exists_const, Option.isNone_some, Option.isNone_none, Option.isSome_some, Option.isSome_none, Option.getD_some]
    obtain ⟨k', rfl⟩ : ∃ k', k = k' + 1 := by
      cases k with
      | zero => simp at hk2; omega
      | succ k' => exact ⟨k', rfl⟩
    rw [Nat.pow_succ] at hk2 hk3
    refine ⟨k' + 1 + 16, by congr 1; omega, by omega, ?_, ?_⟩
    · rw [Nat.pow_add, Nat.pow_succ]; omega
    · rw [Nat.pow_add, Nat.pow_succ]; omega
  · obtain ⟨m1, hm1⟩ : ∃ m, m = n / 65536 := ⟨_, rfl⟩
    obtain ⟨m, hm⟩ : ∃ m, m = m1 / 256 := ⟨_, rfl⟩
    obtain ⟨k, hk, hk1, hk2, hk3⟩ := tab_at (n := m) (by omega)
    have hd : (n : Int) / 2 ^ 16 = (m1 : Int) := by omega
    have hd3 : (m1 : Int) / 2 ^ 8 = (m : Int) := by omega
    have hd4 : (m1 : Int) / 256 = (m : Int) := by omega
    have hd2 : (n : Int) / 65536 = (m1 : Int) := by omega
    simp (disch := omega) only [dm_t, wA, wB, wL, wW, wY, Int.fdiv_eq_ediv_of_nonneg, Int.tdiv_eq_ediv_of_nonneg, Int.tmod_eq_emod_of_nonneg, chk_pos, decT, decF, br_pos, br_neg, wX, ↓reduceIte, Nat.reduceEqDiff, Nat.reduceAdd, Nat.reduceSub, Nat.reduceMul, Nat.reduceLeDiff, Nat.reduceLT, Nat.reduceMod, Nat.reduceDiv, Int.reduceToNat, Nat.min_eq_left, IntKind.bits, Int.reducePow, Int.reduceLT, Int.reduceLE, Int.reduceEq, Int.reduceNe, Int.reduceAdd, Int.reduceSub, and_self, reduceCtorEq, decide_eq_true_eq, decide_eq_false_iff_not, eq_self, implies_true, exists_const, Option.isNone_some, Option.isNone_none, Option.isSome_some, Option.isSome_none, Option.getD_some, hd, hd2, hd3, hd4]
    change opt (Option.map _ tab[m]?) h _
    rw [hk]
    simp (disch := omega) only [dm_t, wA, wB, wL, wW, wY, Int.fdiv_eq_ediv_of_nonneg, Int.tdiv_eq_ediv_of_nonneg, Int.tmod_eq_emod_of_nonneg, chk_pos, decT, decF, br_pos, br_neg, wX, ↓reduceIte, Nat.reduceEqDiff, Nat.reduceAdd, Nat.reduceSub, Nat.reduceMul, Nat.reduceLeDiff, Nat.reduceLT, Nat.reduceMod, Nat.reduceDiv, Int.reduceToNat, Nat.min_eq_left, IntKind.bits, Int.reducePow, Int.reduceLT, Int.reduceLE, Int.reduceEq, Int.reduceNe, Int.reduceAdd, Int.reduceSub, and_self, reduceCtorEq, decide_eq_true_eq, decide_eq_false_iff_not, eq_self, implies_true, exists_const, Option.isNone_some, Option.isNone_none, Option.isSome_some, Option.isSome_none, Option.getD_some]
    obtain ⟨k', rfl⟩ : ∃ k', k = k' + 1 := by
      cases k with
      | zero => simp at hk2; omega
      | succ k' => exact ⟨k', rfl⟩
    rw [Nat.pow_succ] at hk2 hk3
    refine ⟨k' + 1 + 24, by congr 1; omega, by omega, ?_, ?_⟩
    · rw [Nat.pow_add, Nat.pow_succ]; omega
    · rw [Nat.pow_add, Nat.pow_succ]; omega
theorem Len_ok {h : H} {n : Nat} (hn : n < 4294967296) : Ok PX 50 #[.int .u64 (n : Int)] h fun v h' => (∃ k : Nat, v = .int .i64 (k : Int) ∧ k ≤ 32 ∧ n < 2 ^ k ∧ 2 ^ k ≤ 2 * n + 1) ∧ h = h' := by
  refine c50_ok (args := [_]) (by simp) ?_
  simp (disch := omega) only [dm_t, wA, wB, wL, wW, wY, Int.fdiv_eq_ediv_of_nonneg, Int.tdiv_eq_ediv_of_nonneg, Int.tmod_eq_emod_of_nonneg, chk_pos, decT, decF, br_pos, br_neg, wX, ↓reduceIte, Nat.reduceEqDiff, Nat.reduceAdd, Nat.reduceSub, Nat.reduceMul, Nat.reduceLeDiff, Nat.reduceLT, Nat.reduceMod, Nat.reduceDiv, Int.reduceToNat, Nat.min_eq_left, IntKind.bits, Int.reducePow, Int.reduceLT, Int.reduceLE, Int.reduceEq, Int.reduceNe, Int.reduceAdd, Int.reduceSub, and_self, reduceCtorEq, decide_eq_true_eq, decide_eq_false_iff_not, eq_self, implies_true, exists_const, Option.isNone_some, Option.isNone_none, Option.isSome_some, Option.isSome_none, Option.getD_some]
  refine (Len64_ok hn).k ?_
  rintro _ _ ⟨⟨k, rfl, h1⟩, rfl⟩
  simp (disch := omega) only [dm_t, wA, wB, wL, wW, wY, Int.fdiv_eq_ediv_of_nonneg, Int.tdiv_eq_ediv_of_nonneg, Int.tmod_eq_emod_of_nonneg, chk_pos, decT, decF, br_pos, br_neg, wX, ↓reduceIte, Nat.reduceEqDiff, Nat.reduceAdd, Nat.reduceSub, Nat.reduceMul, Nat.reduceLeDiff, Nat.reduceLT, Nat.reduceMod, Nat.reduceDiv, Int.reduceToNat, Nat.min_eq_left, IntKind.bits, Int.reducePow, Int.reduceLT, Int.reduceLE, Int.reduceEq, Int.reduceNe, Int.reduceAdd, Int.reduceSub, and_self, reduceCtorEq, decide_eq_true_eq, decide_eq_false_iff_not, eq_self, implies_true, exists_const, Option.isNone_some, Option.isNone_none, Option.isSome_some, Option.isSome_none, Option.getD_some]
  exact ⟨k, rfl, h1⟩
theorem P2_ok {h : H} {n : Nat} (hn : n < 4294967296) : Ok PX 86 #[.int .i64 (n : Int)] h fun v h' => (∃ k : Nat, v = .int .u64 ((2 ^ k : Nat) : Int) ∧ k ≤ 32 ∧ n < 2 ^ k ∧ 2 ^ k ≤ 2 * n + 1) ∧ h = h' := by
  refine c86_ok (args := [_]) (by simp) ?_
  simp (disch := omega) only [dm_t, wA, wB, wL, wW, wY, Int.fdiv_eq_ediv_of_nonneg, Int.tdiv_eq_ediv_of_nonneg, Int.tmod_eq_emod_of_nonneg, chk_pos, decT, decF, br_pos, br_neg, wX, ↓reduceIte, Nat.reduceEqDiff, Nat.reduceAdd, Nat.reduceSub, Nat.reduceMul, Nat.reduceLeDiff, Nat.reduceLT, Nat.reduceMod, Nat.reduceDiv, Int.reduceToNat, Nat.min_eq_left, IntKind.bits, Int.reducePow, Int.reduceLT, Int.reduceLE, Int.reduceEq, Int.reduceNe, Int.reduceAdd, Int.reduceSub, and_self, reduceCtorEq, decide_eq_true_eq, decide_eq_false_iff_not, eq_self, implies_true, exists_const, Option.isNone_some, Option.isNone_none, Option.isSome_some, Option.isSome_none, Option.getD_some]
  refine (Len_ok hn).k ?_
  rintro _ _ ⟨⟨k, rfl, h1, h2, h3⟩, rfl⟩
  have hk : k = 0 ∨ k = 1 ∨ k = 2 ∨ k = 3 ∨ k = 4 ∨ k = 5 ∨ k = 6 ∨ k = 7 ∨ k = 8 ∨ k = 9 ∨ k = 10 ∨ k = 11 ∨ k = 12 ∨ k = 13 ∨ k = 14 ∨ k = 15 ∨ k = 16 ∨ k = 17 ∨ k = 18 ∨ k = 19 ∨ k = 20 ∨ k = 21 ∨ k = 22 ∨ k = 23 ∨ k = 24 ∨ k = 25 ∨ k = 26 ∨ k = 27 ∨ k = 28 ∨ k = 29 ∨ k = 30 ∨ k = 31 ∨ k = 32 := by omega
  simp (disch := omega) only [dm_t, wA, wB, wL, wW, wY, Int.fdiv_eq_ediv_of_nonneg, Int.tdiv_eq_ediv_of_nonneg, Int.tmod_eq_emod_of_nonneg, chk_pos, decT, decF, br_pos, br_neg, wX, ↓reduceIte, Nat.reduceEqDiff, Nat.reduceAdd, Nat.reduceSub, Nat.reduceMul, Nat.reduceLeDiff, Nat.reduceLT, Nat.reduceMod, Nat.reduceDiv, Int.reduceToNat, Nat.min_eq_left, IntKind.bits, Int.reducePow, Int.reduceLT, Int.reduceLE, Int.reduceEq, Int.reduceNe, Int.reduceAdd, Int.reduceSub, and_self, reduceCtorEq, decide_eq_true_eq, decide_eq_false_iff_not, eq_self, implies_true, exists_const, Option.isNone_some, Option.isNone_none, Option.isSome_some, Option.isSome_none, Option.getD_some]
  refine ⟨k, ?_, h1, h2, h3⟩
  rcases hk with rfl | rfl | rfl | rfl | rfl | rfl | rfl | rfl | rfl | rfl | rfl | rfl | rfl | rfl | rfl | rfl | rfl | rfl | rfl | rfl | rfl | rfl | rfl | rfl | rfl | rfl | rfl | rfl | rfl | rfl | rfl | rfl | rfl <;> rfl
theorem Next_ok {g : H} {p : Nat} {n : Int} (hp : g p = some (.cells #[.int .u64 n] 135)) (hn : 0 ≤ n ∧ n < 18446744073709551616) : Ok PX 87 #[.pointer (some ⟨p, 0, none⟩)] g fun v g' => ∃ m : Nat, v = .int .u64 (m : Int) ∧ m < 18446744073709551616 ∧ g' p = some (.cells #[.int .u64 (m : Int)] 135) ∧ Fr (fun z => z = p) g g' := by
  refine c87_ok (args := [_]) (by simp) ?_
  simp (disch := omega) only [dm_t, wA, wB, wL, wW, wY, Int.fdiv_eq_ediv_of_nonneg, Int.tdiv_eq_ediv_of_nonneg, Int.tmod_eq_emod_of_nonneg, chk_pos, decT, decF, br_pos, br_neg, wX, ↓reduceIte, Nat.reduceEqDiff, Nat.reduceAdd, Nat.reduceSub, Nat.reduceMul, Nat.reduceLeDiff, Nat.reduceLT, Nat.reduceMod, Nat.reduceDiv, Int.reduceToNat, Nat.min_eq_left, IntKind.bits, Int.reducePow, Int.reduceLT, Int.reduceLE, Int.reduceEq, Int.reduceNe, Int.reduceAdd, Int.reduceSub, and_self, reduceCtorEq, decide_eq_true_eq, decide_eq_false_iff_not, eq_self, implies_true, exists_const, Option.isNone_some, Option.isNone_none, Option.isSome_some, Option.isSome_none, Option.getD_some, cellAt_of hp, storeH_0 hp, cellAt_same, storeH_same]
  exact ⟨_, rfl, BitVec.isLt _, hupd_same _ _ _, Fr.upd (S := fun z => z = p) rfl _⟩
theorem and_mod (m : Nat) {k : Nat} (hk : k ≤ 32) (hm : m < 18446744073709551616) : ∃ r : Nat, (((BitVec.ofInt 64 (m : Int) &&& BitVec.ofInt 64 (((2 ^ k : Nat) : Int) - 1)).toNat : Nat) : Int) = (r : Int) ∧ r < 2 ^ k := by
  refine ⟨_, rfl, ?_⟩
  have h2 : (BitVec.ofInt 64 (((2 ^ k : Nat) : Int) - 1)).toNat = 2 ^ k - 1 := by
    have hk' : k = 0 ∨ k = 1 ∨ k = 2 ∨ k = 3 ∨ k = 4 ∨ k = 5 ∨ k = 6 ∨ k = 7 ∨ k = 8 ∨ k = 9 ∨ k = 10 ∨ k = 11 ∨ k = 12 ∨ k = 13 ∨ k = 14 ∨ k = 15 ∨ k = 16 ∨ k = 17 ∨ k = 18 ∨ k = 19 ∨ k = 20 ∨ k = 21 ∨ k = 22 ∨ k = 23 ∨ k = 24 ∨ k = 25 ∨ k = 26 ∨ k = 27 ∨ k = 28 ∨ k = 29 ∨ k = 30 ∨ k = 31 ∨ k = 32 := by omega
    rcases hk' with rfl | rfl | rfl | rfl | rfl | rfl | rfl | rfl | rfl | rfl | rfl | rfl | rfl | rfl | rfl | rfl | rfl | rfl | rfl | rfl | rfl | rfl | rfl | rfl | rfl | rfl | rfl | rfl | rfl | rfl | rfl | rfl | rfl <;> rfl
  rw [BitVec.toNat_and, h2]
  have := Nat.and_le_right (n := (BitVec.ofInt 64 (m : Int)).toNat) (m := 2 ^ k - 1)
  have : 0 < 2 ^ k := Nat.two_pow_pos k
  omega
theorem Brk_ok {h : H} {sv cv : Value} {xs : List Row} {a b : Nat} (d : DX h h sv xs) (hab : a + 12 < b) (hb : b ≤ xs.length) (hl : xs.length ≤ 134217727) :
    Ok PX 72 #[sv, .int .i64 (a : Int), .int .i64 (b : Int), cv] h fun _ h' => ∃ ys, DX h h' sv ys ∧ Rg a b xs ys := by
  refine c72_ok (args := [_, _, _, _]) (by simp) ?_
  obtain ⟨l, hlb⟩ : ∃ l, l = b - a := ⟨_, rfl⟩
  have hl1 : (b : Int) - (a : Int) = (l : Int) := by omega
  simp (disch := omega) only [dm_t, wA, wB, wL, wW, wY, Int.fdiv_eq_ediv_of_nonneg, Int.tdiv_eq_ediv_of_nonneg, Int.tmod_eq_emod_of_nonneg, chk_pos, decT, decF, br_pos, br_neg, wX, ↓reduceIte, Nat.reduceEqDiff, Nat.reduceAdd, Nat.reduceSub, Nat.reduceMul, Nat.reduceLeDiff, Nat.reduceLT, Nat.reduceMod, Nat.reduceDiv, Int.reduceToNat, Nat.min_eq_left, IntKind.bits, Int.reducePow, Int.reduceLT, Int.reduceLE, Int.reduceEq, Int.reduceNe, Int.reduceAdd, Int.reduceSub, and_self, reduceCtorEq, decide_eq_true_eq, decide_eq_false_iff_not, eq_self, implies_true, exists_const, Option.isNone_some, Option.isNone_none, Option.isSome_some, Option.isSome_none, Option.getD_some, hl1]
  intro p hp
  simp (disch := omega) only [dm_t, wA, wB, wL, wW, wY, Int.fdiv_eq_ediv_of_nonneg, Int.tdiv_eq_ediv_of_nonneg, Int.tmod_eq_emod_of_nonneg, chk_pos, decT, decF, br_pos, br_neg, wX, ↓reduceIte, Nat.reduceEqDiff, Nat.reduceAdd, Nat.reduceSub, Nat.reduceMul, Nat.reduceLeDiff, Nat.reduceLT, Nat.reduceMod, Nat.reduceDiv, Int.reduceToNat, Nat.min_eq_left, IntKind.bits, Int.reducePow, Int.reduceLT, Int.reduceLE, Int.reduceEq, Int.reduceNe, Int.reduceAdd, Int.reduceSub, and_self, reduceCtorEq, decide_eq_true_eq, decide_eq_false_iff_not, eq_self, implies_true, exists_const, Option.isNone_some, Option.isNone_none, Option.isSome_some, Option.isSome_none, Option.getD_some, storeH_same]
  generalize hG : hupd h p _ = g1
  obtain ⟨e1, q1⟩ := new_ext hG hp
  clear hG
  have hps : ¬ isAt sv p := fun hy => d.ow.there hy hp
  have d1 := d.ext e1
  refine (P2_ok (n := l) (by omega)).k ?_
  rintro _ _ ⟨⟨k, rfl, hk1, hk2, hk3⟩, rfl⟩
  simp (disch := omega) only [dm_t, wA, wB, wL, wW, wY, Int.fdiv_eq_ediv_of_nonneg, Int.tdiv_eq_ediv_of_nonneg, Int.tmod_eq_emod_of_nonneg, chk_pos, decT, decF, br_pos, br_neg, wX, ↓reduceIte, Nat.reduceEqDiff, Nat.reduceAdd, Nat.reduceSub, Nat.reduceMul, Nat.reduceLeDiff, Nat.reduceLT, Nat.reduceMod, Nat.reduceDiv, Int.reduceToNat, Nat.min_eq_left, IntKind.bits, Int.reducePow, Int.reduceLT, Int.reduceLE, Int.reduceEq, Int.reduceNe, Int.reduceAdd, Int.reduceSub, and_self, reduceCtorEq, decide_eq_true_eq, decide_eq_false_iff_not, eq_self, implies_true, exists_const, Option.isNone_some, Option.isNone_none, Option.isSome_some, Option.isSome_none, Option.getD_some]
  refine vc_loop1 (fun vi g => ∃ (i m : Nat) (ys : List Row), vi = .int .i64 (i : Int) ∧ a + l / 4 * 2 ≤ i + 1 ∧ i ≤ a + l / 4 * 2 + 2 ∧ m < 18446744073709551616 ∧ g p = some (.cells #[.int .u64 (m : Int)] 135) ∧ DX h g sv ys ∧ Rg a b xs ys) (fun vi _ => a + l + 2 - m1 vi) ?_ ?_
  · simp (disch := omega) only [dm_t, wA, wB, wL, wW, wY, Int.fdiv_eq_ediv_of_nonneg, Int.tdiv_eq_ediv_of_nonneg, Int.tmod_eq_emod_of_nonneg, chk_pos, decT, decF, br_pos, br_neg, wX, ↓reduceIte, Nat.reduceEqDiff, Nat.reduceAdd, Nat.reduceSub, Nat.reduceMul, Nat.reduceLeDiff, Nat.reduceLT, Nat.reduceMod, Nat.reduceDiv, Int.reduceToNat, Nat.min_eq_left, IntKind.bits, Int.reducePow, Int.reduceLT, Int.reduceLE, Int.reduceEq, Int.reduceNe, Int.reduceAdd, Int.reduceSub, and_self, reduceCtorEq, decide_eq_true_eq, decide_eq_false_iff_not, eq_self, implies_true, exists_const, Option.isNone_some, Option.isNone_none, Option.isSome_some, Option.isSome_none, Option.getD_some]
    exact ⟨a + l / 4 * 2 - 1, l, xs, by congr 1; omega, by omega, by omega, by omega, q1, d1, Rg.refl _ _ _⟩
  rintro _ g ⟨i, m, ys, rfl, hi1, hi2, hm, q, D, R⟩
  have hlen := R.len
  by_cases hi : i ≤ a + l / 4 * 2 + 1
  · simp (disch := omega) only [dm_t, wA, wB, wL, wW, wY, Int.fdiv_eq_ediv_of_nonneg, Int.tdiv_eq_ediv_of_nonneg, Int.tmod_eq_emod_of_nonneg, chk_pos, decT, decF, br_pos, br_neg, wX, ↓reduceIte, Nat.reduceEqDiff, Nat.reduceAdd, Nat.reduceSub, Nat.reduceMul, Nat.reduceLeDiff, Nat.reduceLT, Nat.reduceMod, Nat.reduceDiv, Int.reduceToNat, Nat.min_eq_left, IntKind.bits, Int.reducePow, Int.reduceLT, Int.reduceLE, Int.reduceEq, Int.reduceNe, Int.reduceAdd, Int.reduceSub, and_self, reduceCtorEq, decide_eq_true_eq, decide_eq_false_iff_not, eq_self, implies_true, exists_const, Option.isNone_some, Option.isNone_none, Option.isSome_some, Option.isSome_none, Option.getD_some]
    refine (Next_ok q (by omega)).k ?_
    rintro _ g2 ⟨m2, rfl, hm2, q2, f2⟩
    have d2 := D.at' hps f2 hp
    obtain ⟨r, hr, hr2⟩ := and_mod m2 hk1 hm2
    have hr' : (((BitVec.ofInt (IntKind.bits .u64) (m2 : Int) &&& BitVec.ofInt (IntKind.bits .u64) (((2 ^ k : Nat) : Int) - 1)).toNat : Nat) : Int) = (r : Int) := hr
    simp only [IntKind.bits] at hr'
    have h2k : 2 ^ k ≤ 2 * l := by
      cases k with
      | zero => simp at hk2; omega
      | succ k' => rw [Nat.pow_succ] at hk3 ⊢; omega
    generalize hQ0 : lq1 _ _ _ _ _ _ _ = Q0
    have fin : ∀ o : Nat, o < l → vc PX c72_s6 (blockQ 1 (seqQ PX [0, 1, 8, 9, 10, 11] c72_s7 Q0)) [(0, sv), (1, .int .i64 (a : Int)), (8, .int .i64 (l : Int)), (9, .pointer (some ⟨p, 0, none⟩)), (10, .int .u64 ((2 ^ k : Nat) : Int)), (11, .int .i64 (i : Int)), (12, .int .i64 (o : Int))] g2 := by
      intro o ho
      rw [← hQ0]
      obtain ⟨b1, o1, i1, t1⟩ := d2.at (i := i) (by omega) rfl
      obtain ⟨b2, o2, i2, t2⟩ := d2.at (i := a + o) (by omega) (e := (a : Int) + (o : Int)) (by omega)
      simp (disch := omega) only [dm_t, wA, wB, wL, wW, wY, Int.fdiv_eq_ediv_of_nonneg, Int.tdiv_eq_ediv_of_nonneg, Int.tmod_eq_emod_of_nonneg, chk_pos, decT, decF, br_pos, br_neg, wX, ↓reduceIte, Nat.reduceEqDiff, Nat.reduceAdd, Nat.reduceSub, Nat.reduceMul, Nat.reduceLeDiff, Nat.reduceLT, Nat.reduceMod, Nat.reduceDiv, Int.reduceToNat, Nat.min_eq_left, IntKind.bits, Int.reducePow, Int.reduceLT, Int.reduceLE, Int.reduceEq, Int.reduceNe, Int.reduceAdd, Int.reduceSub, and_self, reduceCtorEq, decide_eq_true_eq, decide_eq_false_iff_not, eq_self, implies_true, exists_const, Option.isNone_some, Option.isNone_none, Option.isSome_some, Option.isSome_none, Option.getD_some, i1, t1, i2, t2]
      refine ⟨(d2.gd (i := a + o) (by omega)).len, d2.st2 (i := i) (by omega) rfl i1 (d2.gd (i := a + o) (by omega)) fun g4 D4 f4 => ?_⟩
      simp (disch := omega) only [dm_t, wA, wB, wL, wW, wY, Int.fdiv_eq_ediv_of_nonneg, Int.tdiv_eq_ediv_of_nonneg, Int.tmod_eq_emod_of_nonneg, chk_pos, decT, decF, br_pos, br_neg, wX, ↓reduceIte, Nat.reduceEqDiff, Nat.reduceAdd, Nat.reduceSub, Nat.reduceMul, Nat.reduceLeDiff, Nat.reduceLT, Nat.reduceMod, Nat.reduceDiv, Int.reduceToNat, Nat.min_eq_left, IntKind.bits, Int.reducePow, Int.reduceLT, Int.reduceLE, Int.reduceEq, Int.reduceNe, Int.reduceAdd, Int.reduceSub, and_self, reduceCtorEq, decide_eq_true_eq, decide_eq_false_iff_not, eq_self, implies_true, exists_const, Option.isNone_some, Option.isNone_none, Option.isSome_some, Option.isSome_none, Option.getD_some, i1, i2]
      refine ⟨(d2.gd (i := i) (by omega)).len, D4.st2 (i := a + o) (by rw [List.length_set]; omega) (by omega) i2 (d2.gd (i := i) (by omega)) fun g5 D5 f5 => ?_⟩
      simp (disch := omega) only [dm_t, wA, wB, wL, wW, wY, Int.fdiv_eq_ediv_of_nonneg, Int.tdiv_eq_ediv_of_nonneg, Int.tmod_eq_emod_of_nonneg, chk_pos, decT, decF, br_pos, br_neg, wX, ↓reduceIte, Nat.reduceEqDiff, Nat.reduceAdd, Nat.reduceSub, Nat.reduceMul, Nat.reduceLeDiff, Nat.reduceLT, Nat.reduceMod, Nat.reduceDiv, Int.reduceToNat, Nat.min_eq_left, IntKind.bits, Int.reducePow, Int.reduceLT, Int.reduceLE, Int.reduceEq, Int.reduceNe, Int.reduceAdd, Int.reduceSub, and_self, reduceCtorEq, decide_eq_true_eq, decide_eq_false_iff_not, eq_self, implies_true, exists_const, Option.isNone_some, Option.isNone_none, Option.isSome_some, Option.isSome_none, Option.getD_some]
      exact ⟨⟨i + 1, m2, _, by simp, by omega, by omega, hm2, f5 _ _ (f4 _ _ q2 hps) hps, D5, R.trans (Rg.swp (by omega) (by omega) (by omega) (by omega) (by omega))⟩, by simp [m1]; omega⟩
    by_cases hrl : r < l
    · have t := fin r hrl
      revert t
      simp (disch := omega) only [dm_t, wA, wB, wL, wW, wY, Int.fdiv_eq_ediv_of_nonneg, Int.tdiv_eq_ediv_of_nonneg, Int.tmod_eq_emod_of_nonneg, chk_pos, decT, decF, br_pos, br_neg, wX, ↓reduceIte, Nat.reduceEqDiff, Nat.reduceAdd, Nat.reduceSub, Nat.reduceMul, Nat.reduceLeDiff, Nat.reduceLT, Nat.reduceMod, Nat.reduceDiv, Int.reduceToNat, Nat.min_eq_left, IntKind.bits, Int.reducePow, Int.reduceLT, Int.reduceLE, Int.reduceEq, Int.reduceNe, Int.reduceAdd, Int.reduceSub, and_self, reduceCtorEq, decide_eq_true_eq, decide_eq_false_iff_not, eq_self, implies_true, exists_const, Option.isNone_some, Option.isNone_none, Option.isSome_some, Option.isSome_none, Option.getD_some, hr']
      exact id
    · have t := fin (r - l) (by omega)
      have e : ((r - l : Nat) : Int) = (r : Int) - (l : Int) := by omega
      revert t
      rw [e]
      simp (disch := omega) only [dm_t, wA, wB, wL, wW, wY, Int.fdiv_eq_ediv_of_nonneg, Int.tdiv_eq_ediv_of_nonneg, Int.tmod_eq_emod_of_nonneg, chk_pos, decT, decF, br_pos, br_neg, wX, ↓reduceIte, Nat.reduceEqDiff, Nat.reduceAdd, Nat.reduceSub, Nat.reduceMul, Nat.reduceLeDiff, Nat.reduceLT, Nat.reduceMod, Nat.reduceDiv, Int.reduceToNat, Nat.min_eq_left, IntKind.bits, Int.reducePow, Int.reduceLT, Int.reduceLE, Int.reduceEq, Int.reduceNe, Int.reduceAdd, Int.reduceSub, and_self, reduceCtorEq, decide_eq_true_eq, decide_eq_false_iff_not, eq_self, implies_true, exists_const, Option.isNone_some, Option.isNone_none, Option.isSome_some, Option.isSome_none, Option.getD_some, hr']
      exact id
  · simp (disch := omega) only [dm_t, wA, wB, wL, wW, wY, Int.fdiv_eq_ediv_of_nonneg, Int.tdiv_eq_ediv_of_nonneg, Int.tmod_eq_emod_of_nonneg, chk_pos, decT, decF, br_pos, br_neg, wX, ↓reduceIte, Nat.reduceEqDiff, Nat.reduceAdd, Nat.reduceSub, Nat.reduceMul, Nat.reduceLeDiff, Nat.reduceLT, Nat.reduceMod, Nat.reduceDiv, Int.reduceToNat, Nat.min_eq_left, IntKind.bits, Int.reducePow, Int.reduceLT, Int.reduceLE, Int.reduceEq, Int.reduceNe, Int.reduceAdd, Int.reduceSub, and_self, reduceCtorEq, decide_eq_true_eq, decide_eq_false_iff_not, eq_self, implies_true, exists_const, Option.isNone_some, Option.isNone_none, Option.isSome_some, Option.isSome_none, Option.getD_some]
    exact ⟨ys, D, R⟩
end Go.Proofs.Ytojhnclkhiffkaa.so

