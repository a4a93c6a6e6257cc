/-
  times: records put to both; all calls.
-/
import Derived.Test.YtmjbgfflbeibnaaUc
namespace Go.Proofs.Ytmjbgfflbeibnaa.ti
open Go.Proofs.Ytmjbgfflbeibnaa wi
set_option linter.unusedVariables false
set_option linter.unusedSimpArgs false
section
variable {S T : Nat → Prop} {g g' g0 : H} {p q r ab ob pb : Nat} {b e b2 e2 kind N leave n : Int} {v v2 v3 v4 w lv : Value} {l l2 : List Ri} {rs : List rc.D}
/-- The record behind lent ones. -/
def z77 : rc.D := ((77 : Int), ([] : List UInt8), ([] : List UInt8))
theorem rep_pre {t : Ty} {h : H} {a : Option Addr} {c : Nat} {l r : List t.D} (s : RepL S t h (.slice a (l ++ r).length c) (l ++ r)) : RepL S t h (.slice a l.length c) l := by
  obtain ⟨rows, h1, h2, h3⟩ := repL_iff.1 s
  have h4 := h1.pre (m := l.length) (by simp)
  refine repL_iff.2 ⟨_, h4, by rw [List.length_take, h2]; simp, ?_⟩
  intro i r' x hr hx
  rw [List.getElem?_take] at hr
  split at hr
  · refine h3 i r' x hr ?_
    rw [List.getElem?_append_left (by assumption)]; exact hx
  · cases hr
/-- m is lent to Put. -/
theorem ask_p2 {ma : Option Addr} {mc : Nat} (P : PQ S g p q b e v v2 l) (A : AH S g p q ab kind N leave lv rs) (E : Ext g0 g) (hc : rs.length + 1 ≤ mc) (hm : RepL S rc g (.slice ma (rs ++ [z77]).length mc) (rs ++ [z77])) : vc Try.prog c24_s2 (blockQ 0 (seqQ Try.prog [] c24_s12 (retQ [6] (okR (AR S p q g0))))) [(0, .pointer (some ⟨p, 0, none⟩)), (1, .pointer (some ⟨q, 0, none⟩)), (5, .pointer (some ⟨ab, 0, none⟩)), (7, .slice ma rs.length mc)] g := by
  have hl100 := A.len
  have hb := P.bd
  obtain ⟨la, lc, rfl⟩ := A.recs.len
  simp (disch := omega) only [dm_t, wZ, ↓reduceIte, Nat.reduceEqDiff, Nat.reduceAdd, Nat.reduceSub, Nat.reduceMul, Nat.reduceLeDiff, Nat.reduceLT, Nat.reduceMod, Nat.reduceDiv, Int.reduceToNat, Nat.min_eq_left, IntKind.bits, Int.reducePow, Int.reduceLT, Int.reduceLE, Int.reduceEq, Int.reduceNe, Int.reduceAdd, Int.reduceSub, reduceCtorEq, eq_self, implies_true, exists_const, Option.isNone_some, Option.isNone_none, Option.isSome_some, Option.isSome_none, Option.getD_some]
  refine (Put_ok P.X P.sp P.th ((rep_pre hm).mono fun _ _ _ h => h.elim) (by omega)).k ?_
  rintro _ g2 ⟨rfl, h2⟩
  have tail : ∀ {G : H} {b' e' : Int} {v' : Value} {l' : List Ri}, XI S G p b' e' v' l' → DX S G q b e v2 l → Fr (fun y => y = p) g G → (putE l e rs = 0 → b' = b ∧ e' = e + rs.length ∧ l' = outP l e rs) → (putE l e rs ≠ 0 → Ext g G) → vc Try.prog c24_s3 (blockQ 0 (seqQ Try.prog [] c24_s12 (retQ [6] (okR (AR S p q g0))))) [(1, .pointer (some ⟨q, 0, none⟩)), (5, .pointer (some ⟨ab, 0, none⟩)), (7, .slice ma rs.length mc), (8, .int .i64 (putE l e rs))] G := by
    intro G b' e' v' l' XG YG F h0 h1
    have AG := A.fr P.sp P.sq (F.mono fun y h => .inl h)
    have mG : RepL S rc G (.slice ma (rs ++ [z77]).length mc) (rs ++ [z77]) := hm.fr F fun y hy => by rw [hy]; exact P.sp
    have thG := th_fr P.th F fun y hy => by rw [hy, XG.obj]; simp
    simp (disch := omega) only [dm_t, wZ, ↓reduceIte, Nat.reduceEqDiff, Nat.reduceAdd, Nat.reduceSub, Nat.reduceMul, Nat.reduceLeDiff, Nat.reduceLT, Nat.reduceMod, Nat.reduceDiv, Int.reduceToNat, Nat.min_eq_left, IntKind.bits, Int.reducePow, Int.reduceLT, Int.reduceLE, Int.reduceEq, Int.reduceNe, Int.reduceAdd, Int.reduceSub, reduceCtorEq, eq_self, implies_true, exists_const, Option.isNone_some, Option.isNone_none, Option.isSome_some, Option.isSome_none, Option.getD_some, AG.c2]
    refine (RSame_ok (rep_pre mG) AG.recs (by omega)).k ?_
    rintro _ _ ⟨rfl, rfl⟩
    rw [decide_eq_true (rfl : rs = rs)]
    have hlen1 : (rs ++ [z77]).length = rs.length + 1 := by simp
    have mG1 := mG
    rw [hlen1] at mG1
    obtain ⟨b3, o3, k, v, gi3, t1, -, -, -, -⟩ := rec_at mG1 (i := rs.length) (by rw [hlen1]; omega)
    have t1' : cellAt G ⟨b3, o3, none⟩ = some (.int .i64 77) := by
      rw [t1]; simp [z77]
    simp (disch := omega) only [dm_t, wZ, ↓reduceIte, Nat.reduceEqDiff, Nat.reduceAdd, Nat.reduceSub, Nat.reduceMul, Nat.reduceLeDiff, Nat.reduceLT, Nat.reduceMod, Nat.reduceDiv, Int.reduceToNat, Nat.min_eq_left, IntKind.bits, Int.reducePow, Int.reduceLT, Int.reduceLE, Int.reduceEq, Int.reduceNe, Int.reduceAdd, Int.reduceSub, reduceCtorEq, eq_self, implies_true, exists_const, Option.isNone_some, Option.isNone_none, Option.isSome_some, Option.isSome_none, Option.getD_some, AG.c2]
    refine slc_pre (rs.length + 1) (by simp) rfl (by omega) ?_
    simp (disch := omega) only [dm_t, wZ, ↓reduceIte, Nat.reduceEqDiff, Nat.reduceAdd, Nat.reduceSub, Nat.reduceMul, Nat.reduceLeDiff, Nat.reduceLT, Nat.reduceMod, Nat.reduceDiv, Int.reduceToNat, Nat.min_eq_left, IntKind.bits, Int.reducePow, Int.reduceLT, Int.reduceLE, Int.reduceEq, Int.reduceNe, Int.reduceAdd, Int.reduceSub, reduceCtorEq, eq_self, implies_true, exists_const, Option.isNone_some, Option.isNone_none, Option.isSome_some, Option.isSome_none, Option.getD_some, AG.c2, gi3, t1']
    refine (lmay_ok AG.recs (by omega)).k ?_
    rintro _ G2 ⟨rfl, e2⟩
    have AG2 := AG.ext e2
    by_cases hmay : rs.all may = true
    · rw [hmay]
      have hrG := (AG2.recs.mono fun _ _ _ h => h.elim : RepL nos rc G2 _ rs)
      simp (disch := omega) only [dm_t, wZ, ↓reduceIte, Nat.reduceEqDiff, Nat.reduceAdd, Nat.reduceSub, Nat.reduceMul, Nat.reduceLeDiff, Nat.reduceLT, Nat.reduceMod, Nat.reduceDiv, Int.reduceToNat, Nat.min_eq_left, IntKind.bits, Int.reducePow, Int.reduceLT, Int.reduceLE, Int.reduceEq, Int.reduceNe, Int.reduceAdd, Int.reduceSub, reduceCtorEq, eq_self, implies_true, exists_const, Option.isNone_some, Option.isNone_none, Option.isSome_some, Option.isSome_none, Option.getD_some, AG2.c2]
      refine (num_ok _ _).k ?_
      rintro _ _ ⟨rfl, rfl⟩
      simp (disch := omega) only [dm_t, wZ, ↓reduceIte, Nat.reduceEqDiff, Nat.reduceAdd, Nat.reduceSub, Nat.reduceMul, Nat.reduceLeDiff, Nat.reduceLT, Nat.reduceMod, Nat.reduceDiv, Int.reduceToNat, Nat.min_eq_left, IntKind.bits, Int.reducePow, Int.reduceLT, Int.reduceLE, Int.reduceEq, Int.reduceNe, Int.reduceAdd, Int.reduceSub, reduceCtorEq, eq_self, implies_true, exists_const, Option.isNone_some, Option.isNone_none, Option.isSome_some, Option.isSome_none, Option.getD_some, AG2.c2]
      refine (DPut_ok (YG.ext e2) P.sq (fun y hy hn => thG y hy (e2.bk hn)) hb.1 hb.2 hrG (by omega) hmay).k ?_
      rintro _ G3 ⟨rfl, h3⟩
      have fin : ∀ {v3 : Value}, DX S G3 q b' e' v3 l' → Fr (fun y => y = q) G2 G3 → AR S p q g0 (.bool true) G3 := fun Y3 f3 => by
        have F2 : Fr (fun y => y = p) g G2 := F.trans (e2.mono fun _ h => h.elim)
        exact ⟨rfl, ⟨_, _, _, _, _, P.both (XG.ext e2) F2 Y3 f3⟩, (E.mono fun _ h => h.elim).trans (PQ.f2 F2 f3)⟩
      by_cases hp : putE l e rs = 0
      · rw [if_pos hp] at h3
        obtain ⟨v3, Y3, f3⟩ := h3
        obtain ⟨rfl, rfl, rfl⟩ := h0 hp
        simp (disch := omega) only [dm_t, wZ, ↓reduceIte, Nat.reduceEqDiff, Nat.reduceAdd, Nat.reduceSub, Nat.reduceMul, Nat.reduceLeDiff, Nat.reduceLT, Nat.reduceMod, Nat.reduceDiv, Int.reduceToNat, Nat.min_eq_left, IntKind.bits, Int.reducePow, Int.reduceLT, Int.reduceLE, Int.reduceEq, Int.reduceNe, Int.reduceAdd, Int.reduceSub, reduceCtorEq, eq_self, implies_true, exists_const, Option.isNone_some, Option.isNone_none, Option.isSome_some, Option.isSome_none, Option.getD_some]
        exact fin Y3 f3
      · rw [if_neg hp] at h3
        have PG := ((P.ext (h1 hp)).ext e2).ext h3
        simp (disch := omega) only [dm_t, wZ, ↓reduceIte, Nat.reduceEqDiff, Nat.reduceAdd, Nat.reduceSub, Nat.reduceMul, Nat.reduceLeDiff, Nat.reduceLT, Nat.reduceMod, Nat.reduceDiv, Int.reduceToNat, Nat.min_eq_left, IntKind.bits, Int.reducePow, Int.reduceLT, Int.reduceLE, Int.reduceEq, Int.reduceNe, Int.reduceAdd, Int.reduceSub, reduceCtorEq, eq_self, implies_true, exists_const, Option.isNone_some, Option.isNone_none, Option.isSome_some, Option.isSome_none, Option.getD_some]
        exact PG.ar (E.trans ((h1 hp).trans (e2.trans h3)))
    · have hm' : rs.all may = false := by simpa using hmay
      have hp : putE l e rs = 2 := by rw [putE, if_pos hm']
      rw [hm', hp]
      have PG := (P.ext (h1 (by rw [hp]; decide))).ext e2
      simp (disch := omega) only [dm_t, wZ, ↓reduceIte, Nat.reduceEqDiff, Nat.reduceAdd, Nat.reduceSub, Nat.reduceMul, Nat.reduceLeDiff, Nat.reduceLT, Nat.reduceMod, Nat.reduceDiv, Int.reduceToNat, Nat.min_eq_left, IntKind.bits, Int.reducePow, Int.reduceLT, Int.reduceLE, Int.reduceEq, Int.reduceNe, Int.reduceAdd, Int.reduceSub, reduceCtorEq, eq_self, implies_true, exists_const, Option.isNone_some, Option.isNone_none, Option.isSome_some, Option.isSome_none, Option.getD_some]
      refine (num_ok _ _).k ?_
      rintro _ _ ⟨rfl, rfl⟩
      simp (disch := omega) only [dm_t, wZ, ↓reduceIte, Nat.reduceEqDiff, Nat.reduceAdd, Nat.reduceSub, Nat.reduceMul, Nat.reduceLeDiff, Nat.reduceLT, Nat.reduceMod, Nat.reduceDiv, Int.reduceToNat, Nat.min_eq_left, IntKind.bits, Int.reducePow, Int.reduceLT, Int.reduceLE, Int.reduceEq, Int.reduceNe, Int.reduceAdd, Int.reduceSub, reduceCtorEq, eq_self, implies_true, exists_const, Option.isNone_some, Option.isNone_none, Option.isSome_some, Option.isSome_none, Option.getD_some]
      exact PG.ar (E.trans ((h1 (by rw [hp]; decide)).trans e2))
  by_cases hp : putE l e rs = 0
  · rw [if_pos hp] at h2
    obtain ⟨v', X2, f2⟩ := h2
    have Y2 := P.Y.fr f2 (fun y hy => by rw [hy]; exact P.sp) P.ne.symm
    have k := tail X2 Y2 f2 (fun _ => ⟨rfl, rfl, rfl⟩) (fun h => absurd hp h)
    simp (disch := omega) only [dm_t, wZ, ↓reduceIte, Nat.reduceEqDiff, Nat.reduceAdd, Nat.reduceSub, Nat.reduceMul, Nat.reduceLeDiff, Nat.reduceLT, Nat.reduceMod, Nat.reduceDiv, Int.reduceToNat, Nat.min_eq_left, IntKind.bits, Int.reducePow, Int.reduceLT, Int.reduceLE, Int.reduceEq, Int.reduceNe, Int.reduceAdd, Int.reduceSub, reduceCtorEq, eq_self, implies_true, exists_const, Option.isNone_some, Option.isNone_none, Option.isSome_some, Option.isSome_none, Option.getD_some, k]
  · rw [if_neg hp] at h2
    have k := tail (P.X.ext h2) (P.Y.ext h2) (h2.mono fun _ h => h.elim) (fun h => absurd h hp) (fun _ => h2)
    simp (disch := omega) only [dm_t, wZ, ↓reduceIte, Nat.reduceEqDiff, Nat.reduceAdd, Nat.reduceSub, Nat.reduceMul, Nat.reduceLeDiff, Nat.reduceLT, Nat.reduceMod, Nat.reduceDiv, Int.reduceToNat, Nat.min_eq_left, IntKind.bits, Int.reducePow, Int.reduceLT, Int.reduceLE, Int.reduceEq, Int.reduceNe, Int.reduceAdd, Int.reduceSub, reduceCtorEq, eq_self, implies_true, exists_const, Option.isNone_some, Option.isNone_none, Option.isSome_some, Option.isSome_none, Option.getD_some, k]
theorem ask_t1 (P : PQ S g p q b e v v2 l) (A : AH S g p q ab kind N leave lv rs) (E : Ext g0 g) : vc Try.prog c24_t1 (blockQ 0 (seqQ Try.prog [] c24_s12 (retQ [6] (okR (AR S p q g0))))) [(0, .pointer (some ⟨p, 0, none⟩)), (1, .pointer (some ⟨q, 0, none⟩)), (5, .pointer (some ⟨ab, 0, none⟩)), (20, .int .i64 kind), (21, .bool true)] g := by
  have hl100 := A.len
  obtain ⟨la, lc, hlv⟩ := A.recs.len
  subst hlv
  have hlen1 : (rs ++ [z77]).length = rs.length + 1 := by simp
  -- what stands behind the append
  have fin : ∀ {G : H} {ma : Option Addr} {mc : Nat}, Ext g G → OwL S rc (fun y => g y = none) G 48 (.slice ma (rs ++ [z77]).length mc) (rs ++ [z77]) → vc Try.prog c24_s2 (blockQ 0 (seqQ Try.prog [] c24_s12 (retQ [6] (okR (AR S p q g0))))) [(0, .pointer (some ⟨p, 0, none⟩)), (1, .pointer (some ⟨q, 0, none⟩)), (5, .pointer (some ⟨ab, 0, none⟩)), (7, .slice ma rs.length mc)] G := by
    intro G ma mc e o
    have hcap := RepL.cap o.rep
    exact ask_p2 (P.ext e) (A.ext e) (E.trans e) (by omega) (o.repS fun y hy hs => P.th y hs hy)
  have hS0 : ∀ {h' : H} {m : Value}, OwQ (WRow 5 fun y => h' y = none) (fun y => h' y ≠ none) rc (fun y => h' y = none) h' 48 m rs → True := fun _ => trivial
  simp (disch := omega) only [dm_t, wZ, ↓reduceIte, Nat.reduceEqDiff, Nat.reduceAdd, Nat.reduceSub, Nat.reduceMul, Nat.reduceLeDiff, Nat.reduceLT, Nat.reduceMod, Nat.reduceDiv, Int.reduceToNat, Nat.min_eq_left, IntKind.bits, Int.reducePow, Int.reduceLT, Int.reduceLE, Int.reduceEq, Int.reduceNe, Int.reduceAdd, Int.reduceSub, reduceCtorEq, eq_self, implies_true, exists_const, Option.isNone_some, Option.isNone_none, Option.isSome_some, Option.isSome_none, Option.getD_some, A.c2]
  refine ⟨?_, ?_⟩
  · refine (RCopy_ok A.recs (by omega) A.kb).k ?_
    rintro m g2 ⟨om, e2⟩
    have A2 := A.ext e2
    obtain ⟨ma, mc, rfl⟩ := om.l.len
    have ol : OwL S rc (fun y => g y = none) g2 48 (.slice ma rs.length mc) rs := om.l.subS fun y hy => P.th y hy
    simp (disch := omega) only [dm_t, wZ, ↓reduceIte, Nat.reduceEqDiff, Nat.reduceAdd, Nat.reduceSub, Nat.reduceMul, Nat.reduceLeDiff, Nat.reduceLT, Nat.reduceMod, Nat.reduceDiv, Int.reduceToNat, Nat.min_eq_left, IntKind.bits, Int.reducePow, Int.reduceLT, Int.reduceLE, Int.reduceEq, Int.reduceNe, Int.reduceAdd, Int.reduceSub, reduceCtorEq, eq_self, implies_true, exists_const, Option.isNone_some, Option.isNone_none, Option.isSome_some, Option.isSome_none, Option.getD_some, A2.c2]
    intro lb hlb
    have el := Ext.new hlb (.cells #[.int .i64 77, .slice none 0 0, .slice none 0 0] 48)
    simp (disch := omega) only [dm_t, wZ, ↓reduceIte, Nat.reduceEqDiff, Nat.reduceAdd, Nat.reduceSub, Nat.reduceMul, Nat.reduceLeDiff, Nat.reduceLT, Nat.reduceMod, Nat.reduceDiv, Int.reduceToNat, Nat.min_eq_left, IntKind.bits, Int.reducePow, Int.reduceLT, Int.reduceLE, Int.reduceEq, Int.reduceNe, Int.reduceAdd, Int.reduceSub, reduceCtorEq, eq_self, implies_true, exists_const, Option.isNone_some, Option.isNone_none, Option.isSome_some, Option.isSome_none, Option.getD_some, (A2.ext el).c2]
    refine OwL.push (V := fun _ => _) (bytes := 56) (z := #[.int .i64 0, .slice none 0 0, .slice none 0 0]) (row := [.int .i64 77, .slice none 0 0, .slice none 0 0]) (x := z77) 3 sz_rc ol (fun y hy => e2.bk hy) (rep_rc.2 ⟨_, _, rfl, by decide, By.nil, By.nil⟩) rfl (by omega) (by omega) ?_ lb hlb
    intro _ s' G3 _ o3 f3
    have e3 := Ext.step e2 f3
    obtain ⟨sa, sc, rfl⟩ := o3.len
    have hcap := RepL.cap o3.rep
    have k := fin e3 o3
    rw [hlen1] at hcap
    rw [hlen1]
    simp (disch := omega) only [dm_t, wZ, ↓reduceIte, Nat.reduceEqDiff, Nat.reduceAdd, Nat.reduceSub, Nat.reduceMul, Nat.reduceLeDiff, Nat.reduceLT, Nat.reduceMod, Nat.reduceDiv, Int.reduceToNat, Nat.min_eq_left, IntKind.bits, Int.reducePow, Int.reduceLT, Int.reduceLE, Int.reduceEq, Int.reduceNe, Int.reduceAdd, Int.reduceSub, reduceCtorEq, eq_self, implies_true, exists_const, Option.isNone_some, Option.isNone_none, Option.isSome_some, Option.isSome_none, Option.getD_some, (A.ext e3).c2]
    refine slc_pre rs.length rfl rfl (by omega) ?_
    simp (disch := omega) only [dm_t, wZ, ↓reduceIte, Nat.reduceEqDiff, Nat.reduceAdd, Nat.reduceSub, Nat.reduceMul, Nat.reduceLeDiff, Nat.reduceLT, Nat.reduceMod, Nat.reduceDiv, Int.reduceToNat, Nat.min_eq_left, IntKind.bits, Int.reducePow, Int.reduceLT, Int.reduceLE, Int.reduceEq, Int.reduceNe, Int.reduceAdd, Int.reduceSub, reduceCtorEq, eq_self, implies_true, exists_const, Option.isNone_some, Option.isNone_none, Option.isSome_some, Option.isSome_none, Option.getD_some, k]
  · intro lb hlb
    have el := Ext.new hlb (.cells #[.int .i64 77, .slice none 0 0, .slice none 0 0] 48)
    have hz : RepL (fun y => y ≠ lb) rc (hupd g lb (.cells #[.int .i64 77, .slice none 0 0, .slice none 0 0] 48)) (.slice (some ⟨lb, 0, none⟩) 1 1) [z77] := by
      refine repL_iff.2 ⟨[[.int .i64 77, .slice none 0 0, .slice none 0 0]], ⟨fun r hr => ?_, .inr ⟨lb, 0, 1, _, _, (0, 0), rfl, hupd_same _ _ _, by show 0 + 1 * 3 ≤ 3; omega, by simp, ?_, fun h => h rfl⟩⟩, rfl, ?_⟩
      · simp only [List.mem_singleton] at hr; rw [hr]; rfl
      · intro m hm
        have : flat [[Value.int .i64 77, .slice none 0 0, .slice none 0 0]] = [.int .i64 77, .slice none 0 0, .slice none 0 0] := by simp [flat]
        simp [this]
      · intro j r x hr hx
        cases j with
        | zero =>
          simp only [List.getElem?_cons_zero, Option.some.injEq] at hr hx
          subst hr hx
          exact rep_rc.2 ⟨_, _, rfl, by decide, By.nil, By.nil⟩
        | succ j => simp at hr
    have hlbz : hupd g lb (.cells #[.int .i64 77, .slice none 0 0, .slice none 0 0] 48) lb ≠ none := by rw [hupd_same]; simp
    generalize hupd g lb (.cells #[.int .i64 77, .slice none 0 0, .slice none 0 0] 48) = g1 at *
    have A1 := A.ext el
    simp (disch := omega) only [dm_t, wZ, ↓reduceIte, Nat.reduceEqDiff, Nat.reduceAdd, Nat.reduceSub, Nat.reduceMul, Nat.reduceLeDiff, Nat.reduceLT, Nat.reduceMod, Nat.reduceDiv, Int.reduceToNat, Nat.min_eq_left, IntKind.bits, Int.reducePow, Int.reduceLT, Int.reduceLE, Int.reduceEq, Int.reduceNe, Int.reduceAdd, Int.reduceSub, reduceCtorEq, eq_self, implies_true, exists_const, Option.isNone_some, Option.isNone_none, Option.isSome_some, Option.isSome_none, Option.getD_some, A1.c2]
    refine (RCopy_ok A1.recs (by omega) A.kb).k ?_
    rintro m g2 ⟨om, e2⟩
    have A2 := A1.ext e2
    obtain ⟨ma, mc, rfl⟩ := om.l.len
    have ol : OwL S rc (fun y => g y = none) g2 48 (.slice ma rs.length mc) rs := (om.l.subS fun y hy hn => P.th y hy (el.bk hn)).mono fun y _ _ hy => el.bk hy
    have E2 := el.trans e2
    have hz2 : RepL (fun y => isAt (.slice ma rs.length mc) y ∨ S y) rc g2 (.slice (some ⟨lb, 0, none⟩) 1 1) [z77] := by
      refine RepL.ext (RepL.mono hz fun y o hy hh => ?_) e2
      rintro rfl
      rcases hh with hh | hh
      · have := om.l.own hh
        exact hlbz this
      · exact P.th y hh hlb
    simp (disch := omega) only [dm_t, wZ, ↓reduceIte, Nat.reduceEqDiff, Nat.reduceAdd, Nat.reduceSub, Nat.reduceMul, Nat.reduceLeDiff, Nat.reduceLT, Nat.reduceMod, Nat.reduceDiv, Int.reduceToNat, Nat.min_eq_left, IntKind.bits, Int.reducePow, Int.reduceLT, Int.reduceLE, Int.reduceEq, Int.reduceNe, Int.reduceAdd, Int.reduceSub, reduceCtorEq, eq_self, implies_true, exists_const, Option.isNone_some, Option.isNone_none, Option.isSome_some, Option.isSome_none, Option.getD_some, A2.c2]
    refine OwL.app (bytes := 56) (z := #[.int .i64 0, .slice none 0 0, .slice none 0 0]) 3 sz_rc ol (fun y hy => E2.bk hy) hz2 rfl (by simp; omega) (by simp; omega) ?_
    intro s' G3 o3 f3 hat
    have e3 := Ext.step E2 f3
    obtain ⟨sa, sc, rfl⟩ := o3.len
    have hcap := RepL.cap o3.rep
    have k := fin e3 o3
    rw [hlen1] at hcap
    rw [hlen1]
    simp (disch := omega) only [dm_t, wZ, ↓reduceIte, Nat.reduceEqDiff, Nat.reduceAdd, Nat.reduceSub, Nat.reduceMul, Nat.reduceLeDiff, Nat.reduceLT, Nat.reduceMod, Nat.reduceDiv, Int.reduceToNat, Nat.min_eq_left, IntKind.bits, Int.reducePow, Int.reduceLT, Int.reduceLE, Int.reduceEq, Int.reduceNe, Int.reduceAdd, Int.reduceSub, reduceCtorEq, eq_self, implies_true, exists_const, Option.isNone_some, Option.isNone_none, Option.isSome_some, Option.isSome_none, Option.getD_some, (A.ext e3).c2]
    refine slc_pre rs.length rfl rfl (by omega) ?_
    simp (disch := omega) only [dm_t, wZ, ↓reduceIte, Nat.reduceEqDiff, Nat.reduceAdd, Nat.reduceSub, Nat.reduceMul, Nat.reduceLeDiff, Nat.reduceLT, Nat.reduceMod, Nat.reduceDiv, Int.reduceToNat, Nat.min_eq_left, IntKind.bits, Int.reducePow, Int.reduceLT, Int.reduceLE, Int.reduceEq, Int.reduceNe, Int.reduceAdd, Int.reduceSub, reduceCtorEq, eq_self, implies_true, exists_const, Option.isNone_some, Option.isNone_none, Option.isSome_some, Option.isSome_none, Option.getD_some, k]
theorem ask_p (P : PQ S g p q b e v v2 l) (A : AH S g p q ab kind N leave lv rs) (E : Ext g0 g) (hk : kind = 0 ∨ kind = 1) : vc Try.prog c24_s0 (retQ [6] (okR (AR S p q g0))) [(0, .pointer (some ⟨p, 0, none⟩)), (1, .pointer (some ⟨q, 0, none⟩)), (5, .pointer (some ⟨ab, 0, none⟩))] g := by
  have k1 := ask_t1 P A E
  rcases hk with rfl | rfl
  · simp (disch := omega) only [dm_t, wZ, ↓reduceIte, Nat.reduceEqDiff, Nat.reduceAdd, Nat.reduceSub, Nat.reduceMul, Nat.reduceLeDiff, Nat.reduceLT, Nat.reduceMod, Nat.reduceDiv, Int.reduceToNat, Nat.min_eq_left, IntKind.bits, Int.reducePow, Int.reduceLT, Int.reduceLE, Int.reduceEq, Int.reduceNe, Int.reduceAdd, Int.reduceSub, reduceCtorEq, eq_self, implies_true, exists_const, Option.isNone_some, Option.isNone_none, Option.isSome_some, Option.isSome_none, Option.getD_some, A.c0, k1]
  · simp (disch := omega) only [dm_t, wZ, ↓reduceIte, Nat.reduceEqDiff, Nat.reduceAdd, Nat.reduceSub, Nat.reduceMul, Nat.reduceLeDiff, Nat.reduceLT, Nat.reduceMod, Nat.reduceDiv, Int.reduceToNat, Nat.min_eq_left, IntKind.bits, Int.reducePow, Int.reduceLT, Int.reduceLE, Int.reduceEq, Int.reduceNe, Int.reduceAdd, Int.reduceSub, reduceCtorEq, eq_self, implies_true, exists_const, Option.isNone_some, Option.isNone_none, Option.isSome_some, Option.isSome_none, Option.getD_some, A.c0, k1]
/-- One call. -/
theorem ask_ok {cs : List Value} (P : PQ S g p q b e v v2 l) (hcs : cs = [.int .i64 kind, .int .i64 N, lv, .int .i64 leave]) (hr : RepL S rc g lv rs) (hl : rs.length ≤ 100) (hN : inI N) (hle : inI leave) (hk : ∀ x ∈ rs, x.2.1.length ≤ 140737488355328 ∧ x.2.2.length ≤ 140737488355328) : Ok Try.prog 24 #[.pointer (some ⟨p, 0, none⟩), .pointer (some ⟨q, 0, none⟩), .agg cs.toArray] g (AR S p q g) := by
  subst hcs
  obtain ⟨la, lc, rfl⟩ := hr.len
  refine c24_ok (args := [_, _, _]) (by simp) ?_
  simp (disch := omega) only [dm_t, wZ, ↓reduceIte, Nat.reduceEqDiff, Nat.reduceAdd, Nat.reduceSub, Nat.reduceMul, Nat.reduceLeDiff, Nat.reduceLT, Nat.reduceMod, Nat.reduceDiv, Int.reduceToNat, Nat.min_eq_left, IntKind.bits, Int.reducePow, Int.reduceLT, Int.reduceLE, Int.reduceEq, Int.reduceNe, Int.reduceAdd, Int.reduceSub, reduceCtorEq, eq_self, implies_true, exists_const, Option.isNone_some, Option.isNone_none, Option.isSome_some, Option.isSome_none, Option.getD_some]
  intro ab hab
  have e1 := Ext.new hab (.cells #[.int .i64 kind, .int .i64 N, .slice la rs.length lc, .int .i64 leave] 57)
  have qa := hupd_same g ab (.cells #[.int .i64 kind, .int .i64 N, .slice la rs.length lc, .int .i64 leave] 57)
  generalize hupd g ab (.cells #[.int .i64 kind, .int .i64 N, .slice la rs.length lc, .int .i64 leave] 57) = g1 at e1 qa ⊢
  have P1 := P.ext e1
  have A1 : AH S g1 p q ab kind N leave (.slice la rs.length lc) rs := ⟨qa, ⟨fun h => P.th p P.sp (h ▸ hab), fun h => P.th q P.sq (h ▸ hab)⟩, hr.ext e1, hl, hN, hle, hk⟩
  have key : vc Try.prog c24_s0 (retQ [6] (okR (AR S p q g))) [(0, .pointer (some ⟨p, 0, none⟩)), (1, .pointer (some ⟨q, 0, none⟩)), (5, .pointer (some ⟨ab, 0, none⟩))] g1 := by
    by_cases h0 : kind = 0 ∨ kind = 1
    · exact ask_p P1 A1 e1 h0
    by_cases h2 : kind = 2
    · subst h2; exact ask_2 P1 A1 e1
    by_cases h3 : kind = 3
    · subst h3; exact ask_3 P1 A1 e1
    by_cases h4 : kind = 4
    · subst h4; exact ask_4 P1 A1 e1
    by_cases h5 : kind = 5
    · subst h5; exact ask_5 P1 A1 e1
    by_cases h6 : kind = 6
    · subst h6; exact ask_6 P1 A1 e1
    by_cases h9 : kind = 9
    · subst h9; exact ask_9 P1 A1 e1
    exact ask_o P1 A1 e1 ⟨by omega, h9⟩
  revert key
  simp (disch := omega) only [dm_t, wZ, ↓reduceIte, Nat.reduceEqDiff, Nat.reduceAdd, Nat.reduceSub, Nat.reduceMul, Nat.reduceLeDiff, Nat.reduceLT, Nat.reduceMod, Nat.reduceDiv, Int.reduceToNat, Nat.min_eq_left, IntKind.bits, Int.reducePow, Int.reduceLT, Int.reduceLE, Int.reduceEq, Int.reduceNe, Int.reduceAdd, Int.reduceSub, reduceCtorEq, eq_self, implies_true, exists_const, Option.isNone_some, Option.isNone_none, Option.isSome_some, Option.isSome_none, Option.getD_some]
  exact id
end
end Go.Proofs.Ytmjbgfflbeibnaa.ti
