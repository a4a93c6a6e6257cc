/-
  The bounds of a script (ScriptLong), walked.
-/
import Derived.Test.YtooimdgoibdhlaaDoorQi
namespace Go.Proofs.YtooimdgoibdhlaaDoor.sc
open Go Go.Proofs.YtooimdgoibdhlaaDoor Go.RowKit
set_option linter.unusedVariables false
set_option linter.unusedSimpArgs false
/-! ### Plain -/
abbrev pk0 : St := (2, 0, [], 0, (0, 0), [])
abbrev b7 : List UInt8 := [112, 105, 99, 107, 32, 48]
theorem may_pk : mayS pk0 = true := by decide
theorem ln_pk : ln pk0 = b7 := by
  have := dz_small (n := 0) (by omega)
  show jn [kPick, dz 0] = b7
  rw [show dz 0 = [dg 0] from this]; decide
theorem txt_pk : ∀ n : Nat, (txt (List.replicate n pk0)).length = 7 * n
  | 0 => rfl
  | n + 1 => by rw [List.replicate_succ, txt_cons, ln_pk, List.length_append, List.length_cons (a := (10 : UInt8)), txt_pk n]; simp only [List.length_cons, List.length_nil]; omega
theorem txt_pk1 (n : Nat) : txt (List.replicate (n + 1) pk0) = txt (List.replicate n pk0) ++ (b7 ++ [10]) := by
  rw [List.replicate_succ', txt_snoc, ln_pk]
theorem may_rep (n : Nat) : ∀ x ∈ List.replicate n pk0, mayS x = true := fun x hx => by rw [List.eq_of_mem_replicate hx]; exact may_pk
theorem TX_pk {n : Nat} (h : n = 65536) : TX (List.replicate n pk0) = (txt (List.replicate n pk0), (n : Int), 0) := by
  rw [TX_may (by rw [List.length_replicate]; omega) (may_rep n), txt_pk, if_neg (by omega), List.length_replicate]
theorem TX_pk1 {n : Nat} (h : n = 65537) : TX (List.replicate n pk0) = ([], 0, 3) := if_pos (by rw [List.length_replicate]; omega)
theorem prs_pk {n : Nat} (h : n = 65536) : prs (txt (List.replicate n pk0)) = (List.replicate n pk0, (n : Int), 0) := by
  rw [prs_txt (by rw [List.length_replicate]; omega) (fun x hx => (may_iff x).1 (may_rep n x hx)) (by rw [txt_pk]; omega), List.length_replicate]
theorem prs_pk1 {n : Nat} (h : n = 65537) : prs (txt (List.replicate n pk0)) = ([], 0, 3) := if_pos (.inr (by rw [nls_txt, List.length_replicate]; omega))
/-- A step of that many bytes. -/
def sn (n : Nat) : St := (1, 0, List.replicate n 0, 0, (0, 0), [])
theorem may_sn {n : Nat} (h : n = 1048576) : mayS (sn n) = true := by
  have h1 : (List.replicate n (0 : UInt8)).length ≤ 1048576 := by rw [List.length_replicate]; omega
  have h2 : sn n = only (sn n) := rfl
  refine (may_iff _).2 ⟨by show (1 : Int) ≤ 1; decide, by show (1 : Int) ≤ 5; decide, h2, by show (0 : Int) ≤ 0 ∧ (0 : Int) ≤ 63; decide, h1, by show (0 : Int) ≤ 0 ∧ (0 : Int) ≤ huge; decide, by show (0 : Int) ≤ 0 ∧ (0 : Int) ≤ 2; decide, by show (0 : Int) ≤ 0 ∧ (0 : Int) ≤ huge; decide, fun _ => rfl, by show ([] : List Int).length ≤ 4096; decide, fun n hn => by simp [sn] at hn⟩
theorem TX_sn {n : Nat} (h : n = 1048576) : TX [sn n] = ([], 0, 3) := by
  rw [TX_may (by simp) fun x hx => by rw [List.mem_singleton.1 hx]; exact may_sn h, if_pos]
  have h1 : txt [sn n] = jn [kSend, dz 0, hexd (List.replicate n 0)] ++ [10] := by
    rw [show ([sn n] : List St) = [] ++ [sn n] from rfl, txt_snoc]; rfl
  have h2 : hexd (List.replicate n 0) = hexs (List.replicate n 0) := by
    unfold hexd
    obtain ⟨m, rfl⟩ : ∃ m, n = m + 1 := ⟨n - 1, by omega⟩
    rw [List.replicate_succ]; rfl
  rw [h1, h2, jn_cons _ (by simp), jn_cons _ (by simp)]
  simp only [jn, List.length_append, List.length_cons, hexs_len, List.length_replicate]
  omega
theorem set_pk {i n : Nat} (h : i < n) : (List.replicate i pk0 ++ List.replicate (n - i) z0).set i pk0 = List.replicate (i + 1) pk0 ++ List.replicate (n - (i + 1)) z0 := by
  obtain ⟨k, hk⟩ : ∃ k, n - i = k + 1 := ⟨n - i - 1, by omega⟩
  rw [hk, show n - (i + 1) = k by omega, List.set_append_right _ _ (by simp), List.length_replicate, Nat.sub_self, List.replicate_succ, List.set_cons_zero, List.replicate_succ' (n := i), List.append_assoc]
  rfl
theorem get_pk {i n : Nat} (h : i < n) (hl : i < (List.replicate i pk0 ++ List.replicate (n - i) z0).length) : (List.replicate i pk0 ++ List.replicate (n - i) z0)[i] = z0 := by
  rw [List.getElem_append_right (by simp)]
  simp
section
variable {S : Nat → Prop} {h : H}
theorem Parts_big {v : Value} {l : List St} (r : RepL S stT h v l) (hl : 65536 < l.length) (hl2 : l.length ≤ 4611686018427387904) : Ok Tryd.prog 31 #[v] h fun v h' => v = .tuple #[.slice none 0 0, .int .i64 3] ∧ h = h' := by
  obtain ⟨va, vc', rfl⟩ := r.len
  refine c31_ok (args := [_]) (by simp) ?_
  simp (disch := omega) only [dm_t, wS, simprocAttr, IntKind.bits]
/-- One step as a list. -/
theorem one_st {g : H} {b : Nat} {x : St} {vx wx : Value} (rx : Rep nos stT g (sCs x vx wx) x) (hb : g b = none) :
    RepL nos stT (hupd g b (.cells (sCs x vx wx).toArray 31)) (.slice (some ⟨b, 0, none⟩) 1 1) [x] := by
  refine repL_iff.2 ⟨[sCs x vx wx], (OwK.lit (k := 7) (O := fun _ => True) (rows := [sCs x vx wx]) (fun r hr => ?_) rfl (by simp) (Nat.le_refl _) ?_ trivial (.inl rfl)).s0, rfl, ?_⟩
  · rw [List.mem_singleton.1 hr]; rfl
  · intro i hi
    simp [flat]
  · intro i r y hr hy
    match i with
    | 0 => simp only [List.getElem?_cons_zero, Option.some.injEq] at hr hy; subst hr hy; exact rx.ext (Ext.new hb _)
    | i + 1 => simp at hr
theorem SG_ok (G : GL h) : Ok Tryd.prog 7 #[] h fun v h' => v = .bool true ∧ Ext h h' := by
  obtain ⟨n, hn⟩ : ∃ n : Nat, n = 65537 := ⟨_, rfl⟩
  obtain ⟨m, hm⟩ : ∃ m : Nat, m = 65536 := ⟨_, rfl⟩
  refine c7_ok (args := []) (by simp) ?_
  simp (disch := omega) only [dm_t, wS, simprocAttr, IntKind.bits]
  intro b hb
  have ow : OwL nos stT (fun y => h y = none) (hupd h b (.cells (Builtin.zeroCells z7.toArray n) 31)) 31 (.slice (some ⟨b, 0, none⟩) n n) (List.replicate n z0) :=
    omakeL (z := z7) 7 rfl z0 (fun h => rep_st.2 ⟨_, _, rfl, sB_z0, By.nil, RepL.nil⟩) (Nat.le_refl _) hb
  rw [← hn]
  generalize hG : hupd h b _ = g1 at ow ⊢
  obtain ⟨e1, -⟩ := new_ext hG hb
  clear hG
  refine vc_loop1 (fun vi g => ∃ (i : Nat), vi = .int .i64 (i : Int) ∧ i ≤ n ∧ OwL nos stT (fun y => h y = none) g 31 (.slice (some ⟨b, 0, none⟩) n n) (List.replicate i pk0 ++ List.replicate (n - i) z0) ∧ Ext h g) (fun vi _ => n - m1 vi) ?_ ?_
  · simp (disch := omega) only [dm_t, wS, simprocAttr, IntKind.bits]
    exact ⟨0, by simp, by omega, by simpa using ow, e1⟩
  rintro _ g ⟨i, rfl, hi, ho, e⟩
  have hlen : (List.replicate i pk0 ++ List.replicate (n - i) z0).length = n := by simp; omega
  by_cases hil : i < n
  · obtain ⟨b', o', cs, i1, -, hO, -, hrep, st⟩ := ho.set (i := i) (by omega) .i64 7 rfl
    rw [get_pk hil] at hrep
    obtain ⟨vb, vp, rfl, hB, hvb, hvp⟩ := rep_st.1 hrep
    simp (disch := omega) only [dm_t, wS, simprocAttr, IntKind.bits, i1]
    refine st 0 [.int .i64 2] pk0 _ (by simp) rfl (rep_st.2 ⟨vb, vp, rfl, ⟨by decide, by decide, by decide, by decide, by decide⟩, hvb, hvp⟩) ?_
    rw [set_pk hil]
    intro g2 o2 f2
    simp (disch := omega) only [dm_t, wS, simprocAttr, IntKind.bits]
    exact ⟨⟨i + 1, by simp, by omega, o2, Ext.step' e f2 fun y hy => by rw [hy]; exact hO⟩, by simp [m1] <;> omega⟩
  obtain rfl : i = n := by omega
  rw [Nat.sub_self, List.replicate_zero, List.append_nil] at ho
  have r := ho.rep
  clear hlen ow ho
  obtain ⟨v', hs', rk⟩ := RepL.cut r 7 rfl (m3 := false) (l := 0) (u := m) (m := i) rfl rfl rfl (by omega) (by omega) (by omega) (by omega) (.inr rfl)
  have hsl := slcV_pre 7 (some ⟨b, 0, none⟩) i i m (by omega)
  rw [show ((0 : Nat) : Int) = 0 from rfl, hsl] at hs'
  injection hs' with hs'
  subst hs'
  rw [List.drop_zero, Nat.sub_zero, List.take_replicate, Nat.min_eq_left (by omega)] at rk
  have hpk : ∀ (k : Nat), ∀ x ∈ List.replicate k pk0, x.2.2.2.2.2.length ≤ 4611686018427387904 := fun k x hx => by rw [List.eq_of_mem_replicate hx]; decide
  have hsl' : slcV 7 (some ⟨b, 0, none⟩) i i false 0 65536 (i : Int) = some (.slice (some ⟨b, 0, none⟩) m i) := by rw [← hsl, hm]; rfl
  simp (disch := omega) only [dm_t, wS, simprocAttr, IntKind.bits, hsl']
  refine (Text_ok (G.ext e) rk (by rw [List.length_replicate]; omega) (hpk _)).k ?_
  rw [TX_pk hm]
  rintro _ g2 ⟨rfl, e2⟩
  simp (disch := omega) only [dm_t, wS, simprocAttr, IntKind.bits]
  refine (Text_ok (G.ext (e.trans e2)) (r.ext e2) (by rw [List.length_replicate]; omega) (hpk _)).k ?_
  rw [TX_pk1 hn]
  rintro _ g3 ⟨rfl, e3⟩
  have E3 := (e.trans e2).trans e3
  have htl := txt_pk m
  simp (disch := omega) only [dm_t, wS, simprocAttr, IntKind.bits]
  refine (Parse_ok (G.ext E3) (txt (List.replicate m pk0)) (by omega)).k ?_
  rw [prs_pk hm]
  rintro _ g4 ⟨w, rfl, r4, e4⟩
  obtain ⟨wa, wc, rfl⟩ := r4.len
  have E4 := E3.trans e4
  have ht1 : txt (List.replicate m pk0) ++ [112, 105, 99, 107, 32, 48, 10] = txt (List.replicate i pk0) := by
    rw [hn, hm]; exact (txt_pk1 _).symm
  have htl1 := txt_pk i
  simp (disch := omega) only [dm_t, wS, simprocAttr, IntKind.bits, mk_append, size_mk, List.length_cons, List.length_nil]
  rw [ht1]
  refine (Parse_ok (G.ext E4) (txt (List.replicate i pk0)) (by omega)).k ?_
  rw [prs_pk1 hn]
  rintro _ g5 ⟨u, rfl, r5, e5⟩
  obtain ⟨ua, uc, rfl⟩ := r5.len
  have E5 := E4.trans e5
  obtain ⟨c, hc⟩ : ∃ c : Nat, c = 1048576 := ⟨_, rfl⟩
  simp (disch := omega) only [dm_t, wS, simprocAttr, IntKind.bits]
  intro bb hbb
  rw [show Int.toNat 1048576 = 1048576 from rfl, ← hc]
  have hby : By nos (hupd g5 bb (.cells (Builtin.zeroCells #[.int .u8 0] c) 5)) (.slice (some ⟨bb, 0, none⟩) c c) (List.replicate c 0) := (omakeB (O := fun _ => True) (Nat.le_refl _) trivial).s0
  generalize hG : hupd g5 bb _ = g6 at hby ⊢
  obtain ⟨e6, -⟩ := new_ext hG hbb
  clear hG
  simp (disch := omega) only [dm_t, wS, simprocAttr, IntKind.bits]
  intro sb hsb
  simp (disch := omega) only [dm_t, wS, simprocAttr, IntKind.bits]
  refine storeH_all (vs := sCs (sn c) (.slice (some ⟨bb, 0, none⟩) c c) (.slice none 0 0)) (hupd_same _ _ _) rfl rfl ?_
  rw [hupd_hupd]
  generalize hG : hupd g6 sb _ = g7
  obtain ⟨e7, q7⟩ := new_ext hG hsb
  clear hG
  have rsn : Rep nos stT g7 (sCs (sn c) (.slice (some ⟨bb, 0, none⟩) c c) (.slice none 0 0)) (sn c) := rep_st.2 ⟨_, _, rfl, ⟨in1, in0, in0, in0, in0⟩, SlK.ext hby e7, RepL.nil⟩
  simp (disch := omega) only [dm_t, wS, simprocAttr, IntKind.bits, cellsAt_all q7 7 rfl]
  intro lb hlb
  have r1 := one_st rsn hlb
  generalize hG : hupd g7 lb _ = g8 at r1 ⊢
  obtain ⟨e8, -⟩ := new_ext hG hlb
  clear hG
  have E8 := E5.trans ((e6.trans e7).trans e8)
  simp (disch := omega) only [dm_t, wS, simprocAttr, IntKind.bits]
  refine (Text_ok (G.ext E8) r1 (by simp) fun x hx => by rw [List.mem_singleton.1 hx]; show ([] : List Int).length ≤ _; simp).k ?_
  rw [TX_sn hc]
  rintro _ g9 ⟨rfl, e9⟩
  have e39 := (e4.trans e5).trans ((e6.trans e7).trans (e8.trans e9))
  simp (disch := omega) only [dm_t, wS, simprocAttr, IntKind.bits]
  refine (Parts_big (r.ext ((e2.trans e3).trans e39)) (by rw [List.length_replicate]; omega) (by rw [List.length_replicate]; omega)).k ?_
  rintro _ _ ⟨rfl, rfl⟩
  have E9 := E8.trans e9
  have q9 := e9.at (e8.at q7)
  simp (disch := omega) only [dm_t, wS, simprocAttr, IntKind.bits, size_mk, toList_mk]
  refine (Num_ok g9 0).k ?_
  rintro _ _ ⟨rfl, rfl⟩
  simp (disch := omega) only [dm_t, wS, simprocAttr, IntKind.bits, size_mk, toList_mk]
  refine (Num_ok g9 3).k ?_
  rintro _ _ ⟨rfl, rfl⟩
  simp (disch := omega) only [dm_t, wS, simprocAttr, IntKind.bits, size_mk, toList_mk, List.length_replicate]
  refine (Num_ok g9 0).k ?_
  rintro _ _ ⟨rfl, rfl⟩
  simp (disch := omega) only [dm_t, wS, simprocAttr, IntKind.bits, size_mk, toList_mk, List.length_nil]
  refine (Num_ok g9 3).k ?_
  rintro _ _ ⟨rfl, rfl⟩
  simp (disch := omega) only [dm_t, wS, simprocAttr, IntKind.bits, size_mk, toList_mk]
  refine (Num_ok g9 3).k ?_
  rintro _ _ ⟨rfl, rfl⟩
  simp (disch := omega) only [dm_t, wS, simprocAttr, IntKind.bits, size_mk, toList_mk]
  refine (Num_ok g9 3).k ?_
  rintro _ _ ⟨rfl, rfl⟩
  simp (disch := omega) only [dm_t, wS, simprocAttr, IntKind.bits, cellsAt_all q9 7 rfl]
  refine (Check_ok (rsn.ext (e8.trans e9)) (by show ([] : List Int).length ≤ _; simp)).k ?_
  rw [may_sn hc]
  rintro _ g10 ⟨rfl, e10⟩
  simp (disch := omega) only [dm_t, wS, simprocAttr, IntKind.bits]
  refine (Num_ok g10 0).k ?_
  rintro _ _ ⟨rfl, rfl⟩
  simp (disch := omega) only [dm_t, wS, simprocAttr, IntKind.bits]
  refine (works_ok (G.ext (E9.trans e10))).k ?_
  rintro _ g11 ⟨rfl, e11⟩
  simp (disch := omega) only [dm_t, wS, simprocAttr, IntKind.bits]
  exact (E9.trans e10).trans e11
end
end Go.Proofs.YtooimdgoibdhlaaDoor.sc
