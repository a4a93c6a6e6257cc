/-
  proto: the cutter's calls.
-/
import Derived.Test.YtfeaaliocdkonaaPr
namespace Go.Proofs.Ytfeaaliocdkonaa.pr
open Go.Proofs.Ytfeaaliocdkonaa rr wi
set_option linter.unusedVariables false
set_option linter.unusedSimpArgs false
/-- A cutter in memory: D are its blocks. -/
structure CU (D : Nat → Prop) (g : H) (p : Nat) (s : Value) (l : List UInt8) (met : Bool) : Prop where
  obj : g p = some (.cells #[s, .bool true, .bool met] 67)
  ow : OwB (fun y => D y ∧ y ≠ p) g 5 s l
  dp : D p
  al : ∀ y, D y → g y ≠ none
section
variable {D T : Nat → Prop} {g g' : H} {p : Nat} {s : Value} {l : List UInt8} {met : Bool}
theorem CU.fr (c : CU D g p s l met) (f : Fr T g g') (hT : ∀ y, T y → ¬ D y) : CU D g' p s l met :=
  ⟨f _ _ c.obj fun h => hT _ h c.dp, OwK.fr c.ow f fun y h1 h2 _ => hT y h1 h2.1, c.dp, fun y hy => by
    obtain ⟨o, ho⟩ := Option.ne_none_iff_exists'.1 (c.al y hy)
    rw [f _ _ ho fun h => hT y h hy]; simp⟩
theorem CU.ext (c : CU D g p s l met) (e : Ext g g') : CU D g' p s l met := c.fr e fun _ h => h.elim
theorem CU.imp (c : CU D g p s l met) (h : ∀ y, D y → T y) (ha : ∀ y, T y → g y ≠ none) : CU T g p s l met := ⟨c.obj, OwK.mono c.ow fun _ _ _ hy => ⟨h _ hy.1, hy.2⟩, h _ c.dp, ha⟩
end
def stE (met : Bool) : Int := if met = true then 300 else 0
theorem state_ok {D : Nat → Prop} {h : H} {p : Nat} {s : Value} {l : List UInt8} {met : Bool} (c : CU D h p s l met) : Ok Try.prog 56 #[.pointer (some ⟨p, 0, none⟩)] h fun v h' => v = .int .i64 (stE met) ∧ h = h' := by
  refine c56_ok (args := [_]) (by simp) ?_
  have q := c.obj
  cases met
  · simp (disch := omega) only [dm_t, wS, simprocAttr, IntKind.bits, cellAt_of q]
    rfl
  · simp (disch := omega) only [dm_t, wS, simprocAttr, IntKind.bits, cellAt_of q]
    rfl
/-- None: nil, or one that was not made. -/
def NoC (h : H) (v : Value) : Prop := v = .pointer none ∨ ∃ p s m, v = .pointer (some ⟨p, 0, none⟩) ∧ h p = some (.cells #[s, .bool false, m] 67)
theorem state_no {h : H} {v : Value} (c : NoC h v) : Ok Try.prog 56 #[v] h fun v h' => v = .int .i64 1 ∧ h = h' := by
  refine c56_ok (args := [_]) (by simp) ?_
  rcases c with rfl | ⟨p, s, m, rfl, q⟩
  · simp (disch := omega) only [dm_t, wS, simprocAttr, IntKind.bits]
  · simp (disch := omega) only [dm_t, wS, simprocAttr, IntKind.bits, cellAt_of q]
theorem New_c (h : H) : Ok Try.prog 20 #[] h fun v h' => ∃ p, v = .pointer (some ⟨p, 0, none⟩) ∧ h p = none ∧ CU (fun y => y = p) h' p (.slice none 0 0) [] false ∧ Ext h h' := by
  refine c20_ok (args := []) (by simp) ?_
  simp (disch := omega) only [dm_t, wS, simprocAttr, IntKind.bits]
  intro p hp
  exact ⟨p, rfl, hp, ⟨hupd_same _ _ _, OwK.nil, rfl, fun y hy => by rw [hy, hupd_same]; simp⟩, Ext.new hp _⟩
theorem Put_met {D : Nat → Prop} {h : H} {p : Nat} {s w : Value} {l : List UInt8} (c : CU D h p s l true) : Ok Try.prog 22 #[.pointer (some ⟨p, 0, none⟩), w] h fun v h' => v = .int .i64 300 ∧ h = h' := by
  refine c22_ok (args := [_, _]) (by simp) ?_
  simp (disch := omega) only [dm_t, wS, simprocAttr, IntKind.bits]
  refine (state_ok c).k ?_
  rintro _ _ ⟨rfl, rfl⟩
  rw [stE, if_pos rfl]
  simp (disch := omega) only [dm_t, wS, simprocAttr, IntKind.bits]
theorem Put_no {h : H} {v w : Value} (c : NoC h v) : Ok Try.prog 22 #[v, w] h fun v h' => v = .int .i64 1 ∧ h = h' := by
  refine c22_ok (args := [_, _]) (by simp) ?_
  simp (disch := omega) only [dm_t, wS, simprocAttr, IntKind.bits]
  refine (state_no c).k ?_
  rintro _ _ ⟨rfl, rfl⟩
  simp (disch := omega) only [dm_t, wS, simprocAttr, IntKind.bits]
theorem Put_ok {D S : Nat → Prop} {h : H} {p : Nat} {s w : Value} {l m : List UInt8} (c : CU D h p s l false) (hm : By S h w m) (hl : l.length + m.length ≤ 140737488355328) :
    Ok Try.prog 22 #[.pointer (some ⟨p, 0, none⟩), w] h fun v h' => v = .int .i64 0 ∧ (∃ s', CU (fun y => (D y ∨ h y = none) ∧ h' y ≠ none) h' p s' (l ++ m) false) ∧ Fr D h h' := by
  refine c22_ok (args := [_, _]) (by simp) ?_
  simp (disch := omega) only [dm_t, wS, simprocAttr, IntKind.bits]
  refine (state_ok c).k ?_
  rintro _ _ ⟨rfl, rfl⟩
  rw [stE, if_neg (by decide)]
  have q := c.obj
  simp (disch := omega) only [dm_t, wS, simprocAttr, IntKind.bits, cellAt_of q]
  refine appB (O := fun y => (D y ∧ y ≠ p) ∨ h y = none) (OwK.mono c.ow fun _ _ _ hy => .inl hy) (fun y hy => .inr hy) hm hl ?_
  intro v h1 o1 f1
  have hne : ∀ y, ((D y ∧ y ≠ p) ∨ h y = none) → y ≠ p := fun y hy => hy.elim (fun hy => hy.2) fun hy hh => by rw [hh, q] at hy; cases hy
  have q1 : h1 p = some (.cells #[s, .bool true, .bool false] 67) := f1 _ _ q fun hh => hne p hh.1 rfl
  obtain ⟨va, vc, rfl⟩ := By.len o1.s0
  simp (disch := omega) only [dm_t, wS, simprocAttr, IntKind.bits, storeH_0 q1]
  have f2 := Fr.upd (h := h1) (b := p) (S := fun y => y = p) rfl (.cells #[.slice va (l ++ m).length vc, .bool true, .bool false] 67)
  have o2 := OwK.fr o1 f2 fun y hy hO _ => hne y hO hy
  refine ⟨⟨_, hupd_same _ _ _, OwK.mono o2 fun y o ho hO => ⟨⟨hO.elim (fun hO => .inl hO.1) .inr, by rw [ho]; simp⟩, hne y hO⟩, ⟨.inl c.dp, by rw [hupd_same]; simp⟩, fun y hy => hy.2⟩, ?_⟩
  intro y o hy hn
  rw [hupd_ne _ _ (fun hh => hn (by rw [hh]; exact c.dp))]
  exact f1 _ _ hy fun hh => hh.1.elim (fun hD => hn hD.1) fun hD => by rw [hD] at hy; cases hy
theorem Next_no {h : H} {v : Value} (c : NoC h v) : Ok Try.prog 23 #[v] h fun v h' => v = .tuple #[.slice none 0 0, .int .i64 1] ∧ h = h' := by
  refine c23_ok (args := [_]) (by simp) ?_
  simp (disch := omega) only [dm_t, wS, simprocAttr, IntKind.bits]
  refine (state_no c).k ?_
  rintro _ _ ⟨rfl, rfl⟩
  simp (disch := omega) only [dm_t, wS, simprocAttr, IntKind.bits]
theorem Next_met {D : Nat → Prop} {h : H} {p : Nat} {s : Value} {l : List UInt8} (c : CU D h p s l true) : Ok Try.prog 23 #[.pointer (some ⟨p, 0, none⟩)] h fun v h' => v = .tuple #[.slice none 0 0, .int .i64 300] ∧ h = h' := by
  refine c23_ok (args := [_]) (by simp) ?_
  simp (disch := omega) only [dm_t, wS, simprocAttr, IntKind.bits]
  refine (state_ok c).k ?_
  rintro _ _ ⟨rfl, rfl⟩
  rw [stE, if_pos rfl]
  simp (disch := omega) only [dm_t, wS, simprocAttr, IntKind.bits]
def NextR (D : Nat → Prop) (h : H) (p : Nat) (s : Value) (l : List UInt8) (v : Value) (h' : H) : Prop :=
  ((splitE l = 0 ∧ ∃ w s', v = .tuple #[w, .int .i64 0] ∧ OwB (fun y => h y = none) h' 5 w (splitB l) ∧ CU D h' p s' (l.drop (splitN l)) false) ∨
      (¬ splitE l = 0 ∧ v = .tuple #[.slice none 0 0, .int .i64 (splitE l)] ∧ CU D h' p s l (decide (splitE l = 300)))) ∧ Fr D h h'
theorem Next_ok {D : Nat → Prop} {h : H} {p : Nat} {s : Value} {l : List UInt8} (c : CU D h p s l false) (hl : l.length ≤ 140737488355328) :
    Ok Try.prog 23 #[.pointer (some ⟨p, 0, none⟩)] h (NextR D h p s l) := by
  refine c23_ok (args := [_]) (by simp) ?_
  simp (disch := omega) only [dm_t, wS, simprocAttr, IntKind.bits]
  refine (state_ok c).k ?_
  rintro _ _ ⟨rfl, rfl⟩
  rw [stE, if_neg (by decide)]
  have q := c.obj
  obtain ⟨sa, sc, rfl⟩ := By.len c.ow.s0
  obtain ⟨_, _, hsc⟩ := SlK.cap c.ow.s0
  rw [one_len, bvs_len] at hsc
  simp (disch := omega) only [dm_t, wS, simprocAttr, IntKind.bits, cellAt_of q]
  refine (Split_ok c.ow.s0 hl).k ?_
  rintro _ g1 ⟨hsp, e1⟩
  have c1 := c.ext e1
  have q1 := c1.obj
  rcases hsp with ⟨he, w, rfl, ow⟩ | ⟨he, rfl⟩
  case inr =>
    simp (disch := omega) only [dm_t, wS, simprocAttr, IntKind.bits, storeH_0 q1]
    have hob : hupd g1 p (.cells #[.slice sa l.length sc, .bool true, .bool (decide (splitE l = 300))] 67) p = some (.cells #[.slice sa l.length sc, .bool true, .bool (decide (splitE l = 300))] 67) := hupd_same _ _ _
    refine ⟨.inr ⟨he, rfl, ⟨hob, OwK.fr c1.ow (Fr.upd (S := fun y => y = p) rfl _) (fun y hy hO _ => hO.2 hy), c.dp, fun y hy => ?_⟩⟩, (e1.mono fun _ h => h.elim).trans (Fr.upd (S := D) c.dp _)⟩
    by_cases hyp : y = p
    · rw [hyp, hob]; simp
    · rw [hupd_ne _ _ hyp]; exact c1.al y hy
  obtain ⟨_, hN, _, _⟩ := splitB_len he
  unfold NextR
  generalize splitN l = N at hN ⊢
  simp (disch := omega) only [dm_t, wS, simprocAttr, IntKind.bits, storeH_0 q1]
  have hob : hupd g1 p (.cells #[.slice sa l.length sc, .bool true, .bool false] 67) p = some (.cells #[.slice sa l.length sc, .bool true, .bool false] 67) := hupd_same _ _ _
  have o1 := OwK.fr c1.ow (Fr.upd (h := g1) (b := p) (S := fun y => y = p) rfl (.cells #[.slice sa l.length sc, .bool true, .bool false] 67)) fun y hy hO _ => hO.2 hy
  have f1 : Fr D h (hupd g1 p (.cells #[.slice sa l.length sc, .bool true, .bool false] 67)) := (e1.mono fun _ h => h.elim).trans (Fr.upd (S := D) c.dp _)
  have ow1 : OwB (fun y => h y = none) (hupd g1 p (.cells #[.slice sa l.length sc, .bool true, .bool false] 67)) 5 w (splitB l) := OwK.fr ow (Fr.upd (S := fun y => y = p) rfl _) fun y hy hn => by rw [hy, q] at hn; cases hn
  have al1 : ∀ y, D y → hupd g1 p (.cells #[.slice sa l.length sc, .bool true, .bool false] 67) y ≠ none := fun y hy => by
    by_cases hyp : y = p
    · rw [hyp, hob]; simp
    · rw [hupd_ne _ _ hyp]; exact c1.al y hy
  generalize hupd g1 p (.cells #[.slice sa l.length sc, .bool true, .bool false] 67) = g2 at hob o1 f1 ow1 al1 ⊢
  have cb : cellAt g2 ⟨p, 0, none⟩ = some (.slice sa l.length sc) := by rw [cellAt_of hob]; rfl
  simp (disch := omega) only [dm_t, wS, simprocAttr, IntKind.bits, cb]
  refine By.cutK o1.s0 N l.length sc rfl rfl rfl (by omega) (.inr rfl) ?_
  intro w2 s2
  have hdl : (l.drop N).take (l.length - N) = l.drop N := List.take_of_length_le (by rw [List.length_drop]; omega)
  rw [hdl] at s2
  simp (disch := omega) only [dm_t, wS, simprocAttr, IntKind.bits, cb]
  refine cpyB o1 s2 ?_
  intro g3 o3 f3
  have hob3 : g3 p = some (.cells #[.slice sa l.length sc, .bool true, .bool false] 67) := f3 _ _ hob fun hh => hh.1.2 rfl
  have cb3 : cellAt g3 ⟨p, 0, none⟩ = some (.slice sa l.length sc) := by rw [cellAt_of hob3]; rfl
  have hdn : (l.drop N).length = l.length - N := by rw [List.length_drop]
  have htk : ((l.drop N).take l.length ++ l.drop (l.drop N).length).take (l.length - N) = l.drop N := by
    have h1 : (l.drop N).take l.length = l.drop N := List.take_of_length_le (by omega)
    rw [h1, ← hdn]; exact List.take_left
  simp (disch := omega) only [dm_t, wS, simprocAttr, IntKind.bits, cb3]
  refine slc_pre (l.length - N) (by omega) rfl (by omega) ?_
  simp (disch := omega) only [dm_t, wS, simprocAttr, IntKind.bits, cb3, storeH_0 hob3]
  have o4 := O1.pre (m := l.length - N) o3 (by omega) (by omega)
  rw [← bvs_take, htk] at o4
  have hob4 : hupd g3 p (.cells #[.slice sa (l.length - N) sc, .bool true, .bool false] 67) p = some (.cells #[.slice sa (l.length - N) sc, .bool true, .bool false] 67) := hupd_same _ _ _
  have f4 := Fr.upd (h := g3) (b := p) (S := fun y => y = p) rfl (.cells #[.slice sa (l.length - N) sc, .bool true, .bool false] 67)
  refine ⟨.inl ⟨he, w, _, rfl, OwK.fr (OwK.fr ow1 f3 fun y hy hn => absurd hn (c.al y hy.1.1)) f4 (fun y hy hn => by rw [hy, q] at hn; cases hn), ⟨hob4, OwK.fr o4 f4 (fun y hy hO _ => hO.2 hy), c.dp, fun y hy => ?_⟩⟩, ?_⟩
  · by_cases hyp : y = p
    · rw [hyp, hob4]; simp
    · rw [hupd_ne _ _ hyp]
      by_cases hat : isAt (.slice sa l.length sc) y
      · exact OwK.there o3 hat
      · obtain ⟨o, ho⟩ := Option.ne_none_iff_exists'.1 (al1 y hy)
        rw [f3 _ _ ho fun hh => hat hh.2]; simp
  · intro y o hy hn
    rw [hupd_ne _ _ (fun hh => hn (by rw [hh]; exact c.dp))]
    exact f3 _ _ (f1 _ _ hy hn) fun hh => hn hh.1.1
theorem Left_no {h : H} {v : Value} (c : NoC h v) : Ok Try.prog 24 #[v] h fun v h' => v = .int .i64 0 ∧ h = h' := by
  refine c24_ok (args := [_]) (by simp) ?_
  simp (disch := omega) only [dm_t, wS, simprocAttr, IntKind.bits]
  refine (state_no c).k ?_
  rintro _ _ ⟨rfl, rfl⟩
  simp (disch := omega) only [dm_t, wS, simprocAttr, IntKind.bits]
theorem Left_ok {D : Nat → Prop} {h : H} {p : Nat} {s : Value} {l : List UInt8} {met : Bool} (c : CU D h p s l met) : Ok Try.prog 24 #[.pointer (some ⟨p, 0, none⟩)] h fun v h' => v = .int .i64 (l.length : Int) ∧ h = h' := by
  refine c24_ok (args := [_]) (by simp) ?_
  have q := c.obj
  obtain ⟨sa, sc, rfl⟩ := By.len c.ow.s0
  simp (disch := omega) only [dm_t, wS, simprocAttr, IntKind.bits]
  refine (state_ok c).k ?_
  rintro _ _ ⟨rfl, rfl⟩
  cases met
  · rw [stE, if_neg (by decide)]
    simp (disch := omega) only [dm_t, wS, simprocAttr, IntKind.bits, cellAt_of q]
  · rw [stE, if_pos rfl]
    simp (disch := omega) only [dm_t, wS, simprocAttr, IntKind.bits, cellAt_of q]
theorem Copy_no {h : H} {v : Value} (c : NoC h v) : Ok Try.prog 26 #[v] h fun v h' => v = .pointer none ∧ h = h' := by
  refine c26_ok (args := [_]) (by simp) ?_
  simp (disch := omega) only [dm_t, wS, simprocAttr, IntKind.bits]
  refine (state_no c).k ?_
  rintro _ _ ⟨rfl, rfl⟩
  simp (disch := omega) only [dm_t, wS, simprocAttr, IntKind.bits]
theorem Copy_ok {D : Nat → Prop} {h : H} {p : Nat} {s : Value} {l : List UInt8} {met : Bool} (c : CU D h p s l met) (hl : l.length ≤ 140737488355328) :
    Ok Try.prog 26 #[.pointer (some ⟨p, 0, none⟩)] h fun v h' => ∃ p' s', v = .pointer (some ⟨p', 0, none⟩) ∧ h p' = none ∧ CU (fun y => h y = none ∧ h' y ≠ none) h' p' s' l met ∧ Ext h h' := by
  refine c26_ok (args := [_]) (by simp) ?_
  have q := c.obj
  obtain ⟨sa, sc, rfl⟩ := By.len c.ow.s0
  have l3 : cellsAt h ⟨p, 0, none⟩ 3 = _ := cellsAt_all q 3 rfl
  have tail : vc Try.prog c26_s1 (retQ [2] (okR fun v h' => ∃ p' s', v = .pointer (some ⟨p', 0, none⟩) ∧ h p' = none ∧ CU (fun y => h y = none ∧ h' y ≠ none) h' p' s' l met ∧ Ext h h')) [(0, .pointer (some ⟨p, 0, none⟩))] h := by
    simp (disch := omega) only [dm_t, wS, simprocAttr, IntKind.bits, l3]
    intro p' hp'
    simp (disch := omega) only [dm_t, wS, simprocAttr, IntKind.bits]
    refine (stn_new rfl (by rfl) rfl ?_).2
    generalize hG : hupd h p' _ = g1
    obtain ⟨e1, q1⟩ := new_ext hG hp'
    clear hG
    simp (disch := omega) only [dm_t, wS, simprocAttr, IntKind.bits, cellAt_of (e1.at q)]
    refine (clone_ok (c.ow.s0.ext e1) hl).k ?_
    rintro w g2 ⟨o2, e2⟩
    obtain ⟨wa, wc, rfl⟩ := By.len o2.s0
    have q2 := e2.at q1
    simp (disch := omega) only [dm_t, wS, simprocAttr, IntKind.bits, storeH_0 q2]
    have hob : hupd g2 p' (.cells #[.slice wa l.length wc, .bool true, .bool met] 67) p' = some (.cells #[.slice wa l.length wc, .bool true, .bool met] 67) := hupd_same _ _ _
    have o3 := OwK.fr o2 (Fr.upd (h := g2) (b := p') (S := fun y => y = p') rfl (.cells #[.slice wa l.length wc, .bool true, .bool met] 67)) fun y hy hn => by rw [hy, q1] at hn; cases hn
    refine ⟨p', _, rfl, hp', ⟨hob, OwK.mono o3 fun y o ho hn => ⟨⟨e1.bk hn, by rw [ho]; simp⟩, fun hh => by rw [hh, q1] at hn; cases hn⟩, ⟨hp', by rw [hob]; simp⟩, fun y hy => hy.2⟩, Ext.upd (e1.trans e2) hp'⟩
  simp (disch := omega) only [dm_t, wS, simprocAttr, IntKind.bits]
  refine (state_ok c).k ?_
  rintro _ _ ⟨rfl, rfl⟩
  revert tail
  cases met
  · rw [stE, if_neg (by decide)]
    intro t
    revert t
    simp (disch := omega) only [dm_t, wS, simprocAttr, IntKind.bits]
    exact id
  · rw [stE, if_pos rfl]
    intro t
    revert t
    simp (disch := omega) only [dm_t, wS, simprocAttr, IntKind.bits]
    exact id
/-! ### All answers in one -/
def nB (l : List UInt8) (met : Bool) : List UInt8 := if met = true then [] else if splitE l = 0 then splitB l else []
def nE (l : List UInt8) (met : Bool) : Int := if met = true then 300 else splitE l
def nL (l : List UInt8) (met : Bool) : List UInt8 := if met = true then l else if splitE l = 0 then l.drop (splitN l) else l
def nM (l : List UInt8) (met : Bool) : Bool := if met = true then true else decide (splitE l = 300)
theorem nL_len (l : List UInt8) (met : Bool) : (nL l met).length ≤ l.length := by
  unfold nL
  split
  · omega
  split
  · rw [List.length_drop]; omega
  · omega
theorem nB_len (l : List UInt8) (met : Bool) : (nB l met).length ≤ l.length := by
  unfold nB
  split
  · simp
  split
  · rename_i h
    have := splitB_len h
    omega
  · simp
theorem Next_all {D : Nat → Prop} {h : H} {p : Nat} {s : Value} {l : List UInt8} {met : Bool} (c : CU D h p s l met) (hl : l.length ≤ 140737488355328) :
    Ok Try.prog 23 #[.pointer (some ⟨p, 0, none⟩)] h fun v h' => (∃ w s', v = .tuple #[w, .int .i64 (nE l met)] ∧ OwB (fun y => h y = none) h' 5 w (nB l met) ∧ CU D h' p s' (nL l met) (nM l met)) ∧ Fr D h h' := by
  cases met with
  | true => exact (Next_met c).mono fun v h' ⟨h1, h2⟩ => h2 ▸ ⟨⟨_, _, h1, OwK.nil, c⟩, Fr.refl _ _⟩
  | false =>
      refine (Next_ok c hl).mono ?_
      rintro v h' ⟨h1, h2⟩
      refine ⟨?_, h2⟩
      rcases h1 with ⟨he, w, s', h3, h4, h5⟩ | ⟨he, h1⟩
      · refine ⟨w, s', by rw [h3, nE, if_neg (by decide), he], by rw [nB, if_neg (by decide), if_pos he]; exact h4, ?_⟩
        rw [show nL l false = l.drop (splitN l) from if_pos he, show nM l false = decide (splitE l = 300) from rfl, he]
        exact h5
      · refine ⟨.slice none 0 0, s, by rw [h1.1, nE, if_neg (by decide)], by rw [nB, if_neg (by decide), if_neg he]; exact OwK.nil, ?_⟩
        rw [show nL l false = l from if_neg he, show nM l false = decide (splitE l = 300) from rfl]
        exact h1.2
theorem Put_all {D S : Nat → Prop} {h : H} {p : Nat} {s w : Value} {l m : List UInt8} {met : Bool} (c : CU D h p s l met) (hm : By S h w m) (hl : l.length + m.length ≤ 140737488355328) :
    Ok Try.prog 22 #[.pointer (some ⟨p, 0, none⟩), w] h fun v h' => v = .int .i64 (stE met) ∧ (∃ s', CU (fun y => (D y ∨ h y = none) ∧ h' y ≠ none) h' p s' (if met = true then l else l ++ m) met) ∧ Fr D h h' := by
  cases met with
  | true => exact (Put_met c).mono fun v h' ⟨h1, h2⟩ => h2 ▸ ⟨h1, ⟨s, c.imp (fun y hy => ⟨.inl hy, c.al y hy⟩) fun y hy => hy.2⟩, Fr.refl _ _⟩
  | false => exact (Put_ok c hm hl).mono fun v h' ⟨h1, h2, h3⟩ => ⟨by rw [h1]; rfl, h2, h3⟩
end Go.Proofs.Ytfeaaliocdkonaa.pr
