/-
  proto: what stands while cutters are asked: who owns which block.
-/
import Derived.Test.YtfeaaliocdkonaaQb
import Derived.Test.YtfeaaliocdkonaaPm
namespace Go.Proofs.Ytfeaaliocdkonaa.pr
open Go.Proofs.Ytfeaaliocdkonaa rr wi
set_option linter.unusedVariables false
set_option linter.unusedSimpArgs false
abbrev stT : Ty := .pair (.sl .byte) .bool
theorem rep_st {S : Nat → Prop} {h : H} {cs : List Value} {x : stT.D} : Rep S stT h cs x ↔ ∃ s, cs = [s, .bool x.2] ∧ By S h s x.1 := by
  constructor
  · rintro ⟨_, _, rfl, r1, rfl⟩
    obtain ⟨s, _, rfl, _⟩ := id r1
    exact ⟨s, rfl, repB.1 r1⟩
  · rintro ⟨s, rfl, r1⟩
    exact ⟨[_], [_], rfl, repB.2 r1, rfl⟩
/-- Owners behind a step: new blocks are n's. -/
def stp (own : Nat → Nat) (g g' : H) (n y : Nat) : Nat :=
  match g' y, g y with
  | none, _ => 0
  | some _, none => n
  | some _, some _ => own y
section
variable {own : Nat → Nat} {g g' : H} {n k j y : Nat}
theorem stp_old (h1 : g y ≠ none) (h2 : g' y ≠ none) : stp own g g' n y = own y := by
  obtain ⟨o, ho⟩ := Option.ne_none_iff_exists'.1 h1
  obtain ⟨o2, ho2⟩ := Option.ne_none_iff_exists'.1 h2
  rw [stp, ho, ho2]
theorem stp_new (h1 : g y = none) (h2 : g' y ≠ none) : stp own g g' n y = n := by
  obtain ⟨o2, ho2⟩ := Option.ne_none_iff_exists'.1 h2
  rw [stp, h1, ho2]
theorem stp_al (h : stp own g g' n y ≠ 0) : g' y ≠ none := by
  intro h2
  rw [stp, h2] at h
  exact h rfl
theorem stp_or (h : stp own g g' n y ≠ 0) : own y ≠ 0 ∨ g y = none := by
  by_cases hg : g y = none
  · exact .inr hg
  · rw [stp_old hg (stp_al h)] at h; exact .inl h
theorem cu_stp {p : Nat} {s : Value} {l : List UInt8} {m : Bool} (c : CU (fun y => own y = j) g p s l m) (f : Fr (fun y => own y = k) g g') (hj : j ≠ k) (hj0 : j ≠ 0) : CU (fun y => stp own g g' n y = j) g' p s l m := by
  have c' := c.fr f fun y h1 h2 => hj (h2.symm.trans h1)
  exact c'.imp (fun y hy => by rw [stp_old (c.al y hy) (c'.al y hy)]; exact hy) fun y hy => stp_al (by rw [hy]; exact hj0)
theorem by_stp {s : Value} {l : List UInt8} (r : By (fun y => own y ≠ 0) g s l) (f : Fr (fun y => own y = k) g g') (hk : k ≠ 0) : By (fun y => stp own g g' n y ≠ 0) g' s l := by
  have r1 : By (fun y => own y ≠ 0 ∨ g y = none) g s l := SlK.mono r fun x o ho hx => hx.elim id fun hx => by rw [hx] at ho; cases ho
  have r2 := SlK.fr r1 f fun y hy => .inl (by rw [hy]; exact hk)
  exact SlK.mono r2 fun x o ho hx => stp_or hx
theorem owk_stp {kk : Nat} {E : TypeId} {v : Value} {rows : List (List Value)} (r : OwK kk (fun y => own y = j) g E v rows) (hal : ∀ y, own y ≠ 0 → g y ≠ none) (f : Fr (fun y => own y = k) g g') (hj : j ≠ k) (hj0 : j ≠ 0) : OwK kk (fun y => stp own g g' n y = j) g' E v rows := by
  have r' := OwK.fr r f fun y h1 h2 _ => hj (h2.symm.trans h1)
  exact OwK.mono r' fun x o ho hx => by rw [stp_old (hal x (by rw [hx]; exact hj0)) (by rw [ho]; simp)]; exact hx
theorem owl_stp {t : Ty} {E : TypeId} {v : Value} {xs : List t.D} (r : OwL (fun y => own y ≠ 0) t (fun y => own y = j) g E v xs) (hal : ∀ y, own y ≠ 0 → g y ≠ none) (f : Fr (fun y => own y = k) g g') (hj : j ≠ k) (hj0 : j ≠ 0) (hk : k ≠ 0) :
    OwL (fun y => stp own g g' n y ≠ 0) t (fun y => stp own g g' n y = j) g' E v xs := by
  have r1 := OwL.avoid r
  have r2 := OwL.fr r1 f (fun y hy => .inl (by rw [hy]; exact hk)) fun y h1 h2 _ => hj (h2.symm.trans h1)
  have r3 := OwL.subS (S' := fun y => stp own g g' n y ≠ 0) r2 fun y hy => stp_or hy
  exact OwL.mono r3 fun x o ho hx => by rw [stp_old (hal x (by rw [hx]; exact hj0)) (by rw [ho]; simp)]; exact hx
end
/-- The cutter now, the stream now, those put aside. -/
structure KS (own : Nat → Nat) (h g : H) (pc wb : Nat) (lc : List UInt8) (mc : Bool) (ls : List UInt8) (ms : Bool) (vo vw : Value) (po : List Nat) (ws : List stT.D) (os : List (Nat × stT.D)) : Prop where
  cur : ∃ s, CU (fun y => own y = 1) g pc s lc mc
  old : O1 (fun y => own y = 2) g 48 vo (po.map fun p => .pointer (some ⟨p, 0, none⟩))
  was : OwL (fun y => own y ≠ 0) stT (fun y => own y = 3) g 61 vw ws
  w4 : own wb = 4
  st : ∃ s, g wb = some (.cells #[s, .bool ms] 61) ∧ By (fun y => own y ≠ 0) g s ls
  olds : ∀ i (hi : i < os.length), ∃ s, CU (fun y => own y = i + 7) g (os[i]).1 s (os[i]).2.1 (os[i]).2.2
  hown : ∀ y, own y ≠ 0 → h y = none ∧ g y ≠ none
  E : Ext h g
section
variable {own : Nat → Nat} {h g g' : H} {pc wb k n : Nat} {lc ls : List UInt8} {mc ms : Bool} {vo vw : Value} {po : List Nat} {ws : List stT.D} {os : List (Nat × stT.D)}
theorem KS.hn (K : KS own h g pc wb lc mc ls ms vo vw po ws os) (f : Fr (fun y => own y = k) g g') (hk : k ≠ 0) : ∀ y, stp own g g' n y ≠ 0 → h y = none ∧ g' y ≠ none := by
  intro y hy
  refine ⟨?_, stp_al hy⟩
  rcases stp_or hy with h1 | h1
  · exact (K.hown y h1).1
  · exact K.E.bk h1
theorem KS.e (K : KS own h g pc wb lc mc ls ms vo vw po ws os) (f : Fr (fun y => own y = k) g g') (hk : k ≠ 0) : Ext h g' := Ext.step' K.E f fun y hy => (K.hown y (by rw [hy]; exact hk)).1
theorem KS.al (K : KS own h g pc wb lc mc ls ms vo vw po ws os) : ∀ y, own y ≠ 0 → g y ≠ none := fun y hy => (K.hown y hy).2
theorem KS.w4' (K : KS own h g pc wb lc mc ls ms vo vw po ws os) (hw : g' wb ≠ none) : stp own g g' n wb = 4 := by
  rw [stp_old (K.al wb (by rw [K.w4]; decide)) hw]; exact K.w4
theorem KS.st' (K : KS own h g pc wb lc mc ls ms vo vw po ws os) (f : Fr (fun y => own y = k) g g') (hk : k ≠ 0) (hk4 : 4 ≠ k) : stp own g g' n wb = 4 ∧ ∃ s, g' wb = some (.cells #[s, .bool ms] 61) ∧ By (fun y => stp own g g' n y ≠ 0) g' s ls := by
  obtain ⟨s, q, r⟩ := K.st
  have q' := f _ _ q fun hh => hk4 (by rw [← hh]; exact K.w4.symm)
  exact ⟨K.w4' (by rw [q']; simp), s, q', by_stp r f hk⟩
/-- Nothing of it is touched. -/
theorem KS.base (K : KS own h g pc wb lc mc ls ms vo vw po ws os) (f : Fr (fun y => own y = 6) g g') (n : Nat) : KS (stp own g g' n) h g' pc wb lc mc ls ms vo vw po ws os := by
  obtain ⟨w4, st⟩ := K.st' (n := n) f (by decide) (by decide)
  obtain ⟨s, c⟩ := K.cur
  exact ⟨⟨s, cu_stp c f (by decide) (by decide)⟩, owk_stp K.old K.al f (by decide) (by decide), owl_stp K.was K.al f (by decide) (by decide) (by decide), w4, st,
    fun i hi => by obtain ⟨s, c⟩ := K.olds i hi; exact ⟨s, cu_stp c f (by omega) (by omega)⟩, K.hn f (by decide), K.e f (by decide)⟩
/-- The cutter has changed. -/
theorem KS.cu (K : KS own h g pc wb lc mc ls ms vo vw po ws os) (f : Fr (fun y => own y = 1) g g') (n : Nat) {lc' : List UInt8} {mc' : Bool} {s' : Value} (c' : CU (fun y => stp own g g' n y = 1) g' pc s' lc' mc') : KS (stp own g g' n) h g' pc wb lc' mc' ls ms vo vw po ws os := by
  obtain ⟨w4, st⟩ := K.st' (n := n) f (by decide) (by decide)
  exact ⟨⟨s', c'⟩, owk_stp K.old K.al f (by decide) (by decide), owl_stp K.was K.al f (by decide) (by decide) (by decide), w4, st,
    fun i hi => by obtain ⟨s, c⟩ := K.olds i hi; exact ⟨s, cu_stp c f (by omega) (by omega)⟩, K.hn f (by decide), K.e f (by decide)⟩
/-- The stream has changed. -/
theorem KS.sm (K : KS own h g pc wb lc mc ls ms vo vw po ws os) (f : Fr (fun y => own y = 4) g g') (n : Nat) {ls' : List UInt8} {ms' : Bool} {s' : Value} (q : g' wb = some (.cells #[s', .bool ms'] 61)) (r : By (fun y => stp own g g' n y ≠ 0) g' s' ls') :
    KS (stp own g g' n) h g' pc wb lc mc ls' ms' vo vw po ws os := by
  obtain ⟨s, c⟩ := K.cur
  exact ⟨⟨s, cu_stp c f (by decide) (by decide)⟩, owk_stp K.old K.al f (by decide) (by decide), owl_stp K.was K.al f (by decide) (by decide) (by decide), K.w4' (by rw [q]; simp), ⟨s', q, r⟩,
    fun i hi => by obtain ⟨s, c⟩ := K.olds i hi; exact ⟨s, cu_stp c f (by omega) (by omega)⟩, K.hn f (by decide), K.e f (by decide)⟩
/-- One more is put aside: its place. -/
theorem KS.pput (K : KS own h g pc wb lc mc ls ms vo vw po ws os) (f : Fr (fun y => own y = 2) g g') {vo' : Value} {po' : List Nat} (o : O1 (fun y => stp own g g' 2 y = 2) g' 48 vo' (po'.map fun p => .pointer (some ⟨p, 0, none⟩))) :
    KS (stp own g g' 2) h g' pc wb lc mc ls ms vo' vw po' ws os := by
  obtain ⟨w4, st⟩ := K.st' (n := 2) f (by decide) (by decide)
  obtain ⟨s, c⟩ := K.cur
  exact ⟨⟨s, cu_stp c f (by decide) (by decide)⟩, o, owl_stp K.was K.al f (by decide) (by decide) (by decide), w4, st,
    fun i hi => by obtain ⟨s, c⟩ := K.olds i hi; exact ⟨s, cu_stp c f (by omega) (by omega)⟩, K.hn f (by decide), K.e f (by decide)⟩
theorem KS.wput (K : KS own h g pc wb lc mc ls ms vo vw po ws os) (f : Fr (fun y => own y = 3) g g') {n : Nat} {vw' : Value} {ws' : List stT.D} (o : OwL (fun y => stp own g g' n y ≠ 0) stT (fun y => stp own g g' n y = 3) g' 61 vw' ws') :
    KS (stp own g g' n) h g' pc wb lc mc ls ms vo vw' po ws' os := by
  obtain ⟨w4, st⟩ := K.st' (n := n) f (by decide) (by decide)
  obtain ⟨s, c⟩ := K.cur
  exact ⟨⟨s, cu_stp c f (by decide) (by decide)⟩, owk_stp K.old K.al f (by decide) (by decide), o, w4, st,
    fun i hi => by obtain ⟨s, c⟩ := K.olds i hi; exact ⟨s, cu_stp c f (by omega) (by omega)⟩, K.hn f (by decide), K.e f (by decide)⟩
/-- One that was put aside has changed. -/
theorem KS.ol (K : KS own h g pc wb lc mc ls ms vo vw po ws os) {i : Nat} (hi : i < os.length) (f : Fr (fun y => own y = i + 7) g g') (n : Nat) {x' : stT.D} {s' : Value} (c' : CU (fun y => stp own g g' n y = i + 7) g' (os[i]).1 s' x'.1 x'.2) :
    KS (stp own g g' n) h g' pc wb lc mc ls ms vo vw po ws (os.set i ((os[i]).1, x')) := by
  obtain ⟨w4, st⟩ := K.st' (n := n) f (by omega) (by omega)
  obtain ⟨s, c⟩ := K.cur
  refine ⟨⟨s, cu_stp c f (by omega) (by omega)⟩, owk_stp K.old K.al f (by omega) (by omega), owl_stp K.was K.al f (by omega) (by omega) (by omega), w4, st, ?_, K.hn f (by omega), K.e f (by omega)⟩
  intro j hj
  rw [List.length_set] at hj
  rw [List.getElem_set]
  by_cases hij : i = j
  · subst hij
    rw [if_pos rfl]
    exact ⟨s', c'⟩
  · rw [if_neg hij]
    obtain ⟨s, c⟩ := K.olds j hj
    exact ⟨s, cu_stp c f (by omega) (by omega)⟩
/-- The cutter is put aside, and another one goes on. -/
theorem KS.copied (K : KS own h g pc wb lc mc ls ms vo vw po ws os) (e : Ext g g') {p' : Nat} {s' : Value} (c' : CU (fun y => g y = none ∧ g' y ≠ none) g' p' s' lc mc) :
    KS (stp (fun y => if own y = 1 then os.length + 7 else own y) g g' 1) h g' p' wb lc mc ls ms vo vw po ws (os ++ [(pc, lc, mc)]) := by
  obtain ⟨s0, c0⟩ := K.cur
  obtain ⟨sw, qw, rw'⟩ := K.st
  have hal : ∀ y, (fun y => if own y = 1 then os.length + 7 else own y) y ≠ 0 → g y ≠ none := fun y hy => by
    by_cases h1 : own y = 1
    · exact K.al y (by rw [h1]; decide)
    · simp only [if_neg h1] at hy; exact K.al y hy
  have hne : ∀ y, (if own y = 1 then os.length + 7 else own y) ≠ 0 → own y ≠ 0 := fun y hy => by
    by_cases h1 : own y = 1
    · rw [h1]; decide
    · rw [if_neg h1] at hy; exact hy
  have f : Fr (fun y => (fun y => if own y = 1 then os.length + 7 else own y) y = 6) g g' := e.mono fun _ h => h.elim
  refine ⟨⟨s', c'.imp (fun y hy => stp_new hy.1 hy.2) fun y hy => stp_al (by rw [hy]; decide)⟩, ?_, ?_, ?_, ?_, ?_, ?_, K.E.trans e⟩
  · refine owk_stp (OwK.mono K.old fun x o ho hx => ?_) hal f (by decide) (by decide)
    rw [if_neg (by rw [hx]; decide)]; exact hx
  · refine owl_stp (OwL.mono (OwL.subS K.was fun y hy => hne y hy) fun x o ho hx => ?_) hal f (by decide) (by decide) (by decide)
    rw [if_neg (by rw [hx]; decide)]; exact hx
  · rw [stp_old (K.al wb (by rw [K.w4]; decide)) (by rw [e.at qw]; simp), if_neg (by rw [K.w4]; decide)]; exact K.w4
  · exact ⟨sw, e.at qw, by_stp (SlK.mono rw' fun x o ho hx => hne x hx) f (by decide)⟩
  · intro i hi
    by_cases hil : i < os.length
    · rw [List.getElem_append_left hil]
      obtain ⟨s, c⟩ := K.olds i hil
      refine ⟨s, cu_stp (c.imp (fun y hy => ?_) fun y hy => hal y (by show (if own y = 1 then os.length + 7 else own y) ≠ 0; rw [hy]; omega)) f (by omega) (by omega)⟩
      rw [if_neg (by omega)]; exact hy
    · have : i = os.length := by rw [List.length_append, List.length_cons, List.length_nil] at hi; omega
      subst this
      have hg : (os ++ [(pc, lc, mc)])[os.length] = (pc, lc, mc) := by simp
      rw [hg]
      refine ⟨s0, cu_stp (c0.imp (fun y hy => ?_) fun y hy => hal y (by show (if own y = 1 then os.length + 7 else own y) ≠ 0; rw [hy]; omega)) f (by omega) (by omega)⟩
      rw [if_pos hy]
  · intro y hy
    refine ⟨?_, stp_al hy⟩
    rcases stp_or hy with h1 | h1
    · exact (K.hown y (hne y h1)).1
    · exact K.E.bk h1
end
/-! ### The document's stream -/
theorem DNext_ok {S : Nat → Prop} {h : H} {wb : Nat} {s : Value} {l : List UInt8} {met : Bool} (q : h wb = some (.cells #[s, .bool met] 61)) (hs : By S h s l) (hS : S wb) (hl : l.length ≤ 140737488355328) :
    Ok Try.prog 25 #[.pointer (some ⟨wb, 0, none⟩)] h fun v h' => (∃ w s', v = .tuple #[w, .int .i64 (nE l met)] ∧ By S h' w (nB l met) ∧ h' wb = some (.cells #[s', .bool (nM l met)] 61) ∧ By S h' s' (nL l met)) ∧ Fr (fun y => y = wb) h h' := by
  refine c25_ok (args := [_]) (by simp) ?_
  obtain ⟨sa, sc, rfl⟩ := hs.len
  cases met with
  | true =>
    simp (disch := omega) only [dm_t, wS, simprocAttr, IntKind.bits, cellAt_of q]
    exact ⟨⟨.slice none 0 0, .slice sa l.length sc, rfl, by rw [nB, if_pos rfl]; exact By.nil, q, hs⟩, Fr.refl _ _⟩
  | false =>
    simp (disch := omega) only [dm_t, wS, simprocAttr, IntKind.bits, cellAt_of q]
    refine (DSplit_ok hs hl).k ?_
    rintro _ _ ⟨hsp, rfl⟩
    rcases hsp with ⟨he, w, rfl, sw⟩ | ⟨he, rfl⟩
    · obtain ⟨_, hN, _, _⟩ := splitB_len he
      have hcc := (SlK.cap hs).2.2
      rw [one_len, bvs_len] at hcc
      have f1 := Fr.upd (h := h) (b := wb) (S := fun y => y = wb) rfl (.cells #[.slice sa l.length sc, .bool false] 61)
      have q1 : hupd h wb (.cells #[.slice sa l.length sc, .bool false] 61) wb = some (.cells #[.slice sa l.length sc, .bool false] 61) := hupd_same _ _ _
      simp (disch := omega) only [dm_t, wS, simprocAttr, IntKind.bits, storeH_0 q]
      have hs1 := SlK.fr hs f1 fun y hy => by rw [hy]; exact hS
      have sw1 := SlK.fr sw f1 fun y hy => by rw [hy]; exact hS
      generalize hupd h wb (.cells #[.slice sa l.length sc, .bool false] 61) = g at f1 q1 hs1 sw1 ⊢
      simp (disch := omega) only [dm_t, wS, simprocAttr, IntKind.bits, cellAt_of q1]
      refine By.cutK hs1 (splitN l) l.length sc rfl rfl rfl (by omega) (.inr rfl) ?_
      intro w2 s2
      have hdl : (l.drop (splitN l)).take (l.length - splitN l) = l.drop (splitN l) := List.take_of_length_le (by rw [List.length_drop]; omega)
      rw [hdl] at s2
      obtain ⟨wa2, wc2, rfl⟩ := By.len s2
      simp (disch := omega) only [dm_t, wS, simprocAttr, IntKind.bits, storeH_0 q1]
      have f2 := Fr.upd (h := g) (b := wb) (S := fun y => y = wb) rfl (.cells #[.slice wa2 (l.drop (splitN l)).length wc2, .bool false] 61)
      refine ⟨⟨w, _, by rw [nE, if_neg (by decide), he], ?_, by rw [nM, if_neg (by decide), he]; exact hupd_same _ _ _, ?_⟩, f1.trans f2⟩
      · rw [nB, if_neg (by decide), if_pos he]; exact SlK.fr sw1 f2 fun y hy => by rw [hy]; exact hS
      · rw [nL, if_neg (by decide), if_pos he]; exact SlK.fr s2 f2 fun y hy => by rw [hy]; exact hS
    · simp (disch := omega) only [dm_t, wS, simprocAttr, IntKind.bits, storeH_0 q]
      refine ⟨⟨.slice none 0 0, _, by rw [nE, if_neg (by decide)], by rw [nB, if_neg (by decide), if_neg he]; exact By.nil, by rw [nM, if_neg (by decide)]; exact hupd_same _ _ _, ?_⟩, Fr.upd (S := fun y => y = wb) rfl _⟩
      rw [nL, if_neg (by decide), if_neg he]
      exact SlK.fr hs (Fr.upd (S := fun y => y = wb) rfl _) fun y hy => by rw [hy]; exact hS
end Go.Proofs.Ytfeaaliocdkonaa.pr
