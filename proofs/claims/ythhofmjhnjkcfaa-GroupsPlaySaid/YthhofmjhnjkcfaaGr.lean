/-
  groups: what folding makes, told by the last record of each key. (Plain.)
-/
import Derived.Test.YthhofmjhnjkcfaaGm
namespace Go.Proofs.Ythhofmjhnjkcfaa.gr
open Go.Proofs.Ythhofmjhnjkcfaa wi
open Go.Proofs.Ythhofmjhnjkcfaa.so (kLt k_irr k_tr k_asy k_tot k_ntr)
set_option linter.unusedVariables false
set_option linter.unusedSimpArgs false
theorem rdE_of {x : rc.D} (h : rdE x = 0) : mayP (rdP x) = true := by
  have hx := rdOk.rd h
  rw [rdP, if_pos hx]; exact hx.2.2.2
theorem rdS_of {x : rc.D} (h : rdS x = true) : rdE x = 0 := by
  rw [rdS, Bool.and_eq_true, decide_eq_true_eq] at h
  exact if_pos h.1
/-- One key's bytes, one key. -/
theorem key_same {x y : rc.D} (hx : rdE x = 0) (hy : rdE y = 0) : key (rdP x) = key (rdP y) ↔ x.2.1 = y.2.1 := by
  have ox := rdOk.rd hx
  have oy := rdOk.rd hy
  rw [rdP, rdP, if_pos ox, if_pos oy]
  simp only [key, rdQ, Prod.mk.injEq]
  constructor
  · rintro ⟨h1, h2⟩
    obtain ⟨a1, a2, -, -⟩ := ox
    obtain ⟨b1, b2, -, -⟩ := oy
    have hlx : (x.2.1.take (x.2.1.length - 3)).length = x.2.1.length - 3 := by rw [List.length_take]; omega
    have hly : (y.2.1.take (y.2.1.length - 3)).length = y.2.1.length - 3 := by rw [List.length_take]; omega
    have hl : x.2.1.length = y.2.1.length := by rw [h1] at hlx; omega
    have hd : x.2.1.drop (x.2.1.length - 3 + 1) = y.2.1.drop (y.2.1.length - 3 + 1) := num_inj (by rw [List.length_drop, List.length_drop]; omega) (by omega)
    have sp : ∀ (l : List UInt8) (n : Nat), l[n]? = some 0 → l = l.take n ++ (0 :: l.drop (n + 1)) := by
      intro l n h
      obtain ⟨hn, he⟩ := List.getElem?_eq_some_iff.1 h
      rw [← he, ← List.drop_eq_getElem_cons hn, List.take_append_drop]
    rw [sp _ _ a2, sp _ _ b2, h1, hd]
  · intro h; rw [h]; exact ⟨rfl, rfl⟩
/-- One record folded in, where there is room. -/
def stp (L : List Pl) (x : rc.D) : List Pl := if rdE x ≠ 0 then L else if rdS x = false then delP (key (rdP x)) L else setP (rdP x) L
theorem stp_len {L : List Pl} (s : L.Pairwise lp) (x : rc.D) : (stp L x).length ≤ L.length + 1 := by
  unfold stp
  split
  · omega
  · split
    · rw [delP_filter s]; have := List.length_filter_le (fun y => !decide (key (rdP x) = key y)) L; omega
    · rw [setP_len _ s]; split <;> omega
theorem stp_srt {L : List Pl} (s : L.Pairwise lp) (x : rc.D) : (stp L x).Pairwise lp := by
  unfold stp
  split
  · exact s
  · split
    · exact delP_srt s
    · exact setP_srt s
theorem fnd_eq {k : Ky} {L : List Pl} (u : Uq L) {o : Option Pl} (h : ∀ x, o = some x → x ∈ L ∧ key x = k) (h2 : o = none → ∀ x ∈ L, key x ≠ k) : fnd k L = o := by
  cases o with
  | none => exact fnd_none.2 (h2 rfl)
  | some x => exact fnd_mem u (h x rfl).1 (h x rfl).2
theorem fnd_setP {k : Ky} {p : Pl} : ∀ {L : List Pl}, L.Pairwise lp → fnd k (setP p L) = if k = key p then some p else fnd k L
  | [], _ => by simp only [setP, fnd]
  | x :: r, s => by
    obtain ⟨s1, s2⟩ := List.pairwise_cons.1 s
    rw [setP]
    by_cases h : key p = key x
    · rw [if_pos h, fnd, fnd]
      by_cases hk : k = key p
      · rw [if_pos hk, if_pos hk]
      · rw [if_neg hk, if_neg hk, if_neg (by rw [← h]; exact hk)]
    · rw [if_neg h]
      split
      · rw [fnd, fnd]
      · rw [fnd, fnd, fnd_setP s2]
        by_cases hk : k = key p
        · subst hk
          rw [if_neg h, if_pos rfl, if_pos rfl]
        · rw [if_neg hk, if_neg hk]
theorem fnd_delP {k j : Ky} {L : List Pl} (s : L.Pairwise lp) : fnd k (delP j L) = if k = j then none else fnd k L := by
  refine fnd_eq (uq_of (delP_srt s)) ?_ ?_
  · intro x hx
    split at hx
    · cases hx
    · rename_i hk
      obtain ⟨h1, h2⟩ := fnd_some hx
      refine ⟨?_, h2⟩
      rw [delP_filter s, List.mem_filter]
      exact ⟨h1, by simp only [Bool.not_eq_true', decide_eq_false_iff_not]; rw [h2]; exact fun e => hk e.symm⟩
  · intro hn x hx e
    obtain ⟨h1, h2⟩ := mem_delP s hx
    split at hn
    · rename_i hk; exact h2 (e.trans hk)
    · exact fnd_none.1 hn x h1 e
/-- Told by keys. -/
theorem same_fnd : ∀ {L M : List Pl}, L.Pairwise lp → M.Pairwise lp → (∀ k, fnd k L = fnd k M) → L = M
  | [], [], _, _, _ => rfl
  | [], y :: t, _, _, h => by have := h (key y); rw [fnd, fnd, if_pos rfl] at this; cases this
  | x :: r, [], _, _, h => by have := h (key x); rw [fnd, fnd, if_pos rfl] at this; cases this
  | x :: r, y :: t, s, u, h => by
    obtain ⟨s1, s2⟩ := List.pairwise_cons.1 s
    obtain ⟨u1, u2⟩ := List.pairwise_cons.1 u
    have lx : ∀ z ∈ x :: r, z = x ∨ kLt (key x) (key z) := fun z hz => by
      rcases List.mem_cons.1 hz with h | h
      · exact .inl h
      · exact .inr (s1 z h)
    have ly : ∀ z ∈ y :: t, z = y ∨ kLt (key y) (key z) := fun z hz => by
      rcases List.mem_cons.1 hz with h | h
      · exact .inl h
      · exact .inr (u1 z h)
    have hx := h (key x)
    rw [fnd, if_pos rfl] at hx
    have hy := h (key y)
    rw [show fnd (key y) (y :: t) = some y by rw [fnd, if_pos rfl]] at hy
    obtain ⟨hy1, _⟩ := fnd_some hy
    obtain ⟨hx1, _⟩ := fnd_some hx.symm
    have hxy : x = y := by
      rcases lx y hy1 with h1 | h1
      · exact h1.symm
      · rcases ly x hx1 with h2 | h2
        · exact h2
        · exact absurd h2 (k_asy h1)
    subst hxy
    rw [same_fnd s2 u2 fun k => ?_]
    by_cases hk : k = key x
    · subst hk
      rw [fnd_none.2 fun z hz e => ?_, fnd_none.2 fun z hz e => ?_]
      · have := u1 z hz; unfold lp at this; rw [e] at this; exact k_irr _ this
      · have := s1 z hz; unfold lp at this; rw [e] at this; exact k_irr _ this
    · have := h k
      rwa [fnd, fnd, if_neg hk, if_neg hk] at this
/-- What the last record of a key k says. -/
def lst (k : Ky) : List rc.D → Option (Option Pl)
  | [] => none
  | x :: r => match lst k r with
    | some o => some o
    | none => if rdE x = 0 ∧ key (rdP x) = k then some (if rdS x = false then none else some (rdP x)) else none
theorem fnd_stp {k : Ky} {L : List Pl} (s : L.Pairwise lp) (x : rc.D) : fnd k (stp L x) = if rdE x = 0 ∧ key (rdP x) = k then (if rdS x = false then none else some (rdP x)) else fnd k L := by
  unfold stp
  by_cases he : rdE x = 0
  · rw [if_neg (by simp [he])]
    cases hs : rdS x with
    | false =>
      rw [if_pos rfl, fnd_delP s]
      by_cases hk : key (rdP x) = k
      · rw [if_pos hk.symm, if_pos ⟨he, hk⟩, if_pos rfl]
      · rw [if_neg (fun e => hk e.symm), if_neg (fun e => hk e.2)]
    | true =>
      rw [if_neg (by simp), fnd_setP s]
      by_cases hk : key (rdP x) = k
      · rw [if_pos hk.symm, if_pos ⟨he, hk⟩, if_neg (by simp)]
      · rw [if_neg (fun e => hk e.symm), if_neg (fun e => hk e.2)]
  · rw [if_pos he, if_neg (fun e => he e.1)]
theorem fold_srt {l : List rc.D} : ∀ {L : List Pl}, L.Pairwise lp → (l.foldl stp L).Pairwise lp := by
  induction l with
  | nil => intro L s; exact s
  | cons x r ih => intro L s; exact ih (stp_srt s x)
theorem fnd_fold {k : Ky} {l : List rc.D} : ∀ {L : List Pl}, L.Pairwise lp → fnd k (l.foldl stp L) = (lst k l).getD (fnd k L) := by
  induction l with
  | nil => intro L s; rfl
  | cons x r ih =>
    intro L s
    rw [List.foldl_cons, ih (stp_srt s x), lst]
    cases lst k r with
    | some o => rfl
    | none =>
      rw [fnd_stp s]
      simp only [Option.getD_none]
      split <;> rfl
/-- Folding, where there is room for all. -/
theorem foldG_eq {l : List rc.D} : ∀ {L : List Pl} (n : Nat), L.Pairwise lp → L.length + l.length ≤ 4096 → foldG L l n = (l.foldl stp L, n + l.length, 0) := by
  induction l with
  | nil => intro L n s h; rfl
  | cons x r ih =>
    intro L n s h
    rw [List.length_cons] at h
    rw [foldG, List.foldl_cons, List.length_cons]
    have hl := stp_len s x
    by_cases he : rdE x = 0
    · rw [if_neg (by simp [he])]
      cases hs : rdS x with
      | false =>
        rw [if_pos rfl]
        have hL : letR L (key (rdP x)) = stp L x := by
          rw [stp, if_neg (by simp [he]), if_pos hs, letR, letE]
          have hm := mayP_iff.1 (rdE_of he)
          by_cases hf : (fnd (key (rdP x)) L).isSome = true
          · by_cases hg : (grp (key (rdP x)).1 && prt (key (rdP x)).2) = true
            · rw [if_pos hg, if_pos hf, if_pos rfl]
            · exfalso; exact hg (by
                have h1 := rdE_of he
                rw [mayP, Bool.and_eq_true, Bool.and_eq_true] at h1
                exact h1.1.1)
          · have hn : delP (key (rdP x)) L = L := by
              rw [delP_filter s, List.filter_eq_self]
              intro y hy
              simp only [Bool.not_eq_true', decide_eq_false_iff_not]
              intro e
              have : fnd (key (rdP x)) L = none := by simpa using hf
              exact fnd_none.1 this y hy e.symm
            rw [hn]
            split
            · rfl
            · rfl
        rw [hL, ih (n + 1) (stp_srt s x) (by omega)]
        rw [show n + 1 + r.length = n + (r.length + 1) by omega]
      | true =>
        rw [if_neg (by simp)]
        have hE : setE L (rdP x) = 0 := by
          rw [setE, if_pos (rdE_of he), if_neg]
          rintro ⟨_, h2⟩; omega
        have hR : setR L (rdP x) = stp L x := by rw [setR, if_pos hE, stp, if_neg (by simp [he]), if_neg (by simp [hs])]
        rw [if_pos hE, hR, ih (n + 1) (stp_srt s x) (by omega)]
        rw [show n + 1 + r.length = n + (r.length + 1) by omega]
    · rw [if_pos he]
      have hL : stp L x = L := by rw [stp, if_pos he]
      rw [hL, ih (n + 1) s (by omega)]
      rw [show n + 1 + r.length = n + (r.length + 1) by omega]
/-! ### The last ones -/
/-- Has one of these that key, and a place? -/
def beh (x : rc.D) (r : List rc.D) : Bool := r.any fun y => decide (x.2.1 = y.2.1) && decide (rdE y = 0)
def kp : List rc.D → List rc.D
  | [] => []
  | x :: r => if beh x r = true then kp r else x :: kp r
theorem lst_none {k : Ky} {r : List rc.D} : lst k r = none ↔ ∀ y ∈ r, ¬ (rdE y = 0 ∧ key (rdP y) = k) := by
  induction r with
  | nil => simp [lst]
  | cons y t ih =>
    rw [lst]
    cases hl : lst k t with
    | some o =>
      simp only [reduceCtorEq, false_iff]
      intro h
      have : lst k t = none := ih.2 fun z hz => h z (by simp [hz])
      rw [hl] at this; cases this
    | none =>
      have h1 := ih.1 hl
      simp only
      constructor
      · intro h z hz
        rcases List.mem_cons.1 hz with rfl | hz
        · intro hh; rw [if_pos hh] at h; cases h
        · exact h1 z hz
      · intro h; rw [if_neg (h y (by simp))]
theorem lst_kp (k : Ky) : ∀ (l : List rc.D), lst k (kp l) = lst k l
  | [] => rfl
  | x :: r => by
    rw [kp]
    have ih := lst_kp k r
    by_cases hb : beh x r = true
    · rw [if_pos hb, ih, lst]
      cases hl : lst k r with
      | some o => rfl
      | none =>
        simp only
        rw [if_neg]
        rintro ⟨h1, h2⟩
        obtain ⟨y, hy, hyy⟩ := List.any_eq_true.1 hb
        simp only [Bool.and_eq_true, decide_eq_true_eq] at hyy
        refine lst_none.1 hl y hy ⟨hyy.2, ?_⟩
        rw [← h2]
        exact ((key_same h1 hyy.2).2 hyy.1).symm
    · rw [if_neg hb, lst, lst, ih]
theorem kp_len (l : List rc.D) : (kp l).length ≤ l.length := by
  induction l with
  | nil => simp [kp]
  | cons x r ih => rw [kp]; split <;> simp <;> omega
theorem kp_mem {l : List rc.D} {x : rc.D} (h : x ∈ kp l) : x ∈ l := by
  induction l with
  | nil => simp [kp] at h
  | cons y r ih =>
    rw [kp] at h
    split at h
    · simp [ih h]
    · rcases List.mem_cons.1 h with h | h
      · simp [h]
      · simp [ih h]
theorem lst_at {l : List rc.D} {x : rc.D} (h : x ∈ kp l) (he : rdE x = 0) : lst (key (rdP x)) l = some (if rdS x = false then none else some (rdP x)) := by
  induction l with
  | nil => simp [kp] at h
  | cons y r ih =>
    rw [kp] at h
    have nxt : x ∈ kp r → lst (key (rdP x)) (y :: r) = some (if rdS x = false then none else some (rdP x)) := fun hx => by
      rw [lst, ih hx]
    by_cases hb : beh y r = true
    · rw [if_pos hb] at h; exact nxt h
    · rw [if_neg hb] at h
      rcases List.mem_cons.1 h with rfl | h
      · have hn : lst (key (rdP x)) r = none := lst_none.2 fun z hz hh => by
          refine hb (List.any_eq_true.2 ⟨z, hz, ?_⟩)
          simp only [Bool.and_eq_true, decide_eq_true_eq]
          exact ⟨((key_same he hh.1).1 hh.2.symm), hh.1⟩
        rw [lst, hn]
        show (if rdE x = 0 ∧ key (rdP x) = key (rdP x) then _ else none) = _
        rw [if_pos ⟨he, rfl⟩]
      · exact nxt h
/-- THE THEOREM: the last ones make the same. -/
theorem fold_kp (l : List rc.D) : (kp l).foldl stp [] = l.foldl stp [] :=
  same_fnd (fold_srt List.Pairwise.nil) (fold_srt List.Pairwise.nil) fun k => by
    rw [fnd_fold List.Pairwise.nil, fnd_fold List.Pairwise.nil, lst_kp]
theorem lst_recs {k : Ky} {L : List Pl} (s : L.Pairwise lp) (hm : ∀ p ∈ L, mayP p = true) : lst k (L.map recP) = (fnd k L).map some := by
  induction L with
  | nil => rfl
  | cons p r ih =>
    obtain ⟨s1, s2⟩ := List.pairwise_cons.1 s
    obtain ⟨h1, h2, h3⟩ := rdP_rec (hm p (by simp))
    rw [List.map_cons, lst, ih s2 fun q hq => hm q (by simp [hq]), fnd, h1, h2, h3]
    by_cases hk : k = key p
    · subst hk
      have : fnd (key p) r = none := fnd_none.2 fun y hy e => by
        have := s1 y hy
        unfold lp at this
        rw [e] at this
        exact k_irr _ this
      rw [this, if_pos rfl]
      simp
    · rw [if_neg hk]
      cases fnd k r with
      | some o => rfl
      | none =>
        simp only [Option.map_none]
        rw [if_neg fun e => hk e.2.symm]
/-- Its records make the same again. -/
theorem fold_recs {L : List Pl} (s : L.Pairwise lp) (hm : ∀ p ∈ L, mayP p = true) : (L.map recP).foldl stp [] = L :=
  same_fnd (fold_srt List.Pairwise.nil) s fun k => by
    rw [fnd_fold List.Pairwise.nil, lst_recs s hm]
    cases fnd k L <;> rfl
end Go.Proofs.Ythhofmjhnjkcfaa.gr
namespace Go.Proofs.Ythhofmjhnjkcfaa.gr
open Go.Proofs.Ythhofmjhnjkcfaa wi
set_option linter.unusedVariables false
set_option linter.unusedSimpArgs false
theorem pl_at {S : Nat → Prop} {h : H} {v : Value} {L : List Pl} (p : SlK 4 S h v (L.map pCs)) {i : Nat} (hi : i < L.length) : ∃ b o, idxV1 4 v (.int .i64 (i : Int)) = some (.pointer (some ⟨b, o, none⟩)) ∧ cellsAt h ⟨b, o, none⟩ 4 = some (pCs L[i]).toArray := by
  obtain ⟨b, o, g1, g2, g3, g4⟩ := p.row (i := i) (by rw [List.length_map]; exact hi) .i64
  refine ⟨b, o, g1, ?_⟩
  rw [g4]; simp
theorem Records_ok {h : H} {b m : Nat} {L : List Pl} (G : GB h b m L) : Ok Try.prog 24 #[.pointer (some ⟨b, 0, none⟩)] h fun v h' => RepL (fun y => h y ≠ none) rc h' v (L.map recP) ∧ Ext h h' := by
  refine c24_ok (args := [_]) (by simp) ?_
  simp (disch := omega) only [dm_t, wS, simprocAttr, IntKind.bits]
  refine (list_ok G).k ?_
  rintro _ g1 ⟨pl, e1⟩
  obtain ⟨pa, pc, rfl⟩ := pl.s0.len
  have hL := G.len
  have hml : (L.map pCs).length = L.length := List.length_map ..
  simp (disch := omega) only [dm_t, wS, simprocAttr, IntKind.bits, hml]
  refine vc_loop2 (fun vl vi g => ∃ (i : Nat), vi = .int .i64 (i : Int) ∧ i ≤ L.length ∧ OwL (fun y => h y ≠ none) rc (fun y => h y = none) g 26 vl ((L.take i).map recP) ∧ PL (fun y => h y = none) g (.slice pa (L.map pCs).length pc) L ∧ Ext h g) (fun _ vi _ => L.length - m1 vi) ?_ ?_
  · simp (disch := omega) only [dm_t, wS, simprocAttr, IntKind.bits]
    exact ⟨0, rfl, by omega, OwL.nil, pl, e1⟩
  rintro vl _ g ⟨i, rfl, hi, ow, ps, e⟩
  by_cases hil : i < L.length
  · obtain ⟨rb, ro, r1, r2⟩ := pl_at ps.s0 hil
    have hpm : mayP L[i] = true := G.may _ (List.getElem_mem hil)
    obtain ⟨⟨⟨m1', m2'⟩, m3'⟩, m4', m5', m6'⟩ := mayP_iff.1 hpm
    rw [hml] at r1
    simp (disch := omega) only [dm_t, wS, simprocAttr, IntKind.bits, hml, r1, r2]
    intro b5 hb5
    simp (disch := omega) only [dm_t, wS, simprocAttr, IntKind.bits]
    refine storeH_all (hupd_same _ _ _) rfl rfl ?_
    rw [hupd_hupd]
    generalize hG : hupd g b5 _ = g2
    obtain ⟨e2, q5⟩ := new_ext hG hb5
    clear hG
    have k5 : cellsAt g2 ⟨b5, 0, none⟩ 4 = some (pCs L[i]).toArray := cellsAt_all q5 4 rfl
    simp (disch := omega) only [dm_t, wS, simprocAttr, IntKind.bits, k5]
    refine (Record_ok g2 L[i] (by omega)).k ?_
    rintro _ g3 ⟨e3, w, rfl, hR⟩
    rw [hpm, if_pos rfl] at hR
    obtain ⟨cs, rfl, hrep⟩ := hR.rep
    have hcl : cs.length = 3 := hrep.len.trans sz_rc
    simp (disch := omega) only [dm_t, wS, simprocAttr, IntKind.bits]
    intro b6 hb6
    simp (disch := omega) only [dm_t, wS, simprocAttr, IntKind.bits]
    refine stn_new hcl (by rfl) hrep.cells ?_
    generalize hG : hupd g3 b6 _ = g4
    obtain ⟨e4, q6⟩ := new_ext hG hb6
    clear hG
    have k6 : cellsAt g4 ⟨b6, 0, none⟩ 3 = some cs.toArray := cellsAt_all q6 3 hcl
    have e24 := (e2.trans e3).trans e4
    have ow4 := ow.ext e24
    have hrep4 : Rep (fun y => isAt vl y ∨ h y ≠ none) rc g4 cs (recP L[i]) := (hrep.ext e4).mono fun y o _ hy => by
      have h2 : g y ≠ none := hy.elim (fun h => ow.there h) fun hy => by
        cases hyy : h y with
        | none => exact absurd hyy hy
        | some o => rw [e.at hyy]; simp
      cases hgy : g y with
      | none => exact absurd hgy h2
      | some o => rw [e2.at hgy]; simp
    simp (disch := omega) only [dm_t, wS, simprocAttr, IntKind.bits, k6]
    rw [if_pos hcl, so.splice_all hcl]
    simp (disch := omega) only [dm_t, wS, simprocAttr, IntKind.bits]
    have E4 := e.trans e24
    refine OwL.push 3 sz_rc ow4 (fun y hy => E4.bk hy) hrep4 (by rfl) (by rw [List.length_map, List.length_take]; omega) (by rw [List.length_map, List.length_take]; omega) ?_
    intro b7 v7 g5 hb7 o7 f7
    have ps4 := OwK.ext ps e24
    have ps5 := OwK.fr ps4 f7 fun y hy _ hat => by
      obtain ⟨c, fr, hc⟩ := ps4.ty hat
      exact ow4.tyno hc (by decide) hy.2
    simp (disch := omega) only [dm_t, wS, simprocAttr, IntKind.bits]
    refine ⟨⟨i + 1, by simp, by omega, ?_, (by first | exact ps5 | (rw [hml] at ps5; exact ps5)), Ext.step' E4 f7 fun y hy => hy.1⟩, by simp [m1]; omega⟩
    rw [show (L.take (i + 1)).map recP = (L.take i).map recP ++ [recP L[i]] by rw [List.take_succ_eq_append_getElem hil, List.map_append]; rfl]
    exact o7
  · obtain rfl : i = L.length := by omega
    rw [List.take_length] at ow
    simp (disch := omega) only [dm_t, wS, simprocAttr, IntKind.bits, hml]
    exact ⟨ow.repS fun y h1 h2 => h2 h1, e⟩
theorem Equal_ok {h : H} {S T : Nat → Prop} {v w : Value} {L M : List Pl} (p : SlK 4 S h v (L.map pCs)) (q : SlK 4 T h w (M.map pCs)) (hl : L.length ≤ 4611686018427387904) : Ok Try.prog 52 #[v, w] h fun r h' => r = .bool (decide (L = M)) ∧ Ext h h' := by
  obtain ⟨pa, pc, rfl⟩ := p.len
  obtain ⟨qa, qc, rfl⟩ := q.len
  have hml : (L.map pCs).length = L.length := List.length_map ..
  have hmm : (M.map pCs).length = M.length := List.length_map ..
  refine c52_ok (args := [_, _]) (by simp) ?_
  by_cases hlm : L.length = M.length
  rotate_left
  · simp (disch := omega) only [dm_t, wS, simprocAttr, IntKind.bits, hml, hmm]
    refine ⟨?_, Ext.refl _⟩
    rw [decide_eq_false]
    intro hh; exact hlm (by rw [hh])
  simp (disch := omega) only [dm_t, wS, simprocAttr, IntKind.bits, hml, hmm]
  refine vc_loop1 (fun vi g => ∃ (i : Nat), vi = .int .i64 (i : Int) ∧ i ≤ L.length ∧ L.take i = M.take i ∧ Ext h g) (fun vi _ => L.length - m1 vi) ?_ ?_
  · simp (disch := omega) only [dm_t, wS, simprocAttr, IntKind.bits]
    exact ⟨0, rfl, by omega, by simp, Ext.refl _⟩
  rintro _ g ⟨i, rfl, hi, heq, e⟩
  by_cases hil : i < L.length
  · have him : i < M.length := by omega
    obtain ⟨b1, o1, i1, c1⟩ := pl_at (SlK.ext p e) hil
    obtain ⟨b2, o2, i2, c2⟩ := pl_at (SlK.ext q e) him
    rw [hml] at i1
    rw [hmm] at i2
    by_cases hv : L[i] = M[i]
    · simp (disch := omega) only [dm_t, wS, simprocAttr, IntKind.bits, hml, hmm, i1, i2, c1, c2]
      refine raw_nePl rfl rfl ?_
      rw [decide_eq_true hv]
      simp (disch := omega) only [dm_t, wS, simprocAttr, IntKind.bits, Bool.not_true]
      refine ⟨⟨i + 1, by simp, by omega, ?_, e⟩, by simp [m1]; omega⟩
      rw [List.take_succ_eq_append_getElem hil, List.take_succ_eq_append_getElem him, heq, hv]
    · simp (disch := omega) only [dm_t, wS, simprocAttr, IntKind.bits, hml, hmm, i1, i2, c1, c2]
      refine raw_nePl rfl rfl ?_
      rw [decide_eq_false hv]
      simp (disch := omega) only [dm_t, wS, simprocAttr, IntKind.bits, Bool.not_false]
      refine ⟨?_, e⟩
      rw [decide_eq_false]
      intro hh; subst hh; exact hv rfl
  · obtain rfl : i = L.length := by omega
    simp (disch := omega) only [dm_t, wS, simprocAttr, IntKind.bits, hml, hmm]
    refine ⟨?_, e⟩
    rw [decide_eq_true]
    rw [List.take_length, hlm, List.take_length] at heq
    exact heq
theorem GSame_ok {h : H} {b m b' m' : Nat} {L M : List Pl} (G : GB h b m L) (G' : GB h b' m' M) : Ok Try.prog 25 #[.pointer (some ⟨b, 0, none⟩), .pointer (some ⟨b', 0, none⟩)] h fun v h' => v = .bool (decide (L = M)) ∧ Ext h h' := by
  refine c25_ok (args := [_, _]) (by simp) ?_
  simp (disch := omega) only [dm_t, wS, simprocAttr, IntKind.bits]
  refine (none_ok G).k ?_
  rintro _ _ ⟨rfl, rfl⟩
  simp (disch := omega) only [dm_t, wS, simprocAttr, IntKind.bits]
  refine (none_ok G').k ?_
  rintro _ _ ⟨rfl, rfl⟩
  simp (disch := omega) only [dm_t, wS, simprocAttr, IntKind.bits]
  refine (list_ok G).k ?_
  rintro _ g1 ⟨p1, e1⟩
  simp (disch := omega) only [dm_t, wS, simprocAttr, IntKind.bits]
  refine (list_ok (G'.ext e1)).k ?_
  rintro _ g2 ⟨p2, e2⟩
  simp (disch := omega) only [dm_t, wS, simprocAttr, IntKind.bits]
  refine (Equal_ok (SlK.ext p1.s0 e2) p2.s0 (Nat.le_trans G.len (by decide))).k ?_
  rintro _ g3 ⟨rfl, e3⟩
  simp (disch := omega) only [dm_t, wS, simprocAttr, IntKind.bits]
  exact (e1.trans e2).trans e3
theorem key_ok {h : H} {S T : Nat → Prop} {cs ds : List Value} {x y : rc.D} (p : Rep S rc h cs x) (q : Rep T rc h ds y) : Ok Try.prog 23 #[.agg cs.toArray, .agg ds.toArray] h fun v h' => v = .bool (decide (x.2.1 = y.2.1)) ∧ Ext h h' := by
  obtain ⟨k1, v1, rfl, x1, x2, x3⟩ := rep_rc.1 p
  obtain ⟨k2, v2, rfl, y1, y2, y3⟩ := rep_rc.1 q
  refine c23_ok (args := [_, _]) (by simp) ?_
  simp (disch := omega) only [dm_t, wS, simprocAttr, IntKind.bits]
  intro b2 hb2 b3 hb3
  generalize hG : hupd h b2 _ = g1 at hb3 ⊢
  obtain ⟨e1, q2⟩ := new_ext hG hb2
  clear hG
  generalize hG : hupd g1 b3 _ = g2
  obtain ⟨e2, q3⟩ := new_ext hG hb3
  clear hG
  have E2 := e1.trans e2
  have c2 : cellAt g2 ⟨b2, 1, none⟩ = some k1 := by rw [cellAt_of (e2.at q2)]; rfl
  have c3 : cellAt g2 ⟨b3, 1, none⟩ = some k2 := by rw [cellAt_of q3]; rfl
  simp (disch := omega) only [dm_t, wS, simprocAttr, IntKind.bits, c2, c3]
  refine cvbs_of (SlK.ext x2 E2) ?_
  simp (disch := omega) only [dm_t, wS, simprocAttr, IntKind.bits, c2, c3]
  refine cvbs_of (SlK.ext y2 E2) ?_
  simp (disch := omega) only [dm_t, wS, simprocAttr, IntKind.bits]
  rw [toList_mk, toList_mk]
  exact ⟨rfl, E2⟩
end Go.Proofs.Ythhofmjhnjkcfaa.gr
namespace Go.Proofs.Ythhofmjhnjkcfaa.gr
open Go.Proofs.Ythhofmjhnjkcfaa wi
set_option linter.unusedVariables false
set_option linter.unusedSimpArgs false
abbrev IL (S : Nat → Prop) (h : H) (v : Value) (ms : List Int) : Prop := S1 S h v (ms.map (.int .i64))
theorem il_at {S : Nat → Prop} {h : H} {v : Value} {ms : List Int} (s : IL S h v ms) {i : Nat} (hi : i < ms.length) : ∃ b o, idxV1 1 v (.int .i64 (i : Int)) = some (.pointer (some ⟨b, o, none⟩)) ∧ cellAt h ⟨b, o, none⟩ = some (.int .i64 ms[i]) := by
  obtain ⟨b, o, h1, h2⟩ := S1.load s (i := i) (by rw [List.length_map]; exact hi) .i64
  exact ⟨b, o, h1, by rw [h2]; simp⟩
theorem il_len {S : Nat → Prop} {h : H} {v : Value} {ms : List Int} (s : IL S h v ms) : ∃ a c, v = .slice a ms.length c := by
  obtain ⟨a, c, h⟩ := S1.len s
  exact ⟨a, c, by rw [h, List.length_map]⟩
theorem Lag1_ok (h : H) (x : Int) : Ok Try.prog 56 #[.int .i64 x] h fun v h' => v = .bool (!tm x) ∧ h = h' := by
  refine c56_ok (args := [_]) (by simp) ?_
  simp (disch := omega) only [dm_t, wS, simprocAttr, IntKind.bits]
  refine (in_ok h x 9007199254740992).k ?_
  rintro _ _ ⟨rfl, rfl⟩
  simp (disch := omega) only [dm_t, wS, simprocAttr, IntKind.bits]
  exact rfl
theorem IdxI_ok {S : Nat → Prop} {h : H} {v : Value} {ms : List Int} (s : IL S h v ms) (hl : ms.length ≤ 4611686018427387904) : Ok Try.prog 79 #[v, .func (.func 56) #[] #[]] h fun u h' => (∃ k : Int, u = .int .i64 k ∧ -1 ≤ k ∧ (0 ≤ k ↔ ms.all tm = false)) ∧ Ext h h' := by
  obtain ⟨a, c, rfl⟩ := il_len s
  refine c79_ok (args := [_, _]) (by simp) ?_
  simp (disch := omega) only [dm_t, wS, simprocAttr, IntKind.bits]
  refine vc_loop1 (fun vi G => ∃ i : Nat, vi = .int .i64 (i : Int) ∧ i ≤ ms.length ∧ (ms.take i).all tm = true ∧ Ext h G) (fun vi _ => ms.length - m1 vi) ?_ ?_
  · simp (disch := omega) only [dm_t, wS, simprocAttr, IntKind.bits]
    exact ⟨0, rfl, by omega, by simp, Ext.refl _⟩
  rintro _ G ⟨i, rfl, hi, hall, E⟩
  by_cases hil : i < ms.length
  · obtain ⟨b1, o1, i1, t1⟩ := il_at (SlK.ext s E) hil
    simp (disch := omega) only [dm_t, wS, simprocAttr, IntKind.bits, i1, t1]
    refine ⟨by kernel_rfl, (Lag1_ok G ms[i]).k ?_⟩
    rintro _ _ ⟨rfl, rfl⟩
    cases hm : tm ms[i] with
    | true =>
      simp (disch := omega) only [dm_t, wS, simprocAttr, IntKind.bits, Bool.not_true]
      refine ⟨⟨i + 1, by simp, by omega, ?_, E⟩, by simp [m1]; omega⟩
      rw [List.take_succ_eq_append_getElem hil, List.all_append, hall]
      simp [hm]
    | false =>
      simp (disch := omega) only [dm_t, wS, simprocAttr, IntKind.bits, Bool.not_false]
      refine ⟨⟨_, rfl, by omega, ?_⟩, E⟩
      refine ⟨fun _ => ?_, fun _ => by omega⟩
      rw [List.all_eq_false]
      exact ⟨_, List.getElem_mem hil, by simp [hm]⟩
  · obtain rfl : i = ms.length := by omega
    rw [List.take_length] at hall
    simp (disch := omega) only [dm_t, wS, simprocAttr, IntKind.bits]
    exact ⟨⟨_, rfl, by omega, by simp [hall]⟩, E⟩
theorem ContI_ok {S : Nat → Prop} {h : H} {v : Value} {ms : List Int} (s : IL S h v ms) (hl : ms.length ≤ 4611686018427387904) : Ok Try.prog 55 #[v, .func (.func 56) #[] #[]] h fun u h' => u = .bool (!ms.all tm) ∧ Ext h h' := by
  refine c55_ok (args := [_, _]) (by simp) ?_
  simp (disch := omega) only [dm_t, wS, simprocAttr, IntKind.bits]
  refine (IdxI_ok s hl).k ?_
  rintro _ g2 ⟨⟨k, rfl, h1, h2⟩, e2⟩
  by_cases hk : 0 ≤ k
  · simp (disch := omega) only [dm_t, wS, simprocAttr, IntKind.bits]
    exact ⟨by rw [h2.1 hk]; simp [hk], e2⟩
  · have : ms.all tm = true := by
      cases hc : ms.all tm with
      | true => rfl
      | false => exact absurd (h2.2 hc) hk
    simp (disch := omega) only [dm_t, wS, simprocAttr, IntKind.bits]
    exact ⟨by rw [this]; simp [hk], e2⟩
/-! ### What a group is behind -/
def lagT (L : List Pl) (g : List UInt8) (ms : List Int) (n : Nat) : Int := match fnd (g, (n : Int)) L with
  | some x => if n < ms.length then max 0 (ms.getD n 0 - x.2.2.1) else 0
  | none => 0
def lagS (L : List Pl) (g : List UInt8) (ms : List Int) : Nat → Int
  | 0 => 0
  | n + 1 => lagS L g ms n + lagT L g ms n
def lagA (L : List Pl) (g : List UInt8) : Nat → Bool
  | 0 => false
  | n + 1 => lagA L g n || (fnd (g, (n : Int)) L).isSome
def lagE (L : List Pl) (g : List UInt8) (ms : List Int) : Int := if grp g = true ∧ ms.length ≤ 16 ∧ ms.all tm = true then (if lagA L g 16 = true then 0 else 360) else 2
def lagV (L : List Pl) (g : List UInt8) (ms : List Int) : Int := if lagE L g ms = 0 then lagS L g ms 16 else 0
theorem tm_iff {x : Int} : tm x = true ↔ 0 ≤ x ∧ x ≤ 9007199254740992 := by simp [tm]
theorem lagT_bd {L : List Pl} (hm : ∀ p ∈ L, mayP p = true) {g : List UInt8} {ms : List Int} (ht : ms.all tm = true) (n : Nat) : 0 ≤ lagT L g ms n ∧ lagT L g ms n ≤ 9007199254740992 := by
  unfold lagT
  split
  · rename_i x hx
    have := (mayP_iff.1 (hm x (fnd_some hx).1)).2.2.1
    split
    · rename_i hn
      have h1 := tm_iff.1 (List.all_eq_true.1 ht ms[n] (List.getElem_mem hn))
      rw [show ms.getD n 0 = ms[n] by simp [hn]]
      omega
    · omega
  · omega
theorem lagS_bd {L : List Pl} (hm : ∀ p ∈ L, mayP p = true) {g : List UInt8} {ms : List Int} (ht : ms.all tm = true) : ∀ (n : Nat), 0 ≤ lagS L g ms n ∧ lagS L g ms n ≤ n * 9007199254740992
  | 0 => by simp [lagS]
  | n + 1 => by
    have h1 := lagS_bd hm ht (g := g) n
    have h2 := lagT_bd hm ht (g := g) n
    rw [lagS]
    constructor
    · omega
    · push_cast; omega
theorem Lag_ok {S : Nat → Prop} {h : H} {b m : Nat} {L : List Pl} (G : GB h b m L) (g : List UInt8) (hg : g.length ≤ 9223372036854775807) {v : Value} {ms : List Int} (s : IL S h v ms) (hl : ms.length ≤ 4611686018427387904) :
    Ok Try.prog 28 #[.pointer (some ⟨b, 0, none⟩), sv g, v] h fun u h' => u = .tuple #[.int .i64 (lagV L g ms), .int .i64 (lagE L g ms)] ∧ Ext h h' := by
  obtain ⟨a, c, rfl⟩ := il_len s
  refine c28_ok (args := [_, _, _]) (by simp) ?_
  simp (disch := omega) only [dm_t, wS, simprocAttr, IntKind.bits]
  refine (none_ok G).k ?_
  rintro _ _ ⟨rfl, rfl⟩
  simp (disch := omega) only [dm_t, wS, simprocAttr, IntKind.bits]
  refine (where_ok h g 0 hg).k ?_
  rintro _ g1 ⟨rfl, e1⟩
  rw [show (grp g && prt 0) = grp g by rw [show prt 0 = true by decide, Bool.and_true]]
  have G1 := G.ext e1
  have s1 := SlK.ext s e1
  cases hgr : grp g with
  | false =>
    have hE : lagE L g ms = 2 := by rw [lagE, if_neg (by simp [hgr])]
    rw [lagV, hE, if_neg (by decide)]
    simp (disch := omega) only [dm_t, wS, simprocAttr, IntKind.bits, Bool.not_false]
    exact e1
  | true =>
    by_cases h16 : 16 < ms.length
    · have hE : lagE L g ms = 2 := by rw [lagE, if_neg (by omega)]
      rw [lagV, hE, if_neg (by decide)]
      simp (disch := omega) only [dm_t, wS, simprocAttr, IntKind.bits, Bool.not_true]
      exact e1
    simp (disch := omega) only [dm_t, wS, simprocAttr, IntKind.bits, Bool.not_true]
    refine (ContI_ok s1 hl).k ?_
    rintro _ g1' ⟨rfl, e1'⟩
    replace e1 := e1.trans e1'
    cases hal : ms.all tm with
    | false =>
      have hE : lagE L g ms = 2 := by rw [lagE, if_neg (by simp [hal])]
      rw [lagV, hE, if_neg (by decide)]
      simp (disch := omega) only [dm_t, wS, simprocAttr, IntKind.bits, Bool.not_false]
      exact e1
    | true =>
    have hE : lagE L g ms = if lagA L g 16 = true then 0 else 360 := by rw [lagE, if_pos ⟨hgr, by omega, hal⟩]
    simp (disch := omega) only [dm_t, wS, simprocAttr, IntKind.bits, Bool.not_true]
    refine vc_loop3 (fun vn vo vi g' => ∃ (n : Nat), vn = .int .i64 (lagS L g ms n) ∧ vo = .bool (lagA L g n) ∧ vi = .int .i64 (n : Int) ∧ n ≤ 16 ∧ Ext h g') (fun _ _ vi _ => 16 - m1 vi) ?_ ?_
    · simp (disch := omega) only [dm_t, wS, simprocAttr, IntKind.bits]
      exact ⟨0, rfl, rfl, rfl, by omega, e1⟩
    rintro _ _ _ g2 ⟨n, rfl, rfl, rfl, hn, e2⟩
    by_cases hnl : n < 16
    · have G2 := G.ext e2
      obtain ⟨kl, M2, hp2⟩ := G2.mo
      have hlk : lk (g, (n : Int)) (kl.map pk) = (fnd (g, (n : Int)) L).map fun x => enx (x.2.2.1, x.2.2.2) := by rw [lk_fnd, fnd_perm hp2 (uq_of G.srt)]
      have hi : Try.prog.info? 100 = some ((Try.prog.info? 100).getD default) := by kernel_rfl
      have hz : ((Try.prog.info? 100).getD default).zero = some (enx (0, 0)) := by kernel_rfl
      have hsb := lagS_bd G.may hal (g := g) n
      simp (disch := omega) only [dm_t, wS, simprocAttr, IntKind.bits, G2.cell]
      refine raw_lookup (key := (g, (n : Int))) keyT Try.underlying94 hi hz rfl rfl M2 ?_
      rw [hlk]
      have hA : lagA L g (n + 1) = (lagA L g n || (fnd (g, (n : Int)) L).isSome) := rfl
      have hS : lagS L g ms (n + 1) = lagS L g ms n + lagT L g ms n := rfl
      cases hf : fnd (g, (n : Int)) L with
      | none =>
        have hT : lagT L g ms n = 0 := by rw [lagT, hf]
        rw [hf, Option.isSome_none, Bool.or_false] at hA
        rw [hT, Int.add_zero] at hS
        simp (disch := omega) only [dm_t, wS, simprocAttr, IntKind.bits, Option.map_none, Option.getD_none, Option.isSome_none]
        intro d hd
        generalize hG : hupd g2 d _ = g3
        obtain ⟨e3, q3⟩ := new_ext hG hd
        clear hG
        simp (disch := omega) only [dm_t, wS, simprocAttr, IntKind.bits]
        refine storeH_all q3 rfl rfl ?_
        generalize hG : hupd g3 d _ = g4
        have f4 : Fr (fun y => y = d) g3 g4 := hG ▸ Fr.upd (S := fun y => y = d) rfl _
        have e4 : Ext g2 g4 := Ext.step' e3 f4 fun y hy => by rw [hy]; exact hd
        clear hG
        have E4 := e2.trans e4
        cases hla : lagA L g n with
        | true =>
          simp (disch := omega) only [dm_t, wS, simprocAttr, IntKind.bits]
          exact ⟨⟨n + 1, by rw [hS], by rw [hA, hla], by simp, by omega, E4⟩, by simp [m1]; omega⟩
        | false =>
          simp (disch := omega) only [dm_t, wS, simprocAttr, IntKind.bits]
          exact ⟨⟨n + 1, by rw [hS], by rw [hA, hla], by simp, by omega, E4⟩, by simp [m1]; omega⟩
      | some x =>
        rw [hf, Option.isSome_some, Bool.or_true] at hA
        have hxo := (mayP_iff.1 (G.may x (fnd_some hf).1)).2.2.1
        simp (disch := omega) only [dm_t, wS, simprocAttr, IntKind.bits, Option.map_some, Option.getD_some, Option.isSome_some]
        intro d hd
        generalize hG : hupd g2 d _ = g3
        obtain ⟨e3, q3⟩ := new_ext hG hd
        clear hG
        simp (disch := omega) only [dm_t, wS, simprocAttr, IntKind.bits]
        refine storeH_all q3 rfl rfl ?_
        generalize hG : hupd g3 d _ = g4
        have f4 : Fr (fun y => y = d) g3 g4 := hG ▸ Fr.upd (S := fun y => y = d) rfl _
        have qd : g4 d = some (.cells #[.int .i64 x.2.2.1, .int .i64 x.2.2.2] 100) := by rw [← hG, hupd_same]
        have e4 : Ext g2 g4 := Ext.step' e3 f4 fun y hy => by rw [hy]; exact hd
        clear hG
        have E4 := e2.trans e4
        have d0 : cellAt g4 ⟨d, 0, none⟩ = some (.int .i64 x.2.2.1) := by rw [cellAt_of qd]; rfl
        by_cases hnm : n < ms.length
        · obtain ⟨b1, o1, i1, t1⟩ := il_at (SlK.ext s E4) hnm
          have h1 := tm_iff.1 (List.all_eq_true.1 hal ms[n] (List.getElem_mem hnm))
          have hT : lagT L g ms n = max 0 (ms[n] - x.2.2.1) := by rw [lagT, hf]; simp only; rw [if_pos hnm, show ms.getD n 0 = ms[n] by simp [hnm]]
          have hmx : 0 ≤ max 0 (ms[n] - x.2.2.1) ∧ max 0 (ms[n] - x.2.2.1) ≤ 9007199254740992 := by omega
          rw [hT] at hS
          cases hla : lagA L g n with
          | true =>
            simp (disch := omega) only [dm_t, wS, simprocAttr, IntKind.bits, i1, t1, d0]
            exact ⟨⟨n + 1, by rw [hS], by rw [hA], by simp, by omega, E4⟩, by simp [m1]; omega⟩
          | false =>
            simp (disch := omega) only [dm_t, wS, simprocAttr, IntKind.bits, i1, t1, d0]
            exact ⟨⟨n + 1, by rw [hS], by rw [hA], by simp, by omega, E4⟩, by simp [m1]; omega⟩
        · have hT : lagT L g ms n = 0 := by rw [lagT, hf]; simp only; rw [if_neg hnm]
          rw [hT, Int.add_zero] at hS
          cases hla : lagA L g n with
          | true =>
            simp (disch := omega) only [dm_t, wS, simprocAttr, IntKind.bits, d0]
            exact ⟨⟨n + 1, by rw [hS], by rw [hA], by simp, by omega, E4⟩, by simp [m1]; omega⟩
          | false =>
            simp (disch := omega) only [dm_t, wS, simprocAttr, IntKind.bits, d0]
            exact ⟨⟨n + 1, by rw [hS], by rw [hA], by simp, by omega, E4⟩, by simp [m1]; omega⟩
    · obtain rfl : n = 16 := by omega
      cases hla : lagA L g 16 with
      | true =>
        rw [hla, if_pos rfl] at hE
        rw [lagV, hE, if_pos rfl]
        simp (disch := omega) only [dm_t, wS, simprocAttr, IntKind.bits]
        exact e2
      | false =>
        rw [hla, if_neg (by simp)] at hE
        rw [lagV, hE, if_neg (by decide)]
        simp (disch := omega) only [dm_t, wS, simprocAttr, IntKind.bits]
        exact e2
end Go.Proofs.Ythhofmjhnjkcfaa.gr
namespace Go.Proofs.Ythhofmjhnjkcfaa.gr
open Go.Proofs.Ythhofmjhnjkcfaa wi
set_option linter.unusedVariables false
set_option linter.unusedSimpArgs false
section
variable {P : Program} {e : Env} {h : H} {V : Value → H → Prop} {X : List PanicEntry → H → Prop} {d : Option Nat}
theorem zero_cells {z : Value} (hz : z.cells = #[z]) (n : Nat) : (Builtin.zeroCells z.cells n).toList = List.replicate n z := by
  rw [hz]
  simp [Builtin.zeroCells]
  apply List.ext_getElem
  · simp
  · intro i h1 h2
    simp [Nat.mod_one]
/-- clear of a slice of cells. -/
theorem raw_clear {t el ty : TypeId} {x : Operand} {p : Addr} {n c : Nat} {z : Value} {i : TypeInfo} (hu : P.underlying t = some (.slice el)) (hi : P.info? el = some i) (hz : i.zero = some z) (hzc : z.cells = #[z])
    (hx : ev e x = some (.slice (some p) n c)) (hk : storeH h p (List.replicate n z) fun h' => V (.tuple #[]) h') :
    lM P (.raw ⟨d, .call ⟨.builtin .clear, #[x], #[t]⟩, ty, "", #[], none⟩) e h V X := by
  intro a w ha hw
  subst hw
  have e1 := ev_sound ha hx
  have hr := run_underlying hu w
  have hzz := run_zero hi hz w
  cases n with
  | zero =>
    have hk' : V (.tuple #[]) (hp w) := hk
    refine ⟨.tuple #[], w, .inl ?_, Kin.refl w, hk'⟩
    simp [execOp, resolve, invoke, builtin, e1, Builtin.clear_, hr]
  | succ n =>
    obtain ⟨w', hs, hkin, hK⟩ := run_storeH P hk
    refine ⟨.tuple #[], w', .inl ?_, hkin, hK⟩
    have hcs := zero_cells hzc (n + 1)
    simp [execOp, resolve, invoke, builtin, e1, Builtin.clear_, hr, hzz, hcs, hs]
end
/-- Of a list the elements that differ from the one ahead of them. -/
def nk (xs : List (List UInt8)) : Nat → List (List UInt8)
  | 0 => []
  | m + 1 => nk xs m ++ (if m = 0 ∨ xs.getD m [] ≠ xs.getD (m - 1) [] then [xs.getD m []] else [])
theorem nk_len (xs : List (List UInt8)) : ∀ m, (nk xs m).length ≤ m
  | 0 => Nat.le_refl _
  | m + 1 => by
    have := nk_len xs m
    rw [nk, List.length_append]
    split <;> simp <;> omega
theorem nk_mem {xs : List (List UInt8)} {x : List UInt8} : ∀ {m}, m ≤ xs.length → x ∈ nk xs m → x ∈ xs
  | 0, _, h => by simp [nk] at h
  | m + 1, hm, h => by
    rw [nk] at h
    rcases List.mem_append.1 h with h | h
    · exact nk_mem (by omega) h
    · split at h
      · simp only [List.mem_singleton] at h
        rw [h, show xs.getD m [] = xs[m] by simp [show m < xs.length by omega]]
        exact List.getElem_mem _
      · simp at h
abbrev sL (xs : List (List UInt8)) : List Value := xs.map sv
theorem ss_at {S : Nat → Prop} {h : H} {v : Value} {xs : List (List UInt8)} (s : S1 S h v (sL xs)) {i : Nat} (hi : i < xs.length) : ∃ b o, idxV1 1 v (.int .i64 (i : Int)) = some (.pointer (some ⟨b, o, none⟩)) ∧ cellAt h ⟨b, o, none⟩ = some (sv xs[i]) := by
  obtain ⟨b, o, h1, h2⟩ := S1.load s (i := i) (by rw [List.length_map]; exact hi) .i64
  exact ⟨b, o, h1, by rw [h2]; simp⟩
theorem slc_from {b o n c l : Nat} (h1 : l < n) (h2 : n ≤ c) : slcV 1 (some ⟨b, o, none⟩) n c false (l : Int) (n : Int) (c : Int) = some (.slice (some ⟨b, o + l, none⟩) (n - l) (c - l)) := by
  rw [slcV_eq, chk_pos ⟨by omega, by omega, by omega, by omega, .inr rfl⟩, if_neg (by omega)]
  simp [Addr.add]
/-- The cells behind are made empty. -/
theorem o1_clear {O : Nat → Prop} {h : H} {b o c n l : Nat} {cs : Array Value} {E : TypeId} {fr : Nat × Nat} {xs : List Value} {z : Value} (hb : h b = some (.cells cs E fr)) (hx : xs.length = n) (hn : n ≤ c) (hc : o + c ≤ cs.size) (ha : At' cs o xs) (hO : O b) (hf : fr.2 = 0 ∨ cs.size ≤ fr.1 ∨ o + c ≤ fr.1) (hl : l ≤ n) (hz : isCell z = true) {K : H → Prop}
    (hK : ∀ h', O1 O h' E (.slice (some ⟨b, o, none⟩) l c) (xs.take l) → Fr (fun y => y = b) h h' → K h') : storeH h ⟨b, o + l, none⟩ (List.replicate (n - l) z) K := by
  refine storeH_in hb ?_ ?_ ?_ (hK _ ⟨rect_one _, .inr ⟨b, o, c, _, fr, ?_, hupd_same _ _ _, ?_, ?_, ?_, hO, ?_⟩⟩ (Fr.upd (S := fun y => y = b) rfl _))
  · rw [List.length_replicate]; rcases hf with h | h | h
    · left; omega
    · right; omega
    · right; omega
  · rw [List.length_replicate]; omega
  · rw [List.all_eq_true]; intro y hy; rw [List.eq_of_mem_replicate hy]; exact hz
  · rw [one_len, List.length_take, hx]; congr 1; omega
  · rw [size_splice]; omega
  · rw [one_len, List.length_take]; omega
  · rw [flat_one]
    refine At'.splice (fun m hm => ?_) (by rw [List.length_replicate]; omega) (.inl (by rw [List.length_take]; omega))
    have hm2 : m < xs.length := by rw [List.length_take] at hm; omega
    rw [ha m hm2]; simp
  · rw [size_splice]; rcases hf with h | h | h
    · exact .inl h
    · exact .inr (.inl h)
    · exact .inr (.inr (by omega))
theorem Compact_ok {O : Nat → Prop} {h : H} {v : Value} {xs : List (List UInt8)} (s : O1 O h 9 v (sL xs)) (hl : xs.length ≤ 4611686018427387904) :
    Ok Try.prog 54 #[v] h fun u h' => O1 O h' 9 u (sL (nk xs xs.length)) ∧ Fr (fun y => O y ∧ isAt v y) h h' := by
  obtain ⟨a, c, hv⟩ := s.s0.len
  rw [one_len, List.length_map] at hv
  subst hv
  refine c54_ok (args := [_]) (by simp) ?_
  by_cases h2 : xs.length < 2
  · simp (disch := omega) only [dm_t, wS, simprocAttr, IntKind.bits]
    refine ⟨?_, Fr.refl _ _⟩
    have : nk xs xs.length = xs := by
      rcases xs with _ | ⟨x, _ | ⟨y, r⟩⟩
      · rfl
      · rfl
      · simp at h2; omega
    rw [this]; exact s
  simp (disch := omega) only [dm_t, wS, simprocAttr, IntKind.bits]
  refine vc_loop1 (fun vk g => g = h ∧ ∃ k : Nat, vk = .int .i64 (k : Int) ∧ 1 ≤ k ∧ k ≤ xs.length ∧ nk xs k = xs.take k) (fun vk _ => xs.length - m1 vk) ?_ ?_
  · simp (disch := omega) only [dm_t, wS, simprocAttr, IntKind.bits]
    exact ⟨1, rfl, by omega, by omega, by rcases xs with _ | ⟨x, r⟩; (simp at h2); rfl⟩
  rintro _ gg ⟨hgg, k, rfl, hk1, hkl, hnk⟩
  subst hgg
  by_cases hk : k < xs.length
  rotate_left
  · obtain rfl : k = xs.length := by omega
    rw [List.take_length] at hnk
    simp (disch := omega) only [dm_t, wS, simprocAttr, IntKind.bits]
    rw [hnk]
    exact ⟨s, Fr.refl _ _⟩
  obtain ⟨b1, o1, i1, c1⟩ := ss_at s.s0 hk
  obtain ⟨b2, o2, i2, c2⟩ := ss_at s.s0 (i := k - 1) (by omega)
  have hkc : ((k : Int) - 1) = ((k - 1 : Nat) : Int) := by omega
  have gk : ∀ j, (hj : j < xs.length) → xs.getD j [] = xs[j] := fun j hj => by simp [hj]
  by_cases heq : xs[k] = xs[k - 1]
  · have hnk1 : nk xs (k + 1) = xs.take k := by
      rw [nk, hnk, if_neg, List.append_nil]
      rw [gk _ hk, gk _ (by omega)]
      rintro (h | h)
      · omega
      · exact h heq
    obtain ⟨bb, oo, rfl⟩ : ∃ bb oo, a = some ⟨bb, oo, none⟩ := by
      obtain ⟨_, ⟨h, _⟩ | ⟨bb, oo, cp, cc, fr, h, _⟩⟩ := s
      · simp only [Value.slice.injEq] at h; omega
      · simp only [Value.slice.injEq] at h; exact ⟨bb, oo, h.1⟩
    have hcc : xs.length ≤ c := by
      obtain ⟨_, ⟨h, _⟩ | ⟨bb, oo, cp, cc, fr, h, _, _, h4, _⟩⟩ := s
      · simp only [Value.slice.injEq] at h; omega
      · simp only [Value.slice.injEq, one_len, List.length_map] at h h4; omega
    have hs2 := slc_from (b := bb) (o := oo) hk hcc
    have rd : ∀ (g : H) (cur : List (List UInt8)), O1 O g 9 (.slice (some ⟨bb, oo, none⟩) xs.length c) (sL cur) → cur.length = xs.length → ∀ j, (hj : j < xs.length - k) → ∃ b o, idxV1 1 (.slice (some ⟨bb, oo + k, none⟩) (xs.length - k) (c - k)) (.int .i64 (j : Int)) = some (.pointer (some ⟨b, o, none⟩)) ∧ cellAt g ⟨b, o, none⟩ = some (sv (cur.getD (k + j) [])) := by
      intro g cur so hcl j hj
      obtain ⟨v2, hv2, o2, _⟩ := O1.cut so (m3 := false) (lo := k) (hi := xs.length) (mx := c) (l := k) (u := xs.length) (m := c) rfl rfl rfl (by omega) (by omega) hcc (by omega) (.inr rfl)
      rw [hs2] at hv2
      simp only [Option.some.injEq] at hv2
      subst hv2
      obtain ⟨b, o, q1, q2⟩ := S1.load o2.s0 (i := j) (by rw [List.length_take, List.length_drop, List.length_map]; omega) .i64
      refine ⟨b, o, q1, ?_⟩
      rw [q2]
      simp [show k + j < cur.length by omega]
    simp (disch := omega) only [dm_t, wS, simprocAttr, IntKind.bits, i1, c1, hkc, i2, c2, toList_mk, heq, hs2]
    refine vc_loop2 (fun vk vj g => ∃ (kk j : Nat) (cur : List (List UInt8)), vk = .int .i64 (kk : Int) ∧ vj = .int .i64 (j : Int) ∧ 1 ≤ j ∧ k + j ≤ xs.length ∧ kk < k + j ∧ (nk xs (k + j)).length = kk ∧ cur.length = xs.length ∧ cur.take kk = nk xs (k + j) ∧ (∀ i, k + j - 1 ≤ i → cur.getD i [] = xs.getD i []) ∧ O1 O g 9 (.slice (some ⟨bb, oo, none⟩) xs.length c) (sL cur) ∧ Fr (fun y => O y ∧ isAt (.slice (some ⟨bb, oo, none⟩) xs.length c) y) gg g) (fun _ vj _ => xs.length - m1 vj) ?_ ?_
    · simp (disch := omega) only [dm_t, wS, simprocAttr, IntKind.bits]
      exact ⟨k, 1, xs, rfl, rfl, by omega, by omega, by omega, by rw [hnk1, List.length_take]; omega, rfl, hnk1.symm, fun _ _ => rfl, s, Fr.refl _ _⟩
    rintro _ _ g ⟨kk, j, cur, rfl, rfl, hj1, hjl, hkk, hlen, hcl, htk, hdr, so, f⟩
    by_cases hj : k + j < xs.length
    · obtain ⟨b3, o3, i3, c3⟩ := rd g cur so hcl j (by omega)
      obtain ⟨b4, o4, i4, c4⟩ := rd g cur so hcl (j - 1) (by omega)
      rw [hdr _ (by omega), gk _ hj] at c3
      rw [hdr _ (by omega), gk _ (show k + (j - 1) < xs.length by omega)] at c4
      have hjc : ((j : Int) - 1) = ((j - 1 : Nat) : Int) := by omega
      have hN : nk xs (k + (j + 1)) = nk xs (k + j) ++ (if k + j = 0 ∨ xs.getD (k + j) [] ≠ xs.getD (k + j - 1) [] then [xs.getD (k + j) []] else []) := rfl
      rw [gk _ hj, gk _ (show k + j - 1 < xs.length by omega)] at hN
      by_cases he : xs[k + j] = xs[k + (j - 1)]
      · rw [if_neg (by
          rintro (h | h)
          · omega
          · apply h
            have : k + j - 1 = k + (j - 1) := by omega
            simp only [this]; exact he), List.append_nil] at hN
        simp (disch := omega) only [dm_t, wS, simprocAttr, IntKind.bits, i3, c3, hjc, i4, c4, toList_mk, he]
        refine ⟨⟨kk, j + 1, cur, rfl, by simp, by omega, by omega, by omega, by rw [hN]; exact hlen, hcl, by rw [hN]; exact htk, fun i hi => hdr i (by omega), so, f⟩, by simp [m1]; omega⟩
      · rw [if_pos (.inr (by
          have : k + j - 1 = k + (j - 1) := by omega
          simp only [this]; exact he))] at hN
        obtain ⟨b5, o5, i5, at5, c5, st5⟩ := O1.put so (i := kk) (by rw [List.length_map]; omega) .i64
        simp (disch := omega) only [dm_t, wS, simprocAttr, IntKind.bits, i3, c3, hjc, i4, c4, toList_mk, he, i5]
        refine st5 _ _ rfl ?_
        intro g2 o2 f2
        have hset : (sL cur).set kk (sv xs[k + j]) = sL (cur.set kk xs[k + j]) := by rw [sL, sL, List.map_set]
        rw [hset] at o2
        simp (disch := omega) only [dm_t, wS, simprocAttr, IntKind.bits]
        refine ⟨⟨kk + 1, j + 1, cur.set kk xs[k + j], by simp, by simp, by omega, by omega, by omega, by rw [hN, List.length_append, hlen]; rfl, by rw [List.length_set]; exact hcl, ?_, fun i hi => ?_, o2, f.trans (f2.mono fun y hy => by rw [hy]; exact ⟨so.own at5, at5⟩)⟩, by simp [m1]; omega⟩
        · rw [hN, ← htk]
          rw [List.take_succ_eq_append_getElem (by rw [List.length_set]; omega)]
          have ht : (cur.set kk xs[k + j]).take kk = cur.take kk := by
            apply List.ext_getElem?
            intro i
            rw [List.getElem?_take, List.getElem?_take]
            split
            · rw [List.getElem?_set, if_neg (by omega)]
            · rfl
          rw [ht]; simp
        · rw [← hdr i (by omega)]
          simp [List.getElem?_set, show kk ≠ i by omega]
    · have hje : k + j = xs.length := by omega
      rw [hje] at htk hlen hkk
      have hs3 := slc_from (b := bb) (o := oo) hkk hcc
      have hpre := slcV_pre 1 (some ⟨bb, oo, none⟩) xs.length c kk (by omega)
      obtain ⟨_, ⟨h', _⟩ | ⟨bb', oo', cp, cs, fr, q1, q2, q3, q4, q5, q6, q7⟩⟩ := so
      · simp at h'
      simp only [Value.slice.injEq, Option.some.injEq, Addr.mk.injEq, and_true, one_len, List.length_map] at q1
      obtain ⟨⟨rfl, rfl⟩, -, rfl⟩ := q1
      rw [flat_one] at q5
      have hi : Try.prog.info? 9 = some ((Try.prog.info? 9).getD default) := by kernel_rfl
      have hz : ((Try.prog.info? 9).getD default).zero = some (.string ⟨#[]⟩) := by kernel_rfl
      simp (disch := omega) only [dm_t, wS, simprocAttr, IntKind.bits, hs3]
      refine raw_clear Try.underlying56 hi hz rfl rfl ?_
      refine o1_clear q2 (by rw [List.length_map]; exact hcl) hcc (by omega) q5 q6 (by simpa using q7) (by omega) rfl ?_
      intro g2 o2 f2
      rw [sL, ← List.map_take, htk] at o2
      simp (disch := omega) only [dm_t, wS, simprocAttr, IntKind.bits, hpre]
      exact ⟨o2, f.trans (f2.mono fun y hy => by rw [hy]; exact ⟨q6, ⟨_, _, _, rfl⟩⟩)⟩
  · simp (disch := omega) only [dm_t, wS, simprocAttr, IntKind.bits, i1, c1, hkc, i2, c2, toList_mk, heq]
    refine ⟨⟨k + 1, by simp, by omega, by omega, ?_⟩, by simp [m1]; omega⟩
    rw [nk, hnk, if_pos (.inr (by rw [gk _ hk, gk _ (by omega)]; exact heq)), gk _ hk, List.take_succ_eq_append_getElem hk]
def nm (L : List Pl) : List (List UInt8) := nk (L.map (·.1)) L.length
theorem Names_ok {h : H} {b m : Nat} {L : List Pl} (G : GB h b m L) : Ok Try.prog 27 #[.pointer (some ⟨b, 0, none⟩)] h fun v h' => O1 (fun y => h y = none) h' 9 v (sL (nm L)) ∧ Ext h h' := by
  refine c27_ok (args := [_]) (by simp) ?_
  simp (disch := omega) only [dm_t, wS, simprocAttr, IntKind.bits]
  refine (list_ok G).k ?_
  rintro _ g1 ⟨pl, e1⟩
  obtain ⟨pa, pc, rfl⟩ := pl.s0.len
  have hL := G.len
  have hml : (L.map pCs).length = L.length := List.length_map ..
  simp (disch := omega) only [dm_t, wS, simprocAttr, IntKind.bits, hml]
  refine vc_loop2 (fun vl vi g => ∃ (i : Nat), vi = .int .i64 (i : Int) ∧ i ≤ L.length ∧ O1 (fun y => h y = none) g 9 vl (sL ((L.take i).map (·.1))) ∧ PL (fun y => h y = none) g (.slice pa (L.map pCs).length pc) L ∧ Ext h g) (fun _ vi _ => L.length - m1 vi) ?_ ?_
  · simp (disch := omega) only [dm_t, wS, simprocAttr, IntKind.bits]
    exact ⟨0, rfl, by omega, OwK.nil, pl, e1⟩
  rintro vl _ g ⟨i, rfl, hi, ow, ps, e⟩
  by_cases hil : i < L.length
  · obtain ⟨rb, ro, r1, r2⟩ := pl_at ps.s0 hil
    rw [hml] at r1
    simp (disch := omega) only [dm_t, wS, simprocAttr, IntKind.bits, hml, r1, r2]
    intro b5 hb5
    simp (disch := omega) only [dm_t, wS, simprocAttr, IntKind.bits]
    refine storeH_all (hupd_same _ _ _) rfl rfl ?_
    rw [hupd_hupd]
    generalize hG : hupd g b5 _ = g2
    obtain ⟨e2, q5⟩ := new_ext hG hb5
    clear hG
    have c5 : cellAt g2 ⟨b5, 0, none⟩ = some (sv L[i].1) := by rw [cellAt_of q5]; rfl
    have ow2 := OwK.ext ow e2
    have ps2 := OwK.ext ps e2
    have E2 := e.trans e2
    simp (disch := omega) only [dm_t, wS, simprocAttr, IntKind.bits, c5]
    refine push1 ow2 (fun y hy => E2.bk hy) rfl (by simp; omega) (by simp; omega) ?_
    intro b7 v7 g5 hb7 o7 f7
    have ps5 := OwK.fr ps2 f7 fun y hy _ hat => by
      obtain ⟨c, fr, hc⟩ := ps2.ty hat
      exact ow2.tyno hc (by decide) hy.2
    have hmap : sL ((L.take i).map (·.1)) ++ [sv L[i].1] = sL ((L.take (i + 1)).map (·.1)) := by
      rw [List.take_succ_eq_append_getElem hil, List.map_append, sL, sL, List.map_append]; rfl
    rw [hmap] at o7
    simp (disch := omega) only [dm_t, wS, simprocAttr, IntKind.bits]
    exact ⟨⟨i + 1, by simp, by omega, o7, (by first | exact ps5 | (rw [hml] at ps5; exact ps5)), Ext.step' E2 f7 fun y hy => hy.1⟩, by simp [m1]; omega⟩
  · obtain rfl : i = L.length := by omega
    rw [List.take_length] at ow
    simp (disch := omega) only [dm_t, wS, simprocAttr, IntKind.bits, hml]
    refine (Compact_ok ow (by rw [List.length_map]; omega)).k ?_
    rintro v g2 ⟨o2, f2⟩
    simp (disch := omega) only [dm_t, wS, simprocAttr, IntKind.bits]
    rw [List.length_map] at o2
    exact ⟨o2, Ext.step' e f2 fun y hy => hy.1⟩
end Go.Proofs.Ythhofmjhnjkcfaa.gr
