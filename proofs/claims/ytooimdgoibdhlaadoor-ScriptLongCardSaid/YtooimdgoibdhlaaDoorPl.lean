/-
  A line read: what is answered, plain; the document's answer.
-/
import Derived.Test.YtooimdgoibdhlaaDoorPj
namespace Go.Proofs.YtooimdgoibdhlaaDoor.sc
open Go Go.Proofs.YtooimdgoibdhlaaDoor Go.RowKit
set_option linter.unusedVariables false
set_option linter.unusedSimpArgs false
abbrev z0 : St := (0, 0, [], 0, (0, 0), [])
open Classical in
noncomputable def rdS (line : List UInt8) : St × Int := if 1048576 < line.length then (z0, 3) else if h : ∃ t, May t ∧ ln t = line then (Classical.choose h, 0) else (z0, 390)
theorem rdS_long {line : List UInt8} (h : 1048576 < line.length) : rdS line = (z0, 3) := by unfold rdS; rw [if_pos h]
theorem rdS_yes {line : List UInt8} (h : line.length ≤ 1048576) {s : St} (m : May s) (hs : ln s = line) : rdS line = (s, 0) := by
  unfold rdS
  have he : ∃ t, May t ∧ ln t = line := ⟨s, m, hs⟩
  rw [if_neg (by omega), dif_pos he]
  obtain ⟨h1, h2⟩ := Classical.choose_spec he
  rw [ln_inj h1 m (h2.trans hs.symm)]
theorem rdS_no {line : List UInt8} (h : line.length ≤ 1048576) (hs : ∀ t, May t → ln t ≠ line) : rdS line = (z0, 390) := by
  unfold rdS
  rw [if_neg (by omega), dif_neg]
  rintro ⟨t, h1, h2⟩
  exact hs t h1 h2
theorem sB_z0 : sB z0 := ⟨by decide, by decide, by decide, by decide, by decide⟩
/-! ### What a line's words say -/
theorem wl_t {t : St} (m : May t) {w : List UInt8} {ws : List (List UInt8)} (h : wl t = w :: ws) : w = (if t.1 = 1 then kSend else if t.1 = 2 then kPick else if t.1 = 3 then kFate else if t.1 = 4 then kStop else kOpen) := by
  have := wl_kind m
  rw [h] at this
  simpa using this
theorem wl_cases {t : St} (m : May t) : t.1 = 1 ∨ t.1 = 2 ∨ t.1 = 3 ∨ t.1 = 4 ∨ t.1 = 5 := by
  have a1 := m.k1; have a5 := m.k5; omega
theorem wl_1 {t : St} (m : May t) {ws : List (List UInt8)} (h : wl t = kSend :: ws) : t = (1, t.2.1, t.2.2.1, 0, (0, 0), []) ∧ ws = [dz t.2.1, hexd t.2.2.1] := by
  have h1 := wl_t m h
  have hk : t.1 = 1 := by
    rcases wl_cases m with e | e | e | e | e <;> rw [e] at h1 <;> first | exact e | (exact absurd h1 (by decide))
  obtain ⟨o1, o2, o3, o4, o5⟩ := m.other
  refine ⟨st_eq hk rfl rfl (o3 (by omega)) (o4 (by omega)) (o5 (by omega)), ?_⟩
  unfold wl at h
  rw [if_pos hk] at h
  exact (List.cons.inj h).2.symm
theorem wl_2 {t : St} (m : May t) {ws : List (List UInt8)} (h : wl t = kPick :: ws) : t = (2, 0, [], t.2.2.2.1, (0, 0), []) ∧ ws = [dz t.2.2.2.1] := by
  have h1 := wl_t m h
  have hk : t.1 = 2 := by
    rcases wl_cases m with e | e | e | e | e <;> rw [e] at h1 <;> first | exact e | (exact absurd h1 (by decide))
  obtain ⟨o1, o2, o3, o4, o5⟩ := m.other
  refine ⟨st_eq hk (o1 (by omega)) (o2 (by omega)) rfl (o4 (by omega)) (o5 (by omega)), ?_⟩
  unfold wl at h
  rw [if_neg (by omega), if_pos hk] at h
  exact (List.cons.inj h).2.symm
theorem wl_3 {t : St} (m : May t) {ws : List (List UInt8)} (h : wl t = kFate :: ws) : t = (3, 0, [], 0, (t.2.2.2.2.1.1, t.2.2.2.2.1.2), []) ∧ ((t.2.2.2.2.1.1 = 0 ∧ t.2.2.2.2.1.2 = 0 ∧ ws = [kGood]) ∨ (t.2.2.2.2.1.1 = 1 ∧ ws = [kFail, dz t.2.2.2.2.1.2]) ∨ (t.2.2.2.2.1.1 = 2 ∧ ws = [kFull, dz t.2.2.2.2.1.2])) := by
  have h1 := wl_t m h
  have hk : t.1 = 3 := by
    rcases wl_cases m with e | e | e | e | e <;> rw [e] at h1 <;> first | exact e | (exact absurd h1 (by decide))
  obtain ⟨o1, o2, o3, o4, o5⟩ := m.other
  refine ⟨st_eq hk (o1 (by omega)) (o2 (by omega)) (o3 (by omega)) rfl (o5 (by omega)), ?_⟩
  unfold wl at h
  rw [if_neg (by omega), if_neg (by omega), if_pos hk] at h
  have f := m.fk
  by_cases h0 : t.2.2.2.2.1.1 = 0
  · rw [if_pos h0] at h
    exact .inl ⟨h0, m.fg h0, (List.cons.inj h).2.symm⟩
  · rw [if_neg h0] at h
    have h2 := (List.cons.inj h).2.symm
    by_cases h1 : t.2.2.2.2.1.1 = 1
    · rw [if_pos h1] at h2; exact .inr (.inl ⟨h1, h2⟩)
    · rw [if_neg h1] at h2; exact .inr (.inr ⟨by omega, h2⟩)
theorem wl_4 {t : St} (m : May t) {ws : List (List UInt8)} (h : wl t = kStop :: ws) : t = (4, 0, [], 0, (0, 0), t.2.2.2.2.2) ∧ ws = t.2.2.2.2.2.map dz := by
  have h1 := wl_t m h
  have hk : t.1 = 4 := by
    rcases wl_cases m with e | e | e | e | e <;> rw [e] at h1 <;> first | exact e | (exact absurd h1 (by decide))
  obtain ⟨o1, o2, o3, o4, o5⟩ := m.other
  refine ⟨st_eq hk (o1 (by omega)) (o2 (by omega)) (o3 (by omega)) (o4 (by omega)) rfl, ?_⟩
  unfold wl at h
  rw [if_neg (by omega), if_neg (by omega), if_neg (by omega), if_pos hk] at h
  exact (List.cons.inj h).2.symm
theorem wl_5 {t : St} (m : May t) {ws : List (List UInt8)} (h : wl t = kOpen :: ws) : t = (5, t.2.1, [], 0, (0, 0), []) ∧ ws = [dz t.2.1] := by
  have h1 := wl_t m h
  have hk : t.1 = 5 := by
    rcases wl_cases m with e | e | e | e | e <;> rw [e] at h1 <;> first | exact e | (exact absurd h1 (by decide))
  obtain ⟨o1, o2, o3, o4, o5⟩ := m.other
  refine ⟨st_eq hk rfl (o2 (by omega)) (o3 (by omega)) (o4 (by omega)) (o5 (by omega)), ?_⟩
  unfold wl at h
  rw [if_neg (by omega), if_neg (by omega), if_neg (by omega), if_neg (by omega)] at h
  exact (List.cons.inj h).2.symm
theorem wl_0 {t : St} (m : May t) {w : List UInt8} {ws : List (List UInt8)} (h : wl t = w :: ws) : w = kSend ∨ w = kPick ∨ w = kFate ∨ w = kStop ∨ w = kOpen := by
  have := wl_t m h
  rw [this]
  repeat' split
  all_goals simp
theorem dz_num {n : Int} (hn : 0 ≤ n ∧ n ≤ huge) {r : Int} (hr : ∀ k : Nat, k ≤ 2147483647 → dz n = dec k → r = k) : r = n := by
  have h2 := hn.2
  simp only [huge] at h2
  have := hr n.toNat (by omega) rfl
  omega
/-- What a reader answers: a step in memory of its own. -/
def RD (h : H) (line : List UInt8) : Value → H → Prop := fun v h' => ∃ vb vp, v = .tuple #[.agg (sCs (rdS line).1 vb vp).toArray, .int .i64 (rdS line).2] ∧ sB (rdS line).1 ∧ OwB (fun y => h y = none) h' 5 vb (rdS line).1.2.2.1 ∧
  O1 (fun y => h y = none) h' 3 vp ((rdS line).1.2.2.2.2.2.map (.int .i64)) ∧ (∀ n ∈ (rdS line).1.2.2.2.2.2, inI n) ∧ Ext h h'
theorem RD_zero {h g : H} {line : List UInt8} (E : Ext h g) {e : Int} (hr : rdS line = (z0, e)) : RD h line (.tuple #[.agg (sCs z0 (.slice none 0 0) (.slice none 0 0)).toArray, .int .i64 e]) g := by
  refine ⟨.slice none 0 0, .slice none 0 0, by rw [hr], by rw [hr]; exact sB_z0, by rw [hr]; exact OwK.nil, by rw [hr]; exact OwK.nil, by rw [hr]; simp, E⟩
abbrev z7 : List Value := [.int .i64 0, .int .i64 0, .slice none 0 0, .int .i64 0, .int .i64 0, .int .i64 0, .slice none 0 0]
section
variable {h : H}
theorem DRead_s18 {g : H} {x : St} {line : List UInt8} {p2 ps : Nat} {vb vp : Value} (G : GL h) (E : Ext h g) (hl : line.length ≤ 1048576) (q2 : g p2 = some (.cells z7.toArray 31)) (qs : g ps = some (.cells (sCs x vb vp).toArray 31))
    (hp2 : h p2 = none) (hb : sB x) (ob : OwB (fun y => h y = none) g 5 vb x.2.2.1) (op : O1 (fun y => h y = none) g 3 vp (x.2.2.2.2.2.map (.int .i64))) (hi : ∀ n ∈ x.2.2.2.2.2, inI n) (hpl : x.2.2.2.2.2.length ≤ 4611686018427387904)
    (cand : ∀ t, May t → ln t = line → x = t) :
    vc Tryd.prog c14_s18 (retC [.cn 2 7 31, .t 3] (okR (RD h line))) [(0, sv line), (2, .pointer (some ⟨p2, 0, none⟩)), (6, .pointer (some ⟨ps, 0, none⟩))] g := by
  have A := V7.mk' qs
  have rx : Rep nos stT g (sCs x vb vp) x := rep_st.2 ⟨vb, vp, rfl, hb, ob.s0, iRep op.s0 hi⟩
  have aa := A.all
  have cvb : isCell vb = true := by obtain ⟨a, c, e⟩ := By.len ob.s0; rw [e]; rfl
  have cvp : isCell vp = true := by obtain ⟨a, c, e⟩ := S1.len op.s0; rw [e]; rfl
  simp (disch := omega) only [dm_t, wS, simprocAttr, IntKind.bits, aa]
  refine (DMay_ok rx hpl).k ?_
  rintro _ g2 ⟨rfl, e2⟩
  have E2 := E.trans e2
  cases hm : mayS x with
  | false =>
    have hr : rdS line = (z0, 390) := rdS_no hl fun t mt ht => by
      have := (may_iff t).2 mt
      rw [← cand t mt ht, hm] at this; cases this
    simp (disch := omega) only [dm_t, wS, simprocAttr, IntKind.bits]
    refine storeH_all (e2.at q2) rfl rfl ?_
    have k : cellsAt (hupd g2 p2 (.cells z7.toArray 31)) ⟨p2, 0, none⟩ 7 = some z7.toArray := cellsAt_all (hupd_same _ _ _) 7 rfl
    simp (disch := omega) only [dm_t, wS, simprocAttr, IntKind.bits, k]
    exact RD_zero (Ext.step' E2 (Fr.upd (S := fun y => y = p2) rfl _) fun y hy => by rw [hy]; exact hp2) hr
  | true =>
    have m := (may_iff x).1 hm
    have aa2 := (A.ext e2).all
    simp (disch := omega) only [dm_t, wS, simprocAttr, IntKind.bits, aa2]
    refine (DLine_ok (G.ext E2) (rx.ext e2) m).k ?_
    rintro _ g3 ⟨rfl, e3⟩
    have E3 := E2.trans e3
    have aa3 := ((A.ext e2).ext e3).all
    have q23 := (e2.trans e3).at q2
    by_cases hln : ln x = line
    · have hr : rdS line = (x, 0) := rdS_yes hl m hln
      simp (disch := omega) only [dm_t, wS, simprocAttr, IntKind.bits, toList_mk, hln, aa3]
      refine storeH_all q23 rfl (by simp only [List.all_cons, List.all_nil, cvb, cvp, Bool.and_true]; rfl) ?_
      have f : Fr (fun y => y = p2) g3 (hupd g3 p2 (.cells (sCs x vb vp).toArray 31)) := Fr.upd (S := fun y => y = p2) rfl _
      have k : cellsAt (hupd g3 p2 (.cells (sCs x vb vp).toArray 31)) ⟨p2, 0, none⟩ 7 = some (sCs x vb vp).toArray := cellsAt_all (hupd_same _ _ _) 7 rfl
      have ob3 := ob.ext (e2.trans e3)
      have op3 := op.ext (e2.trans e3)
      have n1 : ¬ isAt vb p2 := OwK.tyno ob3 q23 (by decide)
      have n2 : ¬ isAt vp p2 := OwK.tyno op3 q23 (by decide)
      simp (disch := omega) only [dm_t, wS, simprocAttr, IntKind.bits, k]
      refine ⟨vb, vp, by rw [hr], by rw [hr]; exact hb, by rw [hr]; exact OwK.fr ob3 f (fun y hy _ hat => n1 (by rw [← hy]; exact hat)), by rw [hr]; exact OwK.fr op3 f (fun y hy _ hat => n2 (by rw [← hy]; exact hat)), by rw [hr]; exact hi, ?_⟩
      exact Ext.step' E3 f fun y hy => by rw [hy]; exact hp2
    · have hr : rdS line = (z0, 390) := rdS_no hl fun t mt ht => hln (by rw [cand t mt ht]; exact ht)
      simp (disch := omega) only [dm_t, wS, simprocAttr, IntKind.bits, toList_mk, hln, aa3]
      refine storeH_all q23 rfl rfl ?_
      have k : cellsAt (hupd g3 p2 (.cells z7.toArray 31)) ⟨p2, 0, none⟩ 7 = some z7.toArray := cellsAt_all (hupd_same _ _ _) 7 rfl
      simp (disch := omega) only [dm_t, wS, simprocAttr, IntKind.bits, k]
      exact RD_zero (Ext.step' E3 (Fr.upd (S := fun y => y = p2) rfl _) fun y hy => by rw [hy]; exact hp2) hr
theorem in0 : inI 0 := by decide
theorem in1 : inI 1 := by decide
theorem in2 : inI 2 := by decide
theorem in3 : inI 3 := by decide
theorem in4 : inI 4 := by decide
theorem in5 : inI 5 := by decide
theorem S1.ld {S : Nat → Prop} {g g' : H} {v : Value} {ws : List (List UInt8)} (s : S1 S g v (ws.map sv)) (f : Fr S g g') {i : Nat} {w : List UInt8} (hw : ws[i]? = some w) (kk : IntKind) : ∃ b o, idxV1 1 v (.int kk (i : Int)) = some (.pointer (some ⟨b, o, none⟩)) ∧ cellAt g' ⟨b, o, none⟩ = some (sv w) := by
  have hi := (List.getElem?_eq_some_iff.1 hw)
  obtain ⟨b, o, h1, h2⟩ := S1.load (SlK.fr s f fun x hx => hx) (i := i) (by rw [List.length_map]; exact hi.1) kk
  refine ⟨b, o, h1, ?_⟩
  rw [h2, List.getElem_map, hi.2]
theorem S1.ldA {S : Nat → Prop} {g : H} {v : Value} {ws : List (List UInt8)} (s : S1 S g v (ws.map sv)) {i : Nat} {w : List UInt8} (hw : ws[i]? = some w) (kk : IntKind) : ∃ b o, idxV1 1 v (.int kk (i : Int)) = some (.pointer (some ⟨b, o, none⟩)) ∧ ∀ g', Fr S g g' → cellAt g' ⟨b, o, none⟩ = some (sv w) := by
  obtain ⟨b, o, h1, h2⟩ := S1.ld s (Fr.refl S g) hw kk
  refine ⟨b, o, h1, fun g' f => ?_⟩
  obtain ⟨b', o', h3, h4⟩ := S1.ld s f hw kk
  rw [h1] at h3
  simp only [Option.some.injEq, Value.pointer.injEq, Addr.mk.injEq, and_true] at h3
  obtain ⟨rfl, rfl⟩ := h3
  exact h4
theorem wds_le (s : List UInt8) : ∀ w ∈ wds s, w.length ≤ s.length := by
  induction s with
  | nil => intro w hw; simp [wds] at hw; subst hw; simp
  | cons c r ih =>
    intro w hw
    unfold wds at hw
    split at hw
    · rcases List.mem_cons.1 hw with rfl | hw
      · simp
      · have := ih w hw; simp only [List.length_cons]; omega
    · cases hr : wds r with
      | nil => exact absurd hr (wds_ne r)
      | cons a t =>
        rw [hr] at hw ih
        simp only at hw
        rcases List.mem_cons.1 hw with rfl | hw
        · have := ih a (by simp); simp only [List.length_cons]; omega
        · have := ih w (by simp [hw]); simp only [List.length_cons]; omega
theorem nff : ¬ ([102, 97, 105, 108] : List UInt8) = [102, 117, 108, 108] := by decide
theorem nff' : ¬ ([102, 117, 108, 108] : List UInt8) = [102, 97, 105, 108] := by decide
theorem nss : ¬ ([115, 116, 111, 112] : List UInt8) = [115, 101, 110, 100] := by decide
/-- The document's reader behind its words. -/
theorem DRead_s6 {g : H} {line w0 : List UInt8} {p2 ps : Nat} {vw : Value} {ws : List (List UInt8)} (G : GL h) (E : Ext h g) (hl : line.length ≤ 1048576) (q2 : g p2 = some (.cells z7.toArray 31)) (qs : g ps = some (.cells z7.toArray 31))
    (hp2 : h p2 = none) (hps : h ps = none) (hne : p2 ≠ ps) (hws : wds line = w0 :: ws) (hw : S1 (fun y => y = ps) g vw ((wds line).map sv)) :
    vc Tryd.prog c14_s6 (seqQ Tryd.prog [0, 2, 6] c14_s18 (retC [.cn 2 7 31, .t 3] (okR (RD h line)))) [(0, sv line), (2, .pointer (some ⟨p2, 0, none⟩)), (4, vw), (5, sv (ws.headD [])), (6, .pointer (some ⟨ps, 0, none⟩)), (22, sv w0)] g := by
  obtain ⟨aw, cw, rfl⟩ := S1.len hw
  rw [List.length_map] at hw ⊢
  have hwl := wds_le line
  have hlen : (wds line).length = ws.length + 1 := by rw [hws]; rfl
  have fin : ∀ {g : H} {x : St} {vb vp : Value}, Ext h g → g p2 = some (.cells z7.toArray 31) → g ps = some (.cells (sCs x vb vp).toArray 31) → sB x → OwB (fun y => h y = none) g 5 vb x.2.2.1 → O1 (fun y => h y = none) g 3 vp (x.2.2.2.2.2.map (.int .i64)) → (∀ n ∈ x.2.2.2.2.2, inI n) → x.2.2.2.2.2.length ≤ 4611686018427387904 →
      (∀ t, May t → wl t = w0 :: ws → x = t) → vc Tryd.prog c14_s18 (retC [.cn 2 7 31, .t 3] (okR (RD h line))) [(0, sv line), (2, .pointer (some ⟨p2, 0, none⟩)), (6, .pointer (some ⟨ps, 0, none⟩))] g := fun E q2 qs hb ob op hi hpl cand =>
    DRead_s18 G E hl q2 qs hp2 hb ob op hi hpl fun t mt ht => cand t mt (by rw [← wds_ln t, ht, hws])
  have harg : (ws.headD []).length ≤ 1048576 := by
    cases hx : ws with
    | nil => simp
    | cons a t => have := hwl a (by rw [hws, hx]; simp); simp only [List.headD_cons]; omega
  -- a candidate without lists
  have fin0 : ∀ {g' : H} {cs : List Value} {x : St}, hupd g ps (.cells cs.toArray 31) = g' → cs = sCs x (.slice none 0 0) (.slice none 0 0) → sB x → x.2.2.1 = [] → x.2.2.2.2.2 = [] → (∀ t, May t → wl t = w0 :: ws → x = t) →
      vc Tryd.prog c14_s18 (retC [.cn 2 7 31, .t 3] (okR (RD h line))) [(0, sv line), (2, .pointer (some ⟨p2, 0, none⟩)), (6, .pointer (some ⟨ps, 0, none⟩))] g' := by
    rintro g' cs x hg rfl hb h1 h2 cand
    subst hg
    have f : Fr (fun y => y = ps) g (hupd g ps (.cells (sCs x (.slice none 0 0) (.slice none 0 0)).toArray 31)) := Fr.upd (S := fun y => y = ps) rfl _
    refine fin (Ext.step' E f fun y hy => by rw [hy]; exact hps) (by rw [hupd_ne _ _ hne]; exact q2) (hupd_same _ _ _) hb (by rw [h1]; exact OwK.nil) (by rw [h2]; exact OwK.nil) (by rw [h2]; simp) (by rw [h2]; simp) cand
  by_cases k1 : w0 = kSend
  · subst k1
    simp (disch := omega) only [dm_t, wS, simprocAttr, IntKind.bits, toList_mk, storeH_0 qs, storeH_same, hupd_hupd]
    refine (number_ok _ (ws.headD []) harg).k ?_
    rintro _ _ ⟨⟨r, rfl, hri, hr⟩, rfl⟩
    by_cases h2 : 2 < (wds line).length
    · obtain ⟨a, b, rest, rfl⟩ : ∃ a b rest, ws = a :: b :: rest := by
        cases ws with
        | nil => simp at hlen; omega
        | cons a t =>
          cases t with
          | nil => simp at hlen; omega
          | cons b rest => exact ⟨a, b, rest, rfl⟩
      obtain ⟨bw, ow, i1, t1⟩ := S1.ldA hw (i := 2) (w := b) (by rw [hws]; rfl) .i64
      replace i1 : idxV1 1 (.slice aw (wds line).length cw) (.int .i64 2) = some (.pointer (some ⟨bw, ow, none⟩)) := i1
      have t2 : ∀ o, cellAt (hupd g ps o) ⟨bw, ow, none⟩ = some (sv b) := fun o => t1 _ (Fr.upd (S := fun y => y = ps) rfl _)
      have hbl : b.length ≤ 1048576 := by have := hwl b (by rw [hws]; simp); omega
      simp (disch := omega) only [dm_t, wS, simprocAttr, IntKind.bits, toList_mk, storeH_0 qs, storeH_same, hupd_hupd, i1, t2]
      generalize hG : hupd g ps _ = g2
      have q2s : g2 ps = some (.cells #[.int .i64 1, .int .i64 r, .slice none 0 0, .int .i64 0, .int .i64 0, .int .i64 0, .slice none 0 0] 31) := by rw [← hG, hupd_same]
      have f2 : Fr (fun y => y = ps) g g2 := by rw [← hG]; exact Fr.upd (S := fun y => y = ps) rfl _
      have E2 : Ext h g2 := Ext.step' E f2 fun y hy => by rw [hy]; exact hps
      have q22 : g2 p2 = some (.cells z7.toArray 31) := by rw [← hG, hupd_ne _ _ hne]; exact q2
      clear hG
      refine (bytes_ok g2 b hbl).k ?_
      rintro vb g3 ⟨⟨l, ob, hbl2, hbm⟩, e3⟩
      have cvb : isCell vb = true := by obtain ⟨a, c, e⟩ := By.len ob.s0; rw [e]; rfl
      simp (disch := omega) only [dm_t, wS, simprocAttr, IntKind.bits, storeH_0 (e3.at q2s), cvb]
      generalize hG : hupd g3 ps _ = g4
      have f4 : Fr (fun y => y = ps) g3 g4 := by rw [← hG]; exact Fr.upd (S := fun y => y = ps) rfl _
      have n1 : ¬ isAt vb ps := OwK.tyno ob (e3.at q2s) (by decide)
      have ob4 : OwB (fun y => h y = none) g4 5 vb l := OwK.fr (OwK.mono ob fun y o hy hn => E2.bk hn) f4 fun y hy _ hat => n1 (by rw [← hy]; exact hat)
      have k := fin (g := g4) (x := (1, r, l, 0, (0, 0), [])) (vb := vb) (vp := .slice none 0 0) (Ext.step' (E2.trans e3) f4 fun y hy => by rw [hy]; exact hps) (by rw [← hG, hupd_ne _ _ hne]; exact e3.at q22) (by rw [← hG, hupd_same]) ⟨in1, hri, in0, in0, in0⟩ ob4 OwK.nil (by simp) (by simp) (fun t mt ht => by
        obtain ⟨h1, h2⟩ := wl_1 mt ht
        simp only [List.cons.injEq] at h2
        obtain ⟨ha, hb, -⟩ := h2
        rw [List.headD_cons, ha] at hr
        have hr2 := dz_num ⟨mt.cl.1, by have := mt.cl.2; simp only [huge]; omega⟩ hr
        have hl2 : l = t.2.2.1 := by
          rw [hb] at hbm hbl2
          by_cases h0 : t.2.2.1 = []
          · rw [h0] at hbl2 ⊢
            exact List.length_eq_zero_iff.1 (by rw [hbl2]; rfl)
          · exact hbm _ (by unfold hexd; rw [if_neg h0])
        rw [h1, hr2, hl2])
      clear hG
      revert k
      simp (disch := omega) only [dm_t, wS, simprocAttr, IntKind.bits]
      exact id
    · simp (disch := omega) only [dm_t, wS, simprocAttr, IntKind.bits, toList_mk, storeH_0 qs, storeH_same, hupd_hupd]
      generalize hG : hupd g ps _ = g2
      have k := fin0 (x := (1, r, [], 0, (0, 0), [])) hG (by simp [sCs]) ⟨in1, hri, in0, in0, in0⟩ rfl rfl (fun t mt ht => by
        have := (wl_1 mt ht).2
        rw [hlen, this] at h2
        simp at h2)
      revert k
      simp (disch := omega) only [dm_t, wS, simprocAttr, IntKind.bits]
      exact id
  by_cases k2 : w0 = kPick
  · subst k2
    simp (disch := omega) only [dm_t, wS, simprocAttr, IntKind.bits, toList_mk, storeH_0 qs, storeH_same, hupd_hupd]
    refine (number_ok _ (ws.headD []) harg).k ?_
    rintro _ _ ⟨⟨r, rfl, hri, hr⟩, rfl⟩
    simp (disch := omega) only [dm_t, wS, simprocAttr, IntKind.bits, toList_mk, storeH_0 qs, storeH_same, hupd_hupd]
    generalize hG : hupd g ps _ = g2
    have k := fin0 (x := (2, 0, [], r, (0, 0), [])) hG (by simp [sCs]) ⟨in2, in0, hri, in0, in0⟩ rfl rfl (fun t mt ht => by
      obtain ⟨h1, h2⟩ := wl_2 mt ht
      rw [h2] at hr
      rw [h1, dz_num mt.pk hr])
    revert k
    simp (disch := omega) only [dm_t, wS, simprocAttr, IntKind.bits]
    exact id
  by_cases k5 : w0 = kOpen
  · subst k5
    simp (disch := omega) only [dm_t, wS, simprocAttr, IntKind.bits, toList_mk, storeH_0 qs, storeH_same, hupd_hupd]
    refine (number_ok _ (ws.headD []) harg).k ?_
    rintro _ _ ⟨⟨r, rfl, hri, hr⟩, rfl⟩
    simp (disch := omega) only [dm_t, wS, simprocAttr, IntKind.bits, toList_mk, storeH_0 qs, storeH_same, hupd_hupd]
    generalize hG : hupd g ps _ = g2
    have k := fin0 (x := (5, r, [], 0, (0, 0), [])) hG (by simp [sCs]) ⟨in5, hri, in0, in0, in0⟩ rfl rfl (fun t mt ht => by
      obtain ⟨h1, h2⟩ := wl_5 mt ht
      rw [h2] at hr
      rw [h1, dz_num ⟨mt.cl.1, by have := mt.cl.2; simp only [huge]; omega⟩ hr])
    revert k
    simp (disch := omega) only [dm_t, wS, simprocAttr, IntKind.bits]
    exact id
  by_cases k4 : w0 = kStop
  · subst k4
    have hwA : S1 (fun y => y = ps ∨ g y = none) g (.slice aw (wds line).length cw) ((wds line).map sv) := SlK.mono hw fun y o hy hT => hT.resolve_right fun hn => by rw [hn] at hy; cases hy
    simp (disch := omega) only [dm_t, wS, simprocAttr, IntKind.bits, toList_mk, nss, storeH_0 qs, storeH_same, hupd_hupd]
    generalize hG : hupd g ps _ = g1
    have f1 : Fr (fun y => y = ps ∨ g y = none) g g1 := by rw [← hG]; exact Fr.upd (S := fun y => y = ps ∨ g y = none) (.inl rfl) _
    have E1 : Ext h g1 := Ext.step' E f1 fun y hy => by
      rcases hy with hy | hy
      · rw [hy]; exact hps
      · exact E.bk hy
    refine vc_loop1 (fun vi g' => ∃ (i : Nat) (rs : List Int) (vp : Value), vi = .int .i64 ((i + 1 : Nat) : Int) ∧ i ≤ ws.length ∧ rs.length = i ∧ Fr (fun y => y = ps ∨ g y = none) g g' ∧ Ext h g' ∧ g' p2 = some (.cells z7.toArray 31) ∧
      g' ps = some (.cells (sCs (4, 0, [], 0, (0, 0), rs) (.slice none 0 0) vp).toArray 31) ∧ O1 (fun y => g y = none) g' 3 vp (rs.map (.int .i64)) ∧ (∀ n ∈ rs, inI n) ∧ ∀ (j : Nat) (n : Nat), n ≤ 2147483647 → j < i → ws[j]? = some (dec n) → rs[j]? = some (n : Int)) (fun vi _ => ws.length + 1 - m1 vi) ?_ ?_
    · simp (disch := omega) only [dm_t, wS, simprocAttr, IntKind.bits]
      refine ⟨0, [], .slice none 0 0, rfl, by omega, rfl, f1, E1, by rw [← hG, hupd_ne _ _ hne]; exact q2, by rw [← hG, hupd_same], OwK.nil, by simp, fun j n _ hj => by omega⟩
    clear hG f1 E1
    rintro _ g' ⟨i, rs, vp, rfl, hi, hrl, f, E', q2', qs', op, hri, hrs⟩
    have cvp : isCell vp = true := by obtain ⟨a, c, e⟩ := S1.len op.s0; rw [e]; rfl
    have c6 : cellAt g' ⟨ps, 6, none⟩ = some vp := cells_of qs' 6 rfl
    have hln : (wds line).length ≤ 1048577 := by
      have h1 := wds_len line
      have h2 : cnt 32 line ≤ line.length := List.countP_le_length
      omega
    have hbk : ∀ y, g' y = none → g y = none := by
      intro y hy
      cases hgy : g y with
      | none => rfl
      | some o =>
        exfalso
        by_cases hyp : y = ps
        · rw [hyp, qs'] at hy; cases hy
        · rw [f y o hgy (fun hh => hh.elim hyp fun hn => by rw [hgy] at hn; cases hn)] at hy; cases hy
    by_cases hil : i < ws.length
    · have hwi : (wds line)[i + 1]? = some ws[i] := by rw [hws, List.getElem?_cons_succ, List.getElem?_eq_getElem hil]
      obtain ⟨bw, ow, i1, t1⟩ := S1.ldA hwA hwi .i64
      have t2 := t1 g' f
      have hbl : (ws[i]).length ≤ 1048576 := by have := hwl ws[i] (by rw [hws]; simp); omega
      simp (disch := omega) only [dm_t, wS, simprocAttr, IntKind.bits, i1, t2, c6]
      refine (number_ok g' ws[i] hbl).k ?_
      rintro _ _ ⟨⟨r, rfl, hrI, hr⟩, rfl⟩
      simp (disch := omega) only [dm_t, wS, simprocAttr, IntKind.bits, i1, t2, c6]
      intro bl hbn
      refine ⟨cellAt_ext (Ext.new hbn _) c6, ?_⟩
      refine push1 (V := fun _ => _) op hbk rfl (by rw [List.length_map]; omega) (by rw [List.length_map]; omega) ?_ bl hbn
      intro _ v g2 _ op2 f2
      have n1 : ¬ isAt vp ps := OwK.tyno op qs' (by decide)
      have n2 : ¬ isAt vp p2 := OwK.tyno op q2' (by decide)
      have qs2 := f2 _ _ qs' (fun hh => n1 hh.2)
      have q22 := f2 _ _ q2' (fun hh => n2 hh.2)
      have cv : isCell v = true := by obtain ⟨a, c, e⟩ := S1.len op2.s0; rw [e]; rfl
      have n3 : ¬ isAt v ps := OwK.tyno op2 qs2 (by decide)
      simp (disch := omega) only [dm_t, wS, simprocAttr, IntKind.bits, storeH_0 qs2, cv]
      generalize hG : hupd g2 ps _ = g3
      have f3 : Fr (fun y => y = ps) g2 g3 := by rw [← hG]; exact Fr.upd (S := fun y => y = ps) rfl _
      have op3 : O1 (fun y => g y = none) g3 3 v ((rs ++ [r]).map (.int .i64)) := by
        rw [List.map_append]
        exact OwK.fr op2 f3 fun y hy _ hat => n3 (by rw [← hy]; exact hat)
      have fg : Fr (fun y => y = ps ∨ g y = none) g g3 := by
        exact Fr.trans f (Fr.trans (f2.mono fun y hy => .inr hy.1) (f3.mono fun y hy => .inl hy))
      refine ⟨⟨i + 1, rs ++ [r], v, by congr 1 <;> omega, by omega, by simp [hrl], fg, Ext.step' (Ext.step' E' f2 fun y hy => E.bk hy.1) f3 fun y hy => by rw [hy]; exact hps, by rw [← hG, hupd_ne _ _ hne]; exact q22, by rw [← hG, hupd_same], op3, ?_, ?_⟩, by simp [m1] <;> omega⟩
      · intro n hn
        rcases List.mem_append.1 hn with hn | hn
        · exact hri n hn
        · simp only [List.mem_cons, List.not_mem_nil, or_false] at hn
          rw [hn]; exact hrI
      · intro j n hn hj hjw
        by_cases hji : j < i
        · rw [List.getElem?_append_left (by omega)]
          exact hrs j n hn hji hjw
        · obtain rfl : j = i := by omega
          rw [List.getElem?_eq_getElem hil, Option.some.injEq] at hjw
          rw [List.getElem?_append_right (by omega), hrl, Nat.sub_self]
          rw [hr n hn hjw]; rfl
    · obtain rfl : i = ws.length := by omega
      have k := fin (g := g') (x := (4, 0, [], 0, (0, 0), rs)) (vb := .slice none 0 0) (vp := vp) E' q2' qs' ⟨in4, in0, in0, in0, in0⟩ OwK.nil (OwK.mono op fun y o hy hn => E.bk hn) hri (by rw [hrl]; omega) (fun t mt ht => by
        obtain ⟨h1, h2⟩ := wl_4 mt ht
        rw [h1]
        have : rs = t.2.2.2.2.2 := by
          apply List.ext_getElem?
          intro j
          by_cases hj : j < ws.length
          · have hj2 : j < t.2.2.2.2.2.length := by rw [h2, List.length_map] at hj; exact hj
            have hm := mt.pa _ (List.getElem_mem hj2)
            have hm2 := hm.2
            simp only [huge] at hm2
            have := hrs j (t.2.2.2.2.2[j]).toNat (by omega) hj (by rw [h2, List.getElem?_map, List.getElem?_eq_getElem hj2]; rfl)
            rw [this, List.getElem?_eq_getElem hj2, Int.toNat_of_nonneg hm.1]
          · have hj2 : ¬ j < t.2.2.2.2.2.length := by rw [h2, List.length_map] at hj; exact hj
            rw [List.getElem?_eq_none (by omega), List.getElem?_eq_none (by omega)]
        rw [this])
      revert k
      simp (disch := omega) only [dm_t, wS, simprocAttr, IntKind.bits]
      exact id
  by_cases k3 : w0 = kFate
  · subst k3
    by_cases h2 : 2 < (wds line).length
    · obtain ⟨a, b, rest, rfl⟩ : ∃ a b rest, ws = a :: b :: rest := by
        cases ws with
        | nil => simp at hlen; omega
        | cons a t =>
          cases t with
          | nil => simp at hlen; omega
          | cons b rest => exact ⟨a, b, rest, rfl⟩
      obtain ⟨bw, ow, i1, t1⟩ := S1.ldA hw (i := 2) (w := b) (by rw [hws]; rfl) .i64
      replace i1 : idxV1 1 (.slice aw (wds line).length cw) (.int .i64 2) = some (.pointer (some ⟨bw, ow, none⟩)) := i1
      have t2 : ∀ o, cellAt (hupd g ps o) ⟨bw, ow, none⟩ = some (sv b) := fun o => t1 _ (Fr.upd (S := fun y => y = ps) rfl _)
      have hbl : b.length ≤ 1048576 := by have := hwl b (by rw [hws]; simp); omega
      simp only [List.headD_cons] at fin0 ⊢
      by_cases ha : a = kFail
      · subst ha
        simp (disch := omega) only [dm_t, wS, simprocAttr, IntKind.bits, toList_mk, nff, nff', storeH_0 qs, storeH_same, hupd_hupd, i1, t2]
        refine (number_ok _ b hbl).k ?_
        rintro _ _ ⟨⟨r, rfl, hri, hr⟩, rfl⟩
        simp (disch := omega) only [dm_t, wS, simprocAttr, IntKind.bits, storeH_0 qs, storeH_same, hupd_hupd]
        generalize hG : hupd g ps _ = g2
        have k := fin0 (x := (3, 0, [], 0, (1, r), [])) hG (by simp [sCs]) ⟨in3, in0, in0, in1, hri⟩ rfl rfl (fun t mt ht => by
          obtain ⟨h1, ⟨_, _, h2⟩ | ⟨hf, h2⟩ | ⟨_, h2⟩⟩ := wl_3 mt ht
          · simp at h2
          · simp only [List.cons.injEq] at h2
            rw [h2.2.1] at hr
            rw [h1, hf, dz_num mt.fp hr]
          · simp at h2)
        revert k
        simp (disch := omega) only [dm_t, wS, simprocAttr, IntKind.bits]
        exact id
      by_cases hb : a = kFull
      · subst hb
        simp (disch := omega) only [dm_t, wS, simprocAttr, IntKind.bits, toList_mk, nff, nff', storeH_0 qs, storeH_same, hupd_hupd, i1, t2]
        refine (number_ok _ b hbl).k ?_
        rintro _ _ ⟨⟨r, rfl, hri, hr⟩, rfl⟩
        simp (disch := omega) only [dm_t, wS, simprocAttr, IntKind.bits, storeH_0 qs, storeH_same, hupd_hupd]
        generalize hG : hupd g ps _ = g2
        have k := fin0 (x := (3, 0, [], 0, (2, r), [])) hG (by simp [sCs]) ⟨in3, in0, in0, in2, hri⟩ rfl rfl (fun t mt ht => by
          obtain ⟨h1, ⟨_, _, h2⟩ | ⟨hf, h2⟩ | ⟨hf, h2⟩⟩ := wl_3 mt ht
          · simp at h2
          · simp at h2
          · simp only [List.cons.injEq] at h2
            rw [h2.2.1] at hr
            rw [h1, hf, dz_num mt.fp hr])
        revert k
        simp (disch := omega) only [dm_t, wS, simprocAttr, IntKind.bits]
        exact id
      simp (disch := omega) only [dm_t, wS, simprocAttr, IntKind.bits, toList_mk, nff, nff', storeH_0 qs, storeH_same, hupd_hupd, i1, t2, ha, hb]
      refine (number_ok _ b hbl).k ?_
      rintro _ _ ⟨⟨r, rfl, hri, hr⟩, rfl⟩
      simp (disch := omega) only [dm_t, wS, simprocAttr, IntKind.bits, storeH_0 qs, storeH_same, hupd_hupd]
      generalize hG : hupd g ps _ = g2
      have k := fin0 (x := (3, 0, [], 0, (0, r), [])) hG (by simp [sCs]) ⟨in3, in0, in0, in0, hri⟩ rfl rfl (fun t mt ht => by
        obtain ⟨h1, ⟨_, _, h2⟩ | ⟨hf, h2⟩ | ⟨hf, h2⟩⟩ := wl_3 mt ht
        · simp at h2
        · simp only [List.cons.injEq] at h2
          exact absurd h2.1 ha
        · simp only [List.cons.injEq] at h2
          exact absurd h2.1 hb)
      revert k
      simp (disch := omega) only [dm_t, wS, simprocAttr, IntKind.bits]
      exact id
    · have hno : ∀ t, May t → wl t = kFate :: ws → t = (3, 0, [], 0, (0, 0), []) ∧ ws = [kGood] := by
        intro t mt ht
        obtain ⟨h1, ⟨hf, hg, h3⟩ | ⟨hf, h3⟩ | ⟨hf, h3⟩⟩ := wl_3 mt ht
        · rw [hf, hg] at h1
          exact ⟨h1, h3⟩
        · rw [hlen, h3] at h2; simp at h2
        · rw [hlen, h3] at h2; simp at h2
      by_cases ha : ws.headD [] = kFail
      · have ha' : ws.headD [] = [102, 97, 105, 108] := ha
        simp (disch := omega) only [dm_t, wS, simprocAttr, IntKind.bits, toList_mk, nff, nff', storeH_0 qs, storeH_same, hupd_hupd, ha']
        generalize hG : hupd g ps _ = g2
        have k := fin0 (x := (3, 0, [], 0, (1, 0), [])) hG (by simp [sCs]) ⟨in3, in0, in0, in1, in0⟩ rfl rfl (fun t mt ht => by
          rw [(hno t mt ht).2] at ha
          exact absurd ha (by decide))
        revert k
        simp (disch := omega) only [dm_t, wS, simprocAttr, IntKind.bits]
        exact id
      by_cases hb : ws.headD [] = kFull
      · have hb' : ws.headD [] = [102, 117, 108, 108] := hb
        simp (disch := omega) only [dm_t, wS, simprocAttr, IntKind.bits, toList_mk, nff, nff', storeH_0 qs, storeH_same, hupd_hupd, hb']
        generalize hG : hupd g ps _ = g2
        have k := fin0 (x := (3, 0, [], 0, (2, 0), [])) hG (by simp [sCs]) ⟨in3, in0, in0, in2, in0⟩ rfl rfl (fun t mt ht => by
          rw [(hno t mt ht).2] at hb'
          exact absurd hb' (by decide))
        revert k
        simp (disch := omega) only [dm_t, wS, simprocAttr, IntKind.bits]
        exact id
      simp (disch := omega) only [dm_t, wS, simprocAttr, IntKind.bits, toList_mk, nff, nff', storeH_0 qs, storeH_same, hupd_hupd, ha, hb]
      generalize hG : hupd g ps _ = g2
      have k := fin0 (x := (3, 0, [], 0, (0, 0), [])) hG (by simp [sCs]) ⟨in3, in0, in0, in0, in0⟩ rfl rfl (fun t mt ht => (hno t mt ht).1.symm)
      revert k
      simp (disch := omega) only [dm_t, wS, simprocAttr, IntKind.bits]
      exact id
  have k := fin (x := z0) (vb := .slice none 0 0) (vp := .slice none 0 0) E q2 qs sB_z0 OwK.nil OwK.nil (by simp) (by simp) (fun t mt ht => by
    rcases wl_0 mt ht with h | h | h | h | h
    · exact absurd h k1
    · exact absurd h k2
    · exact absurd h k3
    · exact absurd h k4
    · exact absurd h k5)
  revert k
  simp (disch := omega) only [dm_t, wS, simprocAttr, IntKind.bits, toList_mk, k1, k2, k3, k4, k5]
  exact id
end
end Go.Proofs.YtooimdgoibdhlaaDoor.sc
namespace Go.Proofs.YtooimdgoibdhlaaDoor.sc
open Go Go.Proofs.YtooimdgoibdhlaaDoor Go.RowKit
set_option linter.unusedVariables false
set_option linter.unusedSimpArgs false
theorem DRead_ok {h : H} (G : GL h) (line : List UInt8) (hl63 : line.length ≤ 9223372036854775807) : Ok Tryd.prog 14 #[sv line] h (RD h line) := by
  refine c14_ok (args := [_]) (by simp) ?_
  simp (disch := omega) only [dm_t, wS, simprocAttr, IntKind.bits]
  intro p2 hp2
  generalize hG : hupd h p2 _ = g1
  obtain ⟨e1, q2⟩ := new_ext hG hp2
  clear hG
  by_cases hl : line.length ≤ 1048576
  case neg =>
    have hr : rdS line = (z0, 3) := rdS_long (by omega)
    simp (disch := omega) only [dm_t, wS, simprocAttr, IntKind.bits, size_mk]
    refine storeH_all q2 rfl rfl ?_
    have k : cellsAt (hupd g1 p2 (.cells z7.toArray 31)) ⟨p2, 0, none⟩ 7 = some z7.toArray := cellsAt_all (hupd_same _ _ _) 7 rfl
    simp (disch := omega) only [dm_t, wS, simprocAttr, IntKind.bits, k]
    exact RD_zero (Ext.step' e1 (Fr.upd (S := fun y => y = p2) rfl _) fun y hy => by rw [hy]; exact hp2) hr
  simp (disch := omega) only [dm_t, wS, simprocAttr, IntKind.bits, size_mk]
  refine (words_ok g1 line hl).k ?_
  rintro vw g2 ⟨ow, e2⟩
  obtain ⟨w0, ws, hws⟩ : ∃ w0 ws, wds line = w0 :: ws := by
    cases h : wds line with
    | nil => exact absurd h (wds_ne line)
    | cons a t => exact ⟨a, t, rfl⟩
  have hlen : (wds line).length = ws.length + 1 := by rw [hws]; rfl
  have E2 := e1.trans e2
  have hw : S1 (fun y => g2 y = none) g2 vw ((wds line).map sv) := SlK.old (ow.s0) fun _ h => h
  obtain ⟨aw, cw, rfl⟩ := S1.len hw
  rw [List.length_map] at hw ⊢
  obtain ⟨bw, o0, i0, t0⟩ := S1.ldA hw (i := 0) (w := w0) (by rw [hws]; rfl) .i64
  replace i0 : idxV1 1 (.slice aw (wds line).length cw) (.int .i64 0) = some (.pointer (some ⟨bw, o0, none⟩)) := i0
  have fin : ∀ ps, g2 ps = none → ∀ g3, hupd g2 ps (.cells z7.toArray 31) = g3 →
      vc Tryd.prog c14_s6 (seqQ Tryd.prog [0, 2, 6] c14_s18 (retC [.cn 2 7 31, .t 3] (okR (RD h line)))) [(0, sv line), (2, .pointer (some ⟨p2, 0, none⟩)), (4, .slice aw (wds line).length cw), (5, sv (ws.headD [])), (6, .pointer (some ⟨ps, 0, none⟩)), (22, sv w0)] g3 ∧ cellAt g3 ⟨bw, o0, none⟩ = some (sv w0) := by
    rintro ps hps g3 rfl
    have e3 : Ext g2 (hupd g2 ps (.cells z7.toArray 31)) := Ext.new hps _
    refine ⟨DRead_s6 G (E2.trans e3) hl (e3.at (e2.at q2)) (hupd_same _ _ _) hp2 (E2.bk hps) (fun he => by rw [← he, e2.at q2] at hps; cases hps) hws ?_, t0 _ ((Ext.new hps _).mono fun _ h => h.elim)⟩
    refine SlK.mono (SlK.fr hw ((Ext.new hps _).mono fun _ h => h.elim) fun _ h => h) fun y o hy hyp => by rw [hyp]; exact hps
  cases ws with
  | nil =>
    rw [List.length_nil] at hlen
    simp (disch := omega) only [dm_t, wS, simprocAttr, IntKind.bits]
    intro ps hps
    obtain ⟨k, c0⟩ := fin ps hps _ rfl
    generalize hupd g2 ps _ = g3 at k c0 ⊢
    revert k
    simp (disch := omega) only [dm_t, wS, simprocAttr, IntKind.bits, i0, c0, List.headD_nil]
    exact id
  | cons a t =>
    obtain ⟨ba, oa, i1, t1⟩ := S1.ldA hw (i := 1) (w := a) (by rw [hws]; rfl) .i64
    replace i1 : idxV1 1 (.slice aw (wds line).length cw) (.int .i64 1) = some (.pointer (some ⟨ba, oa, none⟩)) := i1
    have c1 := t1 g2 (Fr.refl _ _)
    rw [List.length_cons] at hlen
    simp (disch := omega) only [dm_t, wS, simprocAttr, IntKind.bits, i1, c1]
    intro ps hps
    obtain ⟨k, c0⟩ := fin ps hps _ rfl
    generalize hupd g2 ps _ = g3 at k c0 ⊢
    revert k
    simp (disch := omega) only [dm_t, wS, simprocAttr, IntKind.bits, i0, c0, List.headD_cons]
    exact id
end Go.Proofs.YtooimdgoibdhlaaDoor.sc
