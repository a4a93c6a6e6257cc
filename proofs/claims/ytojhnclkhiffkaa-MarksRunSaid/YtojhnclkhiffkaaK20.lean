/-
  Draws with new variables in any order; stores and loads by looking at the heap's own term; numbers in a row.
-/
import Derived.Test.YtojhnclkhiffkaaK19
namespace Go.Proofs.Ytojhnclkhiffkaa
set_option linter.unusedVariables false
set_option linter.unusedSimpArgs false

theorem hupd_none {h : H} {b x : Nat} {o : Obj} : hupd h b o x = none ↔ x ≠ b ∧ h x = none := by
  unfold hupd
  by_cases hx : x = b
  · subst hx; simp
  · simp [hx]
theorem Ext.upd {h g : H} {b : Nat} {o : Obj} (e : Ext h g) (hb : h b = none) : Ext h (hupd g b o) := fun x o' hx hn => by
  rw [hupd_ne]
  · exact e x o' hx hn
  · rintro rfl; rw [hb] at hx; cases hx
theorem Fr.upd' {S : Nat → Prop} {h g : H} {b : Nat} {o : Obj} (e : Fr S h g) (hb : S b ∨ h b = none) : Fr S h (hupd g b o) := fun x o' hx hn => by
  rw [hupd_ne]
  · exact e x o' hx hn
  · rintro rfl
    rcases hb with hb | hb
    · exact hn hb
    · rw [hb] at hx; cases hx
theorem new_ext {g G : H} {a : Nat} {o : Obj} (hG : hupd g a o = G) (ha : g a = none) : Ext g G ∧ G a = some o := by
  subst hG; exact ⟨Ext.new ha o, hupd_same _ _ _⟩
/-- A store, by what the heap's term says of its block. -/
def stO (ob : Option Obj) (h : H) (b o : Nat) (v : Value) (K : H → Prop) : Prop :=
  match ob with
  | some (.cells c E fr) => (fr.2 ≤ o ∨ o + 1 ≤ fr.1) ∧ o < c.size ∧ isCell v = true ∧ K (hupd h b (.cells (c.setIfInBounds o v) E fr))
  | some x => match oneOf x with
    | some (i, _, n, E) => o = i ∧ i < n ∧ isCell v = true ∧ K (hupd h b (oneO i v n E))
    | none => False
  | none => False
theorem storeH_look (h : H) (b o : Nat) (v : Value) (K : H → Prop) : storeH h ⟨b, o, none⟩ [v] K = stO (h b) h b o v K := by
  unfold storeH stO
  rw [if_neg (by simp)]
  cases hb : h b with
  | none => rfl
  | some ob =>
    cases ob with
    | cells c E fr => simp [splice, Nat.lt_iff_add_one_le]
    | deferred l =>
      show (match oneOf (.deferred l) with | some (i, _, n, E) => _ | none => False) = (match oneOf (.deferred l) with | some (i, _, n, E) => _ | none => False)
      split
      · simp only [eq_iff_iff, List.length_cons, List.length_nil, List.all_cons, List.all_nil, Bool.and_true, List.headD_cons, true_and]
      · rfl
    | _ => rfl
@[congr] theorem cg_stO {ob ob' : Option Obj} {h : H} {b o : Nat} {v : Value} {K : H → Prop} (hb : ob = ob') {d : Prop} (hd : dm = d) : stO ob h b o v K = stO ob' h b o v K := by rw [hb]
theorem stO_0 (c : Array Value) (E : TypeId) (h : H) (b o : Nat) (v : Value) (K : H → Prop) : stO (some (.cells c E)) h b o v K = (o < c.size ∧ isCell v = true ∧ K (hupd h b (.cells (c.setIfInBounds o v) E))) := by
  simp [stO]
theorem stO_1 (i n : Nat) (u : Value) (E : TypeId) (h : H) (b o : Nat) (v : Value) (K : H → Prop) : stO (some (oneO i u n E)) h b o v K = (o = i ∧ i < n ∧ isCell v = true ∧ K (hupd h b (oneO i v n E))) := rfl
/-- A load, likewise. -/
def cellO (ob : Option Obj) (o : Nat) : Option Value :=
  match ob with
  | some (.cells c _ _) => c[o]?
  | some x => match oneOf x with
    | some (i, v, _, _) => if o = i then some v else none
    | none => none
  | none => none
theorem cellAt_look (h : H) (b o : Nat) : cellAt h ⟨b, o, none⟩ = cellO (h b) o := by
  unfold cellAt cellO
  simp
  cases h b with
  | none => rfl
  | some ob => cases ob <;> rfl
theorem cellO_0 (c : Array Value) (E : TypeId) (fr : Nat × Nat) (o : Nat) : cellO (some (.cells c E fr)) o = c[o]? := rfl
theorem cellO_1 (i n : Nat) (v : Value) (E : TypeId) : cellO (some (oneO i v n E)) i = some v := by
  show (if i = i then some v else none) = some v
  rw [if_pos rfl]

/-! The walk's rules without those that go into a next block. -/
theorem wV : type_of% (And.intro @br_T (And.intro @br_F (And.intro @seqQ_normal (And.intro @seqQ_ret (And.intro @seqQ_exit (And.intro @seqQ_panic (And.intro @condM_t (And.intro @condM_f (And.intro @condM_bool (And.intro @blockQ_normal (And.intro @blockQ_ret (And.intro @blockQ_panic (And.intro @blockQ_exit (And.intro @vcOps_nil (And.intro @vcOps_cons (And.intro @guardM_none (And.intro @guardM_some (And.intro @gM_undef (And.intro @gM_tt (And.intro @gM_tf (And.intro @gM_ft (And.intro @gM_ff (And.intro @gM_t (And.intro @gM_f (And.intro @vcDT_done (And.intro @vcDT_q (And.intro @pushS_ld (And.intro @pushS_ldn (And.intro @vcDT_e (And.intro @vcDT_al (And.intro @stab_nil (And.intro @memN_nil (And.intro @memN_cons (And.intro @stab_cons (And.intro @opt_some (And.intro @opt_none (And.intro @get_cons (And.intro @get_nil (And.intro @ev_tmp (And.intro @ev_const (And.intro @ev_global (And.intro @ev_func (And.intro @put_some (And.intro @put_none (And.intro @keep_nil (And.intro @keep_cons (And.intro @keepM_some (And.intro @keepM_none (And.intro @evs_nil (And.intro @evp_nil (And.intro @argEnv_nil (And.intro @argEnv_cons (And.intro @retQ_ret (And.intro @retQ_normal (And.intro @retM_one (And.intro @retM_nil (And.intro @retM_two (And.intro @retQ_panic (And.intro @ret_ok (And.intro @lM_mv (And.intro @lM_pick (And.intro @lM_agg (And.intro @lM_ld (And.intro @lM_ldn (And.intro @lM_nilck (And.intro @lM_bin (And.intro @lM_un (And.intro @lM_cvi (And.intro @lM_cvss (And.intro @lM_iface (And.intro @lM_mkfn (And.intro @lM_slc (And.intro @lM_slcs (And.intro @lM_slca (And.intro @lM_lea (And.intro @lM_fld (And.intro @lM_fldn (And.intro @lM_idx (And.intro @lM_idxp (And.intro @lM_idxs (And.intro @lM_idxv (And.intro @lM_idxvn (And.intro @lM_lens (And.intro @lM_lenl (And.intro @lM_lenc (And.intro @lM_capl (And.intro @lM_mn (And.intro @lM_mx (And.intro @lM_ext (And.intro @lM_new (And.intro @lM_box (And.intro @boxM_some (And.intro @lM_lit (And.intro @litM_some (And.intro @lM_st (And.intro @stM_some (And.intro @lM_stn (And.intro @stnM_some (And.intro @lM_app (And.intro @appK_some (And.intro @lM_call (And.intro @callO_some (And.intro @lM_callv (And.intro @callvO_some (And.intro @lM_xc (And.intro @xcO_some (And.intro @lM_pnc (And.intro @pncM_some (And.intro @lM_mkslice (And.intro @makeM_some (And.intro @lM_cpy (@cpyK_some)))))))))))))))))))))))))))))))))))))))))))))))))))))))))))))))))))))))))))))))))))))))))))))))))))))))))))))))) :=
  (And.intro @br_T (And.intro @br_F (And.intro @seqQ_normal (And.intro @seqQ_ret (And.intro @seqQ_exit (And.intro @seqQ_panic (And.intro @condM_t (And.intro @condM_f (And.intro @condM_bool (And.intro @blockQ_normal (And.intro @blockQ_ret (And.intro @blockQ_panic (And.intro @blockQ_exit (And.intro @vcOps_nil (And.intro @vcOps_cons (And.intro @guardM_none (And.intro @guardM_some (And.intro @gM_undef (And.intro @gM_tt (And.intro @gM_tf (And.intro @gM_ft (And.intro @gM_ff (And.intro @gM_t (And.intro @gM_f (And.intro @vcDT_done (And.intro @vcDT_q (And.intro @pushS_ld (And.intro @pushS_ldn (And.intro @vcDT_e (And.intro @vcDT_al (And.intro @stab_nil (And.intro @memN_nil (And.intro @memN_cons (And.intro @stab_cons (And.intro @opt_some (And.intro @opt_none (And.intro @get_cons (And.intro @get_nil (And.intro @ev_tmp (And.intro @ev_const (And.intro @ev_global (And.intro @ev_func (And.intro @put_some (And.intro @put_none (And.intro @keep_nil (And.intro @keep_cons (And.intro @keepM_some (And.intro @keepM_none (And.intro @evs_nil (And.intro @evp_nil (And.intro @argEnv_nil (And.intro @argEnv_cons (And.intro @retQ_ret (And.intro @retQ_normal (And.intro @retM_one (And.intro @retM_nil (And.intro @retM_two (And.intro @retQ_panic (And.intro @ret_ok (And.intro @lM_mv (And.intro @lM_pick (And.intro @lM_agg (And.intro @lM_ld (And.intro @lM_ldn (And.intro @lM_nilck (And.intro @lM_bin (And.intro @lM_un (And.intro @lM_cvi (And.intro @lM_cvss (And.intro @lM_iface (And.intro @lM_mkfn (And.intro @lM_slc (And.intro @lM_slcs (And.intro @lM_slca (And.intro @lM_lea (And.intro @lM_fld (And.intro @lM_fldn (And.intro @lM_idx (And.intro @lM_idxp (And.intro @lM_idxs (And.intro @lM_idxv (And.intro @lM_idxvn (And.intro @lM_lens (And.intro @lM_lenl (And.intro @lM_lenc (And.intro @lM_capl (And.intro @lM_mn (And.intro @lM_mx (And.intro @lM_ext (And.intro @lM_new (And.intro @lM_box (And.intro @boxM_some (And.intro @lM_lit (And.intro @litM_some (And.intro @lM_st (And.intro @stM_some (And.intro @lM_stn (And.intro @stnM_some (And.intro @lM_app (And.intro @appK_some (And.intro @lM_call (And.intro @callO_some (And.intro @lM_callv (And.intro @callvO_some (And.intro @lM_xc (And.intro @xcO_some (And.intro @lM_pnc (And.intro @pncM_some (And.intro @lM_mkslice (And.intro @makeM_some (And.intro @lM_cpy (@cpyK_some))))))))))))))))))))))))))))))))))))))))))))))))))))))))))))))))))))))))))))))))))))))))))))))))))))))))))))))))
theorem wU : type_of% (And.intro @f_eql (And.intro @f_neq (And.intro @chk_T (And.intro @qV_slca (And.intro @slca1_s (And.intro @qV_idxvn (And.intro @idxvn_s (@fdiv_pow)))))))) :=
  And.intro @f_eql (And.intro @f_neq (And.intro @chk_T (And.intro @qV_slca (And.intro @slca1_s (And.intro @qV_idxvn (And.intro @idxvn_s (@fdiv_pow)))))))
theorem SlF.sub {S T : Nat → Prop} {h : H} {v : Value} {xs : List Value} (s : SlF S h v xs) (hst : ∀ x, T x → h x ≠ none → S x) : SlF T h v xs := by
  rcases s with s | ⟨b, o, cp, c, E, fr, h1, h2, h3, h4, h5, h6⟩
  · exact .inl s
  · exact .inr ⟨b, o, cp, c, E, fr, h1, h2, h3, h4, h5, fun hb => h6 (hst b hb (by rw [h2]; simp))⟩
theorem SlF.ext {S : Nat → Prop} {h h' : H} {v : Value} {xs : List Value} (s : SlF S h v xs) (e : Ext h h') : SlF S h' v xs := s.fr (e.mono fun _ h => h.elim)
theorem Ext.hdel (h : H) (L : Nat) : Ext (hdel h L) h := fun x o hx _ => by
  unfold Go.Proofs.Ytojhnclkhiffkaa.hdel at hx
  split at hx
  · cases hx
  · exact hx
theorem hdel_at {h : H} {L x : Nat} {o : Obj} (hx : hdel h L x = some o) : x ≠ L := by
  rintro rfl; rw [hdel_none] at hx; cases hx
theorem Sl.isc {h : H} {v : Value} {xs : List Value} (s : Sl h v xs) : isCell v = true := by
  obtain ⟨a, c, rfl⟩ := s.len; rfl
theorem Own.isNew {h0 h : H} {E : TypeId} {v : Value} {xs : List Value} (s : Own h0 h E v xs) {y : Nat} (hy : isAt v y) : h0 y = none := by
  rcases s with ⟨rfl, _⟩ | ⟨b, cp, c, rfl, _, _, _, _, h6⟩
  · obtain ⟨o, n, c, h⟩ := hy; simp at h
  · obtain ⟨o, n, c', h⟩ := hy
    simp only [Value.slice.injEq, Option.some.injEq, Addr.mk.injEq] at h
    obtain ⟨⟨rfl, _⟩, _⟩ := h
    exact h6
theorem Own.o1 {h0 h : H} {E : TypeId} {v : Value} {xs : List Value} (s : Own h0 h E v xs) : O1 (fun y => h0 y = none) h E v xs := by
  rcases s with ⟨rfl, rfl⟩ | ⟨b, cp, c, rfl, h2, h3, h4, h5, h6⟩
  · exact OwK.nil
  · refine ⟨rect_one _, .inr ⟨b, 0, cp, c, (0, 0), by rw [one_len], h2, by omega, by rw [one_len]; exact h4, ?_, h6, .inl rfl⟩⟩
    rw [flat_one]
    intro m hm
    rw [Nat.zero_add]; exact h5 m hm
/-- An element of an own slice, written. -/
theorem O1.put {O : Nat → Prop} {h : H} {E : TypeId} {v : Value} {xs : List Value} (s : O1 O h E v xs) {i : Nat} (hi : i < xs.length) (kk : IntKind) :
    ∃ b o, idxV1 1 v (.int kk (i : Int)) = some (.pointer (some ⟨b, o, none⟩)) ∧ isAt v b ∧ cellAt h ⟨b, o, none⟩ = some xs[i] ∧ ∀ (w : Value) (K : H → Prop), isCell w = true →
      (∀ h', O1 O h' E v (xs.set i w) → Fr (fun y => y = b) h h' → K h') → storeH h ⟨b, o, none⟩ [w] K := by
  obtain ⟨b, o, h1, h2, h3, h4⟩ := OwK.put s (i := i) (by rw [one_len]; exact hi) kk
  obtain ⟨b', o', q1, q2⟩ := S1.load (S := nos) s.s0 hi kk
  rw [h1] at q1
  simp only [Option.some.injEq, Value.pointer.injEq, Addr.mk.injEq, and_true] at q1
  obtain ⟨rfl, rfl⟩ := q1
  refine ⟨b, o, h1, h3, q2, fun w K hw hK => ?_⟩
  refine h4 0 [w] K (by simp) (by simp [hw]) fun h' h5 h6 => hK h' ?_ h6
  have : (one xs).set i (((one xs)[i]'(by rw [one_len]; exact hi)).take 0 ++ [w] ++ ((one xs)[i]'(by rw [one_len]; exact hi)).drop (0 + [w].length)) = one (xs.set i w) := by
    simp [one, List.map_set]
  rw [this] at h5
  exact h5
/-- A cell that is none of the slice's is written over. -/
theorem Sl.over1 {h : H} {v : Value} {xs : List Value} {b : Nat} {old w : Value} {E : TypeId} (s : Sl h v xs) (hb : h b = some (.cells #[old] E)) (hn : ∀ x ∈ xs, x ≠ old) : Sl (hupd h b (.cells #[w] E)) v xs := by
  rcases s with s | ⟨b', o, cp, c, E', fr, h1, h2, h3, h4, h5⟩
  · exact .inl s
  · by_cases hbb : b' = b
    · subst hbb
      rw [hb] at h2
      simp only [Option.some.injEq, Obj.cells.injEq] at h2
      obtain ⟨rfl, rfl, rfl⟩ := h2
      refine .inr ⟨b', o, cp, #[w], E, (0, 0), h1, hupd_same _ _ _, by simpa using h3, h4, fun i hi => ?_⟩
      have h6 := h5 i hi
      have h7 := (Array.getElem?_eq_some_iff.1 h6).1
      simp only [List.size_toArray, List.length_cons, List.length_nil, Nat.zero_add, Nat.lt_one_iff] at h7
      rw [h7] at h6
      simp only [List.getElem?_toArray, List.getElem?_cons_zero, Option.some.injEq] at h6
      exact absurd h6.symm (hn _ (List.getElem_mem hi))
    · exact .inr ⟨b', o, cp, c, E', fr, h1, by rw [hupd_ne _ _ hbb]; exact h2, h3, h4, h5⟩
theorem no_at {a b x : Nat} (h : isAt (.slice none a b) x) : False := by
  obtain ⟨o, n, c, h⟩ := h; simp at h
theorem OwK.tyno {k T' : Nat} {O' : Nat → Prop} {g : H} {v : Value} {rows : List (List Value)} {y : Nat} {c : Array Value} {T : TypeId} {fr : Nat × Nat} (s : OwK k O' g T' v rows) (hy : g y = some (.cells c T fr)) (hT : T ≠ T') : ¬ isAt v y := by
  intro hat
  obtain ⟨c', fr, h'⟩ := s.ty hat
  rw [hy] at h'
  simp only [Option.some.injEq, Obj.cells.injEq] at h'
  exact hT h'.2.1
theorem cellsAt_ext {h h' : H} {a : Addr} {n : Nat} {cs : Array Value} (e : Ext h h') (hc : cellsAt h a n = some cs) : cellsAt h' a n = some cs := by
  unfold cellsAt at *
  split at hc
  · rename_i h0; rw [if_pos h0]; exact hc
  · rename_i h0
    rw [if_neg h0]
    split at hc
    · rename_i c E fr hb
      rw [e.at hb]; exact hc
    · cases hc
theorem S1.toF {S : Nat → Prop} {h : H} {v : Value} {xs : List Value} (s : S1 S h v xs) : SlF S h v xs := by
  obtain ⟨_, ⟨a, rfl, h1⟩ | ⟨b, o, cp, c, E, fr, rfl, h2, h3, h4, h5, h6⟩⟩ := s
  · refine .inl ⟨a, rfl, ?_⟩
    cases xs with
    | nil => rfl
    | cons x t => simp [one] at h1
  · rw [flat_one] at h5
    refine .inr ⟨b, o, cp, c, E, fr, by rw [one_len], h2, by omega, by rw [one_len] at h4; exact h4, fun i hi => ?_, h6⟩
    exact h5 i hi
theorem slcV_pre (k : Nat) (a : Option Addr) (n c u : Nat) (hu : u ≤ c) : slcV k a n c false 0 (u : Int) (c : Int) = some (.slice a u c) := by
  rw [slcV_eq, chk_pos ⟨by omega, by omega, by omega, by omega, .inr rfl⟩]
  have : (if (c : Int) = 0 then a else Option.map (fun x => x.add ((0 : Int).toNat * k)) a) = a := by
    split
    · rfl
    · cases a <;> simp [Addr.add]
  rw [this]
  simp
theorem O1.pre {O : Nat → Prop} {h : H} {E : TypeId} {a : Option Addr} {n c m : Nat} {xs : List Value} (o : O1 O h E (.slice a n c) xs) (hm : m ≤ n) (hc : n ≤ c) : O1 O h E (.slice a m c) (xs.take m) := by
  obtain ⟨v, h1, h2, _⟩ := O1.cut o (m3 := false) (lo := 0) (hi := m) (mx := c) (l := 0) (u := m) (m := c) rfl rfl rfl (by omega) hm (by omega) (by omega) (.inr rfl)
  rw [slcV_pre 1 a n c m (by omega)] at h1
  simp only [Option.some.injEq] at h1
  subst h1
  simpa using h2
theorem slitS {S : Nat → Prop} {h : H} {b : Nat} {E : TypeId} (xs : List Value) {n : Nat} (hn : xs.length = n) (hs : ¬ S b) : S1 S (hupd h b (.cells xs.toArray E)) (.slice (some ⟨b, 0, none⟩) n n) xs := by
  subst hn
  refine ⟨rect_one _, .inr ⟨b, 0, xs.length, xs.toArray, E, (0, 0), by rw [one_len], hupd_same _ _ _, by simp, by rw [one_len]; exact Nat.le_refl _, ?_, hs⟩⟩
  rw [flat_one]
  intro m hm
  simp [hm]
/-- Whole numbers in a row. -/
theorem repI {S : Nat → Prop} {k : IntKind} {h : H} {v : Value} {xs : List Int} (r : RepL S (.int k) h v xs) : S1 S h v (xs.map (.int k)) ∧ ∀ x ∈ xs, k.min ≤ x ∧ x ≤ k.max := by
  obtain ⟨rows, h1, h2, h3⟩ := repL_iff.1 r
  have hrows : rows = one (xs.map (.int k)) := by
    apply List.ext_getElem?
    intro i
    by_cases hi : i < rows.length
    · have hx : i < xs.length := by rw [← h2]; exact hi
      have := h3 i _ _ (List.getElem?_eq_getElem hi) (List.getElem?_eq_getElem hx)
      rw [List.getElem?_eq_getElem hi, this.1]
      simp [one, hx]
    · rw [List.getElem?_eq_none (by omega), List.getElem?_eq_none (by simp [one]; rw [h2] at hi; omega)]
  have h1' : SlK 1 S h v (one (xs.map (.int k))) := by rw [← hrows]; exact h1
  refine ⟨h1', fun x hx => ?_⟩
  obtain ⟨i, hi, rfl⟩ := List.getElem_of_mem hx
  exact (h3 i _ _ (List.getElem?_eq_getElem (by rw [h2]; exact hi)) (List.getElem?_eq_getElem hi)).2
theorem iRep {S : Nat → Prop} {k : IntKind} {h : H} {v : Value} {xs : List Int} (s : S1 S h v (xs.map (.int k))) (hx : ∀ x ∈ xs, k.min ≤ x ∧ x ≤ k.max) : RepL S (.int k) h v xs := by
  refine repL_iff.2 ⟨one (xs.map (.int k)), s, by simp [one], ?_⟩
  intro i r x hr hx'
  simp only [one, List.map_map, List.getElem?_map, Option.map_eq_some_iff] at hr
  obtain ⟨y, hy, rfl⟩ := hr
  rw [hy] at hx'
  simp only [Option.some.injEq] at hx'
  subst hx'
  exact ⟨rfl, hx y (List.mem_of_getElem? hy)⟩
end Go.Proofs.Ytojhnclkhiffkaa
