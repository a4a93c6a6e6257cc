/-
  strings.Builder.
-/
import Derived.Test.YtooimdgoibdhlaaDoorPz
namespace Go.Proofs.YtooimdgoibdhlaaDoor.sc
open Go Go.Proofs.YtooimdgoibdhlaaDoor Go.RowKit
set_option linter.unusedVariables false
set_option linter.unusedSimpArgs false
section
variable {P : Program} {e : Env} {h : H} {V : Value → H → Prop} {X : List PanicEntry → H → Prop} {d : Option Nat}
theorem raw_usd {x : Operand} {t ty : TypeId} {a : Option Addr} {n c : Nat} (hx : ev e x = some (.slice a n c)) (hc : a = none ∨ c ≠ 0) (hk : V (.pointer a) h) :
    lM P (.raw ⟨d, .call ⟨.builtin .unsafeSliceData, #[x], #[t]⟩, ty, "", #[], none⟩) e h V X := by
  intro ac w ha hw
  subst hw
  refine ⟨_, w, .inl ?_, Kin.refl w, hk⟩
  have e1 := ev_sound ha hx
  have hr : (Builtin.unsafeSliceData_ #[t] ty #[.slice a n c]).run P w = .ok (.pointer a) w := by
    cases a with
    | none => rfl
    | some a => exact Lib.run_unsafeSliceData_row _ _ _ _ _ _ (hc.elim (fun h => by cases h) id)
  simp [execOp, resolve, invoke, builtin, e1, hr]
theorem hp_freeze {w : World} {b o n : Nat} {c : Array Value} {E : TypeId} {fr : Nat × Nat} (hb : hp w b = some (.cells c E fr)) (hn : n ≠ 0) : (∃ fr', hp (w.freeze ⟨b, o, none⟩ n) = hupd (hp w) b (.cells c E fr')) ∧ Kin w (w.freeze ⟨b, o, none⟩ n) := by
  have hb' : w.heap[b]? = some (.cells c E fr) := hid_cells.1 hb
  obtain ⟨lo, hi⟩ := fr
  refine ⟨⟨(if lo == hi then (o, o + n) else (min lo o, max hi (o + n))), ?_⟩, ?_⟩
  · funext x
    show hid (w.freeze ⟨b, o, none⟩ n).heap[x]? = _
    unfold World.freeze
    rw [if_neg hn]
    simp only
    rw [Array.getElem?_modify]
    unfold hupd
    by_cases hxx : b = x
    · subst hxx
      rw [if_pos rfl, if_pos rfl, hb']
      rfl
    · rw [if_neg hxx, if_neg (fun h => hxx h.symm)]; rfl
  · unfold World.freeze
    rw [if_neg hn]
    refine ⟨rfl, rfl, rfl, by simp, fun x o hx ho => ?_⟩
    rw [Array.getElem?_modify]
    split
    · rename_i hxx
      simp only at hxx
      subst hxx
      rw [hb'] at hx
      simp only [Option.some.injEq] at hx
      subst hx
      simp [hid] at ho
    · exact hx
theorem liesAt_off {e : TypeId} (hc : P.cellsOf e = 1) (count o n : Nat) (hn : o + n ≤ count) : liesAt P P.depth e count o e n = true := by
  have hd : P.depth = (2 * (P.types.size + Made.depth) + 1) + 1 := rfl
  rw [hd]
  simp only [liesAt, Bool.or_eq_true]
  left
  rw [hd]
  simp [rowAt, hc, hn, sameLayout, Nat.mod_one]
theorem run_ust {w : World} (pt it ty E : TypeId) (hpt : P.underlying pt = some (.pointer E)) (hc : P.cellsOf E = 1) (b o cells : Nat) (hsh : w.shape? b = some (E, cells)) (l : List UInt8) (h0 : l ≠ []) (hn : o + l.length ≤ cells) (h63 : l.length ≤ 9223372036854775807)
    (hcell : ∀ j x, l[j]? = some x → w.cell? ((⟨b, o, none⟩ : Addr).add j) = some (.int .u8 x.toNat)) :
    (Builtin.unsafeString_ #[pt, it] ty #[.pointer (some ⟨b, o, none⟩), .int .i64 l.length]).run P w = .ok (.string ⟨l.toArray⟩) (w.freeze ⟨b, o, none⟩ l.length) := by
  have hl : l.length ≠ 0 := by simpa using h0
  have hlb := Lib.run_loadBytes (P := P) (w := w) l ⟨b, o, none⟩ .empty hcell
  have hlies := liesAt_off (P := P) hc (cells / P.cellsOf E) o l.length (by rw [hc]; simpa using hn)
  have h63' : ¬ (9223372036854775807 : Int) < (l.length : Int) := by omega
  have hmax : IntKind.i64.max = 9223372036854775807 := rfl
  have hneg : ¬ (l.length : Int) < 0 := by omega
  show Sem.run P (asInt (.int .i64 (l.length : Int)) >>= _) w = _
  simp [asInt, asIntOf, hmax, h63', hneg, hl, variablesAt, hsh, elemOf, run_underlying hpt, hlies, hlb]
/-- The bytes of an own slice as a string: they may not be written any more. -/
theorem raw_ust {O : Nat → Prop} {x y : Operand} {pt it ty E : TypeId} {a : Option Addr} {n c : Nat} {l : List UInt8} (hx : ev e x = some (.pointer a)) (hy : ev e y = some (.int .i64 (n : Int))) (hn : n = l.length)
    (hpt : P.underlying pt = some (.pointer E)) (hc : P.cellsOf E = 1) (s : OwB O h E (.slice a n c) l) (hl : l ≠ []) (h63 : l.length ≤ 9223372036854775807)
    (hk : ∀ h', Fr (fun y => O y ∧ isAt (.slice a n c) y) h h' → V (.string ⟨l.toArray⟩) h') :
    lM P (.raw ⟨d, .call ⟨.builtin .unsafeString, #[x, y], #[pt, it]⟩, ty, "", #[], none⟩) e h V X := by
  intro ac w ha hw
  subst hw hn
  obtain ⟨hr, ⟨h1, h2⟩ | ⟨b, o, cp, cc, fr, h1, h2, h3, h4, h5, h6, h7⟩⟩ := s
  · have := congrArg List.length h2
    rw [one_len, bvs_len] at this
    exact absurd (List.length_eq_zero_iff.1 this) hl
  simp only [Value.slice.injEq] at h1
  obtain ⟨rfl, -, rfl⟩ := h1
  rw [one_len, bvs_len] at h4
  rw [flat_one] at h5
  have hb' : w.heap[b]? = some (.cells cc E fr) := hid_cells.1 h2
  have hlen0 : l.length ≠ 0 := by simpa using hl
  obtain ⟨⟨fr', hf⟩, hkin⟩ := hp_freeze (o := o) h2 hlen0
  have hcells : ∀ j x, l[j]? = some x → cc[o + j]? = some (.int .u8 x.toNat) := fun j x hj => by
    obtain ⟨hjl, hjx⟩ := List.getElem?_eq_some_iff.1 hj
    have := h5 j (by rw [bvs_len]; exact hjl)
    rw [this]
    simp [bvs, bv, hjx]
  refine ⟨_, w.freeze ⟨b, o, none⟩ l.length, .inl ?_, hkin, hk _ ?_⟩
  · have e1 := ev_sound ha hx
    have e2 := ev_sound ha hy
    have hlast := hcells (l.length - 1) l[l.length - 1] (List.getElem?_eq_getElem (by omega))
    have hsz := (Array.getElem?_eq_some_iff.1 hlast).1
    have hr := run_ust (P := P) (w := w) pt it ty E hpt hc b o cc.size (by unfold World.shape?; rw [hb']) l hl (by omega) h63 fun j x hj => by
      rw [← cellAt_hp]
      rw [show (⟨b, o, none⟩ : Addr).add j = ⟨b, o + j, none⟩ by simp [Addr.add]]
      rw [cellAt_of h2]
      exact hcells j x hj
    simp [execOp, resolve, invoke, builtin, e1, e2, hr]
  · rw [hf]
    exact Fr.upd (S := fun y => O y ∧ isAt (.slice (some ⟨b, o, none⟩) l.length c) y) ⟨h6, ⟨_, _, _, rfl⟩⟩ _
end
section
variable {P : Program} {e : Env} {h : H} {V : Value → H → Prop} {X : List PanicEntry → H → Prop} {d : Option Nat}
theorem raw_ust0 {x y : Operand} {pt it ty : TypeId} {p : Option Addr} (hx : ev e x = some (.pointer p)) (hy : ev e y = some (.int .i64 0)) (hk : V (.string ⟨#[]⟩) h) :
    lM P (.raw ⟨d, .call ⟨.builtin .unsafeString, #[x, y], #[pt, it]⟩, ty, "", #[], none⟩) e h V X := by
  intro ac w ha hw
  subst hw
  refine ⟨_, w, .inl ?_, Kin.refl w, hk⟩
  have e1 := ev_sound ha hx
  have e2 := ev_sound ha hy
  have hr := Lib.run_unsafeString_none (P := P) w pt it ty p
  simp [execOp, resolve, invoke, builtin, e1, e2, hr]
  rfl
end
/-- A builder. -/
structure BO (O : Nat → Prop) (g : H) (tb : Nat) (w : Value) (l : List UInt8) : Prop where
  q : ∃ pa, g tb = some (.cells #[pa, w] 104) ∧ (pa = .pointer none ∨ pa = .pointer (some ⟨tb, 0, none⟩))
  ow : OwB O g 5 w l
  ne : l = [] → w = .slice none 0 0
section
variable {O : Nat → Prop} {g : H} {tb : Nat} {w : Value} {l : List UInt8}
theorem ne_ok (h : H) (x : Value) {K : Value → H → Prop} (hk : K x h) : xcM Tryd.prog 87 #[x] h K :=
  xc_of (e := Extern.AbiNoEscape.same) Tryd.func87 (by kernel_rfl) (by kernel_rfl) (by kernel_rfl) (by kernel_rfl) fun w hw => by
    subst hw
    exact ⟨x, w, rfl, Kin.refl w, hk⟩
theorem cc_ok (B : BO O g tb w l) : Ok Tryd.prog 76 #[.pointer (some ⟨tb, 0, none⟩)] g fun _ g' => g' tb = some (.cells #[.pointer (some ⟨tb, 0, none⟩), w] 104) ∧ Fr (fun y => y = tb) g g' := by
  obtain ⟨pa, q, hpa⟩ := B.q
  refine c76_ok (args := [_]) (by simp) ?_
  have c0 : cellAt g ⟨tb, 0, none⟩ = some pa := by rw [cellAt_of q]; rfl
  rcases hpa with rfl | rfl
  · simp (disch := omega) only [dm_t, wS, simprocAttr, IntKind.bits, c0]
    refine raw_cv ?_
    refine cv_to Tryd.underlying102 Tryd.underlying123 (by kernel_rfl) q (by simp) ?_
    simp (disch := omega) only [dm_t, wS, simprocAttr, IntKind.bits]
    refine ne_ok _ _ ?_
    simp (disch := omega) only [dm_t, wS, simprocAttr, IntKind.bits]
    refine raw_cv ?_
    refine cv_from (i := (Tryd.prog.info? 104).getD default) Tryd.underlying123 Tryd.underlying102 (by kernel_rfl) (of_decide_eq_true (by kernel_rfl)) q (by kernel_rfl) ?_
    simp (disch := omega) only [dm_t, wS, simprocAttr, IntKind.bits]
    rw [storeH_0 q]
    refine ⟨by simp, rfl, ?_⟩
    simp (disch := omega) only [dm_t, wS, simprocAttr, IntKind.bits]
    exact ⟨hupd_same _ _ _, Fr.upd (S := fun y => y = tb) rfl _⟩
  · have hb : binV .neq .ptr (.pointer (some ⟨tb, 0, none⟩)) (.pointer (some ⟨tb, 0, none⟩)) = some (.bool false) := by simp [binV, eqV, chk]
    simp (disch := omega) only [dm_t, wS, simprocAttr, IntKind.bits, c0, hb]
    exact ⟨q, Fr.refl _ _⟩
theorem strL (g : H) (s : List UInt8) : srcLen (sv s) = some s.length ∧ srcCells g 1 s.length (sv s) = some (flat (one (bvs s))).toArray := by
  refine ⟨rfl, ?_⟩
  rw [flat_one]
  show some (((⟨s.toArray⟩ : ByteArray).extract 0 s.length).data.map fun b => Value.int .u8 b.toNat) = _
  rw [ext_mk, List.take_length, List.drop_zero]
  simp [bvs, bv]
theorem WS_ok (B : BO O g tb w l) (hO : ∀ y, g y = none → O y) (htb : ¬ O tb ∨ True) (s : List UInt8) (hs : s ≠ []) (hlen : l.length + s.length ≤ 140737488355328) :
    Ok Tryd.prog 58 #[.pointer (some ⟨tb, 0, none⟩), sv s] g fun _ g' => (∃ w', BO O g' tb w' (l ++ s)) ∧ Fr (fun y => y = tb ∨ (O y ∧ isAt w y)) g g' := by
  have hcc := cc_ok B
  have ow := B.ow
  obtain ⟨pa, q, -⟩ := B.q
  have hnt : ∀ y, isAt w y → y ≠ tb := fun y hy h => by subst h; exact OwK.tyno ow q (by decide) hy
  obtain ⟨wa, wc, rfl⟩ := By.len ow.s0
  refine c58_ok (args := [_, _]) (by simp) ?_
  simp (disch := omega) only [dm_t, wS, simprocAttr, IntKind.bits]
  refine hcc.k ?_
  rintro _ g1 ⟨q1, f1⟩
  have o1 := OwK.fr ow f1 fun y hy _ h => hnt y h hy
  have c1 : cellAt g1 ⟨tb, 1, none⟩ = some (.slice wa l.length wc) := by rw [cellAt_of q1]; rfl
  obtain ⟨sl1, sl2⟩ := strL g1 s
  simp (disch := omega) only [dm_t, wS, simprocAttr, IntKind.bits, c1]
  refine app_ow o1 (fun y hy => hO y ?_) (rect_one (bvs s)) (by rw [one_len, bvs_len]; exact sl1) (by rw [one_len, bvs_len]; exact sl2) (by rw [flat_one]; exact bvs_cells _) rfl (by rw [one_len, one_len, bvs_len, bvs_len]; omega) (by rw [one_len, one_len, bvs_len, bvs_len]; omega) ?_
  · cases h : g y with
    | none => rfl
    | some o =>
      have := f1 y o h (fun h => by subst h; rw [q1] at hy; cases hy)
      rw [hy] at this; cases this
  intro v2 g2 o2 f2 _
  rw [← one_append, ← bvs_append] at o2
  obtain ⟨va, vc', rfl⟩ := By.len o2.s0
  have q2 := f2 _ _ q1 fun h => hnt tb h.2 rfl
  simp (disch := omega) only [dm_t, wS, simprocAttr, IntKind.bits]
  rw [storeH_0 q2]
  refine ⟨by simp, rfl, ?_⟩
  generalize hG : hupd g2 tb _ = g3
  have q3 := (hG ▸ hupd_same _ _ _ : g3 tb = _)
  have f3 : Fr (fun y => y = tb) g2 g3 := (hG ▸ Fr.upd (S := fun y => y = tb) rfl _)
  clear hG
  simp (disch := omega) only [dm_t, wS, simprocAttr, IntKind.bits]
  refine ⟨⟨_, ⟨_, q3, .inr rfl⟩, OwK.fr o2 f3 (fun y hy _ h => by subst hy; exact OwK.tyno o2 q2 (by decide) h), fun h => absurd (List.append_eq_nil_iff.1 h).2 hs⟩, ?_⟩
  exact (f1.mono fun y hy => .inl hy).trans ((f2.mono fun y hy => .inr hy).trans (f3.mono fun y hy => .inl hy))
theorem BL_ok (B : BO O g tb w l) : Ok Tryd.prog 59 #[.pointer (some ⟨tb, 0, none⟩)] g fun v g' => v = .int .i64 (l.length : Int) ∧ g = g' := by
  have ow := B.ow
  obtain ⟨pa, q, -⟩ := B.q
  obtain ⟨wa, wc, rfl⟩ := By.len ow.s0
  have c1 : cellAt g ⟨tb, 1, none⟩ = some (.slice wa l.length wc) := by rw [cellAt_of q]; rfl
  refine c59_ok (args := [_]) (by simp) ?_
  simp (disch := omega) only [dm_t, wS, simprocAttr, IntKind.bits, c1]
theorem BS_ok (B : BO O g tb w l) (h63 : l.length ≤ 9223372036854775807) : Ok Tryd.prog 60 #[.pointer (some ⟨tb, 0, none⟩)] g fun v g' => v = sv l ∧ Fr (fun y => O y ∧ isAt w y) g g' := by
  have ow := B.ow
  have hne := B.ne
  obtain ⟨pa, q, -⟩ := B.q
  obtain ⟨wa, wc, rfl⟩ := By.len ow.s0
  have c1 : cellAt g ⟨tb, 1, none⟩ = some (.slice wa l.length wc) := by rw [cellAt_of q]; rfl
  refine c60_ok (args := [_]) (by simp) ?_
  by_cases hl : l = []
  · have := hne hl
    subst hl
    simp only [List.length_nil, Value.slice.injEq, true_and] at this
    obtain ⟨rfl, rfl⟩ := this
    simp (disch := omega) only [dm_t, wS, simprocAttr, IntKind.bits, c1]
    refine raw_usd rfl (.inl rfl) ?_
    simp (disch := omega) only [dm_t, wS, simprocAttr, IntKind.bits]
    refine ⟨c1, ?_⟩
    refine raw_ust0 (p := none) ?_ ?_ ?_
    · rfl
    · rfl
    simp (disch := omega) only [dm_t, wS, simprocAttr, IntKind.bits]
    exact Fr.refl _ _
  · have hcap := (SlK.cap ow.s0)
    simp (disch := omega) only [dm_t, wS, simprocAttr, IntKind.bits, c1]
    refine raw_usd rfl (.inr ?_) ?_
    · have h1 := hcap.2.1
      have h2 : 0 < l.length := List.length_pos_iff.2 hl
      omega
    simp (disch := omega) only [dm_t, wS, simprocAttr, IntKind.bits]
    refine ⟨c1, ?_⟩
    refine raw_ust (n := l.length) ?_ ?_ rfl Tryd.underlying114 (by kernel_rfl) ow hl h63 ?_
    · rfl
    · rfl
    intro g' f
    have c2 : cellAt g' ⟨tb, 1, none⟩ = some (.slice wa l.length wc) := by rw [cellAt_of (f _ _ q fun h => OwK.tyno ow q (by decide) h.2)]; rfl
    simp (disch := omega) only [dm_t, wS, simprocAttr, IntKind.bits, c2]
    exact f
end
end Go.Proofs.YtooimdgoibdhlaaDoor.sc
