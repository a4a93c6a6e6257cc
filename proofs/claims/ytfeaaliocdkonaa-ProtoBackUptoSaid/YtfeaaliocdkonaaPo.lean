/-
  proto: a request, read from a body: the closure.
-/
import Derived.Test.YtfeaaliocdkonaaPn
namespace Go.Proofs.Ytfeaaliocdkonaa.pr
open Go.Proofs.Ytfeaaliocdkonaa rr wi
set_option linter.unusedVariables false
set_option linter.unusedSimpArgs false
/-- A reader whose bytes lie apart from a block, too. -/
structure RdX (h : H) (b xb : Nat) (s : Value) (l : List UInt8) (k : Nat) : Prop where
  r : Rd h b s l k
  x : By (fun y => y = b ∨ y = xb) h s l
  ne : b ≠ xb
section
variable {h h' : H} {b xb k k' : Nat} {s : Value} {l : List UInt8}
theorem RdX.ext (r : RdX h b xb s l k) (e : Ext h h') : RdX h' b xb s l k := ⟨r.1.ext e, r.2.ext e, r.3⟩
theorem RdX.to (r : RdX h b xb s l k) (r' : Rd h' b s l k') (f : Fr (fun y => y = b) h h') : RdX h' b xb s l k' := ⟨r', r.2.fr f fun _ h => .inl h, r.3⟩
theorem RdX.put (r : RdX h b xb s l k) (f : Fr (fun y => y = xb) h h') : RdX h' b xb s l k :=
  ⟨⟨f _ _ r.1.obj r.3, (r.2.fr f fun _ h => .inr h).mono fun _ _ _ h => .inl h, r.1.le, r.1.big⟩, r.2.fr f fun _ h => .inr h, r.3⟩
theorem New_x {v : Value} (hv : By nos h v l) (hl : l.length ≤ 140737488355328) :
    Ok Try.prog 53 #[v] h fun v h' => ∃ c s, v = .pointer (some ⟨c, 0, none⟩) ∧ h c = none ∧ Rd h' c s l 0 ∧ By (fun y => y = c ∨ h y ≠ none) h' s l ∧ Ext h h' := by
  refine c53_ok (args := [_]) (by simp) ?_
  simp (disch := omega) only [dm_t, wS, simprocAttr, IntKind.bits]
  refine (clone_ok hv hl).k ?_
  rintro w h1 ⟨ho, e⟩
  obtain ⟨sa, sc, rfl⟩ := By.len ho.s0
  simp (disch := omega) only [dm_t, wS, simprocAttr, IntKind.bits]
  intro c hc
  have hm : OwB (fun y => y ≠ c ∧ h y = none) h1 5 (.slice sa l.length sc) l := OwK.mono ho fun x o hx hn => ⟨fun hxc => (by rw [hxc, hc] at hx; cases hx), hn⟩
  have hs : By (fun y => y = c ∨ h y ≠ none) h1 (.slice sa l.length sc) l := OwK.sl hm fun x hx hy => hy.elim hx.1 fun hy => hy hx.2
  have hs2 := hs.fr (Fr.upd (h := h1) (b := c) (S := fun y => y = c) rfl (.cells #[.slice sa l.length sc, .int .i64 0, .bool true] 134)) fun _ h => .inl h
  exact ⟨c, _, rfl, e.bk hc, ⟨hupd_same _ _ _, hs2.mono fun _ _ _ h => .inl h, by omega, hl⟩, hs2, e.trans (Ext.new hc _)⟩
end
/-- How a closure that reads a body ends. -/
def ClR (ty : Ty) (T : TypeId) (rd : List UInt8 → Option (ty.D × Nat)) (xb b : Nat) (s : Value) (l : List UInt8) (h : H) (e : Ending) (h' : H) : Prop :=
  (∃ cs d k, e = .returned (.tuple #[]) ∧ rd l = some (d, k) ∧ h' xb = some (.cells cs.toArray T) ∧ Rep (fun y => h y ≠ none) ty h' cs d ∧ Rd h' b s l k ∧ Fr (fun y => y = b ∨ y = xb) h h') ∨
  (e = .panicked [boom] ∧ rd l = none ∧ Fr (fun y => y = b ∨ y = xb) h h' ∧ h' xb ≠ none)
def kindQ (l : List UInt8) : Nat := num (l.take 1)
def numQ (l : List UInt8) : Nat := num ((l.drop 1).take 4)
def partQ (l : List UInt8) : Nat := num ((l.drop 5).take 2)
/-- A request, read; and how far. -/
def rdQ (l : List UInt8) : Option (reqT.D × Nat) :=
  if l.length < 7 then none
  else if kindQ l = 1 then (rdRecL l 7).map fun p => (((1 : Int), (numQ l : Int), (partQ l : Int), p.1, (0 : Int), (0 : Int)), p.2)
  else if kindQ l = 2 then if l.length < 23 then none else some (((2 : Int), (numQ l : Int), (partQ l : Int), [], sgn64 (num ((l.drop 7).take 8)), sgn64 (num ((l.drop 15).take 8))), 23)
  else some (((kindQ l : Int), (numQ l : Int), (partQ l : Int), [], (0 : Int), (0 : Int)), 7)
theorem num1 (b : List UInt8) : num (b.take 1) < 256 := by
  refine Nat.lt_of_lt_of_le (num_lt _) (Nat.pow_le_pow_right (by decide) (?_ : _ ≤ 1)); rw [List.length_take]; omega
theorem num2 (b : List UInt8) : num (b.take 2) < 65536 := by
  refine Nat.lt_of_lt_of_le (num_lt _) (Nat.pow_le_pow_right (by decide) (?_ : _ ≤ 2)); rw [List.length_take]; omega
theorem Q1_k {h : H} {b xb : Nat} {s : Value} {l : List UInt8} (r0 : RdX h b xb s l 0) (qx : h xb = some (.cells #[.int .i64 0, .int .u32 0, .int .i64 0, .slice none 0 0, .int .i64 0, .int .i64 0] 26)) :
    CallsE Try.prog 60 #[.agg #[.pointer (some ⟨b, 0, none⟩)], .pointer (some ⟨xb, 0, none⟩)] h (ClR reqT 26 rdQ xb b s l h) := by
  refine c60_ce (args := [_, _]) (by simp) ?_
  have hbig := r0.r.big
  simp (disch := omega) only [dm_t, wS, simprocAttr, IntKind.bits]
  intro qb hqb
  generalize hG : hupd h qb _ = G
  obtain ⟨e1, q⟩ := new_ext hG hqb
  clear hG
  have hne : qb ≠ b := fun h => ne_of r0.r.obj hqb h.symm
  have hne2 : qb ≠ xb := fun h => ne_of qx hqb h.symm
  have r := r0.ext e1
  replace qx := e1.at qx
  have cc : ∀ g, Fr (fun y => y = b ∨ y = xb) G g → cellAt g ⟨qb, 0, none⟩ = some (.pointer (some ⟨b, 0, none⟩)) := fun g f => by rw [cellAt_of (f _ _ q fun hh => hh.elim hne hne2)]; rfl
  have c0 := cc G (Fr.refl _ _)
  have F0 : ∀ g, Fr (fun y => y = b) G g → Fr (fun y => y = b ∨ y = xb) G g := fun g f => f.mono fun _ h => .inl h
  have toh : ∀ g', Fr (fun y => y = b ∨ y = xb) G g' → Fr (fun y => y = b ∨ y = xb) h g' := fun g' f => (e1.mono fun _ h => h.elim).trans f
  have qxn : ∀ g, Fr (fun y => y = b) G g → g xb ≠ none := fun g f => by rw [f _ _ qx fun hh => r.ne hh.symm]; simp
  by_cases h7 : l.length < 7
  · have hrd : rdQ l = none := by rw [rdQ, if_pos h7]
    by_cases h1 : l.length < 1
    · simp (disch := omega) only [dm_t, wS, simprocAttr, IntKind.bits, c0]
      refine (U8_more r.r (by omega)).k ?_
      rintro _ _ ⟨rfl, rfl⟩
      simp (disch := omega) only [dm_t, wS, simprocAttr, IntKind.bits, c0]
      refine mU8_pan (by decide) ?_
      simp (disch := omega) only [dm_t, wS, simprocAttr, IntKind.bits]
      exact .inr ⟨rfl, hrd, toh _ (Fr.refl _ _), qxn _ (Fr.refl _ _)⟩
    simp (disch := omega) only [dm_t, wS, simprocAttr, IntKind.bits, c0]
    refine (U8_ok r.r (by omega)).k ?_
    rintro _ g1 ⟨rfl, r1, f1⟩
    have c1 := cc g1 (F0 _ f1)
    simp (disch := omega) only [dm_t, wS, simprocAttr, IntKind.bits, c1]
    refine (mU8_ok _ _).k ?_
    rintro _ _ ⟨rfl, rfl⟩
    have hk := num1 (l.drop 0)
    by_cases h5 : l.length < 5
    · simp (disch := omega) only [dm_t, wS, simprocAttr, IntKind.bits, c1]
      refine (U32_more r1 (by omega)).k ?_
      rintro _ _ ⟨rfl, rfl⟩
      simp (disch := omega) only [dm_t, wS, simprocAttr, IntKind.bits, c1]
      refine mU32_pan (by decide) ?_
      simp (disch := omega) only [dm_t, wS, simprocAttr, IntKind.bits]
      exact .inr ⟨rfl, hrd, toh _ (F0 _ f1), qxn _ f1⟩
    simp (disch := omega) only [dm_t, wS, simprocAttr, IntKind.bits, c1]
    refine (U32_ok r1 (by omega)).k ?_
    rintro _ g2 ⟨rfl, r2, f2⟩
    have c2 := cc g2 (F0 _ (f1.trans f2))
    simp (disch := omega) only [dm_t, wS, simprocAttr, IntKind.bits, c2]
    refine (mU32_ok _ _).k ?_
    rintro _ _ ⟨rfl, rfl⟩
    simp (disch := omega) only [dm_t, wS, simprocAttr, IntKind.bits, c2]
    refine (U16_more r2 (by omega)).k ?_
    rintro _ _ ⟨rfl, rfl⟩
    simp (disch := omega) only [dm_t, wS, simprocAttr, IntKind.bits, c2]
    refine mU16_pan (by decide) ?_
    simp (disch := omega) only [dm_t, wS, simprocAttr, IntKind.bits]
    exact .inr ⟨rfl, hrd, toh _ (F0 _ (f1.trans f2)), qxn _ (f1.trans f2)⟩
  simp (disch := omega) only [dm_t, wS, simprocAttr, IntKind.bits, c0]
  refine (U8_ok r.r (by omega)).k ?_
  rintro _ g1 ⟨rfl, r1, f1⟩
  have c1 := cc g1 (F0 _ f1)
  simp (disch := omega) only [dm_t, wS, simprocAttr, IntKind.bits, c1]
  refine (mU8_ok _ _).k ?_
  rintro _ _ ⟨rfl, rfl⟩
  have hk := num1 (l.drop 0)
  simp (disch := omega) only [dm_t, wS, simprocAttr, IntKind.bits, c1]
  refine (U32_ok r1 (by omega)).k ?_
  rintro _ g2 ⟨rfl, r2, f2⟩
  have c2 := cc g2 (F0 _ (f1.trans f2))
  simp (disch := omega) only [dm_t, wS, simprocAttr, IntKind.bits, c2]
  refine (mU32_ok _ _).k ?_
  rintro _ _ ⟨rfl, rfl⟩
  simp (disch := omega) only [dm_t, wS, simprocAttr, IntKind.bits, c2]
  refine (U16_ok r2 (by omega)).k ?_
  rintro _ g3 ⟨rfl, r3, f3⟩
  have f123 := (f1.trans f2).trans f3
  have c3 := cc g3 (F0 _ f123)
  simp (disch := omega) only [dm_t, wS, simprocAttr, IntKind.bits, c3]
  refine (mU16_ok _ _).k ?_
  rintro _ _ ⟨rfl, rfl⟩
  have hpt := num2 (l.drop 5)
  have hnb := num4 (l.drop 1)
  have hKQ : kindQ l = num ((l.drop 0).take 1) := rfl
  have hNQ : numQ l = num ((l.drop (0 + 1)).take 4) := rfl
  have hPQ : partQ l = num ((l.drop (0 + 1 + 4)).take 2) := rfl
  have hrd : rdQ l = if kindQ l = 1 then (rdRecL l 7).map fun p => (((1 : Int), (numQ l : Int), (partQ l : Int), p.1, (0 : Int), (0 : Int)), p.2)
    else if kindQ l = 2 then if l.length < 23 then none else some (((2 : Int), (numQ l : Int), (partQ l : Int), [], sgn64 (num ((l.drop 7).take 8)), sgn64 (num ((l.drop 15).take 8))), 23)
    else some (((kindQ l : Int), (numQ l : Int), (partQ l : Int), [], (0 : Int), (0 : Int)), 7) := by rw [rdQ, if_neg h7]
  rw [← hKQ, ← hNQ, ← hPQ]
  have hk' : kindQ l < 256 := hk
  have hn' : numQ l < 4294967296 := hnb
  have hp' : partQ l < 65536 := hpt
  generalize kindQ l = kind at hrd hk' ⊢
  generalize numQ l = nn at hrd hn' ⊢
  generalize partQ l = pp at hrd hp' ⊢
  have qx3 := f123 _ _ qx fun hh => r.ne hh.symm
  simp (disch := omega) only [dm_t, wS, simprocAttr, IntKind.bits, c3, storeH_0 qx3, storeH_same, hupd_hupd]
  have hq : ∀ (g : H) (o : Obj), ∃ g', hupd g xb o = g' ∧ g' xb = some o ∧ Fr (fun y => y = xb) g g' := fun g o => ⟨_, rfl, hupd_same _ _ _, Fr.upd (S := fun y => y = xb) rfl _⟩
  obtain ⟨g4, hg4, q4, f4⟩ := hq g3 (.cells #[.int .i64 (kind : Int), .int .u32 (nn : Int), .int .i64 (pp : Int), .slice none 0 0, .int .i64 0, .int .i64 0] 26)
  rw [hg4]
  have F4 : Fr (fun y => y = b ∨ y = xb) G g4 := (F0 _ f123).trans (f4.mono fun _ h => .inr h)
  have r4 := (r.to r3 f123).put f4
  have c4 := cc g4 F4
  have k0 : cellAt g4 ⟨xb, 0, none⟩ = some (.int .i64 (kind : Int)) := by rw [cellAt_of q4]; rfl
  by_cases k1 : kind = 1
  · subst k1
    rw [if_pos rfl] at hrd
    have l1 : cellsAt g4 ⟨qb, 0, none⟩ 1 = some #[.pointer (some ⟨b, 0, none⟩)] := cellsAt_all (F4 _ _ q fun hh => hh.elim hne hne2) 1 rfl
    simp (disch := omega) only [dm_t, wS, simprocAttr, IntKind.bits, k0, l1]
    refine list_k r4.r ?_ ?_
    · intro v g5 recs k' h1 h2 r5 f5
      have q5 := f5 _ _ q4 fun hh => r.ne hh.symm
      have F5 := F4.trans (f5.mono fun _ h => .inl h)
      have hv := Rep.cells h2
      simp (disch := omega) only [dm_t, wS, simprocAttr, IntKind.bits, storeH_0 q5]
      obtain ⟨g6, hg6, q6, f6⟩ := hq g5 (.cells #[.int .i64 1, .int .u32 (nn : Int), .int .i64 (pp : Int), v, .int .i64 0, .int .i64 0] 26)
      have r6 := (r4.to r5 f5).put f6
      have h6 : RepL (fun y => h y ≠ none) rc g6 v recs := by
        refine RepL.mono (RepL.fr h2 f6 fun y hy => ?_) fun y o _ hy => ?_
        · rw [hy, q4]; simp
        · intro hn
          by_cases hyx : y = b ∨ y = xb
          · rcases hyx with rfl | rfl
            · rw [r4.r.obj] at hn; cases hn
            · rw [q4] at hn; cases hn
          · obtain ⟨o, ho⟩ := Option.ne_none_iff_exists'.1 hy
            rw [toh _ F4 _ _ ho hyx] at hn; cases hn
      obtain ⟨va, vc, rfl⟩ := h2.len
      simp (disch := omega) only [dm_t, wS, simprocAttr, IntKind.bits]
      rw [hg6]
      refine .inl ⟨_, _, k', rfl, by rw [hrd, h1]; rfl, q6, rep_req.2 ⟨_, rfl, ⟨by constructor <;> (simp only; omega), by constructor <;> (simp only; omega), by constructor <;> (simp only; omega), by constructor <;> (simp only; omega), by constructor <;> (simp only; omega)⟩, h6⟩, r6.r, toh _ (F5.trans (f6.mono fun _ h => .inr h))⟩
    · intro g5 h1 f5
      simp (disch := omega) only [dm_t, wS, simprocAttr, IntKind.bits]
      exact .inr ⟨rfl, by rw [hrd, h1]; rfl, toh _ (F4.trans (f5.mono fun _ h => .inl h)), by rw [f5 _ _ q4 fun hh => r.ne hh.symm]; simp⟩
  by_cases k2 : kind = 2
  · subst k2
    rw [if_neg (by decide), if_pos rfl] at hrd
    have bad : l.length < 23 → rdQ l = none := fun hl => by rw [hrd, if_pos hl]
    by_cases h15 : l.length < 15
    · simp (disch := omega) only [dm_t, wS, simprocAttr, IntKind.bits, k0, c4]
      refine (I64_more r4.r (by omega)).k ?_
      rintro _ _ ⟨rfl, rfl⟩
      simp (disch := omega) only [dm_t, wS, simprocAttr, IntKind.bits, c4]
      refine mI64_pan (by decide) ?_
      simp (disch := omega) only [dm_t, wS, simprocAttr, IntKind.bits]
      exact .inr ⟨rfl, bad (by omega), toh _ F4, by rw [q4]; simp⟩
    simp (disch := omega) only [dm_t, wS, simprocAttr, IntKind.bits, k0, c4]
    refine (I64_ok r4.r (by omega)).k ?_
    rintro _ g5 ⟨rfl, r5, f5⟩
    have F5 := F4.trans (f5.mono fun _ h => .inl h)
    have c5 := cc g5 F5
    have q5 := f5 _ _ q4 fun hh => r.ne hh.symm
    simp (disch := omega) only [dm_t, wS, simprocAttr, IntKind.bits, c5]
    refine (mI64_ok _ _).k ?_
    rintro _ _ ⟨rfl, rfl⟩
    by_cases h23 : l.length < 23
    · simp (disch := omega) only [dm_t, wS, simprocAttr, IntKind.bits, c5]
      refine (I64_more r5 (by omega)).k ?_
      rintro _ _ ⟨rfl, rfl⟩
      simp (disch := omega) only [dm_t, wS, simprocAttr, IntKind.bits, c5]
      refine mI64_pan (by decide) ?_
      simp (disch := omega) only [dm_t, wS, simprocAttr, IntKind.bits]
      exact .inr ⟨rfl, bad h23, toh _ F5, by rw [q5]; simp⟩
    rw [if_neg h23] at hrd
    simp (disch := omega) only [dm_t, wS, simprocAttr, IntKind.bits, c5]
    refine (I64_ok r5 (by omega)).k ?_
    rintro _ g6 ⟨rfl, r6, f6⟩
    have F6 := F5.trans (f6.mono fun _ h => .inl h)
    have c6 := cc g6 F6
    have q6 := f6 _ _ q5 fun hh => r.ne hh.symm
    simp (disch := omega) only [dm_t, wS, simprocAttr, IntKind.bits, c6]
    refine (mI64_ok _ _).k ?_
    rintro _ _ ⟨rfl, rfl⟩
    have hb1 := sgn_bd (num8 (l.drop 7))
    have hb2 := sgn_bd (num8 (l.drop 15))
    have hA : sgn64 (num ((l.drop (0 + 1 + 4 + 2)).take 8)) = sgn64 (num ((l.drop 7).take 8)) := rfl
    have hB : sgn64 (num ((l.drop (0 + 1 + 4 + 2 + 8)).take 8)) = sgn64 (num ((l.drop 15).take 8)) := rfl
    rw [hA, hB]
    generalize sgn64 (num ((l.drop 7).take 8)) = t1 at hb1 hrd ⊢
    generalize sgn64 (num ((l.drop 15).take 8)) = t2 at hb2 hrd ⊢
    simp (disch := omega) only [dm_t, wS, simprocAttr, IntKind.bits, c6, storeH_0 q6, storeH_same, hupd_hupd]
    obtain ⟨g7, hg7, q7, f7⟩ := hq g6 (.cells #[.int .i64 2, .int .u32 (nn : Int), .int .i64 (pp : Int), .slice none 0 0, .int .i64 t1, .int .i64 t2] 26)
    have r7 := ((r4.to r5 f5).to r6 f6).put f7
    rw [hg7]
    refine .inl ⟨_, _, 23, rfl, hrd, q7, rep_req.2 ⟨_, rfl, ⟨by constructor <;> (simp only; omega), by constructor <;> (simp only; omega), by constructor <;> (simp only; omega), hb1, hb2⟩, RepL.nil⟩, r7.r, toh _ (F6.trans (f7.mono fun _ h => .inr h))⟩
  · rw [if_neg k1, if_neg k2] at hrd
    simp (disch := omega) only [dm_t, wS, simprocAttr, IntKind.bits, k0]
    refine .inl ⟨_, _, 7, rfl, hrd, q4, rep_req.2 ⟨_, rfl, ⟨by constructor <;> (simp only; omega), by constructor <;> (simp only; omega), by constructor <;> (simp only; omega), by constructor <;> (simp only; omega), by constructor <;> (simp only; omega)⟩, RepL.nil⟩, r4.r, toh _ F4⟩
end Go.Proofs.Ytfeaaliocdkonaa.pr
