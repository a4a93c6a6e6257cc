/-
  proto: ProtoStream walked: the pieces.
-/
import Derived.Test.YtfeaaliocdkonaaQh
namespace Go.Proofs.Ytfeaaliocdkonaa.pr
open Go.Proofs.Ytfeaaliocdkonaa rr wi
set_option linter.unusedVariables false
set_option linter.unusedSimpArgs false
abbrev strT : Ty := .pair (.sl .byte) (.sl (.int .i64))
theorem rep_str {S : Nat → Prop} {h : H} {cs : List Value} {x : strT.D} (r : Rep S strT h cs x) : ∃ v w, cs = [v, w] ∧ By S h v x.1 ∧ RepL S (.int .i64) h w x.2 := by
  obtain ⟨_, _, rfl, r1, r2⟩ := r
  obtain ⟨v, _, rfl, _⟩ := id r1
  obtain ⟨w, _, rfl, _⟩ := id r2
  exact ⟨v, w, rfl, repB.1 r1, r2⟩
theorem fi_take {b : List UInt8} : ∀ i, i ≤ (frs b).length → FI b ((frs b).take i) := by
  intro i
  induction i with
  | zero => intro _; exact fi0 b
  | succ i ih =>
    intro hi
    have F := ih (by omega)
    have hall := F.all
    by_cases he : splitE (b.drop (offs ((frs b).take i))) = 0
    · have F' := (F.step he).1
      have h1 : (frs b).take (i + 1) = (frs b).take i ++ [splitB (b.drop (offs ((frs b).take i)))] := by
        conv => lhs; rw [hall]
        rw [frs_ok he]
        have hl : ((frs b).take i).length = i := by rw [List.length_take]; omega
        rw [List.take_append, hl, show i + 1 - i = 1 by omega, List.take_of_length_le (by omega)]
        rfl
      rw [h1]; exact F'
    · rw [frs_no he, List.append_nil] at hall
      have := congrArg List.length hall
      rw [List.length_take] at this
      omega
/-- What the next step tells. -/
theorem fi_next {b : List UInt8} {k : Nat} (hk : k ≤ (frs b).length) : (splitE (b.drop (offs ((frs b).take k))) = 0 → ∃ hk : k < (frs b).length, (frs b)[k] = splitB (b.drop (offs ((frs b).take k))) ∧ offs ((frs b).take (k + 1)) = offs ((frs b).take k) + splitN (b.drop (offs ((frs b).take k)))) ∧
    (¬ splitE (b.drop (offs ((frs b).take k))) = 0 → k = (frs b).length) := by
  have F := fi_take k hk
  have hall := F.all
  have hl : ((frs b).take k).length = k := by rw [List.length_take]; omega
  refine ⟨fun he => ?_, fun he => ?_⟩
  · have hst := F.step he
    have hlen := congrArg List.length hall
    rw [frs_ok he, List.length_append, List.length_cons, hl] at hlen
    refine ⟨by omega, ?_, ?_⟩
    · have h2 : (frs b)[k]? = some (splitB (b.drop (offs ((frs b).take k)))) := by
        conv => lhs; rw [hall]
        rw [frs_ok he, List.getElem?_append_right (by omega), hl, Nat.sub_self]; rfl
      rw [List.getElem?_eq_getElem (by omega)] at h2
      exact Option.some.inj h2
    · rw [show (frs b).take (k + 1) = (frs b).take k ++ [splitB (b.drop (offs ((frs b).take k)))] from ?_]
      · exact hst.2
      · conv => lhs; rw [hall]
        rw [frs_ok he, List.take_append, hl, show k + 1 - k = 1 by omega, List.take_of_length_le (by omega)]; rfl
  · rw [frs_no he, List.append_nil] at hall
    have := congrArg List.length hall
    omega
/-- What stands when the frames have been gone over. -/
structure SB (h g : H) (xb rb wv ev pc : Nat) (vB vC vw : Value) (b : List UInt8) (cuts : List Int) : Prop where
  E : Ext h g
  qx : g xb = some (.cells #[vB, vC] 43)
  qr : g rb = some (.cells #[.bool false] 4)
  qw : g wv = some (.cells #[vw] 44)
  qe : g ev = some (.cells #[.int .i64 (offs (frs b) : Nat)] 3)
  rw' : RepL (fun y => y = pc) (.sl .byte) g vw (frs b)
  rB : By (fun y => y = pc) g vB b
  rC : RepL (fun y => y = pc) (.int .i64) g vC cuts
  cu : CU (fun y => y = pc) g pc (.slice none 0 0) [] false
  pn : h pc = none
  rn : h rb = none
  n1 : xb ≠ pc
  n2 : rb ≠ pc
  n3 : wv ≠ pc
  n4 : ev ≠ pc
  lb : b.length ≤ 40000
  lc : cuts.length ≤ 300
theorem SB.ext {h g g' : H} {xb rb wv ev pc : Nat} {vB vC vw : Value} {b : List UInt8} {cuts : List Int} (A : SB h g xb rb wv ev pc vB vC vw b cuts) (e : Ext g g') : SB h g' xb rb wv ev pc vB vC vw b cuts :=
  ⟨A.E.trans e, e.at A.qx, e.at A.qr, e.at A.qw, e.at A.qe, A.rw'.ext e, SlK.ext A.rB e, A.rC.ext e, A.cu.ext e, A.pn, A.rn, A.n1, A.n2, A.n3, A.n4, A.lb, A.lc⟩
abbrev QS (h : H) : Post := retC [.c 2 4] (okR fun v h' => v = .bool true ∧ Ext h h')
/-- Where the cutter stands. -/
structure SI (g1 g : H) (pc : Nat) (b : List UInt8) (k fm : Nat) (met : Bool) : Prop where
  cu : ∃ D s, CU D g pc s ((b.take fm).drop (offs ((frs b).take k))) met ∧ (∀ y, D y → y = pc ∨ g1 y = none)
  f : Fr (fun y => y = pc) g1 g
  kl : k ≤ (frs b).length
  o : offs ((frs b).take k) ≤ fm
  fm : fm ≤ b.length
theorem drop_take_app {b : List UInt8} {off fm : Nat} (h1 : off ≤ fm) (h2 : fm ≤ b.length) : b.drop off = (b.take fm).drop off ++ b.drop fm := by
  conv => lhs; rw [← List.take_append_drop fm b]
  rw [List.drop_append_of_le_length (by rw [List.length_take]; omega)]
theorem piece_app {b : List UInt8} {off fm to : Nat} (h1 : off ≤ fm) (h2 : fm ≤ to) (h3 : to ≤ b.length) : (b.take fm).drop off ++ (b.drop fm).take (to - fm) = (b.take to).drop off := by
  have h : b.take to = b.take fm ++ (b.drop fm).take (to - fm) := by
    conv => lhs; rw [show to = fm + (to - fm) by omega, List.take_add]
  rw [h, List.drop_append_of_le_length (by rw [List.length_take]; omega)]
section
variable {h g1 g : H} {xb rb wv ev pc k fm i : Nat} {vB vC vw : Value} {b : List UInt8} {cuts : List Int} {met : Bool}
abbrev sEnv (xb rb wv ev pc : Nat) : Env := [(1, .pointer (some ⟨xb, 0, none⟩)), (2, .pointer (some ⟨rb, 0, none⟩)), (3, .pointer (some ⟨wv, 0, none⟩)), (4, .pointer (some ⟨ev, 0, none⟩)), (6, .pointer (some ⟨pc, 0, none⟩))]
theorem SB.at1 (A : SB h g1 xb rb wv ev pc vB vC vw b cuts) (f : Fr (fun y => y = pc) g1 g) : g xb = some (.cells #[vB, vC] 43) ∧ g rb = some (.cells #[.bool false] 4) ∧ g wv = some (.cells #[vw] 44) ∧ g ev = some (.cells #[.int .i64 (offs (frs b) : Nat)] 3) :=
  ⟨f _ _ A.qx A.n1, f _ _ A.qr A.n2, f _ _ A.qw A.n3, f _ _ A.qe A.n4⟩
theorem SB.e (A : SB h g1 xb rb wv ev pc vB vC vw b cuts) (f : Fr (fun y => y = pc) g1 g) : Ext h g := Ext.step' A.E f fun y hy => by rw [hy]; exact A.pn
/-- The end. -/
theorem PS_end (A : SB h g1 xb rb wv ev pc vB vC vw b cuts) (I : SI g1 g pc b k fm met) (hm : if met = true then splitE ((b.take fm).drop (offs ((frs b).take k))) = 300 else (fm = b.length ∧ splitE ((b.take fm).drop (offs ((frs b).take k))) = 111)) :
    vc Try.prog c4_s25 (QS h) [(1, .pointer (some ⟨xb, 0, none⟩)), (2, .pointer (some ⟨rb, 0, none⟩)), (3, .pointer (some ⟨wv, 0, none⟩)), (4, .pointer (some ⟨ev, 0, none⟩)), (6, .pointer (some ⟨pc, 0, none⟩)), (11, .int .i64 (splitE (b.drop (offs (frs b))))), (12, .int .i64 (k : Int)), (14, .bool met)] g := by
  obtain ⟨qx, qr, qw, qe⟩ := A.at1 I.f
  have Eg := A.e I.f
  obtain ⟨D, s, c, hD⟩ := I.cu
  obtain ⟨wa, wc, rfl⟩ := A.rw'.len
  obtain ⟨ba, bc, rfl⟩ := By.len A.rB
  have hrn := A.rn
  have w0 : cellAt g ⟨wv, 0, none⟩ = some (.slice wa (frs b).length wc) := by rw [cellAt_of qw]; rfl
  have x0' : cellAt g ⟨xb, 0, none⟩ = some (.slice ba b.length bc) := by rw [cellAt_of qx]; rfl
  have e0' : cellAt g ⟨ev, 0, none⟩ = some (.int .i64 (offs (frs b) : Nat)) := by rw [cellAt_of qe]; rfl
  have hda := drop_take_app I.o I.fm
  have fin : ∀ g', Ext g g' → Ext h (hupd g' rb (.cells #[.bool true] 4)) := fun g' e => Ext.upd (Eg.trans e) hrn
  have hlb := A.lb
  cases met with
  | true =>
    rw [if_pos rfl] at hm
    have h3 : splitE (b.drop (offs ((frs b).take k))) = 300 := by rw [hda]; exact split_bad hm
    have hk := (fi_next I.kl).2 (by rw [h3]; decide)
    subst hk
    rw [List.take_length] at h3
    rw [h3]
    simp (disch := omega) only [dm_t, wS, simprocAttr, IntKind.bits, w0]
    refine (num_ok _ _).k ?_
    rintro _ _ ⟨rfl, rfl⟩
    simp (disch := omega) only [dm_t, wS, simprocAttr, IntKind.bits, w0]
    refine (Next_met c).k ?_
    rintro _ _ ⟨rfl, rfl⟩
    simp (disch := omega) only [dm_t, wS, simprocAttr, IntKind.bits]
    refine (num_ok _ _).k ?_
    rintro _ _ ⟨rfl, rfl⟩
    simp (disch := omega) only [dm_t, wS, simprocAttr, IntKind.bits]
    intro lb hlb'
    generalize hG : hupd g lb _ = g2
    obtain ⟨e2, _⟩ := new_ext hG hlb'
    clear hG
    simp (disch := omega) only [dm_t, wS, simprocAttr, IntKind.bits]
    refine (Put_met (c.ext e2)).k ?_
    rintro _ _ ⟨rfl, rfl⟩
    simp (disch := omega) only [dm_t, wS, simprocAttr, IntKind.bits]
    refine (num_ok _ _).k ?_
    rintro _ _ ⟨rfl, rfl⟩
    simp (disch := omega) only [dm_t, wS, simprocAttr, IntKind.bits]
    refine works_k fun g3 e3 => ?_
    simp (disch := omega) only [dm_t, wS, simprocAttr, IntKind.bits, storeH_0 ((e2.trans e3).at qr), cellAt_same]
    exact fin g3 (e2.trans e3)
  | false =>
    rw [if_neg (by decide)] at hm
    obtain ⟨rfl, hm⟩ := hm
    rw [List.take_length] at hm c
    have hk := (fi_next I.kl).2 (by rw [hm]; decide)
    subst hk
    rw [List.take_length] at hm c
    have hoff : offs (frs b) ≤ b.length := by
      have := (fi_take (b := b) (frs b).length (Nat.le_refl _)).le
      rwa [List.take_length] at this
    have hcl : (b.drop (offs (frs b))).length = b.length - offs (frs b) := List.length_drop
    rw [hm]
    simp (disch := omega) only [dm_t, wS, simprocAttr, IntKind.bits, w0]
    refine (num_ok _ _).k ?_
    rintro _ _ ⟨rfl, rfl⟩
    simp (disch := omega) only [dm_t, wS, simprocAttr, IntKind.bits, w0]
    refine (num_ok _ _).k ?_
    rintro _ _ ⟨rfl, rfl⟩
    simp (disch := omega) only [dm_t, wS, simprocAttr, IntKind.bits, x0', e0']
    refine (Left_ok c).k ?_
    rintro _ _ ⟨rfl, rfl⟩
    rw [hcl]
    simp (disch := omega) only [dm_t, wS, simprocAttr, IntKind.bits, x0', e0']
    refine works_k fun g3 e3 => ?_
    simp (disch := omega) only [dm_t, wS, simprocAttr, IntKind.bits, cellAt_ext e3 x0', cellAt_ext e3 e0', storeH_0 (e3.at qr), cellAt_same]
    exact fin g3 e3
end
end Go.Proofs.Ytfeaaliocdkonaa.pr
