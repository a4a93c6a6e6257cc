/-
  proto: the frames with which bytes begin: plain; the iterator.
-/
import Derived.Test.YtfeaaliocdkonaaQc
namespace Go.Proofs.Ytfeaaliocdkonaa.pr
open Go.Proofs.Ytfeaaliocdkonaa rr wi
set_option linter.unusedVariables false
set_option linter.unusedSimpArgs false
theorem splitE_cases (l : List UInt8) : splitE l = 0 ∨ splitE l = 111 ∨ splitE l = 300 := by
  unfold splitE
  repeat' split
  all_goals simp
theorem take_app {l m : List UInt8} {n : Nat} (h : n ≤ l.length) : (l ++ m).take n = l.take n := List.take_append_of_le_length h
theorem cut_app {l m : List UInt8} {k n : Nat} (h : k + n ≤ l.length) : ((l ++ m).drop k).take n = (l.drop k).take n := by
  rw [List.drop_append_of_le_length (by omega)]
  exact take_app (by rw [List.length_drop]; omega)
theorem split_app {l m : List UInt8} (h : splitE l = 0) : splitE (l ++ m) = 0 ∧ splitN (l ++ m) = splitN l ∧ splitB (l ++ m) = splitB l := by
  obtain ⟨h1, h2, h3, h4, h5⟩ := splitE_ok h
  have e1 : (l ++ m).take 4 = l.take 4 := take_app h1
  have e2 : ((l ++ m).drop 4).take 4 = (l.drop 4).take 4 := cut_app (by omega)
  have e3 : splitB (l ++ m) = splitB l := by rw [splitB, splitB, e1]; exact cut_app (by omega)
  have hl : (l ++ m).length = l.length + m.length := List.length_append
  refine ⟨?_, by rw [splitN, splitN, e1], e3⟩
  rw [splitE, if_neg (by omega), e1, if_neg (by omega), if_neg (by omega), e2, e3, if_neg (fun hn => hn h5)]
theorem split_bad {l m : List UInt8} (h : splitE l = 300) : splitE (l ++ m) = 300 := by
  have hl : (l ++ m).length = l.length + m.length := List.length_append
  unfold splitE at h
  split at h
  · cases h
  rename_i h1
  have e1 : (l ++ m).take 4 = l.take 4 := take_app (by omega)
  split at h
  · rename_i h2
    rw [splitE, if_neg (by omega), e1, if_pos h2]
  rename_i h2
  split at h
  · cases h
  rename_i h3
  split at h
  · rename_i h4
    have e2 : ((l ++ m).drop 4).take 4 = (l.drop 4).take 4 := cut_app (by omega)
    have e3 : splitB (l ++ m) = splitB l := by rw [splitB, splitB, e1]; exact cut_app (by omega)
    rw [splitE, if_neg (by omega), e1, if_neg h2, if_neg (by omega), e2, e3, if_pos h4]
  · cases h
/-- The bodies of the frames with which bytes begin. -/
def fr : Nat → List UInt8 → List (List UInt8)
  | 0, _ => []
  | n + 1, b => if splitE b = 0 then splitB b :: fr n (b.drop (splitN b)) else []
def frs (b : List UInt8) : List (List UInt8) := fr b.length b
theorem fr_fuel : ∀ (n : Nat) (b : List UInt8), b.length ≤ n → fr n b = frs b := by
  intro n
  induction n using Nat.strongRecOn with
  | ind n ih =>
    intro b hb
    cases n with
    | zero =>
      have : b = [] := List.length_eq_zero_iff.1 (by omega)
      subst this; rfl
    | succ n =>
      unfold frs
      by_cases he : splitE b = 0
      · have hl := splitB_len he
        cases hbl : b.length with
        | zero => omega
        | succ k =>
          rw [fr, if_pos he, fr, if_pos he, ih n (by omega) _ (by rw [List.length_drop]; omega), ih k (by omega) _ (by rw [List.length_drop]; omega)]
      · cases hbl : b.length with
        | zero => exact if_neg he
        | succ k => rw [show fr (n + 1) b = [] from if_neg he, show fr (k + 1) b = [] from if_neg he]
theorem frs_ok {b : List UInt8} (h : splitE b = 0) : frs b = splitB b :: frs (b.drop (splitN b)) := by
  have hl := splitB_len h
  unfold frs
  cases hbl : b.length with
  | zero => omega
  | succ k => rw [fr, if_pos h, fr_fuel k _ (by rw [List.length_drop]; omega)]; rfl
theorem frs_no {b : List UInt8} (h : ¬ splitE b = 0) : frs b = [] := by
  unfold frs
  cases b.length with
  | zero => rfl
  | succ k => rw [fr, if_neg h]
def offs (ws : List (List UInt8)) : Nat := (ws.map fun w => w.length + 8).sum
theorem offs_snoc (ws : List (List UInt8)) (w : List UInt8) : offs (ws ++ [w]) = offs ws + (w.length + 8) := by
  simp [offs]
/-- So far. -/
structure FI (b : List UInt8) (ws : List (List UInt8)) : Prop where
  all : frs b = ws ++ frs (b.drop (offs ws))
  le : offs ws ≤ b.length
theorem fi0 (b : List UInt8) : FI b [] := ⟨by simp [offs], by simp [offs]⟩
theorem FI.step {b : List UInt8} {ws : List (List UInt8)} (F : FI b ws) (h : splitE (b.drop (offs ws)) = 0) : FI b (ws ++ [splitB (b.drop (offs ws))]) ∧ offs (ws ++ [splitB (b.drop (offs ws))]) = offs ws + splitN (b.drop (offs ws)) := by
  obtain ⟨h1, h2, h3, h4⟩ := splitB_len h
  have ho : offs (ws ++ [splitB (b.drop (offs ws))]) = offs ws + splitN (b.drop (offs ws)) := by rw [offs_snoc]; omega
  refine ⟨⟨?_, ?_⟩, ho⟩
  · rw [ho, F.all, frs_ok h, List.drop_drop]; simp
  · rw [ho]; rw [List.length_drop] at h2; omega
def frA (b : List UInt8) (i : Nat) (h0 h : H) (args : List Value) : Prop := ∃ w, args = [.int .i64 (offs ((frs b).take i) : Nat), w] ∧ OwB (fun y => h0 y = none) h 5 w ((frs b).getD i [])
theorem Frames_it {pb : Nat} {w : Value} {b : List UInt8} (hl : b.length ≤ 140737488355328) :
    RngA Try.prog 52 #[.pointer (some ⟨pb, 0, none⟩)] (frs b).length (frA b) (fun h => h pb = some (.cells #[w] 30) ∧ By nos h w b) := by
  intro L J Jx h X hJ hE hy h0
  have key : Ok Try.prog 52 #[.func (.yield L) #[] #[], .pointer (some ⟨pb, 0, none⟩)] h fun _ h' => J (frs b).length h' ∨ ∃ i, i < (frs b).length ∧ Jx (i + 1) h' := by
    refine c52_ok (args := [_, _]) (by simp) ?_
    simp (disch := omega) only [dm_t, wS, simprocAttr, IntKind.bits]
    refine vc_loop1 (fun vi h' => ∃ ws, vi = .int .i64 (offs ws : Int) ∧ FI b ws ∧ J ws.length h') (fun vi _ => b.length - m1 vi) ?_ ?_
    · simp (disch := omega) only [dm_t, wS, simprocAttr, IntKind.bits]
      exact ⟨[], rfl, fi0 b, h0⟩
    rintro _ h1 ⟨ws, rfl, F, hj⟩
    obtain ⟨hb1, hs1⟩ := hJ _ _ hj
    have hle := F.le
    obtain ⟨wa, wc, rfl⟩ := hs1.len
    obtain ⟨_, _, hwc⟩ := SlK.cap hs1
    rw [one_len, bvs_len] at hwc
    simp (disch := omega) only [dm_t, wS, simprocAttr, IntKind.bits, cellAt_of hb1]
    refine By.cutK hs1 (offs ws) b.length wc rfl rfl rfl (by omega) (.inr rfl) ?_
    intro w2 s2
    have hdl : (b.drop (offs ws)).take (b.length - offs ws) = b.drop (offs ws) := List.take_of_length_le (by rw [List.length_drop]; omega)
    rw [hdl] at s2
    simp (disch := omega) only [dm_t, wS, simprocAttr, IntKind.bits]
    refine (Split_ok s2 (by rw [List.length_drop]; omega)).k ?_
    rintro _ g2 ⟨hsp, e2⟩
    rcases hsp with ⟨he, bw', rfl, ow⟩ | ⟨he, rfl⟩
    · obtain ⟨F', hoff⟩ := F.step he
      obtain ⟨z1, z2, z3, z4⟩ := splitB_len he
      have hN : ws.length < (frs b).length := by rw [F'.all]; simp
      have ht : (frs b).take ws.length = ws := by rw [F.all]; simp
      have hg : (frs b).getD ws.length [] = splitB (b.drop (offs ws)) := by rw [F'.all]; simp
      have hA : frA b ws.length h1 g2 [.int .i64 (offs ws : Int), bw'] := ⟨_, by rw [ht], by rw [hg]; exact ow⟩
      have hy1 := hy ws.length hN h1 g2 _ hj e2 hA
      rw [List.length_drop] at z2
      generalize splitN (b.drop (offs ws)) = sz at hoff z1 z2 ⊢
      simp (disch := omega) only [dm_t, wS, simprocAttr, IntKind.bits]
      refine hy1.k ?_
      rintro (_ | _) h2 hj3
      · simp (disch := omega) only [dm_t, wS, simprocAttr, IntKind.bits]
        exact .inr ⟨ws.length, hN, by simpa using hj3⟩
      · simp (disch := omega) only [dm_t, wS, simprocAttr, IntKind.bits]
        refine ⟨⟨ws ++ [splitB (b.drop (offs ws))], by rw [hoff, Int.natCast_add], F', by simpa using hj3⟩, ?_⟩
        show b.length - Int.toNat ((offs ws : Int) + (sz : Int)) < b.length - Int.toNat (offs ws : Int)
        rw [← Int.natCast_add, Int.toNat_natCast, Int.toNat_natCast]
        omega
    · have hall : frs b = ws := by rw [F.all, frs_no he, List.append_nil]
      simp (disch := omega) only [dm_t, wS, simprocAttr, IntKind.bits]
      left
      rw [hall]
      exact hE _ _ _ hj e2
  exact key.k fun _ _ h => h
end Go.Proofs.Ytfeaaliocdkonaa.pr
namespace Go.Proofs.Ytfeaaliocdkonaa.pr
open Go.Proofs.Ytfeaaliocdkonaa rr wi
set_option linter.unusedVariables false
set_option linter.unusedSimpArgs false
abbrev strT : Ty := .pair (.sl .byte) (.sl (.int .i64))
theorem rep_str {S : Nat → Prop} {h : H} {cs : List Value} {x : strT.D} (r : Rep S strT h cs x) : ∃ v w, cs = [v, w] ∧ By S h v x.1 ∧ RepL S (.int .i64) h w x.2 := by
  obtain ⟨_, _, rfl, r1, r2⟩ := r
  obtain ⟨v, _, rfl, _⟩ := id r1
  obtain ⟨w, _, rfl, _⟩ := id r2
  exact ⟨v, w, rfl, repB.1 r1, r2⟩
theorem fi_take {b : List UInt8} : ∀ i, i ≤ (frs b).length → FI b ((frs b).take i) := by
  intro i
  induction i with
  | zero => intro _; exact fi0 b
  | succ i ih =>
    intro hi
    have F := ih (by omega)
    have hall := F.all
    by_cases he : splitE (b.drop (offs ((frs b).take i))) = 0
    · have F' := (F.step he).1
      have h1 : (frs b).take (i + 1) = (frs b).take i ++ [splitB (b.drop (offs ((frs b).take i)))] := by
        conv => lhs; rw [hall]
        rw [frs_ok he]
        have hl : ((frs b).take i).length = i := by rw [List.length_take]; omega
        rw [List.take_append, hl, show i + 1 - i = 1 by omega, List.take_of_length_le (by omega)]
        rfl
      rw [h1]; exact F'
    · rw [frs_no he, List.append_nil] at hall
      have := congrArg List.length hall
      rw [List.length_take] at this
      omega
/-- What the next step tells. -/
theorem fi_next {b : List UInt8} {k : Nat} (hk : k ≤ (frs b).length) : (splitE (b.drop (offs ((frs b).take k))) = 0 → ∃ hk : k < (frs b).length, (frs b)[k] = splitB (b.drop (offs ((frs b).take k))) ∧ offs ((frs b).take (k + 1)) = offs ((frs b).take k) + splitN (b.drop (offs ((frs b).take k)))) ∧
    (¬ splitE (b.drop (offs ((frs b).take k))) = 0 → k = (frs b).length) := by
  have F := fi_take k hk
  have hall := F.all
  have hl : ((frs b).take k).length = k := by rw [List.length_take]; omega
  refine ⟨fun he => ?_, fun he => ?_⟩
  · have hst := F.step he
    have hlen := congrArg List.length hall
    rw [frs_ok he, List.length_append, List.length_cons, hl] at hlen
    refine ⟨by omega, ?_, ?_⟩
    · have h2 : (frs b)[k]? = some (splitB (b.drop (offs ((frs b).take k)))) := by
        conv => lhs; rw [hall]
        rw [frs_ok he, List.getElem?_append_right (by omega), hl, Nat.sub_self]; rfl
      rw [List.getElem?_eq_getElem (by omega)] at h2
      exact Option.some.inj h2
    · rw [show (frs b).take (k + 1) = (frs b).take k ++ [splitB (b.drop (offs ((frs b).take k)))] from ?_]
      · exact hst.2
      · conv => lhs; rw [hall]
        rw [frs_ok he, List.take_append, hl, show k + 1 - k = 1 by omega, List.take_of_length_le (by omega)]; rfl
  · rw [frs_no he, List.append_nil] at hall
    have := congrArg List.length hall
    omega
/-- What stands when the frames have been gone over. -/
structure SB (h g : H) (xb rb wv ev pc : Nat) (vB vC vw : Value) (b : List UInt8) (cuts : List Int) : Prop where
  E : Ext h g
  qx : g xb = some (.cells #[vB, vC] 43)
  qr : g rb = some (.cells #[.bool false] 4)
  qw : g wv = some (.cells #[vw] 44)
  qe : g ev = some (.cells #[.int .i64 (offs (frs b) : Nat)] 3)
  rw' : RepL (fun y => y = pc) (.sl .byte) g vw (frs b)
  rB : By (fun y => y = pc) g vB b
  rC : RepL (fun y => y = pc) (.int .i64) g vC cuts
  cu : CU (fun y => y = pc) g pc (.slice none 0 0) [] false
  pn : h pc = none
  rn : h rb = none
  n1 : xb ≠ pc
  n2 : rb ≠ pc
  n3 : wv ≠ pc
  n4 : ev ≠ pc
  lb : b.length ≤ 40000
  lc : cuts.length ≤ 300
theorem SB.ext {h g g' : H} {xb rb wv ev pc : Nat} {vB vC vw : Value} {b : List UInt8} {cuts : List Int} (A : SB h g xb rb wv ev pc vB vC vw b cuts) (e : Ext g g') : SB h g' xb rb wv ev pc vB vC vw b cuts :=
  ⟨A.E.trans e, e.at A.qx, e.at A.qr, e.at A.qw, e.at A.qe, A.rw'.ext e, SlK.ext A.rB e, A.rC.ext e, A.cu.ext e, A.pn, A.rn, A.n1, A.n2, A.n3, A.n4, A.lb, A.lc⟩
abbrev QS (h : H) : Post := retC [.c 2 4] (okR fun v h' => v = .bool true ∧ Ext h h')
/-- Where the cutter stands. -/
structure SI (g1 g : H) (pc : Nat) (b : List UInt8) (k fm : Nat) (met : Bool) : Prop where
  cu : ∃ D s, CU D g pc s ((b.take fm).drop (offs ((frs b).take k))) met ∧ (∀ y, D y → y = pc ∨ g1 y = none)
  f : Fr (fun y => y = pc) g1 g
  kl : k ≤ (frs b).length
  o : offs ((frs b).take k) ≤ fm
  fm : fm ≤ b.length
theorem drop_take_app {b : List UInt8} {off fm : Nat} (h1 : off ≤ fm) (h2 : fm ≤ b.length) : b.drop off = (b.take fm).drop off ++ b.drop fm := by
  conv => lhs; rw [← List.take_append_drop fm b]
  rw [List.drop_append_of_le_length (by rw [List.length_take]; omega)]
theorem piece_app {b : List UInt8} {off fm to : Nat} (h1 : off ≤ fm) (h2 : fm ≤ to) (h3 : to ≤ b.length) : (b.take fm).drop off ++ (b.drop fm).take (to - fm) = (b.take to).drop off := by
  have h : b.take to = b.take fm ++ (b.drop fm).take (to - fm) := by
    conv => lhs; rw [show to = fm + (to - fm) by omega, List.take_add]
  rw [h, List.drop_append_of_le_length (by rw [List.length_take]; omega)]
section
variable {h g1 g : H} {xb rb wv ev pc k fm i : Nat} {vB vC vw : Value} {b : List UInt8} {cuts : List Int} {met : Bool}
abbrev sEnv (xb rb wv ev pc : Nat) : Env := [(1, .pointer (some ⟨xb, 0, none⟩)), (2, .pointer (some ⟨rb, 0, none⟩)), (3, .pointer (some ⟨wv, 0, none⟩)), (4, .pointer (some ⟨ev, 0, none⟩)), (6, .pointer (some ⟨pc, 0, none⟩))]
theorem SB.at1 (A : SB h g1 xb rb wv ev pc vB vC vw b cuts) (f : Fr (fun y => y = pc) g1 g) : g xb = some (.cells #[vB, vC] 43) ∧ g rb = some (.cells #[.bool false] 4) ∧ g wv = some (.cells #[vw] 44) ∧ g ev = some (.cells #[.int .i64 (offs (frs b) : Nat)] 3) :=
  ⟨f _ _ A.qx A.n1, f _ _ A.qr A.n2, f _ _ A.qw A.n3, f _ _ A.qe A.n4⟩
theorem SB.e (A : SB h g1 xb rb wv ev pc vB vC vw b cuts) (f : Fr (fun y => y = pc) g1 g) : Ext h g := Ext.step' A.E f fun y hy => by rw [hy]; exact A.pn
/-- The end. -/
theorem PS_end (A : SB h g1 xb rb wv ev pc vB vC vw b cuts) (I : SI g1 g pc b k fm met) (hm : if met = true then splitE ((b.take fm).drop (offs ((frs b).take k))) = 300 else (fm = b.length ∧ splitE ((b.take fm).drop (offs ((frs b).take k))) = 111)) :
    vc Try.prog c4_s25 (QS h) [(1, .pointer (some ⟨xb, 0, none⟩)), (2, .pointer (some ⟨rb, 0, none⟩)), (3, .pointer (some ⟨wv, 0, none⟩)), (4, .pointer (some ⟨ev, 0, none⟩)), (6, .pointer (some ⟨pc, 0, none⟩)), (11, .int .i64 (splitE (b.drop (offs (frs b))))), (12, .int .i64 (k : Int)), (14, .bool met)] g := by
  obtain ⟨qx, qr, qw, qe⟩ := A.at1 I.f
  have Eg := A.e I.f
  obtain ⟨D, s, c, hD⟩ := I.cu
  obtain ⟨wa, wc, rfl⟩ := A.rw'.len
  obtain ⟨ba, bc, rfl⟩ := By.len A.rB
  have hrn := A.rn
  have w0 : cellAt g ⟨wv, 0, none⟩ = some (.slice wa (frs b).length wc) := by rw [cellAt_of qw]; rfl
  have x0' : cellAt g ⟨xb, 0, none⟩ = some (.slice ba b.length bc) := by rw [cellAt_of qx]; rfl
  have e0' : cellAt g ⟨ev, 0, none⟩ = some (.int .i64 (offs (frs b) : Nat)) := by rw [cellAt_of qe]; rfl
  have hda := drop_take_app I.o I.fm
  have fin : ∀ g', Ext g g' → Ext h (hupd g' rb (.cells #[.bool true] 4)) := fun g' e => Ext.upd (Eg.trans e) hrn
  have hlb := A.lb
  cases met with
  | true =>
    rw [if_pos rfl] at hm
    have h3 : splitE (b.drop (offs ((frs b).take k))) = 300 := by rw [hda]; exact split_bad hm
    have hk := (fi_next I.kl).2 (by rw [h3]; decide)
    subst hk
    rw [List.take_length] at h3
    rw [h3]
    simp (disch := omega) only [dm_t, wS, simprocAttr, IntKind.bits, w0]
    refine (num_ok _ _).k ?_
    rintro _ _ ⟨rfl, rfl⟩
    simp (disch := omega) only [dm_t, wS, simprocAttr, IntKind.bits, w0]
    refine (Next_met c).k ?_
    rintro _ _ ⟨rfl, rfl⟩
    simp (disch := omega) only [dm_t, wS, simprocAttr, IntKind.bits]
    refine (num_ok _ _).k ?_
    rintro _ _ ⟨rfl, rfl⟩
    simp (disch := omega) only [dm_t, wS, simprocAttr, IntKind.bits]
    intro lb hlb'
    generalize hG : hupd g lb _ = g2
    obtain ⟨e2, _⟩ := new_ext hG hlb'
    clear hG
    simp (disch := omega) only [dm_t, wS, simprocAttr, IntKind.bits]
    refine (Put_met (c.ext e2)).k ?_
    rintro _ _ ⟨rfl, rfl⟩
    simp (disch := omega) only [dm_t, wS, simprocAttr, IntKind.bits]
    refine (num_ok _ _).k ?_
    rintro _ _ ⟨rfl, rfl⟩
    simp (disch := omega) only [dm_t, wS, simprocAttr, IntKind.bits]
    refine works_k fun g3 e3 => ?_
    simp (disch := omega) only [dm_t, wS, simprocAttr, IntKind.bits, storeH_0 ((e2.trans e3).at qr), cellAt_same]
    exact fin g3 (e2.trans e3)
  | false =>
    rw [if_neg (by decide)] at hm
    obtain ⟨rfl, hm⟩ := hm
    rw [List.take_length] at hm c
    have hk := (fi_next I.kl).2 (by rw [hm]; decide)
    subst hk
    rw [List.take_length] at hm c
    have hoff : offs (frs b) ≤ b.length := by
      have := (fi_take (b := b) (frs b).length (Nat.le_refl _)).le
      rwa [List.take_length] at this
    have hcl : (b.drop (offs (frs b))).length = b.length - offs (frs b) := List.length_drop
    rw [hm]
    simp (disch := omega) only [dm_t, wS, simprocAttr, IntKind.bits, w0]
    refine (num_ok _ _).k ?_
    rintro _ _ ⟨rfl, rfl⟩
    simp (disch := omega) only [dm_t, wS, simprocAttr, IntKind.bits, w0]
    refine (num_ok _ _).k ?_
    rintro _ _ ⟨rfl, rfl⟩
    simp (disch := omega) only [dm_t, wS, simprocAttr, IntKind.bits, x0', e0']
    refine (Left_ok c).k ?_
    rintro _ _ ⟨rfl, rfl⟩
    rw [hcl]
    simp (disch := omega) only [dm_t, wS, simprocAttr, IntKind.bits, x0', e0']
    refine works_k fun g3 e3 => ?_
    simp (disch := omega) only [dm_t, wS, simprocAttr, IntKind.bits, cellAt_ext e3 x0', cellAt_ext e3 e0', storeH_0 (e3.at qr), cellAt_same]
    exact fin g3 e3
end
end Go.Proofs.Ytfeaaliocdkonaa.pr
namespace Go.Proofs.Ytfeaaliocdkonaa.pr
open Go.Proofs.Ytfeaaliocdkonaa rr wi
set_option linter.unusedVariables false
set_option linter.unusedSimpArgs false
theorem step40 (c : Int) : ∃ n : Nat, (Int.tmod c 40 + 40) % 40 = n ∧ n < 40 ∧ -40 < Int.tmod c 40 ∧ Int.tmod c 40 < 40 := by
  have h1 := Int.lt_tmod_of_pos c (show (0 : Int) < 40 by decide)
  have h2 := Int.tmod_lt_of_pos c (show (0 : Int) < 40 by decide)
  exact ⟨((Int.tmod c 40 + 40) % 40).toNat, by omega, by omega, h1, h2⟩
theorem offs_ge (ws : List (List UInt8)) : 8 * ws.length ≤ offs ws := by
  induction ws with
  | nil => simp [offs]
  | cons w t ih =>
    have : offs (w :: t) = w.length + 8 + offs t := by simp [offs]
    rw [this, List.length_cons]; omega
theorem frs_len (b : List UInt8) : 8 * (frs b).length ≤ b.length := by
  have h1 := (fi_take (b := b) (frs b).length (Nat.le_refl _)).le
  rw [List.take_length] at h1
  have := offs_ge (frs b)
  omega
section
variable {h g1 : H} {xb rb wv ev pc : Nat} {vB vC vw : Value} {b : List UInt8} {cuts : List Int}
/-- What follows a round. -/
def SN (Q0 : Post) (g1 : H) (xb rb wv ev pc : Nat) (b : List UInt8) (cuts : List Int) (i : Nat) : Prop := ∀ (g : H) (k fm : Nat) (met : Bool), SI g1 g pc b k fm met → (met = true → splitE ((b.take fm).drop (offs ((frs b).take k))) = 300) → (met = false → splitE ((b.take fm).drop (offs ((frs b).take k))) = 111 ∧ (i = cuts.length → fm = b.length)) →
  vc Try.prog c4_s24 Q0 [(1, .pointer (some ⟨xb, 0, none⟩)), (2, .pointer (some ⟨rb, 0, none⟩)), (3, .pointer (some ⟨wv, 0, none⟩)), (4, .pointer (some ⟨ev, 0, none⟩)), (6, .pointer (some ⟨pc, 0, none⟩)), (11, .int .i64 (splitE (b.drop (offs (frs b))))), (12, .int .i64 (k : Int)), (13, .int .i64 (fm : Int)), (14, .bool met), (15, .int .i64 (i : Int))] g
theorem PS_inner {Q0 : Post} {i k to : Nat} {g2 : H} (A : SB h g1 xb rb wv ev pc vB vC vw b cuts) (N : SN Q0 g1 xb rb wv ev pc b cuts i) (hi : i ≤ cuts.length) (h2 : to ≤ b.length) (h3 : i = cuts.length → to = b.length) (I2 : SI g1 g2 pc b k to false) :
    vc Try.prog c4_s19 (blockQ 3 (seqQ Try.prog [1, 2, 3, 4, 6, 11, 12, 13, 14, 15] c4_s24 Q0)) [(1, .pointer (some ⟨xb, 0, none⟩)), (2, .pointer (some ⟨rb, 0, none⟩)), (3, .pointer (some ⟨wv, 0, none⟩)), (4, .pointer (some ⟨ev, 0, none⟩)), (6, .pointer (some ⟨pc, 0, none⟩)), (11, .int .i64 (splitE (b.drop (offs (frs b))))), (12, .int .i64 (k : Int)), (13, .int .i64 (to : Int)), (14, .bool false), (15, .int .i64 (i : Int))] g2 := by
  have hlb := A.lb
  have hlc := A.lc
  have hfl := frs_len b
  obtain ⟨wa, wc, rfl⟩ := A.rw'.len
  obtain ⟨ba, bc, rfl⟩ := By.len A.rB
  obtain ⟨ca, cc, rfl⟩ := A.rC.len
  obtain ⟨_, _, hbc⟩ := SlK.cap A.rB
  rw [one_len, bvs_len] at hbc
  simp (disch := omega) only [dm_t, wS, simprocAttr, IntKind.bits]
  refine vc_loop2 (fun vk vm g => ∃ k : Nat, vk = .int .i64 (k : Int) ∧ vm = .bool false ∧ SI g1 g pc b k to false) (fun vk _ _ => (frs b).length - m1 vk) ?_ ?_
  · simp (disch := omega) only [dm_t, wS, simprocAttr, IntKind.bits]
    exact ⟨k, rfl, I2⟩
  rintro _ _ g3 ⟨k3, rfl, rfl, I3⟩
  obtain ⟨D, s, c, hD⟩ := I3.cu
  have hkl := I3.kl
  obtain ⟨qx3, qr3, qw3, qe3⟩ := A.at1 I3.f
  have w03 : cellAt g3 ⟨wv, 0, none⟩ = some (.slice wa (frs b).length wc) := by rw [cellAt_of qw3]; rfl
  have hcl : ((b.take to).drop (offs ((frs b).take k3))).length ≤ 40000 := by rw [List.length_drop, List.length_take]; omega
  have hda := drop_take_app I3.o I3.fm
  obtain ⟨nx1, nx2⟩ := fi_next hkl
  have I4 : ∀ (g4 : H) (s' : Value) (l' : List UInt8) (m' : Bool) (kk : Nat), CU D g4 pc s' l' m' → l' = (b.take to).drop (offs ((frs b).take kk)) → Fr D g3 g4 → kk ≤ (frs b).length → offs ((frs b).take kk) ≤ to → SI g1 g4 pc b kk to m' := by
    intro g4 s' l' m' kk c' hl' f hkk hoo
    subst hl'
    refine ⟨⟨D, s', c', hD⟩, ?_, hkk, hoo, h2⟩
    intro y o hy hn
    exact f _ _ (I3.f _ _ hy hn) fun hd => (hD y hd).elim hn fun h0 => by rw [h0] at hy; cases hy
  simp (disch := omega) only [dm_t, wS, simprocAttr, IntKind.bits]
  refine (Next_all c (by omega)).k ?_
  rintro _ g4 ⟨⟨w, s', rfl, ow, c'⟩, f4⟩
  generalize hcle : (b.take to).drop (offs ((frs b).take k3)) = cl at *
  rcases splitE_cases cl with he | he | he
  · -- a frame
    obtain ⟨hsa1, hsa2, hsa3⟩ := split_app (m := b.drop to) he
    rw [← hda] at hsa1 hsa2 hsa3
    obtain ⟨hk4, hbody, hoff⟩ := nx1 hsa1
    obtain ⟨z1, z2, z3, z4⟩ := splitB_len he
    rw [hsa3] at hbody
    rw [hsa2] at hoff
    have hcll : cl.length = to - offs ((frs b).take k3) := by rw [← hcle, List.length_drop, List.length_take]; omega
    have hol := I3.o
    rw [show nE cl false = 0 from he] at *
    rw [show nB cl false = splitB cl from if_pos he] at ow
    rw [show nL cl false = cl.drop (splitN cl) from if_pos he, show nM cl false = decide (splitE cl = 300) from rfl, he] at c'
    have hI := I4 g4 s' _ _ (k3 + 1) c' (by rw [hoff, ← hcle, List.drop_drop]) f4 (by omega) (by rw [hoff]; omega)
    obtain ⟨qx4, qr4, qw4, qe4⟩ := A.at1 hI.f
    have w04 : cellAt g4 ⟨wv, 0, none⟩ = some (.slice wa (frs b).length wc) := by rw [cellAt_of qw4]; rfl
    have rw4 := RepL.fr A.rw' hI.f fun y hy => hy
    obtain ⟨pb, po, wi, i1, t1, r1⟩ := RepL.load1 rw4 hk4 .i64 rfl
    rw [hbody] at r1
    have r1' : By (fun y => y = pc) g4 wi (splitB cl) := repB.1 r1
    obtain ⟨wia, wic, rfl⟩ := By.len r1'
    obtain ⟨oa, oc, rfl⟩ := By.len ow.s0
    simp (disch := omega) only [dm_t, wS, simprocAttr, IntKind.bits]
    refine (num_ok _ _).k ?_
    rintro _ _ ⟨rfl, rfl⟩
    simp (disch := omega) only [dm_t, wS, simprocAttr, IntKind.bits]
    refine (num_ok _ _).k ?_
    rintro _ _ ⟨rfl, rfl⟩
    simp (disch := omega) only [dm_t, wS, simprocAttr, IntKind.bits]
    refine (num_ok _ _).k ?_
    rintro _ _ ⟨rfl, rfl⟩
    have fin : (∃ k : Nat, Value.int .i64 ((k3 : Int) + 1) = .int .i64 (k : Int) ∧ SI g1 g4 pc b k to false) ∧ (frs b).length - m1 (Value.int .i64 ((k3 : Int) + 1)) < (frs b).length - m1 (Value.int .i64 (k3 : Int)) := ⟨⟨k3 + 1, by simp, hI⟩, by simp [m1]; omega⟩
    simp (disch := omega) only [dm_t, wS, simprocAttr, IntKind.bits, w04, i1, t1]
    refine ⟨?_, ?_⟩
    · refine cvbs_of ow.s0 ?_
      simp (disch := omega) only [dm_t, wS, simprocAttr, IntKind.bits, w04, i1, t1]
      refine cvbs_of r1' ?_
      simp (disch := omega) only [dm_t, wS, simprocAttr, IntKind.bits, w04, i1, t1]
      exact fin
    · refine cvbs_of r1' ?_
      simp (disch := omega) only [dm_t, wS, simprocAttr, IntKind.bits, w04, i1, t1]
      refine cvbs_of ow.s0 ?_
      simp (disch := omega) only [dm_t, wS, simprocAttr, IntKind.bits, w04, i1, t1]
      exact fin
  · -- more is wanted
    have he0 : ¬ splitE cl = 0 := by rw [he]; decide
    rw [show nE cl false = 111 from he] at *
    rw [show nL cl false = cl from if_neg he0, show nM cl false = decide (splitE cl = 300) from rfl, he] at c'
    have hI := I4 g4 s' _ _ k3 c' hcle.symm f4 (by omega) I3.o
    simp (disch := omega) only [dm_t, wS, simprocAttr, IntKind.bits]
    refine (num_ok _ _).k ?_
    rintro _ _ ⟨rfl, rfl⟩
    have t := N g4 k3 to false hI (fun h => by cases h) fun _ => ⟨by rw [hcle]; exact he, h3⟩
    revert t
    simp (disch := omega) only [dm_t, wS, simprocAttr, IntKind.bits]
    exact id
  · -- no frame
    have he0 : ¬ splitE cl = 0 := by rw [he]; decide
    rw [show nE cl false = 300 from he] at *
    rw [show nL cl false = cl from if_neg he0, show nM cl false = decide (splitE cl = 300) from rfl, he] at c'
    have hI := I4 g4 s' _ _ k3 c' hcle.symm f4 (by omega) I3.o
    simp (disch := omega) only [dm_t, wS, simprocAttr, IntKind.bits]
    refine (num_ok _ _).k ?_
    rintro _ _ ⟨rfl, rfl⟩
    simp (disch := omega) only [dm_t, wS, simprocAttr, IntKind.bits]
    refine (num_ok _ _).k ?_
    rintro _ _ ⟨rfl, rfl⟩
    have t := N g4 k3 to true hI (fun _ => by rw [hcle]; exact he) fun h => by cases h
    revert t
    simp (disch := omega) only [dm_t, wS, simprocAttr, IntKind.bits]
    exact id
theorem PS_piece {Q0 : Post} {i k fm to : Nat} {g : H} (A : SB h g1 xb rb wv ev pc vB vC vw b cuts) (N : SN Q0 g1 xb rb wv ev pc b cuts i) (hi : i ≤ cuts.length) (I : SI g1 g pc b k fm false) (h1 : fm ≤ to) (h2 : to ≤ b.length) (h3 : i = cuts.length → to = b.length) :
    vc Try.prog c4_s17 (blockQ 3 (seqQ Try.prog [1, 2, 3, 4, 6, 11, 12, 13, 14, 15] c4_s24 Q0)) [(1, .pointer (some ⟨xb, 0, none⟩)), (2, .pointer (some ⟨rb, 0, none⟩)), (3, .pointer (some ⟨wv, 0, none⟩)), (4, .pointer (some ⟨ev, 0, none⟩)), (6, .pointer (some ⟨pc, 0, none⟩)), (11, .int .i64 (splitE (b.drop (offs (frs b))))), (12, .int .i64 (k : Int)), (13, .int .i64 (fm : Int)), (14, .bool false), (15, .int .i64 (i : Int)), (16, .int .i64 (to : Int))] g := by
  have hlb := A.lb
  have hlc := A.lc
  have hfl := frs_len b
  obtain ⟨wa, wc, rfl⟩ := A.rw'.len
  obtain ⟨ba, bc, rfl⟩ := By.len A.rB
  obtain ⟨ca, cc, rfl⟩ := A.rC.len
  obtain ⟨_, _, hbc⟩ := SlK.cap A.rB
  rw [one_len, bvs_len] at hbc
  obtain ⟨qx, qr, qw, qe⟩ := A.at1 I.f
  have x0' : cellAt g ⟨xb, 0, none⟩ = some (.slice ba b.length bc) := by rw [cellAt_of qx]; rfl
  obtain ⟨D, s, c, hD⟩ := I.cu
  have sB := SlK.fr A.rB I.f fun y hy => hy
  simp (disch := omega) only [dm_t, wS, simprocAttr, IntKind.bits, x0']
  refine By.cutK sB fm to bc rfl rfl rfl (by omega) (.inr rfl) ?_
  intro w2 s2
  simp (disch := omega) only [dm_t, wS, simprocAttr, IntKind.bits]
  refine (Put_all c s2 (by simp only [List.length_drop, List.length_take]; omega)).k ?_
  rintro _ g2 ⟨rfl, ⟨s', c'⟩, f2⟩
  rw [if_neg (by decide), piece_app I.o h1 h2] at c'
  rw [stE, if_neg (by decide)]
  have I2 : SI g1 g2 pc b k to false := by
    refine ⟨⟨_, s', c', ?_⟩, ?_, I.kl, Nat.le_trans I.o h1, h2⟩
    · rintro y ⟨hy | hy, _⟩
      · exact hD y hy
      · by_cases hyp : y = pc
        · exact .inl hyp
        · exact .inr (I.f.back hy (fun z hz => by rw [hz]; exact c.obj ▸ (by simp)))
    · intro y o hy hn
      exact f2 _ _ (I.f _ _ hy hn) fun hd => (hD y hd).elim hn fun h0 => by rw [h0] at hy; cases hy
  simp (disch := omega) only [dm_t, wS, simprocAttr, IntKind.bits]
  refine (num_ok _ _).k ?_
  rintro _ _ ⟨rfl, rfl⟩
  have t := PS_inner A N hi h2 h3 I2
  revert t
  simp (disch := omega) only [dm_t, wS, simprocAttr, IntKind.bits]
  exact id
theorem PS_loop (A : SB h g1 xb rb wv ev pc vB vC vw b cuts) :
    vc Try.prog c4_s12 (QS h) [(1, .pointer (some ⟨xb, 0, none⟩)), (2, .pointer (some ⟨rb, 0, none⟩)), (3, .pointer (some ⟨wv, 0, none⟩)), (4, .pointer (some ⟨ev, 0, none⟩)), (6, .pointer (some ⟨pc, 0, none⟩)), (11, .int .i64 (splitE (b.drop (offs (frs b)))))] g1 := by
  have hlb := A.lb
  have hlc := A.lc
  have hfl := frs_len b
  obtain ⟨wa, wc, rfl⟩ := A.rw'.len
  obtain ⟨ba, bc, rfl⟩ := By.len A.rB
  obtain ⟨ca, cc, rfl⟩ := A.rC.len
  obtain ⟨_, _, hbc⟩ := SlK.cap A.rB
  rw [one_len, bvs_len] at hbc
  simp (disch := omega) only [dm_t, wS, simprocAttr, IntKind.bits]
  refine vc_loop4 (fun vk vf vm vi g => ∃ (i k fm : Nat) (met : Bool), vi = .int .i64 (i : Int) ∧ vk = .int .i64 (k : Int) ∧ vf = .int .i64 (fm : Int) ∧ vm = .bool met ∧ i ≤ cuts.length + 1 ∧ SI g1 g pc b k fm met ∧
    (met = true → splitE ((b.take fm).drop (offs ((frs b).take k))) = 300) ∧ (met = false → i = cuts.length + 1 → fm = b.length ∧ splitE ((b.take fm).drop (offs ((frs b).take k))) = 111)) (fun _ _ _ vi _ => cuts.length + 1 - m1 vi) ?_ ?_
  · simp (disch := omega) only [dm_t, wS, simprocAttr, IntKind.bits]
    refine ⟨0, 0, 0, false, rfl, rfl, rfl, rfl, by omega, ⟨⟨fun y => y = pc, .slice none 0 0, ?_, fun y hy => .inl hy⟩, Fr.refl _ _, by omega, by simp [offs], by omega⟩, fun h => (by cases h), fun _ h => (by omega)⟩
    simpa using A.cu
  rintro _ _ _ _ g ⟨i, k, fm, met, rfl, rfl, rfl, rfl, hi, I, hm1, hm2⟩
  obtain ⟨qx, qr, qw, qe⟩ := A.at1 I.f
  have w0 : cellAt g ⟨wv, 0, none⟩ = some (.slice wa (frs b).length wc) := by rw [cellAt_of qw]; rfl
  have x0' : cellAt g ⟨xb, 0, none⟩ = some (.slice ba b.length bc) := by rw [cellAt_of qx]; rfl
  have x1' : cellAt g ⟨xb, 1, none⟩ = some (.slice ca cuts.length cc) := by rw [cellAt_of qx]; rfl
  by_cases hic : i ≤ cuts.length
  case neg =>
    have hic' : i = cuts.length + 1 := by omega
    have t := PS_end A I (by
      cases met with
      | true => rw [if_pos rfl]; exact hm1 rfl
      | false => rw [if_neg (by decide)]; exact hm2 rfl hic')
    revert t
    simp (disch := omega) only [dm_t, wS, simprocAttr, IntKind.bits, x1']
    exact id
  cases met with
  | true =>
    have t := PS_end A I (by rw [if_pos rfl]; exact hm1 rfl)
    revert t
    simp (disch := omega) only [dm_t, wS, simprocAttr, IntKind.bits, x1']
    exact id
  | false =>
  generalize hQ0 : lq4 _ _ _ _ _ _ _ _ _ _ = Q0
  have N : SN Q0 g1 xb rb wv ev pc b cuts i := by
    intro g4 k4 fm4 met4 I4 h1 h2
    rw [← hQ0]
    simp (disch := omega) only [dm_t, wS, simprocAttr, IntKind.bits]
    refine ⟨⟨i + 1, k4, fm4, met4, by simp, rfl, rfl, rfl, by omega, I4, h1, fun hm h => ⟨(h2 hm).2 (by omega), (h2 hm).1⟩⟩, by simp [m1]; omega⟩
  by_cases hil : i < cuts.length
  · obtain ⟨pb, po, i1, t1⟩ := S1.load (repI (RepL.fr A.rC I.f fun y hy => hy)).1 (i := i) (by simpa using hil) .i64
    rw [List.getElem_map] at t1
    generalize cuts[i] = cc1 at t1
    obtain ⟨n, hn, hn2, hn3, hn4⟩ := step40 cc1
    have hfm := I.fm
    have hmin : min (b.length : Int) ((fm : Int) + (n : Int)) = ((min b.length (fm + n) : Nat) : Int) := by omega
    have t := PS_piece A N hic I (to := min b.length (fm + n)) (by omega) (by omega) (fun h => by omega)
    revert t
    simp (disch := omega) only [dm_t, wS, simprocAttr, IntKind.bits, x0', x1', i1, t1, hn, hmin]
    exact id
  · have t := PS_piece A N hic I I.fm (Nat.le_refl _) (fun _ => rfl)
    revert t
    simp (disch := omega) only [dm_t, wS, simprocAttr, IntKind.bits, x0', x1']
    exact id
end
end Go.Proofs.Ytfeaaliocdkonaa.pr
