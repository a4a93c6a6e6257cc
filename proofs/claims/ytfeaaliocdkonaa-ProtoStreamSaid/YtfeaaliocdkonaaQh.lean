/-
  proto: the frames with which bytes begin: plain; the iterator.
-/
import Derived.Test.YtfeaaliocdkonaaQc
namespace Go.Proofs.Ytfeaaliocdkonaa.pr
open Go.Proofs.Ytfeaaliocdkonaa rr wi
set_option linter.unusedVariables false
set_option linter.unusedSimpArgs false
theorem splitE_cases (l : List UInt8) : splitE l = 0 ∨ splitE l = 111 ∨ splitE l = 300 := by
  unfold splitE
  repeat' split
  all_goals simp
theorem take_app {l m : List UInt8} {n : Nat} (h : n ≤ l.length) : (l ++ m).take n = l.take n := List.take_append_of_le_length h
theorem cut_app {l m : List UInt8} {k n : Nat} (h : k + n ≤ l.length) : ((l ++ m).drop k).take n = (l.drop k).take n := by
  rw [List.drop_append_of_le_length (by omega)]
  exact take_app (by rw [List.length_drop]; omega)
theorem split_app {l m : List UInt8} (h : splitE l = 0) : splitE (l ++ m) = 0 ∧ splitN (l ++ m) = splitN l ∧ splitB (l ++ m) = splitB l := by
  obtain ⟨h1, h2, h3, h4, h5⟩ := splitE_ok h
  have e1 : (l ++ m).take 4 = l.take 4 := take_app h1
  have e2 : ((l ++ m).drop 4).take 4 = (l.drop 4).take 4 := cut_app (by omega)
  have e3 : splitB (l ++ m) = splitB l := by rw [splitB, splitB, e1]; exact cut_app (by omega)
  have hl : (l ++ m).length = l.length + m.length := List.length_append
  refine ⟨?_, by rw [splitN, splitN, e1], e3⟩
  rw [splitE, if_neg (by omega), e1, if_neg (by omega), if_neg (by omega), e2, e3, if_neg (fun hn => hn h5)]
theorem split_bad {l m : List UInt8} (h : splitE l = 300) : splitE (l ++ m) = 300 := by
  have hl : (l ++ m).length = l.length + m.length := List.length_append
  unfold splitE at h
  split at h
  · cases h
  rename_i h1
  have e1 : (l ++ m).take 4 = l.take 4 := take_app (by omega)
  split at h
  · rename_i h2
    rw [splitE, if_neg (by omega), e1, if_pos h2]
  rename_i h2
  split at h
  · cases h
  rename_i h3
  split at h
  · rename_i h4
    have e2 : ((l ++ m).drop 4).take 4 = (l.drop 4).take 4 := cut_app (by omega)
    have e3 : splitB (l ++ m) = splitB l := by rw [splitB, splitB, e1]; exact cut_app (by omega)
    rw [splitE, if_neg (by omega), e1, if_neg h2, if_neg (by omega), e2, e3, if_pos h4]
  · cases h
/-- The bodies of the frames with which bytes begin. -/
def fr : Nat → List UInt8 → List (List UInt8)
  | 0, _ => []
  | n + 1, b => if splitE b = 0 then splitB b :: fr n (b.drop (splitN b)) else []
def frs (b : List UInt8) : List (List UInt8) := fr b.length b
theorem fr_fuel : ∀ (n : Nat) (b : List UInt8), b.length ≤ n → fr n b = frs b := by
  intro n
  induction n using Nat.strongRecOn with
  | ind n ih =>
    intro b hb
    cases n with
    | zero =>
      have : b = [] := List.length_eq_zero_iff.1 (by omega)
      subst this; rfl
    | succ n =>
      unfold frs
      by_cases he : splitE b = 0
      · have hl := splitB_len he
        cases hbl : b.length with
        | zero => omega
        | succ k =>
          rw [fr, if_pos he, fr, if_pos he, ih n (by omega) _ (by rw [List.length_drop]; omega), ih k (by omega) _ (by rw [List.length_drop]; omega)]
      · cases hbl : b.length with
        | zero => exact if_neg he
        | succ k => rw [show fr (n + 1) b = [] from if_neg he, show fr (k + 1) b = [] from if_neg he]
theorem frs_ok {b : List UInt8} (h : splitE b = 0) : frs b = splitB b :: frs (b.drop (splitN b)) := by
  have hl := splitB_len h
  unfold frs
  cases hbl : b.length with
  | zero => omega
  | succ k => rw [fr, if_pos h, fr_fuel k _ (by rw [List.length_drop]; omega)]; rfl
theorem frs_no {b : List UInt8} (h : ¬ splitE b = 0) : frs b = [] := by
  unfold frs
  cases b.length with
  | zero => rfl
  | succ k => rw [fr, if_neg h]
def offs (ws : List (List UInt8)) : Nat := (ws.map fun w => w.length + 8).sum
theorem offs_snoc (ws : List (List UInt8)) (w : List UInt8) : offs (ws ++ [w]) = offs ws + (w.length + 8) := by
  simp [offs]
/-- So far. -/
structure FI (b : List UInt8) (ws : List (List UInt8)) : Prop where
  all : frs b = ws ++ frs (b.drop (offs ws))
  le : offs ws ≤ b.length
theorem fi0 (b : List UInt8) : FI b [] := ⟨by simp [offs], by simp [offs]⟩
theorem FI.step {b : List UInt8} {ws : List (List UInt8)} (F : FI b ws) (h : splitE (b.drop (offs ws)) = 0) : FI b (ws ++ [splitB (b.drop (offs ws))]) ∧ offs (ws ++ [splitB (b.drop (offs ws))]) = offs ws + splitN (b.drop (offs ws)) := by
  obtain ⟨h1, h2, h3, h4⟩ := splitB_len h
  have ho : offs (ws ++ [splitB (b.drop (offs ws))]) = offs ws + splitN (b.drop (offs ws)) := by rw [offs_snoc]; omega
  refine ⟨⟨?_, ?_⟩, ho⟩
  · rw [ho, F.all, frs_ok h, List.drop_drop]; simp
  · rw [ho]; rw [List.length_drop] at h2; omega
def frA (b : List UInt8) (i : Nat) (h0 h : H) (args : List Value) : Prop := ∃ w, args = [.int .i64 (offs ((frs b).take i) : Nat), w] ∧ OwB (fun y => h0 y = none) h 5 w ((frs b).getD i [])
theorem Frames_it {pb : Nat} {w : Value} {b : List UInt8} (hl : b.length ≤ 140737488355328) :
    RngA Try.prog 52 #[.pointer (some ⟨pb, 0, none⟩)] (frs b).length (frA b) (fun h => h pb = some (.cells #[w] 30) ∧ By nos h w b) := by
  intro L J Jx h X hJ hE hy h0
  have key : Ok Try.prog 52 #[.func (.yield L) #[] #[], .pointer (some ⟨pb, 0, none⟩)] h fun _ h' => J (frs b).length h' ∨ ∃ i, i < (frs b).length ∧ Jx (i + 1) h' := by
    refine c52_ok (args := [_, _]) (by simp) ?_
    simp (disch := omega) only [dm_t, wS, simprocAttr, IntKind.bits]
    refine vc_loop1 (fun vi h' => ∃ ws, vi = .int .i64 (offs ws : Int) ∧ FI b ws ∧ J ws.length h') (fun vi _ => b.length - m1 vi) ?_ ?_
    · simp (disch := omega) only [dm_t, wS, simprocAttr, IntKind.bits]
      exact ⟨[], rfl, fi0 b, h0⟩
    rintro _ h1 ⟨ws, rfl, F, hj⟩
    obtain ⟨hb1, hs1⟩ := hJ _ _ hj
    have hle := F.le
    obtain ⟨wa, wc, rfl⟩ := hs1.len
    obtain ⟨_, _, hwc⟩ := SlK.cap hs1
    rw [one_len, bvs_len] at hwc
    simp (disch := omega) only [dm_t, wS, simprocAttr, IntKind.bits, cellAt_of hb1]
    refine By.cutK hs1 (offs ws) b.length wc rfl rfl rfl (by omega) (.inr rfl) ?_
    intro w2 s2
    have hdl : (b.drop (offs ws)).take (b.length - offs ws) = b.drop (offs ws) := List.take_of_length_le (by rw [List.length_drop]; omega)
    rw [hdl] at s2
    simp (disch := omega) only [dm_t, wS, simprocAttr, IntKind.bits]
    refine (Split_ok s2 (by rw [List.length_drop]; omega)).k ?_
    rintro _ g2 ⟨hsp, e2⟩
    rcases hsp with ⟨he, bw', rfl, ow⟩ | ⟨he, rfl⟩
    · obtain ⟨F', hoff⟩ := F.step he
      obtain ⟨z1, z2, z3, z4⟩ := splitB_len he
      have hN : ws.length < (frs b).length := by rw [F'.all]; simp
      have ht : (frs b).take ws.length = ws := by rw [F.all]; simp
      have hg : (frs b).getD ws.length [] = splitB (b.drop (offs ws)) := by rw [F'.all]; simp
      have hA : frA b ws.length h1 g2 [.int .i64 (offs ws : Int), bw'] := ⟨_, by rw [ht], by rw [hg]; exact ow⟩
      have hy1 := hy ws.length hN h1 g2 _ hj e2 hA
      rw [List.length_drop] at z2
      generalize splitN (b.drop (offs ws)) = sz at hoff z1 z2 ⊢
      simp (disch := omega) only [dm_t, wS, simprocAttr, IntKind.bits]
      refine hy1.k ?_
      rintro (_ | _) h2 hj3
      · simp (disch := omega) only [dm_t, wS, simprocAttr, IntKind.bits]
        exact .inr ⟨ws.length, hN, by simpa using hj3⟩
      · simp (disch := omega) only [dm_t, wS, simprocAttr, IntKind.bits]
        refine ⟨⟨ws ++ [splitB (b.drop (offs ws))], by rw [hoff, Int.natCast_add], F', by simpa using hj3⟩, ?_⟩
        show b.length - Int.toNat ((offs ws : Int) + (sz : Int)) < b.length - Int.toNat (offs ws : Int)
        rw [← Int.natCast_add, Int.toNat_natCast, Int.toNat_natCast]
        omega
    · have hall : frs b = ws := by rw [F.all, frs_no he, List.append_nil]
      simp (disch := omega) only [dm_t, wS, simprocAttr, IntKind.bits]
      left
      rw [hall]
      exact hE _ _ _ hj e2
  exact key.k fun _ _ h => h
end Go.Proofs.Ytfeaaliocdkonaa.pr
