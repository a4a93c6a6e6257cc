/-
  Ranges over functions whose rounds' arguments are made anew.
-/
import Derived.Test.YtooimdgoibdhlaaDoorK18
namespace Go.Proofs.YtooimdgoibdhlaaDoor
set_option linter.unusedVariables false
set_option linter.unusedSimpArgs false
/-- A function that is ranged over, with N rounds; A i h0 h args: what is known of round i's arguments at h, if the round began at h0. -/
def RngA (P : Program) (gf : FuncId) (lb : Array Value) (N : Nat) (A : Nat → H → H → List Value → Prop) (inv : H → Prop) : Prop :=
  ∀ (L : Nat) (J Jx : Nat → H → Prop) (h : H) (X : List PanicEntry → H → Prop), (∀ i h, J i h → inv h) → (∀ i h h', J i h → Ext h h' → J i h') →
    (∀ i, i < N → ∀ h0 h args, J i h0 → Ext h0 h → A i h0 h args → yieldE P L args h fun b h' => if b = true then J (i + 1) h' else Jx (i + 1) h') → J 0 h →
    callK P gf (#[.func (.yield L) #[] #[]] ++ lb) h (fun _ h' => J N h' ∨ ∃ i, i < N ∧ Jx (i + 1) h') X
/-- A range over a function, by its contract. -/
theorem vc_rngA {P : Program} {g : Operand} {ps K Kb : List Nat} {a b : LC} {Q : Post} {e : Env} {h : H} {gf : FuncId} {lb : Array Value} {N : Nat} {A : Nat → H → H → List Value → Prop} {inv : H → Prop}
    (hg : ev e g = some (.func (.func gf) #[] lb)) (hc : callable P gf = true) (it : RngA P gf lb N A inv) (hmono : ∀ h b o, h b = none → inv h → inv (hupd h b o))
    (I : Nat → H → Prop) (Ir : H → Prop) (Ie : Nat → H → Prop) (hI : ∀ i h, I i h → inv h) (hE : ∀ i h h', I i h → Ext h h' → I i h') (h0 : I 0 h) (henc : ∀ i h0 h args, i < N → A i h0 h args → args.length = ps.length)
    (hround : ∀ L i h0 h1 args, i < N → (∃ r, h0 L = some (.loop r)) → I i (hdel h0 L) → Ext h0 h1 → A i h0 h1 args → vc P a (rqA P Kb b L (rY (I (i + 1)) Ir Ie) h1) (ps.zip args ++ e.keep K) h1)
    (hdone : ∀ h', I N h' → Q .normal (e.keep K) h') (hret : ∀ h', Ir h' → Q .ret (e.keep K) h') (hexit : ∀ j h', Ie j h' → Q (.exit j) (e.keep K) h') : vc P (.rf g ps K Kb a b) Q e h := by
  show rfI P g ps K Kb (vc P a) (vc P b) Q e h
  unfold rfI
  rw [hg]
  refine ⟨hc, fun L r hL hr hp hy => ?_⟩
  refine callK_mono ?_ (fun _ _ h => h) (it L (fun i h' => h' L = some (.loop r) ∧ I i (hdel h' L))
    (fun i h' => (h' L = some (.loop (lft r .ret)) ∧ Ir (hdel h' L)) ∨ ∃ j, h' L = some (.loop (lft r (.exit j))) ∧ Ie j (hdel h' L)) _ _ ?_ ?_ ?_ ?_)
  · rintro v h' (⟨h1, h2⟩ | ⟨i, hi, ⟨h1, h2⟩ | ⟨j, h1, h2⟩⟩)
    · exact .inl ⟨h1, hdone _ h2⟩
    · exact .inr (.inl ⟨h1, hret _ h2⟩)
    · exact .inr (.inr ⟨j, h1, hexit _ _ h2⟩)
  · rintro i h' ⟨h1, h2⟩
    have := hmono _ L (.loop r) (hdel_none h' L) (hI _ _ h2)
    rwa [hdel_put h1] at this
  · rintro i h' h'' ⟨h1, h2⟩ e
    exact ⟨e.at h1, hE _ _ _ h2 (hdel_mono L e)⟩
  · rintro i hi h0 h' args ⟨h1, h2⟩ e0 hA
    have h1' := e0.at h1
    refine hy args h' _ (henc i h0 h' args hi hA) h1' ?_
    refine vc_mono ?_ (hround L i h0 h' args hi ⟨_, h1⟩ h2 e0 hA)
    rintro x e1 h3 ⟨rfl, h5, hv⟩
    refine ⟨rfl, h5.trans h1', vc_mono ?_ hv⟩
    intro x e2 h3 hq hn
    have hq := hq hn
    cases x with
    | normal => exact ⟨hupd_same _ _ _, by rw [hdel_hupd hn]; exact hq⟩
    | ret => exact .inl ⟨hupd_same _ _ _, by rw [hdel_hupd hn]; exact hq⟩
    | exit j => exact .inr ⟨j, hupd_same _ _ _, by rw [hdel_hupd hn]; exact hq⟩
    | _ => exact hq.elim
  · exact ⟨hupd_same _ _ _, by rw [hdel_hupd hL]; exact h0⟩
end Go.Proofs.YtooimdgoibdhlaaDoor
