/-
  What the row's list gives of the library's variables; the world that holds them.
-/
import Derived.Test.YtooimdgoibdhlaaDoorPg
import Derived.Test.YtooimdgoibdhlaaDoorTie
import Derived.Test.YtooimdgoibdhlaaDoorCards
import Derived.Stop.LaidErr
import Derived.Lay
import Derived.Deep.DeepHandedRow
import Derived.OpenShut
import Derived.MakeChecks
import Derived.Lib.LaidTab
import Derived.Shelf.Vars
namespace Go.Proofs.YtooimdgoibdhlaaDoor.sc
open Go Go.Proofs.YtooimdgoibdhlaaDoor Go.RowKit
set_option linter.unusedVariables false
theorem star : "*" ++ "errors.errorString" = "*errors.errorString" := by decide
theorem row148 (u : TypeId) (h : Tryd.prog.typeName? 3 u = some "*errors.errorString") : u = 148 :=
  typeName_ptr_named (nm := "errors.errorString") (by rw [star]; kernel_rfl) (by kernel_rfl) (by decide) u (by rw [star]; exact h)
theorem gRng : Tryd.prog.globalNamed "strconv.ErrRange" = some 2 := by kernel_rfl
theorem gSyn : Tryd.prog.globalNamed "strconv.ErrSyntax" = some 1 := by kernel_rfl
theorem gl_of {W : World} (hL : laidMetH Tryd.prog Rows.scriptLinesRow.laid W) (hs : W.ShapedOpen Tryd.prog) : GL (hp W) := by
  have h0 : laidMet Tryd.prog Rows.scriptLinesRow.laid W := (MakeChecks.laidMetH_plain _ _ _ (by kernel_rfl)) ▸ hL
  have h1 := h0.tail.tail
  have t : Lib.TabIs Tryd.prog W "internal/strconv.uint64pow10" .u64 Lib.pow10Tab :=
    Lib.tabIs_of_head (t := 142) (e := 126) (n := 20) gtab (by kernel_rfl) Tryd.underlying142 Tryd.underlying126 (by kernel_rfl) (by kernel_rfl) (show laidMet Tryd.prog ((_, Lib.tabData .u64 Lib.pow10Tab) :: _) W from h1)
  have h2 := h1.tail.tail
  obtain ⟨a, s, hv, -, -, -⟩ := laid_sentinel (ti := 82) (tp := 148) (te := 150) (ts := 9) h2 gRng (by kernel_rfl) Tryd.underlying82 row148 Tryd.underlying148 Tryd.underlying150 rfl rfl Tryd.underlying9 (by kernel_rfl) (by kernel_rfl)
  obtain ⟨a', s', hv', -, -, -⟩ := laid_sentinel (ti := 82) (tp := 148) (te := 150) (ts := 9) h2.tail gSyn (by kernel_rfl) Tryd.underlying82 row148 Tryd.underlying148 Tryd.underlying150 rfl rfl Tryd.underlying9 (by kernel_rfl) (by kernel_rfl)
  obtain ⟨m, hm⟩ := cell_of_shapedOpen_int (P := Tryd.prog) (g := 0) (t := 3) (zero := #[.int .i64 0]) hs (of_decide_eq_true (by kernel_rfl)) (by kernel_rfl) rfl (by kernel_rfl) (by kernel_rfl) Tryd.underlying3
  refine ⟨?_, ⟨_, _, (cellAt_hp _ _).trans ((World.var?_cell gSyn hv' 0).trans rfl)⟩, ⟨_, _, (cellAt_hp _ _).trans ((World.var?_cell gRng hv 0).trans rfl)⟩, m, (cellAt_hp _ _).trans hm⟩
  unfold Lib.TabIs World.var? at t
  rw [gtab] at t
  simp only [Option.bind_some] at t
  split at t
  · rename_i cs ty fr e
    simp only [Option.some.injEq] at t
    subst t
    exact ⟨ty, fr, hid_cells.2 e⟩
  · cases t

/-! ### The world for the witness -/
noncomputable def lw (os : Os) : World := World.laidAll Tryd.prog os Rows.scriptLinesRow.laid
set_option maxRecDepth 100000 in
theorem lw_met (os : Os) (args : Array Value) : laidMet Tryd.prog Rows.scriptLinesRow.laid (((lw os).forCall (fun _ _ => 0) ⟨#[], args, []⟩).memory) := laidMet_laidAll _ (by kernel_rfl) (by kernel_rfl)
set_option maxRecDepth 100000 in
theorem lw_shaped (os : Os) (args : Array Value) : ((lw os).forCall (fun _ _ => 0) ⟨#[], args, []⟩).Shaped Tryd.prog := World.shaped_of_ZipB (by kernel_rfl) (by kernel_rfl)
theorem lw_wit {H : Type} {enc : TypeId × Value → H} (os : Os) {f : FuncId} {fn : Func} {s : OpenSpec} {laid : List (String × DataW Unit)} (args : Array Value)
    (hok : Input.okWideB Tryd.prog ((lw os).forCall (fun _ _ => 0) ⟨#[], args, []⟩) f ⟨#[], args, []⟩ = true)
    (hrow : s.preRow enc Tryd.prog fn [] false laid ((lw os).forCall (fun _ _ => 0) ⟨#[], args, []⟩).memory args) :
    ∃ (w : World) (tape : Tape) (i : Input), w.os = os ∧ (w.forCall tape i).Shaped Tryd.prog ∧ i.vars = [] ∧ Input.okWide Tryd.prog (w.forCall tape i) .any w.heap.size f i ∧
      s.preRow enc Tryd.prog fn [] false laid (w.forCall tape i).memory i.args ∧ ({} : Assume).holds Tryd.prog (lone (Frame.enter Tryd.prog f i.args .normal) [] (w.forCall tape i)) :=
  ⟨lw os, fun _ _ => 0, ⟨#[], args, []⟩, World.laidAll_os _ _ _, lw_shaped os args, (Input.okWide_of_okWideB (base := 0) hok).1, (Input.okWide_of_okWideB hok).2, hrow, by
    simp only [Assume.holds]
    exact ⟨by simp, by simp, by simp, by simp, by simp⟩⟩
end Go.Proofs.YtooimdgoibdhlaaDoor.sc
