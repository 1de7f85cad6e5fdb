/- A digest that is handed in by value. -/
import Derived.Test.YtbjfkliijhnloaaDoorG1
namespace Go.Proofs.YtbjfkliijhnloaaDoor
open Go.ChangeShapes Go.WideShapes Go.ChangeAt Go.RowKit Go.Deep
set_option linter.unusedVariables false

theorem okWide_row {P : Program} {w : World} {r : Reach} {b n : Nat} {t e : TypeId} {v : Value} (ht : P.underlying t = some (.array n e)) (h : Value.okWide P w r b t v) : ∃ cs, v = .agg cs := by
  unfold Value.okWide at h
  rw [ht] at h
  obtain ⟨cs, h1, _⟩ := h
  exact ⟨cs, h1⟩
theorem uDig : Tryd.prog.underlying 28 = some (.array 16 5) := by kernel_rfl
end Go.Proofs.YtbjfkliijhnloaaDoor
