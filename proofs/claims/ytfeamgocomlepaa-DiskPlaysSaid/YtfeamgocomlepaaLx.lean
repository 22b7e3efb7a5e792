/- The closed test that the statements on the disk begin with is run, once, by the kernel. No statement of the seat is proved here. -/
import Derived.Test.YtfeamgocomlepaaT0
import Derived.Test.YtfeamgocomlepaaCx2
set_option maxRecDepth 100000
namespace Go.Ax.YtfeamgocomlepaaC
open Go.Proofs

theorem run14 : allTrue (acall Try.prog F X 40 14 [] ⟨0, .leaf⟩) = true := by kernel_rfl

theorem hX : CallOk Try.prog fun f args σ => match XT f with | some x => x args σ | none => none := by
  intro g args σ R hx
  by_cases hg : g = 14
  · subst hg
    exact sub_ok (call_ok 40) Try.func14 (by kernel_rfl) (by kernel_rfl) run14 args σ R hx
  · have : XT g = X g := by simp [XT, hg]
    simp only [this] at hx
    exact xok g args σ R hx

end Go.Ax.YtfeamgocomlepaaC
