/- The seat's program to the abstract interpreter: the closed facts about it. No statement of the seat is proved here. -/
import Derived.Test.YtfeamgocomlepaaBx1
import Derived.Test.YtfeamgocomlepaaChecked
namespace Go.Ax.Ytfeamgocomlepaa
open Go.Proofs

theorem fok : FOk Try.prog F := FOk.mk (by kernel_rfl) (by kernel_rfl)

theorem mixed : Try.prog.follows .mixedOrders = true := Try.checked.mixed

theorem nobody100 : NoBody Try.prog 100 (Extern.BytealgMakeNoZero.makeNoZero #[3] #[23]) :=
  ⟨Try.f100, by kernel_rfl, by kernel_rfl, by kernel_rfl, by kernel_rfl, by kernel_rfl⟩

theorem xok : CallOk Try.prog fun f args σ => match X f with | some x => x args σ | none => none := by
  intro g args σ R hx B w0 ρ w args' h ha
  simp only [X] at hx
  by_cases hg : g = 100
  · subst hg
    rw [if_pos rfl] at hx
    exact makeNoZero_ok (t := 23) nobody100 rfl (by kernel_rfl) hx h ha
  · rw [if_neg hg] at hx; cases hx

theorem call_ok (n : Nat) : CallOk Try.prog (acall Try.prog F X n) := acall_sound mixed fok xok n
end Go.Ax.Ytfeamgocomlepaa
