/- The seat's program to the abstract interpreter: the closed facts about it. No statement of the seat is proved here. -/
import Derived.Test.YtfeamgocomlepaaCx1
import Derived.Test.YtfeamgocomlepaaAx17
import Derived.Test.YtfeamgocomlepaaChecked
namespace Go.Ax.YtfeamgocomlepaaC
open Go.Proofs

theorem fok : FOk Try.prog F := FOk.mk (by kernel_rfl) (by kernel_rfl)

theorem mixed : Try.prog.follows .mixedOrders = true := Try.checked.mixed

theorem nobody100 : NoBody Try.prog 100 (Extern.BytealgMakeNoZero.makeNoZero #[3] #[23]) :=
  ⟨Try.f100, by kernel_rfl, by kernel_rfl, by kernel_rfl, by kernel_rfl, by kernel_rfl⟩
theorem nobody109 : NoBody Try.prog 109 Extern.MapsClone.clone :=
  ⟨Try.f109, by kernel_rfl, by kernel_rfl, by kernel_rfl, by kernel_rfl, by kernel_rfl⟩
theorem nobody136 : NoBody Try.prog 136 Extern.BytealgCompare.compare :=
  ⟨Try.f136, by kernel_rfl, by kernel_rfl, by kernel_rfl, by kernel_rfl, by kernel_rfl⟩

theorem xok : CallOk Try.prog fun f args σ => match X f with | some x => x args σ | none => none := by
  intro g args σ R hx B w0 ρ w args' h ha
  simp only [X] at hx
  by_cases hg : g = 100
  · subst hg
    rw [if_pos rfl] at hx
    exact makeNoZero_ok (t := 23) nobody100 rfl (by kernel_rfl) hx h ha
  · rw [if_neg hg] at hx
    by_cases hg : g = 109
    · subst hg
      rw [if_pos rfl] at hx
      exact clone_ok nobody109 args σ R hx B w0 ρ w args' h ha
    · rw [if_neg hg] at hx
      by_cases hg : g = 136
      · subst hg
        rw [if_pos rfl] at hx
        exact cmpStr_ok nobody136 args σ R hx B w0 ρ w args' h ha
      · rw [if_neg hg] at hx; cases hx

theorem call_ok (n : Nat) : CallOk Try.prog (acall Try.prog F X n) := acall_sound mixed fok xok n
end Go.Ax.YtfeamgocomlepaaC
