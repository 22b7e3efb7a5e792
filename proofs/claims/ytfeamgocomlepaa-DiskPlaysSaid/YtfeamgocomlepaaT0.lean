/- The seat's program, functions and what is told of calls, under short names. No statement of the seat is proved here. -/
import Derived.Test.YtfeamgocomlepaaCx1
import Derived.Test.YtfeamgocomlepaaAw5
set_option maxRecDepth 100000
namespace Go.Ax.YtfeamgocomlepaaC
open Go.Proofs
/-- The functions that are given by what they come to: those without a body, and the closed tests. -/
def XT (f : FuncId) : Option (List Value → AHeap → ND (Value × AHeap)) :=
  if f = 14 then some aTrue else X f
noncomputable abbrev P : Program := Try.prog
noncomputable def E : EvT := Ev P F XT
theorem E_of {f : FuncId} {args : List Value} {σ : AHeap} {Q : WK} (hx : (XT f).isNone = true) (h : wfun P E F f args σ Q) : E f args σ Q := Ev.of hx h
@[congr] theorem E_congr {f : FuncId} {a a' : List Value} {σ σ' : AHeap} {Q : WK} (h : a = a') (g : σ = σ') : E f a σ Q = E f a' σ' Q := by rw [h, g]
theorem E_mono {f : FuncId} {args : List Value} {σ : AHeap} {Q Q' : WK} (h : E f args σ Q) (hq : ∀ v σ', Q v σ' → Q' v σ') : E f args σ Q' := Ev.mono h hq
theorem E_true {f : FuncId} (hx : XT f = some aTrue) {σ : AHeap} {Q : WK} (h : Q (.bool true) σ) : E f [] σ Q :=
  Ev.ext (L := [(.bool true, σ)]) hx rfl fun r hr => by simp at hr; subst hr; exact h
theorem E_noZero {σ : AHeap} {n : Int} {Q : WK} (hn : 0 ≤ n ∧ n ≤ 140737488355328) (h : Q (.slice (some ⟨σ.size, 0, none⟩) n.toNat (OPEN * 1 + n.toNat)) (σ.push (.cells (List.replicate n.toNat undef) 5 true))) : E 100 [.int .i64 n] σ Q :=
  Ev.ext (x := aMakeNoZero 5) (L := [(.slice (some ⟨σ.size, 0, none⟩) n.toNat (OPEN * 1 + n.toNat), σ.push (.cells (List.replicate n.toNat undef) 5 true))]) rfl (by simp [aMakeNoZero, hn]) fun r hr => by simp at hr; subst hr; exact h
theorem noZero_ok {l : List Assn} {σ : AHeap} {n : Int} {Q : WK} (h : H l σ) (hn : 0 ≤ n ∧ n ≤ 140737488355328) (hk : ∀ b σ', H (l ++ [pt b (.cells (List.replicate n.toNat undef) 5 true)]) σ' → Q (.slice (some ⟨b, 0, none⟩) n.toNat (OPEN * 1 + n.toNat)) σ') : E 100 [.int .i64 n] σ Q :=
  E_noZero hn (hk _ _ (h.push _))
end Go.Ax.YtfeamgocomlepaaC
