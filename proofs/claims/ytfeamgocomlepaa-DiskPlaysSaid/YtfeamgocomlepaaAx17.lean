/- A closed call within another one: it is run once, by itself. No statement of the seat is proved here. -/
import Derived.Test.YtfeamgocomlepaaAx16
namespace Go.Ax
open Go.RowKit

theorem Rel.after {B : Nat} {w0 : World} {ρ : List RB} {σ : AHeap} {w w' : World} (h : Rel B w0 ρ σ w) (hb : Below w.heap.size w w') : Rel B w0 ρ σ w' := by
  have hkeep : ∀ k, k < w.heap.size → w'.heap[k]? = w.heap[k]? := fun k hk => hb.block k hk
  refine ⟨h.len, fun i q hi => ?_, h.inj, h.below.trans (hb.mono h.hsize), h.base⟩
  obtain ⟨r, a, b, c, d⟩ := h.obj i q hi
  refine ⟨r, a, ?_, c, d⟩
  have hlt : q ≠ .dead → r.b < w.heap.size := by
    intro hd
    have : w.heap[r.b]? ≠ none := by
      cases q with
      | cells c e opn => obtain ⟨c', fz, y, _⟩ := b; rw [y]; simp
      | map es cl => obtain ⟨es', y, _⟩ := b; rw [y]; simp
      | strIter s p => rw [b.2]; simp
      | mapIter m s1 s2 s3 => obtain ⟨m', _, y, _⟩ := b; rw [y]; simp
      | ro c e => obtain ⟨c', fz, y, _⟩ := b; rw [y]; simp
      | dead => exact absurd rfl hd
    rcases Nat.lt_or_ge r.b w.heap.size with k | k
    · exact k
    · exact absurd (Array.getElem?_eq_none k) this
  cases q with
  | dead => trivial
  | _ => exact b.mono (Ext.refl _) (hkeep _ (hlt (by simp)))

def aTrue (args : List Value) (σ : AHeap) : ND (Value × AHeap) :=
  match args with
  | [] => some [(.bool true, σ)]
  | _ => none

theorem sub_ok {P : Program} {call : CallF} (hc : CallOk P call) {f : FuncId} {fn : Func} (hf : P.funcs[f]? = some fn) (hn : (fn.name == "runtime.NumGoroutine") = false) (hb : fn.body.isNone = false) (h : allTrue (call f [] ⟨0, .leaf⟩) = true) : ExtOk P f aTrue := by
  intro args σ R hx B w0 ρ w args' hr ha
  unfold aTrue at hx
  split at hx
  · cases hx
    have hnil : args' = [] := ha.nil_inv
    subst hnil
    refine ⟨fn, hf, hn, .inl ⟨hb, (closed_call hc hf hb h w).mono fun e w' he => ?_⟩⟩
    exact ⟨.bool true, .bool true, ρ, σ, List.mem_singleton_self _, he.1, Ext.refl _, hr.after he.2, .bool _⟩
  · cases hx
end Go.Ax
