/- More functions without a body: the clone of a map, the order of two strings. No statement of the seat is proved here. -/
import Derived.Test.YtfeamgocomlepaaAx15
namespace Go.Ax
open Go.RowKit

/-- What a function without a body must meet. -/
def ExtOk (P : Program) (g : FuncId) (x : List Value → AHeap → ND (Value × AHeap)) : Prop :=
  ∀ (args : List Value) (σ : AHeap) (R : List (Value × AHeap)), x args σ = some R → ∀ B w0 ρ w args', Rel B w0 ρ σ w → LR ρ args args' →
    ∃ fn, P.funcs[g]? = some fn ∧ (fn.name == "runtime.NumGoroutine") = false ∧
      ((fn.body.isNone = false ∧ Calls P g args'.toArray w fun e w' => ∃ v v' ρ' σ', (v, σ') ∈ R ∧ e = .returned v' ∧ Ext ρ ρ' ∧ Rel B w0 ρ' σ' w' ∧ VR ρ' v v') ∨
       (∃ v v' ρ' σ' w', (v, σ') ∈ R ∧ (callFunc g args'.toArray).run P w = .ok (.value v') w' ∧ Ext ρ ρ' ∧ Rel B w0 ρ' σ' w' ∧ VR ρ' v v'))

theorem ExtOk.mk {P : Program} {g : FuncId} {e : Array Value → Sem Value} {x : List Value → AHeap → ND (Value × AHeap)} (hb : NoBody P g e)
    (h : ∀ (args : List Value) (σ : AHeap) (R : List (Value × AHeap)), x args σ = some R → ∀ B w0 ρ w args', Rel B w0 ρ σ w → LR ρ args args' →
      ∃ v v' ρ' σ' w', (v, σ') ∈ R ∧ (e args'.toArray).run P w = .ok v' w' ∧ Ext ρ ρ' ∧ Rel B w0 ρ' σ' w' ∧ VR ρ' v v') : ExtOk P g x := by
  intro args σ R hx B w0 ρ w args' hr ha
  obtain ⟨fn, hfn, hname, hbody, hnext, hfind⟩ := hb.fn
  obtain ⟨v, v', ρ', σ', w', hm, e1, e2, e3, e4⟩ := h args σ R hx B w0 ρ w args' hr ha
  refine ⟨fn, hfn, hname, .inr ⟨v, v', ρ', σ', w', hm, ?_, e2, e3, e4⟩⟩
  rw [run_callFunc_extern hfn hname hbody hnext hfind, e1]
  rfl

def aClone (args : List Value) (σ : AHeap) : ND (Value × AHeap) :=
  match args with
  | [.iface t (.map (some r))] => match σ.get r with
    | some (.map es clock) => some [(.iface t (.map (some σ.size)), σ.push (.map es clock))]
    | _ => none
  | _ => none

theorem clone_ok {P : Program} {g : FuncId} (hb : NoBody P g Extern.MapsClone.clone) : ExtOk P g aClone := by
  refine .mk hb fun args σ R hx B w0 ρ w args' h ha => ?_
  unfold aClone at hx
  split at hx
  · rename_i t r
    obtain ⟨v', l2, rfl, hv, hnil⟩ := ha.cons_inv
    rw [hnil.nil_inv]
    obtain ⟨u, rfl, _, hu⟩ := hv.iface_inv
    obtain ⟨x, rfl, hxr⟩ := hu.map_inv
    split at hx
    · rename_i es clock hg
      cases hx
      obtain ⟨es', h1, h2⟩ := h.mapAt hg hxr
      have hgo := run_getObj (P := P) h1 (fun c e fz => by simp)
      obtain ⟨ρ', e1, e2, e3, e4⟩ := newO_sound (P := P) h (o := .map es clock) (x := .map es' clock) rfl (fun ρ' r hp hext _ hh => ⟨es', hh, h2.mono hext⟩)
      refine ⟨_, .iface t (.map (some w.heap.size)), ρ', _, _, List.mem_singleton_self _, ?_, e2, e3, .iface _ _ _ (by simp [undef]) (.map _ _ e4)⟩
      have hdef : Extern.MapsClone.clone #[.iface t (.map (some x.b))] = (getObj x.b >>= fun o => match o with
          | .map entries clock => newObj (.map entries clock) >>= fun r => pure (.iface t (.map (some r)))
          | _ => stuck "maps.clone: a map expected") := rfl
      show (Extern.MapsClone.clone #[.iface t (.map (some x.b))]).run P w = _
      rw [hdef]
      simp [hgo, e1]
    · cases hx
  · cases hx

def aCmpStr (args : List Value) (σ : AHeap) : ND (Value × AHeap) :=
  match args with
  | [.string a, .string b] => some [(.int .i64 (Extern.BytealgCompare.cmp a b), σ)]
  | _ => none

theorem cmpStr_ok {P : Program} {g : FuncId} (hb : NoBody P g Extern.BytealgCompare.compare) : ExtOk P g aCmpStr := by
  refine .mk hb fun args σ R hx B w0 ρ w args' h ha => ?_
  unfold aCmpStr at hx
  split at hx
  · rename_i a b
    cases hx
    obtain ⟨v', l2, rfl, hv, ha⟩ := ha.cons_inv
    obtain ⟨v2, l3, rfl, hv2, hnil⟩ := ha.cons_inv
    rw [hnil.nil_inv, hv.string_inv, hv2.string_inv]
    exact ⟨_, .int .i64 (Extern.BytealgCompare.cmp a b), ρ, _, w, List.mem_singleton_self _, rfl, Ext.refl _, h, .int _ _⟩
  · cases hx
end Go.Ax
