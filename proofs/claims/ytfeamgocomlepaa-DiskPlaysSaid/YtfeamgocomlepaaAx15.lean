/- Functions without a body that the abstract interpreter takes: room whose bytes nobody knows; and how a closed call is told. No statement of the seat is proved here. -/
import Derived.Test.YtfeamgocomlepaaAx14
import Derived.Laws.Externs
namespace Go.Ax
open Go.RowKit

/-- 'internal/bytealg.MakeNoZero': room whose bytes nobody knows; e: the type of a byte. -/
def aMakeNoZero (e : TypeId) (args : List Value) (σ : AHeap) : ND (Value × AHeap) :=
  match args with
  | [.int .i64 n] => if 0 ≤ n ∧ n ≤ 140737488355328 then some [(.slice (some ⟨σ.size, 0, none⟩) n.toNat (OPEN * 1 + n.toNat), σ.push (.cells (List.replicate n.toNat undef) e true))] else none
  | _ => none

theorem digits_size : ∀ (n t : Nat) (acc : Array Value), (Extern.BytealgMakeNoZero.digits n t acc).size = acc.size + n
  | 0, _, _ => rfl
  | n + 1, t, acc => by
    rw [Extern.BytealgMakeNoZero.digits, digits_size n]
    simp; omega

theorem LR.undefs (ρ : List RB) (n : Nat) {l' : List Value} (h : l'.length = n) : LR ρ (List.replicate n undef) l' := by
  refine ⟨by simp [h], fun i v v' a b => ?_⟩
  simp [List.getElem?_replicate] at a
  obtain ⟨_, rfl⟩ := a
  exact .dead _

/-- What is asked of a function without a body. -/
structure NoBody (P : Program) (g : FuncId) (e : Array Value → Sem Value) : Prop where
  fn : ∃ fn, P.funcs[g]? = some fn ∧ (fn.name == "runtime.NumGoroutine") = false ∧ fn.body.isNone = true ∧ Extern.findNext fn = none ∧ Extern.find fn = some e

theorem makeNoZero_ok {P : Program} {g : FuncId} {params results : Array TypeId} {t e : TypeId} (hb : NoBody P g (Extern.BytealgMakeNoZero.makeNoZero params results)) (ht : results[0]? = some t) (hu : P.underlying t = some (.slice e))
    {args : List Value} {σ : AHeap} {R : List (Value × AHeap)} (hx : aMakeNoZero e args σ = some R) {B : Nat} {w0 : World} {ρ : List RB} {w : World} {args' : List Value} (h : Rel B w0 ρ σ w) (ha : LR ρ args args') :
    ∃ fn, P.funcs[g]? = some fn ∧ (fn.name == "runtime.NumGoroutine") = false ∧
      ((fn.body.isNone = false ∧ Calls P g args'.toArray w fun e w' => ∃ v v' ρ' σ', (v, σ') ∈ R ∧ e = .returned v' ∧ Ext ρ ρ' ∧ Rel B w0 ρ' σ' w' ∧ VR ρ' v v') ∨
       (∃ v v' ρ' σ' w', (v, σ') ∈ R ∧ (callFunc g args'.toArray).run P w = .ok (.value v') w' ∧ Ext ρ ρ' ∧ Rel B w0 ρ' σ' w' ∧ VR ρ' v v')) := by
  obtain ⟨fn, hfn, hname, hbody, hnext, hfind⟩ := hb.fn
  refine ⟨fn, hfn, hname, .inr ?_⟩
  unfold aMakeNoZero at hx
  split at hx
  · rename_i n
    obtain ⟨v', l2, rfl, hv, hnil⟩ := ha.cons_inv
    rw [hnil.nil_inv, hv.int_inv]
    split at hx
    · rename_i hn
      cases hx
      obtain ⟨h0, h1⟩ := hn
      have n1 : ¬ (n < 0) := by omega
      have n2 : ¬ (281474976710656 < n) := by omega
      have hcap : n.toNat ≤ grownCap w n.toNat 0 e := by simp only [grownCap, Question.cut]; omega
      have hrun : ∃ bytes w2, w2 = w.drew.drew ∧ (Extern.BytealgMakeNoZero.makeNoZero params results #[.int .i64 n]).run P w =
          .ok (.slice (some ⟨w.heap.size, 0, none⟩) n.toNat (grownCap w n.toNat 0 e)) (w2.alloc (.cells (Extern.BytealgMakeNoZero.digits (grownCap w n.toNat 0 e) bytes #[]) e)) := by
        refine ⟨(Question.extern "internal/bytealg.MakeNoZero.bytes" 0).cut (w.drew.tape w.drew.drawn (.extern "internal/bytealg.MakeNoZero.bytes" 0)), w.drew.drew, rfl, ?_⟩
        conv => lhs; arg 2; whnf
        simp [ht, run_underlying hu, n1, n2, Question.forced, grownCap, run_askRoom, newRow]
      obtain ⟨bytes, w2, hw2, hrun⟩ := hrun
      have hr2 : Rel B w0 ρ σ w2 := by rw [hw2]; exact h.drew.drew
      have hsz : w2.heap.size = w.heap.size := by rw [hw2]; rfl
      have hds := digits_size (grownCap w n.toNat 0 e) bytes #[]
      generalize hD : Extern.BytealgMakeNoZero.digits (grownCap w n.toNat 0 e) bytes #[] = D at hrun hds
      have hds : D.size = grownCap w n.toNat 0 e := by simpa using hds
      obtain ⟨ρ', e1, e2, e3⟩ := newOpen_sound hr2 e (D.toList.drop n.toNat) (LR.undefs ρ n.toNat (l' := D.toList.take n.toNat) (by simp; omega))
      rw [List.take_append_drop, Array.toArray_toList] at e2
      refine ⟨_, .slice (some ⟨w.heap.size, 0, none⟩) n.toNat (grownCap w n.toNat 0 e), ρ', _, _, List.mem_singleton_self _, ?_, e1, e2, ?_⟩
      · rw [run_callFunc_extern hfn hname hbody hnext hfind, hrun]
        rfl
      · have hres := VR.slice (ρ := ρ') σ.size 0 n.toNat (OPEN * 1 + n.toNat) (grownCap w n.toNat 0 e) _ e3 (by
          have hdm : (OPEN * 1 + n.toNat) % OPEN = n.toNat ∧ (OPEN * 1 + n.toNat) / OPEN = 1 := by
            have : n.toNat < OPEN := by unfold OPEN; omega
            constructor
            · rw [Nat.mul_add_mod, Nat.mod_eq_of_lt this]
            · rw [Nat.mul_add_div (by unfold OPEN; omega), Nat.div_eq_of_lt this, Nat.add_zero]
          unfold CapR
          rw [if_neg (by omega), hdm.1, hdm.2]
          refine ⟨hcap, ?_⟩
          simp; omega)
        rw [hsz] at hres
        simpa using hres
    · cases hx
  · cases hx

/-- All outcomes are 'true'. -/
def allTrue (r : ND (Value × AHeap)) : Bool :=
  match r with
  | some L => L.all fun x => match x.1 with
    | .bool true => true
    | _ => false
  | none => false

theorem Rel.empty (w : World) : Rel w.heap.size w [] ⟨0, .leaf⟩ w :=
  ⟨rfl, fun i o h => by simp [AHeap.get, Tr.get_leaf] at h, fun i j oi oj ri rj h => by simp [AHeap.get, Tr.get_leaf] at h, Below.refl _ _, Nat.le_refl _⟩

theorem closed_call {P : Program} {call : CallF} (hc : CallOk P call) {f : FuncId} {fn : Func} (hf : P.funcs[f]? = some fn) (hb : fn.body.isNone = false) (h : allTrue (call f [] ⟨0, .leaf⟩) = true) (w : World) :
    Calls P f #[] w fun e w' => e = .returned (.bool true) ∧ Below w.heap.size w w' := by
  unfold allTrue at h
  split at h
  · rename_i L hL
    obtain ⟨fn', hfn', _, hor⟩ := hc f [] _ L hL _ _ _ w [] (Rel.empty w) (LR.nil _)
    rw [hf] at hfn'; cases hfn'
    rcases hor with ⟨_, hcalls⟩ | ⟨v, v', ρ', σ', w', hm, hrun, _⟩
    · refine hcalls.mono fun e w' he => ?_
      obtain ⟨v, v', ρ', σ', hm, rfl, _, hr, hv⟩ := he
      have := List.all_eq_true.1 h _ hm
      have hvt : v = .bool true := by
        revert this
        cases v with
        | bool b => cases b <;> simp
        | _ => simp
      rw [hvt] at hv
      rw [hv.bool_inv]
      exact ⟨rfl, hr.below⟩
    · simp only [callFunc] at hrun
      have hb2 : fn.body ≠ none := by intro e; rw [e] at hb; simp at hb
      simp [program, Sem.run, hf, hb2] at hrun
      split at hrun <;> simp at hrun
  · cases h
end Go.Ax
