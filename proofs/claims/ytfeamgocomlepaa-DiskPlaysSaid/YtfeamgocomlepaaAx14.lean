/- From the program's own functions, and hints on what is alive where, to the abstract interpreter's functions. No statement of the seat is proved here. -/
import Derived.Test.YtfeamgocomlepaaAx13
namespace Go.Ax
open Go.RowKit

inductive Hint where
  | loop (L Lx : List Nat)
  | loopj (L Lx Lj : List Nat)
  | ord (l : List (Nat × List Nat))
  | join (L : List Nat)

def withJoin (h : Option Hint) (c : AC) : AC :=
  match h with
  | some (.join L) => .join L c
  | _ => c

def toAC (h : Nat → Option Hint) : Code → Nat → AC × Nat
  | .skip, k => (.skip, k)
  | .region id ops false, k => (.region id ops.toList, k)
  | .region id ops true, k => match h k with
    | some (.ord l) => (.dregion id ops.toList l, k + 1)
    | _ => (.dregion id ops.toList [], k + 1)
  | .seq a b, k => (.seq (toAC h a k).1 (toAC h b (toAC h a k).2).1, (toAC h b (toAC h a k).2).2)
  | .cond c a b, k => (withJoin (h k) (.cond c (toAC h a (k + 1)).1 (toAC h b (toAC h a (k + 1)).2).1), (toAC h b (toAC h a (k + 1)).2).2)
  | .block id b, k => (withJoin (h k) (.block id (toAC h b (k + 1)).1), (toAC h b (k + 1)).2)
  | .loop b, k => match h k with
    | some (.loop L Lx) => (.loop L Lx (toAC h b (k + 1)).1, (toAC h b (k + 1)).2)
    | some (.loopj L Lx Lj) => (.loop L Lx (.join Lj (toAC h b (k + 1)).1), (toAC h b (k + 1)).2)
    | _ => (.loop [] [] (toAC h b (k + 1)).1, (toAC h b (k + 1)).2)
  | .exit i, k => (.exit i, k)
  | .ret, k => (.ret, k)
  | c, k => (.other c, k)

theorem erase_withJoin (h : Option Hint) (c : AC) : (withJoin h c).erase = c.erase := by
  unfold withJoin; split <;> rfl

theorem erase_toAC (h : Nat → Option Hint) : ∀ (c : Code) (k : Nat), (toAC h c k).1.erase = c := by
  intro c
  induction c with
  | region id ops d =>
    intro k
    cases d with
    | false => simp [toAC, AC.erase]
    | true =>
      simp only [toAC]
      split <;> simp [AC.erase]
  | seq a b iha ihb => intro k; simp only [toAC, AC.erase, iha, ihb]
  | cond c a b iha ihb => intro k; simp only [toAC, erase_withJoin, AC.erase, iha, ihb]
  | block id b ih => intro k; simp only [toAC, erase_withJoin, AC.erase, ih]
  | loop b ih =>
    intro k
    simp only [toAC]
    split <;> simp [AC.erase, ih]
  | _ => intro k; rfl

def mkF (P : Program) (skip : List FuncId) (H : FuncId → Nat → Option Hint) (f : FuncId) : Option AFun :=
  match cond (skip.contains f) none P.funcs[f]? with
  | some fn => match fn.body with
    | some c => some { n := fn.ntmps, params := fn.params.size + fn.nfree, res := fn.results.toList, body := (toAC (H f) c 0).1 }
    | none => none
  | none => none

def okF (P : Program) (skip : List FuncId) (H : FuncId → Nat → Option Hint) (f : FuncId) : Bool :=
  match mkF P skip H f with
  | some af => af.body.wf af.n && Nat.ble af.params af.n
  | none => true

theorem FOk.mk {P : Program} {skip : List FuncId} {H : FuncId → Nat → Option Hint} (h1 : (List.range P.funcs.size).all (okF P skip H) = true) (h2 : P.funcs.toList.all (fun fn => !(fn.name == "runtime.NumGoroutine")) = true) : FOk P (mkF P skip H) := by
  intro f af hf
  have hf0 := hf
  unfold mkF at hf
  split at hf
  · rename_i fn hfn0
    have hfn : P.funcs[f]? = some fn := by
      cases hs : skip.contains f with
      | true => rw [hs] at hfn0; cases hfn0
      | false => rw [hs] at hfn0; exact hfn0
    split at hf
    · rename_i c hc
      cases hf
      have hlt : f < P.funcs.size := (Array.getElem?_eq_some_iff.1 hfn).1
      have hok := List.all_eq_true.1 h1 f (List.mem_range.2 hlt)
      unfold okF at hok
      rw [hf0] at hok
      simp only [Bool.and_eq_true] at hok
      have hmem : fn ∈ P.funcs.toList := by
        have := Array.mem_of_getElem? hfn
        simpa using this
      have hname := List.all_eq_true.1 h2 fn hmem
      exact ⟨fn, c, hfn, hc, erase_toAC _ _ _, rfl, rfl, hok.1, Nat.le_of_ble_eq_true hok.2, by simpa using hname⟩
    · cases hf
  · cases hf
end Go.Ax
