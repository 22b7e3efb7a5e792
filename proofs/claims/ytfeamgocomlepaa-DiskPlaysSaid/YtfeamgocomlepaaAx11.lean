/- The abstract interpreter of the machine's code, and that what it comes to is what the machine comes to. No statement of the seat is proved here. -/
import Derived.Test.YtfeamgocomlepaaAx10
namespace Go.Ax
open Go.RowKit

/-! ### Outcomes: none: nothing is known; some L: one of L -/
abbrev ND (β : Type) := Option (List β)
def allOf {β : Type} : List (ND β) → ND β
  | [] => some []
  | [x] => x
  | x :: y :: l => match x, allOf (y :: l) with
    | some a, some b => some (a ++ b)
    | _, _ => none
def bindL {α β : Type} (m : ND α) (k : α → ND β) : ND β :=
  match m with
  | none => none
  | some L => allOf (L.map k)

theorem allOf_mem {β : Type} : ∀ {l : List (ND β)} {R : List β}, allOf l = some R → ∀ x ∈ l, ∃ R', x = some R' ∧ ∀ r ∈ R', r ∈ R
  | [], R, h, x, hx => by simp at hx
  | [y], R, h, x, hx => by simp at hx; subst hx; exact ⟨R, h, fun _ hr => hr⟩
  | y :: z :: l, R, h, x, hx => by
    unfold allOf at h
    split at h
    · rename_i a b hb
      cases h
      rcases List.mem_cons.1 hx with rfl | hx
      · exact ⟨_, rfl, fun r hr => List.mem_append_left _ hr⟩
      · obtain ⟨R', h1, h2⟩ := allOf_mem hb x hx
        exact ⟨R', h1, fun r hr => List.mem_append_right _ (h2 r hr)⟩
    · cases h

theorem bindL_some {α β : Type} {m : ND α} {k : α → ND β} {R : List β} (h : bindL m k = some R) : ∃ L, m = some L ∧ ∀ x ∈ L, ∃ R', k x = some R' ∧ ∀ r ∈ R', r ∈ R := by
  unfold bindL at h
  split at h
  · cases h
  · rename_i L
    exact ⟨L, rfl, fun x hx => allOf_mem h _ (List.mem_map_of_mem hx)⟩

@[simp] theorem bindL_one {α β : Type} (x : α) (k : α → ND β) : bindL (some [x]) k = k x := rfl
@[simp] theorem bindL_none {α β : Type} (k : α → ND β) : bindL none k = none := rfl

/-! ### Frames -/
abbrev Fr := Tr Value
def fget (fr : Fr) (t : Nat) : Value :=
  match fr.get t with
  | some v => v
  | none => undef
def fput (fr : Fr) (d : Option Tmp) (v : Value) : Fr :=
  match d with
  | some d => fr.set d v
  | none => fr
def fev (fr : Fr) : Operand → Value
  | .tmp t => fget fr t
  | .const v => cond (v.cells.toList.all flat1) v undef
  | .func f => .func (.func f) #[] #[]
  | .global _ => undef
def fpick (L : List Nat) (fr : Fr) : List Value := L.map (fget fr)
def fmake : List Nat → List Value → Fr
  | t :: L, v :: vs => (fmake L vs).set t v
  | _, _ => .leaf

theorem fget_set (fr : Fr) (t u : Nat) (v : Value) : fget (fr.set t v) u = if u = t then v else fget fr u := by
  unfold fget; rw [Tr.get_set]; by_cases h : u = t <;> simp [h]
theorem fget_leaf (t : Nat) : fget .leaf t = undef := by unfold fget; rw [Tr.get_leaf]

/-! ### Code, with what is alive at a loop's head, at its ends, behind a join -/
inductive AC where
  | skip
  | region (id : Nat) (ops : List Oper)
  | dregion (id : Nat) (ops : List Oper) (ord : List (Nat × List Nat))
  | seq (a b : AC)
  | cond (c : Operand) (thn els : AC)
  | block (id : Nat) (b : AC)
  | loop (L Lx : List Nat) (b : AC)
  | exit (id : Nat)
  | ret
  | join (L : List Nat) (b : AC)
  | other (c : Code)

def AC.erase : AC → Code
  | .skip => .skip
  | .region id ops => .region id ops.toArray false
  | .dregion id ops _ => .region id ops.toArray true
  | .seq a b => .seq a.erase b.erase
  | .cond c a b => .cond c a.erase b.erase
  | .block id b => .block id b.erase
  | .loop _ _ b => .loop b.erase
  | .exit id => .exit id
  | .ret => .ret
  | .join _ b => b.erase
  | .other c => c

inductive Tag where
  | norm
  | exit (i : Nat)
  | ret
abbrev JR := Tag × List Value × AHeap
abbrev K (β : Type) := Fr → AHeap → ND β
abbrev CallF := FuncId → List Value → AHeap → ND (Value × AHeap)

section interp
variable (P : Program) (call : CallF)

/-- What one operation comes to. -/
def aval (ev : Operand → Value) (o : Oper) (σ : AHeap) : ND (Value × AHeap) :=
  match o.op with
  | .call c => match c.callee with
    | .value f => match ev f with
      | .func (.func g) first captured => call g (first.toList ++ c.args.toList.map ev ++ captured.toList) σ
      | _ => none
    | .invoke r name => match aMethod P (ev r) name σ with
      | some (g, v) => call g (v :: c.args.toList.map ev) σ
      | none => none
    | _ => match aop P ev o σ with
      | some r => some [r]
      | none => none
  | .next it false => aNextMap (ev it) σ
  | _ => match aop P ev o σ with
    | some r => some [r]
    | none => none

def aone {β : Type} (o : Oper) (k : K β) (fr : Fr) (σ : AHeap) : ND β :=
  bindL (aval P call (fev fr) o σ) fun r => k (fput fr o.dst r.1) r.2

def aguard {β : Type} (all : List Oper) (o : Oper) (yes no : K β) (fr : Fr) (σ : AHeap) : ND β :=
  match o.guard with
  | none => yes fr σ
  | some (j, want) => match (all[j]?).bind (·.dst) with
    | some t => match asB (fget fr t) with
      | some true => cond want (yes (fr.set t (.bool true)) σ) (no (fr.set t (.bool true)) σ)
      | some false => cond want (no (fr.set t (.bool false)) σ) (yes (fr.set t (.bool false)) σ)
      | none => cond (isSkip (fget fr t)) (no fr σ) none
    | none => none

def aops {β : Type} (all : List Oper) : List Oper → K β → K β
  | [], kn => kn
  | o :: os, kn => aguard all o (aone P call o (aops all os kn)) (fun fr σ => aops all os kn (fput fr o.dst skipV) σ)

def veq0 : Value → Value → Bool
  | .bool a, .bool b => a == b
  | .int j a, .int k b => decide (j = k) && a == b
  | .string a, .string b => decide (a.data.toList = b.data.toList)
  | .pointer a, .pointer b => decide (a = b)
  | .slice a l c, .slice b m d => decide (a = b) && Nat.beq l m && Nat.beq c d
  | .map a, .map b => decide (a = b)
  | .nilFunc, .nilFunc => true
  | .nilIface, .nilIface => true
  | _, _ => false
def veq : Value → Value → Bool
  | .iface t v, .iface u w => Nat.beq t u && veq0 v w
  | a, b => veq0 a b
def veqs : List Value → List Value → Bool
  | [], [] => true
  | a :: l, b :: m => veq a b && veqs l m
  | _, _ => false
def veq1 : Value → Value → Bool
  | .agg a, .agg b => veqs a.toList b.toList
  | .tuple a, .tuple b => veqs a.toList b.toList
  | a, b => veq a b

/-- The reads that stood before and could as well stand here: they read the same here. -/
def arecheck {β : Type} (all : List Oper) : List Nat → K β → K β
  | [], k => k
  | q :: qs, k => fun fr σ => match all[q]? with
    | none => none
    | some o => aguard all o (fun fr σ => match aop P (fev fr) o σ, o.dst with
      | some (v, _), some d => cond (veq1 v (fget fr d)) (arecheck all qs k fr σ) none
      | _, _ => none) (arecheck all qs k) fr σ

def adops {β : Type} (all : List Oper) : List (Nat × List Nat) → K β → K β
  | [], kn => kn
  | (i, chk) :: os, kn => fun fr σ => match all[i]? with
    | none => none
    | some o => aguard all o (aone P call o (arecheck P all chk (adops all os kn))) (fun fr σ => adops all os kn (fput fr o.dst skipV) σ) fr σ

def aloop {β : Type} (L : List Nat) (body : K β → K β) : Nat → List Value → AHeap → ND β
  | 0, _, _ => none
  | n + 1, vs, σ => body (fun fr σ => aloop L body n (fpick L fr) σ) (fmake L vs) σ

def acode (n : Nat) : AC → {β : Type} → K β → (Nat → K β) → K β → K β
  | .skip, _, kn, _, _ => kn
  | .region _ ops, _, kn, _, _ => aops P call ops ops kn
  | .dregion _ ops ord, _, kn, _, _ => adops P call ops ord kn
  | .seq a b, _, kn, ke, kr => acode n a (acode n b kn ke kr) ke kr
  | .cond c a b, _, kn, ke, kr => fun fr σ => match asB (fev fr c) with
    | some true => acode n a kn ke kr fr σ
    | some false => acode n b kn ke kr fr σ
    | none => none
  | .block id b, _, kn, ke, kr => acode n b kn (fun i fr σ => cond (Nat.beq i id) (kn fr σ) (ke i fr σ)) kr
  | .loop L Lx b, _, _, ke, kr => fun fr σ => bindL (aloop (β := JR) L (fun k => acode n b k (fun i fr σ => some [(.exit i, fpick Lx fr, σ)]) (fun fr σ => some [(.ret, fpick Lx fr, σ)])) n (fpick L fr) σ) fun r => match r with
    | (.exit i, vs, σ) => ke i (fmake Lx vs) σ
    | (.ret, vs, σ) => kr (fmake Lx vs) σ
    | (.norm, _, _) => none
  | .exit i, _, _, ke, _ => ke i
  | .ret, _, _, _, kr => kr
  | .other _, _, _, _, _ => fun _ _ => none
  | .join L b, _, kn, ke, kr => fun fr σ => bindL (acode n b (β := JR) (fun fr σ => some [(.norm, fpick L fr, σ)]) (fun i fr σ => some [(.exit i, fpick L fr, σ)]) (fun fr σ => some [(.ret, fpick L fr, σ)]) fr σ) fun r => match r with
    | (.norm, vs, σ) => kn (fmake L vs) σ
    | (.exit i, vs, σ) => ke i (fmake L vs) σ
    | (.ret, vs, σ) => kr (fmake L vs) σ
end interp

structure AFun where
  n : Nat
  params : Nat
  res : List ResultVar
  body : AC

def aresults (P : Program) (fr : Fr) (σ : AHeap) : List ResultVar → Option (List Value)
  | [] => some []
  | .tmp t :: l => (aresults P fr σ l).map (fget fr t :: ·)
  | .cell a t :: l => (shp P t).bind fun g => (aLoad g.1 g.2 (fget fr a) σ).bind fun v => (aresults P fr σ l).map (v :: ·)

def aret (P : Program) (res : List ResultVar) (fr : Fr) (σ : AHeap) : ND (Value × AHeap) :=
  match aresults P fr σ res with
  | some [v] => some [(v, σ)]
  | some l => some [(.tuple l.toArray, σ)]
  | none => none

def acall (P : Program) (F : FuncId → Option AFun) (X : FuncId → Option (List Value → AHeap → ND (Value × AHeap))) : Nat → CallF
  | 0, _, _, _ => none
  | n + 1, f, args, σ => match X f with
    | some x => x args σ
    | none => match F f with
      | some af => amerge σ.size <| cond (Nat.beq args.length af.params) (acode P (acall P F X n) n af.body (aret P af.res) (fun _ _ _ => none) (aret P af.res) (fmake (List.range af.params) args) σ) none
      | none => none

end Go.Ax
