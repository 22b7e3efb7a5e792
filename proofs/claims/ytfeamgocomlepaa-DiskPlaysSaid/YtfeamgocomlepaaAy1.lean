/- The abstract interpreter once more, with each value worked out before it goes on: what the kernel runs. No statement of the seat is proved here. -/
import Derived.Test.YtfeamgocomlepaaAx15
namespace Go.Ax
open Go.RowKit

section
variable {β : Type}

/-! ### Things worked out -/
noncomputable def fzN (n : Nat) (k : Nat → β) : β := @Nat.rec (fun _ => β) (k 0) (fun m _ => k (Nat.succ m)) n
theorem fzN_eq (n : Nat) (k : Nat → β) : fzN n k = k n := by cases n <;> rfl

noncomputable def fzI (n : Int) (k : Int → β) : β := @Int.rec (fun _ => β) (fun n => fzN n fun n => k (.ofNat n)) (fun n => fzN n fun n => k (.negSucc n)) n
theorem fzI_eq (n : Int) (k : Int → β) : fzI n k = k n := by
  cases n with
  | ofNat n => exact fzN_eq n fun n => k (.ofNat n)
  | negSucc n => exact fzN_eq n fun n => k (.negSucc n)

def fzK (d : IntKind) (k : IntKind → β) : β :=
  match d with
  | .i8 => k .i8
  | .i16 => k .i16
  | .i32 => k .i32
  | .i64 => k .i64
  | .u8 => k .u8
  | .u16 => k .u16
  | .u32 => k .u32
  | .u64 => k .u64
theorem fzK_eq (n : IntKind) (k : IntKind → β) : fzK n k = k n := by cases n <;> rfl

noncomputable def fzA (a : Addr) (k : Addr → β) : β :=
  match a with
  | ⟨b, o, none⟩ => fzN b fun b => fzN o fun o => k ⟨b, o, none⟩
  | ⟨b, o, some s⟩ => k ⟨b, o, some s⟩
theorem fzA_eq (a : Addr) (k : Addr → β) : fzA a k = k a := by
  obtain ⟨b, o, s⟩ := a
  cases s <;> simp [fzA, fzN_eq]

def fzL (f : Value → (Value → β) → β) : List Value → (List Value → β) → β
  | [], k => k []
  | v :: l, k => f v fun v => fzL f l fun l => k (v :: l)
theorem fzL_eq {f : Value → (Value → β) → β} (hf : ∀ v k, f v k = k v) : ∀ (l : List Value) (k : List Value → β), fzL f l k = k l
  | [], k => rfl
  | v :: l, k => by simp only [fzL, hf, fzL_eq hf l]

noncomputable def fzV : Nat → Value → (Value → β) → β
  | 0, v, k => k v
  | d + 1, v, k => match v with
    | .bool true => k (.bool true)
    | .bool false => k (.bool false)
    | .int kd n => fzI n fun n => k (.int kd n)
    | .pointer none => k (.pointer none)
    | .pointer (some a) => fzA a fun a => k (.pointer (some a))
    | .slice none l c => fzN l fun l => fzN c fun c => k (.slice none l c)
    | .slice (some a) l c => fzA a fun a => fzN l fun l => fzN c fun c => k (.slice (some a) l c)
    | .map (some r) => fzN r fun r => k (.map (some r))
    | .map none => k (.map none)
    | .iface t v => fzN t fun t => fzV d v fun v => k (.iface t v)
    | .agg c => fzL (fzV d) c.toList fun l => k (.agg ⟨l⟩)
    | .tuple c => fzL (fzV d) c.toList fun l => k (.tuple ⟨l⟩)
    | .func fn f c => fzL (fzV d) f.toList fun l => fzL (fzV d) c.toList fun m => k (.func fn ⟨l⟩ ⟨m⟩)
    | v => k v
theorem fzV_eq : ∀ (d : Nat) (v : Value) (k : Value → β), fzV d v k = k v
  | 0, v, k => rfl
  | d + 1, v, k => by
    have ih := fun v k => fzV_eq d v k
    cases v with
    | bool b => cases b <;> rfl
    | int kd n => simp [fzV, fzI_eq]
    | pointer a => cases a <;> simp [fzV, fzA_eq]
    | slice a l c => cases a <;> simp [fzV, fzA_eq, fzN_eq]
    | map r => cases r <;> simp [fzV, fzN_eq]
    | iface t v => simp [fzV, fzN_eq, ih]
    | agg c => simp [fzV, fzL_eq ih]
    | tuple c => simp [fzV, fzL_eq ih]
    | func fn f c => simp [fzV, fzL_eq ih]
    | _ => rfl

/-! ### Trees -/
def setK {α : Type} (x : α) : Nat → Tr α → Nat → (Tr α → β) → β
  | 0, t, _, k => k t
  | f + 1, t, n, k => match n, t with
    | 0, .leaf => k (.node .leaf (some x) .leaf)
    | 0, .node l _ r => k (.node l (some x) r)
    | m + 1, .leaf => cond (Nat.beq (Nat.mod m 2) 0) (setK x f .leaf (Nat.div m 2) fun l => k (.node l none .leaf)) (setK x f .leaf (Nat.div m 2) fun r => k (.node .leaf none r))
    | m + 1, .node l v r => cond (Nat.beq (Nat.mod m 2) 0) (setK x f l (Nat.div m 2) fun l => k (.node l v r)) (setK x f r (Nat.div m 2) fun r => k (.node l v r))
theorem setK_eq {α : Type} (x : α) : ∀ (f : Nat) (t : Tr α) (n : Nat) (k : Tr α → β), setK x f t n k = k (Tr.setF x f t n)
  | 0, t, n, k => rfl
  | f + 1, t, n, k => by
    cases n with
    | zero => cases t <;> rfl
    | succ m =>
      cases t with
      | leaf =>
        simp only [setK, Tr.setF, Tr.left, Tr.right, Tr.val, setK_eq x f]
        cases Nat.beq (Nat.mod m 2) 0 <;> rfl
      | node l v r =>
        simp only [setK, Tr.setF, Tr.left, Tr.right, Tr.val, setK_eq x f]
        cases Nat.beq (Nat.mod m 2) 0 <;> rfl

/-- Indices below 2^40: so deep a path. -/
def putK (fr : Fr) (d : Option Tmp) (v : Value) (k : Fr → β) : β :=
  match d with
  | some d => setK v (d + 1) fr d k
  | none => k fr
theorem putK_eq (fr : Fr) (d : Option Tmp) (v : Value) (k : Fr → β) : putK fr d v k = k (fput fr d v) := by
  cases d with
  | none => rfl
  | some d => simp only [putK, setK_eq]; rfl

def hsetK (σ : AHeap) (i : Nat) (o : AObj) (k : AHeap → β) : β := setK o (i + 1) σ.objs i fun t => k ⟨σ.size, t⟩
theorem hsetK_eq (σ : AHeap) (i : Nat) (o : AObj) (k : AHeap → β) : hsetK σ i o k = k (σ.set i o) := by
  simp only [hsetK, setK_eq]; rfl

/-! ### Rows -/
noncomputable def overO (c l : List Value) (k : List Value → Option β) : Option β :=
  @List.rec Value (fun _ => List Value → (List Value → Option β) → Option β) (fun c k => k c) (fun x _ ih c k => @List.rec Value (fun _ => Option β) none (fun _ c _ => ih c fun c => k (x :: c)) c) l c k
noncomputable def pokeO (c : List Value) (n : Nat) (l : List Value) (k : List Value → Option β) : Option β :=
  @Nat.rec (fun _ => List Value → (List Value → Option β) → Option β) (fun c k => overO c l k) (fun _ ih c k => @List.rec Value (fun _ => Option β) none (fun v c _ => ih c fun c => k (v :: c)) c) n c k
theorem overO_eq (c l : List Value) (k : List Value → Option β) : overO c l k = cond (Nat.ble l.length c.length) (k (l ++ c.drop l.length)) none := by
  induction l generalizing c k with
  | nil => cases c <;> rfl
  | cons x l ih =>
    cases c with
    | nil => rfl
    | cons y c =>
      have : overO (y :: c) (x :: l) k = overO c l fun c => k (x :: c) := rfl
      rw [this, ih]
      simp [Nat.ble]
theorem pokeO_eq (c : List Value) (n : Nat) (l : List Value) (k : List Value → Option β) : pokeO c n l k = cond (Nat.ble (n + l.length) c.length) (k (splice c n l)) none := by
  induction n generalizing c k with
  | zero =>
    have : pokeO c 0 l k = overO c l k := rfl
    rw [this, overO_eq]
    simp [splice]
  | succ n ih =>
    cases c with
    | nil =>
      have : Nat.ble (n + 1 + l.length) ([] : List Value).length = false := by rw [Bool.eq_false_iff]; simp
      rw [this]; rfl
    | cons v c =>
      have : pokeO (v :: c) (n + 1) l k = pokeO c n l fun c => k (v :: c) := rfl
      rw [this, ih]
      have : Nat.ble (n + 1 + l.length) (v :: c).length = Nat.ble (n + l.length) c.length := by
        rw [Bool.eq_iff_iff]; simp; omega
      rw [this]
      have h2 : splice (v :: c) (n + 1) l = v :: splice c n l := by
        simp [splice, show n + 1 + l.length = (n + l.length) + 1 by omega]
      rw [h2]

noncomputable def pokeK (a : Addr) (l : List Value) (σ : AHeap) : Option AHeap :=
  match l with
  | [] => some σ
  | _ => match σ.get a.block with
    | some (.cells c e opn) => cond (l.all Value.oneCell') (pokeO c a.off l fun c => hsetK σ a.block (.cells c e opn) some) none
    | _ => none
theorem pokeK_eq (a : Addr) (l : List Value) (σ : AHeap) : pokeK a l σ = aPoke a l σ := by
  cases l with
  | nil => rfl
  | cons x l =>
    simp only [pokeK, aPoke]
    generalize σ.get a.block = g
    cases g with
    | none => rfl
    | some o =>
      cases o <;> try rfl
      simp only [pokeO_eq, hsetK_eq]
      cases (x :: l).all Value.oneCell' <;> simp

noncomputable def storeK (n : Nat) (x v : Value) (σ : AHeap) : Option AHeap :=
  match x with
  | .pointer (some a) => cond (live v && Nat.beq v.cells.size n) (pokeK a v.cells.toList σ) none
  | _ => none
theorem storeK_eq (n : Nat) (x v : Value) (σ : AHeap) : storeK n x v σ = aStore n x v σ := by
  unfold storeK aStore
  cases x <;> try rfl
  rename_i a
  cases a <;> try rfl
  simp only [pokeK_eq]

noncomputable def aopK (P : Program) (ev : Operand → Value) (o : Oper) (σ : AHeap) : Option (Value × AHeap) :=
  match o.op with
  | .store t a x => (shp P t).bind fun g => (storeK g.2 (ev a) (ev x) σ).bind fun σ' => some (undef, σ')
  | _ => aop P ev o σ
theorem aopK_eq (P : Program) (ev : Operand → Value) (o : Oper) (σ : AHeap) : aopK P ev o σ = aop P ev o σ := by
  obtain ⟨dst, op, type, pos, after, guard⟩ := o
  cases op <;> try rfl
  simp only [aopK, aop, storeK_eq]
end
end Go.Ax
