/- Definitions of an abstract heap, of the relation between abstract and machine values, and their first laws. No condition; no statement of the seat is proved here. -/
import Derived.Orders
import Derived.LoopN
import Derived.Below
import Derived.Laws.CopyRow
import Derived.Laws.AppendOwn
import Derived.KernelRfl
namespace Go.Ax

/-! ### A tree from numbers to things -/
inductive Tr (α : Type) where
  | leaf
  | node (l : Tr α) (v : Option α) (r : Tr α)

namespace Tr
variable {α : Type}
def left : Tr α → Tr α
  | .leaf => .leaf
  | .node l _ _ => l
def right : Tr α → Tr α
  | .leaf => .leaf
  | .node _ _ r => r
def val : Tr α → Option α
  | .leaf => none
  | .node _ v _ => v
def get : Tr α → Nat → Option α
  | .leaf, _ => none
  | .node l v r, n => match n with
    | 0 => v
    | m + 1 => cond (Nat.beq (Nat.mod m 2) 0) (l.get (Nat.div m 2)) (r.get (Nat.div m 2))
def setF (x : α) : Nat → Tr α → Nat → Tr α
  | 0, t, _ => t
  | f + 1, t, n => match n with
    | 0 => .node t.left (some x) t.right
    | m + 1 => cond (Nat.beq (Nat.mod m 2) 0) (.node (setF x f t.left (Nat.div m 2)) t.val t.right) (.node t.left t.val (setF x f t.right (Nat.div m 2)))
def set (t : Tr α) (n : Nat) (x : α) : Tr α := setF x (n + 1) t n

theorem get_leaf (n : Nat) : (Tr.leaf : Tr α).get n = none := by cases n <;> rfl
theorem get_succ (t : Tr α) (m : Nat) : t.get (m + 1) = cond (Nat.beq (Nat.mod m 2) 0) (t.left.get (Nat.div m 2)) (t.right.get (Nat.div m 2)) := by
  cases t with
  | leaf => simp only [left, right, get_leaf]; cases Nat.beq (Nat.mod m 2) 0 <;> rfl
  | node l v r => rfl
theorem left_node (a : Tr α) (v : Option α) (b : Tr α) : (Tr.node a v b).left = a := rfl
theorem right_node (a : Tr α) (v : Option α) (b : Tr α) : (Tr.node a v b).right = b := rfl
theorem get_zero (t : Tr α) : t.get 0 = t.val := by cases t <;> rfl

theorem get_setF (x : α) : ∀ (f : Nat) (t : Tr α) (n m : Nat), n < f → (setF x f t n).get m = if m = n then some x else t.get m := by
  intro f
  induction f with
  | zero => intro t n m h; omega
  | succ f ih =>
    intro t n m h
    cases n with
    | zero =>
      cases m with
      | zero => rfl
      | succ m => simp only [setF, get_succ, left, right]; simp
    | succ n =>
      have hd : Nat.div n 2 < f := by show n / 2 < f; omega
      have hb : ∀ k, Nat.beq (Nat.mod k 2) 0 = decide (k % 2 = 0) := fun k => by
        show Nat.beq (k % 2) 0 = _
        rw [Bool.eq_iff_iff]; simp
      cases m with
      | zero =>
        simp only [setF, hb]
        cases hn : decide (n % 2 = 0) <;> simp [get_zero, val]
      | succ m =>
        simp only [setF, hb]
        by_cases hn : n % 2 = 0
        · simp only [hn, decide_true, cond_true]
          rw [get_succ, get_succ t]
          simp only [hb, left_node, right_node]
          by_cases hm : m % 2 = 0
          · simp only [hm, decide_true, cond_true]
            rw [ih _ _ _ hd]
            by_cases he : m = n
            · subst he; simp
            · rw [if_neg (show ¬ Nat.div m 2 = Nat.div n 2 from fun e => he (by have : m / 2 = n / 2 := e; omega)), if_neg (by omega)]
          · simp only [hm, decide_false, cond_false]
            rw [if_neg (by omega)]
        · simp only [hn, decide_false, cond_false]
          rw [get_succ, get_succ t]
          simp only [hb, left_node, right_node]
          by_cases hm : m % 2 = 0
          · simp only [hm, decide_true, cond_true]
            rw [if_neg (by omega)]
          · simp only [hm, decide_false, cond_false]
            rw [ih _ _ _ hd]
            by_cases he : m = n
            · subst he; simp
            · rw [if_neg (show ¬ Nat.div m 2 = Nat.div n 2 from fun e => he (by have : m / 2 = n / 2 := e; omega)), if_neg (by omega)]

theorem get_set (t : Tr α) (n m : Nat) (x : α) : (t.set n x).get m = if m = n then some x else t.get m := get_setF x _ t n m (Nat.lt_succ_self n)
end Tr

/-! ### The abstract heap -/
inductive AObj where
  | cells (c : List Value) (elem : TypeId) (opn : Bool)
  | ro (c : List Value) (elem : TypeId)
  | map (es : List MapEntry) (clock : Nat)
  | strIter (s : ByteArray) (pos : Nat)
  | mapIter (m : Option Nat) (since : Nat) (seen : List Nat) (stepped : Nat)
  | dead

def AObj.writable : AObj → Bool
  | .ro _ _ | .dead => false
  | _ => true

structure AHeap where
  size : Nat
  objs : Tr AObj

namespace AHeap
def get (σ : AHeap) (i : Nat) : Option AObj := σ.objs.get i
def set (σ : AHeap) (i : Nat) (o : AObj) : AHeap := { size := σ.size, objs := σ.objs.set i o }
def push (σ : AHeap) (o : AObj) : AHeap := { size := σ.size + 1, objs := σ.objs.set σ.size o }
theorem get_set (σ : AHeap) (i j : Nat) (o : AObj) : (σ.set i o).get j = if j = i then some o else σ.get j := Tr.get_set _ _ _ _
theorem get_push (σ : AHeap) (j : Nat) (o : AObj) : (σ.push o).get j = if j = σ.size then some o else σ.get j := Tr.get_set _ _ _ _
@[simp] theorem size_set (σ : AHeap) (i : Nat) (o : AObj) : (σ.set i o).size = σ.size := rfl
@[simp] theorem size_push (σ : AHeap) (o : AObj) : (σ.push o).size = σ.size + 1 := rfl
end AHeap

/-! ### Where an abstract block lies: the machine's block, the shift, the machine block's number of cells -/
structure RB where
  b : Nat
  s : Nat
  n : Nat

/-- From here on a capacity is only known from below: 'OPEN * z + k': at least k, of elements of z cells. -/
def OPEN : Nat := 18446744073709551616

/-- The block of a slice that has no room. -/
def ZB : Nat := 1180591620717411303424

def CapR (r : RB) (o c c' : Nat) : Prop := if c < OPEN then c' = c else (c % OPEN ≤ c' ∧ r.s + o + c' * (c / OPEN) ≤ r.n)

inductive VR (ρ : List RB) : Value → Value → Prop where
  | dead (v : Value) : VR ρ undef v
  | skp : VR ρ (.tuple #[.chan none]) undef
  | bool (b : Bool) : VR ρ (.bool b) (.bool b)
  | int (k : IntKind) (n : Int) : VR ρ (.int k n) (.int k n)
  | string (s : ByteArray) : VR ρ (.string s) (.string s)
  | nilptr : VR ρ (.pointer none) (.pointer none)
  | ptr (b o : Nat) (r : RB) : ρ[b]? = some r → VR ρ (.pointer (some ⟨b, o, none⟩)) (.pointer (some ⟨r.b, r.s + o, none⟩))
  | nilslice (l c : Nat) : c < OPEN → VR ρ (.slice none l c) (.slice none l c)
  | slice (b o l c c' : Nat) (r : RB) : ρ[b]? = some r → CapR r o c c' → VR ρ (.slice (some ⟨b, o, none⟩) l c) (.slice (some ⟨r.b, r.s + o, none⟩) l c')
  | zany (a : Addr) (c' : Nat) : a.spot = none → VR ρ (.slice (some ⟨ZB, 1, some 0⟩) 0 OPEN) (.slice (some a) 0 c')
  | zslice (o : Nat) (a : Addr) : VR ρ (.slice (some ⟨ZB, o, some 0⟩) 0 0) (.slice (some a) 0 0)
  | nilmap : VR ρ (.map none) (.map none)
  | map (b : Nat) (r : RB) : ρ[b]? = some r → VR ρ (.map (some b)) (.map (some r.b))
  | func (fn : Fn) (f f' c c' : Array Value) : f.size = f'.size → c.size = c'.size →
      (∀ (i : Nat) (v v' : Value), f[i]? = some v → f'[i]? = some v' → VR ρ v v') → (∀ (i : Nat) (v v' : Value), c[i]? = some v → c'[i]? = some v' → VR ρ v v') →
      VR ρ (.func fn f c) (.func fn f' c')
  | nilFunc : VR ρ .nilFunc .nilFunc
  | nilIface : VR ρ .nilIface .nilIface
  | iface (t : TypeId) (v v' : Value) : v ≠ undef → VR ρ v v' → VR ρ (.iface t v) (.iface t v')
  | agg (c c' : Array Value) : c.size = c'.size → (∀ (i : Nat) (v v' : Value), c[i]? = some v → c'[i]? = some v' → VR ρ v v') → VR ρ (.agg c) (.agg c')
  | tuple (c c' : Array Value) : c.size = c'.size → (∀ (i : Nat) (v v' : Value), c[i]? = some v → c'[i]? = some v' → VR ρ v v') → VR ρ (.tuple c) (.tuple c')

def Ext (ρ ρ' : List RB) : Prop := ∀ (i : Nat) (r : RB), ρ[i]? = some r → ρ'[i]? = some r
theorem Ext.refl (ρ : List RB) : Ext ρ ρ := fun _ _ h => h
theorem Ext.trans {a b c : List RB} (h : Ext a b) (k : Ext b c) : Ext a c := fun i r x => k i r (h i r x)
theorem Ext.append (ρ : List RB) (l : List RB) : Ext ρ (ρ ++ l) := fun i r h => by
  rw [List.getElem?_append_left (List.getElem?_eq_some_iff.1 h).1]; exact h

theorem VR.mono {ρ ρ' : List RB} (e : Ext ρ ρ') {v v' : Value} (h : VR ρ v v') : VR ρ' v v' := by
  induction h with
  | dead v => exact .dead v
  | skp => exact .skp
  | bool b => exact .bool b
  | int k n => exact .int k n
  | string s => exact .string s
  | nilptr => exact .nilptr
  | ptr b o r h => exact .ptr b o r (e _ _ h)
  | nilslice l c h => exact .nilslice l c h
  | slice b o l c c' r h k => exact .slice b o l c c' r (e _ _ h) k
  | zany a c' h => exact .zany a c' h
  | zslice o a => exact .zslice o a
  | nilmap => exact .nilmap
  | map b r h => exact .map b r (e _ _ h)
  | func fn f f' c c' h1 h2 _ _ i1 i2 => exact .func fn f f' c c' h1 h2 i1 i2
  | nilFunc => exact .nilFunc
  | nilIface => exact .nilIface
  | iface t v v' hd _ ih => exact .iface t v v' hd ih
  | agg c c' h _ ih => exact .agg c c' h ih
  | tuple c c' h _ ih => exact .tuple c c' h ih

/-- Lists of values, one by one. -/
def LR (ρ : List RB) (l l' : List Value) : Prop := l.length = l'.length ∧ ∀ (i : Nat) (v v' : Value), l[i]? = some v → l'[i]? = some v' → VR ρ v v'
theorem LR.mono {ρ ρ' : List RB} (e : Ext ρ ρ') {l l' : List Value} (h : LR ρ l l') : LR ρ' l l' := ⟨h.1, fun i v v' a b => (h.2 i v v' a b).mono e⟩
theorem LR.nil (ρ : List RB) : LR ρ [] [] := ⟨rfl, fun i v v' h => by simp at h⟩
theorem LR.cons {ρ : List RB} {v v' : Value} {l l' : List Value} (h : VR ρ v v') (t : LR ρ l l') : LR ρ (v :: l) (v' :: l') := by
  refine ⟨by simp [t.1], fun i a b ha hb => ?_⟩
  cases i with
  | zero => simp at ha hb; subst ha; subst hb; exact h
  | succ i => simp at ha hb; exact t.2 i a b ha hb
theorem LR.tail {ρ : List RB} {v v' : Value} {l l' : List Value} (h : LR ρ (v :: l) (v' :: l')) : VR ρ v v' ∧ LR ρ l l' := by
  refine ⟨h.2 0 v v' rfl rfl, by have := h.1; simpa using this, fun i a b ha hb => h.2 (i + 1) a b (by simpa using ha) (by simpa using hb)⟩
theorem LR.cons_inv {ρ : List RB} {v : Value} {l l' : List Value} (h : LR ρ (v :: l) l') : ∃ v' t', l' = v' :: t' ∧ VR ρ v v' ∧ LR ρ l t' := by
  cases l' with
  | nil => have := h.1; simp at this
  | cons v' t' => exact ⟨v', t', rfl, h.tail⟩
theorem LR.nil_inv {ρ : List RB} {l' : List Value} (h : LR ρ [] l') : l' = [] := List.length_eq_zero_iff.1 h.1.symm
theorem LR.get {ρ : List RB} {l l' : List Value} (h : LR ρ l l') {i : Nat} {v : Value} (hv : l[i]? = some v) : ∃ v', l'[i]? = some v' ∧ VR ρ v v' := by
  have hi : i < l'.length := h.1 ▸ (List.getElem?_eq_some_iff.1 hv).1
  exact ⟨l'[i], by simp [hi], h.2 i v _ hv (by simp [hi])⟩
theorem LR.append {ρ : List RB} {a a' b b' : List Value} (h : LR ρ a a') (k : LR ρ b b') : LR ρ (a ++ b) (a' ++ b') := by
  induction a generalizing a' with
  | nil => rw [h.nil_inv]; exact k
  | cons v t ih => obtain ⟨v', t', rfl, h1, h2⟩ := h.cons_inv; exact LR.cons h1 (ih h2)
theorem LR.take {ρ : List RB} {a a' : List Value} (h : LR ρ a a') (n : Nat) : LR ρ (a.take n) (a'.take n) := by
  refine ⟨by simp [h.1], fun i v v' x y => ?_⟩
  rw [List.getElem?_take] at x y
  split at x <;> simp_all
  exact h.2 i v v' x y
theorem LR.drop {ρ : List RB} {a a' : List Value} (h : LR ρ a a') (n : Nat) : LR ρ (a.drop n) (a'.drop n) :=
  ⟨by simp [h.1], fun i v v' x y => h.2 (n + i) v v' (by simpa using x) (by simpa using y)⟩
theorem LR.set {ρ : List RB} {a a' : List Value} (h : LR ρ a a') (n : Nat) {v v' : Value} (hv : VR ρ v v') : LR ρ (a.set n v) (a'.set n v') := by
  refine ⟨by simp [h.1], fun i x y hx hy => ?_⟩
  rw [List.getElem?_set] at hx hy
  split at hx
  · rename_i e; subst e
    rw [if_pos rfl] at hy
    split at hx <;> split at hy <;> simp_all
  · rename_i e
    rw [if_neg e] at hy
    exact h.2 i x y hx hy
theorem LR.replicate {ρ : List RB} (n : Nat) {v v' : Value} (hv : VR ρ v v') : LR ρ (List.replicate n v) (List.replicate n v') := by
  refine ⟨by simp, fun i x y hx hy => ?_⟩
  simp [List.getElem?_replicate] at hx hy
  obtain ⟨_, rfl⟩ := hx; obtain ⟨_, rfl⟩ := hy; exact hv

/-- Arrays, as the constructors ask. -/
theorem LR.arr {ρ : List RB} {c c' : Array Value} (h : LR ρ c.toList c'.toList) : c.size = c'.size ∧ ∀ (i : Nat) (v v' : Value), c[i]? = some v → c'[i]? = some v' → VR ρ v v' :=
  ⟨by have := h.1; simpa using this, fun i v v' a b => h.2 i v v' (by simpa using a) (by simpa using b)⟩
theorem LR.of_arr {ρ : List RB} {c c' : Array Value} (h : c.size = c'.size) (k : ∀ (i : Nat) (v v' : Value), c[i]? = some v → c'[i]? = some v' → VR ρ v v') : LR ρ c.toList c'.toList :=
  ⟨by simpa using h, fun i v v' a b => k i v v' (by simpa using a) (by simpa using b)⟩
theorem VR.agg' {ρ : List RB} {c c' : Array Value} (h : LR ρ c.toList c'.toList) : VR ρ (.agg c) (.agg c') := .agg _ _ h.arr.1 h.arr.2
theorem VR.tuple' {ρ : List RB} {c c' : Array Value} (h : LR ρ c.toList c'.toList) : VR ρ (.tuple c) (.tuple c') := .tuple _ _ h.arr.1 h.arr.2

/-- A value that is there. -/
def live : Value → Bool
  | .tuple _ => false
  | _ => true

/-- The mark of what was not done: it stands for what the machine puts then, and for nothing else. -/
def skipV : Value := .tuple #[.chan none]
def isSkip : Value → Bool
  | .tuple c => match c.toList with
    | [.chan none] => true
    | _ => false
  | _ => false
theorem VR.isSkip {ρ : List RB} {v v' : Value} (h : VR ρ v v') (hs : Ax.isSkip v = true) : v' = undef := by
  cases h with
  | skp => rfl
  | tuple c c' hsz hi =>
    unfold Ax.isSkip at hs
    simp only at hs
    split at hs
    · rename_i hc
      have h0 : c[0]? = some (.chan none) := by rw [← Array.getElem?_toList, hc]; rfl
      have hlen : c.size = 1 := by rw [← Array.length_toList, hc]; rfl
      have h1 : c'[0]? = some (c'[0]'(by omega)) := by simp
      have := hi 0 _ _ h0 h1
      generalize c'[0]'(by omega) = x at this
      cases this
    · cases hs
  | _ => simp [Ax.isSkip, undef] at hs

theorem VR.live_eq {ρ : List RB} {v v' : Value} (h : VR ρ v v') (hl : live v = true) : live v' = true ∧ v.oneCell' = v'.oneCell' := by
  cases h <;> simp_all [live, undef, Value.oneCell']

theorem VR.cells {ρ : List RB} {v v' : Value} (h : VR ρ v v') (hl : live v = true) : LR ρ v.cells.toList v'.cells.toList := by
  cases h with
  | agg c c' a b => exact LR.of_arr a b
  | tuple c c' a b => simp [live] at hl
  | dead v => simp [live, undef] at hl
  | skp => simp [live] at hl
  | _ => exact LR.cons (by constructor <;> assumption) (LR.nil _)

end Go.Ax
