/- The abstract interpreter made ready once for each piece of code: closed terms that the kernel works out once. No statement of the seat is proved here. -/
import Derived.Test.YtfeamgocomlepaaAy1
namespace Go.Ax
open Go.RowKit

inductive Bx (α : Type) where
  | mk (a : α)
def Bx.un {α : Type} : Bx α → α
  | .mk a => a

theorem Bx.un_mk {α : Type} (a : α) : (Bx.mk a).un = a := rfl

/-! ### Paths in a frame, made ready -/
noncomputable def getC : Nat → Nat → Bx (Fr → Value)
  | 0, _ => .mk fun _ => undef
  | f + 1, n => match n with
    | 0 => .mk fun fr => @Tr.rec Value (fun _ => Value) undef (fun _ v _ _ _ => @Option.rec Value (fun _ => Value) undef (fun v => v) v) fr
    | m + 1 => cond (Nat.beq (Nat.mod m 2) 0)
      (match getC f (Nat.div m 2) with
        | .mk g => .mk fun fr => @Tr.rec Value (fun _ => Value) undef (fun l _ _ _ _ => g l) fr)
      (match getC f (Nat.div m 2) with
        | .mk g => .mk fun fr => @Tr.rec Value (fun _ => Value) undef (fun _ _ r _ _ => g r) fr)
theorem getC_eq : ∀ (f n : Nat) (t : Fr), n < f → (getC f n).un t = fget t n
  | 0, n, t, h => by omega
  | f + 1, n, t, h => by
    cases n with
    | zero =>
      cases t with
      | leaf => rfl
      | node l v r => cases v <;> rfl
    | succ m =>
      have hd : Nat.div m 2 < f := by show m / 2 < f; omega
      have ih := fun t => getC_eq f (Nat.div m 2) t hd
      simp only [getC]
      cases hg : getC f (Nat.div m 2) with
      | mk g =>
        rw [hg] at ih
        simp only [Bx.un_mk] at ih
        cases hb : Nat.beq (Nat.mod m 2) 0 with
        | true =>
          cases t with
          | leaf => simp only [cond_true, Bx.un_mk, fget, Tr.get_leaf]
          | node l v r => simp only [cond_true, Bx.un_mk, ih]; simp only [fget, Tr.get, hb, cond_true]
        | false =>
          cases t with
          | leaf => simp only [cond_false, Bx.un_mk, fget, Tr.get_leaf]
          | node l v r => simp only [cond_false, Bx.un_mk, ih]; simp only [fget, Tr.get, hb, cond_false]
noncomputable def lookC (t : Nat) : Bx (Fr → Value) := getC (t + 1) t
theorem lookC_eq (t : Nat) (fr : Fr) : (lookC t).un fr = fget fr t := getC_eq _ _ _ (Nat.lt_succ_self t)

noncomputable def setCF {β : Type} : Nat → Nat → Bx (Value → Fr → (Fr → β) → β)
  | 0, _ => .mk fun _ t k => k t
  | f + 1, n => match n with
    | 0 => .mk fun x t k => @Tr.rec Value (fun _ => β) (k (.node .leaf (some x) .leaf)) (fun l _ r _ _ => k (.node l (some x) r)) t
    | m + 1 => cond (Nat.beq (Nat.mod m 2) 0)
      (match setCF f (Nat.div m 2) with
        | .mk s => .mk fun x t k => @Tr.rec Value (fun _ => β) (s x .leaf fun l => k (.node l none .leaf)) (fun l v r _ _ => s x l fun l => k (.node l v r)) t)
      (match setCF f (Nat.div m 2) with
        | .mk s => .mk fun x t k => @Tr.rec Value (fun _ => β) (s x .leaf fun r => k (.node .leaf none r)) (fun l v r _ _ => s x r fun r => k (.node l v r)) t)
theorem setCF_eq {β : Type} : ∀ (f n : Nat) (x : Value) (t : Fr) (k : Fr → β), n < f → (setCF f n).un x t k = k (Tr.setF x f t n)
  | 0, n, x, t, k, h => by omega
  | f + 1, n, x, t, k, h => by
    cases n with
    | zero => cases t <;> rfl
    | succ m =>
      have hd : Nat.div m 2 < f := by show m / 2 < f; omega
      have ih := fun t k => setCF_eq (β := β) f (Nat.div m 2) x t k hd
      simp only [setCF, Tr.setF]
      cases hg : setCF (β := β) f (Nat.div m 2) with
      | mk s =>
        rw [hg] at ih
        simp only [Bx.un_mk] at ih
        cases hb : Nat.beq (Nat.mod m 2) 0 with
        | true => cases t <;> simp only [cond_true, Bx.un_mk, ih, Tr.left, Tr.right, Tr.val]
        | false => cases t <;> simp only [cond_false, Bx.un_mk, ih, Tr.left, Tr.right, Tr.val]
noncomputable def setC {β : Type} (t : Nat) : Bx (Value → Fr → (Fr → β) → β) := setCF (t + 1) t
theorem setC_eq {β : Type} (t : Nat) (v : Value) (fr : Fr) (k : Fr → β) : (setC t).un v fr k = k (fr.set t v) := setCF_eq _ _ _ _ _ (Nat.lt_succ_self t)

/-! ### A value of which the outermost is known -/
noncomputable def fz1 {β : Type} (v : Value) (k : Value → β) : β :=
  @Value.casesOn (fun _ => β) v (fun b => k (.bool b)) (fun d n => k (.int d n)) (fun d n => k (.float d n)) (fun d x y => k (.complex d x y)) (fun s => k (.string s)) (fun a => k (.pointer a)) (fun a l c => k (.slice a l c))
    (fun r => k (.map r)) (fun r => k (.chan r)) (fun f x y => k (.func f x y)) (k .nilFunc) (fun t v => k (.iface t v)) (k .nilIface) (fun c => k (.agg c)) (fun c => k (.tuple c))
theorem fz1_eq {β : Type} (v : Value) (k : Value → β) : fz1 v k = k v := by cases v <;> rfl
/-- A row's or a tuple's parts are known one by one. -/
noncomputable def fzT {β : Type} (v : Value) (k : Value → β) : β :=
  @Value.casesOn (fun _ => β) v (fun b => k (.bool b)) (fun d n => k (.int d n)) (fun d n => k (.float d n)) (fun d x y => k (.complex d x y)) (fun s => k (.string s)) (fun a => k (.pointer a)) (fun a l c => k (.slice a l c))
    (fun r => k (.map r)) (fun r => k (.chan r)) (fun f x y => k (.func f x y)) (k .nilFunc) (fun t v => k (.iface t v)) (k .nilIface) (fun c => fzL fz1 c.toList fun l => k (.agg ⟨l⟩)) (fun c => fzL fz1 c.toList fun l => k (.tuple ⟨l⟩))
theorem fzT_eq {β : Type} (v : Value) (k : Value → β) : fzT v k = k v := by
  cases v <;> first | rfl | (simp only [fzT, fzL_eq fz1_eq])
/-- How much of an operation's value is not yet known. -/
def modeOf (o : Op) : Nat :=
  match o with
  | .move _ | .assign _ | .pick .. | .extract .. | .nilCheck _ => 0
  | .load .. | .lookup .. | .entry .. | .typeAssert .. | .field .. | .call _ => 1
  | _ => 2
noncomputable def fzM {β : Type} (m : Nat) : Bx (Value → (Value → β) → β) :=
  match m with
  | 0 => .mk fz1
  | 1 => .mk fzT
  | _ => .mk (fzV 6)
theorem fzM_eq {β : Type} (m : Nat) (v : Value) (k : Value → β) : (fzM m).un v k = k v := by
  unfold fzM
  split
  · exact fz1_eq v k
  · exact fzT_eq v k
  · exact fzV_eq 6 v k

noncomputable def pickC {β : Type} : List Nat → Bx (Fr → (List Value → β) → β)
  | [] => .mk fun _ k => k []
  | t :: L => match lookC t, pickC L with
    | .mk g, .mk pk => .mk fun fr k => fz1 (g fr) fun v => pk fr fun vs => k (v :: vs)
theorem pickC_eq {β : Type} : ∀ (L : List Nat) (fr : Fr) (k : List Value → β), (pickC L).un fr k = k (fpick L fr)
  | [], fr, k => rfl
  | t :: L, fr, k => by
    have h1 := lookC_eq t fr
    have ih := fun k => pickC_eq (β := β) L fr k
    simp only [pickC]
    cases hg : lookC t with
    | mk g =>
      cases hp : pickC (β := β) L with
      | mk pk =>
        rw [hg] at h1; rw [hp] at ih
        simp only [Bx.un_mk] at h1 ih ⊢
        rw [fz1_eq, ih, h1]; rfl
noncomputable def makeC {β : Type} : List Nat → Bx (List Value → (Fr → β) → β)
  | [] => .mk fun _ k => k .leaf
  | t :: L => match setC (β := β) t, makeC (β := β) L with
    | .mk s, .mk mk => .mk fun vs k => @List.rec Value (fun _ => β) (k .leaf) (fun v vs _ => mk vs fun fr => fz1 v fun v => s v fr k) vs
theorem makeC_eq {β : Type} : ∀ (L : List Nat) (vs : List Value) (k : Fr → β), (makeC L).un vs k = k (fmake L vs)
  | [], vs, k => by cases vs <;> rfl
  | t :: L, vs, k => by
    have h1 := fun v fr (k : Fr → β) => setC_eq t v fr k
    have ih := fun vs k => makeC_eq (β := β) L vs k
    simp only [makeC]
    cases hg : setC (β := β) t with
    | mk s =>
      cases hp : makeC (β := β) L with
      | mk pk =>
        rw [hg] at h1; rw [hp] at ih
        simp only [Bx.un_mk] at h1 ih ⊢
        cases vs with
        | nil => rfl
        | cons v vs => simp only [ih, fz1_eq, h1]; rfl

/-! ### Operands, operations -/
noncomputable def evK (x : Operand) : Bx (Fr → Value) :=
  match x with
  | .tmp t => lookC t
  | .const v => cond (v.cells.toList.all flat1) (.mk fun _ => v) (.mk fun _ => undef)
  | .func f => .mk fun _ => .func (.func f) #[] #[]
  | .global _ => .mk fun _ => undef
theorem evK_eq (x : Operand) (fr : Fr) : (evK x).un fr = fev fr x := by
  cases x with
  | tmp t => exact lookC_eq t fr
  | const v => simp only [evK, fev]; cases v.cells.toList.all flat1 <;> rfl
  | func f => rfl
  | global g => rfl

noncomputable def evsK : List Operand → Bx (Fr → List Value)
  | [] => .mk fun _ => []
  | x :: l => match evK x, evsK l with
    | .mk e, .mk es => .mk fun fr => e fr :: es fr
theorem evsK_eq : ∀ (l : List Operand) (fr : Fr), (evsK l).un fr = l.map (fev fr)
  | [], fr => rfl
  | x :: l, fr => by
    have h1 := evK_eq x fr
    have h2 := evsK_eq l fr
    simp only [evsK]
    cases he : evK x with
    | mk e =>
      cases hes : evsK l with
      | mk es =>
        rw [he] at h1; rw [hes] at h2
        simp only [Bx.un] at h1 h2 ⊢
        rw [h1, h2]; rfl

noncomputable def kNum (k : IntKind) : Nat := @IntKind.rec (fun _ => Nat) 0 1 2 3 4 5 6 7 k
noncomputable def kEq (j k : IntKind) : Bool := Nat.beq (kNum j) (kNum k)
theorem kEq_eq (j k : IntKind) : kEq j k = decide (j = k) := by cases j <;> cases k <;> rfl

noncomputable def lim (k : IntKind) : Nat :=
  @IntKind.rec (fun _ => Nat) 127 32767 2147483647 9223372036854775807 255 65535 4294967295 18446744073709551615 k
theorem wrap_small (k : IntKind) (x : Nat) (h : x ≤ lim k) : k.wrap (x : Int) = x := by
  cases k <;> simp only [lim] at h <;> simp [IntKind.wrap, IntKind.bits, IntKind.signed] <;> omega

noncomputable def two {β : Type} (a b : Int) (f : Nat → Nat → β) (z : β) : β :=
  @Int.rec (fun _ => β) (fun m => @Int.rec (fun _ => β) (fun n => f m n) (fun _ => z) b) (fun _ => z) a
noncomputable def addF (k : IntKind) (a b : Int) : Int :=
  two a b (fun m n => @Bool.rec (fun _ => Int) (k.wrap (a + b)) (.ofNat (Nat.add m n)) (Nat.ble (Nat.add m n) (lim k))) (k.wrap (a + b))
theorem addF_eq (k : IntKind) (a b : Int) : addF k a b = k.wrap (a + b) := by
  cases a with
  | negSucc m => rfl
  | ofNat m =>
    cases b with
    | negSucc n => rfl
    | ofNat n =>
      show @Bool.rec (fun _ => Int) _ _ (Nat.ble (Nat.add m n) (lim k)) = _
      cases h : Nat.ble (Nat.add m n) (lim k) with
      | false => rfl
      | true => exact (wrap_small k (m + n) (Nat.le_of_ble_eq_true h)).symm
noncomputable def subF (k : IntKind) (a b : Int) : Int :=
  two a b (fun m n => @Bool.rec (fun _ => Int) (k.wrap (a - b)) (@Bool.rec (fun _ => Int) (k.wrap (a - b)) (.ofNat (Nat.sub m n)) (Nat.ble m (lim k))) (Nat.ble n m)) (k.wrap (a - b))
theorem subF_eq (k : IntKind) (a b : Int) : subF k a b = k.wrap (a - b) := by
  cases a with
  | negSucc m => rfl
  | ofNat m =>
    cases b with
    | negSucc n => rfl
    | ofNat n =>
      show @Bool.rec (fun _ => Int) _ (@Bool.rec (fun _ => Int) _ _ (Nat.ble m (lim k))) (Nat.ble n m) = _
      cases h : Nat.ble n m with
      | false => rfl
      | true =>
        cases h2 : Nat.ble m (lim k) with
        | false => rfl
        | true =>
          have h := Nat.le_of_ble_eq_true h
          have h2 := Nat.le_of_ble_eq_true h2
          have := wrap_small k (m - n) (by omega)
          show ((m - n : Nat) : Int) = k.wrap ((m : Int) - (n : Int))
          rw [← this]
          congr 1
          omega
noncomputable def ltF (a b : Int) : Bool := two a b (fun m n => Nat.ble (Nat.succ m) n) (decide (a < b))
theorem ltF_eq (a b : Int) : ltF a b = decide (a < b) := by
  cases a with
  | negSucc m => rfl
  | ofNat m =>
    cases b with
    | negSucc n => rfl
    | ofNat n =>
      show Nat.ble (Nat.succ m) n = _
      rw [Bool.eq_iff_iff]
      simp
      omega
noncomputable def eqF (a b : Int) : Bool := two a b (fun m n => Nat.beq m n) (a == b)
theorem eqF_eq (a b : Int) : eqF a b = (a == b) := by
  cases a with
  | negSucc m => rfl
  | ofNat m =>
    cases b with
    | negSucc n => rfl
    | ofNat n =>
      show Nat.beq m n = _
      rw [Bool.eq_iff_iff]
      simp
      omega

noncomputable def intK (op : BinOp) : Option (Bx (IntKind → Int → Int → Value)) :=
  match op with
  | .add => some (.mk fun k a b => .int k (addF k a b))
  | .sub => some (.mk fun k a b => .int k (subF k a b))
  | .mul => some (.mk fun k a b => .int k (k.wrap (a * b)))
  | .eql => some (.mk fun _ a b => .bool (eqF a b))
  | .neq => some (.mk fun _ a b => .bool (a != b))
  | .lss => some (.mk fun _ a b => .bool (ltF a b))
  | .leq => some (.mk fun _ a b => .bool (a ≤ b))
  | .gtr => some (.mk fun _ a b => .bool (ltF b a))
  | .geq => some (.mk fun _ a b => .bool (a ≥ b))
  | _ => none
noncomputable def binK (P : Program) (t : TypeId) (op : BinOp) : Bx (Value → Value → Option Value) :=
  match intK op with
  | some (.mk f) => .mk fun x y => match x, y with
    | .int k a, .int k' b => cond (kEq k k') (some (f k a b)) (aBinP P t op (.int k a) (.int k' b))
    | x, y => aBinP P t op x y
  | none => .mk fun x y => aBinP P t op x y
theorem binK_eq (P : Program) (t : TypeId) (op : BinOp) (x y : Value) : (binK P t op).un x y = aBinP P t op x y := by
  have key : ∀ f : IntKind → Int → Int → Value, op ≠ .shl → op ≠ .shr → (∀ k a b, aInt op k a b = some (f k a b)) →
      (match x, y with
        | .int k a, .int k' b => cond (kEq k k') (some (f k a b)) (aBinP P t op (.int k a) (.int k' b))
        | x, y => aBinP P t op x y) = aBinP P t op x y := by
    intro f h1 h2 hf
    split
    · rename_i k a k' b
      rw [kEq_eq]
      have : aBin (P.underlying t) op (.int k a) (.int k' b) = if k = k' then aInt op k a b else none := by
        cases op <;> first | rfl | exact absurd rfl h1 | exact absurd rfl h2
      by_cases e : k = k'
      · subst e
        simp only [decide_true, cond_true]
        unfold aBinP
        rw [this, if_pos rfl, hf]
      · simp [e]
    · rfl
  cases op <;> first | rfl | exact key _ (by simp) (by simp) (fun k a b => by simp only [aInt, addF_eq, subF_eq, ltF_eq, eqF_eq, gt_iff_lt])

noncomputable def copK (P : Program) (o : Oper) : Bx (Fr → AHeap → Option (Value × AHeap)) :=
  match o.op with
  | .move x | .assign x => match evK x with
    | .mk e => .mk fun fr σ => some (e fr, σ)
  | .load t a => match shp P t, evK a with
    | some (g, n), .mk e => fzN n fun n => .mk fun fr σ => (aLoad g n (e fr) σ).bind fun v => some (v, σ)
    | none, _ => .mk fun _ _ => none
  | .store t a x => match shp P t, evK a, evK x with
    | some (_, n), .mk e, .mk ex => fzN n fun n => .mk fun fr σ => (storeK n (e fr) (ex fr) σ).bind fun σ' => some (undef, σ')
    | none, _, _ => .mk fun _ _ => none
  | .binOp op t x y _ => match binK P t op, evK x, evK y with
    | .mk f, .mk ex, .mk ey => .mk fun fr σ => (f (ex fr) (ey fr)).bind fun v => some (v, σ)
  | .fieldAddr t x f => match fieldOff P t f, evK x with
    | some off, .mk e => fzN off fun off => .mk fun fr σ => (aFieldAddr off (e fr)).bind fun v => some (v, σ)
    | none, _ => .mk fun _ _ => none
  | .indexAddr t x i => match evK x, evK i with
    | .mk ex, .mk ei => .mk fun fr σ => (aIndexAddrOp P t (ex fr) (ei fr)).bind fun v => some (v, σ)
  | .extract x i => match evK x with
    | .mk e => .mk fun fr σ => (aExtract (e fr) i).bind fun v => some (v, σ)
  | .nilCheck x => match evK x with
    | .mk e => .mk fun fr σ => (aNil (e fr)).bind fun v => some (v, σ)
  | .convert s d x => match evK x with
    | .mk e => .mk fun fr σ => (aConv P s d (e fr) σ).bind fun v => some (v, σ)
  | _ => .mk fun fr σ => aop P (fev fr) o σ
theorem copK_eq (P : Program) (o : Oper) (fr : Fr) (σ : AHeap) : (copK P o).un fr σ = aop P (fev fr) o σ := by
  obtain ⟨dst, op, type, pos, after, guard⟩ := o
  cases op <;> try rfl
  case move x =>
    have h := evK_eq x fr
    simp only [copK, aop]
    cases he : evK x with
    | mk e => rw [he] at h; simp only [Bx.un] at h ⊢; rw [h]
  case assign x =>
    have h := evK_eq x fr
    simp only [copK, aop]
    cases he : evK x with
    | mk e => rw [he] at h; simp only [Bx.un] at h ⊢; rw [h]
  case load t a =>
    have h := evK_eq a fr
    simp only [copK, aop]
    cases he : evK a with
    | mk e =>
      rw [he] at h; simp only [Bx.un] at h
      cases shp P t with
      | none => rfl
      | some g => obtain ⟨g, n⟩ := g; simp only [fzN_eq, Bx.un, h, Option.bind_some]
  case store t a x =>
    have h := evK_eq a fr
    have h2 := evK_eq x fr
    simp only [copK, aop]
    cases he : evK a with
    | mk e =>
      cases hx : evK x with
      | mk ex =>
        rw [he] at h; rw [hx] at h2
        simp only [Bx.un] at h h2
        cases shp P t with
        | none => rfl
        | some g => obtain ⟨g, n⟩ := g; simp only [fzN_eq, Bx.un, h, h2, Option.bind_some, storeK_eq]
  case binOp op t x y ty =>
    have h := evK_eq x fr
    have h2 := evK_eq y fr
    have h3 := binK_eq P t op (fev fr x) (fev fr y)
    simp only [copK, aop]
    cases he : evK x with
    | mk e =>
      cases hx : evK y with
      | mk ex =>
        cases hb : binK P t op with
        | mk f =>
          rw [he] at h; rw [hx] at h2; rw [hb] at h3
          simp only [Bx.un] at h h2 h3 ⊢
          rw [h, h2, h3]
  case fieldAddr t x f =>
    have h := evK_eq x fr
    simp only [copK, aop]
    cases he : evK x with
    | mk e =>
      rw [he] at h; simp only [Bx.un] at h
      cases fieldOff P t f with
      | none => rfl
      | some off => simp only [fzN_eq, Bx.un, h, Option.bind_some]
  case indexAddr t x i =>
    have h := evK_eq x fr
    have h2 := evK_eq i fr
    simp only [copK, aop]
    cases he : evK x with
    | mk e =>
      cases hx : evK i with
      | mk ex =>
        rw [he] at h; rw [hx] at h2
        simp only [Bx.un] at h h2 ⊢
        rw [h, h2]
  case extract x i =>
    have h := evK_eq x fr
    simp only [copK, aop]
    cases he : evK x with
    | mk e => rw [he] at h; simp only [Bx.un] at h ⊢; rw [h]
  case nilCheck x =>
    have h := evK_eq x fr
    simp only [copK, aop]
    cases he : evK x with
    | mk e => rw [he] at h; simp only [Bx.un] at h ⊢; rw [h]
  case convert s d x =>
    have h := evK_eq x fr
    simp only [copK, aop]
    cases he : evK x with
    | mk e => rw [he] at h; simp only [Bx.un] at h ⊢; rw [h]
end Go.Ax
