/- Outcomes that are the same are made one: what nobody points to is struck, equal ones are one. No statement of the seat is proved here. -/
import Derived.Test.YtfeamgocomlepaaAxP
namespace Go.Ax
open Go.RowKit

def vsame : Nat → Value → Value → Bool
  | 0, _, _ => false
  | d + 1, x, y => match x, y with
    | .bool a, .bool b => a == b
    | .int j a, .int k b => decide (j = k) && a == b
    | .string a, .string b => decide (a.data.toList = b.data.toList)
    | .pointer a, .pointer b => decide (a = b)
    | .slice a l c, .slice b m e => decide (a = b) && Nat.beq l m && Nat.beq c e
    | .map a, .map b => decide (a = b)
    | .nilFunc, .nilFunc => true
    | .nilIface, .nilIface => true
    | .iface t v, .iface u w => Nat.beq t u && vsame d v w
    | .agg a, .agg b => a.toList.length == b.toList.length && (a.toList.zip b.toList).all fun p => vsame d p.1 p.2
    | .tuple a, .tuple b => a.toList.length == b.toList.length && (a.toList.zip b.toList).all fun p => vsame d p.1 p.2
    | _, _ => false

theorem zip_all {f : Value → Value → Bool} (hf : ∀ a b, f a b = true → a = b) : ∀ (l m : List Value), l.length = m.length → ((l.zip m).all fun p => f p.1 p.2) = true → l = m
  | [], [], _, _ => rfl
  | [], _ :: _, h, _ => by simp at h
  | _ :: _, [], h, _ => by simp at h
  | a :: l, b :: m, h, hh => by
    simp only [List.zip_cons_cons, List.all_cons, Bool.and_eq_true] at hh
    rw [hf a b hh.1, zip_all hf l m (by simpa using h) hh.2]

theorem vsame_eq : ∀ (d : Nat) (x y : Value), vsame d x y = true → x = y
  | 0, _, _, h => by simp [vsame] at h
  | d + 1, x, y, h => by
    unfold vsame at h
    split at h <;> (try simp only [Bool.and_eq_true, beq_iff_eq, decide_eq_true_eq] at h)
    · rw [h]
    · rw [h.1, h.2]
    · rename_i x y
      have : x.data = y.data := Array.ext' h
      have : x = y := ByteArray.ext this
      rw [this]
    · rw [h]
    · obtain ⟨⟨h1, h2⟩, h3⟩ := h
      rw [h1, Nat.eq_of_beq_eq_true h2, Nat.eq_of_beq_eq_true h3]
    · rw [h]
    · rfl
    · rfl
    · rw [Nat.eq_of_beq_eq_true h.1, vsame_eq d _ _ h.2]
    · rename_i a b
      have : a = b := Array.ext' (zip_all (vsame_eq d) _ _ h.1 h.2)
      rw [this]
    · rename_i a b
      have : a = b := Array.ext' (zip_all (vsame_eq d) _ _ h.1 h.2)
      rw [this]
    · cases h

def lsame : List Value → List Value → Bool
  | [], [] => true
  | a :: l, b :: m => vsame 6 a b && lsame l m
  | _, _ => false
theorem lsame_eq : ∀ (l m : List Value), lsame l m = true → l = m
  | [], [], _ => rfl
  | a :: l, b :: m, h => by
    simp only [lsame, Bool.and_eq_true] at h
    rw [vsame_eq 6 _ _ h.1, lsame_eq l m h.2]
  | [], _ :: _, h => by cases h
  | _ :: _, [], h => by cases h

def esame : List MapEntry → List MapEntry → Bool
  | [], [] => true
  | a :: l, b :: m => vsame 6 a.key b.key && vsame 6 a.val b.val && Nat.beq a.born b.born && esame l m
  | _, _ => false
theorem esame_eq : ∀ (l m : List MapEntry), esame l m = true → l = m
  | [], [], _ => rfl
  | ⟨k, v, n⟩ :: l, ⟨k', v', n'⟩ :: m, h => by
    simp only [esame, Bool.and_eq_true] at h
    obtain ⟨⟨⟨h1, h2⟩, h3⟩, h4⟩ := h
    have h1 := vsame_eq 6 _ _ h1
    have h2 := vsame_eq 6 _ _ h2
    have h3 := Nat.eq_of_beq_eq_true h3
    rw [h1, h2, h3, esame_eq l m h4]
  | [], _ :: _, h => by cases h
  | _ :: _, [], h => by cases h

def osame : AObj → AObj → Bool
  | .cells c e o, .cells c' e' o' => Nat.beq e e' && o == o' && lsame c c'
  | .ro c e, .ro c' e' => Nat.beq e e' && lsame c c'
  | .map es n, .map es' n' => Nat.beq n n' && esame es es'
  | .dead, .dead => true
  | _, _ => false
theorem osame_eq {a b : AObj} (h : osame a b = true) : a = b := by
  unfold osame at h
  split at h <;> (try simp only [Bool.and_eq_true, beq_iff_eq] at h)
  · rw [Nat.eq_of_beq_eq_true h.1.1, h.1.2, lsame_eq _ _ h.2]
  · rw [Nat.eq_of_beq_eq_true h.1, lsame_eq _ _ h.2]
  · rw [Nat.eq_of_beq_eq_true h.1, esame_eq _ _ h.2]
  · rfl
  · cases h

def tsame : Tr AObj → Tr AObj → Bool
  | .leaf, .leaf => true
  | .node l v r, .node l' v' r' => (match v, v' with
    | none, none => true
    | some a, some b => osame a b
    | _, _ => false) && tsame l l' && tsame r r'
  | _, _ => false
theorem tsame_eq : ∀ (a b : Tr AObj), tsame a b = true → a = b
  | .leaf, .leaf, _ => rfl
  | .node l v r, .node l' v' r', h => by
    simp only [tsame, Bool.and_eq_true] at h
    obtain ⟨⟨h1, h2⟩, h3⟩ := h
    rw [tsame_eq l l' h2, tsame_eq r r' h3]
    cases v <;> cases v' <;> simp at h1
    · rfl
    · rw [osame_eq h1]
  | .leaf, .node _ _ _, h => by cases h
  | .node _ _ _, .leaf, h => by cases h

def rsame (a b : Value × AHeap) : Bool := Nat.beq a.2.size b.2.size && vsame 6 a.1 b.1 && tsame a.2.objs b.2.objs
theorem rsame_eq {a b : Value × AHeap} (h : rsame a b = true) : a = b := by
  obtain ⟨v, n, t⟩ := a
  obtain ⟨v', n', t'⟩ := b
  simp only [rsame, Bool.and_eq_true] at h
  rw [Nat.eq_of_beq_eq_true h.1.1, vsame_eq 6 _ _ h.1.2, tsame_eq _ _ h.2]

def strike : List (Value × AHeap) → List (Value × AHeap)
  | [] => []
  | x :: l => cond ((strike l).any (rsame x)) (strike l) (x :: strike l)
theorem strike_mem : ∀ (l : List (Value × AHeap)) (x : Value × AHeap), x ∈ l → x ∈ strike l
  | [], x, h => by simp at h
  | y :: l, x, h => by
    simp only [strike]
    rcases List.mem_cons.1 h with rfl | h
    · cases hc : (strike l).any (rsame x) with
      | true =>
        simp only [cond_true]
        obtain ⟨z, hz, he⟩ := List.any_eq_true.1 hc
        rw [rsame_eq he]; exact hz
      | false => simp
    · have := strike_mem l x h
      cases (strike l).any (rsame y) with
      | true => exact this
      | false => exact List.mem_cons_of_mem _ this

/-! ### What nobody points to -/
def refs (b : Nat) : Nat → Value → Bool
  | 0, _ => true
  | d + 1, v => match v with
    | .pointer (some a) => Nat.ble b a.block
    | .slice (some a) _ _ => Nat.ble b a.block && !Nat.beq a.block ZB
    | .map (some r) => Nat.ble b r
    | .iface _ v => refs b d v
    | .agg c => c.toList.any (refs b d)
    | .tuple c => c.toList.any (refs b d)
    | .func _ f c => f.toList.any (refs b d) || c.toList.any (refs b d)
    | _ => false
def orefs (b : Nat) : AObj → Bool
  | .cells c _ _ | .ro c _ => c.any (refs b 6)
  | .map es _ => es.any fun e => refs b 6 e.val
  | .mapIter (some m) _ _ _ => Nat.ble b m
  | _ => false
def old (b : Nat) (σ : AHeap) : Nat → Bool
  | 0 => false
  | n + 1 => (match cond (Nat.blt n b) (σ.get n) none with
    | some o => orefs b o
    | none => false) || old b σ n
def killFrom (b : Nat) : Nat → AHeap → AHeap
  | 0, σ => σ
  | n + 1, σ => killFrom b n (cond (Nat.ble b n) (match σ.get n with
    | some _ => σ.set n .dead
    | none => σ) σ)
def sweep (b : Nat) (r : Value × AHeap) : Value × AHeap := cond (refs b 6 r.1 || old b r.2 b) r (r.1, killFrom b r.2.size r.2)
def amerge (b : Nat) (r : Option (List (Value × AHeap))) : Option (List (Value × AHeap)) :=
  match r with
  | some (x :: y :: l) => some (strike ((x :: y :: l).map (sweep b)))
  | r => r

section
variable {B : Nat} {w0 : World} {ρ : List RB} {w : World}
theorem killFrom_ok (b : Nat) : ∀ (n : Nat) (σ : AHeap), Rel B w0 ρ σ w → Rel B w0 ρ (killFrom b n σ) w
  | 0, σ, h => h
  | n + 1, σ, h => by
    simp only [killFrom]
    refine killFrom_ok b n _ ?_
    cases Nat.ble b n with
    | false => exact h
    | true =>
      simp only [cond_true]
      split
      · rename_i o ho; exact h.kill n (by rw [ho]; simp)
      · exact h

theorem amerge_ok {b : Nat} {r : Option (List (Value × AHeap))} {R : List (Value × AHeap)} (h : amerge b r = some R) :
    ∃ R0, r = some R0 ∧ ∀ v σ, (v, σ) ∈ R0 → ∃ σ', (v, σ') ∈ R ∧ ∀ (B : Nat) (w0 : World) (ρ : List RB) (w : World), Rel B w0 ρ σ w → Rel B w0 ρ σ' w := by
  unfold amerge at h
  split at h
  · rename_i x y l
    cases h
    refine ⟨_, rfl, fun v σ hm => ?_⟩
    have hm2 : sweep b (v, σ) ∈ strike ((x :: y :: l).map (sweep b)) := strike_mem _ _ (List.mem_map_of_mem hm)
    unfold sweep at hm2
    cases hc : (refs b 6 v || old b σ b) with
    | true => rw [hc] at hm2; exact ⟨σ, hm2, fun _ _ _ _ h => h⟩
    | false => rw [hc] at hm2; exact ⟨_, hm2, fun _ _ _ _ h => killFrom_ok b _ _ h⟩
  · exact ⟨R, h, fun v σ hm => ⟨σ, hm, fun _ _ _ _ h => h⟩⟩
end
end Go.Ax
