/- Assertions on the abstract heap that part it: what a call owns, what stays as it is for ever; lists of assertions. No statement of the seat is proved here. -/
import Derived.Test.YtfeamgocomlepaaAw2
namespace Go.Ax
open Go.RowKit

/-- Of a block: is it owned (else it stays as it is for ever), and what it is. -/
abbrev Res := Nat → Option (Bool × AObj)
def Res.emp : Res := fun _ => none
/-- z is x and y together. -/
def J (x y z : Option (Bool × AObj)) : Prop := (x = none ∧ z = y) ∨ (y = none ∧ z = x) ∨ (∃ o, x = some (false, o) ∧ y = some (false, o) ∧ z = some (false, o))
theorem J.assoc {x y xy c r : Option (Bool × AObj)} (h : J x y xy) (k : J xy c r) : ∃ yc, J y c yc ∧ J x yc r := by
  rcases h with ⟨rfl, rfl⟩ | ⟨rfl, rfl⟩ | ⟨o, rfl, rfl, rfl⟩
  · exact ⟨r, k, .inl ⟨rfl, rfl⟩⟩
  · exact ⟨c, .inl ⟨rfl, rfl⟩, k⟩
  · rcases k with ⟨hx, _⟩ | ⟨rfl, rfl⟩ | ⟨o', hx, rfl, rfl⟩
    · cases hx
    · exact ⟨some (false, o), .inr (.inl ⟨rfl, rfl⟩), .inr (.inr ⟨o, rfl, rfl, rfl⟩)⟩
    · cases hx
      exact ⟨some (false, o), .inr (.inr ⟨o, rfl, rfl, rfl⟩), .inr (.inr ⟨o, rfl, rfl, rfl⟩)⟩
/-- r is a and b together. -/
def Res.Join (a b r : Res) : Prop := ∀ i, J (a i) (b i) (r i)
def Res.Of (r : Res) (σ : AHeap) : Prop := ∀ i q o, r i = some (q, o) → σ.get i = some o ∧ i < σ.size

abbrev Assn := Res → Prop
def sep (A B : Assn) : Assn := fun r => ∃ a b, Res.Join a b r ∧ A a ∧ B b
def emp : Assn := fun r => r = Res.emp
def pure' (p : Prop) : Assn := fun r => r = Res.emp ∧ p
def ex {α : Sort _} (A : α → Assn) : Assn := fun r => ∃ x, A x r
/-- A block that is owned. -/
def pt (b : Nat) (o : AObj) : Assn := fun r => r = fun i => if i = b then some (true, o) else none
/-- A block that stays as it is for ever. -/
def ro (b : Nat) (o : AObj) : Assn := fun r => r = fun i => if i = b then some (false, o) else none

theorem Res.Join.comm {a b r : Res} (h : Res.Join a b r) : Res.Join b a r := fun i => by
  rcases h i with ⟨x, y⟩ | ⟨x, y⟩ | ⟨o, x, y, z⟩
  · exact .inr (.inl ⟨x, y⟩)
  · exact .inl ⟨x, y⟩
  · exact .inr (.inr ⟨o, y, x, z⟩)
theorem Res.Join.emp_left (r : Res) : Res.Join Res.emp r r := fun _ => .inl ⟨rfl, rfl⟩
theorem Res.Join.emp_eq {b r : Res} (h : Res.Join Res.emp b r) : r = b := by
  funext i
  rcases h i with ⟨_, y⟩ | ⟨x, y⟩ | ⟨o, x, _⟩
  · exact y
  · rw [y, x]; rfl
  · cases x
theorem Res.Join.assoc {a b ab c r : Res} (h : Res.Join a b ab) (k : Res.Join ab c r) : ∃ bc, Res.Join b c bc ∧ Res.Join a bc r :=
  ⟨fun i => Classical.choose ((h i).assoc (k i)), fun i => (Classical.choose_spec ((h i).assoc (k i))).1, fun i => (Classical.choose_spec ((h i).assoc (k i))).2⟩
theorem sep_comm (A B : Assn) : sep A B = sep B A := by
  funext r; apply propext
  exact ⟨fun ⟨a, b, h, x, y⟩ => ⟨b, a, h.comm, y, x⟩, fun ⟨a, b, h, x, y⟩ => ⟨b, a, h.comm, y, x⟩⟩
theorem sep_assoc (A B C : Assn) : sep (sep A B) C = sep A (sep B C) := by
  funext r; apply propext
  constructor
  · rintro ⟨ab, c, h, ⟨a, b, k, x, y⟩, z⟩
    obtain ⟨bc, h1, h2⟩ := k.assoc h
    exact ⟨a, bc, h2, x, b, c, h1, y, z⟩
  · rintro ⟨a, bc, h, x, b, c, k, y, z⟩
    obtain ⟨ba, h1, h2⟩ := k.comm.assoc h.comm
    exact ⟨ba, c, h2.comm, ⟨a, b, h1.comm, x, y⟩, z⟩
theorem emp_sep (A : Assn) : sep emp A = A := by
  funext r; apply propext
  constructor
  · rintro ⟨a, b, h, rfl, y⟩; rw [h.emp_eq]; exact y
  · intro h; exact ⟨_, r, Res.Join.emp_left r, rfl, h⟩

def Star : List Assn → Assn
  | [] => emp
  | A :: l => sep A (Star l)
theorem Star_append (l m : List Assn) : Star (l ++ m) = sep (Star l) (Star m) := by
  induction l with
  | nil => simp [Star, emp_sep]
  | cons A l ih => simp [Star, ih, sep_assoc]
theorem Star_perm {l m : List Assn} (h : l.Perm m) : Star l = Star m := by
  induction h with
  | nil => rfl
  | cons x _ ih => simp [Star, ih]
  | swap x y l => simp only [Star]; rw [← sep_assoc, sep_comm y x, sep_assoc]
  | trans _ _ ih1 ih2 => rw [ih1, ih2]

/-- The heap has all of these, each for itself. -/
def H (l : List Assn) (σ : AHeap) : Prop := ∃ r, Res.Of r σ ∧ Star l r

theorem Res.Of.left {a b r : Res} {σ : AHeap} (h : Res.Of r σ) (j : Res.Join a b r) : Res.Of a σ := fun i q o ha => by
  rcases j i with ⟨x, y⟩ | ⟨x, y⟩ | ⟨o', x, y, z⟩
  · rw [x] at ha; cases ha
  · exact h i q o (by rw [y, ha])
  · rw [x] at ha; cases ha; exact h i _ _ z

theorem H.perm {l m : List Assn} {σ : AHeap} (h : H l σ) (p : l.Perm m) : H m σ := by
  obtain ⟨r, h1, h2⟩ := h; exact ⟨r, h1, by rw [← Star_perm p]; exact h2⟩
theorem H.left {l m : List Assn} {σ : AHeap} (h : H (l ++ m) σ) : H l σ := by
  obtain ⟨r, h1, h2⟩ := h
  rw [Star_append] at h2
  obtain ⟨a, b, j, x, y⟩ := h2
  exact ⟨a, h1.left j, x⟩
theorem H.nil (σ : AHeap) : H [] σ := ⟨Res.emp, (fun i q o h => by simp [Res.emp] at h), rfl⟩
theorem H.tail {A : Assn} {l : List Assn} {σ : AHeap} (h : H (A :: l) σ) : H l σ := (h.perm (by simpa using List.perm_append_comm (l₁ := [A]) (l₂ := l)) : H (l ++ [A]) σ).left
theorem H.second {A B : Assn} {l : List Assn} {σ : AHeap} (h : H (A :: B :: l) σ) : H (A :: l) σ :=
  (h.perm (List.Perm.cons A (by simpa using List.perm_append_comm (l₁ := [B]) (l₂ := l))) : H ((A :: l) ++ [B]) σ).left
theorem H.sub {l m : List Assn} {σ : AHeap} (h : H l σ) (p : m.Sublist l) : H m σ := by
  obtain ⟨k, hk⟩ := p.exists_perm_append
  exact (h.perm hk).left
/-- Parts one by one, by their places. -/
def picks (l : List Assn) (is : List Nat) : List Assn := is.map fun i => l.getD i emp
theorem Star_take : ∀ (l : List Assn) (i : Nat), Star l = sep (l.getD i emp) (Star (l.set i emp))
  | [], i => by simp [Star, emp_sep]
  | A :: l, 0 => by simp [Star, emp_sep]
  | A :: l, i + 1 => by
    simp only [Star, List.getD_cons_succ, List.set_cons_succ]
    rw [Star_take l i, ← sep_assoc, sep_comm A, sep_assoc]
theorem Star_set (l : List Assn) (i : Nat) (B : Assn) (h : i < l.length) : Star (l.set i B) = sep B (Star (l.set i emp)) := by
  rw [Star_take _ i, List.set_set]
  simp [List.getD, h]
theorem picks_star {l : List Assn} : ∀ (is : List Nat), is.Nodup → ∃ K, Star l = sep (Star (picks l is)) K
  | [], _ => ⟨Star l, by simp [picks, Star, emp_sep]⟩
  | i :: is, hn => by
    rw [List.nodup_cons] at hn
    obtain ⟨K, hK⟩ := picks_star (l := l.set i emp) is hn.2
    refine ⟨K, ?_⟩
    rw [Star_take l i, hK]
    have hp : picks (l.set i emp) is = picks l is := by
      unfold picks
      apply List.map_congr_left
      intro x hx
      have hx' : i ≠ x := fun e => hn.1 (e ▸ hx)
      simp [List.getD, List.getElem?_set, hx']
    rw [hp]
    show _ = sep (sep _ _) _
    rw [sep_assoc]
    rfl
theorem H.pick {l : List Assn} {σ : AHeap} (h : H l σ) (is : List Nat) (hn : is.Nodup) : H (picks l is) σ := by
  obtain ⟨K, hK⟩ := picks_star (l := l) is hn
  obtain ⟨r, h1, h2⟩ := h
  rw [hK] at h2
  obtain ⟨a, b, j, x, y⟩ := h2
  exact ⟨a, h1.left j, x⟩

theorem H.front {l : List Assn} {σ : AHeap} {A : Assn} (h : H l σ) (i : Nat) (hi : l[i]? = some A) : H (A :: l.set i emp) σ := by
  obtain ⟨r, h1, h2⟩ := h
  rw [Star_take l i] at h2
  simp only [List.getD, hi, Option.getD_some] at h2
  exact ⟨r, h1, h2⟩
theorem H.back {l : List Assn} {σ : AHeap} {A B : Assn} (i : Nat) (hi : l[i]? = some A) (h : H (B :: l.set i emp) σ) : H (l.set i B) σ := by
  have hlt := (List.getElem?_eq_some_iff.1 hi).1
  obtain ⟨r, h1, h2⟩ := h
  exact ⟨r, h1, by rw [Star_set l i B hlt]; exact h2⟩

/-! ### Opening and shutting at the head -/
theorem H_star {l m : List Assn} {σ : AHeap} : H (Star l :: m) σ ↔ H (l ++ m) σ := by
  unfold H; simp only [Star, Star_append]
theorem H_ex {α : Sort _} {A : α → Assn} {m : List Assn} {σ : AHeap} : H (ex A :: m) σ ↔ ∃ x, H (A x :: m) σ := by
  constructor
  · rintro ⟨r, h, a, b, j, ⟨x, hx⟩, hb⟩; exact ⟨x, r, h, a, b, j, hx, hb⟩
  · rintro ⟨x, r, h, a, b, j, hx, hb⟩; exact ⟨r, h, a, b, j, ⟨x, hx⟩, hb⟩
theorem H_pure {p : Prop} {m : List Assn} {σ : AHeap} : H (pure' p :: m) σ ↔ p ∧ H m σ := by
  constructor
  · rintro ⟨r, h, a, b, j, ⟨rfl, hp⟩, hb⟩; exact ⟨hp, r, h, by rw [j.emp_eq]; exact hb⟩
  · rintro ⟨hp, r, h, hb⟩; exact ⟨r, h, _, r, Res.Join.emp_left r, ⟨rfl, hp⟩, hb⟩
theorem H_emp {m : List Assn} {σ : AHeap} : H (emp :: m) σ ↔ H m σ := by
  unfold H; simp only [Star, emp_sep]
theorem H_sep {A B : Assn} {m : List Assn} {σ : AHeap} : H (sep A B :: m) σ ↔ H (A :: B :: m) σ := by
  unfold H; simp only [Star, sep_assoc]
theorem H.snoc {A : Assn} {l : List Assn} {σ : AHeap} (h : H (A :: l) σ) : H (l ++ [A]) σ := h.perm (by simpa using List.perm_append_comm (l₁ := [A]) (l₂ := l))
theorem H.unsnoc {A : Assn} {l : List Assn} {σ : AHeap} (h : H (l ++ [A]) σ) : H (A :: l) σ := h.perm (List.perm_append_comm (l₁ := l) (l₂ := [A]))

/-! ### Blocks -/
theorem H.get0 {b : Nat} {o : AObj} {l : List Assn} {σ : AHeap} (h : H (pt b o :: l) σ) : σ.get b = some o ∧ b < σ.size := by
  obtain ⟨r, h, a, c, j, rfl, hc⟩ := h
  exact (h.left j) b true o (by simp)
theorem H.rget0 {b : Nat} {o : AObj} {l : List Assn} {σ : AHeap} (h : H (ro b o :: l) σ) : σ.get b = some o ∧ b < σ.size := by
  obtain ⟨r, h, a, c, j, rfl, hc⟩ := h
  exact (h.left j) b false o (by simp)
theorem H.get {l : List Assn} {σ : AHeap} (h : H l σ) (i : Nat) {b : Nat} {o : AObj} (hi : l[i]? = some (pt b o)) : σ.get b = some o := (h.front i hi).get0.1
theorem H.rget {l : List Assn} {σ : AHeap} (h : H l σ) (i : Nat) {b : Nat} {o : AObj} (hi : l[i]? = some (ro b o)) : σ.get b = some o := (h.front i hi).rget0.1
theorem H.lt {l : List Assn} {σ : AHeap} (h : H l σ) (i : Nat) {b : Nat} {o : AObj} (hi : l[i]? = some (pt b o)) : b < σ.size := (h.front i hi).get0.2

theorem H.set0 {b : Nat} {o : AObj} {l : List Assn} {σ : AHeap} (h : H (pt b o :: l) σ) (o' : AObj) : H (pt b o' :: l) (σ.set b o') := by
  obtain ⟨r, h, a, c, j, rfl, hc⟩ := h
  refine ⟨fun i => if i = b then some (true, o') else r i, ?_, fun i => if i = b then some (true, o') else none, c, ?_, rfl, hc⟩
  · intro i q x hx
    simp only at hx
    rw [AHeap.get_set]
    split at hx
    · rename_i e; subst e; cases hx
      exact ⟨by simp, ((h.left j) i true o (by simp)).2⟩
    · rename_i e
      rw [if_neg e]; exact h i q x hx
  · intro i
    have hj := j i
    by_cases e : i = b
    · subst e
      simp only [if_pos]
      simp only [if_pos] at hj
      rcases hj with ⟨x, _⟩ | ⟨x, _⟩ | ⟨_, x, _⟩
      · cases x
      · exact .inr (.inl ⟨x, rfl⟩)
      · cases x
    · simp only [if_neg e] at hj ⊢
      exact hj
theorem H.set {l : List Assn} {σ : AHeap} (h : H l σ) (i : Nat) {b : Nat} {o : AObj} (hi : l[i]? = some (pt b o)) (o' : AObj) : H (l.set i (pt b o')) (σ.set b o') := H.back i hi ((h.front i hi).set0 o')

theorem H.push {l : List Assn} {σ : AHeap} (h : H l σ) (o : AObj) : H (l ++ [pt σ.size o]) (σ.push o) := by
  refine H.snoc ?_
  obtain ⟨r, h, hl⟩ := h
  have hfree : r σ.size = none := by
    cases hr : r σ.size with
    | none => rfl
    | some x => obtain ⟨q, y⟩ := x; have := (h _ q y hr).2; omega
  refine ⟨fun i => if i = σ.size then some (true, o) else r i, ?_, fun i => if i = σ.size then some (true, o) else none, r, ?_, rfl, hl⟩
  · intro i q x hx
    simp only at hx
    rw [AHeap.get_push]
    split at hx
    · rename_i e; subst e; cases hx; exact ⟨by simp, by simp⟩
    · rename_i e; rw [if_neg e]; exact ⟨(h i q x hx).1, by have := (h i q x hx).2; simp; omega⟩
  · intro i
    by_cases e : i = σ.size
    · subst e; simp [hfree]; exact .inr (.inl ⟨rfl, rfl⟩)
    · simp [e]; exact .inl ⟨rfl, rfl⟩

theorem H.freeze0 {b : Nat} {o : AObj} {l : List Assn} {σ : AHeap} (h : H (pt b o :: l) σ) : H (ro b o :: l) σ := by
  obtain ⟨r, h, a, c, j, rfl, hc⟩ := h
  refine ⟨fun i => if i = b then some (false, o) else r i, ?_, fun i => if i = b then some (false, o) else none, c, ?_, rfl, hc⟩
  · intro i q x hx
    simp only at hx
    split at hx
    · rename_i e; subst e; cases hx; exact (h.left j) i true o (by simp)
    · exact h i q x hx
  · intro i
    have hj := j i
    by_cases e : i = b
    · subst e
      simp only [if_pos]
      simp only [if_pos] at hj
      rcases hj with ⟨x, _⟩ | ⟨x, _⟩ | ⟨_, x, _⟩
      · cases x
      · exact .inr (.inl ⟨x, rfl⟩)
      · cases x
    · simp only [if_neg e] at hj ⊢
      exact hj
theorem H.freeze {l : List Assn} {σ : AHeap} (h : H l σ) (i : Nat) {b : Nat} {o : AObj} (hi : l[i]? = some (pt b o)) : H (l.set i (ro b o)) σ := H.back i hi (h.front i hi).freeze0
theorem ro_dup (b : Nat) (o : AObj) : sep (ro b o) (ro b o) = ro b o := by
  funext r; apply propext
  constructor
  · rintro ⟨a, c, j, rfl, rfl⟩
    funext i
    rcases j i with ⟨x, y⟩ | ⟨x, y⟩ | ⟨o', x, y, z⟩
    · exact y
    · exact y
    · simp only at x z
      split at x
      · cases x; rename_i e; rw [z, if_pos e]
      · cases x
  · rintro rfl
    refine ⟨_, _, fun i => ?_, rfl, rfl⟩
    by_cases e : i = b
    · exact .inr (.inr ⟨o, by simp [e], by simp [e], by simp [e]⟩)
    · exact .inl ⟨by simp [e], rfl⟩
/-- An assertion that can be had twice. -/
def Dup (A : Assn) : Prop := ∀ r, A r → sep A A r
theorem Dup.ro (b : Nat) (o : AObj) : Dup (ro b o) := fun r h => by rw [ro_dup]; exact h
theorem Dup.pure (p : Prop) : Dup (pure' p) := by
  rintro r ⟨rfl, hp⟩; exact ⟨_, _, Res.Join.emp_left _, ⟨rfl, hp⟩, ⟨rfl, hp⟩⟩
theorem Dup.emp : Dup emp := fun r h => by rw [emp_sep]; exact h
theorem Dup.ex {α : Sort _} {A : α → Assn} (h : ∀ x, Dup (A x)) : Dup (ex A) := by
  rintro r ⟨x, hx⟩
  obtain ⟨a, b, j, ha, hb⟩ := h x r hx
  exact ⟨a, b, j, ⟨x, ha⟩, ⟨x, hb⟩⟩
theorem Dup.sep {A B : Assn} (h : Dup A) (k : Dup B) : Dup (sep A B) := by
  rintro r ⟨a, b, j, ha, hb⟩
  have e : Ax.sep (Ax.sep A B) (Ax.sep A B) = Ax.sep (Ax.sep A A) (Ax.sep B B) := by
    rw [sep_assoc, ← sep_assoc B A B, sep_comm B A, sep_assoc A B B, ← sep_assoc]
  rw [e]
  exact ⟨a, b, j, h a ha, k b hb⟩
theorem Dup.star : ∀ {l : List Assn}, (∀ A ∈ l, Dup A) → Dup (Star l)
  | [], _ => Dup.emp
  | A :: l, h => Dup.sep (h A (by simp)) (Dup.star fun B hB => h B (by simp [hB]))
theorem H.dup0 {l : List Assn} {σ : AHeap} {A : Assn} (h : H (A :: l) σ) (hd : Dup A) : H (A :: A :: l) σ := by
  rw [← H_sep]
  obtain ⟨r, h, a, b, j, x, y⟩ := h
  exact ⟨r, h, a, b, j, hd a x, y⟩
theorem H.dup {l : List Assn} {σ : AHeap} (h : H l σ) (i : Nat) {A : Assn} (hi : l[i]? = some A) (hd : Dup A) : H (l ++ [A]) σ := by
  have h1 := h.front i hi
  have h2 : H (A :: A :: l.set i emp) σ := h1.dup0 hd
  have hlt := (List.getElem?_eq_some_iff.1 hi).1
  have hs : l.set i A = l := by
    apply List.ext_getElem?
    intro j
    rw [List.getElem?_set]
    split
    · rename_i e; subst e; exact hi.symm
    · rfl
  obtain ⟨r, g1, g2⟩ := h2
  refine H.snoc ⟨r, g1, ?_⟩
  have : Star (A :: l) = sep A (sep A (Star (l.set i emp))) := by
    show sep A (Star l) = _
    conv => lhs; rw [← hs]
    rw [Star_set l i A hlt]
  rw [this]; exact g2
/-- Two blocks that are owned are two. -/
theorem H.ne2 {l : List Assn} {σ : AHeap} {b c : Nat} {o p : AObj} (h : H (pt b o :: pt c p :: l) σ) : b ≠ c := by
  rintro rfl
  obtain ⟨r, h, a, d, j, rfl, a2, d2, j2, rfl, hd⟩ := h
  have h2 : d b ≠ none := by
    rcases j2 b with ⟨x, y⟩ | ⟨x, y⟩ | ⟨_, _, _, z⟩
    · simp at x
    · rw [y]; simp
    · rw [z]; simp
  rcases j b with ⟨x, _⟩ | ⟨x, _⟩ | ⟨_, x, _⟩
  · simp at x
  · exact h2 x
  · simp at x
end Go.Ax
