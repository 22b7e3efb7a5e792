/- The calculus of weakest preconditions: regions, code, functions; it is sound. No statement of the seat is proved here. -/
import Derived.Test.YtfeamgocomlepaaAw1
namespace Go.Ax
open Go.RowKit

abbrev FK := Fr → AHeap → Prop

/-! ### Curried states of loops -/
def Cur : List Nat → Type
  | [] => AHeap → Prop
  | _ :: L => Value → Cur L
def Cur.at : (L : List Nat) → Cur L → List Value → AHeap → Prop
  | [], p, [], σ => p σ
  | _ :: L, p, v :: vs, σ => Cur.at L (p v) vs σ
  | [], _, _ :: _, _ => False
  | _ :: _, _, [], _ => False
/-- For all values of the slots. -/
def AllC : (L : List Nat) → (List Value → Prop) → Prop
  | [], p => p []
  | _ :: L, p => ∀ v, AllC L fun vs => p (v :: vs)
theorem AllC.at : ∀ (L : List Nat) (p : List Value → Prop), AllC L p → ∀ vs, vs.length = L.length → p vs
  | [], p, h, vs, hl => by
    have : vs = [] := List.length_eq_zero_iff.1 hl
    subst this; exact h
  | _ :: L, p, h, [], hl => by simp at hl
  | _ :: L, p, h, v :: vs, hl => AllC.at L (fun vs => p (v :: vs)) (h v) vs (by simpa using hl)
theorem Cur.at_len : ∀ (L : List Nat) (p : Cur L) (vs : List Value) (σ : AHeap), Cur.at L p vs σ → vs.length = L.length
  | [], p, [], σ, _ => rfl
  | _ :: L, p, v :: vs, σ, h => by simp [Cur.at_len L (p v) vs σ h]
  | [], _, _ :: _, _, h => h.elim
  | _ :: _, _, [], _, h => h.elim

section
variable (P : Program) (E : EvT)

def wone (o : Oper) (k : FK) : FK := fun fr σ => wval P E (fev fr) o σ fun v σ' => k (fput fr o.dst v) σ'

/-- What is known of the guard that was met last: the guard, the slot it hangs on, whether its operations are done. -/
abbrev GM := Option ((Nat × Bool) × Nat × Bool)
def gmAfter (md : GM) (o : Oper) : GM :=
  match md with
  | some (g, t, b) => match o.dst with
    | some d => cond (Nat.beq d t) none (some (g, t, b))
    | none => some (g, t, b)
  | none => none
/-- Is the guard the one that was met last? Then: are its operations done? -/
def gmIs (md : GM) (j : Nat) (want : Bool) : Option Bool :=
  match md with
  | some ((j', want'), _, b) => cond (Nat.beq j j' && (want == want')) (some b) none
  | none => none
def wguard (all : List Oper) (o : Oper) (md : GM) (yes no : GM → FK) : FK := fun fr σ =>
  match o.guard with
  | none => yes none fr σ
  | some (j, want) => match gmIs md j want with
    | some true => yes (gmAfter md o) fr σ
    | some false => no (gmAfter md o) fr σ
    | none => match (all[j]?).bind (·.dst) with
      | some t => wG (fget fr t)
          (cond want (yes (gmAfter (some ((j, want), t, true)) o) (fr.set t (.bool true)) σ) (no (gmAfter (some ((j, want), t, false)) o) (fr.set t (.bool true)) σ))
          (cond want (no (gmAfter (some ((j, want), t, false)) o) (fr.set t (.bool false)) σ) (yes (gmAfter (some ((j, want), t, true)) o) (fr.set t (.bool false)) σ))
          (no (gmAfter (some ((j, want), t, false)) o) fr σ)
      | none => False
def wops (all : List Oper) : List Oper → GM → FK → FK
  | [], _, kn => kn
  | o :: os, md, kn => wguard all o md (fun md => wone P E o (wops all os md kn)) fun md fr σ => wops all os md kn (fput fr o.dst skipV) σ
def wnx (o : Oper) (p : Prop) : Prop :=
  match o.op with
  | .next _ false => False
  | _ => p
/-- Reads asked again: the guards' outcomes stand in the frame. -/
def wre (all : List Oper) : List Nat → FK → FK
  | [], k => k
  | q :: qs, k => fun fr σ => match all[q]? with
    | none => False
    | some o => wguard all o none (fun _ fr σ => match o.dst with
      | some d => wnx o (wval P (fun _ _ _ _ => False) (fev fr) o σ fun v _ => veq1 v (fget fr d) = true ∧ wre all qs k fr σ)
      | none => False) (fun _ => wre all qs k) fr σ
def gmChk (chk : List Nat) (md : GM) : GM :=
  match chk with
  | [] => md
  | _ => none
def wdops (all : List Oper) : List (Nat × List Nat) → GM → FK → FK
  | [], _, kn => kn
  | (i, chk) :: os, md, kn => fun fr σ => match all[i]? with
    | none => False
    | some o => wguard all o md (fun md => wone P E o (wre P all chk (wdops all os (gmChk chk md) kn))) (fun md fr σ => wdops all os md kn (fput fr o.dst skipV) σ) fr σ

def wpc : AC → FK → (Nat → FK) → FK → FK
  | .skip, kn, _, _ => kn
  | .region _ ops, kn, _, _ => wops P E ops ops none kn
  | .dregion _ ops ord, kn, _, _ => wdops P E ops ord none kn
  | .seq a b, kn, ke, kr => wpc a (wpc b kn ke kr) ke kr
  | .cond c a b, kn, ke, kr => fun fr σ => wC (fev fr c) (wpc a kn ke kr fr σ) (wpc b kn ke kr fr σ)
  | .block id b, kn, ke, kr => wpc b kn (fun i fr σ => cond (Nat.beq i id) (kn fr σ) (ke i fr σ)) kr
  | .loop L Lx b, _, ke, kr => fun fr σ => ∃ I : Nat → Cur L, (∃ m, Cur.at L (I m) (fpick L fr) σ) ∧
      ∀ m, AllC L fun vs => ∀ σ, Cur.at L (I m) vs σ → wpc b (fun fr σ => ∃ m' < m, Cur.at L (I m') (fpick L fr) σ) (fun i fr σ => ke i (fmake Lx (fpick Lx fr)) σ) (fun fr σ => kr (fmake Lx (fpick Lx fr)) σ) (fmake L vs) σ
  | .exit i, _, ke, _ => ke i
  | .ret, _, _, kr => kr
  | .other _, _, _, _ => fun _ _ => False
  | .join L b, kn, ke, kr => wpc b (fun fr σ => kn (fmake L (fpick L fr)) σ) (fun i fr σ => ke i (fmake L (fpick L fr)) σ) (fun fr σ => kr (fmake L (fpick L fr)) σ)
end

theorem pu_iff {α : Type} {o : Option α} {k : α → Prop} : pu o k ↔ ∃ v, o = some v ∧ k v := Iff.rfl

section
variable {P : Program} {F : FuncId → Option AFun} {X : FuncId → Option (List Value → AHeap → ND (Value × AHeap))}

theorem wval_aop {E : EvT} {ev : Operand → Value} {o : Oper} {σ : AHeap} {K : WK} (hc : ∀ c, o.op = .call c → ∃ b, c.callee = .builtin b) (hn : ∀ it, o.op ≠ .next it false) (h : wval P E ev o σ K) :
    ∃ r, aop P ev o σ = some r ∧ K r.1 r.2 := by
  obtain ⟨dst, op, type, pos, after, guard⟩ := o
  have hone : ∀ {r : Value × AHeap}, aop P ev ⟨dst, op, type, pos, after, guard⟩ σ = some r → K r.1 r.2 → (∀ c, op ≠ .call c) → (∀ it, op ≠ .next it false) →
      ∃ r, aop P ev ⟨dst, op, type, pos, after, guard⟩ σ = some r ∧ K r.1 r.2 := fun {r} hr hk _ _ => ⟨r, hr, hk⟩
  cases op with
  | move x => exact hone (r := (ev x, σ)) rfl h (by simp) (by simp)
  | assign x => exact hone (r := (ev x, σ)) rfl h (by simp) (by simp)
  | pick c a b =>
    simp only [wval, wB] at h
    split at h
    · rename_i t h1
      exact hone (r := (cond t (ev a) (ev b), σ)) (by simp [aop, h1]) h (by simp) (by simp)
    · exact h.elim
  | alloc e =>
    simp only [wval] at h
    split at h
    · rename_i z hz
      exact hone (r := aNew e z.cells.toList σ) (by simp [aop, hz]) h (by simp) (by simp)
    · exact h.elim
  | box e x =>
    simp only [wval] at h
    cases hl : live (ev x) with
    | false => rw [hl] at h; exact h.elim
    | true => rw [hl] at h; exact hone (r := aNew e (ev x).cells.toList σ) (by simp [aop, aBox, hl]) h (by simp) (by simp)
  | build t ps =>
    obtain ⟨v, h1, h2⟩ := wBuild_sound h
    exact hone (r := (v, σ)) (by simp only [aop, h1, Option.bind_some]) h2 (by simp) (by simp)
  | buildSlice t n ps =>
    obtain ⟨h0, v, h1, h2⟩ := wBuildS_sound h
    have h0 : (Nat.beq n 0 && !ps.toList.isEmpty) = false := by simpa using h0
    exact hone (r := v) (by simp only [aop, h0, cond_false, h1]) h2 (by simp) (by simp)
  | load t a =>
    simp only [wval] at h
    split at h
    · rename_i g n hs
      obtain ⟨v, h1, h2⟩ := h
      exact hone (r := (v, σ)) (by simp only [aop, hs, h1, Option.bind_some]) h2 (by simp) (by simp)
    · exact h.elim
  | store t a x =>
    simp only [wval] at h
    split at h
    · rename_i g n hs
      obtain ⟨v, h1, h2⟩ := h
      exact hone (r := (undef, v)) (by simp only [aop, hs, h1, Option.bind_some]) h2 (by simp) (by simp)
    · exact h.elim
  | nilCheck x =>
    obtain ⟨v, h1, h2⟩ := h
    exact hone (r := (v, σ)) (by simp only [aop, h1, Option.bind_some]) h2 (by simp) (by simp)
  | binOp op t x y ty =>
    obtain ⟨v, h1, h2⟩ := wBin_sound h
    exact hone (r := (v, σ)) (by simp only [aop, h1, Option.bind_some]) h2 (by simp) (by simp)
  | unOp op t x =>
    obtain ⟨v, h1, h2⟩ := h
    exact hone (r := (v, σ)) (by simp only [aop, h1, Option.bind_some]) h2 (by simp) (by simp)
  | convert s d x =>
    obtain ⟨v, h1, h2⟩ := wConv_sound h
    exact hone (r := (v, σ)) (by simp only [aop, h1, Option.bind_some]) h2 (by simp) (by simp)
  | makeInterface t x =>
    obtain ⟨v, h1, h2⟩ := h
    exact hone (r := (v, σ)) (by simp only [aop, h1, Option.bind_some]) h2 (by simp) (by simp)
  | makeFunc fn f c => exact hone (r := (_, σ)) rfl h (by simp) (by simp)
  | makeSlice t l c =>
    simp only [wval] at h
    split at h
    · rename_i e z by' he
      split at h
      · rename_i zv hz
        obtain ⟨v, h1, h2⟩ := h
        exact hone (r := v) (by simp only [aop, he, hz, h1]) h2 (by simp) (by simp)
      · exact h.elim
    · exact h.elim
  | slice t x lo hi mx =>
    obtain ⟨v, h1, h2⟩ := wSlice_sound h
    exact hone (r := (v, σ)) (by simp only [aop, h1, Option.bind_some]) h2 (by simp) (by simp)
  | fieldAddr t x f =>
    simp only [wval] at h
    split at h
    · rename_i off ho
      obtain ⟨v, h1, h2⟩ := h
      exact hone (r := (v, σ)) (by simp only [aop, ho, h1, Option.bind_some]) h2 (by simp) (by simp)
    · exact h.elim
  | field t x f =>
    obtain ⟨v, h1, h2⟩ := wField_sound h
    exact hone (r := (v, σ)) (by simp only [aop, h1, Option.bind_some]) h2 (by simp) (by simp)
  | indexAddr t x i =>
    obtain ⟨v, h1, h2⟩ := wIdxA_sound h
    exact hone (r := (v, σ)) (by simp only [aop, h1, Option.bind_some]) h2 (by simp) (by simp)
  | index t x i =>
    obtain ⟨v, h1, h2⟩ := wIdx_sound h
    exact hone (r := (v, σ)) (by simp only [aop, h1, Option.bind_some]) h2 (by simp) (by simp)
  | extract x i =>
    obtain ⟨v, h1, h2⟩ := h
    exact hone (r := (v, σ)) (by simp only [aop, h1, Option.bind_some]) h2 (by simp) (by simp)
  | makeMap t r =>
    obtain ⟨v, h1, h2⟩ := h
    exact hone (r := v) (by simp only [aop, h1]) h2 (by simp) (by simp)
  | lookup t x i ok =>
    obtain ⟨v, h1, h2⟩ := h
    exact hone (r := (v, σ)) (by simp only [aop, h1, Option.bind_some]) h2 (by simp) (by simp)
  | mapUpdate t m k x =>
    obtain ⟨v, h1, h2⟩ := h
    exact hone (r := (undef, v)) (by simp only [aop, h1, Option.bind_some]) h2 (by simp) (by simp)
  | range t x =>
    obtain ⟨v, h1, h2⟩ := h
    exact hone (r := v) (by simp only [aop, h1]) h2 (by simp) (by simp)
  | next it str =>
    cases str with
    | true =>
      obtain ⟨v, h1, h2⟩ := h
      exact hone (r := v) (by simp only [aop, cond_true, h1]) h2 (by simp) (by simp)
    | false => exact absurd rfl (hn it)
  | entry it =>
    obtain ⟨v, h1, h2⟩ := h
    exact hone (r := (v, σ)) (by simp only [aop, h1, Option.bind_some]) h2 (by simp) (by simp)
  | typeAssert x xt t ok =>
    obtain ⟨v, h1, h2⟩ := h
    exact hone (r := (v, σ)) (by simp only [aop, h1, Option.bind_some]) h2 (by simp) (by simp)
  | call c =>
    obtain ⟨b, hb⟩ := hc c rfl
    simp only [wval, hb] at h
    obtain ⟨r, h1, h2⟩ := wBuiltin_sound h
    exact ⟨r, by simp only [aop, hb, h1], h2⟩
  | _ => exact h.elim

theorem wval_sound {ev : Operand → Value} {o : Oper} {σ : AHeap} {K : WK} (h : wval P (Ev P F X) ev o σ K) :
    Fin' (fun n => aval P (acall0 P F X n) ev o σ) fun r => K r.1 r.2 := by
  by_cases hcall : ∃ c, o.op = .call c ∧ ∀ b, c.callee ≠ .builtin b
  · obtain ⟨c, ho, hnb⟩ := hcall
    simp only [wval, ho] at h
    split at h
    · rename_i b hb; exact absurd hb (hnb b)
    · rename_i f hb
      unfold wF at h
      split at h
      · rename_i g first captured hv
        refine Fin'.congr h fun n => ?_
        simp only [aval, ho, hb, hv]
      · exact h.elim
    · rename_i r name hb
      obtain ⟨p, h1, h2⟩ := h
      refine Fin'.congr h2 fun n => ?_
      simp only [aval, ho, hb, h1]
  · by_cases hnext : ∃ it, o.op = .next it false
    · obtain ⟨it, ho⟩ := hnext
      simp only [wval, ho] at h
      obtain ⟨L, h1, h2⟩ := h
      refine (Fin'.const (L := L) (R := fun r => K r.1 r.2) h2).congr fun n => ?_
      simp only [aval, ho, h1]
    · have hb : ∀ c, o.op = .call c → ∃ b, c.callee = .builtin b := fun c hc => by
        refine Classical.byContradiction fun hno => hcall ⟨c, hc, fun b hb => hno ⟨b, hb⟩⟩
      obtain ⟨r, h1, h2⟩ := wval_aop hb (fun it hi => hnext ⟨it, hi⟩) h
      refine (Fin'.one (x := r) h2).congr fun n => ?_
      unfold aval
      split
      · rename_i c hc
        obtain ⟨b, hb⟩ := hb c hc
        simp only [hb, h1]
      · rename_i it hi; exact absurd ⟨it, hi⟩ hnext
      · simp only [h1]

/-- A continuation is met, from some fuel on. -/
def Met' {β : Type} (Q : FK) (k : Nat → K β) (R : β → Prop) : Prop := ∀ fr σ, Q fr σ → Fin' (fun n => k n fr σ) R

variable {β : Type} {R : β → Prop}

theorem wone_sound {o : Oper} {k : FK} {kn : Nat → K β} (hk : Met' k kn R) : Met' (wone P (Ev P F X) o k) (fun n => aone P (acall0 P F X n) o (kn n)) R := by
  intro fr σ h
  exact Fin'.bind (wval_sound h) fun r hr => hk _ _ hr

/-- What is known of a guard is so in the frame. -/
def GOk (all : List Oper) (md : GM) (fr : Fr) : Prop :=
  match md with
  | none => True
  | some ((j, want), t, b) => (all[j]?).bind (·.dst) = some t ∧
      ((b = true ∧ fr.get t = some (.bool want)) ∨ (b = false ∧ (fr.get t = some (.bool (!want)) ∨ (asB (fget fr t) = none ∧ isSkip (fget fr t) = true))))

theorem Tr.setF_self {α : Type} (x : α) : ∀ (f : Nat) (t : Tr α) (n : Nat), n < f → t.get n = some x → Tr.setF x f t n = t := by
  intro f
  induction f with
  | zero => intro t n h; omega
  | succ f ih =>
    intro t n h hg
    cases t with
    | leaf => rw [Tr.get_leaf] at hg; cases hg
    | node l v r =>
      cases n with
      | zero =>
        have hv : v = some x := hg
        subst hv
        rfl
      | succ n =>
        have hd : Nat.div n 2 < f := by show n / 2 < f; omega
        rw [Tr.get_succ] at hg
        simp only [Tr.setF, Tr.left_node, Tr.right_node] at hg ⊢
        cases hb : Nat.beq (Nat.mod n 2) 0 with
        | true => rw [hb] at hg; simp only [cond_true] at hg ⊢; rw [ih l _ hd hg]; rfl
        | false => rw [hb] at hg; simp only [cond_false] at hg ⊢; rw [ih r _ hd hg]; rfl
theorem Tr.set_self {α : Type} {t : Tr α} {n : Nat} {x : α} (h : t.get n = some x) : t.set n x = t := Tr.setF_self x _ t n (Nat.lt_succ_self n) h

theorem fget_of {fr : Fr} {t : Nat} {v : Value} (h : fr.get t = some v) : fget fr t = v := by unfold fget; rw [h]

theorem GOk.after {all : List Oper} {md : GM} {fr : Fr} (h : GOk all md fr) (o : Oper) (v : Value) : GOk all (gmAfter md o) (fput fr o.dst v) := by
  unfold gmAfter
  rcases md with _ | ⟨⟨j, want⟩, t, b⟩
  · trivial
  · cases hd : o.dst with
    | none => exact h
    | some d =>
      simp only
      cases hb : Nat.beq d t with
      | true => trivial
      | false =>
        have hne : ¬ t = d := fun e => by subst e; simp at hb
        obtain ⟨h1, h2⟩ := h
        refine ⟨h1, ?_⟩
        simp only [fput, Tr.get_set, fget_set, if_neg hne]
        exact h2

/-- Guards: the continuations are met where what is known of the guard is so. -/
def MetG {β : Type} (all : List Oper) (Q : GM → FK) (k : Nat → K β) (o : Oper) (v : Bool) (R : β → Prop) : Prop :=
  ∀ md fr σ, GOk all md fr → Q (gmAfter md o) fr σ → v = true → Fin' (fun n => k n fr σ) R

theorem asB_bool {v : Value} {b : Bool} (h : asB v = some b) : v = .bool b := by
  unfold asB at h; split at h
  · cases h; rfl
  · cases h

theorem wguard_sound {all : List Oper} {o : Oper} {md : GM} {y n : GM → FK} {ky kn : Nat → K β} {fr : Fr} {σ : AHeap} (hg : GOk all md fr)
    (hy : ∀ md fr, GOk all md fr → y (gmAfter md o) fr σ → Fin' (fun n => ky n fr σ) R) (hy0 : ∀ fr, y none fr σ → Fin' (fun n => ky n fr σ) R)
    (hn : ∀ md fr, GOk all md fr → n (gmAfter md o) fr σ → Fin' (fun n => kn n fr σ) R) (h : wguard all o md y n fr σ) :
    Fin' (fun m => aguard all o (ky m) (kn m) fr σ) R := by
  unfold wguard at h
  unfold aguard
  split at h
  · rename_i ho
    simp only [ho]
    exact hy0 _ h
  · rename_i j want ho
    simp only [ho]
    split at h
    · rename_i hm
      unfold gmIs at hm
      split at hm
      · rename_i j' want' t b
        cases hc : (Nat.beq j j' && (want == want')) with
        | false => rw [hc] at hm; cases hm
        | true =>
          rw [hc] at hm
          simp only [cond_true, Option.some.injEq] at hm
          subst hm
          simp only [Bool.and_eq_true, beq_iff_eq] at hc
          have hj := Nat.eq_of_beq_eq_true hc.1
          have hw := hc.2
          subst hj; subst hw
          have hg0 := hg
          obtain ⟨h1, h2⟩ := hg
          rcases h2 with ⟨_, h2⟩ | ⟨h2, _⟩
          · simp only [h1, fget_of h2, asB]
            cases want with
            | true => simp only [cond_true]; rw [Tr.set_self h2]; exact hy _ _ hg0 h
            | false => simp only [cond_false]; rw [Tr.set_self h2]; exact hy _ _ hg0 h
          · cases h2
      · cases hm
    · rename_i hm
      unfold gmIs at hm
      split at hm
      · rename_i j' want' t b
        cases hc : (Nat.beq j j' && (want == want')) with
        | false => rw [hc] at hm; cases hm
        | true =>
          rw [hc] at hm
          simp only [cond_true, Option.some.injEq] at hm
          subst hm
          simp only [Bool.and_eq_true, beq_iff_eq] at hc
          have hj := Nat.eq_of_beq_eq_true hc.1
          have hw := hc.2
          subst hj; subst hw
          have hg0 := hg
          obtain ⟨h1, h2⟩ := hg
          rcases h2 with ⟨h2, _⟩ | ⟨_, h2 | ⟨h2, h3⟩⟩
          · cases h2
          · simp only [h1, fget_of h2, asB]
            cases want with
            | true => simp only [Bool.not_true, cond_true]; rw [Tr.set_self (x := Value.bool false) h2]; exact hn _ _ hg0 h
            | false => simp only [Bool.not_false, cond_false]; rw [Tr.set_self (x := Value.bool true) h2]; exact hn _ _ hg0 h
          · simp only [h1, h2, h3, cond_true]
            exact hn _ _ hg0 h
      · cases hm
    · split at h
      · rename_i t ht
        simp only [ht]
        unfold wG at h
        have hset : ∀ b : Bool, (fr.set t (.bool b)).get t = some (.bool b) := fun b => by rw [Tr.get_set, if_pos rfl]
        split at h
        · rename_i hb
          simp only [hb]
          cases want with
          | true => exact hy (some ((j, true), t, true)) _ ⟨ht, .inl ⟨rfl, hset true⟩⟩ h
          | false => exact hn (some ((j, false), t, false)) _ ⟨ht, .inr ⟨rfl, .inl (hset true)⟩⟩ h
        · rename_i hb
          simp only [hb]
          cases want with
          | true => exact hn (some ((j, true), t, false)) _ ⟨ht, .inr ⟨rfl, .inl (hset false)⟩⟩ h
          | false => exact hy (some ((j, false), t, true)) _ ⟨ht, .inl ⟨rfl, hset false⟩⟩ h
        · rename_i hb
          simp only [hb, h.1, cond_true]
          exact hn (some ((j, want), t, false)) _ ⟨ht, .inr ⟨rfl, .inr ⟨hb, h.1⟩⟩⟩ h.2
      · exact h.elim

theorem wops_sound {all : List Oper} {k : FK} {kn : Nat → K β} (hk : Met' k kn R) : ∀ (os : List Oper) (md : GM) (fr : Fr) (σ : AHeap), GOk all md fr → wops P (Ev P F X) all os md k fr σ →
    Fin' (fun n => aops P (acall0 P F X n) all os (kn n) fr σ) R
  | [], _, fr, σ, _, h => hk _ _ h
  | o :: os, md, fr, σ, hg, h => by
    refine wguard_sound (ky := fun n => aone P (acall0 P F X n) o (aops P (acall0 P F X n) all os (kn n))) (kn := fun n fr σ => aops P (acall0 P F X n) all os (kn n) (fput fr o.dst skipV) σ) hg ?_ ?_ ?_ h
    · intro md fr hg h
      exact Fin'.bind (wval_sound h) fun r hr => wops_sound hk os _ _ _ (hg.after o r.1) hr
    · intro fr h
      exact Fin'.bind (wval_sound h) fun r hr => wops_sound hk os none _ _ trivial hr
    · intro md fr hg h
      exact wops_sound hk os _ _ _ (hg.after o skipV) h

theorem wre_sound {all : List Oper} {k : FK} {kn : Nat → K β} (hk : ∀ fr σ, k fr σ → Fin' (fun n => kn n fr σ) R) : ∀ (qs : List Nat) (fr : Fr) (σ : AHeap), wre P all qs k fr σ →
    Fin' (fun n => arecheck P all qs (kn n) fr σ) R
  | [], fr, σ, h => hk _ _ h
  | q :: qs, fr, σ, h => by
    simp only [wre] at h
    split at h
    · exact h.elim
    · rename_i o ho
      have hyes : ∀ fr, (match o.dst with
          | some d => wnx o (wval P (fun _ _ _ _ => False) (fev fr) o σ fun v _ => veq1 v (fget fr d) = true ∧ wre P all qs k fr σ)
          | none => False) → Fin' (fun n => match aop P (fev fr) o σ, o.dst with
          | some (v, _), some d => cond (veq1 v (fget fr d)) (arecheck P all qs (kn n) fr σ) none
          | _, _ => none) R := by
        intro fr h
        split at h
        · rename_i d hd
          have hn : ∀ it, o.op ≠ .next it false := fun it hi => by simp only [wnx, hi] at h
          have h : wval P (fun _ _ _ _ => False) (fev fr) o σ fun v _ => veq1 v (fget fr d) = true ∧ wre P all qs k fr σ := by
            unfold wnx at h
            split at h
            · exact h.elim
            · exact h
          have hb : ∀ c, o.op = .call c → ∃ b, c.callee = .builtin b := fun c hc => by
            simp only [wval, hc] at h
            split at h
            · exact ⟨_, ‹_›⟩
            · unfold wF at h; split at h <;> exact h.elim
            · obtain ⟨_, _, h⟩ := h; exact h.elim
          obtain ⟨r, h1, h2, h3⟩ := wval_aop hb hn h
          refine (wre_sound hk qs fr σ h3).congr fun n => ?_
          simp only [h1, hd, h2, cond_true]
        · exact h.elim
      refine (wguard_sound (md := none) (ky := fun n fr σ => match aop P (fev fr) o σ, o.dst with
        | some (v, _), some d => cond (veq1 v (fget fr d)) (arecheck P all qs (kn n) fr σ) none
        | _, _ => none) (kn := fun n => arecheck P all qs (kn n)) trivial ?_ ?_ ?_ h).congr fun n => ?_
      · intro md fr _ h; exact hyes fr h
      · intro fr h; exact hyes fr h
      · intro md fr _ h; exact wre_sound hk qs fr σ h
      · simp only [arecheck, ho]; rfl

theorem wdops_sound {all : List Oper} {k : FK} {kn : Nat → K β} (hk : Met' k kn R) : ∀ (os : List (Nat × List Nat)) (md : GM) (fr : Fr) (σ : AHeap), GOk all md fr → wdops P (Ev P F X) all os md k fr σ →
    Fin' (fun n => adops P (acall0 P F X n) all os (kn n) fr σ) R
  | [], _, fr, σ, _, h => hk _ _ h
  | (i, chk) :: os, md, fr, σ, hg, h => by
    simp only [wdops] at h
    split at h
    · exact h.elim
    · rename_i o ho
      have hyes : ∀ md fr, GOk all md fr → wone P (Ev P F X) o (wre P all chk (wdops P (Ev P F X) all os (gmChk chk (gmAfter md o)) k)) fr σ →
          Fin' (fun n => aone P (acall0 P F X n) o (arecheck P all chk (adops P (acall0 P F X n) all os (kn n))) fr σ) R := by
        intro md fr hg h
        refine Fin'.bind (wval_sound h) fun r hr => ?_
        cases chk with
        | nil => exact wdops_sound hk os _ _ _ (hg.after o r.1) hr
        | cons c chk => exact wre_sound (fun fr σ h => wdops_sound hk os none _ _ trivial h) _ _ _ hr
      refine (wguard_sound (ky := fun n => aone P (acall0 P F X n) o (arecheck P all chk (adops P (acall0 P F X n) all os (kn n)))) (kn := fun n fr σ => adops P (acall0 P F X n) all os (kn n) (fput fr o.dst skipV) σ) hg hyes ?_ ?_ h).congr fun n => ?_
      · intro fr h; exact hyes none fr trivial (by cases chk <;> exact h)
      · intro md fr hg h; exact wdops_sound hk os _ _ _ (hg.after o skipV) h
      · simp only [adops, ho]

theorem wpc_sound : ∀ (c : AC) {β : Type} {R : β → Prop} {qn : FK} {qe : Nat → FK} {qr : FK} {kn : Nat → K β} {ke : Nat → Nat → K β} {kr : Nat → K β},
    Met' qn kn R → (∀ i, Met' (qe i) (fun n => ke n i) R) → Met' qr kr R → Met' (wpc P (Ev P F X) c qn qe qr) (fun n => acode P (acall0 P F X n) n c (kn n) (ke n) (kr n)) R := by
  intro c
  induction c with
  | skip => intro β R qn qe qr kn ke kr hn he hr; exact hn
  | region id ops => intro β R qn qe qr kn ke kr hn he hr fr σ h; exact wops_sound hn ops none fr σ trivial h
  | dregion id ops ord => intro β R qn qe qr kn ke kr hn he hr fr σ h; exact wdops_sound hn ord none fr σ trivial h
  | seq a b iha ihb => intro β R qn qe qr kn ke kr hn he hr; exact iha (ihb hn he hr) he hr
  | cond c a b iha ihb =>
    intro β R qn qe qr kn ke kr hn he hr fr σ h
    simp only [wpc] at h
    unfold wC at h
    split at h
    · rename_i hb; refine (iha hn he hr _ _ h).congr fun n => ?_; simp only [acode, hb]
    · rename_i hb; refine (ihb hn he hr _ _ h).congr fun n => ?_; simp only [acode, hb]
    · exact h.elim
  | block id b ih =>
    intro β R qn qe qr kn ke kr hn he hr
    refine ih (ke := fun n i fr σ => cond (Nat.beq i id) (kn n fr σ) (ke n i fr σ)) hn (fun i fr σ h => ?_) hr
    have h : cond (Nat.beq i id) (qn fr σ) (qe i fr σ) := h
    cases hb : Nat.beq i id with
    | true => rw [hb] at h; refine (hn _ _ h).congr fun n => ?_; simp only [hb, cond_true]
    | false => rw [hb] at h; refine (he i _ _ h).congr fun n => ?_; simp only [hb, cond_false]
  | exit i => intro β R qn qe qr kn ke kr hn he hr; exact he i
  | ret => intro β R qn qe qr kn ke kr hn he hr; exact hr
  | other c => intro β R qn qe qr kn ke kr hn he hr fr σ h; exact h.elim
  | join L b ih =>
    intro β R qn qe qr kn ke kr hn he hr fr σ h
    simp only [wpc] at h
    have hS := ih (β := JR) (R := fun r => match r with
      | (.norm, vs, σ) => qn (fmake L vs) σ
      | (.exit i, vs, σ) => qe i (fmake L vs) σ
      | (.ret, vs, σ) => qr (fmake L vs) σ)
      (kn := fun _ fr σ => some [(.norm, fpick L fr, σ)]) (ke := fun _ i fr σ => some [(.exit i, fpick L fr, σ)]) (kr := fun _ fr σ => some [(.ret, fpick L fr, σ)])
      (fun fr σ h => Fin'.one h) (fun i fr σ h => Fin'.one h) (fun fr σ h => Fin'.one h) fr σ h
    refine (Fin'.bind hS (k := fun n r => match r with
      | (.norm, vs, σ) => kn n (fmake L vs) σ
      | (.exit i, vs, σ) => ke n i (fmake L vs) σ
      | (.ret, vs, σ) => kr n (fmake L vs) σ) fun r hr' => ?_).congr fun n => ?_
    · obtain ⟨t, vs, σ2⟩ := r
      cases t with
      | norm => exact hn _ _ hr'
      | exit i => exact he i _ _ hr'
      | ret => exact hr _ _ hr'
    · rfl
  | loop L Lx b ih =>
    intro β R qn qe qr kn ke kr hn he hr fr σ h
    simp only [wpc] at h
    obtain ⟨I, ⟨m0, h0⟩, hI⟩ := h
    -- the loop comes to one of its ends
    have key : ∀ m d vs σ, Cur.at L (I m) vs σ → Fin' (fun n => aloop (β := JR) L (fun k => acode P (acall0 P F X n) n b k (fun i fr σ => some [(.exit i, fpick Lx fr, σ)]) (fun fr σ => some [(.ret, fpick Lx fr, σ)])) (n - d) vs σ)
        fun r => match r with
          | (.norm, _, _) => False
          | (.exit i, vs, σ) => qe i (fmake Lx vs) σ
          | (.ret, vs, σ) => qr (fmake Lx vs) σ := by
      intro m
      induction m using Nat.strongRecOn with
      | ind m ihm =>
        intro d vs σ hv
        have hb := AllC.at L _ (hI m) vs (Cur.at_len _ _ _ _ hv) σ hv
        have hS := ih (β := JR) (R := fun r => match r with
          | (.norm, _, _) => False
          | (.exit i, vs, σ) => qe i (fmake Lx vs) σ
          | (.ret, vs, σ) => qr (fmake Lx vs) σ)
          (kn := fun n fr σ => aloop (β := JR) L (fun k => acode P (acall0 P F X n) n b k (fun i fr σ => some [(.exit i, fpick Lx fr, σ)]) (fun fr σ => some [(.ret, fpick Lx fr, σ)])) (n - (d + 1)) (fpick L fr) σ)
          (ke := fun _ i fr σ => some [(.exit i, fpick Lx fr, σ)]) (kr := fun _ fr σ => some [(.ret, fpick Lx fr, σ)])
          (fun fr σ h => by obtain ⟨m', hm, hat⟩ := h; exact ihm m' hm (d + 1) _ _ hat) (fun i fr σ h => Fin'.one h) (fun fr σ h => Fin'.one h) _ _ hb
        obtain ⟨N, Lo, e, r⟩ := hS
        refine ⟨max N (d + 1), Lo, fun n hn => ?_, r⟩
        have e := e n (by omega)
        obtain ⟨c, hc⟩ : ∃ c, n - d = c + 1 := ⟨n - d - 1, by omega⟩
        have hc2 : n - (d + 1) = c := by omega
        simp only [hc2] at e
        simp only [hc, aloop]
        exact e
    have hS := key m0 0 _ _ h0
    refine (Fin'.bind hS (k := fun n r => match r with
      | (.exit i, vs, σ) => ke n i (fmake Lx vs) σ
      | (.ret, vs, σ) => kr n (fmake Lx vs) σ
      | (.norm, _, _) => none) fun r hr' => ?_).congr fun n => ?_
    · obtain ⟨t, vs, σ2⟩ := r
      cases t with
      | norm => exact hr'.elim
      | exit i => exact he i _ _ hr'
      | ret => exact hr _ _ hr'
    · simp only [acode, Nat.sub_zero]; rfl

/-! ### Functions -/
def wRes (P : Program) : List ResultVar → Fr → AHeap → (List Value → Prop) → Prop
  | [], _, _, k => k []
  | .tmp t :: l, fr, σ, k => wRes P l fr σ fun vs => k (fget fr t :: vs)
  | .cell a t :: l, fr, σ, k => match shp P t with
    | some (g, n) => pu (aLoad g n (fget fr a) σ) fun v => wRes P l fr σ fun vs => k (v :: vs)
    | none => False
def tup : List Value → Value
  | [v] => v
  | l => .tuple l.toArray

theorem wRes_sound : ∀ (l : List ResultVar) {fr : Fr} {σ : AHeap} {k : List Value → Prop}, wRes P l fr σ k → ∃ vs, aresults P fr σ l = some vs ∧ k vs
  | [], fr, σ, k, h => ⟨[], rfl, h⟩
  | .tmp t :: l, fr, σ, k, h => by
    obtain ⟨vs, h1, h2⟩ := wRes_sound l h
    exact ⟨_, by simp [aresults, h1], h2⟩
  | .cell a t :: l, fr, σ, k, h => by
    simp only [wRes] at h
    split at h
    · rename_i g n hs
      obtain ⟨v, hv, h⟩ := h
      obtain ⟨vs, h1, h2⟩ := wRes_sound l h
      exact ⟨_, by simp [aresults, hs, hv, h1], h2⟩
    · exact h.elim

/-- What is asked at a function's end. -/
def wret (P : Program) (res : List ResultVar) (Q : WK) : FK := fun fr σ => wRes P res fr σ fun vs => Q (tup vs) σ

theorem wret_sound {res : List ResultVar} {Q : WK} : Met' (wret P res Q) (fun _ => aret P res) fun r => Q r.1 r.2 := by
  intro fr σ h
  obtain ⟨vs, h1, h2⟩ := wRes_sound res h
  refine (Fin'.one (x := (tup vs, σ)) h2).congr fun n => ?_
  show aret P res fr σ = _
  unfold aret
  rw [h1]
  rcases vs with _ | ⟨v, _ | ⟨v2, vs⟩⟩ <;> rfl

/-- What is asked of a function's body. -/
def wfun (P : Program) (E : EvT) (F : FuncId → Option AFun) (f : FuncId) (args : List Value) (σ : AHeap) (Q : WK) : Prop :=
  match F f with
  | some af => cond (Nat.beq args.length af.params) (wpc P E af.body (wret P af.res Q) (fun _ _ _ => False) (wret P af.res Q) (fmake (List.range af.params) args) σ) False
  | none => False

theorem Ev.of {f : FuncId} {args : List Value} {σ : AHeap} {Q : WK} (hx : (X f).isNone = true) (h : wfun P (Ev P F X) F f args σ Q) : Ev P F X f args σ Q := by
  unfold wfun at h
  split at h
  · rename_i af hF
    cases hb : Nat.beq args.length af.params with
    | false => rw [hb] at h; exact h.elim
    | true =>
      rw [hb] at h
      obtain ⟨N, L, h1, h2⟩ := wpc_sound af.body (kn := fun _ => aret P af.res) (ke := fun _ _ _ _ => none) (kr := fun _ => aret P af.res) wret_sound (fun i fr σ h => h.elim) wret_sound _ _ h
      refine ⟨N + 1, L, fun n hn => ?_, h2⟩
      obtain ⟨c, rfl⟩ : ∃ c, n = c + 1 := ⟨n - 1, by omega⟩
      have hx : X f = none := by simpa using hx
      simp only [acall0, hx, hF, hb, cond_true]
      exact h1 c (by omega)
  · exact h.elim

/-- A function that is given by what it comes to. -/
theorem Ev.ext {f : FuncId} {args : List Value} {σ : AHeap} {Q : WK} {x : List Value → AHeap → ND (Value × AHeap)} (hx : X f = some x) {L : List (Value × AHeap)} (h : x args σ = some L) (hq : ∀ r ∈ L, Q r.1 r.2) : Ev P F X f args σ Q := by
  refine ⟨1, L, fun n hn => ?_, hq⟩
  obtain ⟨c, rfl⟩ : ∃ c, n = c + 1 := ⟨n - 1, by omega⟩
  simp only [acall0, hx, h]

theorem Ev.run {f : FuncId} {args : List Value} {σ : AHeap} {Q : WK} (h : Ev P F X f args σ Q) : ∃ n L, acall0 P F X n f args σ = some L ∧ ∀ r ∈ L, Q r.1 r.2 :=
  let ⟨N, L, h1, h2⟩ := h; ⟨N, L, h1 N (Nat.le_refl _), h2⟩
end
end Go.Ax
