/- Regions whose order Go leaves open: what the abstract interpreter comes to in one order, with the reads asked again behind each step that writes, is what the machine comes to in any. No statement of the seat is proved here. -/
import Derived.Test.YtfeamgocomlepaaAx12
namespace Go.Ax
open Go.RowKit

/-! ### What stands before what -/
def befMask (acc : List Nat) (o : Oper) : Nat := o.after.toList.foldl (fun m e => cond (Region.binds .any e) (m ||| 2 ^ e.on ||| acc.getD e.on 0) m) 0
def befs : List Oper → List Nat → List Nat
  | [], acc => acc
  | o :: os, acc => befs os (acc ++ [befMask acc o])

inductive Bef (all : List Oper) : Nat → Nat → Prop where
  | edge (i : Nat) (o : Oper) (e : Edge) : all[i]? = some o → e ∈ o.after.toList → Region.binds .any e = true → Bef all e.on i
  | trans (i j : Nat) (o : Oper) (e : Edge) : all[i]? = some o → e ∈ o.after.toList → Region.binds .any e = true → Bef all j e.on → Bef all j i

theorem foldMask_mem (acc : List Nat) (j : Nat) : ∀ (l : List Edge) (m : Nat), (l.foldl (fun m e => cond (Region.binds .any e) (m ||| 2 ^ e.on ||| acc.getD e.on 0) m) m).testBit j = true →
    m.testBit j = true ∨ ∃ e ∈ l, Region.binds .any e = true ∧ (e.on = j ∨ (acc.getD e.on 0).testBit j = true)
  | [], m, h => .inl h
  | e :: l, m, h => by
    simp only [List.foldl_cons] at h
    rcases foldMask_mem acc j l _ h with h1 | ⟨e', he, hb, hh⟩
    · cases hb : Region.binds .any e with
      | false => rw [hb] at h1; exact .inl h1
      | true =>
        rw [hb] at h1
        simp only [cond_true, Nat.testBit_or, Bool.or_eq_true, Nat.testBit_two_pow, decide_eq_true_eq] at h1
        rcases h1 with (h1 | h1) | h1
        · exact .inl h1
        · exact .inr ⟨e, by simp, hb, .inl h1⟩
        · exact .inr ⟨e, by simp, hb, .inr h1⟩
    · exact .inr ⟨e', by simp [he], hb, hh⟩

theorem befs_sound (all : List Oper) : ∀ (os pre : List Oper) (acc : List Nat), all = pre ++ os → acc.length = pre.length → (∀ (i : Nat) m j, acc[i]? = some m → m.testBit j = true → Bef all j i) →
    ∀ (i : Nat) m j, (befs os acc)[i]? = some m → m.testBit j = true → Bef all j i
  | [], _, acc, _, _, h => h
  | o :: os, pre, acc, he, hl, h => by
    refine befs_sound all os (pre ++ [o]) (acc ++ [befMask acc o]) (by simp [he]) (by simp [hl]) ?_
    intro i m j hi hm
    rw [List.getElem?_append] at hi
    split at hi
    · exact h i m j hi hm
    · rename_i hlt
      have hi0 : i - acc.length = 0 := by
        rcases Nat.eq_zero_or_pos (i - acc.length) with h0 | h0
        · exact h0
        · rw [List.getElem?_eq_none (by simp; omega)] at hi; cases hi
      rw [hi0] at hi
      simp only [List.getElem?_cons_zero, Option.some.injEq] at hi
      subst hi
      have hio : all[i]? = some o := by
        have : i = pre.length := by omega
        rw [he, this]; simp
      rcases foldMask_mem acc j o.after.toList 0 hm with h1 | ⟨e, hmem, hb, hh⟩
      · simp at h1
      · rcases hh with rfl | hh
        · exact .edge i o e hio hmem hb
        · rw [List.getD_eq_getElem?_getD] at hh
          cases hacc : acc[e.on]? with
          | none => rw [hacc] at hh; simp at hh
          | some m' =>
            rw [hacc] at hh
            exact .trans i j o e hio hmem hb (h _ m' j hacc hh)

def isB (b : List Nat) (j i : Nat) : Bool := (b.getD i 0).testBit j

theorem isB_sound {all : List Oper} {j i : Nat} (h : isB (befs all []) j i = true) : Bef all j i := by
  unfold isB at h
  rw [List.getD_eq_getElem?_getD] at h
  cases hi : (befs all [])[i]? with
  | none => rw [hi] at h; simp at h
  | some m => rw [hi] at h; exact befs_sound all all [] [] rfl rfl (fun i m j x => by simp at x) i m j hi h

def Closed (all : List Oper) (S : Nat → Prop) : Prop := ∀ i o, all[i]? = some o → S i → ∀ e ∈ o.after.toList, Region.binds .any e = true → S e.on

theorem Bef.closed {all : List Oper} {S : Nat → Prop} (hc : Closed all S) {j i : Nat} (h : Bef all j i) : (∀ o, all[i]? = some o → ∀ e ∈ o.after.toList, Region.binds .any e = true → S e.on) → S j := by
  induction h with
  | edge i o e ho he hb => exact fun hx => hx o ho e he hb
  | trans i j o e ho he hb _ ih => exact fun hx => ih fun o' ho' => hc e.on o' ho' (hx o ho e he hb)

/-! ### The kinds of operations -/
/-- Only computes. -/
def quietB : Op → Bool
  | .move _ | .assign _ | .pick .. | .build .. | .nilCheck _ | .binOp .. | .unOp .. | .makeInterface .. | .makeFunc .. | .slice .. | .fieldAddr .. | .field .. | .indexAddr .. | .index .. | .extract .. | .typeAssert .. => true
  | .call c => match c.callee with
    | .builtin .min | .builtin .max => true
    | _ => false
  | .buildSlice _ n _ => Nat.beq n 0
  | _ => false
/-- Reads. -/
def readB : Op → Bool
  | .load .. | .convert .. | .lookup .. | .entry .. => true
  | .call c => match c.callee with
    | .builtin .len => true
    | _ => false
  | _ => false

section
variable {P : Program}

theorem bind_some_map {α : Type} (q : Option α) (σ : AHeap) : (q.bind fun v => some (v, σ)) = q.map fun v => (v, σ) := by cases q <;> rfl

theorem aop_quiet (ev : Operand → Value) {o : Oper} (hq : quietB o.op = true) : ∃ q : Option Value, ∀ σ, aop P ev o σ = q.map fun v => (v, σ) := by
  obtain ⟨dst, op, type, pos, after, guard⟩ := o
  cases op <;> simp only [quietB, reduceCtorEq] at hq
  case move x => exact ⟨some (ev x), fun σ => rfl⟩
  case assign x => exact ⟨some (ev x), fun σ => rfl⟩
  case pick c a b => exact ⟨(asB (ev c)).map fun t => cond t (ev a) (ev b), fun σ => by simp only [aop]; cases asB (ev c) <;> rfl⟩
  case build t ps => exact ⟨_, fun σ => by simp only [aop]; exact bind_some_map _ σ⟩
  case buildSlice t n ps =>
    have h0 : n = 0 := Nat.eq_of_beq_eq_true hq
    subst h0
    cases hn : (Nat.beq 0 0 && !ps.toList.isEmpty) with
    | true => exact ⟨none, fun σ => by simp only [aop, hn, cond_true]; rfl⟩
    | false =>
      cases he : elemOf? P t with
      | none => exact ⟨none, fun σ => by simp only [aop, hn, cond_false, aBuildSlice, he]; rfl⟩
      | some x => exact ⟨some (.slice (some ⟨ZB, 0, some 0⟩) 0 0), fun σ => by simp only [aop, hn, cond_false, aBuildSlice, he]; rfl⟩
  case nilCheck x => exact ⟨_, fun σ => by simp only [aop]; exact bind_some_map _ σ⟩
  case binOp op t x y ty => exact ⟨_, fun σ => by simp only [aop]; exact bind_some_map _ σ⟩
  case unOp op t x => exact ⟨_, fun σ => by simp only [aop]; exact bind_some_map _ σ⟩
  case makeInterface t x => exact ⟨_, fun σ => by simp only [aop]; exact bind_some_map _ σ⟩
  case makeFunc fn f c => exact ⟨some (.func fn (f.toList.map ev).toArray (c.toList.map ev).toArray), fun σ => rfl⟩
  case slice t x lo hi mx => exact ⟨_, fun σ => by simp only [aop]; exact bind_some_map _ σ⟩
  case fieldAddr t x f => exact ⟨(fieldOff P t f).bind fun off => aFieldAddr off (ev x), fun σ => by simp only [aop]; cases fieldOff P t f <;> simp [bind_some_map]⟩
  case field t x f => exact ⟨_, fun σ => by simp only [aop]; exact bind_some_map _ σ⟩
  case indexAddr t x i => exact ⟨_, fun σ => by simp only [aop]; exact bind_some_map _ σ⟩
  case index t x i => exact ⟨_, fun σ => by simp only [aop]; exact bind_some_map _ σ⟩
  case extract x i => exact ⟨_, fun σ => by simp only [aop]; exact bind_some_map _ σ⟩
  case typeAssert x xt t ok => exact ⟨_, fun σ => by simp only [aop]; exact bind_some_map _ σ⟩
  case call c =>
    obtain ⟨callee, args, argTypes⟩ := c
    cases callee with
    | builtin b =>
      have hb : ∃ q : Option Value, ∀ σ, aBuiltin P b argTypes.toList (args.toList.map ev) σ = q.map fun v => (v, σ) := by
        generalize argTypes.toList = ts
        generalize args.toList.map ev = l
        cases b <;> simp only [reduceCtorEq] at hq
        case max =>
          match l with
          | [x, y] => exact ⟨_, fun σ => by simp only [aBuiltin]; exact bind_some_map _ σ⟩
          | [] => exact ⟨none, fun σ => rfl⟩
          | [x] => exact ⟨none, fun σ => rfl⟩
          | _ :: _ :: _ :: _ => exact ⟨none, fun σ => rfl⟩
        case min =>
          match l with
          | [x, y] => exact ⟨_, fun σ => by simp only [aBuiltin]; exact bind_some_map _ σ⟩
          | [] => exact ⟨none, fun σ => rfl⟩
          | [x] => exact ⟨none, fun σ => rfl⟩
          | _ :: _ :: _ :: _ => exact ⟨none, fun σ => rfl⟩
      obtain ⟨q, hq'⟩ := hb
      exact ⟨q, fun σ => by simp only [aop]; exact hq' σ⟩
    | _ => simp only [reduceCtorEq] at hq

theorem aop_keep {ev : Operand → Value} {o : Oper} {σ : AHeap} {v : Value} {σ' : AHeap} (hq : (quietB o.op || readB o.op) = true) (h : aop P ev o σ = some (v, σ')) : σ' = σ := by
  rw [Bool.or_eq_true] at hq
  rcases hq with hq | hq
  · obtain ⟨q, hq⟩ := aop_quiet (P := P) ev hq
    rw [hq σ] at h
    simp only [Option.map_eq_some_iff, Prod.mk.injEq] at h
    obtain ⟨u, _, _, rfl⟩ := h
    rfl
  · obtain ⟨dst, op, type, pos, after, guard⟩ := o
    cases op <;> simp only [readB, reduceCtorEq] at hq
    case load t a =>
      simp only [aop, Option.bind_eq_some_iff, Option.some.injEq, Prod.mk.injEq] at h
      obtain ⟨_, _, _, _, _, rfl⟩ := h
      rfl
    case call c =>
      obtain ⟨callee, args, argTypes⟩ := c
      cases callee with
      | builtin b =>
        simp only [aop] at h
        cases b <;> simp only [reduceCtorEq] at hq
        simp only [aBuiltin] at h
        split at h <;> first | cases h | rename_i hc _ | skip
        all_goals first | (exfalso; simp_all; done) | skip
        all_goals simp only [Option.bind_eq_some_iff, Option.some.injEq, Prod.mk.injEq] at h
        all_goals obtain ⟨_, _, _, rfl⟩ := h
        all_goals rfl
      | _ => simp only [reduceCtorEq] at hq
    all_goals simp only [aop, Option.bind_eq_some_iff, Option.some.injEq, Prod.mk.injEq] at h
    all_goals obtain ⟨_, _, _, rfl⟩ := h
    all_goals rfl

theorem aop_pure {ev : Operand → Value} {o : Oper} {σ : AHeap} {v : Value} {σ' : AHeap} (σ2 : AHeap) (hq : quietB o.op = true) (h : aop P ev o σ = some (v, σ')) : aop P ev o σ2 = some (v, σ2) := by
  obtain ⟨q, hq⟩ := aop_quiet (P := P) ev hq
  rw [hq σ] at h
  rw [hq σ2]
  simp only [Option.map_eq_some_iff, Prod.mk.injEq] at h ⊢
  obtain ⟨u, hu, rfl, _⟩ := h
  exact ⟨u, hu, rfl, trivial⟩

theorem veq0_sound {a b : Value} (h : veq0 a b = true) : a = b := by
  unfold veq0 at h
  split at h <;> (try simp only [Bool.and_eq_true, beq_iff_eq, decide_eq_true_eq] at h)
  · rw [h]
  · rw [h.1, h.2]
  · rename_i x y
    have : x.data = y.data := Array.ext' h
    have : x = y := ByteArray.ext this
    rw [this]
  · rw [h]
  · obtain ⟨⟨h1, h2⟩, h3⟩ := h
    rw [h1, Nat.eq_of_beq_eq_true h2, Nat.eq_of_beq_eq_true h3]
  · rw [h]
  · rfl
  · rfl
  · cases h
theorem veq_sound {a b : Value} (h : veq a b = true) : a = b := by
  unfold veq at h
  split at h
  · simp only [Bool.and_eq_true] at h
    rw [Nat.eq_of_beq_eq_true h.1, veq0_sound h.2]
  · exact veq0_sound h
theorem veqs_sound : ∀ {a b : List Value}, veqs a b = true → a = b
  | [], [], _ => rfl
  | x :: l, y :: m, h => by
    simp only [veqs, Bool.and_eq_true] at h
    rw [veq_sound h.1, veqs_sound h.2]
  | [], _ :: _, h => by cases h
  | _ :: _, [], h => by cases h
theorem veq1_sound {a b : Value} (h : veq1 a b = true) : a = b := by
  unfold veq1 at h
  split at h
  · rename_i x y
    have : x = y := Array.ext' (veqs_sound h)
    rw [this]
  · rename_i x y
    have : x = y := Array.ext' (veqs_sound h)
    rw [this]
  · exact veq_sound h

/-! ### The check of a region -/
def looks (all : List Oper) (o : Oper) : List Tmp :=
  (o.op.operands.toList.filterMap fun | .tmp t => some t | _ => none) ++
  (match o.guard with
   | some (g, _) => ((all[g]?).bind (·.dst)).toList
   | none => [])

theorem looks_operand {all : List Oper} {o : Oper} {t : Nat} (h : Operand.tmp t ∈ o.op.operands) : t ∈ looks all o := by
  unfold looks
  refine List.mem_append_left _ (List.mem_filterMap.2 ⟨.tmp t, by simpa using h, rfl⟩)
theorem looks_guard {all : List Oper} {o : Oper} {j t : Nat} {b : Bool} (hg : o.guard = some (j, b)) (ht : (all[j]?).bind (·.dst) = some t) : t ∈ looks all o := by
  unfold looks
  refine List.mem_append_right _ ?_
  rw [hg]
  simp only [ht]
  simp

def floatB (op : Op) : Bool := quietB op || readB op

/-- An operation that stands earlier in the chosen order, and this one. -/
def pairOk (all : List Oper) (b : List Nat) (chk : List Nat) (k i : Nat) (ok o : Oper) : Bool :=
  !(Nat.beq k i) && !(isB b i k) &&
  (match ok.dst, o.dst with | some d, some d' => !(Nat.beq d d') | _, _ => true) &&
  (match ok.dst with | some d => !(looks all o).contains d || isB b k i | none => true) &&
  (match o.dst with | some d => !(looks all ok).contains d || isB b k i | none => true) &&
  (floatB ok.op || isB b k i) &&
  (floatB o.op || !(readB ok.op) || isB b k i || chk.contains k)

/-- A read that is asked again: nothing that stands before it in the order, but what must, wrote what it looks at. -/
def chkOk (all : List Oper) (b : List Nat) (pre : List Nat) (q : Nat) : Bool :=
  match all[q]? with
  | none => false
  | some oq => floatB oq.op && oq.dst.isSome && pre.contains q && pre.all fun k => match all[k]? with
    | some ok => match ok.dst with
      | some d => !(looks all oq).contains d || isB b k q
      | none => true
    | none => false

def dChk (N : Nat) (all : List Oper) (b : List Nat) (pre : List Nat) : List (Nat × List Nat) → Bool
  | [] => true
  | (i, chk) :: post => match all[i]? with
    | none => false
    | some o => dstOk N o && (!(floatB o.op) || (o.dst.isSome && chk.isEmpty)) &&
      pre.all (fun k => match all[k]? with | some ok => pairOk all b chk k i ok o | none => false) &&
      chk.all (chkOk all b (i :: pre)) && chk.all (fun q => !(Nat.beq q i)) && dChk N all b (i :: pre) post

def edgesOk (all : List Oper) : Bool := (List.range all.length).all fun i => match all[i]? with
  | some o => o.after.toList.all fun e => !(Region.binds .any e) || Nat.blt e.on i
  | none => false

def dOk (N : Nat) (all : List Oper) (ord : List (Nat × List Nat)) : Bool :=
  edgesOk all && (List.range all.length).all (fun i => (ord.map (·.1)).contains i) && dChk N all (befs all []) [] ord
end
end Go.Ax
