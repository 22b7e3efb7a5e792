/- The relation between an abstract heap and a machine's world, and how it is kept by reads, stores, new blocks. No statement of the seat is proved here. -/
import Derived.Test.YtfeamgocomlepaaAx1
namespace Go.Ax
open Go.RowKit

structure FzOk (fz : Nat × Nat) (n : Nat) : Prop where
  or : fz.1 = fz.2 ∨ n ≤ fz.1
theorem FzOk.zero (n : Nat) : FzOk (0, 0) n := ⟨.inl rfl⟩
theorem FzOk.at {fz : Nat × Nat} {n : Nat} (h : FzOk fz n) (j : Nat) (hj : j < n) : (decide (fz.1 ≤ j) && decide (j < fz.2)) = false := by
  rcases h.or with h | h
  · rw [h]
    rcases Nat.lt_or_ge j fz.2 with k | k
    · (simp; try omega)
    · (simp; try omega)
  · (simp; try omega)

def ERel (ρ : List RB) (es es' : List MapEntry) : Prop :=
  es.length = es'.length ∧ ∀ (i : Nat) (e e' : MapEntry), es[i]? = some e → es'[i]? = some e' → VR ρ e.key e'.key ∧ VR ρ e.val e'.val ∧ e.born = e'.born ∧ live e.key = true

theorem ERel.mono {ρ ρ' : List RB} (x : Ext ρ ρ') {es es' : List MapEntry} (h : ERel ρ es es') : ERel ρ' es es' :=
  ⟨h.1, fun i e e' a b => let ⟨k, v, c, d⟩ := h.2 i e e' a b; ⟨k.mono x, v.mono x, c, d⟩⟩

def ORel (ρ : List RB) (r : RB) (heap : Array Obj) : AObj → Prop
  | .cells c e opn => ∃ c' fz, heap[r.b]? = some (.cells c' e fz) ∧ FzOk fz c'.size ∧ c'.size = r.n ∧ (opn = false → r.s + c.length = r.n) ∧ r.s + c.length ≤ r.n ∧ LR ρ c ((c'.toList.drop r.s).take c.length)
  | .ro c e => ∃ c' fz, heap[r.b]? = some (.cells c' e fz) ∧ c'.size = r.n ∧ r.s + c.length ≤ r.n ∧ LR ρ c ((c'.toList.drop r.s).take c.length)
  | .map es clock => ∃ es', heap[r.b]? = some (.map es' clock) ∧ ERel ρ es es'.toList
  | .strIter s pos => r.s = 0 ∧ heap[r.b]? = some (.stringIter s pos)
  | .mapIter m since seen stepped => ∃ m', r.s = 0 ∧ heap[r.b]? = some (.mapIter m' since seen.toArray stepped) ∧ VR ρ (.map m) (.map m')
  | .dead => True

theorem ORel.mono {ρ ρ' : List RB} (x : Ext ρ ρ') {r : RB} {h h' : Array Obj} (hh : h'[r.b]? = h[r.b]?) {o : AObj} (k : ORel ρ r h o) : ORel ρ' r h' o := by
  cases o with
  | cells c e opn => obtain ⟨c', fz, a, b, d, f, g, j⟩ := k; exact ⟨c', fz, by rw [hh]; exact a, b, d, f, g, j.mono x⟩
  | ro c e => obtain ⟨c', fz, a, b, d, f⟩ := k; exact ⟨c', fz, by rw [hh]; exact a, b, d, f.mono x⟩
  | map es clock => obtain ⟨es', a, b⟩ := k; exact ⟨es', by rw [hh]; exact a, b.mono x⟩
  | strIter s pos => exact ⟨k.1, by rw [hh]; exact k.2⟩
  | mapIter m since seen stepped => obtain ⟨m', a, b, d⟩ := k; exact ⟨m', a, by rw [hh]; exact b, d.mono x⟩
  | dead => trivial

structure Rel (B : Nat) (w0 : World) (ρ : List RB) (σ : AHeap) (w : World) : Prop where
  len : ρ.length = σ.size
  obj : ∀ i o, σ.get i = some o → ∃ r, ρ[i]? = some r ∧ ORel ρ r w.heap o ∧ (o.writable = true → B ≤ r.b) ∧ (o.writable = false → o ≠ .dead → r.b < B)
  inj : ∀ i j oi oj ri rj, σ.get i = some oi → σ.get j = some oj → oi.writable = true → oj.writable = true → ρ[i]? = some ri → ρ[j]? = some rj → ri.b = rj.b → i = j
  below : Below B w0 w
  base : B ≤ w0.heap.size

theorem Rel.drew {B : Nat} {w0 : World} {ρ : List RB} {σ : AHeap} {w : World} (h : Rel B w0 ρ σ w) : Rel B w0 ρ σ w.drew :=
  ⟨h.len, h.obj, h.inj, h.below.drew, h.base⟩

theorem Rel.hsize {B : Nat} {w0 : World} {ρ : List RB} {σ : AHeap} {w : World} (h : Rel B w0 ρ σ w) : B ≤ w.heap.size := Nat.le_trans h.base h.below.size

/-- One writable block turns: abstractly its object, in the machine its block. -/
theorem Rel.update {B : Nat} {w0 : World} {ρ : List RB} {σ : AHeap} {w w' : World} (h : Rel B w0 ρ σ w) {i : Nat} {o o' : AObj} {r : RB}
    (hi : σ.get i = some o) (hw : o.writable = true) (hw' : o'.writable = true) (hr : ρ[i]? = some r) (ho : ORel ρ r w'.heap o')
    (hoth : ∀ k, k ≠ r.b → w'.heap[k]? = w.heap[k]?) (hos : w'.os = w.os) (ht : w'.tape = w.tape) (hout : w'.output = w.output) (hs : w'.heap.size = w.heap.size) :
    Rel B w0 ρ (σ.set i o') w' := by
  obtain ⟨r0, hr0, _, hB, _⟩ := h.obj i o hi
  rw [hr] at hr0; cases hr0
  have hB := hB hw
  refine ⟨by simpa using h.len, fun j q hj => ?_, fun j k oj ok rj rk hj hk wj wk rj' rk' e => ?_, ?_, h.base⟩
  · rw [AHeap.get_set] at hj
    split at hj
    · rename_i e; subst e; cases hj; exact ⟨r, hr, ho, fun _ => hB, fun x => by rw [hw'] at x; cases x⟩
    · rename_i e
      obtain ⟨rj, a, b, c, d⟩ := h.obj j q hj
      refine ⟨rj, a, ?_, c, d⟩
      by_cases hq : q.writable = true
      · exact b.mono (Ext.refl _) (hoth _ fun x => e (h.inj j i q o rj r hj hi hq hw a hr x))
      · cases q with
        | dead => trivial
        | ro c' e' => exact b.mono (Ext.refl _) (hoth _ fun x => by have := d rfl (by simp); omega)
        | _ => simp [AObj.writable] at hq
  · rw [AHeap.get_set] at hj hk
    have key : ∀ {a : Nat} {q : AObj}, (if a = i then some o' else σ.get a) = some q → ∃ q', σ.get a = some q' ∧ (q.writable = true → q'.writable = true) := by
      intro a q x
      split at x
      · rename_i e; subst e; exact ⟨o, hi, fun _ => hw⟩
      · exact ⟨q, x, id⟩
    obtain ⟨qj, a1, b1⟩ := key hj
    obtain ⟨qk, a2, b2⟩ := key hk
    exact h.inj j k qj qk rj rk a1 a2 (b1 wj) (b2 wk) rj' rk' e
  · refine h.below.trans ⟨hos, ht, hout, by omega, fun k hk => hoth k (by omega)⟩

/-- A new block. -/
theorem Rel.new {B : Nat} {w0 : World} {ρ : List RB} {σ : AHeap} {w : World} (h : Rel B w0 ρ σ w) {o : AObj} {x : Obj} {n : Nat}
    (hw : o.writable = true) (ho : ∀ r : RB, r = ⟨w.heap.size, 0, n⟩ → ORel (ρ ++ [r]) r (w.alloc x).heap o) :
    Rel B w0 (ρ ++ [⟨w.heap.size, 0, n⟩]) (σ.push o) (w.alloc x) ∧ Ext ρ (ρ ++ [⟨w.heap.size, 0, n⟩]) ∧ (ρ ++ [⟨w.heap.size, 0, n⟩])[σ.size]? = some ⟨w.heap.size, 0, n⟩ := by
  have hext := Ext.append ρ [⟨w.heap.size, 0, n⟩]
  have hnew : (ρ ++ [(⟨w.heap.size, 0, n⟩ : RB)])[σ.size]? = some ⟨w.heap.size, 0, n⟩ := by rw [← h.len]; simp
  have hold : ∀ k, k < w.heap.size → (w.alloc x).heap[k]? = w.heap[k]? := fun k hk => Below.heap_alloc _ _ _ hk
  have hlt : ∀ i q r, σ.get i = some q → q.writable = true → ρ[i]? = some r → r.b < w.heap.size := by
    intro i q r hi hq hr
    obtain ⟨r0, a, b, _, _⟩ := h.obj i q hi
    rw [hr] at a; cases a
    have : w.heap[r.b]? ≠ none := by
      cases q with
      | cells c e opn => obtain ⟨c', fz, y, _⟩ := b; rw [y]; simp
      | map es cl => obtain ⟨es', y, _⟩ := b; rw [y]; simp
      | strIter s p => rw [b.2]; simp
      | mapIter m s1 s2 s3 => obtain ⟨m', _, y, _⟩ := b; rw [y]; simp
      | ro c e => simp [AObj.writable] at hq
      | dead => simp [AObj.writable] at hq
    rcases Nat.lt_or_ge r.b w.heap.size with k | k
    · exact k
    · exact absurd (Array.getElem?_eq_none k) this
  refine ⟨⟨by simp [h.len], fun i q hi => ?_, fun i j oi oj ri rj hi hj wi wj ri' rj' e => ?_, h.below.alloc h.hsize _, h.base⟩, hext, hnew⟩
  · rw [AHeap.get_push] at hi
    split at hi
    · rename_i e; subst e; cases hi
      exact ⟨_, hnew, ho _ rfl, fun _ => h.hsize, fun y => by rw [hw] at y; cases y⟩
    · obtain ⟨r, a, b, c, d⟩ := h.obj i q hi
      refine ⟨r, hext _ _ a, ?_, c, d⟩
      by_cases hq : q.writable = true
      · exact b.mono hext (hold _ (hlt i q r hi hq a))
      · cases q with
        | dead => trivial
        | ro c' e' => exact b.mono hext (hold _ (by have := d rfl (by simp); have := h.hsize; omega))
        | _ => simp [AObj.writable] at hq
  · rw [AHeap.get_push] at hi hj
    have old : ∀ {a : Nat} {q : AObj} {r : RB}, σ.get a = some q → (ρ ++ [(⟨w.heap.size, 0, n⟩ : RB)])[a]? = some r → ρ[a]? = some r := by
      intro a q r y z
      obtain ⟨r0, y', _⟩ := h.obj a q y
      rw [hext _ _ y'] at z; cases z; exact y'
    split at hi <;> split at hj
    · omega
    · rename_i e1 e2; subst e1; cases hi
      rw [hnew] at ri'; cases ri'
      have := hlt j oj rj hj wj (old hj rj')
      simp at e; omega
    · rename_i e1 e2; subst e2; cases hj
      rw [hnew] at rj'; cases rj'
      have := hlt i oi ri hi wi (old hi ri')
      simp at e; omega
    · exact h.inj i j oi oj ri rj hi hj wi wj (old hi ri') (old hj rj') e

/-- A new block of the machine's that no abstract block stands for. -/
theorem Rel.garbage {B : Nat} {w0 : World} {ρ : List RB} {σ : AHeap} {w : World} (h : Rel B w0 ρ σ w) (x : Obj) : Rel B w0 ρ σ (w.alloc x) := by
  have hold : ∀ k, k < w.heap.size → (w.alloc x).heap[k]? = w.heap[k]? := fun k hk => Below.heap_alloc _ _ _ hk
  refine ⟨h.len, fun i q hi => ?_, h.inj, h.below.alloc h.hsize _, h.base⟩
  obtain ⟨r, a, b, c, d⟩ := h.obj i q hi
  refine ⟨r, a, ?_, c, d⟩
  have hlt : q ≠ .dead → r.b < w.heap.size := by
    intro hd
    have : w.heap[r.b]? ≠ none := by
      cases q with
      | cells c e opn => obtain ⟨c', fz, y, _⟩ := b; rw [y]; simp
      | map es cl => obtain ⟨es', y, _⟩ := b; rw [y]; simp
      | strIter s p => rw [b.2]; simp
      | mapIter m s1 s2 s3 => obtain ⟨m', _, y, _⟩ := b; rw [y]; simp
      | ro c e => obtain ⟨c', fz, y, _⟩ := b; rw [y]; simp
      | dead => exact absurd rfl hd
    rcases Nat.lt_or_ge r.b w.heap.size with k | k
    · exact k
    · exact absurd (Array.getElem?_eq_none k) this
  cases q with
  | dead => trivial
  | _ => exact b.mono (Ext.refl _) (hold _ (hlt (by simp)))

/-- A block is given up. -/
theorem Rel.kill {B : Nat} {w0 : World} {ρ : List RB} {σ : AHeap} {w : World} (h : Rel B w0 ρ σ w) (i : Nat) (hi : σ.get i ≠ none) : Rel B w0 ρ (σ.set i .dead) w := by
  refine ⟨by simpa using h.len, fun j q hj => ?_, fun j k oj ok rj rk hj hk wj wk rj' rk' e => ?_, h.below, h.base⟩
  · rw [AHeap.get_set] at hj
    split at hj
    · rename_i e; subst e; cases hj
      cases hx : σ.get j with
      | none => exact absurd hx hi
      | some q => obtain ⟨r, a, _⟩ := h.obj j q hx; exact ⟨r, a, trivial, fun y => by simp [AObj.writable] at y, fun _ y => absurd rfl y⟩
    · exact h.obj j q hj
  · rw [AHeap.get_set] at hj hk
    split at hj
    · cases hj; simp [AObj.writable] at wj
    · split at hk
      · cases hk; simp [AObj.writable] at wk
      · exact h.inj j k oj ok rj rk hj hk wj wk rj' rk' e

/-- A block is given up, and its cells come back as a new block over the same machine block. -/
theorem Rel.rebirth {B : Nat} {w0 : World} {ρ : List RB} {σ : AHeap} {w w' : World} (h : Rel B w0 ρ σ w) {i : Nat} {o o' : AObj} {r r2 : RB}
    (hi : σ.get i = some o) (hw : o.writable = true) (hw' : o'.writable = true) (hr : ρ[i]? = some r) (hb : r2.b = r.b) (ho : ORel (ρ ++ [r2]) r2 w'.heap o')
    (hoth : ∀ k, k ≠ r.b → w'.heap[k]? = w.heap[k]?) (hos : w'.os = w.os) (ht : w'.tape = w.tape) (hout : w'.output = w.output) (hs : w'.heap.size = w.heap.size) :
    Rel B w0 (ρ ++ [r2]) ((σ.set i .dead).push o') w' ∧ Ext ρ (ρ ++ [r2]) ∧ (ρ ++ [r2])[σ.size]? = some r2 := by
  have hext := Ext.append ρ [r2]
  have hnew : (ρ ++ [r2])[σ.size]? = some r2 := by rw [← h.len]; simp
  obtain ⟨r0, hr0, _, hB, _⟩ := h.obj i o hi
  rw [hr] at hr0; cases hr0
  have hB := hB hw
  have hlt : ∀ {j q}, σ.get j = some q → j < σ.size := by
    intro j q hj
    obtain ⟨x, hx, _⟩ := h.obj j q hj
    have := (List.getElem?_eq_some_iff.1 hx).1
    rw [h.len] at this; exact this
  have key : ∀ {j q}, ((σ.set i .dead).push o').get j = some q → (j = σ.size ∧ q = o') ∨ (j = i ∧ q = .dead) ∨ (j ≠ i ∧ σ.get j = some q) := by
    intro j q hj
    rw [AHeap.get_push] at hj
    split at hj
    · exact .inl ⟨by assumption, by cases hj; rfl⟩
    · rw [AHeap.get_set] at hj
      split at hj
      · exact .inr (.inl ⟨by assumption, by cases hj; rfl⟩)
      · exact .inr (.inr ⟨by assumption, hj⟩)
  have old : ∀ {a : Nat} {q : AObj} {x : RB}, σ.get a = some q → (ρ ++ [r2])[a]? = some x → ρ[a]? = some x := by
    intro a q x y z
    obtain ⟨r0, y', _⟩ := h.obj a q y
    rw [hext _ _ y'] at z; cases z; exact y'
  refine ⟨⟨by simp [h.len], fun j q hj => ?_, fun j k oj ok rj rk hj hk wj wk rj' rk' e => ?_, ?_, h.base⟩, hext, hnew⟩
  · rcases key hj with ⟨rfl, rfl⟩ | ⟨rfl, rfl⟩ | ⟨hne, hj⟩
    · exact ⟨r2, hnew, ho, fun _ => by omega, fun y => by rw [hw'] at y; cases y⟩
    · exact ⟨r, hext _ _ hr, trivial, fun y => by simp [AObj.writable] at y, fun _ y => absurd rfl y⟩
    · obtain ⟨rj, a, b, c, d⟩ := h.obj j q hj
      refine ⟨rj, hext _ _ a, ?_, c, d⟩
      by_cases hq : q.writable = true
      · exact b.mono hext (hoth _ fun x => hne (h.inj j i q o rj r hj hi hq hw a hr x))
      · cases q with
        | dead => trivial
        | ro c' e' => exact b.mono hext (hoth _ fun x => by have := d rfl (by simp); omega)
        | _ => simp [AObj.writable] at hq
  · rcases key hj with ⟨rfl, rfl⟩ | ⟨rfl, rfl⟩ | ⟨hne, hj2⟩ <;> rcases key hk with ⟨rfl, rfl⟩ | ⟨rfl, rfl⟩ | ⟨hne2, hk2⟩
    · rfl
    · simp [AObj.writable] at wk
    · rw [hnew] at rj'; cases rj'
      exact absurd (h.inj k i ok o rk r hk2 hi wk hw (old hk2 rk') hr (by rw [← e, hb])) hne2
    · simp [AObj.writable] at wj
    · simp [AObj.writable] at wj
    · simp [AObj.writable] at wj
    · rw [hnew] at rk'; cases rk'
      exact absurd (h.inj j i oj o rj r hj2 hi wj hw (old hj2 rj') hr (by rw [e, hb])) hne
    · simp [AObj.writable] at wk
    · exact h.inj j k oj ok rj rk hj2 hk2 wj wk (old hj2 rj') (old hk2 rk') e
  · exact h.below.trans ⟨hos, ht, hout, by omega, fun k hk => hoth k (by omega)⟩

/-! ### Cells -/
def AHeap.row (σ : AHeap) (b : Nat) : Option (List Value) :=
  match σ.get b with
  | some (.cells c _ _) => some c
  | some (.ro c _) => some c
  | _ => none

theorem Rel.read {B : Nat} {w0 : World} {ρ : List RB} {σ : AHeap} {w : World} (h : Rel B w0 ρ σ w) {b : Nat} {c : List Value} {r : RB}
    (hc : σ.row b = some c) (hr : ρ[b]? = some r) : ∃ c', LR ρ c c' ∧ ∀ (j : Nat) v, c'[j]? = some v → w.cell? ⟨r.b, r.s + j, none⟩ = some v := by
  unfold AHeap.row at hc
  have key : ∀ (c' : Array Value) (e : TypeId) (fz : Nat × Nat) (n : Nat), w.heap[r.b]? = some (.cells c' e fz) → ∀ (j : Nat) v, ((c'.toList.drop r.s).take n)[j]? = some v → w.cell? ⟨r.b, r.s + j, none⟩ = some v := by
    intro c' e fz n hh j v hv
    rw [List.getElem?_take] at hv
    split at hv
    · simp at hv; simp [World.cell?, hh, hv]
    · cases hv
  split at hc
  · rename_i c0 e opn hg; cases hc
    obtain ⟨r0, a, ⟨c', fz, x1, x2, x4, x5, x6, x7⟩, _⟩ := h.obj b _ hg
    rw [hr] at a; cases a
    exact ⟨_, x7, key c' e fz _ x1⟩
  · rename_i c0 e hg; cases hc
    obtain ⟨r0, a, ⟨c', fz, x1, x2, x3, x4⟩, _⟩ := h.obj b _ hg
    rw [hr] at a; cases a
    exact ⟨_, x4, key c' e fz _ x1⟩
  · cases hc

def splice (c : List Value) (o : Nat) (l : List Value) : List Value := c.take o ++ l ++ c.drop (o + l.length)

theorem splice_length (c : List Value) (o : Nat) (l : List Value) (h : o + l.length ≤ c.length) : (splice c o l).length = c.length := by
  simp [splice]; omega

section
variable {P : Program}

theorem run_storeCells_fz (g o : Nat) (t : TypeId) (fz : Nat × Nat) : ∀ (vs : List Value) (i : Nat) (cur : Array Value) (w : World), w.heap[g]? = some (.cells cur t fz) → FzOk fz cur.size → o + i + vs.length ≤ cur.size → (∀ v ∈ vs, v.oneCell' = true) →
    (storeCells ⟨g, o, none⟩ vs i).run P w = .ok () (w.setRow g (cur.toList.take (o + i) ++ vs ++ cur.toList.drop (o + i + vs.length)).toArray)
  | [], i, cur, w, hg, _, _, _ => by
    simp only [storeCells, List.append_nil, List.length_nil, Nat.add_zero, List.take_append_drop, Array.toArray_toList]
    rw [setRow_self w g cur t fz hg]
    rfl
  | v :: rest, i, cur, w, hg, hf, hl, h1 => by
    have hi : o + i < cur.size := by simp at hl; omega
    have hadd : (⟨g, o, none⟩ : Addr).add i = ⟨g, o + i, none⟩ := by unfold Addr.add; split <;> simp_all
    have hcell : w.cell? ⟨g, o + i, none⟩ = some cur[o + i] := by simp [World.cell?, hg, hi]
    have hfro : w.frozen? ⟨g, o + i, none⟩ = false := by obtain ⟨lo, hi'⟩ := fz; simpa [World.frozen?, hg] using hf.at (o + i) hi
    have hst : (store ((⟨g, o, none⟩ : Addr).add i) v).run P w = .ok () (w.setRow g (cur.setIfInBounds (o + i) v)) := by
      rw [hadd, run_store P w _ v _ (h1 v (by simp)), hcell]
      simp [hfro, setCell_eq_setRow w g (o + i) cur t fz v hg]
    have ih := run_storeCells_fz g o t fz rest (i + 1) (cur.setIfInBounds (o + i) v) (w.setRow g (cur.setIfInBounds (o + i) v)) (setRow_heap w g cur _ t _ hg) (by simpa using hf) (by simp at hl ⊢; omega) (fun x hx => h1 x (by simp [hx]))
    simp only [storeCells, Sem.run_bind, hst, Result.andThen_ok, ih, setRow_setRow]
    congr 3
    have hs := list_seg_step cur.toList (o + i) v rest (by simp at hl ⊢; omega)
    simp only [Array.toList_setIfInBounds, List.length_cons] at *
    rw [show o + (i + 1) = o + i + 1 by omega]
    exact hs
end

theorem list_splice_drop (c' l' : List Value) (s n o m : Nat) (hm : l'.length = m) (ho : o + m ≤ n) (hn : s + n ≤ c'.length) :
    ((c'.take (s + o) ++ l' ++ c'.drop (s + o + m)).drop s).take n = splice ((c'.drop s).take n) o l' := by
  subst hm
  apply List.ext_getElem?
  intro j
  simp only [splice, List.getElem?_take, List.getElem?_drop, List.getElem?_append, List.length_take, List.length_append, List.length_drop]
  by_cases h1 : j < n
  · rw [if_pos h1]
    by_cases h2 : j < o
    · rw [if_pos (by omega), if_pos (by omega), if_pos (by omega), if_pos (by omega), if_pos (by omega), if_pos (by omega), if_pos (by omega)]
    · by_cases h3 : j < o + l'.length
      · rw [if_pos (by omega), if_neg (by omega), if_pos (by omega), if_neg (by omega)]
        congr 1; omega
      · rw [if_neg (by omega), if_neg (by omega), if_pos (by omega)]
        congr 1; omega
  · rw [if_neg h1]
    split
    · rename_i h2; split
      · rename_i h3; simp <;> omega
      · rename_i h3; simp <;> omega
    · rename_i h2; rw [if_neg (by omega)]

theorem LR.splice {ρ : List RB} {c c' l l' : List Value} (h : LR ρ c c') (k : LR ρ l l') (o : Nat) : LR ρ (splice c o l) (splice c' o l') := by
  unfold Ax.splice
  rw [← k.1]
  exact (h.take o |>.append k).append (h.drop _)

/-- Cells of a writable block are stored. -/
theorem Rel.write {P : Program} {B : Nat} {w0 : World} {ρ : List RB} {σ : AHeap} {w : World} (h : Rel B w0 ρ σ w) {b o : Nat} {c l l' : List Value} {e : TypeId} {opn : Bool} {r : RB}
    (hg : σ.get b = some (.cells c e opn)) (hr : ρ[b]? = some r) (hl : LR ρ l l') (h1 : ∀ v ∈ l', v.oneCell' = true) (ho : o + l.length ≤ c.length) :
    ∃ w', (storeCells ⟨r.b, r.s + o, none⟩ l' 0).run P w = .ok () w' ∧ Rel B w0 ρ (σ.set b (.cells (splice c o l) e opn)) w' ∧ w'.heap.size = w.heap.size := by
  obtain ⟨r0, a, ⟨c', fz, x1, x2, x4, x5, x5', x7⟩, _⟩ := h.obj b _ hg
  rw [hr] at a; cases a
  have hll := hl.1
  have hs : c'.toList.length = r.n := by simpa using x4
  refine ⟨_, run_storeCells_fz r.b (r.s + o) e fz l' 0 c' w x1 x2 (by rw [x4]; omega) h1, ?_, by simp [World.setRow]⟩
  refine h.update hg rfl rfl hr ⟨_, fz, setRow_heap w r.b c' _ e fz x1, ?_, ?_, ?_, ?_, ?_⟩ (fun k hk => setRow_other _ _ _ _ hk) rfl rfl rfl (by simp [World.setRow])
  · have : (c'.toList.take (r.s + o + 0) ++ l' ++ c'.toList.drop (r.s + o + 0 + l'.length)).toArray.size = c'.size := by simp; omega
    rw [this]; exact x2
  · simp; omega
  · intro hh; rw [splice_length _ _ _ ho]; exact x5 hh
  · rw [splice_length _ _ _ ho]; exact x5'
  · rw [splice_length _ _ _ ho]
    have := list_splice_drop c'.toList l' r.s c.length o l'.length rfl (by omega) (by omega)
    simp only [Nat.add_zero]
    rw [this]
    exact x7.splice hl o

end Go.Ax
