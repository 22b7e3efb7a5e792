/- Maps, iterators, assertions: the abstract operations, and that the machine's meet them. No statement of the seat is proved here. -/
import Derived.Test.YtfeamgocomlepaaAx9
namespace Go.Ax
open Go.RowKit

def keyD : TypeDesc → Bool
  | .int _ | .string => true
  | _ => false

def keyV : Value → Bool
  | .int _ _ | .string _ => true
  | _ => false

def aFind (d : TypeDesc) (k : Value) (es : List MapEntry) : Option (Option (Nat × Value)) := cond (keyD d) (Instr.findNow d k es 0) none

/-- A map type's key and element. -/
def mapOf? (P : Program) (t : TypeId) : Option (TypeDesc × TypeId) :=
  match P.underlying t with
  | some (.map k e) => match P.underlying k with
    | some d => some (d, e)
    | none => none
  | _ => none

def aEntries (m : Value) (σ : AHeap) : Option (List MapEntry) :=
  match m with
  | .map none => some []
  | .map (some r) => match σ.get r with
    | some (.map es _) => some es
    | _ => none
  | _ => none

def okV (ok : Bool) (v : Value) (b : Bool) : Value := cond ok (.tuple #[v, .bool b]) v

def aLookup (P : Program) (t : TypeId) (m k : Value) (ok : Bool) (σ : AHeap) : Option Value :=
  match mapOf? P t with
  | some (d, e) => match zeroOf P e with
    | some z => (aEntries m σ).bind fun es => (aFind d k es).bind fun r => match r with
      | some (_, v) => some (okV ok v true)
      | none => some (okV ok z false)
    | none => none
  | none => none

def aMapUpdate (P : Program) (t : TypeId) (m k v : Value) (σ : AHeap) : Option AHeap :=
  match mapOf? P t, m with
  | some (d, _), .map (some r) => match σ.get r with
    | some (.map es clock) => cond (keyV k) ((aFind d k es).bind fun f => match f with
      | some (i, _) => some (σ.set r (.map (es.modify i fun e => { e with key := k, val := v }) clock))
      | none => some (σ.set r (.map (es ++ [{ key := k, val := v, born := clock }]) (clock + 1)))) none
    | _ => none
  | _, _ => none

def aDelete (P : Program) (t : TypeId) (m k : Value) (σ : AHeap) : Option AHeap :=
  match mapOf? P t, m with
  | some (d, _), .map none => cond (keyD d) (some σ) none
  | some (d, _), .map (some r) => match σ.get r with
    | some (.map es clock) => (aFind d k es).bind fun f => match f with
      | some (i, _) => some (σ.set r (.map (es.eraseIdx i) clock))
      | none => some (σ.set r (.map es clock))
    | _ => none
  | _, _ => none

section
variable {P : Program} {B : Nat} {w0 : World} {ρ : List RB} {σ : AHeap} {w : World}

theorem run_getObj {r : Nat} {o : Obj} (h : w.heap[r]? = some o) (hn : ∀ c e fz, o ≠ .cells c e fz) : (getObj r).run P w = .ok o w := by
  unfold getObj Sem.run
  rw [h]
  cases o <;> first | rfl | exact absurd rfl (hn _ _ _)

theorem run_setObj {r : Nat} {o o' : Obj} (h : w.heap[r]? = some o) (hn : ∀ c e fz, o ≠ .cells c e fz) : (setObj r o').run P w = .ok () { w with heap := w.heap.setIfInBounds r o' } := by
  unfold setObj Sem.run
  rw [h]
  cases o <;> first | rfl | exact absurd rfl (hn _ _ _)

theorem mapOf_inv {t : TypeId} {d : TypeDesc} {e : TypeId} (h : mapOf? P t = some (d, e)) : ∃ k, P.underlying t = some (.map k e) ∧ P.underlying k = some d := by
  unfold mapOf? at h
  split at h
  · rename_i k e' ht
    split at h
    · rename_i d' hk; cases h; exact ⟨k, ht, hk⟩
    · cases h
  · cases h

theorem run_checkKey {k : TypeId} {d : TypeDesc} (hd : P.underlying k = some d) (hk : keyD d = true) (b : Bool) (v : Value) : (Instr.checkKey b 10000 k v).run P w = .ok () w := by
  show (Instr.checkKey b (9999 + 1) k v).run P w = .ok () w
  unfold Instr.checkKey
  cases d <;> simp [keyD] at hk <;> simp [run_underlying hd]

theorem sameNow_rel {d : TypeDesc} (hk : keyD d = true) {a a' b b' : Value} (ha : VR ρ a a') (hb : VR ρ b b') {r : Bool} (h : Instr.sameNow d a b = some r) : Instr.sameNow d a' b' = some r := by
  unfold Instr.sameNow at h
  split at h
  · rw [ha.int_inv, hb.int_inv]; exact h
  · rw [ha.string_inv, hb.string_inv]; exact h
  · simp [keyD] at hk
  · cases h

theorem findNow_rel {d : TypeDesc} (hk : keyD d = true) {k k' : Value} (hkk : VR ρ k k') : ∀ (es es' : List MapEntry) (i : Nat) (r : Option (Nat × Value)), ERel ρ es es' → Instr.findNow d k es i = some r →
    ∃ r', Instr.findNow d k' es' i = some r' ∧ ((r = none ∧ r' = none) ∨ ∃ j v v', r = some (j, v) ∧ r' = some (j, v') ∧ VR ρ v v')
  | [], es', i, r, he, h => by
    have : es' = [] := List.length_eq_zero_iff.1 he.1.symm
    subst this
    simp [Instr.findNow] at h; subst h
    exact ⟨none, rfl, .inl ⟨rfl, rfl⟩⟩
  | e :: es, es', i, r, he, h => by
    cases es' with
    | nil => have := he.1; simp at this
    | cons e' es' =>
      obtain ⟨h1, h2, _, _⟩ := he.2 0 e e' rfl rfl
      have ht : ERel ρ es es' := ⟨by have := he.1; simpa using this, fun j a b ha hb => he.2 (j + 1) a b (by simpa using ha) (by simpa using hb)⟩
      unfold Instr.findNow at h ⊢
      split at h
      · rename_i hs
        cases h
        rw [sameNow_rel hk hkk h1 hs]
        exact ⟨_, rfl, .inr ⟨i, e.val, e'.val, rfl, rfl, h2⟩⟩
      · rename_i hs
        rw [sameNow_rel hk hkk h1 hs]
        exact findNow_rel hk hkk es es' (i + 1) r ht h
      · cases h

theorem findNow_at {d : TypeDesc} {k : Value} : ∀ (es : List MapEntry) (i j : Nat) (v : Value), Instr.findNow d k es i = some (some (j, v)) → i ≤ j ∧ ∃ e, es[j - i]? = some e ∧ Instr.sameNow d k e.key = some true ∧ e.val = v
  | [], i, j, v, h => by simp [Instr.findNow] at h
  | e :: es, i, j, v, h => by
    unfold Instr.findNow at h
    split at h
    · rename_i hs
      simp only [Option.some.injEq, Prod.mk.injEq] at h
      obtain ⟨rfl, rfl⟩ := h
      exact ⟨Nat.le_refl _, e, by simp, hs, rfl⟩
    · obtain ⟨h1, e', h2, h3, h4⟩ := findNow_at es (i + 1) j v h
      refine ⟨by omega, e', ?_, h3, h4⟩
      rw [show j - i = (j - (i + 1)) + 1 by omega]
      simpa using h2
    · cases h

theorem zero_refl {t : TypeId} {z : Value} (h : zeroOf P t = some z) (ρ : List RB) : VR ρ z z := by
  obtain ⟨i, _, _, hr, _⟩ := zeroOf_inv h
  have := hr ρ
  cases z with
  | agg c => exact VR.agg' this
  | tuple c =>
    have h0 : flat1 (.tuple c) = true := by
      unfold zeroOf at h
      split at h
      · split at h
        · rename_i z' _
          cases hb : (z'.cells.toList.all flat1 && Nat.beq z'.cells.size _) with
          | false => rw [hb] at h; cases h
          | true => rw [hb] at h; cases h; rw [Bool.and_eq_true] at hb; simpa [Value.cells] using hb.1
        · cases h
      · cases h
    simp [flat1] at h0
  | _ => exact this.2 0 _ _ rfl rfl

theorem VR.okV {v v' : Value} (ok b : Bool) (h : VR ρ v v') : VR ρ (Ax.okV ok v b) (Ax.okV ok v' b) := by
  cases ok with
  | false => exact h
  | true => exact VR.tuple' (LR.cons h (LR.cons (.bool b) (LR.nil _)))

theorem VR.map_inv {r : Nat} {v' : Value} (h : VR ρ (.map (some r)) v') : ∃ x, v' = .map (some x.b) ∧ ρ[r]? = some x := by
  cases h with
  | map b x hx => exact ⟨x, rfl, hx⟩

theorem Rel.mapAt (h : Rel B w0 ρ σ w) {r : Nat} {es : List MapEntry} {clock : Nat} {x : RB} (hg : σ.get r = some (.map es clock)) (hx : ρ[r]? = some x) :
    ∃ es', w.heap[x.b]? = some (.map es' clock) ∧ ERel ρ es es'.toList := by
  obtain ⟨r0, a, ⟨es', y1, y2⟩, _⟩ := h.obj r _ hg
  rw [hx] at a; cases a
  exact ⟨es', y1, y2⟩

theorem aEntries_sound (h : Rel B w0 ρ σ w) {m m' : Value} {es : List MapEntry} (hm : VR ρ m m') (he : aEntries m σ = some es) :
    ∃ es', ERel ρ es es'.toList ∧ ((m' = .map none ∧ es' = #[]) ∨ ∃ b clock, m' = .map (some b) ∧ w.heap[b]? = some (.map es' clock)) := by
  unfold aEntries at he
  split at he
  · cases he
    cases hm
    exact ⟨#[], ⟨rfl, fun i e e' a => by simp at a⟩, .inl ⟨rfl, rfl⟩⟩
  · rename_i r
    split at he
    · rename_i es0 clock hg
      cases he
      obtain ⟨x, rfl, hx⟩ := hm.map_inv
      obtain ⟨es', h1, h2⟩ := h.mapAt hg hx
      exact ⟨es', h2, .inr ⟨_, clock, rfl, h1⟩⟩
    · cases he
  · cases he

theorem aFind_inv {d : TypeDesc} {k : Value} {es : List MapEntry} {r : Option (Nat × Value)} (h : aFind d k es = some r) : keyD d = true ∧ Instr.findNow d k es 0 = some r := by
  unfold aFind at h
  cases hk : keyD d with
  | false => rw [hk] at h; cases h
  | true => rw [hk] at h; exact ⟨rfl, h⟩

theorem run_findKey {kt : TypeId} {d : TypeDesc} {k : Value} {es : List MapEntry} {r : Option (Nat × Value)} (hd : P.underlying kt = some d) (h : Instr.findNow d k es 0 = some r) : (Instr.findKey kt k es).run P w = .ok r w := by
  simp [Instr.findKey, run_underlying hd, h]

theorem aLookup_sound (h : Rel B w0 ρ σ w) {t : TypeId} {m m' k k' v : Value} {ok : Bool} (hm : VR ρ m m') (hk : VR ρ k k') (hv : aLookup P t m k ok σ = some v) :
    ∃ v', (Instr.lookup t m' k' ok).run P w = .ok v' w ∧ VR ρ v v' := by
  unfold aLookup at hv
  split at hv
  · rename_i d e hmo
    obtain ⟨kt, ht, hkt⟩ := mapOf_inv hmo
    split at hv
    · rename_i z hz
      obtain ⟨i, hi, hz', _, _⟩ := zeroOf_inv hz
      simp only [Option.bind_eq_some_iff] at hv
      obtain ⟨es, he, f, hf, hv⟩ := hv
      obtain ⟨es', hes, hor⟩ := aEntries_sound h hm he
      obtain ⟨hkd, hf⟩ := aFind_inv hf
      obtain ⟨f', hf', hrel⟩ := findNow_rel hkd hk es es'.toList 0 f hes hf
      have hck := fun b => run_checkKey (P := P) (w := w) hkt hkd b k'
      have hfk := run_findKey (P := P) (w := w) hkt hf'
      have hzv := run_zeroValue (P := P) (w := w) hi hz'
      have hmain : (Instr.lookup t m' k' ok).run P w = .ok (match f' with | some (_, v) => okV ok v true | none => okV ok z false) w := by
        rcases hor with ⟨rfl, rfl⟩ | ⟨b, clock, rfl, hb⟩
        · rcases hrel with ⟨rfl, rfl⟩ | ⟨j, u, u', rfl, rfl, _⟩
          · cases ok <;> simp [Instr.lookup, run_underlying ht, hck, hfk, hzv, okV]
          · simp [Instr.findNow] at hf'
        · have hgo := run_getObj (P := P) hb (fun c e fz => by simp)
          rcases hrel with ⟨rfl, rfl⟩ | ⟨j, u, u', rfl, rfl, _⟩
          · cases ok <;> simp [Instr.lookup, run_underlying ht, hck, hfk, hzv, hgo, okV]
          · cases ok <;> simp [Instr.lookup, run_underlying ht, hck, hfk, hgo, okV]
      refine ⟨_, hmain, ?_⟩
      rcases hrel with ⟨rfl, rfl⟩ | ⟨j, u, u', rfl, rfl, hu⟩
      · cases hv; exact (zero_refl hz ρ).okV ok false
      · cases hv; exact hu.okV ok true
    · cases hv
  · cases hv
end
end Go.Ax
