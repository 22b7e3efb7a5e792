/- Maps and iterators that change: the abstract operations are met by the machine's. No statement of the seat is proved here. -/
import Derived.Test.YtfeamgocomlepaaAxM
namespace Go.Ax
open Go.RowKit

section
variable {P : Program} {B : Nat} {w0 : World} {ρ : List RB} {σ : AHeap} {w : World}

theorem ERel.app {es es' : List MapEntry} (h : ERel ρ es es') {k k' v v' : Value} {b : Nat} (hk : VR ρ k k') (hv : VR ρ v v') (hl : live k = true) :
    ERel ρ (es ++ [{ key := k, val := v, born := b }]) (es' ++ [{ key := k', val := v', born := b }]) := by
  refine ⟨by simp [h.1], fun i e e' a b => ?_⟩
  rw [List.getElem?_append] at a b
  split at a
  · rename_i hlt
    rw [if_pos (by rw [← h.1]; exact hlt)] at b
    exact h.2 i e e' a b
  · rename_i hge
    rw [if_neg (by rw [← h.1]; exact hge)] at b
    rw [h.1] at a
    cases hi : i - es'.length with
    | zero => rw [hi] at a b; simp at a b; subst a; subst b; exact ⟨hk, hv, rfl, hl⟩
    | succ j => rw [hi] at a; simp at a

theorem ERel.modify {es es' : List MapEntry} (h : ERel ρ es es') {k k' v v' : Value} (hk : VR ρ k k') (hv : VR ρ v v') (hl : live k = true) (j : Nat) :
    ERel ρ (es.modify j fun e => { e with key := k, val := v }) (es'.modify j fun e => { e with key := k', val := v' }) := by
  refine ⟨by simp [h.1], fun i e e' a b => ?_⟩
  rw [List.getElem?_modify] at a b
  simp only [Option.map_eq_map, Option.map_eq_some_iff] at a b
  obtain ⟨x, hx, rfl⟩ := a
  obtain ⟨x', hx', rfl⟩ := b
  obtain ⟨p, q, r, s⟩ := h.2 i x x' hx hx'
  by_cases e : j = i
  · simp only [if_pos e]; exact ⟨hk, hv, r, hl⟩
  · simp only [if_neg e]; exact ⟨p, q, r, s⟩

theorem ERel.erase {es es' : List MapEntry} (h : ERel ρ es es') (j : Nat) : ERel ρ (es.eraseIdx j) (es'.eraseIdx j) := by
  refine ⟨by simp [List.length_eraseIdx, h.1], fun i e e' a b => ?_⟩
  rw [List.getElem?_eraseIdx] at a b
  split at a
  · rename_i hlt; rw [if_pos hlt] at b; exact h.2 i e e' a b
  · rename_i hlt; rw [if_neg hlt] at b; exact h.2 _ e e' a b

theorem Rel.setO (h : Rel B w0 ρ σ w) {r : Nat} {o o' : AObj} {x : RB} {c0 co : Obj} (hg : σ.get r = some o) (hw : o.writable = true) (hw' : o'.writable = true) (hx : ρ[r]? = some x)
    (hc : w.heap[x.b]? = some c0) (hn : ∀ c e fz, c0 ≠ .cells c e fz) (ho : ∀ hp : Array Obj, hp[x.b]? = some co → ORel ρ x hp o') :
    (setObj x.b co).run P w = .ok () { w with heap := w.heap.setIfInBounds x.b co } ∧ Rel B w0 ρ (σ.set r o') { w with heap := w.heap.setIfInBounds x.b co } := by
  have hlt : x.b < w.heap.size := by
    rcases Nat.lt_or_ge x.b w.heap.size with k | k
    · exact k
    · rw [Array.getElem?_eq_none k] at hc; cases hc
  refine ⟨run_setObj hc hn, h.update hg hw hw' hx (ho _ (by simp [hlt])) (fun k hk => ?_) rfl rfl rfl (by simp)⟩
  rw [Array.getElem?_setIfInBounds_ne (Ne.symm hk)]

theorem bytes_beq {a b : ByteArray} (h : (a == b) = true) : a = b := by
  obtain ⟨a⟩ := a
  obtain ⟨b⟩ := b
  have h2 : (a == b) = true := h
  rw [eq_of_beq h2]
theorem bytes_refl (a : ByteArray) : (a == a) = true := by
  obtain ⟨a⟩ := a
  show (a == a) = true
  simp

theorem sameBits_of {d : TypeDesc} {a b : Value} (hk : keyD d = true) (h : Instr.sameNow d a b = some true) : Instr.sameBits 10000 b a = true := by
  unfold Instr.sameNow at h
  split at h
  · split at h
    · rename_i e; subst e; simp at h; subst h; simp [Instr.sameBits]
    · cases h
  · simp only [Option.some.injEq] at h
    have := bytes_beq h
    subst this
    show (_ == _) = true
    exact bytes_refl _
  · simp [keyD] at hk
  · cases h

theorem run_keyThatStays {old new : Value} (h : Instr.sameBits 10000 old new = true) : (Instr.keyThatStays old new).run P w = .ok new w := by
  simp [Instr.keyThatStays, h]

theorem keyV_live {k : Value} (h : keyV k = true) : live k = true := by
  cases k <;> simp [keyV] at h <;> rfl

theorem VR.mapN {v' : Value} (h : VR ρ (.map none) v') : v' = .map none := by
  cases h; rfl

theorem aMapUpdate_sound (h : Rel B w0 ρ σ w) {t : TypeId} {m m' k k' v v' : Value} {σ' : AHeap} (hm : VR ρ m m') (hk : VR ρ k k') (hv : VR ρ v v') (hy : aMapUpdate P t m k v σ = some σ') :
    ∃ w', (Instr.mapUpdate t m' k' v').run P w = .ok () w' ∧ Rel B w0 ρ σ' w' := by
  unfold aMapUpdate at hy
  split at hy
  · rename_i d e r hmo
    obtain ⟨kt, ht, hkt⟩ := mapOf_inv hmo
    obtain ⟨x, rfl, hx⟩ := hm.map_inv
    split at hy
    · rename_i es clock hg
      obtain ⟨es', h1, h2⟩ := h.mapAt hg hx
      cases hkv : keyV k with
      | false => rw [hkv] at hy; cases hy
      | true =>
        rw [hkv] at hy
        simp only [cond_true, Option.bind_eq_some_iff] at hy
        obtain ⟨f, hf, hy⟩ := hy
        obtain ⟨hkd, hf⟩ := aFind_inv hf
        obtain ⟨f', hf', hrel⟩ := findNow_rel hkd hk es es'.toList 0 f h2 hf
        have hck := fun b => run_checkKey (P := P) (w := w) hkt hkd b k'
        have hfk := run_findKey (P := P) (w := w) hkt hf'
        have hgo := run_getObj (P := P) h1 (fun c e fz => by simp)
        rcases hrel with ⟨rfl, rfl⟩ | ⟨j, u, u', rfl, rfl, _⟩
        · cases hy
          obtain ⟨e1, e2⟩ := h.setO (P := P) (o' := .map (es ++ [{ key := k, val := v, born := clock }]) (clock + 1)) (co := .map (es'.push { key := k', val := v', born := clock }) (clock + 1)) hg rfl rfl hx h1 (fun c e fz => by simp)
            (fun hp hh => ⟨_, hh, by simpa using h2.app hk hv (keyV_live hkv)⟩)
          exact ⟨_, by simp [Instr.mapUpdate, run_underlying ht, hck, hfk, hgo, e1], e2⟩
        · cases hy
          obtain ⟨_, e', he', hs, _⟩ := findNow_at es'.toList 0 j u' hf'
          have he'' : es'[j]? = some e' := by simpa using he'
          have hst := run_keyThatStays (P := P) (w := w) (sameBits_of hkd hs)
          obtain ⟨e1, e2⟩ := h.setO (P := P) (o' := .map (es.modify j fun e => { e with key := k, val := v }) clock) (co := .map (es'.modify j fun e => { e with key := k', val := v' }) clock) hg rfl rfl hx h1 (fun c e fz => by simp)
            (fun hp hh => ⟨_, hh, by rw [Array.toList_modify]; exact h2.modify hk hv (keyV_live hkv) j⟩)
          refine ⟨_, ?_, e2⟩
          simp [Instr.mapUpdate, run_underlying ht, hck, hfk, hgo, he'', hst, e1]
    · cases hy
  · cases hy

theorem aDelete_sound (h : Rel B w0 ρ σ w) {t u ty : TypeId} {m m' k k' : Value} {σ' : AHeap} (hm : VR ρ m m') (hk : VR ρ k k') (hy : aDelete P t m k σ = some σ') :
    ∃ w', (Builtin.delete_ #[t, u] ty #[m', k']).run P w = .ok (.tuple #[]) w' ∧ Rel B w0 ρ σ' w' := by
  unfold aDelete at hy
  split at hy
  · rename_i d e hmo
    obtain ⟨kt, ht, hkt⟩ := mapOf_inv hmo
    cases hkd : keyD d with
    | false => rw [hkd] at hy; cases hy
    | true =>
      rw [hkd] at hy; cases hy
      rw [hm.mapN]
      exact ⟨w, by simp [Builtin.delete_, run_underlying ht, run_checkKey (P := P) (w := w) hkt hkd], h⟩
  · rename_i d e r hmo
    obtain ⟨kt, ht, hkt⟩ := mapOf_inv hmo
    obtain ⟨x, rfl, hx⟩ := hm.map_inv
    split at hy
    · rename_i es clock hg
      obtain ⟨es', h1, h2⟩ := h.mapAt hg hx
      simp only [Option.bind_eq_some_iff] at hy
      obtain ⟨f, hf, hy⟩ := hy
      obtain ⟨hkd, hf⟩ := aFind_inv hf
      obtain ⟨f', hf', hrel⟩ := findNow_rel hkd hk es es'.toList 0 f h2 hf
      have hck := fun b => run_checkKey (P := P) (w := w) hkt hkd b k'
      have hfk := run_findKey (P := P) (w := w) hkt hf'
      have hgo := run_getObj (P := P) h1 (fun c e fz => by simp)
      rcases hrel with ⟨rfl, rfl⟩ | ⟨j, u, u', rfl, rfl, _⟩
      · cases hy
        obtain ⟨e1, e2⟩ := h.setO (P := P) (o' := .map es clock) (co := .map es' clock) hg rfl rfl hx h1 (fun c e fz => by simp) (fun hp hh => ⟨_, hh, h2⟩)
        exact ⟨_, by simp [Builtin.delete_, run_underlying ht, hck, hfk, hgo, e1], e2⟩
      · cases hy
        obtain ⟨e1, e2⟩ := h.setO (P := P) (o' := .map (es.eraseIdx j) clock) (co := .map (es'.eraseIdxIfInBounds j) clock) hg rfl rfl hx h1 (fun c e fz => by simp)
          (fun hp hh => ⟨_, hh, by
            have : (es'.eraseIdxIfInBounds j).toList = es'.toList.eraseIdx j := by
              unfold Array.eraseIdxIfInBounds
              split
              · simp
              · rename_i hge; rw [List.eraseIdx_of_length_le (by simp; omega)]
            rw [this]; exact h2.erase j⟩)
        exact ⟨_, by simp [Builtin.delete_, run_underlying ht, hck, hfk, hgo, e1], e2⟩
    · cases hy
  · cases hy

/-- A new object that is no row of cells. -/
def aNewO (o : AObj) (σ : AHeap) : AHeap := σ.push o

theorem newO_sound (h : Rel B w0 ρ σ w) {o : AObj} {x : Obj} (hw : o.writable = true) (ho : ∀ (ρ' : List RB) (r : RB) (hp : Array Obj), Ext ρ ρ' → r.s = 0 → hp[r.b]? = some x → ORel ρ' r hp o) :
    ∃ ρ', (newObj x).run P w = .ok w.heap.size (w.alloc x) ∧ Ext ρ ρ' ∧ Rel B w0 ρ' (σ.push o) (w.alloc x) ∧ ρ'[σ.size]? = some ⟨w.heap.size, 0, 0⟩ := by
  obtain ⟨a, b, c⟩ := h.new (n := 0) hw (x := x) (fun r hr => ho _ r _ (Ext.append ρ _) (by rw [hr]) (by rw [hr]; exact heap_alloc_new w x))
  exact ⟨_, rfl, b, a, c⟩

def aMakeMap (P : Program) (t : TypeId) (r : Option Value) (σ : AHeap) : Option (Value × AHeap) :=
  match r with
  | none => some (.map (some σ.size), σ.push (.map [] 0))
  | some (.int _ _) => match P.underlying t with
    | some (.map _ _) => some (.map (some σ.size), σ.push (.map [] 0))
    | _ => none
  | _ => none

theorem aMakeMap_sound (h : Rel B w0 ρ σ w) {t : TypeId} {r r' : Option Value} {y : Value × AHeap} (hr : VO ρ r r') (hy : aMakeMap P t r σ = some y) :
    ∃ v' w' ρ', (Instr.makeMap t r').run P w = .ok v' w' ∧ Ext ρ ρ' ∧ Rel B w0 ρ' y.2 w' ∧ VR ρ' y.1 v' := by
  obtain ⟨ρ', e1, e2, e3, e4⟩ := newO_sound (P := P) h (o := .map [] 0) (x := .map #[] 0) rfl (fun ρ' r hp _ _ hh => ⟨#[], hh, rfl, fun i e e' a => by simp at a⟩)
  have e5 : VR ρ' (.map (some σ.size)) (.map (some w.heap.size)) := .map _ _ e4
  unfold aMakeMap at hy
  split at hy
  · cases hy
    cases hr
    exact ⟨_, _, ρ', by simp [Instr.makeMap, e1], e2, e3, e5⟩
  · split at hy
    · rename_i ht
      cases hy
      cases hr with
      | some a b hab =>
        rw [hab.int_inv]
        exact ⟨_, _, ρ', by simp [Instr.makeMap, run_underlying ht, asInt, asIntOf, e1], e2, e3, e5⟩
    · cases hy
  · cases hy

def aRange (P : Program) (t : TypeId) (x : Value) (σ : AHeap) : Option (Value × AHeap) :=
  let p : Value := .pointer (some ⟨σ.size, 0, none⟩)
  match P.underlying t, x with
  | some .string, .string s => some (p, σ.push (.strIter s 0))
  | some (.map _ _), .map none => some (p, σ.push (.mapIter none 0 [] 0))
  | some (.map _ _), .map (some m) => match σ.get m with
    | some (.map _ clock) => some (p, σ.push (.mapIter (some m) clock [] clock))
    | _ => none
  | _, _ => none

theorem aRange_sound (h : Rel B w0 ρ σ w) {t : TypeId} {x x' : Value} {y : Value × AHeap} (hx : VR ρ x x') (hy : aRange P t x σ = some y) :
    ∃ v' w' ρ', (Instr.range t x').run P w = .ok v' w' ∧ Ext ρ ρ' ∧ Rel B w0 ρ' y.2 w' ∧ VR ρ' y.1 v' := by
  have key : ∀ (o : AObj) (c : Obj), o.writable = true → (∀ (ρ' : List RB) (r : RB) (hp : Array Obj), Ext ρ ρ' → r.s = 0 → hp[r.b]? = some c → ORel ρ' r hp o) →
      ∃ ρ', (newObj c).run P w = .ok w.heap.size (w.alloc c) ∧ Ext ρ ρ' ∧ Rel B w0 ρ' (σ.push o) (w.alloc c) ∧ VR ρ' (.pointer (some ⟨σ.size, 0, none⟩)) (.pointer (some ⟨w.heap.size, 0, none⟩)) := by
    intro o c ho hc
    obtain ⟨ρ', e1, e2, e3, e4⟩ := newO_sound (P := P) h ho hc
    exact ⟨ρ', e1, e2, e3, .ptr _ 0 _ e4⟩
  unfold aRange at hy
  split at hy
  · rename_i s ht
    cases hy
    rw [hx.string_inv]
    obtain ⟨ρ', e1, e2, e3, e4⟩ := key (.strIter s 0) (.stringIter s 0) rfl (fun ρ' r hp _ h0 hh => ⟨h0, hh⟩)
    exact ⟨_, _, ρ', by simp [Instr.range, run_underlying ht, e1], e2, e3, e4⟩
  · rename_i a b ht
    cases hy
    rw [hx.mapN]
    obtain ⟨ρ', e1, e2, e3, e4⟩ := key (.mapIter none 0 [] 0) (.mapIter none 0 #[] 0) rfl (fun ρ' r hp _ h0 hh => ⟨none, h0, hh, .nilmap⟩)
    exact ⟨_, _, ρ', by simp [Instr.range, run_underlying ht, e1], e2, e3, e4⟩
  · rename_i a b m ht
    split at hy
    · rename_i es clock hg
      cases hy
      obtain ⟨x, rfl, hxm⟩ := hx.map_inv
      obtain ⟨es', h1, h2⟩ := h.mapAt hg hxm
      have hgo := run_getObj (P := P) h1 (fun c e fz => by simp)
      obtain ⟨ρ', e1, e2, e3, e4⟩ := key (.mapIter (some m) clock [] clock) (.mapIter (some x.b) clock #[] clock) rfl (fun ρ' r hp hext h0 hh => ⟨some x.b, h0, hh, .map _ _ (hext _ _ hxm)⟩)
      exact ⟨_, _, ρ', by simp [Instr.range, run_underlying ht, hgo, e1], e2, e3, e4⟩
    · cases hy
  · cases hy

/-- The next step over a string. -/
def aNextStr (it : Value) (σ : AHeap) : Option (Value × AHeap) :=
  match it with
  | .pointer (some ⟨r, 0, none⟩) => match σ.get r with
    | some (.strIter s pos) => cond (Nat.blt pos s.size) (some (.tuple #[.bool true, .int .i64 pos, .int .i32 (Utf8.decode s pos).1], σ.set r (.strIter s (pos + (Utf8.decode s pos).2)))) (some (.tuple #[.bool false], σ))
    | _ => none
  | _ => none

theorem VR.ptr_at {r : Nat} {v' : Value} (h : VR ρ (.pointer (some ⟨r, 0, none⟩)) v') : ∃ x, ρ[r]? = some x ∧ v' = .pointer (some ⟨x.b, x.s + 0, none⟩) := by
  cases h with
  | ptr b o x hx => exact ⟨x, hx, rfl⟩

theorem aNextStr_sound (h : Rel B w0 ρ σ w) {it it' : Value} {t : TypeId} {y : Value × AHeap} (hx : VR ρ it it') (hy : aNextStr it σ = some y) :
    ∃ v' w', (Instr.next it' true t).run P w = .ok v' w' ∧ Rel B w0 ρ y.2 w' ∧ VR ρ y.1 v' := by
  unfold aNextStr at hy
  split at hy
  · rename_i r
    obtain ⟨x, hxr, rfl⟩ := hx.ptr_at
    split at hy
    · rename_i s pos hg
      obtain ⟨r0, a, ⟨hs0, hb⟩, _⟩ := h.obj r _ hg
      rw [hxr] at a; cases a
      have hgo := run_getObj (P := P) hb (fun c e fz => by simp)
      cases hlt : Nat.blt pos s.size with
      | true =>
        rw [hlt] at hy
        simp only [cond_true, Option.some.injEq] at hy
        subst hy
        have hlt' : pos < s.size := by simpa using hlt
        obtain ⟨e1, e2⟩ := h.setO (P := P) (o' := .strIter s (pos + (Utf8.decode s pos).2)) (co := .stringIter s (pos + (Utf8.decode s pos).2)) hg rfl rfl hxr hb (fun c e fz => by simp) (fun hp hh => ⟨hs0, hh⟩)
        refine ⟨.tuple #[.bool true, goInt pos, .int .i32 (Utf8.decode s pos).1], _, ?_, e2, ?_⟩
        · rw [hs0]; simp [Instr.next, hgo, hlt', e1]
        · exact VR.tuple' (LR.cons (.bool _) (LR.cons (.int _ _) (LR.cons (.int _ _) (LR.nil _))))
      | false =>
        rw [hlt] at hy
        simp only [cond_false, Option.some.injEq] at hy
        subst hy
        have hlt' : ¬ pos < s.size := fun c => by
          have : Nat.blt pos s.size = true := by simpa using c
          rw [hlt] at this; cases this
        refine ⟨.tuple #[.bool false], w, ?_, h, VR.tuple' (LR.cons (.bool _) (LR.nil _))⟩
        rw [hs0]; simp [Instr.next, hgo, hlt']
    · cases hy
  · cases hy
end
end Go.Ax
