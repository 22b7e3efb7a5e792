/- Each abstract operation is met by the machine's: reading, writing, new blocks, numbers. No statement of the seat is proved here. -/
import Derived.Test.YtfeamgocomlepaaAx3
namespace Go.Ax
open Go.RowKit

def AR (ρ : List RB) (a a' : Addr) : Prop := ∃ r, ρ[a.block]? = some r ∧ a.spot = none ∧ a' = ⟨r.b, r.s + a.off, none⟩

theorem VR.ptr_inv {ρ : List RB} {a : Addr} {v' : Value} (h : VR ρ (.pointer (some a)) v') : ∃ a', v' = .pointer (some a') ∧ AR ρ a a' := by
  cases h with
  | ptr b o r hr => exact ⟨_, rfl, r, hr, rfl, rfl⟩

theorem AR.mono {ρ ρ' : List RB} (e : Ext ρ ρ') {a a' : Addr} (h : AR ρ a a') : AR ρ' a a' := let ⟨r, x, y, z⟩ := h; ⟨r, e _ _ x, y, z⟩
theorem AR.ptr {ρ : List RB} {a a' : Addr} (h : AR ρ a a') : VR ρ (.pointer (some a)) (.pointer (some a')) := by
  obtain ⟨r, x, y, z⟩ := h
  obtain ⟨b, o, s⟩ := a
  simp only at y; subst y; subst z
  exact .ptr b o r x
theorem AR.spot {ρ : List RB} {a a' : Addr} (h : AR ρ a a') : a'.spot = none := by obtain ⟨r, x, y, z⟩ := h; rw [z]
theorem add_plain (a : Addr) (n : Nat) (h : a.spot = none) : a.add n = ⟨a.block, a.off + n, none⟩ := by
  obtain ⟨b, o, s⟩ := a
  simp only at h; subst h
  exact Addr.add_lit b o n
theorem AR.add {ρ : List RB} {a a' : Addr} (h : AR ρ a a') (n : Nat) : AR ρ (a.add n) (a'.add n) := by
  obtain ⟨r, x, y, z⟩ := h
  subst z
  rw [add_plain a n y, Addr.add_lit]
  exact ⟨r, x, rfl, by simp [Nat.add_assoc]⟩

section
variable {P : Program} {B : Nat} {w0 : World} {ρ : List RB} {σ : AHeap} {w : World}

theorem seg_sound (h : Rel B w0 ρ σ w) {a a' : Addr} {n : Nat} {l : List Value} (hs : seg σ a n = some l) (ha : n = 0 ∨ AR ρ a a') :
    ∃ l', LR ρ l l' ∧ l'.length = n ∧ ∀ (j : Nat) v, l'[j]? = some v → w.cell? (a'.add j) = some v := by
  cases n with
  | zero => simp [seg] at hs; subst hs; exact ⟨[], LR.nil _, rfl, fun j v hv => by simp at hv⟩
  | succ m =>
    rcases ha with ha | ⟨r, hr, hsp, rfl⟩
    · omega
    simp only [seg, Option.bind_eq_some_iff] at hs
    obtain ⟨c, hc, hs⟩ := hs
    cases hb : Nat.ble (a.off + (m + 1)) c.length with
    | false => rw [hb] at hs; cases hs
    | true =>
      rw [hb] at hs
      have hle := Nat.le_of_ble_eq_true hb
      cases hs
      obtain ⟨c', hl, hcell⟩ := h.read hc hr
      refine ⟨(c'.drop a.off).take (m + 1), (hl.drop _).take _, by have := hl.1; simp; omega, fun j v hv => ?_⟩
      rw [List.getElem?_take] at hv
      split at hv
      · rw [Addr.add_lit]
        have := hcell (a.off + j) v (by simpa using hv)
        rw [Nat.add_assoc]; exact this
      · cases hv

theorem run_seg {a' : Addr} {l' : List Value} {n : Nat} (hn : l'.length = n) (hc : ∀ (j : Nat) v, l'[j]? = some v → w.cell? (a'.add j) = some v) :
    (loadCells a' n).run P w = .ok l'.toArray w := by
  subst hn
  exact run_loadCells_list w a' l' hc

theorem shp_inv {t : TypeId} {g : Bool} {n : Nat} (h : shp P t = some (g, n)) : ∃ d i, P.underlying t = some d ∧ P.info? t = some i ∧ aggD d = g ∧ i.size = n := by
  unfold shp at h
  split at h
  · rename_i d i hd hi; cases h; exact ⟨d, i, hd, hi, rfl, rfl⟩
  · cases h

theorem run_isAgg {t : TypeId} {d : TypeDesc} (hd : P.underlying t = some d) : (isAgg t).run P w = .ok (aggD d) w := by
  cases d <;> simp [isAgg, run_underlying hd, aggD]

theorem run_sizeOf {t : TypeId} {i : TypeInfo} (hi : P.info? t = some i) : (sizeOf t).run P w = .ok i.size w := by
  simp [sizeOf, typeInfo, hi]

theorem aLoad_sound (h : Rel B w0 ρ σ w) {t : TypeId} {g : Bool} {n : Nat} {x x' v : Value} (ht : shp P t = some (g, n)) (hx : VR ρ x x') (hv : aLoad g n x σ = some v) :
    ∃ v', (Instr.loadAt t x').run P w = .ok v' w ∧ VR ρ v v' := by
  obtain ⟨d, i, hd, hi, rfl, rfl⟩ := shp_inv ht
  unfold aLoad at hv
  split at hv
  · rename_i a
    obtain ⟨a', rfl, ha⟩ := hx.ptr_inv
    cases hg : aggD d with
    | true =>
      rw [hg] at hv
      simp only [cond_true, Option.map_eq_some_iff] at hv
      obtain ⟨l, hl, rfl⟩ := hv
      obtain ⟨l', h1, h2, h3⟩ := seg_sound h hl (.inr ha)
      refine ⟨.agg l'.toArray, ?_, VR.agg' (by simpa using h1)⟩
      simp [Instr.loadAt, Instr.sureAddr, loadVar, run_isAgg hd, hg, run_sizeOf hi, run_seg (P := P) h2 h3]
    | false =>
      rw [hg] at hv
      simp only [cond_false, Option.bind_eq_some_iff] at hv
      obtain ⟨c, hc, hv⟩ := hv
      obtain ⟨r, hr, hsp, rfl⟩ := ha
      obtain ⟨c', hl, hcell⟩ := h.read hc hr
      obtain ⟨v', hv', hvr⟩ := hl.get hv
      refine ⟨v', ?_, hvr⟩
      simp [Instr.loadAt, Instr.sureAddr, loadVar, run_isAgg hd, hg, hcell _ _ hv']
  · cases hv

theorem aPoke_sound (h : Rel B w0 ρ σ w) {a a' : Addr} {l l' : List Value} {σ' : AHeap} (hp : aPoke a l σ = some σ') (ha : l = [] ∨ AR ρ a a') (hl : LR ρ l l') :
    ∃ w', (storeCells a' l' 0).run P w = .ok () w' ∧ Rel B w0 ρ σ' w' ∧ w'.heap.size = w.heap.size := by
  cases l with
  | nil =>
    rw [hl.nil_inv]
    simp [aPoke] at hp; subst hp
    exact ⟨w, rfl, h, rfl⟩
  | cons v t =>
    rcases ha with ha | ⟨r, hr, hsp, rfl⟩
    · cases ha
    simp only [aPoke] at hp
    split at hp
    · rename_i c e opn hg
      cases hb : (List.all (v :: t) Value.oneCell' && Nat.ble (a.off + (v :: t).length) c.length) with
      | false => rw [hb] at hp; cases hp
      | true =>
        rw [hb] at hp; cases hp
        rw [Bool.and_eq_true] at hb
        have hone : ∀ v' ∈ l', v'.oneCell' = true := by
          intro v' hv'
          obtain ⟨j, hj, rfl⟩ := List.mem_iff_getElem.1 hv'
          have hj2 : j < (v :: t).length := by rw [hl.1]; exact hj
          have hr2 := hl.2 j _ _ (List.getElem?_eq_getElem hj2) (List.getElem?_eq_getElem hj)
          have ho : ((v :: t)[j]).oneCell' = true := List.all_eq_true.1 hb.1 _ (List.getElem_mem hj2)
          have hlv : live ((v :: t)[j]) = true := by
            revert ho; cases (v :: t)[j] <;> simp [live, Value.oneCell']
          rw [← (hr2.live_eq hlv).2]; exact ho
        obtain ⟨w', h1, h2, h3⟩ := h.write (P := P) hg hr hl hone (Nat.le_of_ble_eq_true hb.2)
        exact ⟨w', h1, h2, h3⟩
    · cases hp

theorem aStore_sound (h : Rel B w0 ρ σ w) {t : TypeId} {g : Bool} {n : Nat} {x x' v v' : Value} {σ' : AHeap} (ht : shp P t = some (g, n)) (hx : VR ρ x x') (hv : VR ρ v v') (hs : aStore n x v σ = some σ') :
    ∃ w', (Instr.storeAt t x' v').run P w = .ok () w' ∧ Rel B w0 ρ σ' w' ∧ w'.heap.size = w.heap.size := by
  obtain ⟨d, i, hd, hi, rfl, rfl⟩ := shp_inv ht
  unfold aStore at hs
  split at hs
  · rename_i a
    obtain ⟨a', rfl, ha⟩ := hx.ptr_inv
    cases hb : (live v && Nat.beq v.cells.size i.size) with
    | false => rw [hb] at hs; cases hs
    | true =>
      rw [hb] at hs
      simp only [cond_true] at hs
      rw [Bool.and_eq_true] at hb
      have hsz := Nat.eq_of_beq_eq_true hb.2
      have hl := hv.cells hb.1
      have hs2 : v'.cells.size = i.size := by have := hl.1; simp at this; omega
      obtain ⟨w', h1, h2, h3⟩ := aPoke_sound (P := P) h hs (.inr ha) hl
      refine ⟨w', ?_, h2, h3⟩
      simp [Instr.storeAt, Instr.sureAddr, storeVar, run_sizeOf hi, hs2, h1]
  · cases hs

/-- A new row of cells, exact or with more behind it. -/
theorem new_sound (h : Rel B w0 ρ σ w) (e : TypeId) {l l' : List Value} (hl : LR ρ l l') :
    ∃ ρ', Ext ρ ρ' ∧ Rel B w0 ρ' (σ.push (.cells l e false)) (w.alloc (.cells l'.toArray e)) ∧ AR ρ' ⟨σ.size, 0, none⟩ ⟨w.heap.size, 0, none⟩ := by
  have hall : (w.alloc (.cells l'.toArray e)).heap[w.heap.size]? = some (.cells l'.toArray e) := by show (w.heap.push _)[w.heap.size]? = _; simp
  have := h.new (o := .cells l e false) (x := .cells l'.toArray e) (n := l'.length) rfl (fun r hr => by
    subst hr
    refine ⟨l'.toArray, (0, 0), hall, FzOk.zero _, by simp, fun _ => by simp [hl.1], by simp [hl.1], ?_⟩
    simp only [List.drop_zero, List.toList_toArray, hl.1, List.take_length]
    exact hl.mono (Ext.append _ _))
  exact ⟨_, this.2.1, this.1, _, this.2.2, rfl, by simp⟩

theorem newOpen_sound (h : Rel B w0 ρ σ w) (e : TypeId) {l l' : List Value} (more : List Value) (hl : LR ρ l l') :
    ∃ ρ', Ext ρ ρ' ∧ Rel B w0 ρ' (σ.push (.cells l e true)) (w.alloc (.cells (l' ++ more).toArray e)) ∧ ρ'[σ.size]? = some ⟨w.heap.size, 0, l'.length + more.length⟩ := by
  have hall : (w.alloc (.cells (l' ++ more).toArray e)).heap[w.heap.size]? = some (.cells (l' ++ more).toArray e) := by show (w.heap.push _)[w.heap.size]? = _; simp
  have := h.new (o := .cells l e true) (x := .cells (l' ++ more).toArray e) (n := l'.length + more.length) rfl (fun r hr => by
    subst hr
    refine ⟨(l' ++ more).toArray, (0, 0), hall, FzOk.zero _, by simp, fun hh => by (cases hh), by simp [hl.1], ?_⟩
    simp only [List.drop_zero, List.toList_toArray, hl.1]
    rw [List.take_left' rfl]
    exact hl.mono (Ext.append _ _))
  exact ⟨_, this.2.1, this.1, this.2.2⟩

theorem flat1_refl (ρ : List RB) {v : Value} (h : flat1 v = true) : VR ρ v v := by
  cases v with
  | bool b => exact .bool b
  | int k n => exact .int k n
  | string s => exact .string s
  | pointer a => cases a with
    | none => exact .nilptr
    | some a => simp [flat1] at h
  | slice a l c => cases a with
    | none => exact .nilslice l c (by simpa [flat1] using h)
    | some a => simp [flat1] at h
  | map r => cases r with
    | none => exact .nilmap
    | some r => simp [flat1] at h
  | nilFunc => exact .nilFunc
  | nilIface => exact .nilIface
  | _ => simp [flat1] at h

theorem flats_refl (ρ : List RB) {c : List Value} (h : c.all flat1 = true) : LR ρ c c := by
  refine ⟨rfl, fun i v v' a b => ?_⟩
  rw [a] at b; cases b
  exact flat1_refl ρ (List.all_eq_true.1 h v (List.mem_of_getElem? a))

theorem zeroOf_inv {t : TypeId} {z : Value} (h : zeroOf P t = some z) : ∃ i, P.info? t = some i ∧ i.zero = some z ∧ (∀ ρ, LR ρ z.cells.toList z.cells.toList) ∧ z.cells.size = i.size := by
  unfold zeroOf at h
  split at h
  · rename_i i hi
    split at h
    · rename_i z' hz
      cases hb : (z'.cells.toList.all flat1 && Nat.beq z'.cells.size i.size) with
      | false => rw [hb] at h; cases h
      | true =>
        rw [hb] at h; cases h
        rw [Bool.and_eq_true] at hb
        exact ⟨i, hi, hz, fun ρ => flats_refl ρ hb.1, Nat.eq_of_beq_eq_true hb.2⟩
    · cases h
  · cases h

theorem run_zeroValue {t : TypeId} {i : TypeInfo} {z : Value} (hi : P.info? t = some i) (hz : i.zero = some z) : (zeroValue t).run P w = .ok z w := by
  simp [zeroValue, typeInfo, hi, hz]

theorem aAlloc_sound (h : Rel B w0 ρ σ w) {t : TypeId} {z : Value} (hz : zeroOf P t = some z) (b : Bool) (old : Value) (hb : b = true) :
    ∃ v' w' ρ', (Instr.alloc t b old).run P w = .ok v' w' ∧ Ext ρ ρ' ∧ Rel B w0 ρ' (aNew t z.cells.toList σ).2 w' ∧ VR ρ' (aNew t z.cells.toList σ).1 v' := by
  obtain ⟨i, hi, hz', hr, _⟩ := zeroOf_inv hz
  obtain ⟨ρ', h1, h2, h3⟩ := new_sound h t (hr ρ)
  refine ⟨_, _, ρ', ?_, h1, h2, h3.ptr⟩
  subst hb
  simp [Instr.alloc, run_zeroValue hi hz', newVar, newRow]

theorem aBox_sound (h : Rel B w0 ρ σ w) {t : TypeId} {v v' : Value} {x : Value × AHeap} (hv : VR ρ v v') (hb : aBox t v σ = some x) :
    ∃ u w' ρ', (Instr.box t v').run P w = .ok u w' ∧ Ext ρ ρ' ∧ Rel B w0 ρ' x.2 w' ∧ VR ρ' x.1 u := by
  unfold aBox at hb
  cases hl : live v with
  | false => rw [hl] at hb; cases hb
  | true =>
    rw [hl] at hb; cases hb
    obtain ⟨ρ', h1, h2, h3⟩ := new_sound h t (hv.cells hl)
    refine ⟨_, _, ρ', ?_, h1, h2, h3.ptr⟩
    simp [Instr.box, newVar, newRow]
end
end Go.Ax
