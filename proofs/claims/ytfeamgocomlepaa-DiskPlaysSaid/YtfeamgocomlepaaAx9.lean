/- Each abstract operation is met by the machine's: copy, string(b), len, build. No statement of the seat is proved here. -/
import Derived.Test.YtfeamgocomlepaaAx8
import Derived.Laws.BytesString
namespace Go.Ax
open Go.RowKit

section
variable {P : Program} {B : Nat} {w0 : World} {ρ : List RB} {σ : AHeap} {w : World}

/-- A slice's own memory: its address where there are cells to be met. -/
theorem VR.slice_ar {a : Option Addr} {l c : Nat} {v' : Value} (h : VR ρ (.slice a l c) v') :
    ∃ a' c', v' = .slice a' l c' ∧ ((a = none ∧ a' = none) ∨ ∃ x x', a = some x ∧ a' = some x' ∧ (l = 0 ∨ AR ρ x x')) := by
  obtain ⟨a', c', rfl, _, _, hcases⟩ := h.slice_inv
  refine ⟨a', c', rfl, ?_⟩
  rcases hcases with ⟨rfl, rfl, _⟩ | ⟨x, x1, r, rfl, rfl, hr, rfl, _, hs0⟩ | ⟨x1, rfl, hl, _, rfl, _⟩ | ⟨o, x1, rfl, hl, _, rfl, _⟩
  · exact .inl ⟨rfl, rfl⟩
  · exact .inr ⟨x, _, rfl, rfl, .inr ⟨r, hr, hs0, rfl⟩⟩
  · exact .inr ⟨_, x1, rfl, rfl, .inl hl⟩
  · exact .inr ⟨_, x1, rfl, rfl, .inl hl⟩

theorem aCopy_sound (h : Rel B w0 ρ σ w) {t u ty e : TypeId} {z by' : Nat} {d d' x x' : Value} {y : Value × AHeap} (he : elemOf? P t = some (e, z, by'))
    (hd : VR ρ d d') (hx : VR ρ x x') (hy : aCopy z d x σ = some y) :
    ∃ v' w', (Builtin.copy_ #[t, u] ty #[d', x']).run P w = .ok v' w' ∧ Rel B w0 ρ y.2 w' ∧ VR ρ y.1 v' := by
  obtain ⟨i, ht, hi, rfl, rfl⟩ := elemOf_inv he
  unfold aCopy at hy
  split at hy
  · rename_i base dl dc xb xl xc
    simp only [Option.bind_eq_some_iff, Prod.exists] at hy
    obtain ⟨n, l, hsrc, hy⟩ := hy
    obtain ⟨b', dc', rfl, hbase⟩ := hd.slice_ar
    obtain ⟨xb', xc', rfl, hxb⟩ := hx.slice_ar
    -- what is read
    have hread : n = Nat.min xl dl ∧ ∃ l', LR ρ l l' ∧ (Builtin.firstCells i.size n (.slice xb' xl xc')).run P w = .ok l'.toArray w := by
      unfold srcOf at hsrc
      split at hsrc
      · rename_i a len c hx1
        cases hx1
        simp only [Option.map_eq_some_iff, Prod.mk.injEq] at hsrc
        obtain ⟨l0, hl0, rfl, rfl⟩ := hsrc
        rcases hxb with ⟨hh, _⟩ | ⟨x0, x1, hh, rfl, hor⟩
        · cases hh
        · cases hh
          have hor' : Nat.min xl dl * i.size = 0 ∨ AR ρ a x1 := by
            rcases hor with h0 | h0
            · left; subst h0; simp
            · exact .inr h0
          obtain ⟨l', h1, h2, h3⟩ := seg_sound2 (P := P) h hl0 hor'
          exact ⟨rfl, l', h1, by simp only [Builtin.firstCells, h3 w rfl]⟩
      · rename_i len c hx1
        cases hx1
        split at hsrc
        · rename_i h0; cases hsrc
          rcases hxb with ⟨_, rfl⟩ | ⟨x0, x1, hh, _⟩
          · exact ⟨h0.symm, [], LR.nil _, by simp [Builtin.firstCells]⟩
          · cases hh
        · cases hsrc
      · rename_i hx1; cases hx1
      · cases hsrc
    obtain ⟨rfl, l', hl, hfirst⟩ := hread
    have hhead : (Builtin.copy_ #[t, u] ty #[.slice b' dl dc', .slice xb' xl xc']).run P w =
        match b' with
        | some a => ((storeCells a l').run P w).andThen fun _ w' => .ok (.int .i64 (Nat.min xl dl : Nat)) w'
        | none => .ok (.int .i64 (Nat.min xl dl : Nat)) w := by
      cases b' <;> simp [Builtin.copy_, run_underlying ht, Builtin.lenOf, run_sizeOf hi, hfirst, goInt]
    split at hy
    · rename_i a
      simp only [Option.map_eq_some_iff] at hy
      obtain ⟨σ', hp, rfl⟩ := hy
      rcases hbase with ⟨hh, _⟩ | ⟨x0, x1, hh, rfl, hor⟩
      · cases hh
      · cases hh
        have hor' : l = [] ∨ AR ρ a x1 := by
          rcases hor with h0 | h0
          · left
            subst h0
            have := srcOf_len hsrc
            rw [show Nat.min xl 0 = 0 from Nat.min_zero _] at this
            simpa using this
          · exact .inr h0
        obtain ⟨w', e1, e2, e3⟩ := aPoke_sound (P := P) h hp hor' hl
        rw [hhead]
        exact ⟨_, w', by simp only [e1, Result.andThen_ok], e2, .int _ _⟩
    · cases hy
      rcases hbase with ⟨_, rfl⟩ | ⟨x0, x1, hh, _⟩
      · rw [hhead]; exact ⟨_, w, rfl, h, .int _ _⟩
      · cases hh
  · cases hy

theorem bytesOf_ints : ∀ (l : List Value) (bs : List UInt8), Ax.bytesOf l = some bs → ∃ ns : List Int, l = ns.map (Value.int .u8) ∧ bs = ns.map fun n => UInt8.ofNat n.toNat
  | [], bs, h => by simp [Ax.bytesOf] at h; subst h; exact ⟨[], rfl, rfl⟩
  | v :: t, bs, h => by
    unfold Ax.bytesOf at h
    split at h
    · cases ‹_ :: _ = []›
    · rename_i n l' he
      cases he
      simp only [Option.map_eq_some_iff] at h
      obtain ⟨bs', hb, rfl⟩ := h
      obtain ⟨ns, rfl, rfl⟩ := bytesOf_ints _ bs' hb
      exact ⟨n :: ns, rfl, rfl⟩
    · cases h

theorem foldl_push_ints : ∀ (l : List Int) (r : ByteArray), l.foldl (fun r n => r.push (UInt8.ofNat n.toNat)) r = ⟨(r.data.toList ++ l.map fun n => UInt8.ofNat n.toNat).toArray⟩
  | [], r => by simp
  | b :: l, r => by
    simp only [List.foldl_cons, List.map_cons]
    rw [foldl_push_ints l]
    simp [ByteArray.push]

theorem LR.bytes {l l' : List Value} {bs : List UInt8} (h : LR ρ l l') (hb : Ax.bytesOf l = some bs) : Ax.bytesOf l' = some bs := by
  induction l generalizing l' bs with
  | nil => rw [h.nil_inv]; exact hb
  | cons v t ih =>
    obtain ⟨v', t', rfl, h1, h2⟩ := h.cons_inv
    unfold Ax.bytesOf at hb
    split at hb
    · cases ‹_ :: _ = []›
    · rename_i n l0 he
      cases he
      simp only [Option.map_eq_some_iff] at hb
      obtain ⟨bs', hb, rfl⟩ := hb
      rw [h1.int_inv]
      simp [Ax.bytesOf, ih h2 hb]
    · cases hb

theorem aBytesStr_sound (h : Rel B w0 ρ σ w) {x x' v : Value} (hx : VR ρ x x') (hv : aBytesStr x σ = some v) : (Conv.bytesToString x').run P w = .ok v w ∧ VR ρ v v := by
  unfold aBytesStr at hv
  split at hv
  · cases hv
    obtain ⟨a', c', rfl, hor⟩ := hx.slice_ar
    rcases hor with ⟨_, rfl⟩ | ⟨x0, x1, hh, _⟩
    · exact ⟨by simp [Conv.bytesToString], .string _⟩
    · cases hh
  · rename_i a n c
    simp only [Option.bind_eq_some_iff, Option.map_eq_some_iff] at hv
    obtain ⟨l, hl, bs, hb, rfl⟩ := hv
    obtain ⟨a', c', rfl, hor⟩ := hx.slice_ar
    rcases hor with ⟨hh, _⟩ | ⟨x0, x1, hh, rfl, hor⟩
    · cases hh
    · cases hh
      obtain ⟨l', h1, h2, h3⟩ := seg_sound2 (P := P) h hl hor
      obtain ⟨ns, rfl, rfl⟩ := bytesOf_ints _ _ (h1.bytes hb)
      refine ⟨?_, .string _⟩
      rw [run_bytesToString w x1 n c' ns (h3 w rfl), foldl_push_ints]
      have he0 : ByteArray.empty.data = #[] := rfl
      rw [he0]
      simp
  · cases hv

/-! ### Literals of structs and slices -/
def placesOf (P : Program) : List Field → Option (List (Nat × Nat))
  | [] => some []
  | f :: fs => match P.info? f.type, placesOf P fs with
    | some i, some l => some ((f.offset, i.size) :: l)
    | _, _ => none

def aFill (place : Nat → Option (Nat × Nat)) (cells : List Value) : List (Nat × Value) → Option (List Value)
  | [] => some cells
  | (i, v) :: rest =>
    match place i with
    | none => none
    | some (off, size) =>
      cond (live v && Nat.beq v.cells.size size && Nat.ble (off + v.cells.size) cells.length) (aFill place (splice cells off v.cells.toList) rest) none

def aBuild (P : Program) (t : TypeId) (parts : List (Nat × Value)) : Option Value :=
  match zeroOf P t, P.underlying t with
  | some z, some (.struct fs) => match placesOf P fs.toList with
    | some pl => (aFill (pl[·]?) z.cells.toList parts).map fun l => .agg l.toArray
    | none => none
  | some z, some (.array _ e) => match P.info? e with
    | some i => (aFill (fun k => some (k * i.size, i.size)) z.cells.toList parts).map fun l => .agg l.toArray
    | none => none
  | _, _ => none

def aBuildSlice (P : Program) (t : TypeId) (len : Nat) (parts : List (Nat × Value)) (σ : AHeap) : Option (Value × AHeap) :=
  match elemOf? P t with
  | some (e, z, _) =>
    match len with
    | 0 => some (.slice (some ⟨ZB, 0, some 0⟩) 0 0, σ)
    | _ => match zeroOf P e with
      | some zv => cond (Nat.ble (len * z) 16777216 && Nat.blt 0 z) ((aFill (fun k => some (k * z, z)) (reps len zv.cells.toList) parts).map fun l => (.slice (some ⟨σ.size, 0, none⟩) len len, σ.push (.cells l e false))) none
      | none => none
  | none => none

/-- Parts, one by one. -/
def PR (ρ : List RB) (l l' : List (Nat × Value)) : Prop := l.length = l'.length ∧ ∀ (i : Nat) p p', l[i]? = some p → l'[i]? = some p' → p.1 = p'.1 ∧ VR ρ p.2 p'.2

theorem PR.cons_inv {p : Nat × Value} {l l' : List (Nat × Value)} (h : PR ρ (p :: l) l') : ∃ p' t', l' = p' :: t' ∧ p.1 = p'.1 ∧ VR ρ p.2 p'.2 ∧ PR ρ l t' := by
  cases l' with
  | nil => have := h.1; simp at this
  | cons p' t' =>
    have h0 := h.2 0 p p' rfl rfl
    exact ⟨p', t', rfl, h0.1, h0.2, by have := h.1; simpa using this, fun i a b ha hb => h.2 (i + 1) a b (by simpa using ha) (by simpa using hb)⟩

theorem fold_splice (vs : List Value) : ∀ (k off : Nat) (cs : Array Value), off + k + vs.length ≤ cs.size →
    ((vs.zipIdx k).foldl (fun (cs : Array Value) (p : Value × Nat) => cs.setIfInBounds (off + p.2) p.1) cs).toList = cs.toList.take (off + k) ++ vs ++ cs.toList.drop (off + k + vs.length) := by
  induction vs with
  | nil => intro k off cs h; simp
  | cons v t ih =>
    intro k off cs h
    simp only [List.zipIdx_cons, List.foldl_cons]
    rw [ih (k + 1) off (cs.setIfInBounds (off + k) v) (by simp at h ⊢; omega)]
    have hs := list_seg_step cs.toList (off + k) v t (by simp at h ⊢; omega)
    simp only [Array.toList_setIfInBounds, List.length_cons]
    rw [show off + (k + 1) = off + k + 1 by omega]
    exact hs

theorem zipIdx_fold (v : Array Value) (off : Nat) (cs : Array Value) (h : off + v.size ≤ cs.size) :
    (v.zipIdx.foldl (fun (cs : Array Value) (p : Value × Nat) => cs.setIfInBounds (off + p.2) p.1) cs).toList = splice cs.toList off v.toList := by
  have := fold_splice v.toList 0 off cs (by simpa using h)
  simp only [Nat.add_zero] at this
  rw [← Array.foldl_toList, Array.toList_zipIdx]
  unfold splice
  exact this

theorem aFill_sound {place : Nat → Option (Nat × Nat)} : ∀ (parts parts' : List (Nat × Value)) (cells : List Value) (cells' : Array Value) (l : List Value),
    PR ρ parts parts' → LR ρ cells cells'.toList → aFill place cells parts = some l → ∃ l', Instr.fill place cells' parts' = some l' ∧ LR ρ l l'.toList
  | [], parts', cells, cells', l, hp, hc, h => by
    have : parts' = [] := List.length_eq_zero_iff.1 hp.1.symm
    subst this
    simp [aFill] at h; subst h
    exact ⟨cells', rfl, hc⟩
  | (i, v) :: rest, parts', cells, cells', l, hp, hc, h => by
    obtain ⟨⟨i', v'⟩, t', rfl, hi, hv, ht⟩ := hp.cons_inv
    simp only at hi hv; subst hi
    unfold aFill at h
    split at h
    · cases h
    · rename_i off size hpl
      cases hb : (live v && Nat.beq v.cells.size size && Nat.ble (off + v.cells.size) cells.length) with
      | false => rw [hb] at h; cases h
      | true =>
        rw [hb] at h
        simp only [cond_true] at h
        rw [Bool.and_eq_true, Bool.and_eq_true] at hb
        obtain ⟨⟨b1, b2⟩, b3⟩ := hb
        have b2 := Nat.eq_of_beq_eq_true b2
        have b3 := Nat.le_of_ble_eq_true b3
        have hl := hv.cells b1
        have hsz : v'.cells.size = v.cells.size := by have := hl.1; simpa using this.symm
        have hcz : cells'.size = cells.length := by have := hc.1; simpa using this.symm
        have key : LR ρ (splice cells off v.cells.toList) (v'.cells.zipIdx.foldl (fun (cs : Array Value) (p : Value × Nat) => cs.setIfInBounds (off + p.2) p.1) cells').toList := by
          rw [zipIdx_fold _ _ _ (by omega)]
          exact hc.splice hl off
        obtain ⟨l', h1, h2⟩ := aFill_sound rest t' _ _ l ht key h
        refine ⟨l', ?_, h2⟩
        unfold Instr.fill
        rw [hpl]
        simp only
        have hn1 : ¬ (v'.cells.size ≠ size ∨ off + v'.cells.size > cells'.size) := by omega
        simp only [hsz, b2, hcz]
        rw [if_neg (by simp; omega)]
        exact h1

theorem run_places {fs : List Field} : ∀ {l : List (Nat × Nat)}, placesOf P fs = some l → (fs.mapM (m := Sem) fun f => Prod.mk f.offset <$> sizeOf f.type).run P w = .ok l w := by
  induction fs with
  | nil => intro l h; simp [placesOf] at h; subst h; simp
  | cons f fs ih =>
    intro l h
    unfold placesOf at h
    split at h
    · rename_i i l' hi hl
      cases h
      simp [List.mapM_cons, run_sizeOf hi, ih hl]
    · cases h

theorem aBuild_sound {t : TypeId} {parts : List (Nat × Value)} {parts' : Array (Nat × Value)} {v : Value} (hp : PR ρ parts parts'.toList) (h : aBuild P t parts = some v) :
    ∃ v', (Instr.build t parts').run P w = .ok v' w ∧ VR ρ v v' := by
  unfold aBuild at h
  split at h
  · rename_i z fs hz ht
    obtain ⟨i, hi, hz', hr, _⟩ := zeroOf_inv hz
    split at h
    · rename_i pl hpl
      simp only [Option.map_eq_some_iff] at h
      obtain ⟨l, hf, rfl⟩ := h
      obtain ⟨l', h1, h2⟩ := aFill_sound (ρ := ρ) parts parts'.toList z.cells.toList z.cells l hp (hr ρ) hf
      refine ⟨.agg l', ?_, VR.agg' (by simpa using h2)⟩
      have hm : (fs.mapM (m := Sem) fun f => do pure (f.offset, ← sizeOf f.type)).run P w = .ok pl.toArray w := by
        rw [Array.mapM_eq_mapM_toList]
        simp [run_places (w := w) hpl]
      simp only [Instr.build, Sem.run_bind, run_zeroValue hi hz', Result.andThen_ok, run_underlying ht, hm]
      have hpl2 : (fun (x : Nat) => pl.toArray[x]?) = (fun (x : Nat) => pl[x]?) := by funext x; simp
      rw [hpl2, h1]
      simp
    · cases h
  · rename_i z n e hz ht
    obtain ⟨i, hi, hz', hr, _⟩ := zeroOf_inv hz
    split at h
    · rename_i j hj
      simp only [Option.map_eq_some_iff] at h
      obtain ⟨l, hf, rfl⟩ := h
      obtain ⟨l', h1, h2⟩ := aFill_sound (ρ := ρ) parts parts'.toList z.cells.toList z.cells l hp (hr ρ) hf
      refine ⟨.agg l', ?_, VR.agg' (by simpa using h2)⟩
      simp [Instr.build, run_zeroValue hi hz', run_underlying ht, run_sizeOf hj, h1]
    · cases h
  · cases h

theorem aBuildSlice_sound (h : Rel B w0 ρ σ w) {t : TypeId} {len : Nat} {parts : List (Nat × Value)} {parts' : Array (Nat × Value)} {y : Value × AHeap} (hp : PR ρ parts parts'.toList) (hy : aBuildSlice P t len parts σ = some y) (hpl : len = 0 → parts = []) :
    ∃ v' w' ρ', (Instr.buildSlice t len parts').run P w = .ok v' w' ∧ Ext ρ ρ' ∧ Rel B w0 ρ' y.2 w' ∧ VR ρ' y.1 v' := by
  unfold aBuildSlice at hy
  split at hy
  · rename_i e z by' he
    obtain ⟨i, ht, hi, rfl, rfl⟩ := elemOf_inv he
    split at hy
    · cases hy
      have hpn := hpl rfl
      subst hpn
      have hp0 : parts'.toList = [] := List.length_eq_zero_iff.1 hp.1.symm
      have hp0 : parts' = #[] := by simpa using hp0
      subst hp0
      have hg : ∀ k, k < B → (w.alloc (.cells #[] e)).heap[k]? = w.heap[k]? := fun k hk => Below.heap_alloc _ _ _ (by have := h.hsize; omega)
      refine ⟨_, w.alloc (.cells #[] e), ρ, by simp [Instr.buildSlice, run_underlying ht, run_sizeOf hi, Instr.fill, newRow, Array.range_zero']; rfl, Ext.refl _, h.garbage _, .zslice 0 _⟩
    · rename_i hlen
      split at hy
      · rename_i zv hz
        obtain ⟨i', hi', hz', hr, hzs⟩ := zeroOf_inv hz
        rw [hi] at hi'; cases hi'
        cases hb : (Nat.ble (len * i.size) 16777216 && Nat.blt 0 i.size) with
        | false => rw [hb] at hy; cases hy
        | true =>
          rw [hb] at hy
          simp only [cond_true, Option.map_eq_some_iff] at hy
          obtain ⟨l, hf, rfl⟩ := hy
          rw [Bool.and_eq_true] at hb
          have hb1 := Nat.le_of_ble_eq_true hb.1
          have hb2 : 0 < i.size := by simpa using hb.2
          have hl0 : len ≠ 0 := fun e => hlen (by rw [e])
          have hc0 : LR ρ (reps len zv.cells.toList) (madeCells zv.cells (len * zv.cells.size)).toList := by
            rw [made_cells]; simpa using (hr ρ).reps len
          obtain ⟨l', h1, h2⟩ := aFill_sound (ρ := ρ) parts parts'.toList _ _ l hp hc0 hf
          obtain ⟨ρ', e1, e2, e3⟩ := new_sound h e h2
          have hnz : ¬ (len * i.size = 0) := by
            intro e; rcases Nat.mul_eq_zero.1 e with e | e <;> omega
          rw [hzs] at h1
          unfold madeCells at h1
          refine ⟨.slice (some ⟨w.heap.size, 0, none⟩) len len, w.alloc (.cells l' e), ρ', ?_, e1, by simpa using e2, ?_⟩
          · have hb1' : ¬ (16777216 < len * i.size) := by omega
            simp only [Instr.buildSlice, Sem.run_bind, run_underlying ht, Result.andThen_ok, run_sizeOf hi]
            simp [hb1', hnz, run_zeroValue hi hz', h1, newRow]
          · obtain ⟨r, hr1, hr2, hr3⟩ := e3
            exact .mk_exact (x := ⟨σ.size, 0, none⟩) (by
              have : len * 1 ≤ len * i.size := Nat.mul_le_mul_left _ hb2
              unfold OPEN; omega) hr1 rfl hr3
      · cases hy
  · cases hy
end
end Go.Ax
