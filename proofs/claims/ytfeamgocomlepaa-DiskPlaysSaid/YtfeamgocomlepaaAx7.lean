/- Each abstract operation is met by the machine's: the rest of slices, addresses, make, append, copy. No statement of the seat is proved here. -/
import Derived.Test.YtfeamgocomlepaaAx5
import Derived.Test.YtfeamgocomlepaaAx6
import Derived.Laws.MakeOwn
namespace Go.Ax
open Go.RowKit

section
variable {P : Program} {B : Nat} {w0 : World} {ρ : List RB} {σ : AHeap} {w : World}

theorem aSliceStr_sound {t : TypeId} {x x' v : Value} {lo lo' hi hi' : Option Value} (ht : P.underlying t = some .string)
    (hx : VR ρ x x') (h1 : VO ρ lo lo') (h2 : VO ρ hi hi') (h : aSliceStr x lo hi = some v) :
    (Instr.slice t x' lo' hi' none).run P w = .ok v w ∧ VR ρ v v := by
  unfold aSliceStr at h
  split at h
  · rename_i s
    rw [hx.string_inv]
    simp only [Option.bind_eq_some_iff] at h
    obtain ⟨hh, e1, ll, e2, h⟩ := h
    cases h
    obtain ⟨hb, _⟩ := run_bounds2 (P := P) (w := w) false s.size s.size h1 h2 e1 e2 (Nat.le_refl _)
    exact ⟨by simp [Instr.slice, run_underlying ht, hb], .string _⟩
  · cases h

theorem aSliceArr_bounds {n z : Nat} {x x' v : Value} {lo lo' hi hi' mx mx' : Option Value} 
    (hx : VR ρ x x') (h1 : VO ρ lo lo') (h2 : VO ρ hi hi') (h3 : VO ρ mx mx') (h : aSliceArr n z x lo hi mx = some v) :
    ∃ a' ll hh, x' = .pointer (some a') ∧ mx' = none ∧ (Instr.sliceBounds false n n lo' hi' none).run P w = .ok (ll, hh, n) w ∧
      VR ρ v (.slice (some (if n = ll then a' else a'.add (ll * z))) (hh - ll) (n - ll)) := by
  unfold aSliceArr at h
  split at h
  · rename_i a hn
    have hn : n < OPEN := by simpa using hn
    cases h3
    obtain ⟨a', rfl, ha⟩ := hx.ptr_inv
    simp only [Option.bind_eq_some_iff] at h
    obtain ⟨hh, e1, ll, e2, h⟩ := h
    cases h
    obtain ⟨hb, _⟩ := run_bounds2 (P := P) (w := w) false n n h1 h2 e1 e2 (Nat.le_refl _)
    refine ⟨a', ll, hh, rfl, rfl, hb, ?_⟩
    obtain ⟨r, hr, hs, rfl⟩ := ha
    split
    · exact .mk_exact (by omega) hr hs rfl
    · rw [add_plain _ _ hs, Addr.add_lit]
      exact .mk_exact (x := ⟨a.block, a.off + ll * z, none⟩) (by omega) hr rfl (by simp [Nat.add_assoc])
  · cases h

theorem aSliceOp_sound {t : TypeId} {x x' v : Value} {lo lo' hi hi' mx mx' : Option Value}
    (hx : VR ρ x x') (h1 : VO ρ lo lo') (h2 : VO ρ hi hi') (h3 : VO ρ mx mx') (h : aSliceOp P t x lo hi mx = some v) :
    ∃ v', (Instr.sliceAt t x' lo' hi' mx').run P w = .ok v' w ∧ VR ρ v v' := by
  unfold aSliceOp at h
  split at h
  · rename_i ht
    split at h
    · cases h3
      obtain ⟨a, b⟩ := aSliceStr_sound (w := w) ht hx h1 h2 h
      exact ⟨v, by simp [Instr.sliceAt, run_underlying ht, a], b⟩
    · cases h
  · rename_i e ht
    split at h
    · rename_i i hi
      obtain ⟨v', a, b⟩ := aSlice_sound (w := w) ht hi rfl hx h1 h2 h3 h
      exact ⟨v', by simp [Instr.sliceAt, run_underlying ht, a], b⟩
    · cases h
  · rename_i n e ht
    split at h
    · rename_i i hi
      obtain ⟨a', ll, hh, rfl, rfl, hb, hv⟩ := aSliceArr_bounds (P := P) (w := w) hx h1 h2 h3 h
      exact ⟨_, by simp [Instr.sliceAt, run_underlying ht, Instr.sureAddr, hb, run_sizeOf hi], hv⟩
    · cases h
  · rename_i arr ht
    split at h
    · rename_i n e ha
      split at h
      · rename_i i hi
        obtain ⟨a', ll, hh, rfl, rfl, hb, hv⟩ := aSliceArr_bounds (P := P) (w := w) hx h1 h2 h3 h
        exact ⟨_, by simp [Instr.sliceAt, Instr.slice, run_underlying ht, run_underlying ha, asAddr, hb, run_sizeOf hi], hv⟩
      · cases h
    · cases h
  · cases h

theorem aIndexAddrOp_sound {t : TypeId} {x x' i i' v : Value} (hx : VR ρ x x') (hi : VR ρ i i') (h : aIndexAddrOp P t x i = some v) :
    ∃ v', (Instr.indexAt t x' i').run P w = .ok v' w ∧ VR ρ v v' := by
  unfold aIndexAddrOp at h
  split at h
  · rename_i e ht
    split at h
    · rename_i j hj
      unfold aIndexAddr at h
      split at h
      · rename_i a len c k n
        rw [hi.int_inv]
        split at h
        · rename_i hb; cases h
          obtain ⟨a', c', rfl, _, _, hcases⟩ := hx.slice_inv
          rcases hcases with ⟨hh, _⟩ | ⟨x, x1, r, hxe, rfl, hr, rfl, _, hs0⟩ | ⟨x1, _, hl, _⟩ | ⟨o, x1, _, hl, _⟩
          · cases hh
          · cases hxe
            refine ⟨_, ?_, (AR.add ⟨r, hr, hs0, rfl⟩ (n.toNat * j.size)).ptr⟩
            simp [Instr.indexAt, run_underlying ht, asIntOf, hb, run_sizeOf hj]
          · omega
          · omega
        · cases h
      · cases h
    · cases h
  · rename_i n e ht
    split at h
    · rename_i j hj
      unfold aIndexAddrArr at h
      split at h
      · rename_i a k m
        rw [hi.int_inv]
        split at h
        · rename_i hb; cases h
          obtain ⟨a', rfl, ha⟩ := hx.ptr_inv
          refine ⟨_, ?_, (ha.add (m.toNat * j.size)).ptr⟩
          simp [Instr.indexAt, run_underlying ht, asIntOf, hb, run_sizeOf hj, Instr.sureAddr]
        · cases h
      · cases h
    · cases h
  · cases h

theorem aFieldAddr_sound {t : TypeId} {f off : Nat} {x x' v : Value} (hf : fieldOff P t f = some off) (hx : VR ρ x x') (h : aFieldAddr off x = some v) :
    ∃ v', (Instr.fieldAt t x' f).run P w = .ok v' w ∧ VR ρ v v' := by
  unfold fieldOff at hf
  split at hf
  · rename_i fs ht
    split at hf
    · rename_i fd hfd
      split at hf
      · rename_i i hi
        split at hf
        · cases hf
        · rename_i hz; cases hf
          unfold aFieldAddr at h
          split at h
          · rename_i a; cases h
            obtain ⟨a', rfl, ha⟩ := hx.ptr_inv
            refine ⟨_, ?_, (ha.add fd.offset).ptr⟩
            simp [Instr.fieldAt, run_underlying ht, hfd, Instr.sureAddr, fieldPlace, run_sizeOf hi, hz]
          · cases h
      · cases hf
    · cases hf
  · cases hf

theorem reps_length (n : Nat) (l : List Value) : (reps n l).length = n * l.length := by
  induction n with
  | zero => simp [reps]
  | succ n ih => simp [reps, ih, Nat.succ_mul]; omega

theorem reps_get (n : Nat) (l : List Value) (i : Nat) (h : i < n * l.length) : (reps n l)[i]? = l[i % l.length]? := by
  induction n generalizing i with
  | zero => simp at h
  | succ n ih =>
    simp only [reps, List.getElem?_append]
    split
    · rename_i hi; rw [Nat.mod_eq_of_lt hi]
    · rename_i hi
      rw [ih _ (by rw [Nat.succ_mul] at h; omega)]
      congr 1
      rw [← Nat.mod_eq_sub_mod (by omega)]

theorem made_cells (n : Nat) (z : Array Value) : madeCells z (n * z.size) = (reps n z.toList).toArray := by
  apply Array.ext'
  simp only [madeCells, Array.toList_map, Array.toList_range]
  apply List.ext_getElem?
  intro i
  simp only [List.getElem?_map]
  by_cases hi : i < n * z.size
  · rw [reps_get n z.toList i (by simpa using hi)]
    have hpos : 0 < z.size := by
      rcases Nat.eq_zero_or_pos z.size with h | h
      · rw [h] at hi; simp at hi
      · exact h
    have hm : i % z.size < z.size := Nat.mod_lt _ hpos
    simp [List.getElem?_range hi, hm]
  · rw [List.getElem?_eq_none (by simpa using hi), List.getElem?_eq_none (by rw [reps_length]; simpa using hi)]
    rfl

theorem LR.reps {l l' : List Value} (h : LR ρ l l') (n : Nat) : LR ρ (reps n l) (reps n l') := by
  induction n with
  | zero => exact LR.nil _
  | succ n ih => exact h.append ih

theorem run_askRoom (n : Nat) : (askRoom n).run P w = .ok () w := by
  unfold askRoom
  split <;> simp [mark, Sem.run]

theorem elemOf_inv {t e : TypeId} {z by' : Nat} (h : elemOf? P t = some (e, z, by')) : ∃ i, P.underlying t = some (.slice e) ∧ P.info? e = some i ∧ i.size = z ∧ i.bytes = by' := by
  unfold elemOf? at h
  split at h
  · rename_i e' ht
    split at h
    · rename_i i hi; cases h; exact ⟨i, ht, hi, rfl, rfl⟩
    · cases h
  · cases h

theorem aMake_sound (h : Rel B w0 ρ σ w) {t e : TypeId} {z by' : Nat} {zv l l' c c' : Value} {x : Value × AHeap} (he : elemOf? P t = some (e, z, by')) (hz : zeroOf P e = some zv)
    (hl : VR ρ l l') (hc : VR ρ c c') (hm : aMake e by' zv.cells.toList l c σ = some x) :
    ∃ v' w' ρ', (Instr.makeSlice t l' c').run P w = .ok v' w' ∧ Ext ρ ρ' ∧ Rel B w0 ρ' x.2 w' ∧ VR ρ' x.1 v' := by
  obtain ⟨i, ht, hi, rfl, rfl⟩ := elemOf_inv he
  obtain ⟨i', hi', hz', hr, hzs⟩ := zeroOf_inv hz
  rw [hi] at hi'; cases hi'
  unfold aMake at hm
  split at hm
  · rename_i k1 n k2 m
    rw [hl.int_inv, hc.int_inv]
    split at hm
    · rename_i hb
      cases hm
      obtain ⟨h0, h1, h2, h3⟩ := hb
      obtain ⟨ρ', e1, e2, e3⟩ := new_sound h e ((hr ρ).reps m.toNat)
      have hrun := run_make (P := P) w t e i zv ht hi hz' k1 k2 n m h0 h1 (by rw [Int.mul_comm]; omega) (by omega)
      rw [← hzs, made_cells] at hrun
      refine ⟨_, _, ρ', hrun, e1, e2, ?_⟩
      obtain ⟨r, hr1, hr2, hr3⟩ := e3
      exact .mk_exact (x := ⟨σ.size, 0, none⟩) (by unfold OPEN; omega) hr1 rfl hr3
    · cases hm
  · cases hm

/-! ### append, copy -/
theorem LR.of_flat {l : List Value} (h : ∀ v ∈ l, flat1 v = true) : LR ρ l l := flats_refl ρ (List.all_eq_true.2 h)

theorem seg_sound2 (h : Rel B w0 ρ σ w) {a a' : Addr} {n : Nat} {l : List Value} (hs : seg σ a n = some l) (ha : n = 0 ∨ AR ρ a a') :
    ∃ l', LR ρ l l' ∧ l'.length = n ∧ ∀ w2 : World, w2.heap = w.heap → (loadCells a' n).run P w2 = .ok l'.toArray w2 := by
  obtain ⟨l', h1, h2, h3⟩ := seg_sound h hs ha
  refine ⟨l', h1, h2, fun w2 hw => run_seg h2 fun j v hv => ?_⟩
  have := h3 j v hv
  unfold World.cell? at *
  rw [hw]; exact this

theorem srcOf_sound (h : Rel B w0 ρ σ w) {z n : Nat} {x x' : Value} {news : List Value} (hx : VR ρ x x') (hs : srcOf z x σ = some (n, news)) :
    ∃ news', LR ρ news news' ∧ (∀ w2 : World, (Builtin.lenOf x').run P w2 = .ok n w2) ∧ ∀ w2 : World, w2.heap = w.heap → (Builtin.firstCells z n x').run P w2 = .ok news'.toArray w2 := by
  unfold srcOf at hs
  split at hs
  · rename_i a len c
    simp only [Option.map_eq_some_iff] at hs
    obtain ⟨l, hl, he⟩ := hs
    cases he
    obtain ⟨a', c', rfl, _, _, hcases⟩ := hx.slice_inv
    rcases hcases with ⟨hh, _⟩ | ⟨x, x1, r, hxe, rfl, hr, rfl, _, hs0⟩ | ⟨x1, _, rfl, _, rfl, _⟩ | ⟨o, x1, _, rfl, _, rfl, _⟩
    · cases hh
    · cases hxe
      obtain ⟨l', h1, h2, h3⟩ := seg_sound2 (P := P) h hl (.inr ⟨r, hr, hs0, rfl⟩)
      exact ⟨l', h1, fun w2 => by simp [Builtin.lenOf], fun w2 hw => by simp [Builtin.firstCells, h3 w2 hw]⟩
    all_goals
      obtain ⟨l', h1, h2, h3⟩ := seg_sound2 (P := P) (a' := x1) h hl (.inl (by omega))
      exact ⟨l', h1, fun w2 => by simp [Builtin.lenOf], fun w2 hw => by simp only [Builtin.firstCells, h3 w2 hw]⟩
  · rename_i len c
    split at hs
    · rename_i hn; cases hs; subst hn
      cases hx
      exact ⟨[], LR.nil _, fun w2 => by simp [Builtin.lenOf], fun w2 _ => by simp [Builtin.firstCells]⟩
    · cases hs
  · rename_i s
    split at hs
    case isFalse => cases hs
    cases hs
    rw [hx.string_inv]
    have he : s.extract 0 s.size = s := by
      apply ByteArray.ext; simp [ByteArray.data_extract]
    refine ⟨_, LR.of_flat (l := s.data.toList.map fun b => Value.int .u8 b.toNat) ?_, fun w2 => by simp [Builtin.lenOf], fun w2 _ => by simp [Builtin.firstCells, he]; exact Array.ext' (by simp)⟩
    intro v hv
    simp at hv
    obtain ⟨b, _, rfl⟩ := hv
    rfl
  · cases hs
end
end Go.Ax
