/- Each abstract operation is met by the machine's: numbers, comparisons, slices, append, copy. No statement of the seat is proved here. -/
import Derived.Test.YtfeamgocomlepaaAx4
namespace Go.Ax
open Go.RowKit

section
variable {P : Program} {B : Nat} {w0 : World} {ρ : List RB} {σ : AHeap} {w : World}

theorem VR.int_inv {k : IntKind} {n : Int} {v' : Value} (h : VR ρ (.int k n) v') : v' = .int k n := by cases h; rfl
theorem VR.bool_inv {b : Bool} {v' : Value} (h : VR ρ (.bool b) v') : v' = .bool b := by cases h; rfl
theorem VR.string_inv {b : ByteArray} {v' : Value} (h : VR ρ (.string b) v') : v' = .string b := by cases h; rfl

theorem aInt_sound {op : BinOp} {k : IntKind} {a b : Int} {v : Value} (t : TypeId) (h : aInt op k a b = some v) :
    (binOp op t (.int k a) (.int k b)).run P w = .ok v w ∧ VR ρ v v := by
  cases op <;> simp only [aInt, reduceCtorEq] at h
  case quo | rem =>
    split at h
    · cases h
    · rename_i hb; cases h; exact ⟨by simp [binOp, Op.intDiv, hb], .int _ _⟩
  all_goals
    cases h
    first
      | exact ⟨by simp [binOp, Op.intArith, Op.intBits, Op.intCmp], .int _ _⟩
      | exact ⟨by simp [binOp, Op.intArith, Op.intBits, Op.intCmp], .bool _⟩

theorem aShift_sound {op : BinOp} {k yk : IntKind} {a b : Int} {v : Value} (t : TypeId) (h : aShift op k a b = some v) :
    (binOp op t (.int k a) (.int yk b)).run P w = .ok v w ∧ VR ρ v v := by
  unfold aShift at h
  split at h
  · cases h
  · rename_i hb
    cases op <;> simp only [reduceCtorEq] at h
    all_goals cases h; exact ⟨by simp [binOp, Op.shift, hb], .int _ _⟩

theorem aStr_sound {op : BinOp} {a b : ByteArray} {v : Value} (t : TypeId) (h : aStr op a b = some v) :
    (binOp op t (.string a) (.string b)).run P w = .ok v w ∧ VR ρ v v := by
  cases op <;> simp only [aStr, reduceCtorEq] at h
  case add =>
    split at h
    · rename_i hb; cases h
      refine ⟨?_, .string _⟩
      have hb' : ¬ (IntKind.i64.max < (a.size : Int) + (b.size : Int)) := by rw [IntKind.max_i64]; omega
      simp [binOp, Op.stringOp, hb']
      omega
    · cases h
  all_goals cases h; exact ⟨by simp [binOp, Op.stringOp], .bool _⟩

theorem equal_step (t : TypeId) (x y : Value) : Op.equal t x y = Op.equalIn (9999 + 1) t x y := rfl

theorem VR.ptrO_inv {a : Option Addr} {v' : Value} (h : VR ρ (.pointer a) v') : ∃ a', v' = .pointer a' ∧ a'.isNone = a.isNone := by
  cases h with
  | nilptr => exact ⟨none, rfl, rfl⟩
  | ptr b o r _ => exact ⟨some _, rfl, rfl⟩
theorem VR.sliceO_inv {a : Option Addr} {l c : Nat} {v' : Value} (h : VR ρ (.slice a l c) v') : ∃ a' c', v' = .slice a' l c' ∧ a'.isNone = a.isNone := by
  cases h with
  | nilslice => exact ⟨none, _, rfl, rfl⟩
  | slice b o l c c' r _ _ => exact ⟨some _, _, rfl, rfl⟩
  | zany a c' _ => exact ⟨some _, _, rfl, rfl⟩
  | zslice o a => exact ⟨some _, _, rfl, rfl⟩
theorem VR.mapO_inv {a : Option Nat} {v' : Value} (h : VR ρ (.map a) v') : ∃ a', v' = .map a' ∧ a'.isNone = a.isNone := by
  cases h with
  | nilmap => exact ⟨none, rfl, rfl⟩
  | map b r _ => exact ⟨some _, rfl, rfl⟩

theorem aEq_sound {d : TypeDesc} {t : TypeId} {x y x' y' : Value} {b : Bool} (hd : P.underlying t = some d) (hx : VR ρ x x') (hy : VR ρ y y') (h : aEq d x y = some b) :
    (Op.equal t x' y').run P w = .ok b w ∧
      (∀ (o1 o2 : Operand) (op : BinOp), (eqGuard op t o1 o2 x' y').run P w = .ok () w) ∧ (∀ op, op = .eql ∨ op = .neq → binOp op t x' y' = (if op = .eql then (do pure (.bool (← Op.equal t x' y'))) else (do pure (.bool (!(← Op.equal t x' y')))))) := by
  rw [equal_step]
  unfold aEq at h
  split at h
  all_goals (try (cases h; done))
  · cases h; rw [hx.bool_inv, hy.bool_inv]
    refine ⟨by unfold Op.equalIn; simp [run_underlying hd], fun o1 o2 op => ?_, fun op ho => ?_⟩
    · cases op <;> simp [eqGuard]
    · rcases ho with rfl | rfl <;> simp [binOp, equal_step]
  · cases h
    obtain ⟨b', rfl, hb⟩ := hy.ptrO_inv
    cases hx
    refine ⟨by unfold Op.equalIn; simp [run_underlying hd, hb], fun o1 o2 op => ?_, fun op ho => ?_⟩
    · cases op <;> simp [eqGuard]
    · rcases ho with rfl | rfl <;> simp [binOp, equal_step]
  · cases h
    obtain ⟨a', rfl, hb⟩ := hx.ptrO_inv
    cases hy
    cases a' with
    | none => simp at hb
    | some a' =>
      refine ⟨by unfold Op.equalIn; simp [run_underlying hd], fun o1 o2 op => ?_, fun op ho => ?_⟩
      · cases op <;> simp [eqGuard]
      · rcases ho with rfl | rfl <;> simp [binOp, equal_step]
  · cases h
    obtain ⟨b', c', rfl, hb⟩ := hy.sliceO_inv
    cases hx
    refine ⟨by unfold Op.equalIn; simp [run_underlying hd, hb], fun o1 o2 op => ?_, fun op ho => ?_⟩
    · cases op <;> simp [eqGuard]
    · rcases ho with rfl | rfl <;> simp [binOp, equal_step]
  · cases h
    obtain ⟨a', c', rfl, hb⟩ := hx.sliceO_inv
    cases hy
    cases a' with
    | none => simp at hb
    | some a' =>
      refine ⟨by unfold Op.equalIn; simp [run_underlying hd], fun o1 o2 op => ?_, fun op ho => ?_⟩
      · cases op <;> simp [eqGuard]
      · rcases ho with rfl | rfl <;> simp [binOp, equal_step]
  · cases h
    obtain ⟨b', rfl, hb⟩ := hy.mapO_inv
    cases hx
    refine ⟨by unfold Op.equalIn; simp [run_underlying hd, hb], fun o1 o2 op => ?_, fun op ho => ?_⟩
    · cases op <;> simp [eqGuard]
    · rcases ho with rfl | rfl <;> simp [binOp, equal_step]
  · cases h
    obtain ⟨a', rfl, hb⟩ := hx.mapO_inv
    cases hy
    cases a' with
    | none => simp at hb
    | some a' =>
      refine ⟨by unfold Op.equalIn; simp [run_underlying hd], fun o1 o2 op => ?_, fun op ho => ?_⟩
      · cases op <;> simp [eqGuard]
      · rcases ho with rfl | rfl <;> simp [binOp, equal_step]
  all_goals
    cases h; cases hx; cases hy
    refine ⟨by unfold Op.equalIn; simp [run_underlying hd], fun o1 o2 op => ?_, fun op ho => ?_⟩
    · cases op <;> simp [eqGuard]
    · rcases ho with rfl | rfl <;> simp [binOp, equal_step]

theorem aBin_sound {op : BinOp} {t : TypeId} {x y x' y' v : Value} (o1 o2 : Operand) (hx : VR ρ x x') (hy : VR ρ y y') (h : aBin (P.underlying t) op x y = some v) :
    (do eqGuard op t o1 o2 x' y'; binOp op t x' y' : Sem Value).run P w = .ok v w ∧ VR ρ v v := by
  unfold aBin at h
  split at h
  · rename_i k a k' b
    rw [hx.int_inv, hy.int_inv]
    have hg : (eqGuard op t o1 o2 (.int k a) (.int k' b)).run P w = .ok () w := by cases op <;> simp [eqGuard]
    simp only [Sem.run_bind, hg, Result.andThen_ok]
    split at h
    · exact aShift_sound t h
    · exact aShift_sound t h
    · split at h
      · rename_i hk; subst hk; exact aInt_sound t h
      · cases h
  · rename_i a b
    rw [hx.string_inv, hy.string_inv]
    have hg : (eqGuard op t o1 o2 (.string a) (.string b)).run P w = .ok () w := by cases op <;> simp [eqGuard]
    simp only [Sem.run_bind, hg, Result.andThen_ok]
    exact aStr_sound t h
  · split at h
    · rename_i d hd
      simp only [Option.map_eq_some_iff] at h
      obtain ⟨b, hb, rfl⟩ := h
      obtain ⟨h1, h2, h3⟩ := aEq_sound (w := w) hd hx hy hb
      refine ⟨?_, .bool _⟩
      simp only [Sem.run_bind, h2, Result.andThen_ok]
      rw [h3 _ (.inl rfl)]
      simp [h1]
    · rename_i d hd
      simp only [Option.map_eq_some_iff] at h
      obtain ⟨b, hb, rfl⟩ := h
      obtain ⟨h1, h2, h3⟩ := aEq_sound (w := w) hd hx hy hb
      refine ⟨?_, .bool _⟩
      simp only [Sem.run_bind, h2, Result.andThen_ok]
      rw [h3 _ (.inr rfl)]
      simp [h1]
    · cases h

theorem aUn_sound {op : UnOp} {x x' v : Value} (hx : VR ρ x x') (h : aUn op x = some v) : (Op.unary op x').run P w = .ok v w ∧ VR ρ v v := by
  unfold aUn at h
  split at h
  · cases h; rw [hx.int_inv]; exact ⟨by simp [Op.unary, Op.intArith], .int _ _⟩
  · cases h; rw [hx.int_inv]; exact ⟨by simp [Op.unary, Op.intBits], .int _ _⟩
  · cases h; rw [hx.bool_inv]; exact ⟨by simp [Op.unary], .bool _⟩
  · cases h
end
end Go.Ax
