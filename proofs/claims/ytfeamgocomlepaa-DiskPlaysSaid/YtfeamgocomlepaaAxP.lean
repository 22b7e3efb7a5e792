/- '==' of arrays of numbers and of structs of plain fields: the abstract operation is met by the machine's. No statement of the seat is proved here. -/
import Derived.Test.YtfeamgocomlepaaAxO
import Derived.ChangeKeysEq
import Derived.Laws.StructEq
namespace Go.Ax
open Go.RowKit

def eqInts : List Value → List Value → Option Bool
  | [], [] => some true
  | .int k a :: l, .int k' b :: m => if k = k' then cond (a == b) (eqInts l m) (some false) else none
  | _, _ => none

def aEqB (P : Program) (t : TypeId) (x y : Value) : Option Bool :=
  match P.underlying t, x, y with
  | some (.int _), .int k a, .int k' b => if k = k' then some (a == b) else none
  | some .bool, .bool a, .bool b => some (a == b)
  | some .string, .string a, .string b => some (a.toList == b.toList)
  | _, _, _ => none

def eqFs (P : Program) (a b : List Value) : List Field → Option Bool
  | [] => some true
  | f :: fs => if f.name ≠ "_" then (match shp P f.type, a[f.offset]?, b[f.offset]? with
      | some (false, _), some x, some y => (aEqB P f.type x y).bind fun r => cond r (eqFs P a b fs) (some false)
      | _, _, _ => none) else eqFs P a b fs

def aEqAgg (P : Program) (t : TypeId) (x y : Value) : Option Bool :=
  match P.underlying t, x, y with
  | some (.array n e), .agg a, .agg b => match P.underlying e, P.info? e with
    | some (.int _), some i => cond (Nat.beq i.size 1 && Nat.beq a.toList.length n && Nat.beq b.toList.length n && !P.eqGuardType P.depth t) (eqInts a.toList b.toList) none
    | _, _ => none
  | some (.struct fs), .agg a, .agg b => cond (P.stoodInHeld t || P.eqGuardType P.depth t) none (eqFs P a.toList b.toList fs.toList)
  | _, _, _ => none

def aBinP (P : Program) (t : TypeId) (op : BinOp) (x y : Value) : Option Value :=
  match aBin (P.underlying t) op x y with
  | some v => some v
  | none => match op with
    | .eql => (aEqAgg P t x y).map .bool
    | .neq => (aEqAgg P t x y).map fun b => .bool !b
    | _ => none

section
variable {P : Program} {B : Nat} {w0 : World} {ρ : List RB} {σ : AHeap} {w : World}

theorem VR.agg_inv' {c : Array Value} {v' : Value} (h : VR ρ (.agg c) v') : ∃ c', v' = .agg c' ∧ LR ρ c.toList c'.toList := by
  cases h with
  | agg c c' a b => exact ⟨c', rfl, LR.of_arr a b⟩

theorem aEqB_sound {t : TypeId} {x y x' y' : Value} {b : Bool} (d : Nat) (hx : VR ρ x x') (hy : VR ρ y y') (h : aEqB P t x y = some b) : (Op.equalIn (d + 1) t x' y').run P w = .ok b w := by
  unfold aEqB at h
  split at h
  · rename_i k0 k a k' b' ht
    rw [hx.int_inv, hy.int_inv]
    split at h
    · rename_i hk; subst hk; cases h
      exact run_equalIn_int w d t k k0 a b' ht
    · cases h
  · rename_i a b' ht
    rw [hx.bool_inv, hy.bool_inv]; cases h
    exact run_equalIn_bool' w d t a b' ht
  · rename_i a b' ht
    rw [hx.string_inv, hy.string_inv]; cases h
    exact run_equalIn_string w d t a b' ht
  · cases h

theorem eqInts_sound (d : Nat) {e : TypeId} {k0 : IntKind} {i : TypeInfo} (he : P.underlying e = some (.int k0)) (hi : P.info? e = some i) (h1 : i.size = 1) (xs ys : Array Value) : ∀ (l m l' m' : List Value) (n s : Nat) (b : Bool),
    LR ρ l l' → LR ρ m m' → xs.toList.drop s = l' → ys.toList.drop s = m' → l.length = n → m.length = n → eqInts l m = some b →
    (Op.eqItems (d + 1) e 1 xs ys (List.range' s n)).run P w = .ok b w := by
  intro l
  induction l with
  | nil =>
    intro m l' m' n s b hl hm dx dy ln mn h
    subst ln
    have : m = [] := List.length_eq_zero_iff.1 mn
    subst this
    simp [eqInts] at h; subst h
    simp [Op.eqItems]
  | cons x l ih =>
    intro m l' m' n s b hl hm dx dy ln mn h
    cases m with
    | nil => simp at mn ln; omega
    | cons y m =>
      obtain ⟨x', l2, rfl, hx, hl2⟩ := hl.cons_inv
      obtain ⟨y', m2, rfl, hy, hm2⟩ := hm.cons_inv
      obtain ⟨n, rfl⟩ : ∃ k, n = k + 1 := ⟨n - 1, by simp at ln; omega⟩
      have gx : xs[s]? = some x' := by
        have := congrArg (·[0]?) dx
        simpa using this
      have gy : ys[s]? = some y' := by
        have := congrArg (·[0]?) dy
        simpa using this
      have dx2 : xs.toList.drop (s + 1) = l2 := by
        have := congrArg List.tail dx
        simpa using this
      have dy2 : ys.toList.drop (s + 1) = m2 := by
        have := congrArg List.tail dy
        simpa using this
      unfold eqInts at h
      split at h
      · rename_i heq; cases heq
      · rename_i k a l0 k' b' m0 e1 e2
        cases e1; cases e2
        rw [hx.int_inv] at gx
        rw [hy.int_inv] at gy
        split at h
        · rename_i hk; subst hk
          have hag : ∀ (v : Array Value) (z : Value), v[s]? = some z → (part e v (s * 1)).run P w = .ok z w := by
            intro v z hz
            have hz' : v[s * 1]? = some z := by simpa using hz
            simp [part, isAgg, run_underlying he, aggD, hz]
          simp only [List.range'_succ, Op.eqItems, Sem.run_bind, hag _ _ gx, hag _ _ gy, Result.andThen_ok, run_equalIn_int w d e k k0 a b' he]
          cases hab : (a == b') with
          | true =>
            rw [hab] at h
            simp only [cond_true] at h
            simp only [Bool.not_true, Bool.false_eq_true, if_false]
            exact ih m l2 m2 n (s + 1) b hl2 hm2 dx2 dy2 (by simpa using ln) (by simpa using mn) h
          | false =>
            rw [hab] at h
            simp only [cond_false, Option.some.injEq] at h
            subst h
            simp
        · cases h
      · cases h

theorem eqFs_sound (d : Nat) {xs ys : Array Value} {a b : List Value} (ha : LR ρ a xs.toList) (hb : LR ρ b ys.toList) : ∀ (fs : List Field) (r : Bool), eqFs P a b fs = some r → (Op.eqFields (d + 1) xs ys fs).run P w = .ok r w
  | [], r, h => by simp [eqFs] at h; subst h; simp [Op.eqFields]
  | f :: fs, r, h => by
    unfold eqFs at h
    unfold Op.eqFields
    split at h
    · rename_i hn
      rw [if_pos hn]
      split at h
      · rename_i n0 x y hs gx gy
        obtain ⟨x', gx', hx⟩ := ha.get gx
        obtain ⟨y', gy', hy⟩ := hb.get gy
        obtain ⟨dd, i, hd, hi, hg, _⟩ := shp_inv hs
        simp only [Option.bind_eq_some_iff] at h
        obtain ⟨r1, hr1, h⟩ := h
        have hp : ∀ (v : Array Value) (z : Value), v.toList[f.offset]? = some z → (part f.type v f.offset).run P w = .ok z w := by
          intro v z hz
          have hz' : v[f.offset]? = some z := by simpa using hz
          simp [part, run_isAgg hd, hg, hz']
        simp only [Sem.run_bind, hp _ _ gx', hp _ _ gy', Result.andThen_ok, aEqB_sound (w := w) d hx hy hr1]
        cases r1 with
        | true => simp only [cond_true] at h; simp only [Bool.not_true, Bool.false_eq_true, if_false]; exact eqFs_sound d ha hb fs r h
        | false => simp only [cond_false, Option.some.injEq] at h; subst h; simp
      · cases h
    · rename_i hn
      rw [if_neg hn]
      exact eqFs_sound d ha hb fs r h

theorem aEqAgg_sound {t : TypeId} {x y x' y' : Value} {b : Bool} (hx : VR ρ x x') (hy : VR ρ y y') (h : aEqAgg P t x y = some b) :
    ∃ xs ys, x' = .agg xs ∧ y' = .agg ys ∧ P.eqGuardType P.depth t = false ∧ (Op.equalIn 10000 t (.agg xs) (.agg ys)).run P w = .ok b w := by
  unfold aEqAgg at h
  split at h
  · rename_i n e a b' ht
    obtain ⟨xs, rfl, hxs⟩ := hx.agg_inv'
    obtain ⟨ys, rfl, hys⟩ := hy.agg_inv'
    split at h
    · rename_i k i he hi
      cases hc : (Nat.beq i.size 1 && Nat.beq a.toList.length n && Nat.beq b'.toList.length n && !P.eqGuardType P.depth t) with
      | false => rw [hc] at h; cases h
      | true =>
        rw [hc] at h
        simp only [cond_true] at h
        simp only [Bool.and_eq_true, Bool.not_eq_true'] at hc
        obtain ⟨⟨⟨c1, c2⟩, c3⟩, c4⟩ := hc
        have c1 := Nat.eq_of_beq_eq_true c1
        refine ⟨xs, ys, rfl, rfl, c4, ?_⟩
        have hcells : P.cellsOf e = 1 := by simp [Program.cellsOf, hi, c1]
        rw [show 10000 = 9999 + 1 from rfl, run_equalIn_array w 9999 xs ys ht hi, hcells, List.range_eq_range']
        exact eqInts_sound 9998 he hi c1 xs ys a.toList b'.toList xs.toList ys.toList n 0 b hxs hys rfl rfl (Nat.eq_of_beq_eq_true c2) (Nat.eq_of_beq_eq_true c3) h
    · cases h
  · rename_i fs a b' ht
    obtain ⟨xs, rfl, hxs⟩ := hx.agg_inv'
    obtain ⟨ys, rfl, hys⟩ := hy.agg_inv'
    cases hc : (P.stoodInHeld t || P.eqGuardType P.depth t) with
    | true => rw [hc] at h; cases h
    | false =>
      rw [hc] at h
      simp only [cond_false] at h
      rw [Bool.or_eq_false_iff] at hc
      have hfs : P.fieldsOf t = fs := by simp [Program.fieldsOf, ht]
      refine ⟨xs, ys, rfl, rfl, hc.2, ?_⟩
      rw [show 10000 = 9999 + 1 from rfl, run_equalIn_struct w 9999 t xs ys (by rw [hfs]; exact ht) hc.1, hfs]
      exact eqFs_sound 9998 hxs hys fs.toList b h
  · cases h

theorem aBinP_sound {op : BinOp} {t : TypeId} {x y x' y' v : Value} (o1 o2 : Operand) (hx : VR ρ x x') (hy : VR ρ y y') (h : aBinP P t op x y = some v) :
    (do eqGuard op t o1 o2 x' y'; binOp op t x' y' : Sem Value).run P w = .ok v w ∧ VR ρ v v := by
  unfold aBinP at h
  split at h
  · rename_i v0 hv0
    cases h
    exact aBin_sound o1 o2 hx hy hv0
  · split at h
    · simp only [Option.map_eq_some_iff] at h
      obtain ⟨b, hb, rfl⟩ := h
      obtain ⟨xs, ys, rfl, rfl, h1, h2⟩ := aEqAgg_sound (w := w) hx hy hb
      refine ⟨?_, .bool _⟩
      simp only [Sem.run_bind, run_eqGuard_agg w .eql t o1 o2 xs ys h1, Result.andThen_ok, run_eql_struct, h2]
    · simp only [Option.map_eq_some_iff] at h
      obtain ⟨b, hb, rfl⟩ := h
      obtain ⟨xs, ys, rfl, rfl, h1, h2⟩ := aEqAgg_sound (w := w) hx hy hb
      refine ⟨?_, .bool _⟩
      simp only [Sem.run_bind, run_eqGuard_agg w .neq t o1 o2 xs ys h1, Result.andThen_ok, run_neq_struct, h2]
    · cases h
end
end Go.Ax
