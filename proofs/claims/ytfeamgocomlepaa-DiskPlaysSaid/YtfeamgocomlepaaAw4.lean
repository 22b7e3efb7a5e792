/- How the predicates of functions are worked out: rules and equations. No statement of the seat is proved here. -/
import Derived.Test.YtfeamgocomlepaaAw3
namespace Go.Ax
open Go.RowKit

/-! ### Only what stands ahead is worked out -/
@[congr] theorem pu_congr {α : Type} {o o' : Option α} {k : α → Prop} (h : o = o') : pu o k = pu o' k := by rw [h]
@[congr] theorem wC_congr {v v' : Value} {a b : Prop} (h : v = v') : wC v a b = wC v' a b := by rw [h]
@[congr] theorem wB_congr {v v' : Value} {k : Bool → Prop} (h : v = v') : wB v k = wB v' k := by rw [h]
@[congr] theorem wG_congr {v v' : Value} {a b c : Prop} (h : v = v') : wG v a b c = wG v' a b c := by rw [h]
@[congr] theorem wF_congr {v v' : Value} {k : FuncId → List Value → List Value → Prop} (h : v = v') : wF v k = wF v' k := by rw [h]
@[congr] theorem wNew_congr {σ σ' : AHeap} {o o' : AObj} {k : Nat → AHeap → Prop} (h : σ = σ') (g : o = o') : wNew σ o k = wNew σ' o' k := by rw [h, g]
@[congr] theorem Ev_congr {P : Program} {F : FuncId → Option AFun} {X : FuncId → Option (List Value → AHeap → ND (Value × AHeap))} {f : FuncId} {a a' : List Value} {σ σ' : AHeap} {Q : WK} (h : a = a') (g : σ = σ') : Ev P F X f a σ Q = Ev P F X f a' σ' Q := by rw [h, g]

@[simp] theorem pu_some {α : Type} (v : α) (k : α → Prop) : pu (some v) k = k v := propext ⟨fun ⟨_, h, hk⟩ => by cases h; exact hk, fun h => ⟨v, rfl, h⟩⟩
@[simp] theorem pu_none {α : Type} (k : α → Prop) : pu none k = False := propext ⟨(fun ⟨_, h, _⟩ => by cases h), False.elim⟩
@[simp] theorem wC_true (a b : Prop) : wC (.bool true) a b = a := rfl
@[simp] theorem wC_false (a b : Prop) : wC (.bool false) a b = b := rfl
@[simp] theorem wG_true (a b c : Prop) : wG (.bool true) a b c = a := rfl
@[simp] theorem wG_false (a b c : Prop) : wG (.bool false) a b c = b := rfl
@[simp] theorem wB_bool (b : Bool) (k : Bool → Prop) : wB (.bool b) k = k b := rfl
@[simp] theorem wF_func (g : FuncId) (a c : Array Value) (k : FuncId → List Value → List Value → Prop) : wF (.func (.func g) a c) k = k g a.toList c.toList := rfl

theorem wC_iff {b : Bool} {x y : Prop} (h1 : b = true → x) (h2 : b = false → y) : wC (.bool b) x y := by cases b; exact h2 rfl; exact h1 rfl
theorem wC_dec {p : Prop} [Decidable p] {x y : Prop} (h1 : p → x) (h2 : ¬ p → y) : wC (.bool (decide p)) x y := wC_iff (fun h => h1 (by simpa using h)) fun h => h2 (by simpa using h)
theorem wG_iff {b : Bool} {x y z : Prop} (h1 : b = true → x) (h2 : b = false → y) : wG (.bool b) x y z := by cases b; exact h2 rfl; exact h1 rfl
theorem wG_dec {p : Prop} [Decidable p] {x y z : Prop} (h1 : p → x) (h2 : ¬ p → y) : wG (.bool (decide p)) x y z := wG_iff (fun h => h1 (by simpa using h)) fun h => h2 (by simpa using h)

def one (v : Value) : Bool := v.oneCell'
/-! ### Values whose form is seen -/
section
variable (n : Int) (n2 c : Nat) (x y : Array Value) (v : Value)
@[simp] theorem live_bool (b : Bool) : live (.bool b) = true := rfl
@[simp] theorem one_bool (b : Bool) : one (.bool b) = true := rfl
@[simp] theorem cells_bool (b : Bool) : Value.cells (.bool b) = #[.bool b] := rfl
@[simp] theorem live_int (k : IntKind) : live (.int k n) = true := rfl
@[simp] theorem one_int (k : IntKind) : one (.int k n) = true := rfl
@[simp] theorem cells_int (k : IntKind) : Value.cells (.int k n) = #[.int k n] := rfl
@[simp] theorem live_string (s : ByteArray) : live (.string s) = true := rfl
@[simp] theorem one_string (s : ByteArray) : one (.string s) = true := rfl
@[simp] theorem cells_string (s : ByteArray) : Value.cells (.string s) = #[.string s] := rfl
@[simp] theorem live_pointer (a : Option Addr) : live (.pointer a) = true := rfl
@[simp] theorem one_pointer (a : Option Addr) : one (.pointer a) = true := rfl
@[simp] theorem cells_pointer (a : Option Addr) : Value.cells (.pointer a) = #[.pointer a] := rfl
@[simp] theorem live_slice (a : Option Addr) : live (.slice a n2 c) = true := rfl
@[simp] theorem one_slice (a : Option Addr) : one (.slice a n2 c) = true := rfl
@[simp] theorem cells_slice (a : Option Addr) : Value.cells (.slice a n2 c) = #[.slice a n2 c] := rfl
@[simp] theorem live_map (r : Option Nat) : live (.map r) = true := rfl
@[simp] theorem one_map (r : Option Nat) : one (.map r) = true := rfl
@[simp] theorem cells_map (r : Option Nat) : Value.cells (.map r) = #[.map r] := rfl
@[simp] theorem live_func (f : Fn) : live (.func f x y) = true := rfl
@[simp] theorem one_func (f : Fn) : one (.func f x y) = true := rfl
@[simp] theorem cells_func (f : Fn) : Value.cells (.func f x y) = #[.func f x y] := rfl
@[simp] theorem live_nilFunc : live (.nilFunc) = true := rfl
@[simp] theorem one_nilFunc : one (.nilFunc) = true := rfl
@[simp] theorem cells_nilFunc : Value.cells (.nilFunc) = #[.nilFunc] := rfl
@[simp] theorem live_nilIface : live (.nilIface) = true := rfl
@[simp] theorem one_nilIface : one (.nilIface) = true := rfl
@[simp] theorem cells_nilIface : Value.cells (.nilIface) = #[.nilIface] := rfl
@[simp] theorem live_iface (t : TypeId) : live (.iface t v) = true := rfl
@[simp] theorem one_iface (t : TypeId) : one (.iface t v) = true := rfl
@[simp] theorem cells_iface (t : TypeId) : Value.cells (.iface t v) = #[.iface t v] := rfl
@[simp] theorem live_agg : live (.agg x) = true := rfl
@[simp] theorem cells_agg : Value.cells (.agg x) = x := rfl
end
theorem splice_at (c l : List Value) (o : Nat) : splice c o l = c.take o ++ l ++ c.drop (o + l.length) := rfl
/-! ### Numbers -/
section
variable (d : Option TypeDesc) (k : IntKind) (a b : Int)
@[simp] theorem bin_add : aBin d .add (.int k a) (.int k b) = some (.int k (k.wrap (a + b))) := by simp [aBin, aInt]
@[simp] theorem bin_sub : aBin d .sub (.int k a) (.int k b) = some (.int k (k.wrap (a - b))) := by simp [aBin, aInt]
@[simp] theorem bin_mul : aBin d .mul (.int k a) (.int k b) = some (.int k (k.wrap (a * b))) := by simp [aBin, aInt]
@[simp] theorem bin_quo : aBin d .quo (.int k a) (.int k b) = if b = 0 then none else some (.int k (k.wrap (a.tdiv b))) := by simp [aBin, aInt]
@[simp] theorem bin_rem : aBin d .rem (.int k a) (.int k b) = if b = 0 then none else some (.int k (a.tmod b)) := by simp [aBin, aInt]
@[simp] theorem bin_and : aBin d .and (.int k a) (.int k b) = some (.int k (k.wrap (BitVec.ofInt k.bits a &&& BitVec.ofInt k.bits b).toNat)) := by simp [aBin, aInt]
@[simp] theorem bin_or : aBin d .or (.int k a) (.int k b) = some (.int k (k.wrap (BitVec.ofInt k.bits a ||| BitVec.ofInt k.bits b).toNat)) := by simp [aBin, aInt]
@[simp] theorem bin_xor : aBin d .xor (.int k a) (.int k b) = some (.int k (k.wrap (BitVec.ofInt k.bits a ^^^ BitVec.ofInt k.bits b).toNat)) := by simp [aBin, aInt]
@[simp] theorem bin_eql : aBin d .eql (.int k a) (.int k b) = some (.bool (decide (a = b))) := by
  simp only [aBin, if_true, aInt]
  rw [show (a == b) = decide (a = b) from by by_cases h : a = b <;> simp [h]]
@[simp] theorem bin_neq : aBin d .neq (.int k a) (.int k b) = some (.bool (decide (a ≠ b))) := by
  simp only [aBin, if_true, aInt, bne, decide_not]
  rw [show (a == b) = decide (a = b) from by by_cases h : a = b <;> simp [h]]
@[simp] theorem bin_lss : aBin d .lss (.int k a) (.int k b) = some (.bool (decide (a < b))) := by simp [aBin, aInt]
@[simp] theorem bin_leq : aBin d .leq (.int k a) (.int k b) = some (.bool (decide (a ≤ b))) := by simp [aBin, aInt]
@[simp] theorem bin_gtr : aBin d .gtr (.int k a) (.int k b) = some (.bool (decide (b < a))) := by simp [aBin, aInt]
@[simp] theorem bin_geq : aBin d .geq (.int k a) (.int k b) = some (.bool (decide (b ≤ a))) := by simp [aBin, aInt]
end
@[simp] theorem bin_beq (a b : Bool) : aBin (some .bool) .eql (.bool a) (.bool b) = some (.bool (a == b)) := rfl
@[simp] theorem bin_bne (a b : Bool) : aBin (some .bool) .neq (.bool a) (.bool b) = some (.bool (!(a == b))) := rfl
@[simp] theorem bin_peq0 (t : TypeId) (b : Option Addr) : aBin (some (.pointer t)) .eql (.pointer none) (.pointer b) = some (.bool b.isNone) := rfl
@[simp] theorem bin_peq1 (t : TypeId) (a : Addr) : aBin (some (.pointer t)) .eql (.pointer (some a)) (.pointer none) = some (.bool false) := rfl
@[simp] theorem bin_pne0 (t : TypeId) (b : Option Addr) : aBin (some (.pointer t)) .neq (.pointer none) (.pointer b) = some (.bool !b.isNone) := rfl
@[simp] theorem bin_pne1 (t : TypeId) (a : Addr) : aBin (some (.pointer t)) .neq (.pointer (some a)) (.pointer none) = some (.bool true) := rfl
@[simp] theorem bin_seq0 (t : TypeId) (l c : Nat) (b : Option Addr) (m d : Nat) : aBin (some (.slice t)) .eql (.slice none l c) (.slice b m d) = some (.bool b.isNone) := rfl
@[simp] theorem bin_seq1 (t : TypeId) (a : Addr) (l c m d : Nat) : aBin (some (.slice t)) .eql (.slice (some a) l c) (.slice none m d) = some (.bool false) := rfl
@[simp] theorem bin_sne0 (t : TypeId) (l c : Nat) (b : Option Addr) (m d : Nat) : aBin (some (.slice t)) .neq (.slice none l c) (.slice b m d) = some (.bool !b.isNone) := rfl
@[simp] theorem bin_sne1 (t : TypeId) (a : Addr) (l c m d : Nat) : aBin (some (.slice t)) .neq (.slice (some a) l c) (.slice none m d) = some (.bool true) := rfl
@[simp] theorem un_not (b : Bool) : aUn .not (.bool b) = some (.bool !b) := rfl
@[simp] theorem un_neg (k : IntKind) (n : Int) : aUn .neg (.int k n) = some (.int k (k.wrap (0 - n))) := rfl
@[simp] theorem conv_int (k k' : IntKind) (n : Int) : convI k (.int k' n) = some (.int k (k.wrap n)) := rfl
@[simp] theorem min2 (k k' : IntKind) (a b : Int) : aMin2 (.int k a) (.int k' b) = some (.int k (if b < a then b else a)) := rfl
@[simp] theorem max2 (k k' : IntKind) (a b : Int) : aMax2 (.int k a) (.int k' b) = some (.int k (if b > a then b else a)) := rfl
@[simp] theorem lenS_slice (a : Option Addr) (n c : Nat) : lenS (.slice a n c) = some (.int .i64 n) := rfl
@[simp] theorem lenStr_string (s : ByteArray) : lenStr (.string s) = some (.int .i64 s.size) := rfl

/-- A number that fits is not changed. -/
theorem wrap_i64 {n : Int} (h : -9223372036854775808 ≤ n ∧ n < 9223372036854775808) : IntKind.i64.wrap n = n := by
  simp [IntKind.wrap, IntKind.bits, IntKind.signed]; omega
theorem wrap_u8 {n : Int} (h : 0 ≤ n ∧ n < 256) : IntKind.u8.wrap n = n := by
  simp [IntKind.wrap, IntKind.bits, IntKind.signed]; omega
theorem wrap_u32 {n : Int} (h : 0 ≤ n ∧ n < 4294967296) : IntKind.u32.wrap n = n := by
  simp [IntKind.wrap, IntKind.bits, IntKind.signed]; omega
theorem wrap_u64 {n : Int} (h : 0 ≤ n ∧ n < 18446744073709551616) : IntKind.u64.wrap n = n := by
  simp [IntKind.wrap, IntKind.bits, IntKind.signed]; omega

/-! ### Pointers, parts -/
@[simp] theorem nil_ptr (a : Addr) : aNil (.pointer (some a)) = some (.pointer (some a)) := rfl
@[simp] theorem nil_func (f : FuncId) (p q : Array Value) : aNil (.func (.func f) p q) = some (.func (.func f) p q) := rfl
@[simp] theorem fieldAddr_ptr (off : Nat) (b o : Nat) : aFieldAddr off (.pointer (some ⟨b, o, none⟩)) = some (.pointer (some ⟨b, o + off, none⟩)) := by
  simp only [aFieldAddr, Addr.add]
  split
  · rename_i h; subst h; rfl
  · rfl
theorem add_mk (b o n : Nat) : (⟨b, o, none⟩ : Addr).add n = ⟨b, o + n, none⟩ := by
  simp only [Addr.add]
  split
  · rename_i h; subst h; rfl
  · rfl
theorem idxA {z b o l c : Nat} {k : IntKind} {i : Int} (h : 0 ≤ i ∧ i < l) : aIndexAddr z (.slice (some ⟨b, o, none⟩) l c) (.int k i) = some (.pointer (some ⟨b, o + i.toNat * z, none⟩)) := by
  simp only [aIndexAddr, if_pos h, add_mk]
theorem idxAA {n z b o : Nat} {k : IntKind} {i : Int} (h : 0 ≤ i ∧ i < n) : aIndexAddrArr n z (.pointer (some ⟨b, o, none⟩)) (.int k i) = some (.pointer (some ⟨b, o + i.toNat * z, none⟩)) := by
  simp only [aIndexAddrArr, if_pos h, add_mk]
@[simp] theorem extract0 (a b : Value) : aExtract (.tuple #[a, b]) 0 = some a := by simp [aExtract]
@[simp] theorem extract1 (a b : Value) : aExtract (.tuple #[a, b]) 1 = some b := by simp [aExtract]
@[simp] theorem extract30 (a b c : Value) : aExtract (.tuple #[a, b, c]) 0 = some a := by simp [aExtract]
@[simp] theorem extract31 (a b c : Value) : aExtract (.tuple #[a, b, c]) 1 = some b := by simp [aExtract]
@[simp] theorem extract32 (a b c : Value) : aExtract (.tuple #[a, b, c]) 2 = some c := by simp [aExtract]

/-! ### Reading -/
theorem row_cells {σ : AHeap} {b : Nat} {c : List Value} {e : TypeId} {opn : Bool} (h : σ.get b = some (.cells c e opn)) : σ.row b = some c := by simp [AHeap.row, h]
theorem row_ro {σ : AHeap} {b : Nat} {c : List Value} {e : TypeId} (h : σ.get b = some (.ro c e)) : σ.row b = some c := by simp [AHeap.row, h]
theorem load1 {σ : AHeap} {b o n : Nat} {c : List Value} (h : σ.row b = some c) : aLoad false n (.pointer (some ⟨b, o, none⟩)) σ = c[o]? := by simp [aLoad, h]
theorem loadN {σ : AHeap} {b o n : Nat} {c : List Value} (h : σ.row b = some c) (hl : o + n ≤ c.length) : aLoad true n (.pointer (some ⟨b, o, none⟩)) σ = some (.agg ((c.drop o).take n).toArray) := by
  cases n with
  | zero => simp [aLoad, seg]
  | succ n =>
    have hb : Nat.ble (o + (n + 1)) c.length = true := Nat.ble_eq_true_of_le hl
    simp [aLoad, seg, h, hb]

/-- A block's row: read off what is had. -/
theorem H.row {l : List Assn} {σ : AHeap} (h : H l σ) (i : Nat) {b : Nat} {c : List Value} {e : TypeId} {opn : Bool} (hi : l[i]? = some (pt b (.cells c e opn))) : σ.row b = some c := row_cells (h.get i hi)
theorem H.rowr {l : List Assn} {σ : AHeap} (h : H l σ) (i : Nat) {b : Nat} {c : List Value} {e : TypeId} {opn : Bool} (hi : l[i]? = some (ro b (.cells c e opn))) : σ.row b = some c := row_cells (h.rget i hi)
theorem H.rowo {l : List Assn} {σ : AHeap} (h : H l σ) (i : Nat) {b : Nat} {c : List Value} {e : TypeId} (hi : l[i]? = some (ro b (.ro c e))) : σ.row b = some c := row_ro (h.rget i hi)

/-! ### New blocks, stores -/
theorem new_ok {l : List Assn} {σ : AHeap} {o : AObj} {k : Nat → AHeap → Prop} (h : H l σ) (hk : ∀ b σ', H (l ++ [pt b o]) σ' → k b σ') : wNew σ o k := hk _ _ (h.push o)

theorem one_live {v : Value} (h : one v = true) : live v = true ∧ v.cells = #[v] := by cases v <;> simp_all [one, live, Value.oneCell', Value.cells]
theorem splice_one (c : List Value) (o : Nat) (v : Value) (h : o < c.length) : splice c o [v] = c.set o v := by
  apply List.ext_getElem?
  intro j
  simp only [splice, List.getElem?_set]
  rcases Nat.lt_trichotomy j o with g | g | g
  · rw [if_neg (by omega), List.append_assoc, List.getElem?_append_left (by simp; omega), List.getElem?_take, if_pos g]
  · subst g
    rw [if_pos rfl, if_pos h, List.append_assoc, List.getElem?_append_right (by simp; omega)]
    simp [Nat.min_eq_left (Nat.le_of_lt h)]
  · rw [if_neg (by omega), List.getElem?_append_right (by simp; omega)]
    simp
    congr 1; omega
theorem store1 {l : List Assn} {σ : AHeap} (h : H l σ) (i : Nat) {b o : Nat} {c : List Value} {e : TypeId} {opn : Bool} {v : Value} {k : AHeap → Prop} (hi : l[i]? = some (pt b (.cells c e opn))) (hv : one v = true) (ho : o < c.length)
    (hk : ∀ σ', H (l.set i (pt b (.cells (c.set o v) e opn))) σ' → k σ') : pu (aStore 1 (.pointer (some ⟨b, o, none⟩)) v σ) k := by
  obtain ⟨h1, h2⟩ := one_live hv
  have hb : Nat.ble (o + 1) c.length = true := Nat.ble_eq_true_of_le ho
  have he : aStore 1 (.pointer (some ⟨b, o, none⟩)) v σ = some (σ.set b (.cells (c.set o v) e opn)) := by
    have hv' : v.oneCell' = true := hv
    simp [aStore, h1, h2, aPoke, h.get i hi, hb, splice_one c o v ho, hv']
  rw [he, pu_some]
  exact hk _ (h.set i hi _)
theorem storeN {l : List Assn} {σ : AHeap} (h : H l σ) (i : Nat) {b o n : Nat} {c vs : List Value} {e : TypeId} {opn : Bool} {k : AHeap → Prop} (hi : l[i]? = some (pt b (.cells c e opn))) (hn : vs.length = n) (hpos : 0 < n) (hv : vs.all one = true) (ho : o + n ≤ c.length)
    (hk : ∀ σ', H (l.set i (pt b (.cells (splice c o vs) e opn))) σ' → k σ') : pu (aStore n (.pointer (some ⟨b, o, none⟩)) (.agg vs.toArray) σ) k := by
  have hb : Nat.ble (o + vs.length) c.length = true := Nat.ble_eq_true_of_le (by omega)
  have he : aStore n (.pointer (some ⟨b, o, none⟩)) (.agg vs.toArray) σ = some (σ.set b (.cells (splice c o vs) e opn)) := by
    have hs : (Nat.beq vs.length n) = true := by rw [hn]; exact Nat.beq_refl n
    simp only [aStore, live, Value.cells, List.size_toArray, hs, Bool.true_and, cond_true]
    cases vs with
    | nil => simp at hn; omega
    | cons v vs =>
      simp only [aPoke, h.get i hi]
      have hv' : ((v :: vs).all Value.oneCell' && Nat.ble (o + (v :: vs).length) c.length) = true := by
        rw [hb, Bool.and_true]; exact hv
      rw [hv']; rfl
  rw [he, pu_some]
  exact hk _ (h.set i hi _)

/-! ### Bytes -/
def by8 (b : UInt8) : Value := .int .u8 (b.toNat : Int)
def bv (l : List UInt8) : List Value := l.map by8
@[simp] theorem bv_length (l : List UInt8) : (bv l).length = l.length := by simp [bv]
@[simp] theorem bv_append (l m : List UInt8) : bv (l ++ m) = bv l ++ bv m := by simp [bv]
@[simp] theorem bv_take (l : List UInt8) (n : Nat) : (bv l).take n = bv (l.take n) := by simp [bv]
@[simp] theorem bv_drop (l : List UInt8) (n : Nat) : (bv l).drop n = bv (l.drop n) := by simp [bv]
@[simp] theorem bv_nil : bv [] = [] := rfl
@[simp] theorem bv_cons (b : UInt8) (l : List UInt8) : bv (b :: l) = by8 b :: bv l := rfl
theorem bv_get (l : List UInt8) (i : Nat) : (bv l)[i]? = l[i]?.map by8 := by simp [bv]
theorem bv_one (l : List UInt8) : (bv l).all one = true := by simp [bv, by8, one, Value.oneCell']
theorem bv_set (l : List UInt8) (i : Nat) (b : UInt8) : (bv l).set i (by8 b) = bv (l.set i b) := by simp [bv, List.map_set]
theorem splice_bv (l m : List UInt8) (o : Nat) : splice (bv l) o (bv m) = bv (l.take o ++ m ++ l.drop (o + m.length)) := by simp [splice]
theorem by8_lt (b : UInt8) : (0 : Int) ≤ (b.toNat : Int) ∧ (b.toNat : Int) < 256 := by have := b.toNat_lt; omega

@[simp] theorem ble_dec (a b : Nat) : Nat.ble a b = decide (a ≤ b) := by
  rw [Bool.eq_iff_iff]; simp
@[simp] theorem beq_dec (a b : Nat) : Nat.beq a b = decide (a = b) := by
  rw [Bool.eq_iff_iff]; simp
@[simp] theorem blt_dec (a b : Nat) : Nat.blt a b = decide (a < b) := by
  rw [Bool.eq_iff_iff]; simp [Nat.blt]; omega
attribute [simp] buildR buildA aFill
end Go.Ax
