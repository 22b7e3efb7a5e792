/- Texts of one proof, joined. No statement of the seat is proved here. -/
import Derived.Test.YtcnceningjookaaGreatTk4
import Derived.Lib.Overlaps
set_option linter.unusedVariables false
set_option linter.unusedSimpArgs false
set_option linter.unnecessarySimpa false
set_option linter.constructorNameAsVariable false
set_option maxRecDepth 100000
namespace Go.Ax.C
open Go.Proofs Go.RowKit
variable {l r m : List Assn} {σ : AHeap} {Q : RK}
def Bts (σ : AHeap) (v : Value) (x : List UInt8) : Prop := (x = [] ∧ ∃ a c, v = .slice a 0 c ∧ (a = none ∨ a = some ⟨ZB, 0, some 0⟩)) ∨
  ∃ b o c row, v = .slice (some ⟨b, o, none⟩) x.length c ∧ CapOk 1 x.length c ∧ σ.row b = some row ∧ (row.drop o).take x.length = bv x ∧ o + x.length ≤ row.length
theorem own_bts {e n : Nat} {v : Value} {x : List UInt8} (h : H (Own e 1 v n (bv x) :: l) σ) : Bts σ v x := by
  rcases H_own.1 h with ⟨⟨_, e1, h2⟩, _⟩ | ⟨b, c, opn, rest, h1, h2, h3, rfl, h4, h5⟩
  · have : x = [] := by cases x <;> simp_all
    refine .inl ⟨this, ?_⟩
    rcases h2 with rfl | rfl
    · exact ⟨_, _, rfl, .inl rfl⟩
    · exact ⟨_, _, rfl, .inr rfl⟩
  · have hn : x.length = n := by simpa using h2
    subst hn
    refine .inr ⟨b, 0, c, _, rfl, ⟨h4, ?_⟩, h1.row 0 rfl, ?_, by simp⟩
    · rcases h5 with h5 | h5
      · exact .inr h5.2.2
      · exact .inl h5
    · rw [List.drop_zero, List.take_append_of_le_length (by simp), List.take_of_length_le (by simp)]
theorem bts_form {v : Value} {x : List UInt8} (h : Bts σ v x) : ∃ a c, v = .slice a x.length c := by
  rcases h with ⟨rfl, a, c, rfl, _⟩ | ⟨b, o, c, row, rfl, _⟩
  · exact ⟨a, c, rfl⟩
  · exact ⟨_, _, rfl⟩
theorem bts_rd {v : Value} {x : List UInt8} (h : Bts σ v x) : Rd σ v x := by
  rcases h with ⟨rfl, a, c, rfl, ha⟩ | ⟨b, o, c, row, rfl, hc, h1, h2, h3⟩
  · rcases ha with rfl | rfl
    · exact Rd.nil σ c
    · exact ⟨src_zero σ 1 c _, ⟨_, _, rfl⟩, fun k b h => by simp at h⟩
  · exact rd_row h1 h2 h3
theorem bts_from {v : Value} {x : List UInt8} {a : Nat} {k : IntKind} (h : Bts σ v x) (ha : a < x.length) :
    ∃ w, aSlice 1 v (some (.int k (a : Nat))) none none = some w ∧ Bts σ w (x.drop a) := by
  rcases h with ⟨rfl, _⟩ | ⟨b, o, c, row, rfl, hc, h1, h2, h3⟩
  · simp at ha
  · obtain ⟨c', e, hc'⟩ := slice_from (b := b) (o := o) (k := k) (lo := (a : Nat)) hc (by omega)
    simp only [Int.toNat_natCast, Nat.mul_one] at e hc'
    refine ⟨_, e, .inr ⟨b, o + a, c', row, by simp, by simpa using hc', h1, ?_, by simp; omega⟩⟩
    have : (row.drop (o + a)).take (x.length - a) = ((row.drop o).take x.length).drop a := by
      rw [List.drop_take, List.drop_drop]
    rw [List.length_drop, this, h2, bv_drop]
theorem bts_to {v : Value} {x : List UInt8} {a : Nat} {k : IntKind} (h : Bts σ v x) (hx : 0 < x.length) (ha : a ≤ x.length) :
    ∃ w, aSlice 1 v none (some (.int k (a : Nat))) none = some w ∧ Bts σ w (x.take a) := by
  rcases h with ⟨rfl, _⟩ | ⟨b, o, c, row, rfl, hc, h1, h2, h3⟩
  · simp at hx
  · obtain ⟨c', hs, hc'⟩ := slice_to (b := b) (o := o) (k := k) (hi := (a : Nat)) hc hx (by omega)
    simp only [Int.toNat_natCast] at hs hc'
    refine ⟨_, hs, .inr ⟨b, o, c', row, ?_, ?_, h1, ?_, ?_⟩⟩
    · rw [List.length_take, Nat.min_eq_left ha]
    · rw [List.length_take, Nat.min_eq_left ha]; exact hc'
    · rw [List.length_take, Nat.min_eq_left ha, ← bv_take, ← h2, List.take_take, Nat.min_eq_left ha]
    · rw [List.length_take, Nat.min_eq_left ha]; omega
def be (n : Nat) : Nat → List UInt8
  | 0 => []
  | k + 1 => UInt8.ofNat (n / 256 ^ k) :: be n k
def num (x : List UInt8) : Nat := x.foldl (fun n b => n * 256 + b.toNat) 0
theorem be_len (n k : Nat) : (be n k).length = k := by induction k <;> simp_all [be]
theorem foldl_num (x : List UInt8) (n : Nat) : x.foldl (fun n b => n * 256 + b.toNat) n = n * 256 ^ x.length + num x := by
  induction x generalizing n with
  | nil => simp [num]
  | cons b x ih =>
    simp only [num, List.foldl_cons, List.length_cons]
    rw [ih, ih (0 * 256 + b.toNat), Nat.pow_succ]
    simp only [Nat.add_mul, Nat.zero_mul, Nat.zero_add, Nat.mul_assoc, Nat.add_assoc]
    rw [Nat.mul_comm 256]
theorem num_cons (b : UInt8) (x : List UInt8) : num (b :: x) = b.toNat * 256 ^ x.length + num x := by
  simp only [num, List.foldl_cons]; rw [foldl_num]; simp [num]
theorem num_be (n k : Nat) : num (be n k) = n % 256 ^ k := by
  induction k with
  | zero => simp [be, num, Nat.mod_one]
  | succ k ih =>
    rw [be, num_cons, be_len, ih, UInt8.toNat_ofNat']
    have e : n % 256 ^ (k + 1) = n % 256 ^ k + 256 ^ k * (n / 256 ^ k % 256) := Nat.mod_pow_succ
    rw [e, Nat.add_comm, Nat.mul_comm]
theorem num_lt (x : List UInt8) : num x < 256 ^ x.length := by
  induction x with
  | nil => simp [num]
  | cons b x ih =>
    rw [num_cons, List.length_cons, Nat.pow_succ]
    have := b.toNat_lt
    have h1 : b.toNat * 256 ^ x.length + 256 ^ x.length ≤ 256 * 256 ^ x.length := by
      rw [← Nat.succ_mul]; exact Nat.mul_le_mul_right _ (by omega)
    rw [Nat.mul_comm (256 ^ x.length)]; omega
theorem num_snoc (x : List UInt8) (b : UInt8) : num (x ++ [b]) = num x * 256 + b.toNat := by
  simp only [num, List.foldl_append, List.foldl_cons, List.foldl_nil]
theorem oright {n : Int} (hQ : Q (.ret (.bool (decide (1 ≤ n ∧ n ≤ 8)))) σ) : E f_order_right [.int .i64 n] σ Q := by
  apply e_order_right; unfold s_order_right
  refine If_dec (fun h => ?_) (fun h => ?_)
  · by_cases h2 : n ≤ 8
    · simpa [h, h2] using hQ
    · simpa [h, h2] using hQ
  · simpa [h] using hQ
theorem shr64 (n k : Nat) (hk : k ≤ 64) : aBin (some (.int .u64)) .shr (.int .u64 n) (.int .u64 k) = some (.int .u64 (n / 2 ^ k : Nat)) := by
  have e : ∀ (d : Option TypeDesc) (a b : Int), aBin d .shr (.int .u64 a) (.int .u64 b) = aShift .shr .u64 a b := fun _ _ _ => rfl
  rw [e, aShift, if_neg (by omega)]
  have hb : IntKind.u64.bits = 64 := rfl
  simp only [hb, Int.toNat_natCast, Nat.min_eq_left hk, Option.some.injEq, Value.int.injEq, true_and]
  rw [Int.fdiv_eq_ediv_of_nonneg _ (Int.le_of_lt (Int.pow_pos (by omega)))]
  simp
theorem shl8 (n : Nat) (hn : n * 256 < 18446744073709551616) : aBin (some (.int .u64)) .shl (.int .u64 n) (.int .u64 8) = some (.int .u64 (n * 256 : Nat)) := by
  have e : ∀ (d : Option TypeDesc) (a b : Int), aBin d .shl (.int .u64 a) (.int .u64 b) = aShift .shl .u64 a b := fun _ _ _ => rfl
  rw [e, aShift, if_neg (by omega)]
  have hb : IntKind.u64.bits = 64 := rfl
  have e2 : (n : Int) * 2 ^ (min (8 : Int).toNat 64) = ((n * 256 : Nat) : Int) := by
    have : min (8 : Int).toNat 64 = 8 := by decide
    rw [this]; simp
  simp only [hb, e2]
  rw [wrap_u64 (by omega)]
theorem wu8_mod (n : Nat) : wu8 (n : Int) = ((UInt8.ofNat n).toNat : Int) := by
  rw [UInt8.toNat_ofNat']
  show IntKind.u8.wrap n = _
  simp [IntKind.wrap, IntKind.bits, IntKind.signed]
theorem oput {v : Value} {x : List UInt8} {n k : Nat} (h : H l σ) (hb : Bts σ v x) (hk : 1 ≤ k ∧ k ≤ 8) (hx : x.length ≤ 1099511627000)
    (hQ : ∀ w σ', H (Own t_uint8 1 w (x.length + k) (bv (x ++ be n k)) :: l) σ' → Q (.ret w) σ') : E f_order_Put [v, .int .u64 n, .int .i64 k] σ Q := by
  apply e_order_Put; unfold s_order_Put
  obtain ⟨a, c, rfl⟩ := bts_form hb
  refine O.up (O.clone_ok h (bts_rd hb).src (by omega) ?_)
  intro v1 σ1 h1
  replace h1 := h1.unsnoc
  rw [cV_ret]
  refine oright ?_
  rw [cB_ret]
  refine If_f (by simp; omega) ?_
  refine b64 ((k : Int) - 1) (by omega) ?_
  refine ⟨fun m v j τ => ∃ ys, m ≤ k ∧ j = (m : Int) - 1 ∧ ys.length + m = k ∧ ys ++ be n m = be n k ∧ H (Own t_uint8 1 v (x.length + ys.length) (bv (x ++ ys)) :: l) τ, ⟨k, [], by omega, by omega, by simp, rfl, by simpa using h1⟩, ?_⟩
  rintro m v j τ ⟨ys, hm, rfl, hyl, hys, h2⟩
  unfold s_order_Put_b1
  refine If_dec (fun hj => ?_) (fun hj => ?_)
  · obtain ⟨i, rfl⟩ : ∃ i, m = i + 1 := ⟨m - 1, by omega⟩
    refine b64 ((8 * i : Nat) : Int) (by omega) ?_
    refine bu64 ((8 * i : Nat) : Int) (by omega) ?_
    rw [shr64 n (8 * i) (by omega), ldI_some]
    have e8 : n / 2 ^ (8 * i) = n / 256 ^ i := by rw [Nat.pow_mul]
    rw [e8]
    refine bi (wu8_mod _) ?_
    refine nw h2 ?_
    intro b σ2 h3
    have hs : srcOf 1 (.slice (some ⟨b, 0, none⟩) 1 1) σ2 = some (1, [.int .u8 ((UInt8.ofNat (n / 256 ^ i)).toNat : Int)]) := by
      rw [src_row (h3.row 0 rfl) (by simp)]; simp
    refine append_own h3 1 rfl hs (by omega) (by omega) rfl ?_
    intro v' σ3 h4
    refine b64 ((i : Int) - 1) (by omega) ?_
    refine ⟨i, by omega, ys ++ [UInt8.ofNat (n / 256 ^ i)], by omega, rfl, by simp; omega, ?_, ?_⟩
    · rw [← hys, be]; simp
    · simp only [List.set_cons_succ, List.set_cons_zero] at h4
      have h5 := h4.tail
      have e : bv (x ++ ys) ++ [Value.int .u8 ((UInt8.ofNat (n / 256 ^ i)).toNat : Int)] = bv (x ++ (ys ++ [UInt8.ofNat (n / 256 ^ i)])) := by simp [bv, by8]
      rw [e] at h5
      simpa [Nat.add_assoc] using h5
  · have h0 : m = 0 := by omega
    subst h0
    simp only [be, List.append_nil] at hys
    rw [hys, be_len] at h2
    exact hQ _ _ h2
theorem or_byte (n : Nat) (b : UInt8) (hn : n * 256 + 256 ≤ 18446744073709551616) : ((BitVec.ofInt 64 ((n * 256 : Nat) : Int) ||| BitVec.ofInt 64 ((b.toNat : Nat) : Int)).toNat : Int) = ((n * 256 + b.toNat : Nat) : Int) := by
  have := b.toNat_lt
  have h1 : (BitVec.ofInt 64 ((n * 256 : Nat) : Int)).toNat = n * 256 := by rw [BitVec.ofInt_natCast, BitVec.toNat_ofNat, Nat.mod_eq_of_lt (by omega)]
  have h2 : (BitVec.ofInt 64 ((b.toNat : Nat) : Int)).toNat = b.toNat := by rw [BitVec.ofInt_natCast, BitVec.toNat_ofNat, Nat.mod_eq_of_lt (by omega)]
  rw [BitVec.toNat_or, h1, h2]
  have h3 := Nat.shiftLeft_add_eq_or_of_lt (i := 8) (b := b.toNat) (by omega) n
  rw [Nat.shiftLeft_eq] at h3
  have e : (2 : Nat) ^ 8 = 256 := rfl
  rw [e] at h3
  rw [← h3]
theorem oget {v : Value} {x : List UInt8} {k : Nat} (hb : Bts σ v x) (hk : 1 ≤ k ∧ k ≤ 8) (hx : x.length ≤ 1099511627000)
    (hno : x.length < k → Q (.ret (.tuple #[.int .u64 0, .int .i64 4])) σ)
    (hQ : k ≤ x.length → Q (.ret (.tuple #[.int .u64 (num (x.take k)), .int .i64 0])) σ) : E f_order_Get [v, .int .i64 k] σ Q := by
  apply e_order_Get; unfold s_order_Get
  refine oright ?_
  rw [cB_ret]
  refine If_f (by simp; omega) ?_
  have hlen : lenS v = some (.int .i64 x.length) := by obtain ⟨a, c, rfl⟩ := bts_form hb; rfl
  rw [hlen, ldI_some]
  refine If_dec (fun hlt => hno (by omega)) fun hge => ?_
  obtain ⟨w, hw, hb2⟩ := bts_to (k := .i64) (a := k) hb (by omega) (by omega)
  have hwl : lenS w = some (.int .i64 k) := by
    obtain ⟨a, c, rfl⟩ := bts_form hb2
    rw [List.length_take, Nat.min_eq_left (by omega)]; rfl
  rw [hw, om_some, hwl, ldI_some]
  refine ⟨fun m n j τ => τ = σ ∧ ∃ i : Nat, j = i ∧ i ≤ k ∧ m = k - i ∧ n = num (x.take i), ⟨k, rfl, 0, rfl, by omega, by omega, by simp [num]⟩, ?_⟩
  rintro m n j τ ⟨rfl, i, rfl, hik, rfl, rfl⟩
  unfold s_order_Get_b1
  refine If_dec (fun hlt => ?_) (fun hge => ?_)
  · have hik2 : i < k := by omega
    have hxi : (x.take k)[i]? = some x[i] := by rw [List.getElem?_take, if_pos hik2, List.getElem?_eq_getElem (by omega)]
    obtain ⟨p, hp, hl⟩ := (bts_rd hb2).elem i x[i] hxi
    rw [hp, om_some, hl]
    have hlt2 : num (x.take i) < 256 ^ i := by have := num_lt (x.take i); rwa [List.length_take, Nat.min_eq_left (by omega)] at this
    have h7 : (256 : Nat) ^ i ≤ 256 ^ 7 := Nat.pow_le_pow_right (by omega) (by omega)
    have h77 : (256 : Nat) ^ 7 = 72057594037927936 := by decide
    have hbl := (x[i]).toNat_lt
    show ldI .u8 (some (.int .u8 (x[i].toNat : Int))) _
    rw [ldI_some, shl8 _ (by omega), ldI_some]
    refine bu64 ((x[i].toNat : Nat) : Int) (by omega) ?_
    rw [or_byte _ _ (by omega)]
    refine bu64 ((num (x.take i) * 256 + x[i].toNat : Nat) : Int) (by omega) ?_
    refine b64 ((i + 1 : Nat) : Int) (by omega) ?_
    refine ⟨k - (i + 1), by omega, rfl, i + 1, rfl, by omega, rfl, ?_⟩
    rw [List.take_add_one, List.getElem?_eq_getElem (by omega), Option.toList_some, num_snoc]
  · have : i = k := by omega
    subst this
    exact hQ (by omega)
def crcB1 (n : Int) : Int :=
  wu32 ((BitVec.ofInt 32 (n.fdiv 2) ^^^ BitVec.ofInt 32 (wu32 ((BitVec.ofInt 32 2197175160 &&& BitVec.ofInt 32 (wu32 (0 - wu32 ((BitVec.ofInt 32 n &&& BitVec.ofInt 32 1).toNat)))).toNat))).toNat)
def crcB (n : Int) : Nat → Int
  | 0 => n
  | k + 1 => crcB (crcB1 n) k
def crcX (n : Int) (b : UInt8) : Int := crcB (wu32 ((BitVec.ofInt 32 n ^^^ BitVec.ofInt 32 (wu32 ((b.toNat : Nat) : Int))).toNat)) 8
def notN (n : Int) : Int := IntKind.u32.wrap (BitVec.ofInt IntKind.u32.bits (if IntKind.u32.signed then -1 else IntKind.u32.max) ^^^ BitVec.ofInt IntKind.u32.bits n).toNat
def crcI (x : List UInt8) : Int := notN (x.foldl crcX (notN 0))
theorem wu32_rng (n : Int) : 0 ≤ wu32 n ∧ wu32 n < 4294967296 := by
  show 0 ≤ IntKind.u32.wrap n ∧ IntKind.u32.wrap n < 4294967296
  simp [IntKind.wrap, IntKind.bits, IntKind.signed]
  omega
theorem crcI_rng (x : List UInt8) : 0 ≤ crcI x ∧ crcI x < 4294967296 := wu32_rng _
def crcN (x : List UInt8) : Nat := (crcI x).toNat
theorem crcI_eq (x : List UInt8) : crcI x = (crcN x : Nat) := by unfold crcN; have := crcI_rng x; omega
theorem cbehind {n : Int} (hQ : Q (.ret (.int .u32 (crcB n 8))) σ) : E f_crc_behind [.int .u32 n] σ Q := by
  apply e_crc_behind; unfold s_crc_behind
  refine ⟨fun m a j τ => τ = σ ∧ m ≤ 8 ∧ j = 8 - (m : Int) ∧ crcB a m = crcB n 8, ⟨8, rfl, by omega, by omega, rfl⟩, ?_⟩
  rintro m a j τ ⟨rfl, hm, rfl, he⟩
  unfold s_crc_behind_b1
  refine If_dec (fun hj => ?_) (fun hj => ?_)
  · obtain ⟨i, rfl⟩ : ∃ i, m = i + 1 := ⟨m - 1, by omega⟩
    have e : aBin (some (.int .u32)) .shr (.int .u32 a) (.int .u64 1) = some (.int .u32 (a.fdiv 2)) := rfl
    rw [e, ldI_some]
    unfold Bi
    refine ⟨i, by omega, rfl, by omega, ?_, he⟩
    rw [w64_eq (by omega)]; omega
  · have : m = 0 := by omega
    subst this
    rw [crcB] at he
    rw [he]; exact hQ
theorem csum {v : Value} {x : List UInt8} (hb : Bts σ v x) (hx : x.length ≤ 1099511627000) (hQ : Q (.ret (.int .u32 (crcI x))) σ) : E f_crc_Sum [v] σ Q := by
  apply e_crc_Sum; unfold s_crc_Sum
  apply e_crc_More; unfold s_crc_More
  have hlen : lenS v = some (.int .i64 x.length) := by obtain ⟨a, c, rfl⟩ := bts_form hb; rfl
  have e0 : aUn .xor (.int .u32 0) = some (.int .u32 (notN 0)) := rfl
  rw [e0, ldI_some, hlen, ldI_some]
  refine ⟨fun m a j τ => τ = σ ∧ ∃ i : Nat, j = i ∧ i ≤ x.length ∧ m = x.length - i ∧ a = (x.take i).foldl crcX (notN 0), ⟨x.length, rfl, 0, rfl, by omega, by omega, rfl⟩, ?_⟩
  rintro m a j τ ⟨rfl, i, rfl, hi, rfl, rfl⟩
  unfold s_crc_More_b1
  refine If_dec (fun hlt => ?_) (fun hge => ?_)
  · have hi2 : i < x.length := by omega
    obtain ⟨p, hp, hl⟩ := (bts_rd hb).elem i x[i] (List.getElem?_eq_getElem hi2)
    rw [hp, om_some, hl]
    show ldI .u8 (some (.int .u8 (x[i].toNat : Int))) _
    rw [ldI_some]
    unfold Bi
    refine cbehind ?_
    rw [cI_ret]
    refine ⟨x.length - (i + 1), by omega, rfl, i + 1, ?_, by omega, rfl, ?_⟩
    · rw [w64_eq (by omega)]; omega
    · rw [List.take_add_one, List.getElem?_eq_getElem hi2, Option.toList_some, List.foldl_append]; rfl
  · have : i = x.length := by omega
    subst this
    have e1 : ∀ a, aUn .xor (.int .u32 a) = some (.int .u32 (notN a)) := fun a => rfl
    rw [e1, ldI_some, cI_ret, List.take_length]
    exact hQ
end Go.Ax.C
namespace Go.Ax
open Go.RowKit
theorem Ev.opened {P : Program} {f : FuncId} {rest : List Value} {σ : AHeap} {Q : RK} {b n c : Nat} {row : List Value} {e : TypeId} (hg : σ.get b = some (.cells row e true)) (hc : OPEN ≤ c) (hz : c / OPEN = 1) (hl : row.length = c % OPEN)
    (hf : ∃ fn, P.funcs[f]? = some fn ∧ (fn.name == "runtime.NumGoroutine") = false)
    (h : ∀ c1 k, c % OPEN ≤ c1 → c1 ≤ row.length + k → c1 ≤ 9223372036854775807 → Ev P f (.slice (some ⟨b, 0, none⟩) n c1 :: rest) (σ.set b (.cells (row ++ List.replicate k undef) e false)) Q) :
    Ev P f (.slice (some ⟨b, 0, none⟩) n c :: rest) σ Q := by
  intro B w0 ρ w args' hr ha
  obtain ⟨v', l2, rfl, hv, hrest⟩ := ha.cons_inv
  cases hv with
  | slice _ _ _ _ c' r hr2 hcr =>
    unfold CapR at hcr
    rw [if_neg (by omega), hz] at hcr
    obtain ⟨q1, q2, q3⟩ := hcr
    obtain ⟨r0, hr0, ⟨cc, fz, hh, hfz, hsz, hop, hle, hlr⟩, hB, hB2⟩ := hr.obj b _ hg
    rw [hr2] at hr0; cases hr0
    have hk : row.length + (r.n - r.s - row.length) = r.n - r.s := by omega
    have hur : Rel B w0 ρ (σ.set b (.cells (row ++ List.replicate (r.n - r.s - row.length) undef) e false)) w := by
      refine hr.update (o := .cells row e true) hg rfl rfl hr2 ⟨cc, fz, hh, hfz, hsz, fun _ => by simp; omega, by simp; omega, ?_⟩ (fun _ _ => rfl) rfl rfl rfl rfl
      have hlen : (cc.toList.drop r.s).length = r.n - r.s := by simp; omega
      refine ⟨by simp; omega, fun i v u h1 h2 => ?_⟩
      rw [List.getElem?_append] at h1
      split at h1
      · rename_i hi
        refine hlr.2 i v u h1 ?_
        rw [List.getElem?_take] at h2 ⊢
        rw [if_pos hi]
        split at h2
        · exact h2
        · cases h2
      · rw [List.getElem?_replicate] at h1
        split at h1
        · cases h1; exact .dead _
        · cases h1
    refine h c' (r.n - r.s - row.length) q1 (by omega) q3 B w0 ρ w _ hur (LR.cons ?_ hrest)
    refine .slice b 0 n c' c' r hr2 ?_
    unfold CapR
    rw [if_pos (by unfold OPEN; omega)]
theorem overlaps_ev {P : Program} {f : FuncId} {params results : Array TypeId} {t e : TypeId} {i : TypeInfo} (hb : NoBody P f (Extern.SlicesOverlaps.overlaps params results)) (ht : params[0]? = some t) (hu : P.underlying t = some (.slice e)) (hi : P.info? e = some i)
    {σ : AHeap} {Q : RK} {b1 o1 n1 c1 b2 o2 n2 c2 : Nat} {x1 x2 : List Value} {e1 e2 : TypeId} {q1 q2 : Bool} (g1 : σ.get b1 = some (.cells x1 e1 q1)) (g2 : σ.get b2 = some (.cells x2 e2 q2)) (hne : b1 ≠ b2) (hx1 : o1 < x1.length) (hx2 : o2 < x2.length)
    (hQ : ∀ b, Q (.ret (.bool b)) σ) : Ev P f [.slice (some ⟨b1, o1, none⟩) n1 c1, .slice (some ⟨b2, o2, none⟩) n2 c2] σ Q := by
  intro B w0 ρ w args' hr ha
  obtain ⟨fn, hfn, hname, hbody, hnext, hfind⟩ := hb.fn
  refine ⟨fn, hfn, hname, .inr ?_⟩
  obtain ⟨v1, l2, rfl, hv1, ha⟩ := ha.cons_inv
  obtain ⟨v2, l3, rfl, hv2, ha⟩ := ha.cons_inv
  rw [ha.nil_inv]
  cases hv1 with
  | slice _ _ _ _ c1' r1 hr1 hc1 =>
  cases hv2 with
  | slice _ _ _ _ c2' r2 hr2 hc2 =>
  obtain ⟨r0, hr0, ⟨cc1, fz1, hh1, hfz1, hsz1, hop1, hle1, hlr1⟩, hB1, _⟩ := hr.obj b1 _ g1
  rw [hr1] at hr0; cases hr0
  obtain ⟨r0, hr0, ⟨cc2, fz2, hh2, hfz2, hsz2, hop2, hle2, hlr2⟩, hB2, _⟩ := hr.obj b2 _ g2
  rw [hr2] at hr0; cases hr0
  have hb12 : r1.b ≠ r2.b := fun h => hne (hr.inj b1 b2 _ _ r1 r2 g1 g2 rfl rfl hr1 hr2 h)
  have hnb : (r1.b != r2.b) = true := by simpa using hb12
  have hnb' : (r1.b == r2.b) = false := by simpa using hb12
  have hf1 : w.frozen? ⟨r1.b, r1.s + o1, none⟩ = false := by
    simp only [World.frozen?, hh1]; exact hfz1.at _ (by omega)
  have hf2 : w.frozen? ⟨r2.b, r2.s + o2, none⟩ = false := by
    simp only [World.frozen?, hh2]; exact hfz2.at _ (by omega)
  have hs1 : w.shape? r1.b = some (e1, cc1.size) := by simp [World.shape?, hh1]
  have hs2 : w.shape? r2.b = some (e2, cc2.size) := by simp [World.shape?, hh2]
  obtain ⟨m1, hm1⟩ : ∃ m, cc1.size = m + 1 := ⟨cc1.size - 1, by omega⟩
  obtain ⟨m2, hm2⟩ : ∃ m, cc2.size = m + 1 := ⟨cc2.size - 1, by omega⟩
  rw [hm1] at hs1
  rw [hm2] at hs2
  have hsz := fun (w : World) => run_sizeOf (P := P) (w := w) hi
  suffices hrun : ∃ b w1, (Extern.SlicesOverlaps.overlaps params results #[.slice (some ⟨r1.b, r1.s + o1, none⟩) n1 c1', .slice (some ⟨r2.b, r2.s + o2, none⟩) n2 c2']).run P w = .ok (.bool b) w1 ∧ Rel B w0 ρ σ w1 by
    obtain ⟨b, w1, h1, h2⟩ := hrun
    refine ⟨.bool b, .bool b, ρ, σ, w1, hQ b, ?_, Ext.refl _, h2, .bool b⟩
    rw [run_callFunc_extern hfn hname hbody hnext hfind, h1]; rfl
  have key : ∃ b w1, Sem.run P (α := Value) (do
      let some t := params[0]? | stuck "slices.overlaps: no parameter types"
      let .slice elem ← underlying t | stuck "slices.overlaps: slice type expected"
      let size ← sizeOf elem
      match (some (⟨r1.b, r1.s + o1, none⟩ : Addr)), (some (⟨r2.b, r2.s + o2, none⟩ : Addr)) with
      | some a, some b =>
        if n1 = 0 ∨ n2 = 0 ∨ size = 0 then pure (Value.bool false)
        else if a.block != b.block && (← frozen a) && (← frozen b) then unsupported .addressObserved
        else do
          if a.block != b.block then do
            noView a; noView b
            if ← mayBeOne a b then return Value.bool ((← Go.choose (.extern "sameAddr.stringBytes" 2)) == 1)
          pure (Value.bool (a.block == b.block && a.off < b.off + n2 * size && b.off < a.off + n1 * size))
      | _, _ => pure (Value.bool false)) w = .ok (.bool b) w1 ∧ Rel B w0 ρ σ w1 := by
    by_cases h0 : n1 = 0 ∨ n2 = 0 ∨ i.size = 0
    · exact ⟨false, w, by simp [ht, run_underlying hu, hsz, h0], hr⟩
    · cases ha : w.frozen? ⟨r1.b, m1 + 1, none⟩ with
      | false => exact ⟨false, w, by simp [ht, run_underlying hu, hsz, h0, hnb, hnb', frozen, noView, viewAt, mayBeOne, stringish, shape, Sem.run, hs1, hs2, hf1, hf2, ha], hr⟩
      | true =>
        cases hb : w.frozen? ⟨r2.b, m2 + 1, none⟩ with
        | false => exact ⟨false, w, by simp [ht, run_underlying hu, hsz, h0, hnb, hnb', frozen, noView, viewAt, mayBeOne, stringish, shape, Sem.run, hs1, hs2, hf1, hf2, ha, hb], hr⟩
        | true => exact ⟨_, w.drew, by
            simp [ht, run_underlying hu, hsz, h0, hnb, hnb', frozen, noView, viewAt, mayBeOne, stringish, shape, Sem.run, hs1, hs2, hf1, hf2, ha, hb]
            rfl, hr.drew⟩
  exact key
end Go.Ax
set_option maxRecDepth 100000
namespace Go.Ax.C
open Go.Proofs Go.RowKit
variable {l r m : List Assn} {σ : AHeap} {Q : RK}
def uv (xs : List Nat) : List Value := xs.map fun n => .int .u64 (n : Nat)
@[simp] theorem uv_len (xs : List Nat) : (uv xs).length = xs.length := by simp [uv]
theorem uv_app (xs ys : List Nat) : uv (xs ++ ys) = uv xs ++ uv ys := by simp [uv]
theorem uv_take (xs : List Nat) (n : Nat) : uv (xs.take n) = (uv xs).take n := by simp [uv, List.map_take]
theorem uv_drop (xs : List Nat) (n : Nat) : uv (xs.drop n) = (uv xs).drop n := by simp [uv, List.map_drop]
theorem uv_set (xs : List Nat) (i n : Nat) : uv (xs.set i n) = (uv xs).set i (.int .u64 (n : Nat)) := by simp [uv, List.map_set]
theorem uv_get (xs : List Nat) (i : Nat) : (uv xs)[i]? = xs[i]?.map fun n => .int .u64 (n : Nat) := by simp [uv]
theorem uv_one (xs : List Nat) : (uv xs).all one = true := by
  simp only [uv, List.all_map, List.all_eq_true]
  intro x _; rfl
def Us (σ : AHeap) (v : Value) (xs : List Nat) : Prop := (xs = [] ∧ ∃ a c, v = .slice a 0 c) ∨
  ∃ b o c row, v = .slice (some ⟨b, o, none⟩) xs.length c ∧ xs.length ≤ known c ∧ σ.row b = some row ∧ (row.drop o).take xs.length = uv xs ∧ o + xs.length ≤ row.length
theorem us_form {v : Value} {xs : List Nat} (h : Us σ v xs) : ∃ a c, v = .slice a xs.length c := by
  rcases h with ⟨rfl, a, c, rfl⟩ | ⟨b, o, c, row, rfl, _⟩
  · exact ⟨a, c, rfl⟩
  · exact ⟨_, _, rfl⟩
theorem us_len {v : Value} {xs : List Nat} (h : Us σ v xs) : lenS v = some (.int .i64 xs.length) := by obtain ⟨a, c, rfl⟩ := us_form h; rfl
theorem us_src {v : Value} {xs : List Nat} (h : Us σ v xs) : srcOf 1 v σ = some (xs.length, uv xs) := by
  rcases h with ⟨rfl, a, c, rfl⟩ | ⟨b, o, c, row, rfl, hc, h1, h2, h3⟩
  · cases a with
    | none => exact src_nil σ 1 c
    | some a => exact src_zero σ 1 c a
  · rw [src_row h1 (by omega), Nat.mul_one, h2]
theorem us_elem {v : Value} {xs : List Nat} (h : Us σ v xs) {k x : Nat} (hk : xs[k]? = some x) : ∃ p, (∀ kd, aIndexAddr 1 v (.int kd k) = some (.pointer (some p))) ∧ ∀ z, aLoad false z (.pointer (some p)) σ = some (.int .u64 x) := by
  rcases h with ⟨rfl, _⟩ | ⟨b, o, c, row, rfl, hc, h1, h2, h3⟩
  · simp at hk
  · have hlt := (List.getElem?_eq_some_iff.1 hk).1
    refine ⟨⟨b, o + k, none⟩, fun kd => by rw [idxA (by omega)]; simp, fun z => ?_⟩
    rw [load1 h1]
    have : ((row.drop o).take xs.length)[k]? = (uv xs)[k]? := by rw [h2]
    rw [List.getElem?_take, if_pos hlt, List.getElem?_drop, uv_get, hk] at this
    exact this
theorem us_cut {v : Value} {xs : List Nat} {k : Nat} {kd kd' : IntKind} (h : Us σ v xs) (hk : k ≤ xs.length) : ∃ w, aSlice 1 v none (some (.int kd (k : Nat))) (some (.int kd' (k : Nat))) = some w ∧ Us σ w (xs.take k) := by
  rcases h with ⟨rfl, a, c, rfl⟩ | ⟨b, o, c, row, rfl, hc, h1, h2, h3⟩
  · have : k = 0 := by simpa using hk
    subst this
    refine ⟨.slice a 0 0, ?_, .inl ⟨rfl, _, _, rfl⟩⟩
    simp [aSlice, bnd, bndO]
  · have e : aSlice 1 (.slice (some ⟨b, o, none⟩) xs.length c) none (some (.int kd (k : Nat))) (some (.int kd' (k : Nat))) = some (.slice (some ⟨b, o, none⟩) k k) := by
      simp only [aSlice, bndO]
      rw [bnd_int (y := known c) (by omega)]
      simp only [Option.bind_some]
      rw [bnd_int (by simp)]
      simp [add_mk]
    refine ⟨_, e, ?_⟩
    by_cases h0 : k = 0
    · subst h0; exact .inl ⟨rfl, _, _, rfl⟩
    · refine .inr ⟨b, o, k, row, by rw [List.length_take, Nat.min_eq_left hk], ?_, h1, ?_, ?_⟩
      · rw [List.length_take, Nat.min_eq_left hk]
        have : known k = k := by
          refine known_lt ?_
          have : known c < OPEN := Nat.mod_lt _ (by unfold OPEN; omega)
          omega
        omega
      · rw [List.length_take, Nat.min_eq_left hk, uv_take, ← h2, List.take_take, Nat.min_eq_left hk]
      · rw [List.length_take, Nat.min_eq_left hk]; omega
def rowObj (row : List Value) (o : AObj) : Prop := (∃ e q, o = .cells row e q) ∨ ∃ e, o = .ro row e
def RoU (v : Value) (xs : List Nat) : Assn := ex fun p : Option (Nat × Nat × Nat × List Value × AObj) =>
  match p with
  | none => pure' (xs = [] ∧ ∃ a c, v = .slice a 0 c)
  | some p => sep (pure' (v = .slice (some ⟨p.1, p.2.1, none⟩) xs.length p.2.2.1 ∧ xs.length ≤ known p.2.2.1 ∧ (p.2.2.2.1.drop p.2.1).take xs.length = uv xs ∧ p.2.1 + xs.length ≤ p.2.2.2.1.length ∧ rowObj p.2.2.2.1 p.2.2.2.2)) (ro p.1 p.2.2.2.2)
theorem RoU.dup (v : Value) (xs : List Nat) : Dup (RoU v xs) := Dup.ex fun p => match p with
  | none => Dup.pure _
  | some _ => Dup.sep (Dup.pure _) (Dup.ro _ _)
theorem rou_us {v : Value} {xs : List Nat} (h : H (RoU v xs :: l) σ) : Us σ v xs := by
  obtain ⟨p, h⟩ := H_ex.1 h
  cases p with
  | none => exact .inl (H_pure.1 h).1
  | some p =>
    simp only [H_sep] at h
    obtain ⟨⟨h1, h2, h3, h4, h5⟩, h⟩ := H_pure.1 h
    refine .inr ⟨p.1, p.2.1, p.2.2.1, p.2.2.2.1, h1, h2, ?_, h3, h4⟩
    rcases h5 with ⟨e, q, h5⟩ | ⟨e, h5⟩
    · rw [h5] at h; exact row_cells h.rget0.1
    · rw [h5] at h; exact row_ro h.rget0.1
theorem rou_nil {v : Value} {a : Option Addr} {c : Nat} (hv : v = .slice a 0 c) (h : H l σ) : H (RoU v [] :: l) σ := H_ex.2 ⟨none, H_pure.2 ⟨⟨by trivial, a, c, hv⟩, h⟩⟩
theorem rou_in {b o c : Nat} {xs : List Nat} {row : List Value} {e : TypeId} {q : Bool} (hc : xs.length ≤ known c) (hx : (row.drop o).take xs.length = uv xs) (hl : o + xs.length ≤ row.length) (h : H (pt b (.cells row e q) :: l) σ) :
    H (RoU (.slice (some ⟨b, o, none⟩) xs.length c) xs :: l) σ := by
  refine H_ex.2 ⟨some (b, o, c, row, .cells row e q), ?_⟩
  simp only [H_sep]
  exact H_pure.2 ⟨⟨by trivial, hc, hx, hl, .inl ⟨e, q, rfl⟩⟩, h.freeze0⟩
theorem rou_dup {v : Value} {xs : List Nat} (h : H (RoU v xs :: l) σ) : H (RoU v xs :: RoU v xs :: l) σ := by
  have := h.map0 (RoU.dup v xs)
  rwa [H_sep] at this
theorem own_rou {e n : Nat} {v : Value} {xs : List Nat} (h : H (Own e 1 v n (uv xs) :: l) σ) : H (RoU v xs :: l) σ := by
  rcases H_own.1 h with ⟨⟨h0, e1, h2⟩, hh⟩ | ⟨b, c, opn, rest, h1, h2, h3, rfl, h4, h5⟩
  · have : xs = [] := by
      cases xs with
      | nil => rfl
      | cons x xs => simp [uv] at e1
    subst this
    rcases h2 with rfl | rfl
    · exact rou_nil rfl hh
    · exact rou_nil rfl hh
  · have hn : xs.length = n := by simpa using h2
    subst hn
    exact rou_in h4 (by rw [List.drop_zero, List.take_append_of_le_length (by simp), List.take_of_length_le (by simp)]) (by simp) h1
theorem sclone {v : Value} {xs : List Nat} (h : H l σ) (hv : Us σ v xs) (hn : xs.length ≤ 1099511627776)
    (hQ : ∀ w σ', H (Own t_uint64 1 w xs.length (uv xs) :: l) σ' → Q (.ret w) σ') : E f_slices_Clone_sl_uint64_uint64 [v] σ Q := by
  apply e_slices_Clone_sl_uint64_uint64; unfold s_slices_Clone_sl_uint64_uint64
  have hs := us_src hv
  obtain ⟨a, c, rfl⟩ := us_form hv
  cases a with
  | none =>
    have : xs = [] := by
      rcases hv with ⟨rfl, _⟩ | ⟨b, o, c, row, h1, _⟩
      · rfl
      · cases h1
    subst this
    show ldB (some (.bool true)) _
    rw [ldB_some]
    refine If_t rfl ?_
    exact hQ _ _ (h.own_nil t_uint64 1).unsnoc
  | some a =>
    show ldB (some (.bool false)) _
    rw [ldB_some]
    refine If_f rfl ?_
    refine append_own (n := 0) (xs := []) (h.own_zb t_uint64 1) l.length (by simp) hs (by omega) (by omega) (uv_one _) ?_
    intro v' σ' h'
    simp only [List.set_append_right _ _ (Nat.le_refl _), Nat.sub_self, List.set_cons_zero, Nat.zero_add, List.nil_append] at h'
    exact hQ _ _ h'.unsnoc
end Go.Ax.C
set_option maxRecDepth 100000
namespace Go.Ax.C
open Go.Proofs Go.RowKit
variable {l r m : List Assn} {σ : AHeap} {Q : RK}
theorem row_at {A C : List Value} {ys : List Nat} {k x : Nat} (hk : ys[k]? = some x) : (A ++ uv ys ++ C)[A.length + k]? = some (.int .u64 (x : Nat)) := by
  have hlt := (List.getElem?_eq_some_iff.1 hk).1
  rw [List.append_assoc, List.getElem?_append_right (by omega), Nat.add_sub_cancel_left, List.getElem?_append_left (by simpa using hlt), uv_get, hk]; rfl
theorem row_set {A C : List Value} {ys : List Nat} {k x : Nat} (hk : k < ys.length) : (A ++ uv ys ++ C).set (A.length + k) (.int .u64 (x : Nat)) = A ++ uv (ys.set k x) ++ C := by
  rw [List.append_assoc, List.set_append_right _ _ (by omega), Nat.add_sub_cancel_left, List.set_append_left _ _ (by simpa using hk), uv_set, List.append_assoc]
theorem srev {b c e : Nat} {A C : List Value} {xs : List Nat} {q : Bool} (h : H (pt b (.cells (A ++ uv xs ++ C) e q) :: l) σ) (hn : xs.length ≤ 1099511627776)
    (hQ : ∀ σ', H (pt b (.cells (A ++ uv xs.reverse ++ C) e q) :: l) σ' → Q (.ret (.tuple #[])) σ') : E f_slices_Reverse_sl_uint64_uint64 [.slice (some ⟨b, A.length, none⟩) xs.length c] σ Q := by
  apply e_slices_Reverse_sl_uint64_uint64; unfold s_slices_Reverse_sl_uint64_uint64
  show ldI .i64 (some (.int .i64 xs.length)) _
  rw [ldI_some]
  refine b64 ((xs.length : Int) - 1) (by omega) ?_
  refine ⟨fun m i j τ => ∃ (k : Nat) (ys : List Nat), i = k ∧ j = (xs.length : Int) - 1 - k ∧ m = xs.length - k ∧ 2 * k ≤ xs.length + 1 ∧ ys.length = xs.length ∧
    (∀ t, t < xs.length → ys[t]? = if t < k ∨ xs.length < t + k + 1 then xs[xs.length - 1 - t]? else xs[t]?) ∧ H (pt b (.cells (A ++ uv ys ++ C) e q) :: l) τ,
    ⟨xs.length, 0, xs, by simp, by simp, by simp, by omega, rfl, fun t ht => by rw [if_neg (by omega)], h⟩, ?_⟩
  rintro m i j τ ⟨k, ys, rfl, rfl, rfl, hk, hl, hy, h1⟩
  unfold s_slices_Reverse_sl_uint64_uint64_b1
  refine If_dec (fun hlt => ?_) (fun hge => ?_)
  · obtain ⟨jj, hjj⟩ : ∃ jj : Nat, (xs.length : Int) - 1 - k = jj := ⟨xs.length - 1 - k, by omega⟩
    rw [hjj]
    have hj1 : jj = xs.length - 1 - k := by omega
    have hkl : k < ys.length := by omega
    have hjl : jj < ys.length := by omega
    have ia : ∀ t : Nat, t < xs.length → aIndexAddr 1 (.slice (some ⟨b, A.length, none⟩) xs.length c) (.int .i64 (t : Nat)) = some (.pointer (some ⟨b, A.length + t, none⟩)) := fun t ht => by
      rw [idxA (by omega)]; simp
    rw [ia jj (by omega), om_some, load1 (h1.row 0 rfl), row_at (List.getElem?_eq_getElem hjl), ldI_some, ia k (by omega), om_some, load1 (h1.row 0 rfl), row_at (List.getElem?_eq_getElem hkl), ldI_some, om_some]
    refine store1 h1 0 rfl rfl (by simp; omega) ?_
    intro σ1 h2
    rw [List.set_cons_zero, row_set hkl] at h2
    rw [om_some]
    refine store1 h2 0 rfl rfl (by simp; omega) ?_
    intro σ2 h3
    rw [List.set_cons_zero, row_set (by simpa using hjl)] at h3
    refine b64 ((k + 1 : Nat) : Int) (by omega) ?_
    refine b64 ((xs.length : Int) - 1 - (k + 1 : Nat)) (by omega) ?_
    refine ⟨xs.length - (k + 1), by omega, k + 1, _, rfl, rfl, rfl, by omega, by simp [hl], fun t ht => ?_, h3⟩
    have e1 : ys[k] = xs[k] := by
      have := hy k (by omega)
      rw [if_neg (by omega), List.getElem?_eq_getElem hkl, List.getElem?_eq_getElem (by omega)] at this
      exact Option.some.inj this
    have e2 : ys[jj] = xs[jj] := by
      have := hy jj (by omega)
      rw [if_neg (by omega), List.getElem?_eq_getElem hjl, List.getElem?_eq_getElem (by omega)] at this
      exact Option.some.inj this
    rw [e1, e2]
    by_cases ht1 : t = jj
    · subst ht1
      rw [List.getElem?_set_self (by simpa using hjl), if_pos (by omega), List.getElem?_eq_getElem (by omega)]
      congr 2; omega
    · rw [List.getElem?_set_ne (Ne.symm ht1)]
      by_cases ht2 : t = k
      · subst ht2
        rw [List.getElem?_set_self (by simpa using hkl), if_pos (by omega), List.getElem?_eq_getElem (by omega)]
        congr 2
      · rw [List.getElem?_set_ne (Ne.symm ht2), hy t ht]
        by_cases hc : t < k ∨ xs.length < t + k + 1
        · rw [if_pos hc, if_pos (by omega)]
        · rw [if_neg hc, if_neg (by omega)]
  · refine hQ τ ?_
    have : ys = xs.reverse := by
      apply List.ext_getElem?
      intro t
      by_cases ht : t < xs.length
      · rw [hy t ht, List.getElem?_reverse ht]
        by_cases hc : t < k ∨ xs.length < t + k + 1
        · rw [if_pos hc]
        · rw [if_neg hc]
          congr 1; omega
      · rw [List.getElem?_eq_none (by omega), List.getElem?_eq_none (by simp; omega)]
    rw [← this]; exact h1
theorem ex_from {b o n c lo : Nat} {k : IntKind} (hc : c < OPEN) (h : lo < c) (hn : lo ≤ n) (hnc : n ≤ c) : aSlice 1 (.slice (some ⟨b, o, none⟩) n c) (some (.int k (lo : Nat))) none none = some (.slice (some ⟨b, o + lo, none⟩) (n - lo) (c - lo)) := by
  simp only [aSlice, bndO]
  simp only [Option.bind_some]
  rw [bnd_int (by omega)]
  simp only [Option.bind_some, Int.toNat_natCast]
  rw [if_pos hc, if_pos hnc, if_neg (by omega)]
  simp [add_mk]
theorem ex_to {b o n c hi : Nat} {k : IntKind} (hc : c < OPEN) (h : hi ≤ c) : aSlice 1 (.slice (some ⟨b, o, none⟩) n c) none (some (.int k (hi : Nat))) none = some (.slice (some ⟨b, o, none⟩) hi c) := by
  simp only [aSlice, bndO]
  rw [known_lt hc, bnd_int (by omega)]
  simp only [Option.bind_some, Int.toNat_natCast]
  rw [if_pos hc, if_pos h]
  simp [add_mk]
theorem srot {b c e : Nat} {A C : List Value} {xs : List Nat} {x : Nat} {q : Bool} (h : H (pt b (.cells (A ++ uv (xs ++ [x]) ++ C) e q) :: l) σ) (hn : xs.length < 1099511627776) (hc : c < OPEN) (hc2 : xs.length + 1 ≤ c)
    (hQ : ∀ σ', H (pt b (.cells (A ++ uv (x :: xs) ++ C) e q) :: l) σ' → Q (.ret (.tuple #[])) σ') : E f_slices_rotateRight_uint64 [.slice (some ⟨b, A.length, none⟩) (xs.length + 1) c, .int .i64 1] σ Q := by
  apply e_slices_rotateRight_uint64; unfold s_slices_rotateRight_uint64
  show ldI .i64 (some (.int .i64 ((xs.length + 1 : Nat) : Int))) _
  rw [ldI_some]
  refine b64 (xs.length : Int) (by omega) ?_
  apply e_slices_rotateLeft_uint64; unfold s_slices_rotateLeft_uint64
  rw [ex_to hc (by omega), om_some]
  have h0 : H (pt b (.cells (A ++ uv xs ++ (uv [x] ++ C)) e q) :: l) σ := by
    have e : A ++ uv (xs ++ [x]) ++ C = A ++ uv xs ++ (uv [x] ++ C) := by simp [uv_app]
    rw [← e]; exact h
  refine srev h0 (by omega) ?_
  intro σ1 h1
  rw [c0_ret, ex_from hc (by omega) (by omega) hc2, om_some]
  have h2 : H (pt b (.cells ((A ++ uv xs.reverse) ++ uv [x] ++ C) e q) :: l) σ1 := by
    have e : A ++ uv xs.reverse ++ (uv [x] ++ C) = (A ++ uv xs.reverse) ++ uv [x] ++ C := by simp
    rw [← e]; exact h1
  have el : A.length + xs.length = (A ++ uv xs.reverse).length := by simp
  have el2 : xs.length + 1 - xs.length = [x].length := by simp
  rw [el, el2]
  refine srev h2 (by simp) ?_
  intro σ2 h3
  rw [c0_ret]
  have h4 : H (pt b (.cells (A ++ uv (xs.reverse ++ [x]) ++ C) e q) :: l) σ2 := by
    have e : (A ++ uv xs.reverse) ++ uv [x].reverse ++ C = A ++ uv (xs.reverse ++ [x]) ++ C := by simp [uv_app]
    rw [← e]; exact h3
  have el3 : xs.length + 1 = (xs.reverse ++ [x]).length := by simp
  rw [el3]
  refine srev h4 (by simp; omega) ?_
  intro σ3 h5
  rw [c0_ret, c0_ret]
  refine hQ σ3 ?_
  have e : (xs.reverse ++ [x]).reverse = x :: xs := by simp
  rw [e] at h5
  exact h5
theorem nobodyO : NoBody P f_slices_overlaps_uint64 (Extern.SlicesOverlaps.overlaps #[t_sl_uint64, t_sl_uint64] #[t_bool]) := ⟨Tryz.f168, by kernel_rfl, by kernel_rfl, by kernel_rfl, by kernel_rfl, by kernel_rfl⟩
theorem drop_two {A B : Assn} {X : Assn} (h : H (X :: A :: B :: l) σ) : H (X :: l) σ := (((h.perm (.swap _ _ _)).tail).perm (.swap _ _ _)).tail
theorem uv_cut (xs : List Nat) (i : Nat) (rest : List Value) : uv xs ++ rest = uv (xs.take i) ++ (uv (xs.drop i) ++ rest) := by
  rw [← List.append_assoc, ← uv_app, List.take_append_drop]
theorem sins_end {b c e i x : Nat} {xs : List Nat} {rest : List Value} {q : Bool} (h : H (pt b (.cells (uv (xs.take i) ++ (uv (x :: xs.drop i) ++ rest)) e q) :: l) σ) (hi : i ≤ xs.length) (hc : xs.length + 1 ≤ known c) :
    H (RoU (.slice (some ⟨b, 0, none⟩) (xs.length + 1) c) (xs.take i ++ x :: xs.drop i) :: l) σ := by
  have hl : (xs.take i ++ x :: xs.drop i).length = xs.length + 1 := by simp; omega
  have := rou_in (o := 0) (xs := xs.take i ++ x :: xs.drop i) (c := c) (by omega) (by
    rw [List.drop_zero, ← List.append_assoc, ← uv_app, List.take_append_of_le_length (by simp), List.take_of_length_le (by simp)]) (by simp; try omega) h
  rw [hl] at this
  exact this
set_option maxHeartbeats 1000000 in
theorem sins_ex {b c e vb i x : Nat} {xs : List Nat} {rest : List Value} {q : Bool} (h : H (pt b (.cells (uv xs ++ rest) e q) :: pt vb (.cells (uv [x]) t_uint64 false) :: l) σ) (hn : xs.length ≤ 1099511627000) (hco : c < OPEN) (hi : i < xs.length) (hnc : xs.length ≤ c) (hcr : c ≤ xs.length + rest.length)
    (hQ : ∀ w σ', H (RoU w (xs.take i ++ x :: xs.drop i) :: l) σ' → Q (.ret w) σ') : E f_slices_Insert_sl_uint64_uint64 [.slice (some ⟨b, 0, none⟩) xs.length c, .int .i64 i, .slice (some ⟨vb, 0, none⟩) 1 1] σ Q := by
  have hsl : ∀ (τ : AHeap) (n : Nat) (L : List Assn), H L τ → (∃ k : Nat, L[k]? = some (pt vb (.cells (uv [x]) t_uint64 false))) → 1 ≤ n → srcOf 1 (.slice (some ⟨vb, 0, none⟩) (Nat.min 1 n) 1) τ = some (1, uv [x]) := by
    intro τ n L hL ⟨k, hk⟩ hn1
    have : Nat.min 1 n = 1 := Nat.min_eq_left hn1
    rw [this, src_row (hL.row k hk) (by simp)]; rfl
  apply e_slices_Insert_sl_uint64_uint64; unfold s_slices_Insert_sl_uint64_uint64
  rw [ex_from hco (by omega) (by omega) hnc, om_some]
  show ldI .i64 (some (.int .i64 1)) _
  rw [ldI_some]
  refine If_f rfl ?_
  show ldI .i64 (some (.int .i64 xs.length)) _
  rw [ldI_some]
  refine If_dec (fun g => absurd g (by omega)) fun _ => ?_
  refine b64 ((xs.length : Int) + 1) (by omega) ?_
  have hcap : aCap (.slice (some ⟨b, 0, none⟩) xs.length c) = some (.int .i64 c) := by
    simp only [aCap]
    have : Nat.blt c OPEN = true := by simpa [Nat.blt_eq] using hco
    rw [this]; rfl
  rw [hcap, ldI_some]
  have hdl : (uv (xs.drop i)).length = xs.length - i := by simp
  have htl : (uv (xs.take i)).length = i := by simp; omega
  refine If_dec (fun hlt => ?_) (fun hge => ?_)
  · -- a new row
    rw [ex_to hco (by omega), om_some]
    refine b64 ((xs.length : Int) + 1) (by omega) ?_
    refine b64 ((xs.length + 1 - i : Nat) : Int) (by omega) ?_
    have hold : oldOf 1 (some ⟨b, 0, none⟩) i σ = some (uv (xs.take i)) := by
      have hs := src_row (z := 1) (n := i) (o := 0) (cap := c) (h.row 0 rfl) (by simp; omega)
      simp only [srcOf, Option.map_eq_some_iff, Prod.mk.injEq] at hs
      obtain ⟨y, hy, _, rfl⟩ := hs
      simp only [oldOf]
      rw [hy, List.drop_zero, Nat.mul_one, uv_cut xs i, List.take_append_of_le_length (by omega), List.take_of_length_le (by omega)]
    have he : aAppendZ t_uint64 1 8 [.int .u64 0] (.slice (some ⟨b, 0, none⟩) i c) (.int .i64 ((xs.length + 1 - i : Nat) : Int)) σ =
        some (.slice (some ⟨σ.size, 0, none⟩) (xs.length + 1) (OPEN * 1 + (xs.length + 1)), σ.push (.cells (uv (xs.take i) ++ reps (xs.length + 1 - i) [.int .u64 0]) t_uint64 true)) := by
      have e1 : i + (xs.length + 1 - i) = xs.length + 1 := by omega
      simp only [aAppendZ, Int.toNat_natCast]
      rw [if_pos (by omega)]
      simp only [aAppendN, e1]
      rw [if_neg (by rw [known_lt hco]; omega), if_pos (by omega), hold]
      simp only [Option.bind_some]
      rw [if_pos hco]
    rw [he, pu_some]
    have h1 := (h.push (.cells (uv (xs.take i) ++ reps (xs.length + 1 - i) [.int .u64 0]) t_uint64 true)).unsnoc
    generalize σ.size = B at h1 ⊢
    generalize σ.push (.cells (uv (xs.take i) ++ reps (xs.length + 1 - i) [.int .u64 0]) t_uint64 true) = σ1 at h1 ⊢
    have hrl : (reps (xs.length + 1 - i) [Value.int .u64 0]).length = xs.length + 1 - i := by rw [reps_length]; simp
    generalize reps (xs.length + 1 - i) [Value.int .u64 0] = Z at h1 hrl
    have hcap2 : CapOk 1 (xs.length + 1) (OPEN * 1 + (xs.length + 1)) := CapOk.open' (by unfold OPEN; omega)
    obtain ⟨c1, s1, _⟩ := slice_from (b := B) (o := 0) (k := .i64) (lo := ((i : Nat) : Int)) hcap2 (by omega)
    simp only [Int.toNat_natCast, Nat.mul_one] at s1
    simp only []
    rw [Nat.mul_one, s1, om_some]
    refine copy_ok h1 0 (o := 0 + i) rfl (hsl σ1 _ _ h1 ⟨2, rfl⟩ (by omega)) (uv_one _) (by simp; omega) ?_
    intro σ2 h2
    simp only [List.set_cons_zero] at h2
    rw [Nat.zero_add, splice_mid _ _ _ _ htl.symm (by simp; omega)] at h2
    refine b64 ((i + 1 : Nat) : Int) (by omega) ?_
    obtain ⟨c2, s2, _⟩ := slice_from (b := B) (o := 0) (k := .i64) (lo := ((i + 1 : Nat) : Int)) hcap2 (by omega)
    simp only [Int.toNat_natCast, Nat.mul_one] at s2
    rw [s2, om_some, om_some]
    have hs3 : srcOf 1 (.slice (some ⟨b, 0 + i, none⟩) (Nat.min (xs.length - i) (xs.length + 1 - (i + 1))) (c - i)) σ2 = some (xs.length - i, uv (xs.drop i)) := by
      have : Nat.min (xs.length - i) (xs.length + 1 - (i + 1)) = xs.length - i := Nat.min_eq_left (by omega)
      rw [this, src_row (h2.row 1 rfl) (by simp; omega), Nat.zero_add, Nat.mul_one, uv_cut xs i rest, List.drop_append_of_le_length (by omega), List.drop_of_length_le (by omega), List.nil_append, List.take_append_of_le_length (by omega), List.take_of_length_le (by omega)]
    refine copy_ok h2 0 (o := 0 + (i + 1)) rfl hs3 (uv_one _) (by simp; omega) ?_
    intro σ3 h3
    simp only [List.set_cons_zero] at h3
    rw [Nat.zero_add, splice_mid _ _ _ _ (by simp; omega) (by simp; omega)] at h3
    have h4 := drop_two h3
    have e4 : uv (xs.take i) ++ uv [x] ++ uv (xs.drop i) ++ ((Z.drop (uv [x]).length).drop (uv (xs.drop i)).length) = uv (xs.take i) ++ (uv (x :: xs.drop i) ++ ((Z.drop (uv [x]).length).drop (uv (xs.drop i)).length)) := by
      have : uv (x :: xs.drop i) = uv [x] ++ uv (xs.drop i) := rfl
      rw [this]; simp
    rw [e4] at h4
    refine hQ _ _ (sins_end h4 (by omega) ?_)
    unfold known OPEN; omega
  · refine b64 ((xs.length + 1 : Nat) : Int) (by omega) ?_
    rw [ex_to hco (by omega), om_some]
    refine b64 ((i + 1 : Nat) : Int) (by omega) ?_
    rw [ex_from hco (by omega) (by omega) (by omega), om_some]
    obtain ⟨y, rest, rfl⟩ : ∃ y r2, rest = y :: r2 := by
      cases rest with
      | nil => simp at hcr; omega
      | cons y r2 => exact ⟨y, r2, rfl⟩
    rw [E_eq]
    refine overlaps_ev (o1 := 0) (o2 := 0 + (i + 1)) nobodyO (t := t_sl_uint64) (e := t_uint64) rfl (by kernel_rfl) (i := (P.info? t_uint64).get!) (by kernel_rfl) (h.perm (.swap _ _ _)).get0.1 h.get0.1 (Ne.symm h.ne2) (by simp) (by simp; omega) ?_
    intro ov
    rw [cB_ret, ← E_eq]
    refine If_b (fun hov => ?_) (fun hov => ?_)
    · refine b64 ((i + 1 : Nat) : Int) (by omega) ?_
      rw [ex_from hco (by omega) (by omega) (by omega), om_some, ex_from hco (by omega) (by omega) (by omega), om_some]
      have hs3 : srcOf 1 (.slice (some ⟨b, 0 + i, none⟩) (Nat.min (xs.length + 1 - i) (xs.length + 1 - (i + 1))) (c - i)) σ = some (xs.length - i, uv (xs.drop i)) := by
        have : Nat.min (xs.length + 1 - i) (xs.length + 1 - (i + 1)) = xs.length - i := by simp only [Nat.min_def]; split <;> omega
        rw [this, src_row (h.row 0 rfl) (by simp; omega), Nat.zero_add, Nat.mul_one, uv_cut xs i, List.drop_append_of_le_length (by omega), List.drop_of_length_le (by omega), List.nil_append, List.take_append_of_le_length (by omega), List.take_of_length_le (by omega)]
      refine copy_ok h 0 (o := 0 + (i + 1)) rfl hs3 (uv_one _) (by simp; omega) ?_
      intro σ2 h2
      simp only [List.set_cons_zero] at h2
      rw [Nat.zero_add, uv_cut xs (i + 1), splice_mid _ _ _ _ (by simp; omega) (by simp; omega)] at h2
      have e2 : uv (xs.take (i + 1)) ++ uv (xs.drop i) ++ (uv (xs.drop (i + 1)) ++ y :: rest).drop (uv (xs.drop i)).length = uv (xs.take i) ++ (uv [xs[i]] ++ (uv (xs.drop i) ++ rest)) := by
        have a1 : uv (xs.take (i + 1)) = uv (xs.take i) ++ uv [xs[i]] := by rw [← uv_app, List.take_append_getElem hi]
        have a2 : (uv (xs.drop (i + 1)) ++ y :: rest).drop (uv (xs.drop i)).length = rest := by
          have : (uv (xs.drop i)).length = (uv (xs.drop (i + 1)) ++ [y]).length := by simp; omega
          rw [this, show uv (xs.drop (i + 1)) ++ y :: rest = (uv (xs.drop (i + 1)) ++ [y]) ++ rest by simp, List.drop_left]
        rw [a1, a2]; simp
      rw [e2] at h2
      simp only []
      rw [om_some]
      refine copy_ok h2 0 (o := 0 + i) rfl (hsl σ2 _ _ h2 ⟨1, rfl⟩ (by omega)) (uv_one _) (by simp; omega) ?_
      intro σ3 h3
      simp only [List.set_cons_zero] at h3
      rw [Nat.zero_add, splice_mid _ _ _ _ htl.symm (by simp)] at h3
      have e3 : uv (xs.take i) ++ uv [x] ++ (uv [xs[i]] ++ (uv (xs.drop i) ++ rest)).drop (uv [x]).length = uv (xs.take i) ++ (uv (x :: xs.drop i) ++ rest) := by
        have : uv (x :: xs.drop i) = uv [x] ++ uv (xs.drop i) := rfl
        rw [this, show (uv [x]).length = (uv [xs[i]]).length from rfl, List.drop_left]; simp
      rw [e3] at h3
      refine hQ _ _ (sins_end (h3.perm (.swap _ _ _)).tail (by omega) ?_)
      rw [known_lt hco]; omega
    · rw [ex_from hco (by omega) (by omega) (by omega), om_some]
      refine copy_ok h 0 (o := 0 + xs.length) rfl (hsl σ _ _ h ⟨1, rfl⟩ (by omega)) (uv_one _) (by simp) ?_
      intro σ2 h2
      simp only [List.set_cons_zero] at h2
      rw [Nat.zero_add, splice_mid _ _ _ _ (by simp) (by simp)] at h2
      rw [ex_from hco (by omega) (by omega) (by omega), om_some]
      have e2 : uv xs ++ uv [x] ++ (y :: rest).drop (uv [x]).length = uv (xs.take i) ++ uv (xs.drop i ++ [x]) ++ rest := by
        have := uv_cut xs i (uv [x] ++ rest)
        rw [uv_app]
        simp only [List.append_assoc] at this ⊢
        rw [← this]; rfl
      rw [e2] at h2
      have el : xs.length + 1 - i = (xs.drop i).length + 1 := by simp; omega
      have ei : (0 + i) = (uv (xs.take i)).length := by omega
      rw [el, ei]
      refine srot h2 (by simp; omega) (by omega) (by simp; omega) ?_
      intro σ3 h3
      rw [c0_ret]
      rw [List.append_assoc] at h3
      refine hQ _ _ (sins_end (h3.perm (.swap _ _ _)).tail (by omega) ?_)
      rw [known_lt hco]; omega
theorem sins {s : Value} {vb i x : Nat} {xs : List Nat} (h : H (Own t_uint64 1 s xs.length (uv xs) :: pt vb (.cells (uv [x]) t_uint64 false) :: l) σ) (hn : xs.length ≤ 1099511627000) (hi : i ≤ xs.length)
    (hQ : ∀ w σ', H (RoU w (xs.take i ++ x :: xs.drop i) :: l) σ' → Q (.ret w) σ') : E f_slices_Insert_sl_uint64_uint64 [s, .int .i64 i, .slice (some ⟨vb, 0, none⟩) 1 1] σ Q := by
  rcases Nat.lt_or_ge i xs.length with hlt | hge
  · rcases H_own.1 h with ⟨⟨h0, _⟩, _⟩ | ⟨b, c, opn, rest, h1, h2, h3, rfl, h4, h5⟩
    · omega
    · rcases h5 with ⟨rfl, hc1, hc2⟩ | hc
      · rw [E_eq]
        have hlen : (uv xs ++ rest).length = c % OPEN := by
          simp only [List.length_append, uv_len, h3]; unfold known; unfold known at h4; omega
        refine Ev.opened h1.get0.1 hc1 hc2 hlen ⟨Tryz.f134, by kernel_rfl, by kernel_rfl⟩ ?_
        intro c1 k k1 k2 k3
        rw [← E_eq]
        have h6 := h1.set0 (.cells ((uv xs ++ rest) ++ List.replicate k undef) t_uint64 false)
        rw [List.append_assoc] at h6 ⊢
        refine sins_ex h6 hn (by unfold OPEN; omega) hlt ?_ ?_ hQ
        · unfold known at h4; omega
        · simp only [List.length_append, List.length_replicate] at k2 ⊢
          simp only [uv_len] at k2; omega
      · have hkc := known_lt hc
        rw [hkc] at h3 h4
        exact sins_ex h1 hn hc hlt h4 (by omega) hQ
  · have hie : i = xs.length := by omega
    subst hie
    have hsl : ∃ w, aSlice 1 s (some (.int .i64 (xs.length : Nat))) none none = some w := by
      rcases H_own.1 h with ⟨⟨h0, _, h2⟩, _⟩ | ⟨b, c, opn, rest, h1, h2, h3, rfl, h4, h5⟩
      · rw [h0]
        rcases h2 with rfl | rfl
        · exact ⟨_, rfl⟩
        · exact ⟨_, rfl⟩
      · simp only [aSlice, bndO, Option.bind_some]
        rw [bnd_int (by omega)]
        simp only [Option.bind_some, Int.toNat_natCast]
        by_cases hc : c < OPEN
        · rw [if_pos hc, if_pos (by rw [known_lt hc] at h4; exact h4)]; exact ⟨_, rfl⟩
        · rw [if_neg hc]
          split
          · exact ⟨_, rfl⟩
          · rw [if_pos trivial]; exact ⟨_, rfl⟩
    obtain ⟨w, hw⟩ := hsl
    have hlen : lenS s = some (.int .i64 xs.length) := by
      obtain ⟨_, _, a, c, rfl⟩ := h.own_src 0 rfl; rfl
    apply e_slices_Insert_sl_uint64_uint64; unfold s_slices_Insert_sl_uint64_uint64
    rw [hw, om_some]
    show ldI .i64 (some (.int .i64 1)) _
    rw [ldI_some]
    refine If_f rfl ?_
    rw [hlen, ldI_some]
    refine If_dec (fun _ => ?_) fun g => absurd rfl g
    have hs : srcOf 1 (.slice (some ⟨vb, 0, none⟩) 1 1) σ = some (1, uv [x]) := by rw [src_row (h.row 1 rfl) (by simp)]; rfl
    refine append_own h 0 rfl hs (by omega) (by omega) (uv_one _) ?_
    intro v' σ' h2
    simp only [List.set_cons_zero] at h2
    refine hQ v' σ' ?_
    rw [← uv_app] at h2
    have h3 := own_rou h2
    have e : xs.take xs.length ++ x :: xs.drop xs.length = xs ++ [x] := by simp
    rw [e]
    exact (h3.perm (.swap _ _ _)).tail
theorem cut2 {b o n c lo hi : Nat} {k k' : IntKind} (hz : c < OPEN ∨ c / OPEN = 1) (h1 : lo < known c) (h2 : lo ≤ hi) (h3 : hi ≤ known c) :
    aSlice 1 (.slice (some ⟨b, o, none⟩) n c) (some (.int k (lo : Nat))) (some (.int k' (hi : Nat))) none = some (.slice (some ⟨b, o + lo, none⟩) (hi - lo) (c - lo)) := by
  simp only [aSlice, bndO]
  rw [bnd_int (by omega)]
  simp only [Option.bind_some, Int.toNat_natCast]
  rw [bnd_int (by omega)]
  simp only [Option.bind_some, Int.toNat_natCast]
  by_cases hc : c < OPEN
  · rw [known_lt hc] at h1 h3
    rw [if_pos hc, if_pos h3, if_neg (by omega)]; simp [add_mk]
  · rw [if_neg hc, if_pos ⟨h1, hz.resolve_left hc⟩]; simp [add_mk]
theorem cutTo {b o n c hi : Nat} {k' : IntKind} (hz : c < OPEN ∨ c / OPEN = 1) (h1 : 0 < known c) (h3 : hi ≤ known c) :
    aSlice 1 (.slice (some ⟨b, o, none⟩) n c) none (some (.int k' (hi : Nat))) none = some (.slice (some ⟨b, o, none⟩) hi c) := by
  simp only [aSlice, bndO]
  rw [bnd_int (by omega)]
  simp only [Option.bind_some, Int.toNat_natCast]
  by_cases hc : c < OPEN
  · rw [known_lt hc] at h1 h3
    rw [if_pos hc, if_pos h3, if_neg (by omega)]; simp [add_mk]
  · rw [if_neg hc, if_pos ⟨h1, hz.resolve_left hc⟩]; simp [add_mk]
theorem cutFrom {b o n c lo : Nat} {k : IntKind} (hz : c < OPEN ∨ c / OPEN = 1) (hn : n ≤ known c) (h1 : lo ≤ n) (h0 : 0 < n) :
    ∃ a c', aSlice 1 (.slice (some ⟨b, o, none⟩) n c) (some (.int k (lo : Nat))) none none = some (.slice (some a) (n - lo) c') ∧ (lo < n → a = ⟨b, o + lo, none⟩ ∧ n - lo ≤ known c') := by
  rcases Nat.lt_or_ge lo n with hlt | hge
  · obtain ⟨c', e, hc'⟩ := slice_from (b := b) (o := o) (k := k) (lo := (lo : Nat)) ⟨hn, hz⟩ (by omega)
    simp only [Int.toNat_natCast, Nat.mul_one] at e hc'
    exact ⟨_, c', e, fun _ => ⟨rfl, hc'.1⟩⟩
  · have : lo = n := by omega
    subst this
    rw [Nat.sub_self]
    simp only [aSlice, bndO, Option.bind_some]
    rw [bnd_int (by omega)]
    simp only [Option.bind_some, Int.toNat_natCast, Nat.sub_self]
    by_cases hc : c < OPEN
    · rw [if_pos hc, if_pos (by rw [known_lt hc] at hn; exact hn)]
      split
      · exact ⟨_, _, rfl, fun g => absurd g (by omega)⟩
      · exact ⟨_, _, rfl, fun g => absurd g (by omega)⟩
    · rw [if_neg hc]
      split
      · exact ⟨_, _, rfl, fun g => absurd g (by omega)⟩
      · rw [if_pos trivial]; exact ⟨_, _, rfl, fun g => absurd g (by omega)⟩
theorem sdel {s : Value} {i : Nat} {xs : List Nat} (h : H (Own t_uint64 1 s xs.length (uv xs) :: l) σ) (hn : xs.length ≤ 1099511627000) (hi : i < xs.length)
    (hQ : ∀ w σ', H (RoU w (xs.take i ++ xs.drop (i + 1)) :: l) σ' → Q (.ret w) σ') : E f_slices_Delete_sl_uint64_uint64 [s, .int .i64 i, .int .i64 ((i + 1 : Nat) : Int)] σ Q := by
  rcases H_own.1 h with ⟨⟨h0, _⟩, _⟩ | ⟨b, c, opn, rest, h1, h2, h3, rfl, h4, h5⟩
  · omega
  · have hz : c < OPEN ∨ c / OPEN = 1 := by
      rcases h5 with ⟨_, _, h5⟩ | h5
      · exact .inr h5
      · exact .inl h5
    apply e_slices_Delete_sl_uint64_uint64; unfold s_slices_Delete_sl_uint64_uint64
    show ldI .i64 (some (.int .i64 xs.length)) _
    rw [ldI_some]
    have e1 := slice_3 (z := 1) (b := b) (o := 0) (n := xs.length) (c := c) (lo := (i : Nat)) (hi := ((i + 1 : Nat) : Int)) (mx := (xs.length : Nat)) (k := .i64) (k' := .i64) (k'' := .i64) ⟨h4, hz⟩ (by omega)
    rw [e1, om_some]
    refine If_dec (fun g => absurd g (by omega)) fun _ => ?_
    show ldI .i64 (some (.int .i64 xs.length)) _
    rw [ldI_some, cutTo hz (by omega) (by omega), om_some]
    obtain ⟨a, c', e2, ha⟩ := cutFrom (b := b) (o := 0) (k := .i64) hz h4 (lo := i + 1) (by omega) (by omega)
    rw [e2, om_some]
    have hs : srcOf 1 (.slice (some a) (xs.length - (i + 1)) c') σ = some (xs.length - (i + 1), uv (xs.drop (i + 1))) := by
      rcases Nat.lt_or_ge (i + 1) xs.length with hlt | hge
      · obtain ⟨rfl, _⟩ := ha hlt
        rw [src_row (h1.row 0 rfl) (by simp; omega), Nat.zero_add, Nat.mul_one, uv_cut xs (i + 1), List.drop_append_of_le_length (by simp; omega), List.drop_of_length_le (by simp; omega), List.nil_append, List.take_append_of_le_length (by simp), List.take_of_length_le (by simp)]
      · have hz0 : xs.length - (i + 1) = 0 := by omega
        rw [hz0, src_zero, List.drop_of_length_le (by omega)]; rfl
    obtain ⟨σ1, hp, h6⟩ := poke_ok (o := i) h1 (uv_one (xs.drop (i + 1))) (by simp; omega)
    have hap : aAppend t_uint64 1 8 (.slice (some ⟨b, 0, none⟩) i c) (.slice (some a) (xs.length - (i + 1)) c') σ = some (.slice (some ⟨b, 0, none⟩) (xs.length - 1) c, σ1) := by
      simp only [aAppend, hs, Option.bind_some, aAppendN]
      have e3 : i + (xs.length - (i + 1)) = xs.length - 1 := by omega
      rw [e3, if_pos (by omega), Nat.mul_one, add_mk, Nat.zero_add, hp]; rfl
    rw [hap, pu_some]
    show ldI .i64 (some (.int .i64 ((xs.length - 1 : Nat) : Int))) _
    rw [ldI_some, cut2 hz (by omega) (by omega) h4, om_some]
    have hrow : splice (uv xs ++ rest) i (uv (xs.drop (i + 1))) = uv (xs.take i ++ xs.drop (i + 1)) ++ ((uv (xs.drop i) ++ rest).drop (uv (xs.drop (i + 1))).length) := by
      rw [uv_cut xs i, splice_mid _ _ _ _ (by simp; omega) (by simp; omega), uv_app]
    rw [hrow] at h6
    obtain ⟨y, hy⟩ : ∃ y, (uv (xs.drop i) ++ rest).drop (uv (xs.drop (i + 1))).length = y := ⟨_, rfl⟩
    have hyl : 1 ≤ y.length := by rw [← hy]; simp; omega
    rw [hy] at h6
    obtain ⟨σ2, hp2, h7⟩ := poke_ok (o := 0 + (xs.length - 1)) (ys := reps 1 [.int .u64 0]) h6 rfl (by simp [reps]; omega)
    have hcl : aClear [.int .u64 0] (.slice (some ⟨b, 0 + (xs.length - 1), none⟩) (xs.length - (xs.length - 1)) (c - (xs.length - 1))) σ1 = some σ2 := by
      have : xs.length - (xs.length - 1) = 1 := by omega
      rw [this]; exact hp2
    rw [hcl, pu_some]
    have hl2 : (xs.take i ++ xs.drop (i + 1)).length = xs.length - 1 := by simp; omega
    refine hQ _ _ ?_
    rw [splice_mid _ _ _ _ (by simp; omega) (by simpa [reps] using hyl)] at h7
    have := rou_in (o := 0) (c := c) (xs := xs.take i ++ xs.drop (i + 1)) (by omega) (by
      rw [List.drop_zero, List.append_assoc, List.take_append_of_le_length (by simp), List.take_of_length_le (by simp)]) (by simp; try omega) h7
    rw [hl2] at this
    exact this
end Go.Ax.C
namespace Go.Ax
open Go.RowKit
class Tl (l m : List Assn) : Prop where
  ex : ∃ k, l.Perm (m ++ k)
instance (priority := 1000) Tl.refl (l : List Assn) : Tl l l := ⟨[], by simp⟩
instance (priority := 900) Tl.nil (l : List Assn) : Tl l [] := ⟨l, .refl _⟩
instance (priority := 100) Tl.drop (A : Assn) (l m : List Assn) [h : Tl l m] : Tl (A :: l) m := ⟨by
  obtain ⟨k, hk⟩ := h.ex
  exact ⟨A :: k, (hk.cons A).trans List.perm_middle.symm⟩⟩
class Sb (l m : List Assn) : Prop where
  ex : ∃ k, l.Perm (m ++ k)
instance (priority := 1000) Sb.step (A : Assn) (l m r : List Assn) [h : Fnd l A r] [k : Sb r m] : Sb l (A :: m) := ⟨by
  obtain ⟨x, hx⟩ := k.ex
  exact ⟨x, h.perm.trans (hx.cons A)⟩⟩
instance (priority := 100) Sb.tl (l m : List Assn) [h : Tl l m] : Sb l m := ⟨h.ex⟩
theorem H.re {l m : List Assn} {σ : AHeap} (h : H l σ) [k : Sb l m] : H m σ := by
  obtain ⟨x, hx⟩ := k.ex
  exact (h.perm hx).left
theorem Ld {l : List Assn} {σ : AHeap} {b o : Nat} {c : List Value} {v : Value} (h : H l σ) [k : Row l b c] [g : GetL c o v] : aLoad false 1 (.pointer (some ⟨b, o, none⟩)) σ = some v := by
  rw [load1 (k.row σ h), g.eq]
section
variable {l : List Assn} {σ : AHeap} {b o : Nat} {c : List Value}
theorem LI {ik : IntKind} {n : Int} {K : Int → Prop} (h : H l σ) [Row l b c] [GetL c o (.int ik n)] : ldI ik (L b o σ) K = K n := by rw [L_eq h, ldI_some]
theorem LB {n : Bool} {K : Bool → Prop} (h : H l σ) [Row l b c] [GetL c o (.bool n)] : ldB (L b o σ) K = K n := by rw [L_eq h, ldB_some]
theorem LV {v : Value} {K : Value → Prop} (h : H l σ) [Row l b c] [GetL c o v] : om (L b o σ) K = K v := by rw [L_eq h, om_some]
theorem AV {v : Value} {K : Value → Prop} (h : H l σ) [Row l b c] [GetL c o v] : om (aLoad false 1 (.pointer (some ⟨b, o, none⟩)) σ) K = K v := by rw [Ld h, om_some]
theorem veq_int {k : IntKind} {n : Int} {p : Prop} : (veq1 (.int k n) (.int k n) = true ∧ p) = p := by simp [veq1, veq, veq0]
theorem veq_bool {n : Bool} {p : Prop} : (veq1 (.bool n) (.bool n) = true ∧ p) = p := by simp [veq1, veq, veq0]
end
end Go.Ax
set_option maxRecDepth 100000
namespace Go.Ax.C
open Go.Proofs Go.RowKit
variable {l r m : List Assn} {σ : AHeap} {Q : RK}
structure Nd where
  leaf : Bool
  keys : List Nat
  vals : List Nat
deriving DecidableEq, Repr
theorem dropL {pre : List Assn} (h : H (pre ++ l) σ) : H l σ := by
  induction pre with
  | nil => exact h
  | cons A pre ih => exact ih h.tail
theorem veq_slice {a : Option Addr} {n c : Nat} {p : Prop} : (veq1 (.slice a n c) (.slice a n c) = true ∧ p) = p := by
  have : veq1 (.slice a n c) (.slice a n c) = true := by simp [veq1, veq, veq0]
  simp [this]
theorem rou_form {v : Value} {xs : List Nat} (h : H (RoU v xs :: l) σ) : ∃ a c, v = .slice a xs.length c := us_form (rou_us h)
def NdS (l : List Assn) (kv vv : Value) (n : Nd) : Prop := ∀ τ, H l τ → Us τ kv n.keys ∧ Us τ vv n.vals
theorem NdS.cons {kv vv : Value} {n : Nd} {A : Assn} (h : NdS l kv vv n) : NdS (A :: l) kv vv n := fun τ ht => h τ ht.tail
theorem NdS.two {kv vv : Value} {n : Nd} : NdS (RoU kv n.keys :: RoU vv n.vals :: l) kv vv n := fun τ ht => ⟨rou_us ht, rou_us ht.tail⟩
theorem kcount {lf : Bool} {kv vv : Value} {n : Nd} (h : H l σ) (hn : NdS l kv vv n) (hl : n.keys.length = n.vals.length)
    (hQ : ∀ σ', H l σ' → Q (.ret (.int .i64 n.keys.length)) σ') : E f_knot_count [.agg #[.bool lf, kv, vv]] σ Q := by
  apply e_knot_count; unfold s_knot_count
  refine nw h ?_
  intro b σ1 h1
  obtain ⟨hk, hv⟩ := hn σ1 h1.tail
  rw [LV h1, us_len hk, ldI_some, LV h1, us_len hv, ldI_some]
  rw [if_neg (by omega)]
  exact hQ _ h1.tail
theorem kboth {lf : Bool} {kv vv : Value} {n : Nd} {g : FuncId} {caps : List Value} (h : H l σ) (hn : NdS l kv vv n) (hl : n.keys.length = n.vals.length) (hlen : n.keys.length ≤ 1000) (F : Bool → List Nat → List Nat)
    (hg : ∀ kf xs pre v τ (Q' : RK), xs = (if kf then n.keys else n.vals) → H (Own t_uint64 1 v xs.length (uv xs) :: (pre ++ l)) τ → (∀ w τ', H (RoU w (F kf xs) :: (pre ++ l)) τ' → Q' (.ret w) τ') → E g ([] ++ [v, .bool kf] ++ caps) τ Q')
    (hQ : ∀ kv' vv' σ', H (RoU kv' (F true n.keys) :: RoU vv' (F false n.vals) :: l) σ' → Q (.ret (.agg #[.bool lf, kv', vv'])) σ') :
    E f_knot_both [.agg #[.bool lf, kv, vv], .func (.func g) #[] caps.toArray] σ Q := by
  apply e_knot_both; unfold s_knot_both
  refine nw h ?_
  intro b1 σ1 h1
  refine nw h1 ?_
  intro b3 σ2 h2
  have hn2 : NdS _ kv vv n := (hn.cons (A := pt b1 (.cells [.bool lf, kv, vv] t_api_Node false))).cons (A := pt b3 (.cells [.bool false, .slice none 0 0, .slice none 0 0] t_api_Node false))
  rw [LB h2, LV h2, LV h2]
  refine kcount h2 hn2 hl ?_
  intro σ3 h3
  obtain ⟨hk, hv⟩ := hn2 σ3 h3
  rw [cI_ret, LB h3, LV h3]
  obtain ⟨w1, e1, u1⟩ := us_cut (kd := .i64) (kd' := .i64) hk (Nat.le_refl _)
  obtain ⟨w2, e2, u2⟩ := us_cut (kd := .i64) (kd' := .i64) hv (Nat.le_of_eq hl)
  rw [e1, om_some, LV h3, e2, om_some]
  rw [List.take_length] at u1
  rw [hl, List.take_length] at u2
  refine sclone h3 u1 (by omega) ?_
  intro v23 σ4 h4
  rw [cV_ret, LB h4, veq_bool, LV h4]
  obtain ⟨a0, c0', rfl⟩ := us_form hv
  rw [veq_slice]
  show E g _ _ _
  refine hg true n.keys [_, _] v23 σ4 _ rfl h4 ?_
  intro v27 σ5 h5
  have h5 : H (RoU v27 (F true n.keys) :: pt b3 (.cells [.bool false, .slice none 0 0, .slice none 0 0] t_api_Node false) :: pt b1 (.cells [.bool lf, kv, .slice a0 n.vals.length c0'] t_api_Node false) :: l) σ5 := h5
  rw [cV_ret, LB h5, veq_bool, LV h5, veq_slice]
  have u3 : Us σ5 w2 n.vals := by
    obtain ⟨w3, e3, u3⟩ := us_cut (kd := .i64) (kd' := .i64) (hn2 σ5 h5.tail).2 (Nat.le_of_eq hl)
    rw [e2] at e3
    cases e3
    rw [hl, List.take_length] at u3
    exact u3
  refine sclone h5 u3 (by omega) ?_
  intro v31 σ6 h6
  rw [cV_ret, LB h6, veq_bool]
  show E g _ _ _
  refine hg false n.vals [_, _, _] v31 σ6 _ rfl h6 ?_
  intro v34 σ7 h7
  have h7 : H (RoU v34 (F false n.vals) :: RoU v27 (F true n.keys) :: pt b3 (.cells [.bool false, .slice none 0 0, .slice none 0 0] t_api_Node false) :: pt b1 (.cells [.bool lf, kv, .slice a0 n.vals.length c0'] t_api_Node false) :: l) σ7 := h7
  rw [cV_ret, LB h7, veq_bool]
  obtain ⟨a1, c1, rfl⟩ := rou_form h7
  obtain ⟨a2, c2, rfl⟩ := rou_form h7.tail
  refine On_one rfl (On_one rfl ?_)
  refine storeN (vs := [.bool lf, .slice a2 (F true n.keys).length c2, .slice a1 (F false n.vals).length c1]) h7 2 rfl rfl (by omega) rfl (by simp) ?_
  intro σ8 h8
  have h9 : H (RoU (.slice a1 (F false n.vals).length c1) (F false n.vals) :: RoU (.slice a2 (F true n.keys).length c2) (F true n.keys) :: pt b3 (.cells [.bool lf, .slice a2 (F true n.keys).length c2, .slice a1 (F false n.vals).length c1] t_api_Node false) :: pt b1 (.cells [.bool lf, kv, .slice a0 n.vals.length c0'] t_api_Node false) :: l) σ8 := h8
  rw [loadN (h9.row 2 rfl) (by simp), pu_some]
  have h10 := (h9.perm ((List.Perm.swap _ _ _).trans (((List.Perm.refl _).cons _).cons _)))
  refine hQ _ _ σ8 ?_
  have h11 : H (pt b3 (.cells [.bool lf, .slice a2 (F true n.keys).length c2, .slice a1 (F false n.vals).length c1] t_api_Node false) :: pt b1 (.cells [.bool lf, kv, .slice a0 n.vals.length c0'] t_api_Node false) :: RoU (.slice a2 (F true n.keys).length c2) (F true n.keys) :: RoU (.slice a1 (F false n.vals).length c1) (F false n.vals) :: l) σ8 := by
    have := List.perm_append_comm (l₁ := [RoU (.slice a2 (F true n.keys).length c2) (F true n.keys), RoU (.slice a1 (F false n.vals).length c1) (F false n.vals)]) (l₂ := [pt b3 (.cells [.bool lf, .slice a2 (F true n.keys).length c2, .slice a1 (F false n.vals).length c1] t_api_Node false), pt b1 (.cells [.bool lf, kv, .slice a0 n.vals.length c0'] t_api_Node false)])
    exact h10.perm (this.append_right l)
  exact h11.tail.tail
theorem kone {b : Bool} {x y : Nat} (hQ : Q (.ret (.int .u64 (if b then x else y : Nat))) σ) : E f_knot_one [.bool b, .int .u64 x, .int .u64 y] σ Q := by
  apply e_knot_one; unfold s_knot_one
  cases b with
  | true => exact hQ
  | false => exact hQ
theorem put3 {b : Nat} {q : Bool} {c : List Value} {e : TypeId} {lf : Bool} {x y : Value} {K : Value → AHeap → Prop} (h : H (pt b (.cells c e q) :: l) σ) (hc : c.length = 3) (hx : one x = true) (hy : one y = true) (hK : ∀ σ', H l σ' → K (.agg #[.bool lf, x, y]) σ') :
    pu (aStore 3 (.pointer (some ⟨b, 0, none⟩)) (.agg #[.bool lf, x, y]) σ) fun τ => pu (aLoad true 3 (.pointer (some ⟨b, 0, none⟩)) τ) fun v => K v τ := by
  refine storeN (vs := [.bool lf, x, y]) h 0 rfl rfl (by omega) (by simp only [List.all_cons, hx, hy, List.all_nil]; rfl) (by omega) ?_
  intro σ1 h1
  have hs : splice c 0 [.bool lf, x, y] = [.bool lf, x, y] := by
    unfold splice
    rw [List.take_zero, List.nil_append, Nat.zero_add, List.drop_of_length_le (by simp; omega), List.append_nil]
  have h2 : H (pt b (.cells (splice c 0 [.bool lf, x, y]) e q) :: l) σ1 := h1
  rw [hs] at h2
  rw [loadN (h2.row 0 rfl) (by simp), pu_some]
  exact hK σ1 h2.tail
def insF (i key val : Nat) (kf : Bool) (xs : List Nat) : List Nat := xs.take i ++ (if kf then key else val) :: xs.drop i
theorem kinsert {lf : Bool} {kv vv : Value} {n : Nd} {i key val : Nat} (h : H l σ) (hn : NdS l kv vv n) (hl : n.keys.length = n.vals.length) (hlen : n.keys.length ≤ 1000) (hi : i ≤ n.keys.length)
    (hQ : ∀ kv' vv' σ', H (RoU kv' (insF i key val true n.keys) :: RoU vv' (insF i key val false n.vals) :: l) σ' → Q (.ret (.agg #[.bool lf, kv', vv'])) σ') :
    E f_knot_Insert [.agg #[.bool lf, kv, vv], .int .i64 i, .int .u64 key, .int .u64 val] σ Q := by
  apply e_knot_Insert; unfold s_knot_Insert
  refine nw h ?_
  intro b1 σ1 h1
  refine nw h1 ?_
  intro b3 σ2 h2
  refine nw h2 ?_
  intro b5 σ3 h3
  refine nw h3 ?_
  intro b7 σ4 h4
  refine nw h4 ?_
  intro b9 σ5 h5
  rw [LI h5, LB h5, LV h5, LV h5]
  refine kcount h5 (((((hn.cons).cons).cons).cons).cons) hl ?_
  intro σ6 h6
  rw [cI_ret, LI h6, veq_int]
  have e : (if (n.keys.length : Int) < (if 0 > (i : Int) then 0 else (i : Int)) then (n.keys.length : Int) else (if 0 > (i : Int) then 0 else (i : Int))) = i := by
    rw [if_neg (show ¬ (0 > (i : Int)) by omega), if_neg (by omega)]
  rw [e]
  refine st h6 rfl ?_
  intro σ7 h7
  rw [LB h7, LV h7, LV h7]
  refine kboth (caps := [.pointer (some ⟨b3, 0, none⟩), .pointer (some ⟨b5, 0, none⟩), .pointer (some ⟨b7, 0, none⟩)]) h7 (((((hn.cons).cons).cons).cons).cons) hl hlen (insF i key val) ?_ ?_
  · intro kf xs pre v τ Q' hxs hτ hk
    show E f_knot_Insert_c1 [v, .bool kf, .pointer (some ⟨b3, 0, none⟩), .pointer (some ⟨b5, 0, none⟩), .pointer (some ⟨b7, 0, none⟩)] τ Q'
    apply e_knot_Insert_c1; unfold s_knot_Insert_c1
    have hl0 := dropL hτ.tail
    rw [LI hl0, LI hl0, LI hl0]
    refine kone ?_
    rw [cI_ret, LI hl0, veq_int]
    refine nw hτ ?_
    intro b13 σ8 h8
    have hl1 := dropL h8.tail.tail
    rw [LI hl1, veq_int]
    have hxl : xs.length = n.keys.length := by rw [hxs]; split <;> omega
    refine sins (x := if kf then key else val) (h8.perm (.swap _ _ _)) (by omega) (by omega) ?_
    intro w σ9 h9
    rw [cV_ret]
    exact hk w σ9 h9
  · intro kv' vv' σ8 h8
    rw [cV_ret]
    obtain ⟨a1, c1, hk'⟩ := rou_form h8
    obtain ⟨a2, c2, hv'⟩ := rou_form h8.tail
    refine put3 (K := fun v τ => Q (.ret v) τ) (h8.re : H (pt b9 (.cells [.bool false, .slice none 0 0, .slice none 0 0] t_api_Node false) :: RoU kv' (insF i key val true n.keys) :: RoU vv' (insF i key val false n.vals) :: l) σ8) rfl (by rw [hk']; rfl) (by rw [hv']; rfl) ?_
    intro σ9 h9
    exact hQ _ _ _ h9
def setF (i key val : Nat) (kf : Bool) (xs : List Nat) : List Nat := xs.set i (if kf then key else val)
theorem own_el {e : Nat} {v : Value} {xs : List Nat} {i : Nat} (h : H (Own e 1 v xs.length (uv xs) :: l) σ) (hi : i < xs.length) {K : AHeap → Prop} {y : Nat} (hK : ∀ σ', H (Own e 1 v xs.length (uv (xs.set i y)) :: l) σ' → K σ') :
    om (aIndexAddr 1 v (.int .i64 i)) fun p => pu (aStore 1 p (.int .u64 y) σ) K := by
  rcases H_own.1 h with ⟨⟨h0, _⟩, _⟩ | ⟨b, c, opn, rest, h1, h2, h3, rfl, h4, h5⟩
  · omega
  · rw [idxA (by omega), om_some]
    have e : (⟨b, 0 + (i : Int).toNat * 1, none⟩ : Addr) = ⟨b, i, none⟩ := by simp
    rw [e]
    refine store_own h 0 rfl (by omega) rfl (by simpa using hi) ?_
    intro σ' h'
    rw [List.set_cons_zero, ← uv_set] at h'
    exact hK σ' h'
theorem kset {lf : Bool} {kv vv : Value} {n : Nd} {i key val : Nat} (h : H l σ) (hn : NdS l kv vv n) (hl : n.keys.length = n.vals.length) (hlen : n.keys.length ≤ 1000) (hi : i < n.keys.length)
    (hQ : ∀ kv' vv' σ', H (RoU kv' (setF i key val true n.keys) :: RoU vv' (setF i key val false n.vals) :: l) σ' → Q (.ret (.agg #[.bool lf, kv', vv'])) σ') :
    E f_knot_Set [.agg #[.bool lf, kv, vv], .int .i64 i, .int .u64 key, .int .u64 val] σ Q := by
  apply e_knot_Set; unfold s_knot_Set
  refine nw h ?_
  intro b1 σ1 h1
  refine nw h1 ?_
  intro b3 σ2 h2
  refine nw h2 ?_
  intro b5 σ3 h3
  refine nw h3 ?_
  intro b7 σ4 h4
  refine nw h4 ?_
  intro b9 σ5 h5
  rw [LB h5, LV h5, LV h5]
  refine kboth (caps := [.pointer (some ⟨b3, 0, none⟩), .pointer (some ⟨b5, 0, none⟩), .pointer (some ⟨b7, 0, none⟩)]) h5 (((((hn.cons).cons).cons).cons).cons) hl hlen (setF i key val) ?_ ?_
  · intro kf xs pre v τ Q' hxs hτ hk
    show E f_knot_Set_c1 [v, .bool kf, .pointer (some ⟨b3, 0, none⟩), .pointer (some ⟨b5, 0, none⟩), .pointer (some ⟨b7, 0, none⟩)] τ Q'
    have hxl : xs.length = n.keys.length := by rw [hxs]; split <;> omega
    apply e_knot_Set_c1; unfold s_knot_Set_c1
    have hl0 := dropL hτ.tail
    rw [LI hl0]
    refine If_dec (fun _ => ?_) fun g => absurd (by omega) g
    have hlv : lenS v = some (.int .i64 xs.length) := by obtain ⟨_, _, a, c, rfl⟩ := hτ.own_src 0 rfl; rfl
    rw [LI hl0, hlv, ldI_some]
    unfold s_knot_Set_c1_k2
    refine If_dec (fun _ => ?_) fun g => absurd (by omega) g
    rw [LI hl0, LI hl0, LI hl0]
    refine kone ?_
    rw [cI_ret, LI hl0, veq_int]
    refine own_el hτ (by omega) ?_
    intro σ8 h8
    unfold s_knot_Set_c1_k3
    refine hk v σ8 ?_
    have hl8 : xs.length = (setF i key val kf xs).length := by simp [setF]
    rw [hl8] at h8
    exact own_rou h8
  · intro kv' vv' σ8 h8
    rw [cV_ret]
    obtain ⟨a1, c1, hk'⟩ := rou_form h8
    obtain ⟨a2, c2, hv'⟩ := rou_form h8.tail
    refine put3 (K := fun v τ => Q (.ret v) τ) (h8.re : H (pt b9 (.cells [.bool false, .slice none 0 0, .slice none 0 0] t_api_Node false) :: RoU kv' (setF i key val true n.keys) :: RoU vv' (setF i key val false n.vals) :: l) σ8) rfl (by rw [hk']; rfl) (by rw [hv']; rfl) ?_
    intro σ9 h9
    exact hQ _ _ _ h9
def remF (i : Nat) (_ : Bool) (xs : List Nat) : List Nat := xs.take i ++ xs.drop (i + 1)
theorem kremove {lf : Bool} {kv vv : Value} {n : Nd} {i : Nat} (h : H l σ) (hn : NdS l kv vv n) (hl : n.keys.length = n.vals.length) (hlen : n.keys.length ≤ 1000) (hi : i < n.keys.length)
    (hQ : ∀ kv' vv' σ', H (RoU kv' (remF i true n.keys) :: RoU vv' (remF i false n.vals) :: l) σ' → Q (.ret (.agg #[.bool lf, kv', vv'])) σ') :
    E f_knot_Remove [.agg #[.bool lf, kv, vv], .int .i64 i] σ Q := by
  apply e_knot_Remove; unfold s_knot_Remove
  refine nw h ?_
  intro b1 σ1 h1
  refine nw h1 ?_
  intro b3 σ2 h2
  refine nw h2 ?_
  intro b5 σ3 h3
  rw [LB h3, LV h3, LV h3]
  refine kboth (caps := [.pointer (some ⟨b3, 0, none⟩)]) h3 (((hn.cons).cons).cons) hl hlen (remF i) ?_ ?_
  · intro kf xs pre v τ Q' hxs hτ hk
    show E f_knot_Remove_c1 [v, .bool kf, .pointer (some ⟨b3, 0, none⟩)] τ Q'
    have hxl : xs.length = n.keys.length := by rw [hxs]; split <;> omega
    apply e_knot_Remove_c1; unfold s_knot_Remove_c1
    have hl0 := dropL hτ.tail
    rw [LI hl0]
    refine If_dec (fun g => absurd g (by omega)) fun _ => ?_
    have hlv : lenS v = some (.int .i64 xs.length) := by obtain ⟨_, _, a, c, rfl⟩ := hτ.own_src 0 rfl; rfl
    rw [LI hl0, hlv, ldI_some]
    unfold s_knot_Remove_c1_k2
    refine If_dec (fun g => absurd g (by omega)) fun _ => ?_
    rw [LI hl0, LI hl0]
    refine b64 ((i + 1 : Nat) : Int) (by omega) ?_
    refine sdel hτ (by omega) (by omega) ?_
    intro w σ9 h9
    rw [cV_ret]
    exact hk w σ9 h9
  · intro kv' vv' σ8 h8
    rw [cV_ret]
    obtain ⟨a1, c1, hk'⟩ := rou_form h8
    obtain ⟨a2, c2, hv'⟩ := rou_form h8.tail
    refine put3 (K := fun v τ => Q (.ret v) τ) (h8.re : H (pt b5 (.cells [.bool false, .slice none 0 0, .slice none 0 0] t_api_Node false) :: RoU kv' (remF i true n.keys) :: RoU vv' (remF i false n.vals) :: l) σ8) rfl (by rw [hk']; rfl) (by rw [hv']; rfl) ?_
    intro σ9 h9
    exact hQ _ _ _ h9
end Go.Ax.C
set_option maxRecDepth 100000
namespace Go.Ax.C
open Go.Proofs Go.RowKit
variable {l r m : List Assn} {σ : AHeap} {Q : RK}
theorem own_from {e : Nat} {v : Value} {xs : List Nat} {k : Nat} {kd : IntKind} (h : H (Own e 1 v xs.length (uv xs) :: l) σ) (hk : k ≤ xs.length) :
    ∃ w, aSlice 1 v (some (.int kd (k : Nat))) none none = some w ∧ H (RoU w (xs.drop k) :: l) σ := by
  rcases H_own.1 h with ⟨⟨h0, _, h2⟩, hh⟩ | ⟨b, c, opn, rest, h1, h2, h3, rfl, h4, h5⟩
  · have : k = 0 := by omega
    subst this
    have : xs = [] := List.length_eq_zero_iff.1 h0
    subst this
    rcases h2 with rfl | rfl
    · exact ⟨_, rfl, rou_nil rfl hh⟩
    · exact ⟨_, rfl, rou_nil rfl hh⟩
  · by_cases hpos : 0 < xs.length
    · have hz : c < OPEN ∨ c / OPEN = 1 := by
        rcases h5 with ⟨_, _, h5⟩ | h5
        · exact .inr h5
        · exact .inl h5
      obtain ⟨a, c', e2, ha⟩ := cutFrom (b := b) (o := 0) (k := kd) hz h4 hk hpos
      refine ⟨_, e2, ?_⟩
      by_cases hlt : k < xs.length
      · obtain ⟨rfl, hc'⟩ := ha hlt
        have := rou_in (o := 0 + k) (c := c') (xs := xs.drop k) (by simpa using hc') (by
          rw [Nat.zero_add, List.drop_append_of_le_length (by simpa using hk), ← uv_drop, List.take_append_of_le_length (by simp), List.take_of_length_le (by simp)]) (by simp; omega) h1
        rw [List.length_drop] at this
        exact this
      · have h0 : xs.length - k = 0 := by omega
        rw [h0, List.drop_of_length_le (by omega)]
        exact rou_nil rfl h1.tail
    · have : xs = [] := List.length_eq_zero_iff.1 (by omega)
      subst this
      have : k = 0 := by simpa using hk
      subst this
      simp only [aSlice, bndO, Option.bind_some]
      rw [bnd_int (by simp)]
      simp only [Option.bind_some]
      by_cases hc : c < OPEN
      · rw [if_pos hc, if_pos (by simp)]
        exact ⟨_, rfl, rou_nil rfl h1.tail⟩
      · rw [if_neg hc]
        split
        · exact ⟨_, rfl, rou_nil rfl h1.tail⟩
        · exact ⟨ZA, by simp, rou_nil rfl h1.tail⟩
theorem rou_cut {v : Value} {xs : List Nat} {k : Nat} {kd kd' : IntKind} (h : H (RoU v xs :: l) σ) (hk : k ≤ xs.length) :
    ∃ w, aSlice 1 v none (some (.int kd (k : Nat))) (some (.int kd' (k : Nat))) = some w ∧ H (RoU w (xs.take k) :: l) σ := by
  obtain ⟨w, e, _⟩ := us_cut (kd := kd) (kd' := kd') (rou_us h) hk
  refine ⟨w, e, ?_⟩
  obtain ⟨p, hp⟩ := H_ex.1 h
  cases p with
  | none =>
    obtain ⟨⟨rfl, a, c, rfl⟩, hh⟩ := H_pure.1 hp
    have : k = 0 := by simpa using hk
    subst this
    simp only [aSlice, bndO] at e
    rw [bnd_int (by simp)] at e
    simp only [Option.bind_some] at e
    rw [bnd_int (by simp)] at e
    cases e
    exact rou_nil rfl hh
  | some p =>
    simp only [H_sep] at hp
    obtain ⟨⟨h1, h2, h3, h4, h5⟩, hh⟩ := H_pure.1 hp
    rw [h1] at e
    simp only [aSlice, bndO] at e
    rw [bnd_int (by omega)] at e
    simp only [Option.bind_some] at e
    rw [bnd_int (by simp)] at e
    simp only [Option.bind_some, Int.toNat_natCast, Nat.sub_zero, Nat.zero_mul, Option.map_some, add_mk, Nat.add_zero, ite_self, Option.some.injEq] at e
    subst e
    refine H_ex.2 ⟨some (p.1, p.2.1, k, p.2.2.2.1, p.2.2.2.2), ?_⟩
    simp only [H_sep]
    have hkl : (xs.take k).length = k := by simp; omega
    refine H_pure.2 ⟨⟨by rw [hkl], ?_, ?_, by rw [hkl]; omega, h5⟩, hh⟩
    · rw [hkl]
      have : known k = k := by
        refine known_lt ?_
        have : known p.2.2.1 < OPEN := Nat.mod_lt _ (by unfold OPEN; omega)
        omega
      omega
    · rw [hkl, uv_take, ← h3, List.take_take, Nat.min_eq_left hk]
theorem st3 {b : Nat} {q : Bool} {c : List Value} {e : TypeId} {lf : Bool} {x y : Value} {K : AHeap → Prop} (h : H l σ) [f : AtB l b (pt b (.cells c e q)) r] (hc : c.length = 3) (hx : one x = true) (hy : one y = true)
    (hK : ∀ σ', H (pt b (.cells [.bool lf, x, y] e q) :: r) σ' → K σ') : pu (aStore 3 (.pointer (some ⟨b, 0, none⟩)) (.agg #[.bool lf, x, y]) σ) K := by
  have h := h.atb b
  refine storeN (vs := [.bool lf, x, y]) h 0 rfl rfl (by omega) (by simp only [List.all_cons, hx, hy, List.all_nil]; rfl) (by omega) ?_
  intro σ1 h1
  have hs : splice c 0 [.bool lf, x, y] = [.bool lf, x, y] := by
    unfold splice
    rw [List.take_zero, List.nil_append, Nat.zero_add, List.drop_of_length_le (by simp; omega), List.append_nil]
  have h2 : H (pt b (.cells (splice c 0 [.bool lf, x, y]) e q) :: r) σ1 := h1
  rw [hs] at h2
  exact hK σ1 h2
def halfK (n : Nd) : Nat := (n.keys.length + 1) / 2
set_option maxHeartbeats 1000000 in
theorem ksplit {lf : Bool} {kv vv : Value} {n : Nd} (h : H l σ) (hn : NdS l kv vv n) (hl : n.keys.length = n.vals.length) (hlen : n.keys.length ≤ 1000)
    (hQ : ∀ k1 v1 k2 v2 σ', H (RoU k1 (n.keys.take (halfK n)) :: RoU v1 (n.vals.take (halfK n)) :: RoU k2 (n.keys.drop (halfK n)) :: RoU v2 (n.vals.drop (halfK n)) :: l) σ' → Q (.ret (.tuple #[.agg #[.bool lf, k1, v1], .agg #[.bool lf, k2, v2]])) σ') :
    E f_knot_Split [.agg #[.bool lf, kv, vv]] σ Q := by
  apply e_knot_Split; unfold s_knot_Split
  refine nw h ?_
  intro b1 σ1 h1
  refine nw h1 ?_
  intro b3 σ2 h2
  refine nw h2 ?_
  intro b5 σ3 h3
  rw [LB h3, LV h3, LV h3]
  refine kcount h3 (((hn.cons).cons).cons) hl ?_
  intro σ4 h4
  rw [cI_ret]
  refine b64 ((n.keys.length : Int) + 1) (by omega) ?_
  have hhalf : Int.tdiv ((n.keys.length : Int) + 1) 2 = ((halfK n : Nat) : Int) := by
    unfold halfK
    rw [Int.tdiv_eq_ediv_of_nonneg (by omega)]; omega
  have hhl : halfK n ≤ 1000 := by unfold halfK; omega
  rw [hhalf]
  refine b64 ((halfK n : Nat) : Int) (by omega) ?_
  refine nw h4 ?_
  intro b16 σ5 h5
  refine st h5 rfl ?_
  intro σ6 h6
  rw [LB h6, LV h6, LV h6]
  have hhk : halfK n ≤ n.keys.length := by unfold halfK; omega
  refine kboth (caps := [.pointer (some ⟨b16, 0, none⟩)]) h6 ((((hn.cons).cons).cons).cons) hl hlen (fun _ xs => xs.take (halfK n)) ?_ ?_
  · intro kf xs pre v τ Q' hxs hτ hk
    show E f_knot_Split_c1 [v, .bool kf, .pointer (some ⟨b16, 0, none⟩)] τ Q'
    have hxl : xs.length = n.keys.length := by rw [hxs]; split <;> omega
    apply e_knot_Split_c1; unfold s_knot_Split_c1
    have hl0 := dropL hτ.tail
    rw [LI hl0, LI hl0]
    obtain ⟨w, e, hw⟩ := rou_cut (k := halfK n) (kd := .i64) (kd' := .i64) (own_rou hτ) (by omega)
    rw [e, om_some]
    exact hk w τ hw
  intro k1 v1 σ7 h7
  rw [cV_ret]
  obtain ⟨a1, c1, hk1⟩ := rou_form h7
  obtain ⟨a2, c2, hv1⟩ := rou_form h7.tail
  refine nw h7 ?_
  intro b27 σ8 h8
  refine st3 h8 rfl (by rw [hk1]; rfl) (by rw [hv1]; rfl) ?_
  intro σ9 h9
  rw [LB h9, LV h9, LV h9]
  refine kboth (caps := [.pointer (some ⟨b16, 0, none⟩)]) h9 (((((((hn.cons).cons).cons).cons).cons).cons).cons) hl hlen (fun _ xs => xs.drop (halfK n)) ?_ ?_
  · intro kf xs pre v τ Q' hxs hτ hk
    show E f_knot_Split_c2 [v, .bool kf, .pointer (some ⟨b16, 0, none⟩)] τ Q'
    have hxl : xs.length = n.keys.length := by rw [hxs]; split <;> omega
    apply e_knot_Split_c2; unfold s_knot_Split_c2
    have hl0 := dropL hτ.tail
    rw [LI hl0]
    obtain ⟨w, e, hw⟩ := own_from (k := halfK n) (kd := .i64) hτ (by omega)
    rw [e, om_some]
    exact hk w τ hw
  intro k2 v2 σ10 h10
  rw [cV_ret]
  obtain ⟨a3, c3, hk2⟩ := rou_form h10
  obtain ⟨a4, c4, hv2⟩ := rou_form h10.tail
  refine nw h10 ?_
  intro b38 σ11 h11
  refine st3 h11 rfl (by rw [hk2]; rfl) (by rw [hv2]; rfl) ?_
  intro σ12 h12
  rw [LB h12, LV h12, LV h12, LB h12, LV h12, LV h12]
  refine st3 h12 rfl (by rw [hk1]; rfl) (by rw [hv1]; rfl) ?_
  intro σ13 h13
  rw [LB h13, LV h13, LV h13]
  have hve : ∀ p : Prop, (veq1 (.agg #[.bool lf, k2, v2]) (.agg #[.bool lf, k2, v2]) = true ∧ p) = p := by
    intro p
    have : veq1 (.agg #[.bool lf, k2, v2]) (.agg #[.bool lf, k2, v2]) = true := by rw [hk2, hv2]; simp [veq1, veqs, veq, veq0]
    simp [this]
  rw [hve]
  refine st3 h13 rfl (by rw [hk2]; rfl) (by rw [hv2]; rfl) ?_
  intro σ14 h14
  have r3 : σ14.row b3 = some [.bool lf, k1, v1] := Row.row σ14 h14
  have r5 : σ14.row b5 = some [.bool lf, k2, v2] := Row.row σ14 h14
  rw [loadN r3 (by simp), pu_some, loadN r5 (by simp), pu_some]
  exact hQ _ _ _ _ _ h14.re
end Go.Ax.C
set_option maxRecDepth 100000
namespace Go.Ax.C
open Go.Proofs Go.RowKit
variable {l r m : List Assn} {σ : AHeap} {Q : RK}
theorem kjoin {lf lg : Bool} {kv vv kw vw : Value} {n p : Nd} (h : H l σ) (hn : NdS l kv vv n) (hp : NdS l kw vw p) (hl : n.keys.length = n.vals.length) (hlp : p.keys.length = p.vals.length) (hlen : n.keys.length ≤ 500) (hlenp : p.keys.length ≤ 500)
    (hQ : ∀ k1 v1 σ', H (RoU k1 (n.keys ++ p.keys) :: RoU v1 (n.vals ++ p.vals) :: l) σ' → Q (.ret (.agg #[.bool lf, k1, v1])) σ') :
    E f_knot_Join [.agg #[.bool lf, kv, vv], .agg #[.bool lg, kw, vw]] σ Q := by
  apply e_knot_Join; unfold s_knot_Join
  refine nw h ?_
  intro b1 σ1 h1
  refine nw h1 ?_
  intro b3 σ2 h2
  refine nw h2 ?_
  intro b5 σ3 h3
  rw [LB h3, LV h3, LV h3]
  refine kboth (caps := []) h3 (((hp.cons).cons).cons) hlp (by omega) (fun _ xs => xs) ?_ ?_
  · intro kf xs pre v τ Q' hxs hτ hk
    show E f_knot_Join_c1 [v, .bool kf] τ Q'
    apply e_knot_Join_c1; unfold s_knot_Join_c1
    exact hk v τ (own_rou hτ)
  intro k1 v1 σ7 h7
  rw [cV_ret]
  obtain ⟨a1, c1, hk1⟩ := rou_form h7
  obtain ⟨a2, c2, hv1⟩ := rou_form h7.tail
  refine nw h7 ?_
  intro b14 σ8 h8
  refine st3 h8 rfl (by rw [hk1]; rfl) (by rw [hv1]; rfl) ?_
  intro σ9 h9
  rw [LB h9, LV h9, LV h9]
  refine kboth (caps := [.pointer (some ⟨b14, 0, none⟩)]) h9 ((((((hn.cons).cons).cons).cons).cons).cons) hl (by omega) (fun kf xs => xs ++ (if kf then p.keys else p.vals)) ?_ ?_
  · intro kf xs pre v τ Q' hxs hτ hk
    show E f_knot_Join_c2 [v, .bool kf, .pointer (some ⟨b14, 0, none⟩)] τ Q'
    have hxl : xs.length = n.keys.length := by rw [hxs]; split <;> omega
    apply e_knot_Join_c2; unfold s_knot_Join_c2
    have hl0 := dropL hτ.tail
    have u1 : Us τ k1 p.keys := rou_us hl0.tail
    have u2 : Us τ v1 p.vals := rou_us hl0.tail.tail
    cases kf with
    | true =>
      refine If_t rfl ?_
      rw [LV hl0]
      refine append_own hτ 0 rfl (us_src u1) (by omega) (by omega) (uv_one _) ?_
      intro v' σ' h'
      simp only [List.set_cons_zero, ← uv_app] at h'
      exact hk v' σ' (own_rou h')
    | false =>
      refine If_f rfl ?_
      rw [LV hl0]
      refine append_own hτ 0 rfl (us_src u2) (by omega) (by omega) (uv_one _) ?_
      intro v' σ' h'
      simp only [List.set_cons_zero, ← uv_app] at h'
      exact hk v' σ' (own_rou h')
  intro k2 v2 σ10 h10
  rw [cV_ret]
  obtain ⟨a3, c3, hk2⟩ := rou_form h10
  obtain ⟨a4, c4, hv2⟩ := rou_form h10.tail
  have h10 : H (RoU k2 (n.keys ++ p.keys) :: RoU v2 (n.vals ++ p.vals) :: pt b14 (.cells [.bool lg, k1, v1] t_api_Node false) :: RoU k1 p.keys :: RoU v1 p.vals :: pt b5 (.cells [.bool false, .slice none 0 0, .slice none 0 0] t_api_Node false) :: pt b3 (.cells [.bool lg, kw, vw] t_api_Node false) :: pt b1 (.cells [.bool lf, kv, vv] t_api_Node false) :: l) σ10 := h10
  refine st3 h10 rfl (by rw [hk2]; rfl) (by rw [hv2]; rfl) ?_
  intro σ14 h14
  have r3 : σ14.row b5 = some [.bool lf, k2, v2] := Row.row σ14 h14
  rw [loadN r3 (by simp), pu_some]
  exact hQ _ _ _ h14.re
def evenK (n p : Nd) : Nat := (n.keys.length + p.keys.length + 1) / 2
theorem keven {lf lg : Bool} {kv vv kw vw : Value} {n p : Nd} (h : H l σ) (hn : NdS l kv vv n) (hp : NdS l kw vw p) (hl : n.keys.length = n.vals.length) (hlp : p.keys.length = p.vals.length) (hlen : n.keys.length ≤ 500) (hlenp : p.keys.length ≤ 500)
    (hQ : ∀ k1 v1 k2 v2 σ', H (RoU k1 ((n.keys ++ p.keys).take (evenK n p)) :: RoU v1 ((n.vals ++ p.vals).take (evenK n p)) :: RoU k2 ((n.keys ++ p.keys).drop (evenK n p)) :: RoU v2 ((n.vals ++ p.vals).drop (evenK n p)) :: l) σ' →
      Q (.ret (.tuple #[.agg #[.bool lf, k1, v1], .agg #[.bool lf, k2, v2]])) σ') :
    E f_knot_Even [.agg #[.bool lf, kv, vv], .agg #[.bool lg, kw, vw]] σ Q := by
  apply e_knot_Even; unfold s_knot_Even
  refine nw h ?_
  intro b1 σ1 h1
  refine nw h1 ?_
  intro b3 σ2 h2
  refine nw h2 ?_
  intro b5 σ3 h3
  refine nw h3 ?_
  intro b7 σ4 h4
  rw [LB h4, LV h4, LV h4, LB h4, LV h4, LV h4]
  refine kjoin h4 ((((hn.cons).cons).cons).cons) ((((hp.cons).cons).cons).cons) hl hlp hlen hlenp ?_
  intro k0 v0 σ5 h5
  rw [cV_ret]
  refine ksplit (n := ⟨lf, n.keys ++ p.keys, n.vals ++ p.vals⟩) h5 (fun τ ht => ⟨rou_us ht, rou_us ht.tail⟩) (by simp; omega) (by simp; omega) ?_
  intro k1 v1 k2 v2 σ6 h6
  rw [c2_ret]
  have he : halfK ⟨lf, n.keys ++ p.keys, n.vals ++ p.vals⟩ = evenK n p := by simp [halfK, evenK]
  rw [he] at h6
  obtain ⟨a1, c1, hk1⟩ := rou_form h6
  obtain ⟨a2, c2, hv1⟩ := rou_form h6.tail
  obtain ⟨a3, c3, hk2⟩ := rou_form h6.tail.tail
  obtain ⟨a4, c4, hv2⟩ := rou_form h6.tail.tail.tail
  refine st3 h6 rfl (by rw [hk1]; rfl) (by rw [hv1]; rfl) ?_
  intro σ7 h7
  refine st3 h7 rfl (by rw [hk2]; rfl) (by rw [hv2]; rfl) ?_
  intro σ8 h8
  have r5 : σ8.row b5 = some [.bool lf, k1, v1] := Row.row σ8 h8
  have r7 : σ8.row b7 = some [.bool lf, k2, v2] := Row.row σ8 h8
  rw [loadN r5 (by simp), pu_some, loadN r7 (by simp), pu_some]
  exact hQ _ _ _ _ _ h8.re
def findK (xs : List Nat) (key : Nat) : Nat := (xs.takeWhile fun x => decide (x < key)).length
theorem findK_le (xs : List Nat) (key : Nat) : findK xs key ≤ xs.length := (List.takeWhile_sublist _).length_le
theorem kfind {lf : Bool} {kv vv : Value} {n : Nd} {key : Nat} (h : H l σ) (hn : NdS l kv vv n) (hl : n.keys.length = n.vals.length) (hlen : n.keys.length ≤ 1000)
    (hQ : ∀ σ', H l σ' → Q (.ret (.tuple #[.int .i64 (findK n.keys key : Nat), .bool (decide (n.keys[findK n.keys key]? = some key))])) σ') :
    E f_knot_Find [.agg #[.bool lf, kv, vv], .int .u64 key] σ Q := by
  apply e_knot_Find; unfold s_knot_Find
  refine nw h ?_
  intro b1 σ1 h1
  rw [LB h1, LV h1, LV h1]
  refine kcount h1 hn.cons hl ?_
  intro σ2 h2
  rw [cI_ret]
  refine ⟨fun m i τ => ∃ k : Nat, i = k ∧ m = n.keys.length - k ∧ k ≤ n.keys.length ∧ (∀ t x, t < k → n.keys[t]? = some x → x < key) ∧ H (pt b1 (.cells [.bool lf, kv, vv] t_api_Node false) :: l) τ,
    ⟨n.keys.length, 0, rfl, rfl, by omega, fun t x ht => by omega, h2⟩, ?_⟩
  rintro m i τ ⟨k, rfl, rfl, hk, hall, h3⟩
  have hfk : ∀ x, n.keys[k]? = some x → ¬ x < key → findK n.keys key = k := by
    intro x hx hge
    have e : n.keys = n.keys.take k ++ x :: n.keys.drop (k + 1) := by
      have hlt := (List.getElem?_eq_some_iff.1 hx).1
      have := List.getElem?_eq_some_iff.1 hx
      rw [← this.2, ← List.drop_eq_getElem_cons hlt, List.take_append_drop]
    unfold findK
    rw [e, List.takeWhile_append_of_pos, List.takeWhile_cons_of_neg (by simpa using hge)]
    · simp; omega
    · intro y hy
      obtain ⟨t, ht, rfl⟩ := List.getElem_of_mem hy
      simp only [List.length_take] at ht
      rw [List.getElem_take]
      simpa using hall t _ (by omega) (List.getElem?_eq_getElem (by omega))
  unfold s_knot_Find_b1
  refine If_dec (fun hlt => ?_) (fun hge => ?_)
  · have hlt2 : k < n.keys.length := by omega
    obtain ⟨p, hp, hload⟩ := us_elem (hn τ h3.tail).1 (List.getElem?_eq_getElem hlt2)
    rw [LV h3, hp, om_some, hload, ldI_some]
    refine If_dec (fun hle => ?_) (fun hgt => ?_)
    · rw [LV h3, hp, om_some, hload, ldI_some]
      have := hfk _ (List.getElem?_eq_getElem hlt2) (by omega)
      have hq := hQ τ h3.tail
      rw [this, List.getElem?_eq_getElem hlt2] at hq
      have e : decide ((n.keys[k] : Int) = (key : Int)) = decide (some n.keys[k] = some key) := by
        apply decide_eq_decide.2
        rw [Option.some.injEq]; omega
      rw [e]
      exact hq
    · refine b64 ((k + 1 : Nat) : Int) (by omega) ?_
      refine ⟨n.keys.length - (k + 1), by omega, k + 1, rfl, rfl, by omega, fun t x ht hx => ?_, h3⟩
      rcases Nat.lt_or_ge t k with h' | h'
      · exact hall t x h' hx
      · have : t = k := by omega
        subst this
        rw [List.getElem?_eq_getElem hlt2] at hx
        cases hx
        omega
  · have hk2 : k = n.keys.length := by omega
    have hall2 : findK n.keys key = n.keys.length := by
      unfold findK
      have h9 := List.takeWhile_append_of_pos (p := fun x => decide (x < key)) (l₁ := n.keys) (l₂ := []) (fun y hy => by
        obtain ⟨t, ht, rfl⟩ := List.getElem_of_mem hy
        simpa using hall t _ (by omega) (List.getElem?_eq_getElem ht))
      rw [List.append_nil, List.takeWhile_nil, List.append_nil] at h9
      rw [h9]
    have hq := hQ τ h3.tail
    rw [hall2, List.getElem?_eq_none (Nat.le_refl _)] at hq
    exact hq
def childK (xs : List Nat) (key : Nat) : Nat := (xs.takeWhile fun x => decide (x ≤ key)).length - 1
theorem kchild {lf : Bool} {kv vv : Value} {n : Nd} {key : Nat} (h : H l σ) (hn : NdS l kv vv n) (hl : n.keys.length = n.vals.length) (hlen : n.keys.length ≤ 1000)
    (hQ : ∀ σ', H l σ' → Q (.ret (.int .i64 (childK n.keys key : Nat))) σ') :
    E f_knot_Child [.agg #[.bool lf, kv, vv], .int .u64 key] σ Q := by
  apply e_knot_Child; unfold s_knot_Child
  refine nw h ?_
  intro b1 σ1 h1
  rw [LB h1, LV h1, LV h1]
  refine kcount h1 hn.cons hl ?_
  intro σ2 h2
  rw [cI_ret]
  refine ⟨fun m at' i τ => ∃ k : Nat, i = k ∧ at' = ((k - 1 : Nat) : Int) ∧ m = n.keys.length - k ∧ k ≤ n.keys.length ∧ (∀ t x, t < k → n.keys[t]? = some x → x ≤ key) ∧ H (pt b1 (.cells [.bool lf, kv, vv] t_api_Node false) :: l) τ,
    ⟨n.keys.length, 0, rfl, rfl, rfl, by omega, fun t x ht => by omega, h2⟩, ?_⟩
  rintro m at' i τ ⟨k, rfl, rfl, rfl, hk, hall, h3⟩
  have htw : ((n.keys.take k).takeWhile fun x => decide (x ≤ key)) = n.keys.take k := by
    have h9 := List.takeWhile_append_of_pos (p := fun x => decide (x ≤ key)) (l₁ := n.keys.take k) (l₂ := []) (fun y hy => by
      obtain ⟨t, ht, rfl⟩ := List.getElem_of_mem hy
      simp only [List.length_take] at ht
      rw [List.getElem_take]
      simpa using hall t _ (by omega) (List.getElem?_eq_getElem (by omega)))
    rw [List.append_nil, List.takeWhile_nil, List.append_nil] at h9
    exact h9
  have hend : (k = n.keys.length ∨ ∃ x, n.keys[k]? = some x ∧ ¬ x ≤ key) → childK n.keys key = k - 1 := by
    intro hor
    unfold childK
    congr 1
    rcases hor with rfl | ⟨x, hx, hgt⟩
    · rw [List.take_length] at htw
      rw [htw]
    · have e : n.keys = n.keys.take k ++ x :: n.keys.drop (k + 1) := by
        have hlt := (List.getElem?_eq_some_iff.1 hx).1
        have := List.getElem?_eq_some_iff.1 hx
        rw [← this.2, ← List.drop_eq_getElem_cons hlt, List.take_append_drop]
      rw [e, List.takeWhile_append_of_pos, List.takeWhile_cons_of_neg (by simpa using hgt)]
      · simp; omega
      · intro y hy
        obtain ⟨t, ht, rfl⟩ := List.getElem_of_mem hy
        simp only [List.length_take] at ht
        rw [List.getElem_take]
        simpa using hall t _ (by omega) (List.getElem?_eq_getElem (by omega))
  unfold s_knot_Child_b1
  refine If_dec (fun hlt => ?_) (fun hge => ?_)
  · have hlt2 : k < n.keys.length := by omega
    obtain ⟨p, hp, hload⟩ := us_elem (hn τ h3.tail).1 (List.getElem?_eq_getElem hlt2)
    rw [LV h3, hp, om_some, hload, ldI_some]
    refine If_dec (fun hgt => ?_) (fun hle => ?_)
    · unfold s_knot_Child_k8
      have hq := hQ τ h3.tail
      rw [hend (.inr ⟨_, List.getElem?_eq_getElem hlt2, by omega⟩)] at hq
      exact hq
    · refine b64 ((k + 1 : Nat) : Int) (by omega) ?_
      refine ⟨n.keys.length - (k + 1), by omega, k + 1, rfl, by simp, rfl, by omega, fun t x ht hx => ?_, h3⟩
      rcases Nat.lt_or_ge t k with h' | h'
      · exact hall t x h' hx
      · have : t = k := by omega
        subst this
        rw [List.getElem?_eq_getElem hlt2] at hx
        cases hx
        omega
  · unfold s_knot_Child_k8
    have hq := hQ τ h3.tail
    rw [hend (.inl (by omega))] at hq
    exact hq
end Go.Ax.C
set_option maxRecDepth 100000
namespace Go.Ax.C
open Go.Proofs Go.RowKit
variable {l r m : List Assn} {σ : AHeap} {Q : RK}
def Nd.May (n : Nd) : Prop := (1 ≤ n.keys.length ∧ n.keys.length ≤ 8 ∧ n.vals.length = n.keys.length) ∧ n.keys.Pairwise (· < ·) ∧ ∀ v ∈ n.vals, v ≠ 0
instance (n : Nd) : Decidable n.May := by unfold Nd.May; infer_instance
theorem pair_snoc {xs : List Nat} {x : Nat} (h : xs.Pairwise (· < ·)) (hl : ∀ y, xs.getLast? = some y → y < x) : (xs ++ [x]).Pairwise (· < ·) := by
  rw [List.pairwise_append]
  refine ⟨h, by simp, fun a ha b hb => ?_⟩
  simp at hb; subst hb
  cases hx : xs.getLast? with
  | none => rw [List.getLast?_eq_none_iff] at hx; subst hx; simp at ha
  | some y =>
    have hy := hl y hx
    have : a ≤ y := by
      obtain ⟨ys, rfl⟩ := List.getLast?_eq_some_iff.1 hx
      rw [List.pairwise_append] at h
      rcases List.mem_append.1 ha with ha | ha
      · exact Nat.le_of_lt (h.2.2 a ha y (by simp))
      · simp at ha; omega
    omega
theorem nmay {lf : Bool} {kv vv : Value} {n : Nd} (h : H l σ) (hn : NdS l kv vv n) (hk9 : n.keys.length < 9223372036854775808) (hv9 : n.vals.length < 9223372036854775808)
    (hQ : ∀ σ', H l σ' → Q (.ret (.bool (decide n.May))) σ') : E f_node_May [.agg #[.bool lf, kv, vv]] σ Q := by
  apply e_node_May; unfold s_node_May
  refine nw h ?_
  intro b1 σ1 h1
  obtain ⟨hk, hv⟩ := hn σ1 h1.tail
  have hbad : ¬ n.May → s_node_May_k2 E Q true b1 σ1 := by
    intro hb
    unfold s_node_May_k2
    refine If_t rfl ?_
    have := hQ σ1 h1.tail
    rw [decide_eq_false hb] at this
    exact this
  rw [LV h1, us_len hk, ldI_some]
  refine If_dec (fun hlt => hbad fun hm => by have := hm.1.1; omega) fun hge => ?_
  rw [LV h1, us_len hk, ldI_some]
  refine If_dec (fun hlt => hbad fun hm => by have := hm.1.2.1; omega) fun hge8 => ?_
  rw [LV h1, us_len hv, ldI_some, LV h1, us_len hk, ldI_some]
  by_cases hvl : n.vals.length = n.keys.length
  · have e : (!decide ((n.vals.length : Int) = (n.keys.length : Int))) = false := by simp; omega
    rw [e]
    unfold s_node_May_k2
    refine If_f rfl ?_
    rw [LV h1, us_len hk, ldI_some]
    refine ⟨fun m i τ => ∃ k : Nat, i = k ∧ m = n.keys.length - k ∧ k ≤ n.keys.length ∧ (n.keys.take k).Pairwise (· < ·) ∧ (∀ v ∈ n.vals.take k, v ≠ 0) ∧ H (pt b1 (.cells [.bool lf, kv, vv] t_api_Node false) :: l) τ,
      ⟨n.keys.length, 0, rfl, rfl, by omega, by simp, by simp, h1⟩, ?_⟩
    rintro m i τ ⟨k, rfl, rfl, hkl, hp, hz, h2⟩
    have hno : ∀ τ, H (pt b1 (.cells [.bool lf, kv, vv] t_api_Node false) :: l) τ → ¬ n.May → Q (.ret (.bool false)) τ := fun τ ht hb => by
      have := hQ τ ht.tail
      rw [decide_eq_false hb] at this
      exact this
    unfold s_node_May_b1
    refine If_dec (fun hlt => ?_) (fun hge => ?_)
    · have hk2 : k < n.keys.length := by omega
      have hv2 : k < n.vals.length := by omega
      obtain ⟨hk', hv'⟩ := hn τ h2.tail
      obtain ⟨p, ip, lp⟩ := us_elem hk' (List.getElem?_eq_getElem hk2)
      obtain ⟨q, iq, lq⟩ := us_elem hv' (List.getElem?_eq_getElem hv2)
      rw [ip, om_some, lp, ldI_some]
      -- what is said of the value
      have hval : (n.keys.take (k + 1)).Pairwise (· < ·) → s_node_May_k8 (fun n15 σ' => ∃ m', m' < n.keys.length - k ∧ ∃ k : Nat, n15 = k ∧ m' = n.keys.length - k ∧ k ≤ n.keys.length ∧ (n.keys.take k).Pairwise (· < ·) ∧ (∀ v ∈ n.vals.take k, v ≠ 0) ∧ H (pt b1 (.cells [.bool lf, kv, vv] t_api_Node false) :: l) σ') E Q (decide ((n.vals[k] : Int) = 0)) k τ := by
        intro hp2
        unfold s_node_May_k8
        refine If_dec (fun h0 => ?_) (fun h0 => ?_)
        · refine hno τ h2 fun hm => ?_
          exact hm.2.2 _ (List.getElem_mem hv2) (by omega)
        · refine b64 ((k + 1 : Nat) : Int) (by omega) ?_
          refine ⟨n.keys.length - (k + 1), by omega, k + 1, rfl, rfl, by omega, hp2, fun v hv => ?_, h2⟩
          rw [List.take_add_one, List.getElem?_eq_getElem hv2, Option.toList_some] at hv
          rcases List.mem_append.1 hv with hv | hv
          · exact hz v hv
          · simp at hv; subst hv; omega
      refine If_dec (fun hpos => ?_) (fun h0 => ?_)
      · obtain ⟨j, rfl⟩ : ∃ j, k = j + 1 := ⟨k - 1, by omega⟩
        have hj : j < n.keys.length := by omega
        obtain ⟨p1, ip1, lp1⟩ := us_elem hk' (List.getElem?_eq_getElem hj)
        rw [LV h2]
        refine b64 ((j : Nat) : Int) (by omega) ?_
        rw [ip1, om_some, lp1, ldI_some]
        refine If_dec (fun hle => ?_) (fun hgt => ?_)
        · unfold s_node_May_k8
          refine If_t rfl ?_
          refine hno τ h2 fun hm => ?_
          have := List.pairwise_iff_getElem.1 hm.2.1 j (j + 1) hj hk2 (by omega)
          omega
        · rw [LV h2, iq, om_some, lq, ldI_some]
          refine hval ?_
          rw [List.take_add_one, List.getElem?_eq_getElem hk2, Option.toList_some]
          refine pair_snoc hp fun y hy => ?_
          rw [List.getLast?_take, if_neg (by omega)] at hy
          simp only [Nat.add_sub_cancel, List.getElem?_eq_getElem hj, Option.some_or, Option.some.injEq] at hy
          omega
      · have : k = 0 := by omega
        subst this
        rw [LV h2, iq, om_some, lq, ldI_some]
        refine hval ?_
        rw [List.take_add_one, List.getElem?_eq_getElem hk2]
        simp
    · have hke : k = n.keys.length := by omega
      subst hke
      rw [List.take_length] at hp
      rw [← hvl, List.take_length] at hz
      have hm : n.May := ⟨⟨by omega, by omega, hvl⟩, hp, hz⟩
      have := hQ τ h2.tail
      rw [decide_eq_true hm] at this
      exact this
  · have e : (!decide ((n.vals.length : Int) = (n.keys.length : Int))) = true := by simp; omega
    rw [e]
    exact hbad fun hm => hvl hm.1.2.2
end Go.Ax.C
set_option maxRecDepth 100000
namespace Go.Ax.C
open Go.Proofs Go.RowKit
variable {l r m : List Assn} {σ : AHeap} {Q : RK}
theorem rob_bts {v : Value} {x : List UInt8} (h : H (RoB v x :: l) σ) : Bts σ v x := by
  obtain ⟨b, o, cap, c, h1, h2, h3, h4, h5⟩ := h.rob0
  exact .inr ⟨b, o, cap, c, h1, h2, h3, h4, h5⟩
theorem own_rob {e n : Nat} {v : Value} {x : List UInt8} (h : H (Own e 1 v n (bv x) :: l) σ) (hx : 0 < x.length) : H (RoB v x :: l) σ := by
  rcases H_own.1 h with ⟨⟨_, e1, h2⟩, _⟩ | ⟨b, c, opn, rest, h1, h2, h3, rfl, h4, h5⟩
  · cases x with
    | nil => simp at hx
    | cons y x => simp [bv] at e1
  · have hn : x.length = n := by simpa using h2
    subst hn
    refine rob_in ⟨h4, ?_⟩ (by rw [List.drop_zero, List.take_append_of_le_length (by simp), List.take_of_length_le (by simp)]) (by simp) h1.freeze0
    rcases h5 with h5 | h5
    · exact .inr h5.2.2
    · exact .inl h5
def pairB (p : Nat × Nat) : List UInt8 := be p.1 8 ++ be p.2 8
def pairsB (l : List (Nat × Nat)) : List UInt8 := l.flatMap pairB
def Nd.pairs (n : Nd) : List (Nat × Nat) := n.keys.zip n.vals
def Nd.form (n : Nd) : List UInt8 := [if n.leaf then 1 else 0, UInt8.ofNat n.keys.length] ++ pairsB n.pairs
theorem pairsB_len : ∀ (l : List (Nat × Nat)), (pairsB l).length = 16 * l.length
  | [] => rfl
  | p :: l => by
    have := pairsB_len l
    simp only [pairsB, List.flatMap_cons, List.length_append, List.length_cons] at this ⊢
    rw [this]; simp [pairB, be_len]; omega
theorem form_len (n : Nd) (h : n.vals.length = n.keys.length) : n.form.length = 2 + 16 * n.keys.length := by
  simp only [Nd.form, List.length_append, pairsB_len, Nd.pairs, List.length_zip, h]; simp <;> omega
theorem nput {kv vv : Value} {n : Nd} (h : H l σ) (hn : NdS l kv vv n) (hk9 : n.keys.length < 9223372036854775808) (hv9 : n.vals.length < 9223372036854775808)
    (hno : ¬ n.May → ∀ σ', H l σ' → Q (.ret (.tuple #[.slice none 0 0, .int .i64 1])) σ')
    (hyes : n.May → ∀ w σ', H (RoB w n.form :: l) σ' → Q (.ret (.tuple #[w, .int .i64 0])) σ') : E f_node_Put [.agg #[.bool n.leaf, kv, vv]] σ Q := by
  apply e_node_Put; unfold s_node_Put
  refine nw h ?_
  intro b1 σ1 h1
  rw [LB h1, LV h1, LV h1]
  refine nmay h1 hn.cons hk9 hv9 ?_
  intro σ2 h2
  rw [cB_ret]
  by_cases hm : n.May
  · rw [decide_eq_true hm]
    refine If_f rfl ?_
    obtain ⟨⟨hm1, hm8, hmv⟩, _, _⟩ := hm
    rw [LV h2, us_len (hn σ2 h2.tail).1, ldI_some]
    refine bu8 ((n.keys.length : Nat) : Int) (by omega) ?_
    refine nw h2 ?_
    intro b18 σ3 h3
    -- the loop
    have hloop : ∀ σ4, H (RoB (.slice (some ⟨b18, 0, none⟩) 2 2) [if n.leaf then 1 else 0, UInt8.ofNat n.keys.length] :: pt b1 (.cells [.bool n.leaf, kv, vv] t_api_Node false) :: l) σ4 → s_node_Put_k6 E Q b1 (.slice (some ⟨b18, 0, none⟩) 2 2) σ4 := by
      intro σ4 h4
      unfold s_node_Put_k6
      rw [LV h4, us_len (hn σ4 h4.tail.tail).1, ldI_some]
      refine ⟨fun m v i τ => ∃ k : Nat, i = k ∧ m = n.keys.length - k ∧ k ≤ n.keys.length ∧ H (RoB v ([if n.leaf then 1 else 0, UInt8.ofNat n.keys.length] ++ pairsB (n.pairs.take k)) :: pt b1 (.cells [.bool n.leaf, kv, vv] t_api_Node false) :: l) τ,
        ⟨n.keys.length, 0, rfl, rfl, by omega, by simpa [pairsB] using h4⟩, ?_⟩
      rintro m v i τ ⟨k, rfl, rfl, hk, h5⟩
      unfold s_node_Put_b1
      refine If_dec (fun hlt => ?_) (fun hge => ?_)
      · have hk2 : k < n.keys.length := by omega
        have hv2 : k < n.vals.length := by omega
        obtain ⟨hk', hv'⟩ := hn τ h5.tail.tail
        obtain ⟨p, ip, lp⟩ := us_elem hk' (List.getElem?_eq_getElem hk2)
        obtain ⟨q, iq, lq⟩ := us_elem hv' (List.getElem?_eq_getElem hv2)
        rw [ip, om_some, lp, ldI_some, LV h5, iq, om_some, lq, ldI_some]
        have hpl : (n.pairs.take k).length = k := by simp [Nd.pairs]; omega
        have hxl : ([if n.leaf then 1 else 0, UInt8.ofNat n.keys.length] ++ pairsB (n.pairs.take k)).length = 2 + 16 * k := by
          rw [List.length_append, pairsB_len, hpl]; simp
        refine oput h5 (rob_bts h5) (k := 8) (by omega) (by omega) ?_
        intro w1 τ1 h6
        rw [cV_ret, LV h6]
        obtain ⟨a0, c0', hvv⟩ := us_form hv'
        have hve : ∀ p : Prop, (veq1 vv vv = true ∧ p) = p := fun p => by rw [hvv]; exact veq_slice
        rw [hve]
        have lq2 : aLoad false 1 (.pointer (some q)) τ1 = some (.int .u64 n.vals[k]) := by
          obtain ⟨q2, iq2, lq2⟩ := us_elem (hn τ1 h6.tail.tail.tail).2 (List.getElem?_eq_getElem hv2)
          have := (iq .i64).symm.trans (iq2 .i64)
          cases this
          exact lq2 1
        rw [lq2, ldI_some, veq_int]
        refine oput h6 (own_bts h6) (k := 8) (by omega) (by rw [List.length_append, hxl, be_len]; omega) ?_
        intro w2 τ2 h7
        rw [cV_ret]
        refine b64 ((k + 1 : Nat) : Int) (by omega) ?_
        refine ⟨n.keys.length - (k + 1), by omega, k + 1, rfl, rfl, by omega, ?_⟩
        have h8 := own_rob h7 (by rw [List.length_append, List.length_append, hxl]; omega)
        have h9 := drop_two h8
        have e : [if n.leaf then 1 else 0, UInt8.ofNat n.keys.length] ++ pairsB (n.pairs.take k) ++ be n.keys[k] 8 ++ be n.vals[k] 8 = [if n.leaf then 1 else 0, UInt8.ofNat n.keys.length] ++ pairsB (n.pairs.take (k + 1)) := by
          have hpk : n.pairs[k]? = some (n.keys[k], n.vals[k]) := by
            unfold Nd.pairs
            rw [List.getElem?_zip_eq_some]
            exact ⟨List.getElem?_eq_getElem hk2, List.getElem?_eq_getElem hv2⟩
          rw [List.take_add_one, hpk, Option.toList_some]
          simp [pairsB, pairB]
        rw [e] at h9
        exact h9
      · have hke : k = n.keys.length := by omega
        subst hke
        have e : n.pairs.take n.keys.length = n.pairs := List.take_of_length_le (by simp [Nd.pairs]; omega)
        rw [e] at h5
        refine hyes ⟨⟨hm1, hm8, hmv⟩, by assumption, by assumption⟩ v τ ?_
        exact (h5.perm (.swap _ _ _)).tail
    have hfr : ∀ (lf : UInt8) τ, H (pt b18 (.cells [.int .u8 lf.toNat, .int .u8 (n.keys.length : Nat)] t_uint8 false) :: pt b1 (.cells [.bool n.leaf, kv, vv] t_api_Node false) :: l) τ → H (RoB (.slice (some ⟨b18, 0, none⟩) 2 2) [lf, UInt8.ofNat n.keys.length] :: pt b1 (.cells [.bool n.leaf, kv, vv] t_api_Node false) :: l) τ := by
      intro lf τ ht
      refine rob_in (x := [lf, UInt8.ofNat n.keys.length]) (CapOk.exact (by unfold OPEN; simp)) ?_ (by simp) ht.freeze0
      have : (UInt8.ofNat n.keys.length).toNat = n.keys.length := by rw [UInt8.toNat_ofNat']; omega
      simp [bv, by8, this]
    rw [LB h3]
    refine If_b (fun hl => ?_) (fun hl => ?_)
    · show om (aIndexAddr 1 (.slice (some ⟨b18, 0, none⟩) 2 2) (.int .i64 0)) _
      rw [idxA (by omega), om_some]
      refine store1 h3 0 (o := 0 + (0 : Int).toNat * 1) rfl rfl (by simp) ?_
      intro σ4 h4
      refine hloop σ4 ?_
      have e : (if n.leaf then (1 : UInt8) else 0) = 1 := by rw [hl]; rfl
      rw [e]
      exact hfr 1 σ4 h4
    · refine hloop σ3 ?_
      have e : (if n.leaf then (1 : UInt8) else 0) = 0 := by rw [hl]; rfl
      rw [e]
      exact hfr 0 σ3 h3
  · rw [decide_eq_false hm]
    refine If_t rfl ?_
    exact hno hm σ2 h2.tail
end Go.Ax.C
set_option maxRecDepth 100000
namespace Go.Ax.C
open Go.Proofs Go.RowKit
variable {l r m : List Assn} {σ : AHeap} {Q : RK}
def pad240 (p : List UInt8) : List UInt8 := p ++ List.replicate (240 - p.length) 0
def sealQ (p : List UInt8) (a kind : Nat) : List UInt8 := pad240 p ++ be a 8 ++ be kind 4
def sealB (p : List UInt8) (a kind : Nat) : List UInt8 := sealQ p a kind ++ be (crcN (sealQ p a kind)) 4
theorem pad_len {p : List UInt8} (h : p.length ≤ 240) : (pad240 p).length = 240 := by simp [pad240]; omega
theorem sealQ_len {p : List UInt8} {a k : Nat} (h : p.length ≤ 240) : (sealQ p a k).length = 252 := by simp [sealQ, pad_len h, be_len]
theorem sealB_len {p : List UInt8} {a k : Nat} (h : p.length ≤ 240) : (sealB p a k).length = 256 := by simp [sealB, sealQ_len h, be_len]
theorem crcN_lt (x : List UInt8) : crcN x < 4294967296 := by have := crcI_rng x; unfold crcN; omega
def openE (x : List UInt8) (a kind : Nat) : Nat :=
  if num ((x.drop 252).take 4) ≠ crcN (x.take 252) then 20 else if num ((x.drop 240).take 8) ≠ a then 21 else if num ((x.drop 248).take 4) ≠ kind then 22 else 0
theorem open_seal {p : List UInt8} {a kind : Nat} (h : p.length ≤ 240) (ha : a < 18446744073709551616) (hk : kind < 4294967296) : openE (sealB p a kind) a kind = 0 ∧ (sealB p a kind).take 240 = pad240 p := by
  have hp := pad_len h
  have hq := sealQ_len (a := a) (k := kind) h
  have e1 : (sealB p a kind).take 252 = sealQ p a kind := by unfold sealB; rw [← hq, List.take_left]
  have e2 : (sealB p a kind).drop 252 = be (crcN (sealQ p a kind)) 4 := by unfold sealB; rw [← hq, List.drop_left]
  have e3 : (sealB p a kind).take 240 = pad240 p := by
    unfold sealB sealQ; rw [List.append_assoc, List.append_assoc, ← hp, List.take_left]
  have e4 : ((sealB p a kind).drop 240).take 8 = be a 8 := by
    unfold sealB sealQ
    rw [List.append_assoc, List.append_assoc, ← hp, List.drop_left]
    rw [List.take_append_of_le_length (by rw [be_len]; exact Nat.le_refl _), List.take_of_length_le (by rw [be_len]; exact Nat.le_refl _)]
  have e5 : ((sealB p a kind).drop 248).take 4 = be kind 4 := by
    have h8 : (pad240 p ++ be a 8).length = 248 := by rw [List.length_append, hp, be_len]
    have : sealB p a kind = (pad240 p ++ be a 8) ++ (be kind 4 ++ be (crcN (sealQ p a kind)) 4) := by simp [sealB, sealQ]
    rw [this, ← h8, List.drop_left, List.take_append_of_le_length (by rw [be_len]; exact Nat.le_refl _), List.take_of_length_le (by rw [be_len]; exact Nat.le_refl _)]
  refine ⟨?_, e3⟩
  unfold openE
  rw [e1, e2, e4, e5, List.take_of_length_le (by rw [be_len]; exact Nat.le_refl _), num_be, num_be, num_be]
  have := crcN_lt (sealQ p a kind)
  rw [Nat.mod_eq_of_lt (by omega), Nat.mod_eq_of_lt (by omega), Nat.mod_eq_of_lt (by omega)]
  simp
theorem reps_zero (n : Nat) : reps n [.int .u8 0] = bv (List.replicate n 0) := by rw [reps_one]; simp [bv, by8]
theorem sseal {v : Value} {p : List UInt8} {a kind : Nat} (h : H l σ) (hb : ∀ τ, H l τ → Bts τ v p) (hp : p.length ≤ 240) (ha : a < 9223372036854775808) (hk : kind < 256)
    (hQ : ∀ w σ', H (Own t_uint8 1 w 256 (bv (sealB p a kind)) :: l) σ' → Q (.ret (.tuple #[w, .int .i64 0])) σ') : E f_stamp_Seal [v, .int .i64 a, .int .u8 kind] σ Q := by
  apply e_stamp_Seal; unfold s_stamp_Seal
  obtain ⟨va, vc, hv⟩ := bts_form (hb σ h)
  have hlen : lenS v = some (.int .i64 p.length) := by rw [hv]; rfl
  rw [hlen, ldI_some]
  refine If_dec (fun g => absurd g (by omega)) fun _ => ?_
  refine make_ok h (by omega) ?_
  intro b σ1 h1
  replace h1 := h1.unsnoc
  have e0 : (256 : Int).toNat = 256 := rfl
  have e1 : (240 : Int).toNat = 240 := rfl
  rw [e0, reps_zero] at h1
  rw [e0, e1]
  have hsrc : srcOf 1 (.slice va (Nat.min p.length 240) vc) σ1 = some (p.length, bv p) := by
    have := (bts_rd (hb σ1 h1.tail)).src
    rw [hv] at this
    have e : Nat.min p.length 240 = p.length := Nat.min_eq_left hp
    rw [e]; exact this
  simp only []
  rw [hv]
  refine copy_ok h1 0 rfl hsrc (bv_one _) (by simp; omega) ?_
  intro σ2 h2
  simp only [List.set_cons_zero] at h2
  have hrow : splice (bv (List.replicate 256 0)) 0 (bv p) = bv (pad240 p) ++ bv (List.replicate 16 0) := by
    rw [splice_bv, List.take_zero, List.nil_append, Nat.zero_add, List.drop_replicate, ← bv_append]
    congr 1
    unfold pad240
    rw [List.append_assoc, List.replicate_append_replicate]
    congr 2; omega
  rw [hrow] at h2
  have hbt : Bts σ2 (.slice (some ⟨b, 0, none⟩) 240 256) (pad240 p) := by
    refine .inr ⟨b, 0, 256, _, by rw [pad_len hp], ?_, h2.row 0 rfl, ?_, ?_⟩
    · rw [pad_len hp]; exact ⟨by rw [known_lt (by unfold OPEN; omega)]; omega, .inl (by unfold OPEN; omega)⟩
    · rw [List.drop_zero, List.take_append_of_le_length (by simp), List.take_of_length_le (by simp)]
    · simp
  refine bu64 (a : Int) (by omega) ?_
  refine oput h2 hbt (k := 8) (by omega) (by rw [pad_len hp]; omega) ?_
  intro w1 σ3 h3
  rw [cV_ret]
  refine bu64 (kind : Int) (by omega) ?_
  refine oput h3 (own_bts h3) (k := 4) (by omega) (by rw [List.length_append, pad_len hp, be_len]; omega) ?_
  intro w2 σ4 h4
  rw [cV_ret]
  have h4' : H (Own t_uint8 1 w2 252 (bv (sealQ p a kind)) :: Own t_uint8 1 w1 ((pad240 p).length + 8) (bv (pad240 p ++ be a 8)) :: pt b (.cells (bv (pad240 p) ++ bv (List.replicate 16 0)) t_uint8 false) :: l) σ4 := by
    have : (pad240 p ++ be a 8).length + 4 = 252 := by rw [List.length_append, pad_len hp, be_len]
    rw [this] at h4
    exact h4
  refine csum (own_bts h4') (by rw [sealQ_len hp]; omega) ?_
  rw [cI_ret, crcI_eq]
  have hcl := crcN_lt (sealQ p a kind)
  refine bu64 ((crcN (sealQ p a kind) : Nat) : Int) (by omega) ?_
  refine oput h4' (own_bts h4') (k := 4) (by omega) (by rw [sealQ_len hp]; omega) ?_
  intro w3 σ5 h5
  rw [cV_ret]
  rw [sealQ_len hp] at h5
  refine hQ w3 σ5 ?_
  exact (drop_two ((h5.perm (.swap _ _ _)).tail))
theorem bts_cut {v : Value} {x : List UInt8} {k : Nat} {kd kd' : IntKind} (h : Bts σ v x) (hk : k ≤ x.length) (h0 : 0 < k) : ∃ w, aSlice 1 v none (some (.int kd (k : Nat))) (some (.int kd' (k : Nat))) = some w ∧ Bts σ w (x.take k) := by
  rcases h with ⟨rfl, _⟩ | ⟨b, o, c, row, rfl, hc, h1, h2, h3⟩
  · simp at hk; omega
  · have hkc : k ≤ known c := Nat.le_trans hk hc.1
    have e : aSlice 1 (.slice (some ⟨b, o, none⟩) x.length c) none (some (.int kd (k : Nat))) (some (.int kd' (k : Nat))) = some (.slice (some ⟨b, o, none⟩) k k) := by
      simp only [aSlice, bndO]
      rw [bnd_int (y := known c) (by omega)]
      simp only [Option.bind_some]
      rw [bnd_int (by simp)]
      simp [add_mk]
    have hkl : (x.take k).length = k := by simp; omega
    have hkO : k < OPEN := by
      have : known c < OPEN := Nat.mod_lt _ (by unfold OPEN; omega)
      omega
    refine ⟨_, e, .inr ⟨b, o, k, row, by rw [hkl], ?_, h1, ?_, by rw [hkl]; omega⟩⟩
    · rw [hkl]; exact ⟨by rw [known_lt hkO]; exact Nat.le_refl _, .inl hkO⟩
    · rw [hkl, ← bv_take, ← h2, List.take_take, Nat.min_eq_left hk]
theorem sopen {v : Value} {x : List UInt8} {a kind : Nat} (h : H l σ) (hb : ∀ τ, H l τ → Bts τ v x) (hx : x.length = 256) (ha : a < 9223372036854775808) (hk : kind < 256)
    (hno : openE x a kind ≠ 0 → ∀ σ', H l σ' → Q (.ret (.tuple #[.slice none 0 0, .int .i64 (openE x a kind : Nat)])) σ')
    (hyes : openE x a kind = 0 → ∀ w σ', H (Own t_uint8 1 w 240 (bv (x.take 240)) :: l) σ' → Q (.ret (.tuple #[w, .int .i64 0])) σ') : E f_stamp_Open [v, .int .i64 a, .int .u8 kind] σ Q := by
  apply e_stamp_Open; unfold s_stamp_Open
  have hbt := hb σ h
  have hlen : lenS v = some (.int .i64 x.length) := by obtain ⟨va, vc, rfl⟩ := bts_form hbt; rfl
  rw [hlen, ldI_some]
  refine If_dec (fun g => absurd g (by omega)) fun _ => ?_
  rw [ldI_some]
  refine If_dec (fun g => absurd g (by omega)) fun _ => ?_
  obtain ⟨w1, e1, b1⟩ := bts_from (k := .i64) (a := 252) hbt (by omega)
  rw [show (252 : Int) = ((252 : Nat) : Int) from rfl, e1, om_some]
  refine oget b1 (k := 4) (by omega) (by simp; omega) (fun g => absurd g (by simp; omega)) fun _ => ?_
  rw [c2_ret, tI_int, tI_int]
  obtain ⟨w2, e2, b2⟩ := bts_from (k := .i64) (a := 240) hbt (by omega)
  rw [show (240 : Int) = ((240 : Nat) : Int) from rfl, e2, om_some]
  refine oget b2 (k := 8) (by omega) (by simp; omega) (fun g => absurd g (by simp; omega)) fun _ => ?_
  rw [c2_ret, tI_int, tI_int]
  obtain ⟨w3, e3, b3⟩ := bts_from (k := .i64) (a := 248) hbt (by omega)
  rw [show (248 : Int) = ((248 : Nat) : Int) from rfl, e3, om_some]
  refine oget b3 (k := 4) (by omega) (by simp; omega) (fun g => absurd g (by simp; omega)) fun _ => ?_
  rw [c2_ret, tI_int, tI_int]
  obtain ⟨w4, e4, b4⟩ := bts_to (k := .i64) (a := 252) hbt (by omega) (by omega)
  rw [e4, om_some]
  refine csum b4 (by simp; omega) ?_
  rw [cI_ret, crcI_eq]
  have hcl := crcN_lt (x.take 252)
  refine bu64 ((crcN (x.take 252) : Nat) : Int) (by omega) ?_
  unfold openE at hno hyes
  refine If_ne (fun g1 => ?_) fun g1 => ?_
  · rw [if_pos (by omega)] at hno
    exact hno (by omega) σ h
  rw [if_neg (by omega)] at hno hyes
  refine bu64 (a : Int) (by omega) ?_
  refine If_ne (fun g2 => ?_) fun g2 => ?_
  · rw [if_pos (by omega)] at hno
    exact hno (by omega) σ h
  rw [if_neg (by omega)] at hno hyes
  refine bu64 (kind : Int) (by omega) ?_
  refine If_ne (fun g3 => ?_) fun g3 => ?_
  · rw [if_pos (by omega)] at hno
    exact hno (by omega) σ h
  rw [if_neg (by omega)] at hno hyes
  obtain ⟨w5, e5, b5⟩ := bts_cut (k := 240) (kd := .i64) (kd' := .i64) hbt (by omega) (by omega)
  rw [e5, om_some]
  have hl5 : (x.take 240).length = 240 := by simp; omega
  obtain ⟨a5, c5, rfl⟩ := bts_form b5
  have hs5 := (bts_rd b5).src
  rw [hl5] at hs5 ⊢
  refine O.up (O.clone_ok h hs5 (by omega) ?_)
  intro w σ' h'
  rw [cV_ret]
  exact hyes rfl w σ' h'.unsnoc
end Go.Ax.C
set_option maxRecDepth 100000
namespace Go.Ax.C
open Go.Proofs Go.RowKit
variable {l r m : List Assn} {σ : AHeap} {Q : RK}
theorem num_inj : ∀ {x y : List UInt8}, x.length = y.length → num x = num y → x = y
  | [], [], _, _ => rfl
  | a :: x, b :: y, hl, h => by
    rw [num_cons, num_cons] at h
    simp only [List.length_cons, Nat.add_right_cancel_iff] at hl
    have h1 := num_lt x
    have h2 := num_lt y
    rw [hl] at h h1
    have hpos : 0 < 256 ^ y.length := Nat.pow_pos (by omega)
    have e1 : a.toNat = b.toNat := by
      have q1 : (a.toNat * 256 ^ y.length + num x) / 256 ^ y.length = a.toNat := by
        rw [Nat.mul_comm, Nat.mul_add_div hpos, Nat.div_eq_of_lt h1, Nat.add_zero]
      have q2 : (b.toNat * 256 ^ y.length + num y) / 256 ^ y.length = b.toNat := by
        rw [Nat.mul_comm, Nat.mul_add_div hpos, Nat.div_eq_of_lt h2, Nat.add_zero]
      rw [← q1, ← q2, h]
    have e2 : a = b := UInt8.toNat_inj.1 e1
    subst e2
    rw [num_inj hl (by omega)]
  | [], _ :: _, h, _ => by simp at h
  | _ :: _, [], h, _ => by simp at h
theorem be_num (x : List UInt8) : be (num x) x.length = x := by
  refine num_inj (be_len _ _) ?_
  rw [num_be, Nat.mod_eq_of_lt (num_lt x)]
def Nd.small (n : Nd) : Prop := (∀ k ∈ n.keys, k < 18446744073709551616) ∧ ∀ v ∈ n.vals, v < 18446744073709551616
theorem pow8 : (256 : Nat) ^ 8 = 18446744073709551616 := by decide
theorem form_at {n : Nd} {x : List UInt8} (hm : n.May) (hs : n.small) (h : x = pad240 n.form) {i : Nat} (hi : i < n.keys.length) :
    num ((x.drop (2 + 16 * i)).take 8) = n.keys[i] ∧ num ((x.drop (2 + 16 * i + 8)).take 8) = n.vals[i]'(by have := hm.1.2.2; omega) := by
  have hvl := hm.1.2.2
  have hi2 : i < n.vals.length := by omega
  have hpl : (n.pairs.take i).length = i := by simp [Nd.pairs]; omega
  have hpi : n.pairs[i]? = some (n.keys[i], n.vals[i]) := by
    unfold Nd.pairs
    rw [List.getElem?_zip_eq_some]
    exact ⟨List.getElem?_eq_getElem hi, List.getElem?_eq_getElem hi2⟩
  have hpx : n.pairs = n.pairs.take i ++ (n.keys[i], n.vals[i]) :: n.pairs.drop (i + 1) := by
    have hlt := (List.getElem?_eq_some_iff.1 hpi).1
    have := (List.getElem?_eq_some_iff.1 hpi).2
    rw [← this, ← List.drop_eq_getElem_cons hlt, List.take_append_drop]
  obtain ⟨A, hA⟩ : ∃ A, A = [if n.leaf then (1 : UInt8) else 0, UInt8.ofNat n.keys.length] ++ pairsB (n.pairs.take i) := ⟨_, rfl⟩
  obtain ⟨B, hB⟩ : ∃ B, B = pairsB (n.pairs.drop (i + 1)) ++ List.replicate (240 - n.form.length) 0 := ⟨_, rfl⟩
  have hx : x = A ++ (be n.keys[i] 8 ++ (be n.vals[i] 8 ++ B)) := by
    rw [h, hA, hB]
    unfold pad240
    have : n.form = [if n.leaf then (1 : UInt8) else 0, UInt8.ofNat n.keys.length] ++ (pairsB (n.pairs.take i) ++ (pairB (n.keys[i], n.vals[i]) ++ pairsB (n.pairs.drop (i + 1)))) := by
      unfold Nd.form
      congr 1
      conv => lhs; rw [hpx]
      simp [pairsB]
    conv => lhs; arg 1; rw [this]
    simp [pairB]
  have hAl : A.length = 2 + 16 * i := by rw [hA, List.length_append, pairsB_len, hpl]; rfl
  constructor
  · rw [hx, ← hAl, List.drop_left, List.take_append_of_le_length (by rw [be_len]; exact Nat.le_refl _), List.take_of_length_le (by rw [be_len]; exact Nat.le_refl _), num_be, pow8, Nat.mod_eq_of_lt (hs.1 _ (List.getElem_mem hi))]
  · have hx2 : x = (A ++ be n.keys[i] 8) ++ (be n.vals[i] 8 ++ B) := by rw [hx]; simp
    have hAl2 : (A ++ be n.keys[i] 8).length = 2 + 16 * i + 8 := by rw [List.length_append, hAl, be_len]
    rw [hx2, ← hAl2, List.drop_left, List.take_append_of_le_length (by rw [be_len]; exact Nat.le_refl _), List.take_of_length_le (by rw [be_len]; exact Nat.le_refl _), num_be, pow8, Nat.mod_eq_of_lt (hs.2 _ (List.getElem_mem hi2))]
theorem form_head {n : Nd} {x : List UInt8} (hm : n.May) (h : x = pad240 n.form) : x[0]? = some (if n.leaf then 1 else 0) ∧ x[1]? = some (UInt8.ofNat n.keys.length) ∧ (UInt8.ofNat n.keys.length).toNat = n.keys.length := by
  refine ⟨by rw [h]; simp [pad240, Nd.form], by rw [h]; simp [pad240, Nd.form], ?_⟩
  rw [UInt8.toNat_ofNat']; have := hm.1.2.1; omega
theorem form_tail {n : Nd} {x : List UInt8} (hm : n.May) (h : x = pad240 n.form) : x.drop (2 + 16 * n.keys.length) = List.replicate (240 - (2 + 16 * n.keys.length)) 0 := by
  have := form_len n hm.1.2.2
  rw [h]; unfold pad240
  rw [← this, List.drop_left]
theorem form_inj {n p : Nd} (hn : n.May) (hp : p.May) (sn : n.small) (sp : p.small) (h : pad240 n.form = pad240 p.form) : n = p := by
  obtain ⟨a0, a1, a2⟩ := form_head hn rfl
  obtain ⟨b0, b1, b2⟩ := form_head hp rfl
  rw [h, b0] at a0
  rw [h, b1] at a1
  have hlen : n.keys.length = p.keys.length := by
    have := Option.some.inj a1
    rw [← a2, ← b2, this]
  have hleaf : n.leaf = p.leaf := by
    have := Option.some.inj a0
    cases e1 : n.leaf <;> cases e2 : p.leaf <;> simp [e1, e2] at this ⊢
  have hk : n.keys = p.keys := by
    apply List.ext_getElem hlen
    intro i h1 h2
    rw [← (form_at hn sn rfl h1).1, ← (form_at hp sp rfl h2).1, h]
  have hv : n.vals = p.vals := by
    have l1 := hn.1.2.2
    have l2 := hp.1.2.2
    apply List.ext_getElem (by omega)
    intro i h1 h2
    rw [← (form_at hn sn rfl (i := i) (by omega)).2, ← (form_at hp sp rfl (i := i) (by omega)).2, h]
  cases n; cases p
  simp only at hleaf hk hv
  subst hleaf; subst hk; subst hv; rfl
theorem rnumber {rb : Nat} {rv : Value} {y : List UInt8} (h : H (pt rb (.cells [rv] t_node_reader false) :: l) σ) (hlm : ∀ τ, H l τ → H m τ) (hb : ∀ τ, H m τ → Bts τ rv y) (hy : 8 < y.length) (hy2 : y.length ≤ 1000)
    (hQ : ∀ rv' σ', (∀ τ, H m τ → Bts τ rv' (y.drop 8)) → H (pt rb (.cells [rv'] t_node_reader false) :: l) σ' → Q (.ret (.tuple #[.int .u64 (num (y.take 8) : Nat), .int .i64 0])) σ') : E f_node_reader_number [.pointer (some ⟨rb, 0, none⟩)] σ Q := by
  apply e_node_reader_number; unfold s_node_reader_number
  rw [LV h]
  refine oget (hb σ (hlm σ h.tail)) (k := 8) (by omega) (by omega) (fun g => absurd g (by omega)) fun _ => ?_
  rw [c2_ret, tI_int, tI_int]
  refine If_dec (fun _ => ?_) fun g => absurd rfl g
  rw [LV h]
  obtain ⟨w, e, _⟩ := bts_from (k := .i64) (a := 8) (hb σ (hlm σ h.tail)) hy
  have hw : ∀ τ, H m τ → Bts τ w (y.drop 8) := fun τ ht => by
    obtain ⟨w2, e2, h2⟩ := bts_from (k := .i64) (a := 8) (hb τ ht) hy
    rw [e] at e2
    cases e2
    exact h2
  rw [show (8 : Int) = ((8 : Nat) : Int) from rfl, e, om_some]
  obtain ⟨a', c', hwv⟩ := bts_form (hw σ (hlm σ h.tail))
  refine st h (by rw [hwv]; rfl) ?_
  intro σ1 h1
  unfold s_node_reader_number_k4
  exact hQ w σ1 hw h1
end Go.Ax.C
set_option maxRecDepth 100000
namespace Go.Ax.C
open Go.Proofs Go.RowKit
variable {l r m : List Assn} {σ : AHeap} {Q : RK}
theorem own_us {e : Nat} {v : Value} {n : Nat} {xs : List Nat} (h : H (Own e 1 v n (uv xs) :: l) σ) : Us σ v xs := rou_us (own_rou h)
structure Got (x : List UInt8) (k : Nat) (ks vs : List Nat) : Prop where
  kl : ks.length = k
  vl : vs.length = k
  ke : ∀ t, t < k → ks[t]? = some (num ((x.drop (2 + 16 * t)).take 8))
  ve : ∀ t, t < k → vs[t]? = some (num ((x.drop (2 + 16 * t + 8)).take 8))
  kp : ks.Pairwise (· < ·)
  vz : ∀ v ∈ vs, v ≠ 0
theorem num8_lt {x : List UInt8} : num (x.take 8) < 18446744073709551616 := by
  have h := num_lt (x.take 8)
  have : (x.take 8).length ≤ 8 := by simp; omega
  have h2 : (256 : Nat) ^ (x.take 8).length ≤ 256 ^ 8 := Nat.pow_le_pow_right (by omega) this
  rw [pow8] at h2
  omega
theorem Got.small {x : List UInt8} {k : Nat} {ks vs : List Nat} (h : Got x k ks vs) (lf : Bool) : (Nd.mk lf ks vs).small := by
  refine ⟨fun a ha => ?_, fun a ha => ?_⟩
  · obtain ⟨t, ht, rfl⟩ := List.getElem_of_mem ha
    simp only at ht
    have := h.ke t (by rw [← h.kl]; exact ht)
    rw [List.getElem?_eq_getElem ht] at this
    rw [Option.some.inj this]
    exact num8_lt
  · obtain ⟨t, ht, rfl⟩ := List.getElem_of_mem ha
    simp only at ht
    have := h.ve t (by rw [← h.vl]; exact ht)
    rw [List.getElem?_eq_getElem ht] at this
    rw [Option.some.inj this]
    exact num8_lt
theorem Got.pairs {x : List UInt8} {ks vs : List Nat} : ∀ {k : Nat}, Got x k ks vs → 2 + 16 * k ≤ x.length → pairsB (ks.zip vs) = (x.drop 2).take (16 * k) := by
  intro k h hx
  have key : ∀ j, j ≤ k → pairsB ((ks.zip vs).take j) = (x.drop 2).take (16 * j) := by
    intro j
    induction j with
    | zero => intro _; simp [pairsB]
    | succ j ih =>
      intro hj
      have hz : (ks.zip vs)[j]? = some (num ((x.drop (2 + 16 * j)).take 8), num ((x.drop (2 + 16 * j + 8)).take 8)) := by
        rw [List.getElem?_zip_eq_some]
        exact ⟨h.ke j (by omega), h.ve j (by omega)⟩
      rw [List.take_add_one, hz, Option.toList_some]
      have : pairsB ((ks.zip vs).take j ++ [(num ((x.drop (2 + 16 * j)).take 8), num ((x.drop (2 + 16 * j + 8)).take 8))]) = pairsB ((ks.zip vs).take j) ++ (be (num ((x.drop (2 + 16 * j)).take 8)) 8 ++ be (num ((x.drop (2 + 16 * j + 8)).take 8)) 8) := by simp [pairsB, pairB]
      rw [this, ih (by omega)]
      have l1 : ((x.drop (2 + 16 * j)).take 8).length = 8 := by simp; omega
      have l2 : ((x.drop (2 + 16 * j + 8)).take 8).length = 8 := by simp; omega
      have b1 := be_num ((x.drop (2 + 16 * j)).take 8)
      have b2 := be_num ((x.drop (2 + 16 * j + 8)).take 8)
      rw [l1] at b1
      rw [l2] at b2
      rw [b1, b2, show 16 * (j + 1) = 16 * j + (8 + 8) by omega, List.take_add, List.drop_drop, List.take_add, List.drop_drop]
  have := key k (Nat.le_refl _)
  rw [List.take_of_length_le (by simp [h.kl, h.vl])] at this
  exact this
theorem Got.form {x : List UInt8} {k : Nat} {ks vs : List Nat} {lf : Bool} (h : Got x k ks vs) (hx : x.length = 240) (hk : 2 + 16 * k ≤ 240) (h0 : x[0]? = some (if lf then 1 else 0)) (h1 : x[1]? = some (UInt8.ofNat k)) (hz : ∀ b ∈ x.drop (2 + 16 * k), b = 0) : x = pad240 (Nd.mk lf ks vs).form := by
  have hp := h.pairs (by omega)
  have hf : (Nd.mk lf ks vs).form = x.take (2 + 16 * k) := by
    unfold Nd.form Nd.pairs
    simp only
    rw [hp, h.kl, List.take_add]
    congr 1
    match x, hx, h0, h1 with
    | a :: b :: x, _, h0, h1 =>
      simp at h0 h1
      subst h0; subst h1
      rfl
  unfold pad240
  rw [hf]
  have hl : (x.take (2 + 16 * k)).length = 2 + 16 * k := by simp; omega
  rw [hl]
  have : x.drop (2 + 16 * k) = List.replicate (240 - (2 + 16 * k)) 0 := by
    rw [List.eq_replicate_iff]
    exact ⟨by simp; omega, hz⟩
  rw [← this, List.take_append_drop]
theorem Got.snoc {x : List UInt8} {k : Nat} {ks vs : List Nat} (h : Got x k ks vs) (hkey : ∀ y, ks.getLast? = some y → y < num ((x.drop (2 + 16 * k)).take 8)) (hval : num ((x.drop (2 + 16 * k + 8)).take 8) ≠ 0) :
    Got x (k + 1) (ks ++ [num ((x.drop (2 + 16 * k)).take 8)]) (vs ++ [num ((x.drop (2 + 16 * k + 8)).take 8)]) := by
  refine ⟨by simp [h.kl], by simp [h.vl], fun t ht => ?_, fun t ht => ?_, pair_snoc h.kp hkey, fun v hv => ?_⟩
  · rcases Nat.lt_or_ge t k with h' | h'
    · rw [List.getElem?_append_left (by rw [h.kl]; exact h')]; exact h.ke t h'
    · have : t = k := by omega
      subst this
      rw [List.getElem?_append_right (by rw [h.kl]; exact Nat.le_refl _), h.kl, Nat.sub_self]; rfl
  · rcases Nat.lt_or_ge t k with h' | h'
    · rw [List.getElem?_append_left (by rw [h.vl]; exact h')]; exact h.ve t h'
    · have : t = k := by omega
      subst this
      rw [List.getElem?_append_right (by rw [h.vl]; exact Nat.le_refl _), h.vl, Nat.sub_self]; rfl
  · rcases List.mem_append.1 hv with hv | hv
    · exact h.vz v hv
    · simp at hv; subst hv; exact hval
end Go.Ax.C
set_option maxRecDepth 100000
namespace Go.Ax.C
open Go.Proofs Go.RowKit
variable {l r m : List Assn} {σ : AHeap} {Q : RK}
def noNode : Value := .agg #[.bool false, .slice none 0 0, .slice none 0 0]
abbrev TkL (b41 b49 b55 : Nat) (rv : Value) (lf : Bool) (kvv vvv : Value) (ks vs : List Nat) (l : List Assn) : List Assn :=
  pt b55 (.cells [rv] t_node_reader false) :: Own t_uint64 1 kvv ks.length (uv ks) :: Own t_uint64 1 vvv vs.length (uv vs) :: pt b49 (.cells [.bool lf, kvv, vvv] t_api_Node false) :: pt b41 (.cells [.bool false, .slice none 0 0, .slice none 0 0] t_api_Node false) :: l
theorem tk_l {b41 b49 b55 : Nat} {rv : Value} {lf : Bool} {kvv vvv : Value} {ks vs : List Nat} (h : H (TkL b41 b49 b55 rv lf kvv vvv ks vs l) σ) : H l σ := h.tail.tail.tail.tail.tail
theorem tk_err {b41 : Nat} {L : List Assn} {e : Int} (h : H L σ) [AtB L b41 (pt b41 (.cells [.bool false, .slice none 0 0, .slice none 0 0] t_api_Node false)) r] (hr : ∀ τ, H r τ → H l τ) (hQ : ∀ σ', H l σ' → Q (.ret (.tuple #[noNode, .int .i64 e])) σ') :
    pu (aStore 3 (.pointer (some ⟨b41, 0, none⟩)) (.agg #[(.bool false), (.slice none 0 0), (.slice none 0 0)]) σ) fun τ143 =>
      pu (aLoad true 3 (.pointer (some ⟨b41, 0, none⟩)) τ143) fun v149 => Q (.ret (.tuple #[v149, (.int .i64 e)])) τ143 := by
  refine st3 h rfl rfl rfl ?_
  intro σ1 h1
  rw [loadN (h1.row 0 rfl) (by simp), pu_some]
  exact hQ σ1 (hr σ1 h1.tail)
theorem tk_app {bk : Nat} {K : Value × AHeap → Prop} (i : Nat) {L : List Assn} (h : H L σ) {e : TypeId} {w : Value} {xs : List Nat}
    (hi : L[i]? = some (Own e 1 w xs.length (uv xs))) (hx : xs.length ≤ 1000) {j : Nat} {x : Nat} (hj : L[j]? = some (pt bk (.cells [.int .u64 (x : Nat)] t_uint64 false)))
    (hK : ∀ v' σ', H (L.set i (Own e 1 v' (xs ++ [x]).length (uv (xs ++ [x])))) σ' → K (v', σ')) : pu (aAppend e 1 8 w (.slice (some ⟨bk, 0, none⟩) 1 1) σ) K := by
  have hs : srcOf 1 (.slice (some ⟨bk, 0, none⟩) 1 1) σ = some (1, uv [x]) := by rw [src_row (h.row j hj) (by simp)]; rfl
  refine append_own h i hi hs (by omega) (by omega) (uv_one _) ?_
  intro v' σ' h'
  rw [← uv_app] at h'
  refine hK v' σ' ?_
  rw [List.length_append]; exact h'
set_option maxHeartbeats 1000000 in
theorem tk20 {b41 b49 b55 : Nat} {rv : Value} {lf : Bool} {kvv vvv : Value} {ks vs : List Nat} {x : List UInt8} {k key : Nat} {N : Int → AHeap → Prop} (h : H (TkL b41 b49 b55 rv lf kvv vvv ks vs l) σ) (hx : x.length = 240) (hk : k < 8) (hg : Got x k ks vs)
    (hb : ∀ τ, H l τ → Bts τ rv (x.drop (2 + 16 * k + 8))) (hkey : key = num ((x.drop (2 + 16 * k)).take 8)) (hlt : ∀ y, ks.getLast? = some y → y < key)
    (hz : num ((x.drop (2 + 16 * k + 8)).take 8) = 0 → ∀ σ', H l σ' → Q (.ret (.tuple #[noNode, .int .i64 5])) σ')
    (hN : ∀ rv' kvv' vvv' ks' vs' σ', Got x (k + 1) ks' vs' → (∀ τ, H l τ → Bts τ rv' (x.drop (2 + 16 * (k + 1)))) → H (TkL b41 b49 b55 rv' lf kvv' vvv' ks' vs' l) σ' → N ((k + 1 : Nat) : Int) σ') :
    s_node_Take_k20 N E Q false b41 b49 b55 k (.func (.func f_node_reader_number) #[(.pointer (some ⟨b55, 0, none⟩))] #[]) key σ := by
  unfold s_node_Take_k20
  refine If_f rfl ?_
  show E f_node_reader_number [.pointer (some ⟨b55, 0, none⟩)] _ _
  refine rnumber (m := l) (y := x.drop (2 + 16 * k + 8)) h (fun τ ht => ht.tail.tail.tail.tail) hb (by simp; omega) (by simp; omega) ?_
  intro rv' σ1 hb' h1
  rw [c2_ret, tI_int, tI_int]
  refine If_ne (fun g => absurd rfl g) fun _ => ?_
  refine If_dec (fun h0 => ?_) (fun h0 => ?_)
  · exact tk_err h1 (fun τ ht => ht.tail.tail.tail.tail) (hz (by omega))
  have hgs := hg.snoc (by rw [← hkey]; exact hlt) (by omega)
  rw [← hkey] at hgs
  have hbn : ∀ τ, H l τ → Bts τ rv' (x.drop (2 + 16 * (k + 1))) := fun τ ht => by
    have := hb' τ ht
    rw [List.drop_drop] at this
    exact this
  rw [LV h1, LV h1]
  obtain ⟨_, _, ka, kc, hkv⟩ := h1.own_src 1 rfl
  obtain ⟨_, _, va, vc, hvv⟩ := h1.own_src 2 rfl
  have vk : ∀ p : Prop, (veq1 kvv kvv = true ∧ p) = p := fun p => by rw [hkv]; exact veq_slice
  have vv : ∀ p : Prop, (veq1 vvv vvv = true ∧ p) = p := fun p => by rw [hvv]; exact veq_slice
  have hkl : ks.length ≤ 1000 := by rw [hg.kl]; omega
  have hvl : vs.length ≤ 1000 := by rw [hg.vl]; omega
  -- the end of each way
  have fin : ∀ (bx by' : Nat) (ox oy : AObj) kvv' vvv' σ', H (pt bx ox :: pt by' oy :: pt b55 (.cells [rv'] t_node_reader false) :: Own t_uint64 1 kvv' (ks ++ [key]).length (uv (ks ++ [key])) :: Own t_uint64 1 vvv' (vs ++ [num ((x.drop (2 + 16 * k + 8)).take 8)]).length (uv (vs ++ [num ((x.drop (2 + 16 * k + 8)).take 8)])) :: pt b49 (.cells [.bool lf, kvv, vvv] t_api_Node false) :: pt b41 (.cells [.bool false, .slice none 0 0, .slice none 0 0] t_api_Node false) :: l) σ' →
      St b49 1 kvv' σ' fun τ => St b49 2 vvv' τ fun τ2 => s_node_Take_k27 N E Q k b41 b49 b55 τ2 := by
    intro bx by' ox oy kvv' vvv' σ' h'
    have h' := h'.tail.tail
    obtain ⟨_, _, ka', kc', hkv'⟩ := h'.own_src 1 rfl
    obtain ⟨_, _, va', vc', hvv'⟩ := h'.own_src 2 rfl
    refine st h' (by rw [hkv']; rfl) ?_
    intro τ2 h2
    refine st h2 (by rw [hvv']; rfl) ?_
    intro τ3 h3
    unfold s_node_Take_k27
    refine b64 ((k + 1 : Nat) : Int) (by omega) ?_
    exact hN rv' kvv' vvv' _ _ τ3 hgs hbn h3.re
  refine ⟨?_, ?_⟩
  · refine nw h1 ?_
    intro c1 τ1 h2
    rw [LV h2, vk, LV h2, vv]
    refine ⟨?_, ?_⟩
    · refine tk_app (bk := c1) (xs := ks) (x := key) 2 h2 (j := 0) rfl hkl rfl ?_
      intro v' τ2 h3
      simp only [List.set_cons_succ, List.set_cons_zero] at h3
      rw [LV h3, vv]
      refine nw h3 ?_
      intro c2 τ3 h4
      rw [LV h4, vk, LV h4, vv]
      refine tk_app (bk := c2) (xs := vs) (x := num ((x.drop (2 + 16 * k + 8)).take 8)) 4 h4 (j := 0) rfl hvl rfl ?_
      intro w' τ4 h5
      simp only [List.set_cons_succ, List.set_cons_zero] at h5
      exact fin _ _ _ _ _ _ _ h5
    · refine nw h2 ?_
      intro c2 τ3 h4
      rw [LV h4, vk, LV h4, vv]
      refine tk_app (bk := c1) (xs := ks) (x := key) 3 h4 (j := 1) rfl hkl rfl ?_
      intro v' τ2 h3
      simp only [List.set_cons_succ, List.set_cons_zero] at h3
      rw [LV h3, vv]
      refine tk_app (bk := c2) (xs := vs) (x := num ((x.drop (2 + 16 * k + 8)).take 8)) 4 h3 (j := 0) rfl hvl rfl ?_
      intro w' τ4 h5
      simp only [List.set_cons_succ, List.set_cons_zero] at h5
      exact fin _ _ _ _ _ _ _ h5
  · refine nw h1 ?_
    intro c2 τ1 h2
    rw [LV h2, vk, LV h2, vv]
    refine nw h2 ?_
    intro c1 τ3 h4
    rw [LV h4, vk, LV h4, vv]
    refine tk_app (bk := c1) (xs := ks) (x := key) 3 h4 (j := 0) rfl hkl rfl ?_
    intro v' τ2 h3
    simp only [List.set_cons_succ, List.set_cons_zero] at h3
    rw [LV h3, vv]
    refine tk_app (bk := c2) (xs := vs) (x := num ((x.drop (2 + 16 * k + 8)).take 8)) 4 h3 (j := 1) rfl hvl rfl ?_
    intro w' τ4 h5
    simp only [List.set_cons_succ, List.set_cons_zero] at h5
    exact fin _ _ _ _ _ _ _ h5
end Go.Ax.C
set_option maxRecDepth 100000
namespace Go.Ax.C
open Go.Proofs Go.RowKit
variable {l r m : List Assn} {σ : AHeap} {Q : RK}
def NoForm (x : List UInt8) : Prop := ∀ n : Nd, n.May → n.small → x ≠ pad240 n.form
set_option maxHeartbeats 1000000 in
theorem ntake {v : Value} {x : List UInt8} (h : H l σ) (hb : ∀ τ, H l τ → Bts τ v x) (hx : x.length = 240)
    (hno : ∀ e : Int, e ≠ 0 → NoForm x → ∀ σ', H l σ' → Q (.ret (.tuple #[noNode, .int .i64 e])) σ')
    (hyes : ∀ (n : Nd) kv vv σ', n.May → n.small → x = pad240 n.form → H (RoU kv n.keys :: RoU vv n.vals :: l) σ' → Q (.ret (.tuple #[.agg #[.bool n.leaf, kv, vv], .int .i64 0])) σ') :
    E f_node_Take [v] σ Q := by
  apply e_node_Take; unfold s_node_Take
  refine nw h ?_
  intro b41 σ1 h1
  have hbt := hb σ1 h1.tail
  have hlen : lenS v = some (.int .i64 x.length) := by obtain ⟨va, vc, rfl⟩ := bts_form hbt; rfl
  rw [hlen, ldI_some]
  refine If_dec (fun g => absurd g (by omega)) fun _ => ?_
  obtain ⟨a, hxa⟩ : ∃ a, x[0]? = some a := ⟨_, List.getElem?_eq_getElem (by omega)⟩
  obtain ⟨c, hxc⟩ : ∃ c, x[1]? = some c := ⟨_, List.getElem?_eq_getElem (by omega)⟩
  obtain ⟨pa, ia, la⟩ := (bts_rd hbt).elem 0 a hxa
  obtain ⟨pc, ic, lc⟩ := (bts_rd hbt).elem 1 c hxc
  have ia' := ia .i64
  have ic' := ic .i64
  simp only [Int.natCast_zero, Int.natCast_one] at ia' ic'
  have ca := a.toNat_lt
  have cc := c.toNat_lt
  rw [ia', om_some, la]
  show ldI .u8 (some (.int .u8 (a.toNat : Int))) _
  rw [ldI_some]
  refine If_dec (fun g => ?_) fun ga => ?_
  · refine tk_err h1 (fun τ ht => ht) (hno 5 (by omega) fun n hm hs he => ?_)
    have := (form_head hm he).1
    rw [hxa] at this
    have := Option.some.inj this
    rw [this] at g
    cases hl : n.leaf <;> simp [hl] at g
  rw [ldI_some]
  refine If_dec (fun g => absurd g (by omega)) fun _ => ?_
  rw [ic', om_some, lc]
  show ldI .u8 (some (.int .u8 (c.toNat : Int))) _
  rw [ldI_some]
  have hcnt : ∀ n : Nd, n.May → x = pad240 n.form → c.toNat = n.keys.length := by
    intro n hm he
    obtain ⟨_, q1, q2⟩ := form_head hm he
    rw [hxc] at q1
    rw [Option.some.inj q1, q2]
  have hbad : ∀ τ, H (pt b41 (.cells [.bool false, .slice none 0 0, .slice none 0 0] t_api_Node false) :: l) τ → ¬ (1 ≤ c.toNat ∧ c.toNat ≤ 8) → s_node_Take_k8 E Q true b41 v τ := by
    intro τ ht g
    unfold s_node_Take_k8
    refine If_t rfl ?_
    refine tk_err ht (fun τ ht => ht) (hno 5 (by omega) fun n hm hs he => ?_)
    have := hcnt n hm he
    have := hm.1.1
    have := hm.1.2.1
    omega
  refine If_dec (fun g => hbad σ1 h1 (by omega)) fun g1 => ?_
  rw [om_some, lc]
  show ldI .u8 (some (.int .u8 (c.toNat : Int))) _
  rw [ldI_some]
  by_cases g8 : 8 < c.toNat
  · have e : decide ((8 : Int) < (c.toNat : Int)) = true := by simp; omega
    rw [e]
    exact hbad σ1 h1 (by omega)
  have e : decide ((8 : Int) < (c.toNat : Int)) = false := by simp; omega
  rw [e]
  unfold s_node_Take_k8
  refine If_f rfl ?_
  rw [ia', om_some, la]
  show ldI .u8 (some (.int .u8 (a.toNat : Int))) _
  rw [ldI_some]
  refine nw h1 ?_
  intro b49 σ2 h2
  refine st3 h2 rfl rfl rfl ?_
  intro σ3 h3
  obtain ⟨w, ew, _⟩ := bts_from (k := .i64) (a := 2) hbt (by omega)
  have hw : ∀ τ, H l τ → Bts τ w (x.drop 2) := fun τ ht => by
    obtain ⟨w2, e2, h2⟩ := bts_from (k := .i64) (a := 2) (hb τ ht) (by omega)
    rw [ew] at e2
    cases e2
    exact h2
  rw [show (2 : Int) = ((2 : Nat) : Int) from rfl, ew, om_some]
  obtain ⟨wa, wc, hwv⟩ := bts_form (hw σ1 h1.tail)
  refine On_one (by rw [hwv]; rfl) ?_
  refine nw h3 ?_
  intro b55 σ4 h4
  obtain ⟨pc2, ic2, lc2⟩ := (bts_rd (hb σ4 h4.tail.tail.tail)).elem 1 c hxc
  have : pc2 = pc := by
    have := (ic2 .i64).symm.trans (ic .i64)
    cases this; rfl
  subst this
  rw [ic', om_some, lc2]
  show ldI .u8 (some (.int .u8 (c.toNat : Int))) _
  rw [ldI_some]
  refine b64 (c.toNat : Int) (by omega) ?_
  obtain ⟨lf, hlf⟩ : ∃ lf, lf = decide ((a.toNat : Int) = 1) := ⟨_, rfl⟩
  rw [← hlf] at h4
  have h5 : H (TkL b41 b49 b55 w lf (.slice none 0 0) (.slice none 0 0) [] [] l) σ4 := by
    have q := (h4.own_nil t_uint64 1).unsnoc
    have q2 : H (Own t_uint64 1 (.slice none 0 0) ([] : List Nat).length (uv []) :: Own t_uint64 1 (.slice none 0 0) ([] : List Nat).length (uv []) :: pt b55 (.cells [w] t_node_reader false) :: pt b49 (.cells [.bool lf, .slice none 0 0, .slice none 0 0] t_api_Node false) :: pt b41 (.cells [.bool false, .slice none 0 0, .slice none 0 0] t_api_Node false) :: l) σ4 := (q.own_nil t_uint64 1).unsnoc
    exact q2.re
  refine ⟨fun m i τ => ∃ (k : Nat) (rv kvv vvv : Value) (ks vs : List Nat), i = k ∧ m = c.toNat - k ∧ k ≤ c.toNat ∧ Got x k ks vs ∧ (∀ τ, H l τ → Bts τ rv (x.drop (2 + 16 * k))) ∧ H (TkL b41 b49 b55 rv lf kvv vvv ks vs l) τ,
    ⟨c.toNat, 0, w, _, _, [], [], rfl, rfl, by omega, ⟨rfl, rfl, fun t ht => by omega, fun t ht => by omega, by simp, by simp⟩, hw, h5⟩, ?_⟩
  rintro m i τ ⟨k, rv, kvv, vvv, ks, vs, rfl, rfl, hk, hg, hbr, h6⟩
  unfold s_node_Take_b1
  refine If_dec (fun hlt => ?_) (fun hge => ?_)
  · have hk8 : k < 8 := by omega
    show E f_node_reader_number [.pointer (some ⟨b55, 0, none⟩)] _ _
    refine rnumber (m := l) (y := x.drop (2 + 16 * k)) h6 (fun τ ht => ht.tail.tail.tail.tail) hbr (by simp; omega) (by simp; omega) ?_
    intro rv' τ1 hb' h7
    rw [c2_ret, tI_int, tI_int]
    refine If_ne (fun g => absurd rfl g) fun _ => ?_
    have hb2 : ∀ τ, H l τ → Bts τ rv' (x.drop (2 + 16 * k + 8)) := fun τ ht => by
      have := hb' τ ht
      rw [List.drop_drop] at this
      exact this
    have h20 : (∀ y, ks.getLast? = some y → y < num ((x.drop (2 + 16 * k)).take 8)) → s_node_Take_k20 _ E Q false b41 b49 b55 k (.func (.func f_node_reader_number) #[(.pointer (some ⟨b55, 0, none⟩))] #[]) (num ((x.drop (2 + 16 * k)).take 8) : Nat) τ1 := fun hl =>
      tk20 (N := fun n66 σ' => ∃ m', m' < c.toNat - k ∧ ∃ (k : Nat) (rv kvv vvv : Value) (ks vs : List Nat), n66 = k ∧ m' = c.toNat - k ∧ k ≤ c.toNat ∧ Got x k ks vs ∧ (∀ τ, H l τ → Bts τ rv (x.drop (2 + 16 * k))) ∧ H (TkL b41 b49 b55 rv lf kvv vvv ks vs l) σ') h7 hx hk8 hg hb2 rfl hl (fun h0 σ' hh => hno 5 (by omega) (fun n hm hs he => by
        have hkn := hcnt n hm he
        have := (form_at hm hs he (i := k) (by omega)).2
        rw [h0] at this
        exact hm.2.2 _ (List.getElem_mem (by have := hm.1.2.2; omega)) this.symm) σ' hh)
        (fun rv2 kvv2 vvv2 ks2 vs2 σ' hg2 hb3 hh => ⟨c.toNat - (k + 1), by omega, k + 1, rv2, kvv2, vvv2, ks2, vs2, rfl, rfl, by omega, hg2, hb3, hh⟩)
    refine If_dec (fun hpos => ?_) (fun h0 => ?_)
    · obtain ⟨j, rfl⟩ : ∃ j, k = j + 1 := ⟨k - 1, by omega⟩
      have hj : j < ks.length := by rw [hg.kl]; omega
      obtain ⟨pp, ip, lp⟩ := us_elem (own_us h7.tail) (List.getElem?_eq_getElem hj)
      rw [LV h7]
      refine b64 ((j : Nat) : Int) (by omega) ?_
      rw [ip, om_some, lp, ldI_some]
      by_cases hle : num ((x.drop (2 + 16 * (j + 1))).take 8) ≤ ks[j]
      · have e : decide (((num ((x.drop (2 + 16 * (j + 1))).take 8) : Nat) : Int) ≤ (ks[j] : Int)) = true := by simp; omega
        rw [e]
        unfold s_node_Take_k20
        refine If_t rfl ?_
        refine tk_err h7 (fun τ ht => ht.tail.tail.tail.tail) (hno 5 (by omega) fun n hm hs he => ?_)
        have hkn := hcnt n hm he
        have q1 := (form_at hm hs he (i := j + 1) (by omega)).1
        have q2 := (form_at hm hs he (i := j) (by omega)).1
        have q3 := hg.ke j (by omega)
        rw [List.getElem?_eq_getElem hj] at q3
        have q3 := Option.some.inj q3
        have := List.pairwise_iff_getElem.1 hm.2.1 j (j + 1) (by omega) (by omega) (by omega)
        omega
      · have e : decide (((num ((x.drop (2 + 16 * (j + 1))).take 8) : Nat) : Int) ≤ (ks[j] : Int)) = false := by simp; omega
        rw [e]
        refine h20 fun y hy => ?_
        rw [List.getLast?_eq_getElem?, hg.kl, Nat.add_sub_cancel, List.getElem?_eq_getElem hj] at hy
        have := Option.some.inj hy
        omega
    · have : k = 0 := by omega
      subst this
      refine h20 fun y hy => ?_
      have := hg.kl
      rw [List.length_eq_zero_iff.1 this] at hy
      simp at hy
  · have hkc : k = c.toNat := by omega
    have hrl : lenS rv = some (.int .i64 ((x.drop (2 + 16 * k)).length : Nat)) := by obtain ⟨ra, rc, rfl⟩ := bts_form (hbr τ (tk_l h6)); rfl
    rw [LV h6, hrl, ldI_some]
    refine ⟨fun m i τ => ∃ j : Nat, i = j ∧ m = (x.drop (2 + 16 * k)).length - j ∧ j ≤ (x.drop (2 + 16 * k)).length ∧ (∀ t, t < j → (x.drop (2 + 16 * k))[t]? = some 0) ∧ H (TkL b41 b49 b55 rv lf kvv vvv ks vs l) τ,
      ⟨(x.drop (2 + 16 * k)).length, 0, rfl, rfl, by omega, fun t ht => by omega, h6⟩, ?_⟩
    rintro m i τ ⟨j, rfl, rfl, hj, hz, h7⟩
    have hyl : (x.drop (2 + 16 * k)).length = 240 - (2 + 16 * k) := by simp; omega
    unfold s_node_Take_b2
    refine If_dec (fun hlt => ?_) (fun hge => ?_)
    · obtain ⟨y, hy⟩ : ∃ y, (x.drop (2 + 16 * k))[j]? = some y := ⟨_, List.getElem?_eq_getElem (by omega)⟩
      obtain ⟨pp, ip, lp⟩ := (bts_rd (hbr τ (tk_l h7))).elem j y hy
      rw [ip, om_some, lp]
      show ldI .u8 (some (.int .u8 (y.toNat : Int))) _
      rw [ldI_some]
      refine If_ne (fun g => ?_) fun g => ?_
      · refine tk_err h7 (fun τ ht => ht.tail.tail.tail.tail) (hno 5 (by omega) fun n hm hs he => ?_)
        have hkn := hcnt n hm he
        have q := form_tail hm he
        rw [← hkn, ← hkc] at q
        rw [q, List.getElem?_replicate] at hy
        split at hy
        · cases hy; simp at g
        · cases hy
      · refine b64 ((j + 1 : Nat) : Int) (by omega) ?_
        refine ⟨(x.drop (2 + 16 * k)).length - (j + 1), by omega, j + 1, rfl, rfl, by omega, fun t ht => ?_, h7⟩
        rcases Nat.lt_or_ge t j with h' | h'
        · exact hz t h'
        · have : t = j := by omega
          subst this
          rw [hy]
          congr 1
          apply UInt8.toNat_inj.1
          show y.toNat = 0
          omega
    · have hall : ∀ b ∈ x.drop (2 + 16 * k), b = 0 := by
        intro b hb'
        obtain ⟨t, ht, rfl⟩ := List.getElem_of_mem hb'
        have := hz t (by omega)
        rw [List.getElem?_eq_getElem ht] at this
        exact Option.some.inj this
      have ha01 : a = if lf then 1 else 0 := by
        apply UInt8.toNat_inj.1
        rw [hlf]
        by_cases h1 : a.toNat = 1
        · simp [h1]
        · have : a.toNat = 0 := by omega
          simp [this]
      have hform := hg.form (lf := lf) hx (by omega) (by rw [hxa, ha01]) (by
        rw [hxc, hkc]; congr 1; apply UInt8.toNat_inj.1; rw [UInt8.toNat_ofNat']; omega) hall
      have hmay : (Nd.mk lf ks vs).May := ⟨⟨by simp only [hg.kl]; omega, by simp only [hg.kl]; omega, by simp only [hg.kl, hg.vl]⟩, hg.kp, hg.vz⟩
      obtain ⟨_, _, ka, kc, hkv⟩ := h7.own_src 1 rfl
      obtain ⟨_, _, va, vc, hvv⟩ := h7.own_src 2 rfl
      rw [LB h7, LV h7, LV h7]
      refine st3 h7 rfl (by rw [hkv]; rfl) (by rw [hvv]; rfl) ?_
      intro τ2 h8
      rw [loadN (h8.row 0 rfl) (by simp), pu_some]
      refine hyes ⟨lf, ks, vs⟩ kvv vvv τ2 hmay (hg.small lf) hform ?_
      have h9 : H (Own t_uint64 1 kvv ks.length (uv ks) :: Own t_uint64 1 vvv vs.length (uv vs) :: l) τ2 := h8.re
      have h10 := (own_rou h9).perm (.swap _ _ _)
      exact (own_rou h10).perm (.swap _ _ _)
end Go.Ax.C
set_option linter.unusedVariables false
set_option maxRecDepth 100000
namespace Go.Ax.C
open Go.Proofs
def s_refs_New_k4 (E : EvT) (Q : RK) (b17 : Nat) (τ16 : AHeap) : Prop :=
 E f_refs_Refs_settle [(.pointer (some ⟨b17, 0, none⟩))] τ16 (c0 Q fun τ18 =>
 Q (.ret (.tuple #[(.pointer (some ⟨b17, 0, none⟩)), (.int .i64 0)])) τ18)
def s_refs_New_k2 (E : EvT) (Q : RK) (c5 : Bool) (v7 : Value) (τ4 : AHeap) : Prop :=
 If c5 (
 Q (.ret (.tuple #[(.pointer none), (.int .i64 1)])) τ4) (
 ldI .i64 (lenS v7) fun n9 =>
 (
 E f_bytes_Clone [v7] τ4 (cV Q fun v11 τ10 =>
 ldI .i64 (lenS v7) fun n12 =>
 veq1 (.int .i64 n12) (.int .i64 n9) = true ∧
 pu (aMake t_uint8 1 [(.int .u8 0)] (.int .i64 n9) (.int .i64 n9) τ10) fun r13 =>
 On v11 (
 On r13.1 (
 wNew r13.2 (.cells [v11, r13.1, (.slice none 0 0), (.pointer none)] t_refs_Refs false) fun b14 τ15 =>
 (s_refs_New_k4 E Q b14 τ15))))) ∧ (
 pu (aMake t_uint8 1 [(.int .u8 0)] (.int .i64 n9) (.int .i64 n9) τ4) fun r21 =>
 E f_bytes_Clone [v7] r21.2 (cV Q fun v23 τ22 =>
 ldI .i64 (lenS v7) fun n24 =>
 veq1 (.int .i64 n24) (.int .i64 n9) = true ∧
 On v23 (
 On r21.1 (
 wNew τ22 (.cells [v23, r21.1, (.slice none 0 0), (.pointer none)] t_refs_Refs false) fun b25 τ26 =>
 (s_refs_New_k4 E Q b25 τ26))))))
def s_refs_New (E : EvT) (Q : RK) (x0 : Value) (σ : AHeap) : Prop :=
 ldI .i64 (lenS x0) fun n3 =>
 If (decide (n3 < 1)) (
 (s_refs_New_k2 E Q true x0 σ)) (
 ldI .i64 (lenS x0) fun n27 =>
 (s_refs_New_k2 E Q (decide (1024 < n27)) x0 σ))
theorem q_refs_New (E : EvT) (Q : RK) (x0 : Value) (σ : AHeap) : xfn P E Tryz.f59 (hl [(1, .tree (.step 0 [] (.step 2 [] (.step 3 [] (.alt (.step 1 [3] (.step 4 [] (.step 5 [] (.step 6 [] (.step 7 [] .nil))))) (.step 4 [] (.step 1 [3] (.step 5 [] (.step 6 [] (.step 7 [] .nil))))))))))]) (fun _ => .v) [x0] σ Q = s_refs_New E Q x0 σ := by kernel_rfl
theorem e_refs_New {Q : RK} {x0 : Value} {σ : AHeap} (h : s_refs_New E Q x0 σ) : E f_refs_New [x0] σ Q :=
  exfn Tryz.func59 _ _ (by kernel_rfl) (Eq.mpr (q_refs_New E Q x0 σ) h)
def s_refs_Refs_settle_k9 (N1 : Int → AHeap → Prop) (E : EvT) (Q : RK) (n57 : Int) (τ54 : AHeap) : Prop :=
 Bi (w64 (n57 + 1)) fun n58 =>
 N1 n58 τ54
def s_refs_Refs_settle_b1 (N1 : Int → AHeap → Prop) (E : EvT) (Q : RK) (b26 : Nat) (v28 : Value) (n30 n24 : Int) (τ31 : AHeap) : Prop :=
 If (decide (n24 < n30)) (
 om (aIndexAddr 1 v28 (.int .i64 n24)) fun v39 =>
 ldI .u8 (aLoad false 1 v39 τ31) fun n40 =>
 If (decide (0 < n40)) (
 om (L b26 3 τ31) fun v49 =>
 E f_free_Space_Claim [v49, (.int .i64 n24)] τ31 (cI Q .i64 fun n53 τ52 =>
 (s_refs_Refs_settle_k9 N1 E Q n24 τ52))) (
 (s_refs_Refs_settle_k9 N1 E Q n24 τ31))) (
 Q (.ret (.tuple #[])) τ31)
def s_refs_Refs_settle (E : EvT) (Q : RK) (x0 : Nat) (σ : AHeap) : Prop :=
 om (L x0 1 σ) fun v1 =>
 om (L x0 0 σ) fun v2 =>
 pu (aCopy 1 v1 v2 σ) fun r3 =>
 om (L x0 0 r3.2) fun v6 =>
 ldI .i64 (lenS v6) fun n7 =>
 pu (aMake t_bool 1 [(.bool false)] (.int .i64 n7) (.int .i64 n7) r3.2) fun r8 =>
 St x0 2 r8.1 r8.2 fun τ9 =>
 om (L x0 0 τ9) fun v12 =>
 ldI .i64 (lenS v12) fun n13 =>
 E f_free_New [(.int .i64 n13)] τ9 (c2 Q fun v15 v16 τ14 =>
 tI .i64 (fun n17 =>
 St x0 3 v15 τ14 fun τ18 =>
 om (L x0 0 τ18) fun v21 =>
 ldI .i64 (lenS v21) fun n22 =>
 ∃ I59 : Nat → Int → AHeap → Prop, (∃ m, I59 m 0 τ18) ∧
 ∀ m (n24 : Int) (σ' : AHeap), I59 m n24 σ' → (s_refs_Refs_settle_b1 (fun n24 σ' => ∃ m', m' < m ∧ I59 m' n24 σ') E Q x0 v21 n22 n24 σ')) v16)
theorem q_refs_Refs_settle (E : EvT) (Q : RK) (x0 : Nat) (σ : AHeap) : xfn P E Tryz.f89 (hl [(0, .ord [(0, []), (1, []), (2, []), (3, []), (4, []), (5, []), (6, []), (7, []), (8, [])]), (2, .loopr [0, 37, 38] [39] [] [39])]) (fun | 39 => (.i .i64) | _ => .v) [(.pointer (some ⟨x0, 0, none⟩))] σ Q = s_refs_Refs_settle E Q x0 σ := by kernel_rfl
theorem e_refs_Refs_settle {Q : RK} {x0 : Nat} {σ : AHeap} (h : s_refs_Refs_settle E Q x0 σ) : E f_refs_Refs_settle [(.pointer (some ⟨x0, 0, none⟩))] σ Q :=
  exfn Tryz.func89 _ _ (by kernel_rfl) (Eq.mpr (q_refs_Refs_settle E Q x0 σ) h)
def s_refs_Refs_right (E : EvT) (Q : RK) (x0 : Nat) (σ : AHeap) : Prop :=
 om (L x0 0 σ) fun v3 =>
 ldI .i64 (lenS v3) fun n4 =>
 Q (.ret (.bool (decide (0 < n4)))) σ
theorem q_refs_Refs_right (E : EvT) (Q : RK) (x0 : Nat) (σ : AHeap) : xfn P E Tryz.f70 (fun _ => none) (fun _ => .v) [(.pointer (some ⟨x0, 0, none⟩))] σ Q = s_refs_Refs_right E Q x0 σ := by kernel_rfl
theorem e_refs_Refs_right {Q : RK} {x0 : Nat} {σ : AHeap} (h : s_refs_Refs_right E Q x0 σ) : E f_refs_Refs_right [(.pointer (some ⟨x0, 0, none⟩))] σ Q :=
  exfn Tryz.func70 _ _ (by kernel_rfl) (Eq.mpr (q_refs_Refs_right E Q x0 σ) h)
def s_refs_Refs_Alloc (E : EvT) (Q : RK) (x0 : Nat) (σ : AHeap) : Prop :=
 E f_refs_Refs_right [(.pointer (some ⟨x0, 0, none⟩))] σ (cB Q fun c4 τ3 =>
 If (!c4) (
 Q (.ret (.tuple #[(.int .i64 0), (.int .i64 2)])) τ3) (
 om (L x0 3 τ3) fun v10 =>
 E f_free_Space_Take [v10] τ3 (c2 Q fun v12 v14 τ11 =>
 tI .i64 (fun n13 =>
 tI .i64 (fun n15 =>
 If (!decide (n15 = 0)) (
 Q (.ret (.tuple #[(.int .i64 0), (.int .i64 8)])) τ11) (
 om (L x0 0 τ11) fun v24 =>
 om (L x0 2 τ11) fun v28 =>
 om (aIndexAddr 1 v24 (.int .i64 n13)) fun v29 =>
 pu (aStore 1 v29 (.int .u8 1) τ11) fun τ30 =>
 om (aIndexAddr 1 v28 (.int .i64 n13)) fun v31 =>
 pu (aStore 1 v31 (.bool true) τ30) fun τ32 =>
 Q (.ret (.tuple #[(.int .i64 n13), (.int .i64 0)])) τ32)) v14) v12)))
theorem q_refs_Refs_Alloc (E : EvT) (Q : RK) (x0 : Nat) (σ : AHeap) : xfn P E Tryz.f23 (hl [(2, .ord [(0, []), (1, []), (2, []), (3, []), (4, []), (5, []), (6, []), (7, []), (8, []), (9, []), (10, []), (11, []), (12, []), (13, [])])]) (fun _ => .v) [(.pointer (some ⟨x0, 0, none⟩))] σ Q = s_refs_Refs_Alloc E Q x0 σ := by kernel_rfl
theorem e_refs_Refs_Alloc {Q : RK} {x0 : Nat} {σ : AHeap} (h : s_refs_Refs_Alloc E Q x0 σ) : E f_refs_Refs_Alloc [(.pointer (some ⟨x0, 0, none⟩))] σ Q :=
  exfn Tryz.func23 _ _ (by kernel_rfl) (Eq.mpr (q_refs_Refs_Alloc E Q x0 σ) h)
def s_refs_Refs_does_k3 (E : EvT) (Q : RK) (c10 : Bool) (b12 : Nat) (n14 : Int) (v22 : Value) (τ9 : AHeap) : Prop :=
 If c10 (
 Q (.ret (.int .i64 1)) τ9) (
 om (L b12 0 τ9) fun v13 =>
 om (aIndexAddr 1 v13 (.int .i64 n14)) fun v15 =>
 ldI .u8 (aLoad false 1 v15 τ9) fun n16 =>
 If (decide (n16 = 0)) (
 Q (.ret (.int .i64 6)) τ9) (
 wF v22 fun g31 a32 c33 =>
 E g31 (a32 ++ [(.pointer (some ⟨b12, 0, none⟩)), (.int .i64 n14)] ++ c33) τ9 (cI Q .i64 fun n30 τ29 =>
 Q (.ret (.int .i64 n30)) τ29)))
def s_refs_Refs_does (E : EvT) (Q : RK) (x0 : Nat) (x1 : Int) (x2 : Value) (σ : AHeap) : Prop :=
 E f_refs_Refs_right [(.pointer (some ⟨x0, 0, none⟩))] σ (cB Q fun c4 τ3 =>
 If (!c4) (
 Q (.ret (.int .i64 2)) τ3) (
 If (decide (x1 < 0)) (
 (s_refs_Refs_does_k3 E Q true x0 x1 x2 τ3)) (
 om (L x0 0 τ3) fun v34 =>
 ldI .i64 (lenS v34) fun n35 =>
 (s_refs_Refs_does_k3 E Q (decide (n35 ≤ x1)) x0 x1 x2 τ3))))
theorem q_refs_Refs_does (E : EvT) (Q : RK) (x0 : Nat) (x1 : Int) (x2 : Value) (σ : AHeap) : xfn P E Tryz.f86 (fun _ => none) (fun _ => .v) [(.pointer (some ⟨x0, 0, none⟩)), (.int .i64 x1), x2] σ Q = s_refs_Refs_does E Q x0 x1 x2 σ := by kernel_rfl
theorem e_refs_Refs_does {Q : RK} {x0 : Nat} {x1 : Int} {x2 : Value} {σ : AHeap} (h : s_refs_Refs_does E Q x0 x1 x2 σ) : E f_refs_Refs_does [(.pointer (some ⟨x0, 0, none⟩)), (.int .i64 x1), x2] σ Q :=
  exfn Tryz.func86 _ _ (by kernel_rfl) (Eq.mpr (q_refs_Refs_does E Q x0 x1 x2 σ) h)
def s_refs_Refs_more (E : EvT) (Q : RK) (x0 : Nat) (x1 : Int) (σ : AHeap) : Prop :=
 om (L x0 0 σ) fun v3 =>
 om (aIndexAddr 1 v3 (.int .i64 x1)) fun v5 =>
 ldI .u8 (aLoad false 1 v5 σ) fun n6 =>
 If (decide (n6 = 255)) (
 Q (.ret (.int .i64 8)) σ) (
 om (L x0 0 σ) fun v12 =>
 om (aIndexAddr 1 v12 (.int .i64 x1)) fun v15 =>
 ldI .u8 (aLoad false 1 v15 σ) fun n16 =>
 Bi (wu8 (n16 + 1)) fun n17 =>
 om (aIndexAddr 1 v12 (.int .i64 x1)) fun v18 =>
 pu (aStore 1 v18 (.int .u8 n17) σ) fun τ19 =>
 Q (.ret (.int .i64 0)) τ19)
theorem q_refs_Refs_more (E : EvT) (Q : RK) (x0 : Nat) (x1 : Int) (σ : AHeap) : xfn P E Tryz.f88 (fun _ => none) (fun _ => .v) [(.pointer (some ⟨x0, 0, none⟩)), (.int .i64 x1)] σ Q = s_refs_Refs_more E Q x0 x1 σ := by kernel_rfl
theorem e_refs_Refs_more {Q : RK} {x0 : Nat} {x1 : Int} {σ : AHeap} (h : s_refs_Refs_more E Q x0 x1 σ) : E f_refs_Refs_more [(.pointer (some ⟨x0, 0, none⟩)), (.int .i64 x1)] σ Q :=
  exfn Tryz.func88 _ _ (by kernel_rfl) (Eq.mpr (q_refs_Refs_more E Q x0 x1 σ) h)
def s_refs_Refs_less_k5 (E : EvT) (Q : RK) (τ32 : AHeap) : Prop :=
 Q (.ret (.int .i64 0)) τ32
def s_refs_Refs_less_k3 (E : EvT) (Q : RK) (c20 : Bool) (b21 : Nat) (n23 : Int) (τ19 : AHeap) : Prop :=
 If c20 (
 om (L b21 2 τ19) fun v22 =>
 om (aIndexAddr 1 v22 (.int .i64 n23)) fun v24 =>
 pu (aStore 1 v24 (.bool false) τ19) fun τ25 =>
 om (L b21 3 τ25) fun v28 =>
 E f_free_Space_Give [v28, (.int .i64 n23)] τ25 (cI Q .i64 fun n31 τ30 =>
 (s_refs_Refs_less_k5 E Q τ30))) (
 (s_refs_Refs_less_k5 E Q τ19))
def s_refs_Refs_less (E : EvT) (Q : RK) (x0 : Nat) (x1 : Int) (σ : AHeap) : Prop :=
 om (L x0 0 σ) fun v3 =>
 om (aIndexAddr 1 v3 (.int .i64 x1)) fun v5 =>
 ldI .u8 (aLoad false 1 v5 σ) fun n6 =>
 Bi (wu8 (n6 - 1)) fun n7 =>
 om (aIndexAddr 1 v3 (.int .i64 x1)) fun v8 =>
 pu (aStore 1 v8 (.int .u8 n7) σ) fun τ9 =>
 om (L x0 0 τ9) fun v12 =>
 om (aIndexAddr 1 v12 (.int .i64 x1)) fun v14 =>
 ldI .u8 (aLoad false 1 v14 τ9) fun n15 =>
 If (decide (n15 = 0)) (
 om (L x0 2 τ9) fun v16 =>
 om (aIndexAddr 1 v16 (.int .i64 x1)) fun v17 =>
 ldB (aLoad false 1 v17 τ9) fun c18 =>
 (s_refs_Refs_less_k3 E Q c18 x0 x1 τ9)) (
 (s_refs_Refs_less_k3 E Q false x0 x1 τ9))
theorem q_refs_Refs_less (E : EvT) (Q : RK) (x0 : Nat) (x1 : Int) (σ : AHeap) : xfn P E Tryz.f87 (fun _ => none) (fun _ => .v) [(.pointer (some ⟨x0, 0, none⟩)), (.int .i64 x1)] σ Q = s_refs_Refs_less E Q x0 x1 σ := by kernel_rfl
theorem e_refs_Refs_less {Q : RK} {x0 : Nat} {x1 : Int} {σ : AHeap} (h : s_refs_Refs_less E Q x0 x1 σ) : E f_refs_Refs_less [(.pointer (some ⟨x0, 0, none⟩)), (.int .i64 x1)] σ Q :=
  exfn Tryz.func87 _ _ (by kernel_rfl) (Eq.mpr (q_refs_Refs_less E Q x0 x1 σ) h)
def s_refs_Refs_Inc (E : EvT) (Q : RK) (x0 : Nat) (x1 : Int) (σ : AHeap) : Prop :=
 E f_refs_Refs_does [(.pointer (some ⟨x0, 0, none⟩)), (.int .i64 x1), (.func (.func f_refs_Refs_more) #[] #[])] σ (cI Q .i64 fun n5 τ4 =>
 Q (.ret (.int .i64 n5)) τ4)
theorem q_refs_Refs_Inc (E : EvT) (Q : RK) (x0 : Nat) (x1 : Int) (σ : AHeap) : xfn P E Tryz.f30 (fun _ => none) (fun _ => .v) [(.pointer (some ⟨x0, 0, none⟩)), (.int .i64 x1)] σ Q = s_refs_Refs_Inc E Q x0 x1 σ := by kernel_rfl
theorem e_refs_Refs_Inc {Q : RK} {x0 : Nat} {x1 : Int} {σ : AHeap} (h : s_refs_Refs_Inc E Q x0 x1 σ) : E f_refs_Refs_Inc [(.pointer (some ⟨x0, 0, none⟩)), (.int .i64 x1)] σ Q :=
  exfn Tryz.func30 _ _ (by kernel_rfl) (Eq.mpr (q_refs_Refs_Inc E Q x0 x1 σ) h)
def s_refs_Refs_Dec (E : EvT) (Q : RK) (x0 : Nat) (x1 : Int) (σ : AHeap) : Prop :=
 E f_refs_Refs_does [(.pointer (some ⟨x0, 0, none⟩)), (.int .i64 x1), (.func (.func f_refs_Refs_less) #[] #[])] σ (cI Q .i64 fun n5 τ4 =>
 If (decide (n5 = 0)) (
 om (L x0 0 τ4) fun v9 =>
 om (aIndexAddr 1 v9 (.int .i64 x1)) fun v11 =>
 ldI .u8 (aLoad false 1 v11 τ4) fun n12 =>
 Q (.ret (.tuple #[(.bool (decide (n12 = 0))), (.int .i64 n5)])) τ4) (
 Q (.ret (.tuple #[(.bool false), (.int .i64 n5)])) τ4))
theorem q_refs_Refs_Dec (E : EvT) (Q : RK) (x0 : Nat) (x1 : Int) (σ : AHeap) : xfn P E Tryz.f29 (fun _ => none) (fun _ => .v) [(.pointer (some ⟨x0, 0, none⟩)), (.int .i64 x1)] σ Q = s_refs_Refs_Dec E Q x0 x1 σ := by kernel_rfl
theorem e_refs_Refs_Dec {Q : RK} {x0 : Nat} {x1 : Int} {σ : AHeap} (h : s_refs_Refs_Dec E Q x0 x1 σ) : E f_refs_Refs_Dec [(.pointer (some ⟨x0, 0, none⟩)), (.int .i64 x1)] σ Q :=
  exfn Tryz.func29 _ _ (by kernel_rfl) (Eq.mpr (q_refs_Refs_Dec E Q x0 x1 σ) h)
def s_refs_Refs_Count_k2 (E : EvT) (Q : RK) (c6 : Bool) (b8 : Nat) (n12 : Int) (τ5 : AHeap) : Prop :=
 If c6 (
 Q (.ret (.int .i64 0)) τ5) (
 om (L b8 0 τ5) fun v10 =>
 om (aIndexAddr 1 v10 (.int .i64 n12)) fun v14 =>
 ldI .u8 (aLoad false 1 v14 τ5) fun n15 =>
 Bi (w64 (n15)) fun n16 =>
 Q (.ret (.int .i64 n16)) τ5)
def s_refs_Refs_Count (E : EvT) (Q : RK) (x0 : Nat) (x1 : Int) (σ : AHeap) : Prop :=
 E f_refs_Refs_right [(.pointer (some ⟨x0, 0, none⟩))] σ (cB Q fun c4 τ3 =>
 If (!c4) (
 (s_refs_Refs_Count_k2 E Q true x0 x1 τ3)) (
 If (decide (x1 < 0)) (
 (s_refs_Refs_Count_k2 E Q true x0 x1 τ3)) (
 om (L x0 0 τ3) fun v17 =>
 ldI .i64 (lenS v17) fun n18 =>
 (s_refs_Refs_Count_k2 E Q (decide (n18 ≤ x1)) x0 x1 τ3))))
theorem q_refs_Refs_Count (E : EvT) (Q : RK) (x0 : Nat) (x1 : Int) (σ : AHeap) : xfn P E Tryz.f22 (fun _ => none) (fun _ => .v) [(.pointer (some ⟨x0, 0, none⟩)), (.int .i64 x1)] σ Q = s_refs_Refs_Count E Q x0 x1 σ := by kernel_rfl
theorem e_refs_Refs_Count {Q : RK} {x0 : Nat} {x1 : Int} {σ : AHeap} (h : s_refs_Refs_Count E Q x0 x1 σ) : E f_refs_Refs_Count [(.pointer (some ⟨x0, 0, none⟩)), (.int .i64 x1)] σ Q :=
  exfn Tryz.func22 _ _ (by kernel_rfl) (Eq.mpr (q_refs_Refs_Count E Q x0 x1 σ) h)
def s_refs_Refs_Fresh (E : EvT) (Q : RK) (x0 : Nat) (x1 : Int) (σ : AHeap) : Prop :=
 E f_refs_Refs_right [(.pointer (some ⟨x0, 0, none⟩))] σ (cB Q fun c4 τ3 =>
 If c4 (
 If (decide (0 ≤ x1)) (
 om (L x0 0 τ3) fun v6 =>
 ldI .i64 (lenS v6) fun n7 =>
 If (decide (x1 < n7)) (
 om (L x0 2 τ3) fun v8 =>
 om (aIndexAddr 1 v8 (.int .i64 x1)) fun v9 =>
 ldB (aLoad false 1 v9 τ3) fun c10 =>
 Q (.ret (.bool c10)) τ3) (
 Q (.ret (.bool false)) τ3)) (
 Q (.ret (.bool false)) τ3)) (
 Q (.ret (.bool false)) τ3))
theorem q_refs_Refs_Fresh (E : EvT) (Q : RK) (x0 : Nat) (x1 : Int) (σ : AHeap) : xfn P E Tryz.f21 (fun _ => none) (fun _ => .v) [(.pointer (some ⟨x0, 0, none⟩)), (.int .i64 x1)] σ Q = s_refs_Refs_Fresh E Q x0 x1 σ := by kernel_rfl
theorem e_refs_Refs_Fresh {Q : RK} {x0 : Nat} {x1 : Int} {σ : AHeap} (h : s_refs_Refs_Fresh E Q x0 x1 σ) : E f_refs_Refs_Fresh [(.pointer (some ⟨x0, 0, none⟩)), (.int .i64 x1)] σ Q :=
  exfn Tryz.func21 _ _ (by kernel_rfl) (Eq.mpr (q_refs_Refs_Fresh E Q x0 x1 σ) h)
def s_free_New_b1 (N1 : Int → AHeap → Prop) (E : EvT) (Q : RK) (b17 : Nat) (n19 n14 : Int) (τ20 : AHeap) : Prop :=
 If (decide (n14 < n19)) (
 om (L b17 0 τ20) fun v30 =>
 om (aIndexAddr 1 v30 (.int .i64 n14)) fun v32 =>
 pu (aStore 1 v32 (.bool true) τ20) fun τ33 =>
 om (L b17 2 τ33) fun v36 =>
 wNew τ33 (.cells [(.int .i64 n14)] t_int false) fun b38 τ39 =>
 pu (aAppend t_int 1 8 v36 (.slice (some ⟨b38, 0, none⟩) 1 1) τ39) fun r40 =>
 St b17 2 r40.1 r40.2 fun τ41 =>
 Bi (w64 (n14 + 1)) fun n46 =>
 N1 n46 τ41) (
 E f_heap_Init [(.iface t_p_free_least (.pointer (some ⟨b17, 2, none⟩)))] τ20 (c0 Q fun τ50 =>
 Q (.ret (.tuple #[(.pointer (some ⟨b17, 0, none⟩)), (.int .i64 0)])) τ50))
def s_free_New_k2 (E : EvT) (Q : RK) (c4 : Bool) (n6 : Int) (τ3 : AHeap) : Prop :=
 If c4 (
 Q (.ret (.tuple #[(.pointer none), (.int .i64 1)])) τ3) (
 pu (aMake t_bool 1 [(.bool false)] (.int .i64 n6) (.int .i64 n6) τ3) fun r8 =>
 On r8.1 (
 wNew r8.2 (.cells [r8.1, (.int .i64 n6), (.slice none 0 0), (.bool true)] t_free_Space false) fun b9 τ10 =>
 ∃ I53 : Nat → Int → AHeap → Prop, (∃ m, I53 m 0 τ10) ∧
 ∀ m (n14 : Int) (σ' : AHeap), I53 m n14 σ' → (s_free_New_b1 (fun n14 σ' => ∃ m', m' < m ∧ I53 m' n14 σ') E Q b9 n6 n14 σ')))
def s_free_New (E : EvT) (Q : RK) (x0 : Int) (σ : AHeap) : Prop :=
 If (decide (x0 < 0)) (
 (s_free_New_k2 E Q true x0 σ)) (
 (s_free_New_k2 E Q (decide (1024 < x0)) x0 σ))
theorem q_free_New (E : EvT) (Q : RK) (x0 : Int) (σ : AHeap) : xfn P E Tryz.f143 (hl [(2, .loopr [4, 17] [18] [4] [4, 18])]) (fun | 18 => (.i .i64) | _ => .v) [(.int .i64 x0)] σ Q = s_free_New E Q x0 σ := by kernel_rfl
theorem e_free_New {Q : RK} {x0 : Int} {σ : AHeap} (h : s_free_New E Q x0 σ) : E f_free_New [(.int .i64 x0)] σ Q :=
  exfn Tryz.func143 _ _ (by kernel_rfl) (Eq.mpr (q_free_New E Q x0 σ) h)
def s_free_Space_right (E : EvT) (Q : RK) (x0 : Nat) (σ : AHeap) : Prop :=
 ldB (L x0 3 σ) fun c3 =>
 Q (.ret (.bool c3)) σ
theorem q_free_Space_right (E : EvT) (Q : RK) (x0 : Nat) (σ : AHeap) : xfn P E Tryz.f128 (fun _ => none) (fun _ => .v) [(.pointer (some ⟨x0, 0, none⟩))] σ Q = s_free_Space_right E Q x0 σ := by kernel_rfl
theorem e_free_Space_right {Q : RK} {x0 : Nat} {σ : AHeap} (h : s_free_Space_right E Q x0 σ) : E f_free_Space_right [(.pointer (some ⟨x0, 0, none⟩))] σ Q :=
  exfn Tryz.func128 _ _ (by kernel_rfl) (Eq.mpr (q_free_Space_right E Q x0 σ) h)
def s_free_Space_Take_b1 (N1 : AHeap → Prop) (E : EvT) (Q : RK) (b10 : Nat) (τ11 : AHeap) : Prop :=
 om (L b10 2 τ11) fun v12 =>
 ldI .i64 (lenS v12) fun n13 =>
 If (decide (0 < n13)) (
 E f_heap_Pop [(.iface t_p_free_least (.pointer (some ⟨b10, 2, none⟩)))] τ11 (cV Q fun v20 τ19 =>
 ldI .i64 (aAssert P t_int false v20) fun n21 =>
 om (L b10 0 τ19) fun v24 =>
 om (aIndexAddr 1 v24 (.int .i64 n21)) fun v26 =>
 ldB (aLoad false 1 v26 τ19) fun c27 =>
 If c27 (
 om (L b10 0 τ19) fun v31 =>
 om (aIndexAddr 1 v31 (.int .i64 n21)) fun v33 =>
 pu (aStore 1 v33 (.bool false) τ19) fun τ34 =>
 ldI .i64 (L b10 1 τ34) fun n37 =>
 Bi (w64 (n37 - 1)) fun n38 =>
 St b10 1 (.int .i64 n38) τ34 fun τ39 =>
 Q (.ret (.tuple #[(.int .i64 n21), (.int .i64 0)])) τ39) (
 N1 τ19))) (
 Q (.ret (.tuple #[(.int .i64 0), (.int .i64 8)])) τ11)
def s_free_Space_Take (E : EvT) (Q : RK) (x0 : Nat) (σ : AHeap) : Prop :=
 E f_free_Space_right [(.pointer (some ⟨x0, 0, none⟩))] σ (cB Q fun c4 τ3 =>
 If (!c4) (
 Q (.ret (.tuple #[(.int .i64 0), (.int .i64 2)])) τ3) (
 ∃ I44 : Nat → AHeap → Prop, (∃ m, I44 m τ3) ∧
 ∀ m (σ' : AHeap), I44 m  σ' → (s_free_Space_Take_b1 (fun  σ' => ∃ m', m' < m ∧ I44 m'  σ') E Q x0  σ')))
theorem q_free_Space_Take (E : EvT) (Q : RK) (x0 : Nat) (σ : AHeap) : xfn P E Tryz.f71 (hl [(2, .loopr [0] [] [2, 3] [2, 3])]) (fun _ => .v) [(.pointer (some ⟨x0, 0, none⟩))] σ Q = s_free_Space_Take E Q x0 σ := by kernel_rfl
theorem e_free_Space_Take {Q : RK} {x0 : Nat} {σ : AHeap} (h : s_free_Space_Take E Q x0 σ) : E f_free_Space_Take [(.pointer (some ⟨x0, 0, none⟩))] σ Q :=
  exfn Tryz.func71 _ _ (by kernel_rfl) (Eq.mpr (q_free_Space_Take E Q x0 σ) h)
def s_free_Space_does_k3 (E : EvT) (Q : RK) (c10 : Bool) (v14 : Value) (b17 : Nat) (n19 : Int) (τ9 : AHeap) : Prop :=
 If c10 (
 Q (.ret (.int .i64 1)) τ9) (
 wF v14 fun g23 a24 c25 =>
 E g23 (a24 ++ [(.pointer (some ⟨b17, 0, none⟩)), (.int .i64 n19)] ++ c25) τ9 (cI Q .i64 fun n22 τ21 =>
 Q (.ret (.int .i64 n22)) τ21))
def s_free_Space_does (E : EvT) (Q : RK) (x0 : Nat) (x1 : Int) (x2 : Value) (σ : AHeap) : Prop :=
 E f_free_Space_right [(.pointer (some ⟨x0, 0, none⟩))] σ (cB Q fun c4 τ3 =>
 If (!c4) (
 Q (.ret (.int .i64 2)) τ3) (
 If (decide (x1 < 0)) (
 (s_free_Space_does_k3 E Q true x2 x0 x1 τ3)) (
 om (L x0 0 τ3) fun v26 =>
 ldI .i64 (lenS v26) fun n27 =>
 (s_free_Space_does_k3 E Q (decide (n27 ≤ x1)) x2 x0 x1 τ3))))
theorem q_free_Space_does (E : EvT) (Q : RK) (x0 : Nat) (x1 : Int) (x2 : Value) (σ : AHeap) : xfn P E Tryz.f174 (fun _ => none) (fun _ => .v) [(.pointer (some ⟨x0, 0, none⟩)), (.int .i64 x1), x2] σ Q = s_free_Space_does E Q x0 x1 x2 σ := by kernel_rfl
theorem e_free_Space_does {Q : RK} {x0 : Nat} {x1 : Int} {x2 : Value} {σ : AHeap} (h : s_free_Space_does E Q x0 x1 x2 σ) : E f_free_Space_does [(.pointer (some ⟨x0, 0, none⟩)), (.int .i64 x1), x2] σ Q :=
  exfn Tryz.func174 _ _ (by kernel_rfl) (Eq.mpr (q_free_Space_does E Q x0 x1 x2 σ) h)
def s_free_Space_claim (E : EvT) (Q : RK) (x0 : Nat) (x1 : Int) (σ : AHeap) : Prop :=
 om (L x0 0 σ) fun v3 =>
 om (aIndexAddr 1 v3 (.int .i64 x1)) fun v5 =>
 ldB (aLoad false 1 v5 σ) fun c6 =>
 If (!c6) (
 Q (.ret (.int .i64 6)) σ) (
 om (L x0 0 σ) fun v12 =>
 om (aIndexAddr 1 v12 (.int .i64 x1)) fun v15 =>
 pu (aStore 1 v15 (.bool false) σ) fun τ16 =>
 ldI .i64 (L x0 1 τ16) fun n19 =>
 Bi (w64 (n19 - 1)) fun n20 =>
 St x0 1 (.int .i64 n20) τ16 fun τ21 =>
 Q (.ret (.int .i64 0)) τ21)
theorem q_free_Space_claim (E : EvT) (Q : RK) (x0 : Nat) (x1 : Int) (σ : AHeap) : xfn P E Tryz.f177 (fun _ => none) (fun _ => .v) [(.pointer (some ⟨x0, 0, none⟩)), (.int .i64 x1)] σ Q = s_free_Space_claim E Q x0 x1 σ := by kernel_rfl
theorem e_free_Space_claim {Q : RK} {x0 : Nat} {x1 : Int} {σ : AHeap} (h : s_free_Space_claim E Q x0 x1 σ) : E f_free_Space_claim [(.pointer (some ⟨x0, 0, none⟩)), (.int .i64 x1)] σ Q :=
  exfn Tryz.func177 _ _ (by kernel_rfl) (Eq.mpr (q_free_Space_claim E Q x0 x1 σ) h)
def s_free_Space_give_k7 (E : EvT) (Q : RK) (τ34 : AHeap) : Prop :=
 Q (.ret (.int .i64 0)) τ34
def s_free_Space_give (E : EvT) (Q : RK) (x0 : Nat) (x1 : Int) (σ : AHeap) : Prop :=
 om (L x0 0 σ) fun v3 =>
 om (aIndexAddr 1 v3 (.int .i64 x1)) fun v5 =>
 ldB (aLoad false 1 v5 σ) fun c6 =>
 If c6 (
 Q (.ret (.int .i64 7)) σ) (
 om (L x0 0 σ) fun v12 =>
 om (aIndexAddr 1 v12 (.int .i64 x1)) fun v15 =>
 pu (aStore 1 v15 (.bool true) σ) fun τ16 =>
 ldI .i64 (L x0 1 τ16) fun n19 =>
 Bi (w64 (n19 + 1)) fun n20 =>
 St x0 1 (.int .i64 n20) τ16 fun τ21 =>
 om (L x0 2 τ21) fun v24 =>
 E f_slices_Contains_free_least_int [v24, (.int .i64 x1)] τ21 (cB Q fun c28 τ27 =>
 If (!c28) (
 E f_heap_Push [(.iface t_p_free_least (.pointer (some ⟨x0, 2, none⟩))), (.iface t_int (.int .i64 x1))] τ27 (c0 Q fun τ33 =>
 (s_free_Space_give_k7 E Q τ33))) (
 (s_free_Space_give_k7 E Q τ27))))
theorem q_free_Space_give (E : EvT) (Q : RK) (x0 : Nat) (x1 : Int) (σ : AHeap) : xfn P E Tryz.f175 (fun _ => none) (fun _ => .v) [(.pointer (some ⟨x0, 0, none⟩)), (.int .i64 x1)] σ Q = s_free_Space_give E Q x0 x1 σ := by kernel_rfl
theorem e_free_Space_give {Q : RK} {x0 : Nat} {x1 : Int} {σ : AHeap} (h : s_free_Space_give E Q x0 x1 σ) : E f_free_Space_give [(.pointer (some ⟨x0, 0, none⟩)), (.int .i64 x1)] σ Q :=
  exfn Tryz.func175 _ _ (by kernel_rfl) (Eq.mpr (q_free_Space_give E Q x0 x1 σ) h)
def s_free_Space_Claim (E : EvT) (Q : RK) (x0 : Nat) (x1 : Int) (σ : AHeap) : Prop :=
 E f_free_Space_does [(.pointer (some ⟨x0, 0, none⟩)), (.int .i64 x1), (.func (.func f_free_Space_claim) #[] #[])] σ (cI Q .i64 fun n5 τ4 =>
 Q (.ret (.int .i64 n5)) τ4)
theorem q_free_Space_Claim (E : EvT) (Q : RK) (x0 : Nat) (x1 : Int) (σ : AHeap) : xfn P E Tryz.f144 (fun _ => none) (fun _ => .v) [(.pointer (some ⟨x0, 0, none⟩)), (.int .i64 x1)] σ Q = s_free_Space_Claim E Q x0 x1 σ := by kernel_rfl
theorem e_free_Space_Claim {Q : RK} {x0 : Nat} {x1 : Int} {σ : AHeap} (h : s_free_Space_Claim E Q x0 x1 σ) : E f_free_Space_Claim [(.pointer (some ⟨x0, 0, none⟩)), (.int .i64 x1)] σ Q :=
  exfn Tryz.func144 _ _ (by kernel_rfl) (Eq.mpr (q_free_Space_Claim E Q x0 x1 σ) h)
def s_free_Space_Give (E : EvT) (Q : RK) (x0 : Nat) (x1 : Int) (σ : AHeap) : Prop :=
 E f_free_Space_does [(.pointer (some ⟨x0, 0, none⟩)), (.int .i64 x1), (.func (.func f_free_Space_give) #[] #[])] σ (cI Q .i64 fun n5 τ4 =>
 Q (.ret (.int .i64 n5)) τ4)
theorem q_free_Space_Give (E : EvT) (Q : RK) (x0 : Nat) (x1 : Int) (σ : AHeap) : xfn P E Tryz.f142 (fun _ => none) (fun _ => .v) [(.pointer (some ⟨x0, 0, none⟩)), (.int .i64 x1)] σ Q = s_free_Space_Give E Q x0 x1 σ := by kernel_rfl
theorem e_free_Space_Give {Q : RK} {x0 : Nat} {x1 : Int} {σ : AHeap} (h : s_free_Space_Give E Q x0 x1 σ) : E f_free_Space_Give [(.pointer (some ⟨x0, 0, none⟩)), (.int .i64 x1)] σ Q :=
  exfn Tryz.func142 _ _ (by kernel_rfl) (Eq.mpr (q_free_Space_Give E Q x0 x1 σ) h)
def s_free_least_Len (E : EvT) (Q : RK) (x0 : Value) (σ : AHeap) : Prop :=
 ldI .i64 (lenS x0) fun n3 =>
 Q (.ret (.int .i64 n3)) σ
theorem q_free_least_Len (E : EvT) (Q : RK) (x0 : Value) (σ : AHeap) : xfn P E Tryz.f217 (fun _ => none) (fun _ => .v) [x0] σ Q = s_free_least_Len E Q x0 σ := by kernel_rfl
theorem e_free_least_Len {Q : RK} {x0 : Value} {σ : AHeap} (h : s_free_least_Len E Q x0 σ) : E f_free_least_Len [x0] σ Q :=
  exfn Tryz.func217 _ _ (by kernel_rfl) (Eq.mpr (q_free_least_Len E Q x0 σ) h)
def s_free_least_Less (E : EvT) (Q : RK) (x0 : Value) (x1 x2 : Int) (σ : AHeap) : Prop :=
 om (aIndexAddr 1 x0 (.int .i64 x1)) fun v4 =>
 ldI .i64 (aLoad false 1 v4 σ) fun n5 =>
 om (aIndexAddr 1 x0 (.int .i64 x2)) fun v7 =>
 ldI .i64 (aLoad false 1 v7 σ) fun n8 =>
 Q (.ret (.bool (decide (n5 < n8)))) σ
theorem q_free_least_Less (E : EvT) (Q : RK) (x0 : Value) (x1 x2 : Int) (σ : AHeap) : xfn P E Tryz.f218 (hl [(0, .ord [(0, []), (1, []), (2, []), (3, []), (4, []), (5, []), (6, []), (7, []), (8, []), (9, [])])]) (fun _ => .v) [x0, (.int .i64 x1), (.int .i64 x2)] σ Q = s_free_least_Less E Q x0 x1 x2 σ := by kernel_rfl
theorem e_free_least_Less {Q : RK} {x0 : Value} {x1 x2 : Int} {σ : AHeap} (h : s_free_least_Less E Q x0 x1 x2 σ) : E f_free_least_Less [x0, (.int .i64 x1), (.int .i64 x2)] σ Q :=
  exfn Tryz.func218 _ _ (by kernel_rfl) (Eq.mpr (q_free_least_Less E Q x0 x1 x2 σ) h)
def s_free_least_Swap (E : EvT) (Q : RK) (x0 : Value) (x1 x2 : Int) (σ : AHeap) : Prop :=
 om (aIndexAddr 1 x0 (.int .i64 x2)) fun v1 =>
 ldI .i64 (aLoad false 1 v1 σ) fun n2 =>
 om (aIndexAddr 1 x0 (.int .i64 x1)) fun v3 =>
 ldI .i64 (aLoad false 1 v3 σ) fun n4 =>
 om (aIndexAddr 1 x0 (.int .i64 x1)) fun v5 =>
 pu (aStore 1 v5 (.int .i64 n2) σ) fun τ6 =>
 om (aIndexAddr 1 x0 (.int .i64 x2)) fun v7 =>
 pu (aStore 1 v7 (.int .i64 n4) τ6) fun τ8 =>
 Q (.ret (.tuple #[])) τ8
theorem q_free_least_Swap (E : EvT) (Q : RK) (x0 : Value) (x1 x2 : Int) (σ : AHeap) : xfn P E Tryz.f219 (hl [(0, .ord [(0, []), (1, []), (2, []), (3, []), (4, []), (5, []), (6, []), (7, []), (8, []), (9, []), (10, []), (11, []), (12, []), (13, []), (14, []), (15, [])])]) (fun _ => .v) [x0, (.int .i64 x1), (.int .i64 x2)] σ Q = s_free_least_Swap E Q x0 x1 x2 σ := by kernel_rfl
theorem e_free_least_Swap {Q : RK} {x0 : Value} {x1 x2 : Int} {σ : AHeap} (h : s_free_least_Swap E Q x0 x1 x2 σ) : E f_free_least_Swap [x0, (.int .i64 x1), (.int .i64 x2)] σ Q :=
  exfn Tryz.func219 _ _ (by kernel_rfl) (Eq.mpr (q_free_least_Swap E Q x0 x1 x2 σ) h)
def s_free_least_Push (E : EvT) (Q : RK) (x0 o0 : Nat) (x1 : Value) (σ : AHeap) : Prop :=
 om (L x0 o0 σ) fun v1 =>
 ldI .i64 (aAssert P t_int false x1) fun n2 =>
 wNew σ (.cells [(.int .i64 n2)] t_int false) fun b3 τ4 =>
 om (L x0 o0 τ4) fun v5 =>
 veq1 v5 v1 = true ∧
 pu (aAppend t_int 1 8 v1 (.slice (some ⟨b3, 0, none⟩) 1 1) τ4) fun r6 =>
 St x0 o0 r6.1 r6.2 fun τ7 =>
 Q (.ret (.tuple #[])) τ7
theorem q_free_least_Push (E : EvT) (Q : RK) (x0 o0 : Nat) (x1 : Value) (σ : AHeap) : xfn P E Tryz.f221 (hl [(0, .ord [(0, []), (1, []), (2, []), (3, []), (4, []), (5, []), (6, [3]), (7, []), (8, []), (9, [])])]) (fun _ => .v) [(.pointer (some ⟨x0, o0, none⟩)), x1] σ Q = s_free_least_Push E Q x0 o0 x1 σ := by kernel_rfl
theorem e_free_least_Push {Q : RK} {x0 o0 : Nat} {x1 : Value} {σ : AHeap} (h : s_free_least_Push E Q x0 o0 x1 σ) : E f_free_least_Push [(.pointer (some ⟨x0, o0, none⟩)), x1] σ Q :=
  exfn Tryz.func221 _ _ (by kernel_rfl) (Eq.mpr (q_free_least_Push E Q x0 o0 x1 σ) h)
def s_free_least_Pop (E : EvT) (Q : RK) (x0 o0 : Nat) (σ : AHeap) : Prop :=
 om (L x0 o0 σ) fun v4 =>
 ldI .i64 (lenS v4) fun n5 =>
 Bi (w64 (n5 - 1)) fun n6 =>
 om (L x0 o0 σ) fun v10 =>
 om (aIndexAddr 1 v10 (.int .i64 n6)) fun v12 =>
 ldI .i64 (aLoad false 1 v12 σ) fun n13 =>
 om (L x0 o0 σ) fun v17 =>
 om (aSlice 1 v17 none (some (.int .i64 n6)) none) fun v19 =>
 St x0 o0 v19 σ fun τ20 =>
 Q (.ret (.iface t_int (.int .i64 n13))) τ20
theorem q_free_least_Pop (E : EvT) (Q : RK) (x0 o0 : Nat) (σ : AHeap) : xfn P E Tryz.f220 (fun _ => none) (fun _ => .v) [(.pointer (some ⟨x0, o0, none⟩))] σ Q = s_free_least_Pop E Q x0 o0 σ := by kernel_rfl
theorem e_free_least_Pop {Q : RK} {x0 o0 : Nat} {σ : AHeap} (h : s_free_least_Pop E Q x0 o0 σ) : E f_free_least_Pop [(.pointer (some ⟨x0, o0, none⟩))] σ Q :=
  exfn Tryz.func220 _ _ (by kernel_rfl) (Eq.mpr (q_free_least_Pop E Q x0 o0 σ) h)
def s_heap_Init_b1 (N1 : Int → AHeap → Prop) (E : EvT) (Q : RK) (v11 : Value) (n13 n8 : Int) (τ14 : AHeap) : Prop :=
 If (decide (0 ≤ n8)) (
 E f_heap_down [v11, (.int .i64 n8), (.int .i64 n13)] τ14 (cB Q fun c25 τ24 =>
 Bi (w64 (n8 - 1)) fun n28 =>
 N1 n28 τ24)) (
 Q (.ret (.tuple #[])) τ14)
def s_heap_Init (E : EvT) (Q : RK) (x0 : Value) (σ : AHeap) : Prop :=
 pu (aMethod P x0 "Len" σ) fun r31 =>
 E r31.1 (r31.2 :: []) σ (cI Q .i64 fun n2 τ1 =>
 Bi (w64 (Int.tdiv n2 2)) fun n5 =>
 Bi (w64 (n5 - 1)) fun n6 =>
 ∃ I29 : Nat → Int → AHeap → Prop, (∃ m, I29 m n6 τ1) ∧
 ∀ m (n8 : Int) (σ' : AHeap), I29 m n8 σ' → (s_heap_Init_b1 (fun n8 σ' => ∃ m', m' < m ∧ I29 m' n8 σ') E Q x0 n2 n8 σ'))
theorem q_heap_Init (E : EvT) (Q : RK) (x0 : Value) (σ : AHeap) : xfn P E Tryz.f176 (hl [(1, .loopr [0, 2] [3] [] [3])]) (fun | 3 => (.i .i64) | _ => .v) [x0] σ Q = s_heap_Init E Q x0 σ := by kernel_rfl
theorem e_heap_Init {Q : RK} {x0 : Value} {σ : AHeap} (h : s_heap_Init E Q x0 σ) : E f_heap_Init [x0] σ Q :=
  exfn Tryz.func176 _ _ (by kernel_rfl) (Eq.mpr (q_heap_Init E Q x0 σ) h)
def s_heap_Pop (E : EvT) (Q : RK) (x0 : Value) (σ : AHeap) : Prop :=
 pu (aMethod P x0 "Len" σ) fun r21 =>
 E r21.1 (r21.2 :: []) σ (cI Q .i64 fun n4 τ3 =>
 Bi (w64 (n4 - 1)) fun n5 =>
 pu (aMethod P x0 "Swap" τ3) fun r20 =>
 E r20.1 (r20.2 :: [(.int .i64 0), (.int .i64 n5)]) τ3 (c0 Q fun τ9 =>
 E f_heap_down [x0, (.int .i64 0), (.int .i64 n5)] τ9 (cB Q fun c14 τ13 =>
 pu (aMethod P x0 "Pop" τ13) fun r19 =>
 E r19.1 (r19.2 :: []) τ13 (cV Q fun v18 τ17 =>
 Q (.ret v18) τ17))))
theorem q_heap_Pop (E : EvT) (Q : RK) (x0 : Value) (σ : AHeap) : xfn P E Tryz.f129 (fun _ => none) (fun _ => .v) [x0] σ Q = s_heap_Pop E Q x0 σ := by kernel_rfl
theorem e_heap_Pop {Q : RK} {x0 : Value} {σ : AHeap} (h : s_heap_Pop E Q x0 σ) : E f_heap_Pop [x0] σ Q :=
  exfn Tryz.func129 _ _ (by kernel_rfl) (Eq.mpr (q_heap_Pop E Q x0 σ) h)
def s_heap_Push (E : EvT) (Q : RK) (x0 x1 : Value) (σ : AHeap) : Prop :=
 pu (aMethod P x0 "Push" σ) fun r9 =>
 E r9.1 (r9.2 :: [x1]) σ (c0 Q fun τ1 =>
 pu (aMethod P x0 "Len" τ1) fun r8 =>
 E r8.1 (r8.2 :: []) τ1 (cI Q .i64 fun n5 τ4 =>
 Bi (w64 (n5 - 1)) fun n6 =>
 E f_heap_up [x0, (.int .i64 n6)] τ4 (c0 Q fun τ7 =>
 Q (.ret (.tuple #[])) τ7)))
theorem q_heap_Push (E : EvT) (Q : RK) (x0 x1 : Value) (σ : AHeap) : xfn P E Tryz.f160 (fun _ => none) (fun _ => .v) [x0, x1] σ Q = s_heap_Push E Q x0 x1 σ := by kernel_rfl
theorem e_heap_Push {Q : RK} {x0 x1 : Value} {σ : AHeap} (h : s_heap_Push E Q x0 x1 σ) : E f_heap_Push [x0, x1] σ Q :=
  exfn Tryz.func160 _ _ (by kernel_rfl) (Eq.mpr (q_heap_Push E Q x0 x1 σ) h)
def s_heap_down_k5 (E : EvT) (Q : RK) (n26 n27 : Int) (τ25 : AHeap) : Prop :=
 Q (.ret (.bool (decide (n27 < n26)))) τ25
def s_heap_down_k10 (N1 : Int → AHeap → Prop) (E : EvT) (Q : RK) (v53 : Value) (n54 n59 n68 : Int) (τ51 : AHeap) : Prop :=
 pu (aMethod P v53 "Less" τ51) fun r83 =>
 E r83.1 (r83.2 :: [(.int .i64 n54), (.int .i64 n59)]) τ51 (cB Q fun c61 τ60 =>
 If (!c61) (
 (s_heap_down_k5 E Q n59 n68 τ60)) (
 pu (aMethod P v53 "Swap" τ60) fun r82 =>
 E r82.1 (r82.2 :: [(.int .i64 n59), (.int .i64 n54)]) τ60 (c0 Q fun τ77 =>
 N1 n54 τ77)))
def s_heap_down_k9 (N1 : Int → AHeap → Prop) (E : EvT) (Q : RK) (c49 : Bool) (n50 : Int) (v52 : Value) (n58 n67 n86 : Int) (τ48 : AHeap) : Prop :=
 If c49 (
 (s_heap_down_k10 N1 E Q v52 n50 n58 n67 τ48)) (
 (s_heap_down_k10 N1 E Q v52 n86 n58 n67 τ48))
def s_heap_down_k4 (N1 : Int → AHeap → Prop) (E : EvT) (Q : RK) (c20 : Bool) (n22 n24 n29 n36 : Int) (v41 : Value) (τ19 : AHeap) : Prop :=
 If c20 (
 (s_heap_down_k5 E Q n24 n22 τ19)) (
 Bi (w64 (n29 + 1)) fun n33 =>
 If (decide (n33 < n36)) (
 pu (aMethod P v41 "Less" τ19) fun r87 =>
 E r87.1 (r87.2 :: [(.int .i64 n33), (.int .i64 n29)]) τ19 (cB Q fun c47 τ46 =>
 (s_heap_down_k9 N1 E Q c47 n33 v41 n24 n22 n29 τ46))) (
 (s_heap_down_k9 N1 E Q false n33 v41 n24 n22 n29 τ19)))
def s_heap_down_b1 (N1 : Int → AHeap → Prop) (E : EvT) (Q : RK) (v7 : Value) (n9 n12 n4 : Int) (τ13 : AHeap) : Prop :=
 Bi (w64 (2 * n4)) fun n14 =>
 Bi (w64 (n14 + 1)) fun n15 =>
 If (decide (n12 ≤ n15)) (
 (s_heap_down_k4 N1 E Q true n9 n4 n15 n12 v7 τ13)) (
 (s_heap_down_k4 N1 E Q (decide (n15 < 0)) n9 n4 n15 n12 v7 τ13))
def s_heap_down (E : EvT) (Q : RK) (x0 : Value) (x1 x2 : Int) (σ : AHeap) : Prop :=
 ∃ I88 : Nat → Int → AHeap → Prop, (∃ m, I88 m x1 σ) ∧
 ∀ m (n4 : Int) (σ' : AHeap), I88 m n4 σ' → (s_heap_down_b1 (fun n4 σ' => ∃ m', m' < m ∧ I88 m' n4 σ') E Q x0 x1 x2 n4 σ')
theorem q_heap_down (E : EvT) (Q : RK) (x0 : Value) (x1 x2 : Int) (σ : AHeap) : xfn P E Tryz.f165 (hl [(1, .loopr [0, 1, 2] [7] [1, 7] [1, 7])]) (fun | 7 => (.i .i64) | _ => .v) [x0, (.int .i64 x1), (.int .i64 x2)] σ Q = s_heap_down E Q x0 x1 x2 σ := by kernel_rfl
theorem e_heap_down {Q : RK} {x0 : Value} {x1 x2 : Int} {σ : AHeap} (h : s_heap_down E Q x0 x1 x2 σ) : E f_heap_down [x0, (.int .i64 x1), (.int .i64 x2)] σ Q :=
  exfn Tryz.func165 _ _ (by kernel_rfl) (Eq.mpr (q_heap_down E Q x0 x1 x2 σ) h)
def s_heap_up_k2 (N1 : Int → AHeap → Prop) (E : EvT) (Q : RK) (c10 : Bool) (n11 : Int) (v14 : Value) (n16 : Int) (τ9 : AHeap) : Prop :=
 If c10 (
 Q (.ret (.tuple #[])) τ9) (
 pu (aMethod P v14 "Swap" τ9) fun r22 =>
 E r22.1 (r22.2 :: [(.int .i64 n16), (.int .i64 n11)]) τ9 (c0 Q fun τ19 =>
 N1 n16 τ19))
def s_heap_up_b1 (N1 : Int → AHeap → Prop) (E : EvT) (Q : RK) (v2 : Value) (n1 : Int) (τ3 : AHeap) : Prop :=
 Bi (w64 (n1 - 1)) fun n4 =>
 Bi (w64 (Int.tdiv n4 2)) fun n5 =>
 If (decide (n5 = n1)) (
 (s_heap_up_k2 N1 E Q true n1 v2 n5 τ3)) (
 pu (aMethod P v2 "Less" τ3) fun r25 =>
 E r25.1 (r25.2 :: [(.int .i64 n1), (.int .i64 n5)]) τ3 (cB Q fun c24 τ23 =>
 (s_heap_up_k2 N1 E Q (!c24) n1 v2 n5 τ23)))
def s_heap_up (E : EvT) (Q : RK) (x0 : Value) (x1 : Int) (σ : AHeap) : Prop :=
 ∃ I26 : Nat → Int → AHeap → Prop, (∃ m, I26 m x1 σ) ∧
 ∀ m (n1 : Int) (σ' : AHeap), I26 m n1 σ' → (s_heap_up_b1 (fun n1 σ' => ∃ m', m' < m ∧ I26 m' n1 σ') E Q x0 n1 σ')
theorem q_heap_up (E : EvT) (Q : RK) (x0 : Value) (x1 : Int) (σ : AHeap) : xfn P E Tryz.f186 (hl [(1, .loopr [0] [1] [] [1])]) (fun | 1 => (.i .i64) | _ => .v) [x0, (.int .i64 x1)] σ Q = s_heap_up E Q x0 x1 σ := by kernel_rfl
theorem e_heap_up {Q : RK} {x0 : Value} {x1 : Int} {σ : AHeap} (h : s_heap_up E Q x0 x1 σ) : E f_heap_up [x0, (.int .i64 x1)] σ Q :=
  exfn Tryz.func186 _ _ (by kernel_rfl) (Eq.mpr (q_heap_up E Q x0 x1 σ) h)
def s_slices_Contains_free_least_int (E : EvT) (Q : RK) (x0 : Value) (x1 : Int) (σ : AHeap) : Prop :=
 E f_slices_Index_free_least_int [x0, (.int .i64 x1)] σ (cI Q .i64 fun n5 τ4 =>
 Q (.ret (.bool (decide (0 ≤ n5)))) τ4)
theorem q_slices_Contains_free_least_int (E : EvT) (Q : RK) (x0 : Value) (x1 : Int) (σ : AHeap) : xfn P E Tryz.f189 (fun _ => none) (fun _ => .v) [x0, (.int .i64 x1)] σ Q = s_slices_Contains_free_least_int E Q x0 x1 σ := by kernel_rfl
theorem e_slices_Contains_free_least_int {Q : RK} {x0 : Value} {x1 : Int} {σ : AHeap} (h : s_slices_Contains_free_least_int E Q x0 x1 σ) : E f_slices_Contains_free_least_int [x0, (.int .i64 x1)] σ Q :=
  exfn Tryz.func189 _ _ (by kernel_rfl) (Eq.mpr (q_slices_Contains_free_least_int E Q x0 x1 σ) h)
def s_slices_Index_free_least_int_b1 (N1 : Int → AHeap → Prop) (E : EvT) (Q : RK) (v7 : Value) (n10 n12 n5 : Int) (τ13 : AHeap) : Prop :=
 If (decide (n5 < n12)) (
 om (aIndexAddr 1 v7 (.int .i64 n5)) fun v27 =>
 ldI .i64 (aLoad false 1 v27 τ13) fun n28 =>
 If (decide (n10 = n28)) (
 Q (.ret (.int .i64 n5)) τ13) (
 Bi (w64 (n5 + 1)) fun n36 =>
 N1 n36 τ13)) (
 Q (.ret (.int .i64 ((-1)))) τ13)
def s_slices_Index_free_least_int (E : EvT) (Q : RK) (x0 : Value) (x1 : Int) (σ : AHeap) : Prop :=
 ldI .i64 (lenS x0) fun n3 =>
 ∃ I38 : Nat → Int → AHeap → Prop, (∃ m, I38 m 0 σ) ∧
 ∀ m (n5 : Int) (σ' : AHeap), I38 m n5 σ' → (s_slices_Index_free_least_int_b1 (fun n5 σ' => ∃ m', m' < m ∧ I38 m' n5 σ') E Q x0 x1 n3 n5 σ')
theorem q_slices_Index_free_least_int (E : EvT) (Q : RK) (x0 : Value) (x1 : Int) (σ : AHeap) : xfn P E Tryz.f193 (hl [(1, .loopr [0, 1, 7] [8] [4] [4, 8])]) (fun | 8 => (.i .i64) | _ => .v) [x0, (.int .i64 x1)] σ Q = s_slices_Index_free_least_int E Q x0 x1 σ := by kernel_rfl
theorem e_slices_Index_free_least_int {Q : RK} {x0 : Value} {x1 : Int} {σ : AHeap} (h : s_slices_Index_free_least_int E Q x0 x1 σ) : E f_slices_Index_free_least_int [x0, (.int .i64 x1)] σ Q :=
  exfn Tryz.func193 _ _ (by kernel_rfl) (Eq.mpr (q_slices_Index_free_least_int E Q x0 x1 σ) h)
end Go.Ax.C
set_option maxRecDepth 100000
namespace Go.Ax.C
open Go.Proofs Go.RowKit
variable {l r m : List Assn} {σ : AHeap} {Q : RK}
def nv (xs : List Nat) : List Value := xs.map fun n => .int .i64 (n : Nat)
@[simp] theorem nv_len (xs : List Nat) : (nv xs).length = xs.length := by simp [nv]
theorem nv_get (xs : List Nat) (i : Nat) : (nv xs)[i]? = xs[i]?.map fun n => .int .i64 (n : Nat) := by simp [nv]
theorem nv_set (xs : List Nat) (i n : Nat) : nv (xs.set i n) = (nv xs).set i (.int .i64 (n : Nat)) := by simp [nv, List.map_set]
theorem nel {e : Nat} {v : Value} {xs : List Nat} {i x : Nat} (h : H (Own e 1 v xs.length (nv xs) :: l) σ) (hi : xs[i]? = some x) :
    ∃ b c, v = .slice (some ⟨b, 0, none⟩) xs.length c ∧ (∀ kd, aIndexAddr 1 v (.int kd (i : Nat)) = some (.pointer (some ⟨b, i, none⟩))) ∧ aLoad false 1 (.pointer (some ⟨b, i, none⟩)) σ = some (.int .i64 x) := by
  have hlt := (List.getElem?_eq_some_iff.1 hi).1
  rcases H_own.1 h with ⟨⟨h0, _⟩, _⟩ | ⟨b, c, opn, rest, h1, h2, h3, rfl, h4, h5⟩
  · omega
  · refine ⟨b, c, rfl, fun kd => by rw [idxA (by omega)]; simp, ?_⟩
    rw [load1 (h1.row 0 rfl), List.getElem?_append_left (by simpa using hlt), nv_get, hi]; rfl
theorem hless {hv : Value} {xs : List Nat} {i j x y : Nat} (h : H (Own t_int 1 hv xs.length (nv xs) :: l) σ) (hi : xs[i]? = some x) (hj : xs[j]? = some y) (hQ : Q (.ret (.bool (decide (x < y)))) σ) : E f_free_least_Less [hv, .int .i64 i, .int .i64 j] σ Q := by
  apply e_free_least_Less; unfold s_free_least_Less
  obtain ⟨b, c, hvv, ia, la⟩ := nel h hi
  obtain ⟨b2, c2, hvv2, ib, lb⟩ := nel h hj
  rw [ia, om_some, la, ldI_some, ib, om_some, lb, ldI_some]
  have e : decide ((x : Int) < (y : Int)) = decide (x < y) := by by_cases g : x < y <;> simp [g]
  rw [e]; exact hQ
theorem nset {e : Nat} {v : Value} {xs : List Nat} {i y : Nat} {K : AHeap → Prop} (h : H (Own e 1 v xs.length (nv xs) :: l) σ) (hi : i < xs.length) (hK : ∀ σ', H (Own e 1 v (xs.set i y).length (nv (xs.set i y)) :: l) σ' → K σ') :
    om (aIndexAddr 1 v (.int .i64 (i : Nat))) fun p => pu (aStore 1 p (.int .i64 (y : Nat)) σ) K := by
  obtain ⟨b, c, rfl, ia, _⟩ := nel h (List.getElem?_eq_getElem hi)
  rw [ia, om_some]
  refine store_own h 0 rfl (by omega) rfl (by simpa using hi) ?_
  intro σ' h'
  rw [List.set_cons_zero, ← nv_set] at h'
  refine hK σ' ?_
  rw [List.length_set]; exact h'
theorem hswap {hv : Value} {xs : List Nat} {i j : Nat} (h : H (Own t_int 1 hv xs.length (nv xs) :: l) σ) (hi : i < xs.length) (hj : j < xs.length)
    (hQ : ∀ σ', H (Own t_int 1 hv xs.length (nv (swp xs i j)) :: l) σ' → Q (.ret (.tuple #[])) σ') : E f_free_least_Swap [hv, .int .i64 i, .int .i64 j] σ Q := by
  apply e_free_least_Swap; unfold s_free_least_Swap
  obtain ⟨b, c, hvv, ia, la⟩ := nel h (List.getElem?_eq_getElem hi)
  obtain ⟨b2, c2, hvv2, ib, lb⟩ := nel h (List.getElem?_eq_getElem hj)
  rw [ib, om_some, lb, ldI_some, ia, om_some, la, ldI_some, ← ia .i64, ← ib .i64]
  refine nset h hi ?_
  intro σ1 h1
  refine nset h1 (by simpa using hj) ?_
  intro σ2 h2
  refine hQ σ2 ?_
  rw [swp_eq hi hj]
  simpa using h2
theorem fm_len (v : Value) (σ : AHeap) : aMethod P (.iface t_p_free_least v) "Len" σ = (aLoad false 1 v σ).bind fun u => some (f_free_least_Len, u) := by kernel_rfl
theorem fm_less (v : Value) (σ : AHeap) : aMethod P (.iface t_p_free_least v) "Less" σ = (aLoad false 1 v σ).bind fun u => some (f_free_least_Less, u) := by kernel_rfl
theorem fm_swap (v : Value) (σ : AHeap) : aMethod P (.iface t_p_free_least v) "Swap" σ = (aLoad false 1 v σ).bind fun u => some (f_free_least_Swap, u) := by kernel_rfl
theorem fm_pop (v : Value) (σ : AHeap) : aMethod P (.iface t_p_free_least v) "Pop" σ = some (f_free_least_Pop, v) := by kernel_rfl
theorem fm_push (v : Value) (σ : AHeap) : aMethod P (.iface t_p_free_least v) "Push" σ = some (f_free_least_Push, v) := by kernel_rfl
abbrev SpL (sb : Nat) (isv cnt hv q : Value) (xs : List Nat) (l : List Assn) : List Assn := pt sb (.cells [isv, cnt, hv, q] t_free_Space false) :: Own t_int 1 hv xs.length (nv xs) :: l
theorem own_len {e z : Nat} {v : Value} {n : Nat} {xs : List Value} (h : H (Own e z v n xs :: l) σ) : lenS v = some (.int .i64 n) := by
  obtain ⟨_, _, a, c, rfl⟩ := h.own_src 0 rfl; rfl
theorem flen {hv : Value} {n : Nat} (h : lenS hv = some (.int .i64 n)) (hQ : Q (.ret (.int .i64 n)) σ) : E f_free_least_Len [hv] σ Q := by
  apply e_free_least_Len; unfold s_free_least_Len
  rw [h, ldI_some]; exact hQ
end Go.Ax.C
set_option maxRecDepth 100000
namespace Go.Ax.C
open Go.Proofs Go.RowKit
variable {l r m : List Assn} {σ : AHeap} {Q : RK}
abbrev KyN (R : List Nat) (k : Nat) : Nat := Ky (id : Nat → Nat) R k
theorem KyN_some {R : List Nat} {k x : Nat} (h : R[k]? = some x) : Ky (id : Nat → Nat) R k = x := by unfold Ky; rw [h]; rfl
def hpV (sb : Nat) : Value := .iface t_p_free_least (.pointer (some ⟨sb, 2, none⟩))
theorem sp_load {sb : Nat} {isv cnt hv q : Value} {xs : List Nat} (h : H (SpL sb isv cnt hv q xs l) σ) : aLoad false 1 (.pointer (some ⟨sb, 2, none⟩)) σ = some hv := by
  rw [load1 (h.row 0 rfl)]; rfl
theorem hdown {sb n i0 : Nat} {isv cnt hv q : Value} {R0 : List Nat} (h : H (SpL sb isv cnt hv q R0 l) σ) (hn : n ≤ R0.length) (hb : R0.length < 1099511627776) (hi0 : i0 ≤ n) (hex : HeapEx (id : Nat → Nat) R0 n i0)
    (hk : ∀ (R' : List Nat) (b : Bool) σ', R'.Perm R0 → HeapOk (id : Nat → Nat) R' n → (∀ k, n ≤ k → R'[k]? = R0[k]?) → H (SpL sb isv cnt hv q R' l) σ' → Q (.ret (.bool b)) σ') :
    E f_heap_down [hpV sb, .int .i64 i0, .int .i64 n] σ Q := by
  apply e_heap_down; unfold s_heap_down
  refine ⟨fun m i τ => ∃ (R : List Nat) (k : Nat), i = k ∧ m = n - k ∧ k ≤ n ∧ R.Perm R0 ∧ HeapEx (id : Nat → Nat) R n k ∧ (∀ t, n ≤ t → R[t]? = R0[t]?) ∧ H (SpL sb isv cnt hv q R l) τ,
    ⟨_, R0, i0, rfl, rfl, hi0, List.Perm.refl _, hex, fun _ _ => rfl, h⟩, ?_⟩
  clear h hex
  rintro m _ τ ⟨R, i, rfl, rfl, hin, hp, hex, htl, h⟩
  have hRl := hp.length_eq
  have k5 : (∀ k, 0 < k → k < n → (k - 1) / 2 = i → Ky (id : Nat → Nat) R i ≤ Ky (id : Nat → Nat) R k) → ∀ τ', H (SpL sb isv cnt hv q R l) τ' → s_heap_down_k5 E Q i i0 τ' := by
    intro hmin τ' h'
    unfold s_heap_down_k5
    exact hk R _ τ' hp (hex.done hmin) htl h'
  unfold s_heap_down_b1
  refine b64 (2 * (i : Int)) (by omega) ?_
  refine b64 ((2 * i + 1 : Nat) : Int) (by omega) ?_
  refine If_dec (fun g => ?_) fun g => ?_
  · unfold s_heap_down_k4
    refine If_t rfl ?_
    exact k5 (fun k h0 hk2 hp2 => by omega) τ h
  · have hlt : decide (((2 * i + 1 : Nat) : Int) < 0) = false := decide_eq_false (by omega)
    rw [hlt]
    unfold s_heap_down_k4
    refine If_f rfl ?_
    refine b64 ((2 * i + 2 : Nat) : Int) (by omega) ?_
    have hj1 : 2 * i + 1 < n := by omega
    have x1 := List.getElem?_eq_getElem (show 2 * i + 1 < R.length by omega)
    have xi := List.getElem?_eq_getElem (show i < R.length by omega)
    -- with the least child
    have k10 : ∀ j, j < n → (j - 1) / 2 = i → 0 < j → (∀ k, 0 < k → k < n → (k - 1) / 2 = i → Ky (id : Nat → Nat) R j ≤ Ky (id : Nat → Nat) R k) → s_heap_down_k10 (fun n4 σ' => ∃ m', m' < n - i ∧ ∃ (R : List Nat) (k : Nat), n4 = k ∧ m' = n - k ∧ k ≤ n ∧ R.Perm R0 ∧ HeapEx (id : Nat → Nat) R n k ∧ (∀ t, n ≤ t → R[t]? = R0[t]?) ∧ H (SpL sb isv cnt hv q R l) σ') E Q (hpV sb) j i i0 τ := by
      intro j hjn hpj hj0 hmin
      have xj := List.getElem?_eq_getElem (show j < R.length by omega)
      unfold s_heap_down_k10
      unfold hpV
      rw [fm_less, sp_load h, Option.bind_some, pu_some]
      have h' := h.perm (.swap _ _ _)
      refine hless h' xj xi ?_
      rw [cB_ret]
      by_cases hl : R[j] < R[i]
      · rw [decide_eq_true hl]
        refine If_f rfl ?_
        rw [fm_swap, sp_load h, Option.bind_some, pu_some]
        refine hswap h' (by omega) (by omega) ?_
        intro τ1 h1
        rw [c0_ret]
        refine ⟨n - j, by omega, swp R i j, j, rfl, rfl, by omega, (swp_perm R (by omega) (by omega)).trans hp, hex.step (by omega) hjn hpj hj0 hmin (by rw [KyN_some xj, KyN_some xi]; exact hl), fun k hk2 => ?_, ?_⟩
        · rw [swp_get (by omega) (by omega), if_neg (by omega), if_neg (by omega)]
          exact htl k hk2
        · have := h1.perm (.swap _ _ _)
          rw [← swp_length R i j] at this
          exact this
      · rw [decide_eq_false hl]
        refine If_t rfl ?_
        refine k5 (fun k h0 hk2 hp2 => ?_) τ h
        have := hmin k h0 hk2 hp2
        rw [KyN_some xj] at this
        rw [KyN_some xi]; omega
    refine If_dec (fun h2 => ?_) (fun h2 => ?_)
    · have h2 : 2 * i + 2 < n := by omega
      have x2 := List.getElem?_eq_getElem (show 2 * i + 2 < R.length by omega)
      show pu (aMethod P (hpV sb) "Less" τ) _
      unfold hpV
      rw [fm_less, sp_load h, Option.bind_some, pu_some]
      refine hless (h.perm (.swap _ _ _)) x2 x1 ?_
      rw [cB_ret]
      unfold s_heap_down_k9
      refine If_dec (fun g2 => ?_) fun g2 => ?_
      · refine k10 (2 * i + 2) h2 (by omega) (by omega) ?_
        intro k h0 hk2 hp2
        rcases (show k = 2 * i + 1 ∨ k = 2 * i + 2 by omega) with rfl | rfl
        · rw [KyN_some x1, KyN_some x2]; omega
        · exact Nat.le_refl _
      · refine k10 (2 * i + 1) hj1 (by omega) (by omega) ?_
        intro k h0 hk2 hp2
        rcases (show k = 2 * i + 1 ∨ k = 2 * i + 2 by omega) with rfl | rfl
        · exact Nat.le_refl _
        · rw [KyN_some x1, KyN_some x2]; omega
    · unfold s_heap_down_k9
      refine If_f rfl ?_
      refine k10 (2 * i + 1) hj1 (by omega) (by omega) ?_
      intro k h0 hk2 hp2
      have : k = 2 * i + 1 := by omega
      rw [this]; exact Nat.le_refl _
end Go.Ax.C
