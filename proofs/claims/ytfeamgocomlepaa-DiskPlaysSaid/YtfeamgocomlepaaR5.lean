/- DiskPlays on the abstract heap. No statement of the seat is proved here. -/
import Derived.Test.YtfeamgocomlepaaR4
import Derived.Test.YtfeamgocomlepaaK3
set_option maxRecDepth 100000
namespace Go.Ax.YtfeamgocomlepaaC
open Go.Proofs Go.RowKit

variable {l m : List Assn} {σ : AHeap}

/-! ### alike -/
theorem alike_k2 {Q : WK} {d r : Value} {D : DM} {n : Nat} {I0 : Assn} (h : H [Disk d D, RDisk n r D, I0] σ) (hD : D.Ok n) (hm : D.fly.length < 1099511627776) (hk : ∀ σ', H [Disk d D, RDisk n r D, I0] σ' → Q (.bool true) σ') : s35k2 Q (.bool false) d r σ := by
  unfold s35k2
  simp
  refine diskcopy_ok h 0 rfl hD hm ?_
  intro w1 σ1 h1
  refine rcopy_ok h1 1 rfl hD hm ?_
  intro w2 σ2 h2
  refine crash_ok (picks := []) h2 3 rfl hD hm (fun _ _ => Rd.nil _ _) ?_
  intro σ3 h3
  refine rcrash_ok (pk := []) h3 4 rfl hD hm (fun _ _ => Rd.nil _ _) ?_
  intro σ4 h4
  have hDc := crash_Ok hD []
  have hoff : (D.crash []).off = false := rfl
  have hfly : (D.crash []).fly = [] := rfl
  generalize D.crash [] = Dc at h3 h4 hDc hoff hfly
  obtain ⟨b, sa, sc, la, lc, rfl, hrow⟩ := rdisk_row h4 1 rfl
  have r4 := load1 (n := 1) (o := 4) hrow
  simp [r4]
  have hn := hD.lo
  have hn2 := hD.hi
  let J : List Assn := [Disk d D, RDisk n (.pointer (some ⟨b, 0, none⟩)) D, I0, Disk w1 Dc, RDisk n w2 Dc]
  refine ⟨fun m x5 x6 x49 x50 τ => ∃ k : Nat, m = n - k ∧ k ≤ n ∧ w1 = x5 ∧ w2 = x6 ∧ x49 = .int .i64 n ∧ x50 = .int .i64 k ∧ H J τ, ⟨_, 0, rfl, by omega, rfl, rfl, rfl, rfl, h4⟩, ?_⟩
  clear h h1 h2 h3 h4 hrow r4
  rintro m _ _ _ _ τ ⟨k, rfl, hkn, rfl, rfl, rfl, rfl, h⟩
  suffices hb : ∀ N : Value → Value → Value → Value → AHeap → Prop, (∀ τ', k < n → H J τ' → N w1 w2 (.int .i64 n) (.int .i64 (k + 1 : Nat)) τ') → s35b1 N Q w1 w2 (.int .i64 n) (.int .i64 k) τ from
    hb _ fun τ' hlt h' => ⟨_, by omega, k + 1, rfl, by omega, rfl, rfl, rfl, rfl, h'⟩
  intro N hN
  unfold s35b1
  simp
  refine wC_dec (fun g1 => ?_) fun g1 => ?_
  · have hr := ready_in hDc (a := k) g1
    rw [hoff] at hr
    simp only [Bool.false_eq_true, if_false] at hr
    refine read_yes h 3 rfl hDc (by rw [hfly]; simp) hr ?_
    intro a τ1 h1
    simp
    refine rread_yes h1 4 rfl hDc (by rw [hfly]; simp) hr ?_
    intro c τ2 h2
    simp
    obtain ⟨s1, _, aa, ac, rfl⟩ := h2.own_src 5 rfl
    obtain ⟨s2, _, ca, cc, rfl⟩ := h2.own_src 6 rfl
    refine equal_ok s1 s2 ?_
    simp
    unfold s35k13
    simp
    rw [wrap_i64 (by omega)]
    exact hN τ2 g1 (h2.pick [0, 1, 2, 3, 4] (by decide))
  · exact hk τ (h.pick [0, 1, 2] (by decide))
theorem alike_ok {Q : WK} {d r : Value} {D : DM} {n : Nat} {I0 : Assn} (h : H [Disk d D, RDisk n r D, I0] σ) (hD : D.Ok n) (hm : D.fly.length < 1099511627776) (hk : ∀ σ', H [Disk d D, RDisk n r D, I0] σ' → Q (.bool true) σ') : E 35 [d, r] σ Q := by
  apply s35_ev; unfold s35
  obtain ⟨b, sa, sc, la, lc, rfl, hrow⟩ := rdisk_row h 1 rfl
  have r1 := load1 (n := 1) (o := 1) hrow
  have r3 := load1 (n := 1) (o := 3) hrow
  have r4 := load1 (n := 1) (o := 4) hrow
  have hlen := hD.len
  have hn2 := hD.hi
  simp [r3]
  refine off_ok h 0 rfl ?_
  simp [r3, r1, veq1, veq, veq0]
  refine flight_ok h 0 rfl ?_
  simp [r1, r4, veq1, veq, veq0]
  refine blocks_ok h 0 rfl (by omega) ?_
  have : D.last.length / 256 = n := by omega
  rw [this]
  simp [r4, veq1, veq, veq0]
  exact alike_k2 h hD hm hk

/-! ### What is told is spoilt -/
theorem u8_by8 (n : Int) : ∃ b : UInt8, Value.int .u8 (IntKind.u8.wrap n) = by8 b := by
  have : 0 ≤ IntKind.u8.wrap n ∧ IntKind.u8.wrap n < 256 := by
    simp [IntKind.wrap, IntKind.bits, IntKind.signed]; omega
  refine ⟨UInt8.ofNat (IntKind.u8.wrap n).toNat, ?_⟩
  simp only [by8, UInt8.toNat_ofNat']
  congr 1
  omega
theorem xor_ok {e k n : Nat} {v : Value} {xs : List UInt8} {Q : AHeap → Prop} {op : Value → Option Value} (h : H l σ) (i : Nat) (hi : l[i]? = some (Own e 1 v n (bv xs))) (hk : k < n) (hop : ∀ b : UInt8, ∃ c : UInt8, op (by8 b) = some (by8 c))
    (hQ : ∀ xs' σ', H (l.set i (Own e 1 v n (bv xs'))) σ' → Q σ') :
    pu (aIndexAddr 1 v (.int .i64 k)) fun p => pu (aLoad false 1 p σ) fun x => pu (op x) fun y => pu (aIndexAddr 1 v (.int .i64 k)) fun p => pu (aStore 1 p y σ) Q := by
  obtain ⟨b, c, rfl, hc, rest, hrow⟩ := h.own_form i hi (by omega)
  have hx := (h.own_src i hi).2.1
  simp only [Nat.mul_one, bv_length] at hx
  rw [idxA (by omega)]
  simp only [pu_some, Int.toNat_natCast, Nat.mul_one, Nat.zero_add]
  rw [load1 hrow, List.getElem?_append_left (by simp; omega), bv_get, List.getElem?_eq_getElem (show k < xs.length by omega)]
  simp only [Option.map_some, pu_some]
  obtain ⟨y, hy⟩ := hop xs[k]
  rw [hy, pu_some]
  refine store_own h i hi (by omega) rfl (by simp; omega) ?_
  intro σ1 h1
  rw [bv_set] at h1
  exact hQ _ _ h1
theorem xor_op (b : UInt8) : ∃ c : UInt8, aBin (some (.int .u8)) .xor (by8 b) (.int .u8 255) = some (by8 c) := by
  obtain ⟨c, hc⟩ := u8_by8 (BitVec.ofInt IntKind.u8.bits (b.toNat : Int) ^^^ BitVec.ofInt IntKind.u8.bits 255).toNat
  refine ⟨c, ?_⟩
  rw [← hc]
  simp only [by8, bin_xor]
end Go.Ax.YtfeamgocomlepaaC
