/- Contracts of the tests' own functions: what an act writes, a block's sectors. No statement of the seat is proved here. -/
import Derived.Test.YtfeamgocomlepaaL1
set_option maxRecDepth 100000
namespace Go.Ax.YtfeamgocomlepaaC
open Go.Proofs Go.RowKit

variable {l : List Assn} {σ : AHeap} {Q : WK}

theorem rows_len {M : Type} {z by' : Nat} {A : List Value → M → Assn} {v : Value} {L : List M} (h : H l σ) (i : Nat) (hi : l[i]? = some (RowsA z by' A v L)) : L.length * by' ≤ reachBytes := by
  rcases H_rows.1 (h.front i hi) with ⟨⟨rfl, _⟩, _⟩ | ⟨_, _, _, _, _, _, _, _, _, _, h6⟩
  · simp
  · exact h6

/-! ### Parts of slices -/
theorem src_prefix {z : Nat} {a : Option Addr} {n c c' m : Nat} {ys : List Value} (h : srcOf z (.slice a n c) σ = some (n, ys)) (hm : m ≤ n) : srcOf z (.slice a m c') σ = some (m, ys.take (m * z)) := by
  cases a with
  | none =>
    simp only [srcOf] at h ⊢
    split at h
    · rename_i e; subst e
      obtain rfl : m = 0 := by omega
      simp
    · cases h
  | some a =>
    simp only [srcOf, Option.map_eq_some_iff] at h ⊢
    obtain ⟨l0, h1, h2⟩ := h
    simp only [Prod.mk.injEq, true_and] at h2
    subst h2
    refine ⟨l0.take (m * z), ?_, rfl⟩
    have hle : m * z ≤ n * z := Nat.mul_le_mul_right _ hm
    unfold seg at h1 ⊢
    split
    · rename_i e; rw [e]; simp
    · rename_i k e
      rw [e]
      split at h1
      · rename_i e2; omega
      · rename_i k2 e2
        rw [Option.bind_eq_some_iff] at h1 ⊢
        obtain ⟨c0, h3, h4⟩ := h1
        refine ⟨c0, h3, ?_⟩
        cases hb : Nat.ble (a.off + (k2 + 1)) c0.length with
        | false => rw [hb] at h4; cases h4
        | true =>
          rw [hb] at h4
          simp only [cond_true, Option.some.injEq] at h4
          subst h4
          rw [Nat.ble_eq] at hb
          have : Nat.ble (a.off + (k + 1)) c0.length = true := by rw [Nat.ble_eq]; omega
          rw [this]
          simp only [cond_true, Option.some.injEq, List.take_take]
          congr 1; omega
/-- What is left of bytes behind a place in them, their end too. -/
theorem rd_from {b o n c : Nat} {x : List UInt8} {lo : Int} {k : IntKind} (hc : CapOk 1 n c) (h : 0 ≤ lo ∧ lo ≤ n) :
    ∃ a' c', aSlice 1 (.slice (some ⟨b, o, none⟩) n c) (some (.int k lo)) none none = some (.slice (some a') (n - lo.toNat) c') ∧
      ∀ τ, srcOf 1 (.slice (some ⟨b, o, none⟩) n c) τ = some (n, bv x) → srcOf 1 (.slice (some a') (n - lo.toNat) c') τ = some (n - lo.toNat, bv (x.drop lo.toNat)) := by
  rcases Int.lt_or_eq_of_le h.2 with hlt | heq
  · obtain ⟨c', h1, h2⟩ := slice_from (z := 1) (b := b) (o := o) (k := k) hc ⟨h.1, hlt⟩
    refine ⟨_, c', h1, fun τ hs => ?_⟩
    have hpos : 0 < n := by omega
    simp only [srcOf, Option.map_eq_some_iff, Nat.mul_one] at hs ⊢
    obtain ⟨l0, hs, hl⟩ := hs
    simp only [Prod.mk.injEq, true_and] at hl
    subst hl
    refine ⟨bv (x.drop lo.toNat), ?_, rfl⟩
    obtain ⟨n', rfl⟩ : ∃ n', n = n' + 1 := ⟨n - 1, by omega⟩
    obtain ⟨m', hm'⟩ : ∃ m', n' + 1 - lo.toNat = m' + 1 := ⟨n' - lo.toNat, by omega⟩
    rw [hm']
    simp only [seg, Option.bind_eq_some_iff] at hs ⊢
    obtain ⟨c0, h3, h4⟩ := hs
    refine ⟨c0, h3, ?_⟩
    cases hb : Nat.ble (o + (n' + 1)) c0.length with
    | false => rw [hb] at h4; cases h4
    | true =>
      rw [hb] at h4
      simp only [cond_true, Option.some.injEq] at h4
      rw [Nat.ble_eq] at hb
      have : Nat.ble (o + lo.toNat + (m' + 1)) c0.length = true := by rw [Nat.ble_eq]; omega
      rw [this]
      simp only [cond_true, Option.some.injEq]
      rw [← bv_drop, ← h4, List.drop_take, List.drop_drop, hm']
  · have hz : n - lo.toNat = 0 := by omega
    obtain ⟨h1, h2⟩ := hc
    have : ∃ a' c', aSlice 1 (.slice (some ⟨b, o, none⟩) n c) (some (.int k lo)) none none = some (.slice (some a') (n - lo.toNat) c') := by
      simp only [aSlice, bndO, Option.bind_some]
      rw [bnd_int (by omega)]
      simp only [Option.bind_some]
      have e : lo.toNat = n := by omega
      rw [e]
      split
      · rename_i hlt
        rw [known_lt hlt] at h1
        rw [if_pos h1]
        split
        · exact ⟨_, _, rfl⟩
        · exact ⟨_, _, rfl⟩
      · split
        · exact ⟨_, _, rfl⟩
        · simp only [if_pos, Nat.sub_self]
          exact ⟨_, _, rfl⟩
    obtain ⟨a', c', h⟩ := this
    refine ⟨a', c', h, fun τ hs => ?_⟩
    rw [hz, src_zero]
    have hxl : (bv x).length = n := by have := srcOf_len hs; omega
    have : x.drop lo.toNat = [] := by rw [List.drop_eq_nil_iff]; simp at hxl; omega
    rw [this]; rfl

/-! ### What an act writes -/
def blk (A : ActM) : List UInt8 := if A.Short then A.B else put (List.replicate 256 A.X) 0 (A.B.take 256)
theorem blk_len (A : ActM) (h : A.Short = false) : (blk A).length = 256 := by
  unfold blk; rw [if_neg (by simp [h])]
  rw [put_length _ _ _ (by simp; omega)]; simp

theorem ro_front {A : Assn} (h : H l σ) (i : Nat) (hi : l[i]? = some A) (hd : Dup A) : H [A, Star l] σ := by
  have := h.dup i hi hd
  rw [H_app] at this
  exact this.pick [1, 0] (by decide)
theorem block_ok {A : ActM} {v : Value} (h : H l σ) (i : Nat) (hi : l[i]? = some (BytesA v A.B)) (hk : ∀ w σ', H (l ++ [Own 5 1 w (blk A).length (bv (blk A))]) σ' → Q w σ') :
    E 17 [.agg #[.int .i64 A.What, .int .i64 A.At, by8 A.X, v, .bool A.Short]] σ Q := by
  obtain ⟨va, vc, rfl⟩ := h.rows_form i hi
  obtain ⟨_, hlen⟩ := H.bytes_rd h i hi
  have h0 := ro_front h i hi (BytesA.dup _ _)
  have hk : ∀ w σ', H [Star l, Own 5 1 w (blk A).length (bv (blk A))] σ' → Q w σ' := fun w σ' h => hk w σ' (H_app.2 h)
  apply s17_ev; unfold s17
  simp
  refine new_ok h0 ?_
  intro tb σ1 h1
  have r2 := load1 (n := 1) (o := 2) (h1.row 2 rfl)
  have r3 := load1 (n := 1) (o := 3) (h1.row 2 rfl)
  have r4 := load1 (n := 1) (o := 4) (h1.row 2 rfl)
  simp [r2, r3, r4]
  unfold reachBytes at hlen
  cases hs : A.Short with
  | true =>
    simp
    have e : blk A = A.B := by unfold blk; simp [hs]
    rw [e] at hk
    refine append_own (n := 0) (xs := []) (h1.own_zb 5 1) 3 rfl (H.bytes_rd h1 0 rfl).1.src (by omega) (by omega) (bv_one _) ?_
    intro w σ2 h2
    simp at h2
    exact hk _ _ (h2.pick [1, 3] (by decide))
  | false =>
    simp
    refine full_ok h1 ?_
    intro w σ2 h2
    have r3 := load1 (n := 1) (o := 3) (h2.row 2 rfl)
    simp [r3]
    obtain ⟨wb, wc, rfl, hwc, _⟩ := h2.own_form 3 rfl (by omega)
    have hsrc := src_prefix (c' := vc) (H.bytes_rd h2 0 rfl).1.src (Nat.min_le_left A.B.length 256)
    simp only [Nat.mul_one, bv_take] at hsrc
    refine copy_own (o := 0) (ys := bv (A.B.take (Nat.min A.B.length 256))) h2 3 rfl (by omega) hsrc (bv_one _) (by simp; exact Nat.min_le_right _ _) ?_
    intro σ3 h3
    have e : blk A = put (List.replicate 256 A.X) 0 (A.B.take (Nat.min A.B.length 256)) := by
      unfold blk; simp only [hs, Bool.false_eq_true, if_false]
      congr 1
      rcases Nat.le_total A.B.length 256 with q | q
      · rw [show Nat.min A.B.length 256 = A.B.length from Nat.min_eq_left q, List.take_of_length_le q, List.take_length]
      · rw [show Nat.min A.B.length 256 = 256 from Nat.min_eq_right q]
    refine hk _ _ ?_
    rw [splice_put, ← e] at h3
    rw [blk_len A hs]
    exact h3.pick [1, 3] (by decide)

/-! ### A sector of a block -/
def sect (L : List UInt8) (s : Nat) : List UInt8 := (L.drop (64 * s)).take 64
theorem sect_len {L : List UInt8} {s : Nat} (h : 64 * s + 64 ≤ L.length) : (sect L s).length = 64 := by simp [sect]; omega
theorem sector_ok {b o c : Nat} {k : Nat} (hc : CapOk 1 256 c) (hk4 : k < 4) (hk : ∀ c', CapOk 1 64 c' → Q (.slice (some ⟨b, o + 64 * k, none⟩) 64 c') σ) : E 21 [.slice (some ⟨b, o, none⟩) 256 c, .int .i64 k] σ Q := by
  apply s21_ev; unfold s21
  simp
  rw [wrap_i64 (by omega), wrap_i64 (by omega)]
  obtain ⟨c', h1, h2⟩ := slice_mid (z := 1) (b := b) (o := o) (lo := 64 * (k : Int)) (hi := 64 * (k : Int) + 64) (k := .i64) (k' := .i64) hc (by omega)
  have e1 : (64 * (k : Int) + 64).toNat - (64 * (k : Int)).toNat = 64 := by omega
  have e2 : (64 * (k : Int)).toNat = 64 * k := by omega
  rw [e1, e2, Nat.mul_one] at h1
  rw [e1] at h2
  rw [h1, pu_some]
  exact hk _ h2
end Go.Ax.YtfeamgocomlepaaC
