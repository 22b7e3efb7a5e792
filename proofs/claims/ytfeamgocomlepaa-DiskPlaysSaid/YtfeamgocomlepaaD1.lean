/- Contracts of small functions: clones, equality of bytes, blocks of one byte. No statement of the seat is proved here. -/
import Derived.Test.YtfeamgocomlepaaT1
set_option maxRecDepth 100000
namespace Go.Ax.YtfeamgocomlepaaC
open Go.Proofs

variable {l : List Assn} {σ : AHeap} {Q : WK}

theorem clone_ok {a : Option Addr} {n c : Nat} {bs : List UInt8} (h : H l σ) (hs : srcOf 1 (.slice a n c) σ = some (n, bv bs)) (hn : n ≤ 1099511627776)
    (hk : ∀ v σ', H (l ++ [Own 5 1 v n (bv bs)]) σ' → Q v σ') : E 67 [.slice a n c] σ Q := by
  apply s67_ev; unfold s67
  cases a with
  | none =>
    simp
    have : n = 0 ∧ bs = [] := by
      simp only [srcOf] at hs
      split at hs
      · rename_i e; subst e
        simp only [Option.some.injEq, Prod.mk.injEq] at hs
        exact ⟨rfl, by have := congrArg List.length hs.2; simpa using this.symm⟩
      · cases hs
    obtain ⟨rfl, rfl⟩ := this
    exact hk _ _ (h.own_nil 5 1)
  | some a =>
    simp
    refine append_own (n := 0) (xs := []) (h.own_zb 5 1) l.length (by simp) hs (by omega) (by omega) (bv_one _) ?_
    intro v' σ' h'
    simp at h'
    exact hk _ _ h'

theorem equal_ok {a a' : Option Addr} {n c n' c' : Nat} {x y : List UInt8} (hx : srcOf 1 (.slice a n c) σ = some (n, bv x)) (hy : srcOf 1 (.slice a' n' c') σ = some (n', bv y))
    (hk : Q (.bool (decide (x = y))) σ) : E 23 [.slice a n c, .slice a' n' c'] σ Q := by
  apply s23_ev; unfold s23
  have h1 : ∀ a n c, aConv P 23 9 (.slice a n c) σ = aBytesStr (.slice a n c) σ := fun a n c => by kernel_rfl
  rw [h1, h1, bytesStr_src hx, bytesStr_src hy]
  simp [aBin, aStr, ByteArray.toList_eq]
  have : (x == y) = decide (x = y) := by by_cases e : x = y <;> simp [e]
  rw [this]; exact hk
theorem mul_256 (hk : Q (.tuple #[.int .u64 0, .int .u64 256]) σ) : E 99 [.int .u64 1, .int .u64 256] σ Q := by
  apply s99_ev; unfold s99
  apply s114_ev; unfold s114
  have e : ∀ (d : Option TypeDesc) (a b : Int), aBin d .shr (.int .u64 a) (.int .u64 b) = aShift .shr .u64 a b := fun _ _ _ => rfl
  simp [e, aShift, IntKind.wrap, IntKind.bits, IntKind.signed]
  exact hk

theorem rep_ok {sb e : Nat} {opn : Bool} {b : UInt8} (h : H l σ) (j : Nat) (hj : l[j]? = some (pt sb (.cells [by8 b] e opn))) (hk : ∀ v σ', H (l ++ [Own 5 1 v 256 (bv (List.replicate 256 b))]) σ' → Q v σ') : E 63 [.slice (some ⟨sb, 0, none⟩) 1 1, .int .i64 256] σ Q := by
  apply s63_ev; unfold s63
  simp [IntKind.wrap, IntKind.bits, IntKind.signed]
  refine mul_256 ?_
  simp
  unfold s63k7
  simp [IntKind.wrap, IntKind.bits, IntKind.signed]
  unfold s63k16
  refine noZero_ok (H_one.2 h) (by omega) ?_
  intro B σ1 h1
  have e1 : aSlice 1 (.slice (some ⟨B, 0, none⟩) (Int.toNat 256) (OPEN * 1 + Int.toNat 256)) none (some (.int .i64 256)) (some (.int .i64 256)) = some (.slice (some ⟨B, 0, none⟩) 256 256) := by
    simp [aSlice, bnd, bndO, known, OPEN, add_mk]
  simp only [e1, pu_some]
  have hU : (List.replicate (Int.toNat 256) undef).length = 256 := by rw [List.length_replicate]; rfl
  generalize List.replicate (Int.toNat 256) undef = U at h1 hU
  have hs : srcOf 1 (.slice (some ⟨sb, 0, none⟩) (Nat.min 1 256) 1) σ1 = some (1, bv [b]) := by
    rw [show Nat.min 1 256 = 1 from rfl, src_row ((h1.beside 0 rfl).row j hj) (by simp)]; rfl
  refine copy_ok (o := 0) h1 1 rfl hs (bv_one _) (by simp; omega) ?_
  intro σ2 h2
  refine ⟨fun m x7 x8 x9 x10 τ => ∃ k : Nat, m = 256 - k ∧ 1 ≤ k ∧ k ≤ 256 ∧ x7 = .int .i64 256 ∧ x8 = .int .i64 256 ∧ x9 = .slice (some ⟨B, 0, none⟩) 256 256 ∧ x10 = .int .i64 k ∧
    H [Star l, pt B (.cells (bv (List.replicate k b) ++ U.drop k) 5 true)] τ, ⟨_, 1, rfl, by omega, by omega, rfl, rfl, rfl, rfl, ?_⟩, ?_⟩
  · exact h2
  · rintro m _ _ _ _ τ ⟨k, rfl, hk1, hk2, rfl, rfl, rfl, rfl, h⟩
    suffices hb : ∀ N : Value → Value → Value → Value → AHeap → Prop, (∀ τ' k', k < k' → k' ≤ 256 → k < 256 → H [Star l, pt B (.cells (bv (List.replicate k' b) ++ U.drop k') 5 true)] τ' →
        N (.int .i64 256) (.int .i64 256) (.slice (some ⟨B, 0, none⟩) 256 256) (.int .i64 k') τ') → s63b1 N Q (.int .i64 256) (.int .i64 256) (.slice (some ⟨B, 0, none⟩) 256 256) (.int .i64 k) τ from
      hb _ fun τ' k' hlt h256 hk' h' => ⟨_, by omega, k', rfl, by omega, h256, rfl, rfl, rfl, rfl, h'⟩
    intro N hN
    unfold s63b1
    simp
    refine wC_dec (fun hlt => ?_) fun hlt => ?_
    · have e2 : (if (256 : Int) < k then (256 : Int) else k) = k := by rw [if_neg (by omega)]
      obtain ⟨c1, hs1, _⟩ := slice_from (z := 1) (b := B) (o := 0) (n := 256) (c := 256) (lo := (k : Int)) (k := .i64) (CapOk.exact (by unfold OPEN; omega)) (by omega)
      obtain ⟨c2, hs2, _⟩ := slice_to (z := 1) (b := B) (o := 0) (n := 256) (c := 256) (hi := (k : Int)) (k := .i64) (CapOk.exact (by unfold OPEN; omega)) (by omega) (by omega)
      simp [e2, hs1, hs2]
      have hrow := h.row 1 rfl
      generalize hmm : Nat.min k (256 - k) = mm
      have hmm1 : mm ≤ k ∧ mm ≤ 256 - k ∧ 0 < mm := by
        have h3 : Nat.min k (256 - k) = k ∨ Nat.min k (256 - k) = 256 - k := by
          rcases Nat.le_total k (256 - k) with q | q
          · left; exact Nat.min_eq_left q
          · right; exact Nat.min_eq_right q
        subst hmm
        refine ⟨Nat.min_le_left k (256 - k), Nat.min_le_right k (256 - k), by omega⟩
      have hs3 : srcOf 1 (.slice (some ⟨B, 0, none⟩) (Nat.min k (256 - k)) c2) τ = some (mm, bv (List.replicate mm b)) := by
        rw [hmm, src_row hrow (by simp; omega)]
        simp [List.take_append_of_le_length, hmm1.1]
      refine copy_ok h 1 rfl hs3 (bv_one _) (by simp; omega) ?_
      intro σ3 h3
      simp
      rw [wrap_i64 (by omega)]
      have := hN σ3 (k + mm) (by omega) (by omega) (by omega) (by
        have e4 : splice (bv (List.replicate k b) ++ U.drop k) k (bv (List.replicate mm b)) = bv (List.replicate (k + mm) b) ++ U.drop (k + mm) := by
          rw [splice_mid _ _ _ _ (by simp) (by simp; omega)]
          simp [← bv_append, List.replicate_append_replicate]
        rw [e4] at h3; exact h3)
      simpa using this
    · obtain rfl : k = 256 := by omega
      rw [List.drop_of_length_le (by omega), List.append_nil] at h
      exact hk _ _ (H_app.2 (h.to_own 1 rfl (n := 256) (z := 1) (by simp only [bv_length, List.length_replicate]) (by unfold OPEN; omega)))

theorem full_ok {b : UInt8} (h : H l σ) (hk : ∀ v σ', H (l ++ [Own 5 1 v 256 (bv (List.replicate 256 b))]) σ' → Q v σ') : E 26 [by8 b] σ Q := by
  apply s26_ev; unfold s26
  refine buildS_ok (H_one.2 h) (by rfl) (cs := [by8 b]) (by simp [reps, splice, by8]) ?_
  intro B σ1 h1
  refine rep_ok h1 1 rfl ?_
  intro v σ2 h2
  exact hk _ _ (H_app.2 (h2.pick [0, 2] (by decide)))
end Go.Ax.YtfeamgocomlepaaC
