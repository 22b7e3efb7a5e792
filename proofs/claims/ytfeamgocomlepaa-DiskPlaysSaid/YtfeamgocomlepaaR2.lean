/- Contracts of the reference's functions: New, Write, Barrier, Crash. No statement of the seat is proved here. -/
import Derived.Test.YtfeamgocomlepaaR1
set_option maxRecDepth 100000
namespace Go.Ax.YtfeamgocomlepaaC
open Go.Proofs Go.RowKit

variable {l m : List Assn} {σ : AHeap} {Q : WK}

/-! ### New -/
theorem rnew_no {n : Int} (h : n < 1 ∨ 1024 < n) (hk : Q (.tuple #[.pointer none, .int .i64 1]) σ) : E 27 [.int .i64 n] σ Q := by
  apply s27_ev; unfold s27
  simp
  refine wG_dec (fun h1 => ?_) fun h1 => ?_
  · unfold s27k2; simpa using hk
  · unfold s27k2
    have : 1024 < n := by omega
    simpa [this] using hk
theorem sects_zero (n : Nat) : sects (4 * n) (List.replicate (256 * n) 0) = List.replicate (4 * n) (List.replicate 64 0) := by
  apply List.ext_getElem
  · simp [sects]
  · intro i h1 h2
    simp only [sects, List.length_map, List.length_range] at h1
    simp only [sects, List.getElem_map, List.getElem_range, List.getElem_replicate, sect]
    rw [List.drop_replicate, List.take_replicate]
    congr 1; omega
theorem rnew_yes {n : Nat} (h : H l σ) (hn : 1 ≤ n ∧ n ≤ 1024) (hk : ∀ v σ', H (l ++ [RDisk n v (.new n)]) σ' → Q (.tuple #[v, .int .i64 0]) σ') : E 27 [.int .i64 n] σ Q := by
  apply s27_ev; unfold s27
  have h1 : ¬ (n : Int) < 1 := by omega
  have h2 : ¬ 1024 < (n : Int) := by omega
  simp [h1]
  unfold s27k2
  simp [h2]
  refine new_ok (H_one.2 h) ?_
  intro b σ1 h3
  have h3 := h3.own_nil 23 1
  let J : Nat → List Value → Value → List Assn := fun k ss sv => [Star l, pt b (.cells [sv, .slice none 0 0, .int .i64 0, .bool false, .int .i64 n] 114 false), Own 23 1 sv k ss, Star (List.zipWith RoB ss (List.replicate k (List.replicate 64 0)))]
  refine ⟨fun m x0 x4 x5 τ => ∃ (k : Nat) (ss : List Value) (sv : Value), m = 4 * n - k ∧ k ≤ 4 * n ∧ ss.length = k ∧ x0 = .int .i64 n ∧ x4 = .pointer (some ⟨b, 0, none⟩) ∧ x5 = .int .i64 k ∧ H (J k ss sv) τ, ⟨_, 0, [], .slice none 0 0, rfl, by omega, rfl, rfl, rfl, rfl, ?_⟩, ?_⟩
  · exact (H.emp_end h3).pick [0, 1, 2, 3] (by decide)
  · clear h3
    rintro m _ _ _ τ ⟨k, ss, sv, rfl, hk4, hss, rfl, rfl, rfl, h3⟩
    suffices hb : ∀ N : Value → Value → Value → AHeap → Prop, (∀ ss' sv' τ', k < 4 * n → ss'.length = k + 1 → H (J (k + 1) ss' sv') τ' → N (.int .i64 n) (.pointer (some ⟨b, 0, none⟩)) (.int .i64 (k + 1 : Nat)) τ') →
        s27b1 N Q (.int .i64 n) (.pointer (some ⟨b, 0, none⟩)) (.int .i64 k) τ from
      hb _ fun ss' sv' τ' hlt a h' => ⟨_, by omega, k + 1, ss', sv', rfl, by omega, a, rfl, rfl, rfl, h'⟩
    intro N hN
    unfold s27b1
    simp
    rw [wrap_i64 (by omega)]
    refine wC_dec (fun h4 => ?_) fun h4 => ?_
    · have r0 := load1 (n := 1) (o := 0) (h3.row 1 rfl)
      simp [r0]
      refine make_ok h3 (by omega) ?_
      intro nb σ2 h5
      have r0 := load1 (n := 1) (o := 0) (h5.row 1 rfl)
      obtain ⟨_, _, sa, sc, rfl⟩ := h5.own_src 2 rfl
      simp [r0, veq1, veq, veq0]
      have e64 : reps (Int.toNat 64) [Value.int .u8 0] = bv (List.replicate 64 0) := by rw [reps_one, show (Value.int .u8 0) = by8 0 from rfl, bv_replicate]; rfl
      rw [e64] at h5
      obtain ⟨_, _, hv, hfc, hro⟩ := own_freeze (n := 64) (by omega) ((h5.to_own 4 rfl (n := 64) (z := 1) (by simp) (by unfold OPEN; omega)).pick [4, 0, 1, 2, 3] (by decide))
      cases hv
      have h6 := hro 0 64 64 hfc (by omega)
      rw [show ((List.replicate 64 (0 : UInt8)).drop 0).take 64 = List.replicate 64 0 by simp] at h6
      refine buildS_ok (cs := [.slice (some ⟨nb, 0, none⟩) 64 64]) h6 (by decide) (by rfl) ?_
      intro tb τ3 h7
      have r0 := load1 (n := 1) (o := 0) (h7.row 2 rfl)
      simp [r0, veq1, veq, veq0]
      have ht : srcOf 1 (.slice (some ⟨tb, 0, none⟩) 1 1) τ3 = some (1, [.slice (some ⟨nb, 0, none⟩) 64 64]) := by
        rw [src_row (h7.row 5 rfl) (by simp)]; rfl
      refine append_own h7 3 rfl ht (by omega) (by omega) (by rfl) ?_
      intro w τ4 h8
      have ho := own_one h8 (i := 3) rfl
      simp
      refine store1 h8 2 rfl ho (by simp) ?_
      intro τ5 h9
      try simp
      rw [wrap_i64 (by omega)]
      refine hN (ss ++ [.slice (some ⟨nb, 0, none⟩) 64 64]) w τ5 (by omega) (by simp [hss]) ?_
      simp only [J]
      rw [List.replicate_succ', List.zipWith_append (by simp [hss]), Star_append]
      have h10 := h9.pick [4, 0, 1, 2, 3] (by decide)
      have h11 : H [Star (List.zipWith RoB ss (List.replicate k (List.replicate 64 0))), Star [RoB (.slice (some ⟨nb, 0, none⟩) 64 64) (List.replicate 64 0)], Star l, pt b (.cells [w, .slice none 0 0, .int .i64 0, .bool false, .int .i64 n] 114 false), Own 23 1 w (k + 1) (ss ++ [.slice (some ⟨nb, 0, none⟩) 64 64])] τ5 := by
        have : H [Star [RoB (.slice (some ⟨nb, 0, none⟩) 64 64) (List.replicate 64 0)], Star (List.zipWith RoB ss (List.replicate k (List.replicate 64 0))), Star l, pt b (.cells [w, .slice none 0 0, .int .i64 0, .bool false, .int .i64 n] 114 false), Own 23 1 w (k + 1) (ss ++ [.slice (some ⟨nb, 0, none⟩) 64 64])] τ5 := H_star.2 (h10.pick [1, 0, 2, 3, 4] (by decide))
        exact this.pick [1, 0, 2, 3, 4] (by decide)
      exact (H_sep.2 h11).pick [1, 2, 3, 0] (by decide)
    · have : k = 4 * n := by omega
      subst this
      refine hk _ _ (H_app.2 ?_)
      have h5 := (h3.own_nil 117 2).emp_end
      refine (rdisk_in (m := [Star l]) (D := .new n) sv (.slice none 0 0) ss [] hss rfl ?_ : H [_, _] _).pick [1, 0] (by decide)
      have h6 := h5.pick [1, 2, 4, 3, 5, 0] (by decide)
      unfold RDiskP
      simp only [DM.new, sects_zero, FlyA, rflc, List.length_nil]
      exact h6

/-! ### Write -/
theorem part_at (a k : Nat) : (a * 256 + 64 * k) / 64 = 4 * a + k := by omega
theorem star2 {B : Assn} {i j : Nat} (hj : l[j]? = some B) (hij : i ≠ j) : Star (l.set i emp) = sep B (Star ((l.set i emp).set j emp)) := by
  conv => lhs; rw [Star_take _ j]
  simp [List.getD, List.getElem?_set, hij, hj]
theorem out2 {A B : Assn} {i j : Nat} (hi : l[i]? = some A) (hj : l[j]? = some B) (hij : i ≠ j) (h : H l σ) : H [A, B, Star ((l.set i emp).set j emp)] σ := by
  have h1 := h.out i hi
  rw [star2 hj hij] at h1
  have h2 : H [sep B (Star ((l.set i emp).set j emp)), A] σ := h1.pick [1, 0] (by decide)
  exact (H_sep.1 h2).pick [2, 0, 1] (by decide)
theorem in2 {A A' B : Assn} {i j : Nat} (hi : l[i]? = some A) (hj : l[j]? = some B) (hij : i ≠ j) (h : H [A', B, Star ((l.set i emp).set j emp)] σ) : H (l.set i A') σ := by
  refine H.in' i hi ?_
  rw [star2 hj hij]
  exact (H_sep.2 (h.pick [1, 2, 0] (by decide) : H (B :: Star ((l.set i emp).set j emp) :: [A']) σ)).pick [1, 0] (by decide)
theorem rwrite_ok {v bv' : Value} {D : DM} {n : Nat} {a : Int} {bs : List UInt8} (h : H l σ) (i : Nat) (hi : l[i]? = some (RDisk n v D)) (j : Nat) (hj : l[j]? = some (Own 5 1 bv' bs.length (bv bs))) (hij : i ≠ j) (hD : D.Ok n) (hf : D.fuse < 9223372036854775808) (hm : D.fly.length < 1099511627776) (hl : bs.length ≤ 140737488355328)
    (hk : ∀ σ', H (l.set i (RDisk n v (D.write a bs).1)) σ' → Q (.int .i64 (D.write a bs).2) σ') : E 29 [v, .int .i64 a, bv'] σ Q := by
  have hlt := (List.getElem?_eq_some_iff.1 hi).1
  obtain ⟨_, _, ba, bc, hbv⟩ := h.own_src j hj
  apply s29_ev; unfold s29
  refine why_ok h i hi hD ?_
  simp
  by_cases hr : D.ready a = 0
  · simp only [hr, decide_true, Bool.not_true, wC_false]
    simp only [hbv, lenS_slice, pu_some]
    by_cases hbl : bs.length = 256
    · simp [hbl]
      refine burns_ok h i hi hf ?_
      intro σ1 h1
      cases hb1 : D.burn.2 with
      | false =>
        have e : D.write a bs = (D.burn.1, 9) := by simp [DM.write, hr, hbl, hb1]
        rw [e] at hk
        simpa using hk _ h1
      | true =>
        simp
        have e : D.write a bs = (D.burn.1.fling a.toNat bs, 0) := by simp [DM.write, hr, hbl, hb1]
        rw [e] at hk
        have ha : 0 ≤ a ∧ a < n := ready_zero hD hr
        have hn2 := hD.hi
        obtain ⟨A, rfl⟩ : ∃ A : Nat, a = A := ⟨a.toNat, by omega⟩
        simp only [Int.toNat_natCast] at hk
        have hfl : D.burn.1.fly = D.fly := burn_fly D
        generalize D.burn.1 = D1 at h1 hk hfl
        have hi1 : (l.set i (RDisk n v D1))[i]? = some (RDisk n v D1) := by simp [hlt]
        have hj1 : (l.set i (RDisk n v D1))[j]? = some (Own 5 1 bv' bs.length (bv bs)) := by simp [List.getElem?_set, hij, hj]
        have h2' := out2 hi1 hj1 hij h1
        rw [List.set_set] at h2'
        rw [hbv, hbl] at h2'
        obtain ⟨b, sv, lv, ss, fs, rfl, hs, hfs, h2⟩ := rdisk_out h2'
        obtain ⟨wb, wc, hwe, hwc, _⟩ := h2.own_form 5 rfl (by omega)
        cases hwe
        let J : Nat → Value → List Value → List Assn := fun k lv fs => [pt b (.cells [sv, lv, .int .i64 D1.fuse, .bool D1.off, .int .i64 n] 114 false), Own 23 1 sv (4 * n) ss, Own 117 2 lv (D1.fly.length + k) (rflc (D1.fly ++ (parts A bs).take k) fs), Star (List.zipWith RoB ss (sects (4 * n) D1.last)), FlyA (D1.fly ++ (parts A bs).take k) fs, Own 5 1 (.slice (some ⟨wb, 0, none⟩) 256 bc) 256 (bv bs), Star ((l.set i emp).set j emp)]
        refine ⟨fun m x0 x1 x2 x8 τ => ∃ (k : Nat) (lv : Value) (fs : List Value), m = 4 - k ∧ k ≤ 4 ∧ fs.length = (D1.fly ++ (parts A bs).take k).length ∧ x0 = .pointer (some ⟨b, 0, none⟩) ∧ x1 = .int .i64 A ∧ x2 = .slice (some ⟨wb, 0, none⟩) 256 bc ∧ x8 = .int .i64 k ∧ H (J k lv fs) τ,
          ⟨_, 0, lv, fs, rfl, by omega, by simpa using hfs, rfl, rfl, rfl, rfl, ?_⟩, ?_⟩
        · simpa [J, RDiskP] using h2
        · clear h1 h2 hfs h2'
          rintro m _ _ _ _ τ ⟨k, lv, fs, rfl, hk4, hfs, rfl, rfl, rfl, rfl, h2⟩
          suffices hbb : ∀ N : Value → Value → Value → Value → AHeap → Prop, (∀ lv' fs' τ', k < 4 → fs'.length = (D1.fly ++ (parts A bs).take (k + 1)).length → H (J (k + 1) lv' fs') τ' →
              N (.pointer (some ⟨b, 0, none⟩)) (.int .i64 A) (.slice (some ⟨wb, 0, none⟩) 256 bc) (.int .i64 (k + 1 : Nat)) τ') → s29b1 N Q (.pointer (some ⟨b, 0, none⟩)) (.int .i64 A) (.slice (some ⟨wb, 0, none⟩) 256 bc) (.int .i64 k) τ from
            hbb _ fun lv' fs' τ' hlt a h' => ⟨_, by omega, k + 1, lv', fs', rfl, by omega, a, rfl, rfl, rfl, rfl, h'⟩
          intro N hN
          unfold s29b1
          simp
          refine wC_dec (fun g1 => ?_) fun g1 => ?_
          · have g1 : k < 4 := by omega
            have hpl : (D1.fly ++ (parts A bs).take k).length = D1.fly.length + k := by simp [parts]; omega
            have hpk : D1.fly ++ (parts A bs).take (k + 1) = (D1.fly ++ (parts A bs).take k) ++ [(A * 256 + 64 * k, (bs.drop (64 * k)).take 64)] := by rw [parts_take _ _ _ g1, List.append_assoc]
            have r1 := load1 (n := 1) (o := 1) (h2.row 0 rfl)
            obtain ⟨_, _, la, lc, rfl⟩ := h2.own_src 2 rfl
            simp [r1]
            have w1 : IntKind.i64.wrap (4 * (A : Int)) = 4 * (A : Int) := wrap_i64 (by omega)
            have w2 : IntKind.i64.wrap (4 * (A : Int) + (k : Int)) = 4 * (A : Int) + (k : Int) := wrap_i64 (by omega)
            have w3 : IntKind.i64.wrap (64 * (k : Int)) = 64 * (k : Int) := wrap_i64 (by omega)
            have w4 : IntKind.i64.wrap (64 * (k : Int) + 64) = 64 * (k : Int) + 64 := wrap_i64 (by omega)
            simp only [w1, w2, w3, w4]
            obtain ⟨c', e1, e2⟩ := slice_mid (z := 1) (b := wb) (o := 0) (lo := 64 * (k : Int)) (hi := 64 * (k : Int) + 64) (k := .i64) (k' := .i64) hwc (by omega)
            have q1 : (64 * (k : Int) + 64).toNat - (64 * (k : Int)).toNat = 64 := by omega
            have q2 : (64 * (k : Int)).toNat = 64 * k := by omega
            rw [q1, q2, Nat.mul_one] at e1
            rw [e1]
            simp
            have hsb := src_part (c' := c') (lo := 64 * k) (k := 64) (h2.own_src 5 rfl).1 (by omega)
            rw [bv_drop, bv_take, Nat.zero_add] at hsb
            refine rown_ok h2 hsb (by omega) ?_
            intro w τ1 h3
            have r1 := load1 (n := 1) (o := 1) (h3.row 0 rfl)
            obtain ⟨fb, fc, rfl, hfc, hro⟩ := own_freeze (by omega) (h3.pick [7, 0, 1, 2, 3, 4, 5, 6] (by decide))
            have h4 := hro 0 64 fc hfc (by omega)
            rw [show ((((bs.drop (64 * k)).take 64).drop 0).take 64) = (bs.drop (64 * k)).take 64 by simp [List.take_take]] at h4
            simp [r1, veq1, veq, veq0, splice]
            refine buildS_ok (cs := [.int .i64 (4 * A + k : Nat), .slice (some ⟨fb, 0, none⟩) 64 fc]) h4 (by decide) (by rw [show ((4 * A + k : Nat) : Int) = 4 * (A : Int) + (k : Int) by omega]; rfl) ?_
            intro tb τ3 h5
            have r1 := load1 (n := 1) (o := 1) (h5.row 1 rfl)
            simp [r1, veq1, veq, veq0]
            have ht : srcOf 2 (.slice (some ⟨tb, 0, none⟩) 1 1) τ3 = some (1, [.int .i64 (4 * A + k : Nat), .slice (some ⟨fb, 0, none⟩) 64 fc]) := by
              rw [src_row (h5.row 8 rfl) (by simp)]; rfl
            refine append_own h5 3 rfl ht (by omega) (by rw [hfl]; omega) (by rfl) ?_
            intro w τ4 h6
            have ho := own_one h6 (i := 3) rfl
            simp
            refine store1 h6 1 rfl ho (by simp) ?_
            intro τ5 h7
            try simp
            rw [wrap_i64 (by omega)]
            refine hN w (fs ++ [.slice (some ⟨fb, 0, none⟩) 64 fc]) τ5 g1 (by rw [hpk, List.length_append, List.length_append, hfs]; rfl) ?_
            simp only [J]
            rw [hpk, rflc_append _ _ _ _ hfs.symm, FlyA_append _ _ _ _ hfs.symm]
            simp only [rflc, FlyA, part_at, List.length_cons, List.length_nil]
            rw [sep_comm (RoB _ _) emp, emp_sep]
            have h8 := h7.pick [5, 0, 1, 2, 3, 4, 6, 7] (by decide)
            exact (H_sep.2 h8).pick [1, 2, 3, 4, 0, 5, 6] (by decide)
          · have : k = 4 := by omega
            subst this
            refine hk _ (in2 hi hj hij ?_)
            rw [hbv, hbl]
            refine rdisk_in (D := D1.fling A bs) sv lv ss fs hs (by simpa [DM.fling, parts] using hfs) ?_
            have e4 : (parts A bs).take 4 = parts A bs := by simp [parts]
            simp only [J, e4] at h2
            unfold RDiskP
            rw [show (D1.fling A bs).fly.length = D1.fly.length + 4 by simp [DM.fling, parts]]
            exact h2
    · have e : D.write a bs = (D, 1) := by simp [DM.write, hr, hbl]
      rw [e] at hk
      have : ¬ (bs.length : Int) = 256 := by omega
      simp [this]
      exact hk _ (by rw [set_self hi]; exact h)
  · simp only [hr, decide_false, Bool.not_false, wC_true]
    have e : D.write a bs = (D, D.ready a) := by simp [DM.write, hr]
    rw [e] at hk
    exact hk _ (by rw [set_self hi]; exact h)
end Go.Ax.YtfeamgocomlepaaC
