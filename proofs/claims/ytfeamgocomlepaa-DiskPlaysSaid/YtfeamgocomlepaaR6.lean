/- DiskPlays on the abstract heap: the row of calls. No statement of the seat is proved here. -/
import Derived.Test.YtfeamgocomlepaaR5
set_option maxRecDepth 100000
namespace Go.Ax.YtfeamgocomlepaaC
open Go.Proofs Go.RowKit

variable {l m : List Assn} {σ : AHeap}

theorem plays_tail {N1 : Value → Value → Value → Value → Value → AHeap → Prop} {d r va len x : Value} {D : DM} {n k : Nat} {I0 : Assn} (h : H [Disk d D, RDisk n r D, I0] σ) (hD : D.Ok n) (hm : D.fly.length < 1099511627776) (hk : k < 200)
    (hN : ∀ τ', H [Disk d D, RDisk n r D, I0] τ' → N1 d r va len (.int .i64 (k + 1 : Nat)) τ') : s5k27 N1 QT d r va len (.int .i64 k) x σ := by
  have h0 := h
  obtain ⟨b, lv, fv, ss, rfl, _, _⟩ := disk_out h
  unfold s5k27
  simp
  refine alike_ok h0 hD hm ?_
  intro τ1 h1
  simp
  unfold s5k28
  simp
  rw [wrap_i64 (by omega)]
  exact hN τ1 h1
theorem plays_b2 {N1 : Value → Value → Value → Value → Value → AHeap → Prop} {d r w va len : Value} {D : DM} {n k q : Nat} {xs : List UInt8} {I0 : Assn} (h : H [Disk d D, RDisk n r D, I0, Own 5 1 w q (bv xs)] σ) (hD : D.Ok n) (hm : D.fly.length < 1099511627776) (hk : k < 200) (hq : q ≤ 140737488355328)
    (hN : ∀ τ', H [Disk d D, RDisk n r D, I0] τ' → N1 d r va len (.int .i64 (k + 1 : Nat)) τ') :
    ∃ I : Nat → Value → Value → Value → Value → Value → Value → Value → Value → AHeap → Prop, (∃ m, I m d r w va len (.int .i64 k) (.int .i64 q) (.int .i64 0) σ) ∧
    ∀ m (x5 x7 x11 x46 x47 x48 x74 x75 : Value) (σ' : AHeap), I m x5 x7 x11 x46 x47 x48 x74 x75 σ' → s5b2 N1 (fun x5 x7 x11 x46 x47 x48 x74 x75 σ' => ∃ m', m' < m ∧ I m' x5 x7 x11 x46 x47 x48 x74 x75 σ') QT x5 x7 x11 x46 x47 x48 x74 x75 σ' := by
  refine ⟨fun m x5 x7 x11 x46 x47 x48 x74 x75 τ => ∃ (j : Nat) (xs : List UInt8), m = q - j ∧ j ≤ q ∧ d = x5 ∧ r = x7 ∧ w = x11 ∧ va = x46 ∧ len = x47 ∧ x48 = .int .i64 k ∧ x74 = .int .i64 q ∧ x75 = .int .i64 j ∧ H [Disk d D, RDisk n r D, I0, Own 5 1 w q (bv xs)] τ, ⟨_, 0, xs, rfl, by omega, rfl, rfl, rfl, rfl, rfl, rfl, rfl, rfl, h⟩, ?_⟩
  clear h
  rintro m _ _ _ _ _ _ _ _ τ ⟨j, xs, rfl, hj, rfl, rfl, rfl, rfl, rfl, rfl, rfl, rfl, h⟩
  suffices hb : ∀ N2 : Value → Value → Value → Value → Value → Value → Value → Value → AHeap → Prop, (∀ xs' τ', j < q → H [Disk d D, RDisk n r D, I0, Own 5 1 w q (bv xs')] τ' → N2 d r w va len (.int .i64 k) (.int .i64 q) (.int .i64 (j + 1 : Nat)) τ') →
      s5b2 N1 N2 QT d r w va len (.int .i64 k) (.int .i64 q) (.int .i64 j) τ from
    hb _ fun xs' τ' hlt h' => ⟨_, by omega, j + 1, xs', rfl, by omega, rfl, rfl, rfl, rfl, rfl, rfl, rfl, rfl, h'⟩
  intro N2 hN2
  unfold s5b2
  simp only [bin_lss, pu_some]
  refine wC_dec (fun g1 => ?_) fun g1 => ?_
  · refine xor_ok h 3 rfl (by omega) xor_op ?_
    intro xs' τ1 h1
    simp only [bin_add, pu_some]
    rw [wrap_i64 (by omega)]
    exact hN2 xs' τ1 (by omega) h1
  · exact plays_tail (h.pick [0, 1, 2] (by decide)) hD hm hk hN
theorem plays_b3 {N1 : Value → Value → Value → Value → Value → AHeap → Prop} {d r w va len : Value} {D : DM} {n k q : Nat} {xs : List UInt8} {I0 : Assn} (h : H [Disk d D, RDisk n r D, I0, Own 5 1 w q (bv xs)] σ) (hD : D.Ok n) (hm : D.fly.length < 1099511627776) (hk : k < 200) (hq : q ≤ 140737488355328)
    (hN : ∀ τ', H [Disk d D, RDisk n r D, I0] τ' → N1 d r va len (.int .i64 (k + 1 : Nat)) τ') : s5k33 N1 QT (.bool false) d r va len (.int .i64 k) w σ := by
  unfold s5k33
  obtain ⟨_, _, wa, wc, hw⟩ := h.own_src 3 rfl
  simp only [hw, wC_false, lenS_slice, pu_some]
  rw [← hw]
  refine ⟨fun m x5 x7 x13 x46 x47 x48 x111 x112 τ => ∃ (j : Nat) (xs : List UInt8), m = q - j ∧ j ≤ q ∧ d = x5 ∧ r = x7 ∧ w = x13 ∧ va = x46 ∧ len = x47 ∧ x48 = .int .i64 k ∧ x111 = .int .i64 q ∧ x112 = .int .i64 j ∧ H [Disk d D, RDisk n r D, I0, Own 5 1 w q (bv xs)] τ, ⟨_, 0, xs, rfl, by omega, rfl, rfl, rfl, rfl, rfl, rfl, rfl, rfl, h⟩, ?_⟩
  clear h hw
  rintro m _ _ _ _ _ _ _ _ τ ⟨j, xs, rfl, hj, rfl, rfl, rfl, rfl, rfl, rfl, rfl, rfl, h⟩
  suffices hb : ∀ N2 : Value → Value → Value → Value → Value → Value → Value → Value → AHeap → Prop, (∀ xs' τ', j < q → H [Disk d D, RDisk n r D, I0, Own 5 1 w q (bv xs')] τ' → N2 d r w va len (.int .i64 k) (.int .i64 q) (.int .i64 (j + 1 : Nat)) τ') →
      s5b3 N1 N2 QT d r w va len (.int .i64 k) (.int .i64 q) (.int .i64 j) τ from
    hb _ fun xs' τ' hlt h' => ⟨_, by omega, j + 1, xs', rfl, by omega, rfl, rfl, rfl, rfl, rfl, rfl, rfl, rfl, h'⟩
  intro N2 hN2
  unfold s5b3
  simp only [bin_lss, pu_some]
  refine wC_dec (fun g1 => ?_) fun g1 => ?_
  · refine xor_ok h 3 rfl (by omega) xor_op ?_
    intro xs' τ1 h1
    simp only [bin_add, pu_some]
    rw [wrap_i64 (by omega)]
    exact hN2 xs' τ1 (by omega) h1
  · exact plays_tail (h.pick [0, 1, 2] (by decide)) hD hm hk hN

/-- One call. -/
theorem plays_step {N1 : Value → Value → Value → Value → Value → AHeap → Prop} {d r : Value} {va : Option Addr} {vc : Nat} {L : List ActM} {D : DM} {n k : Nat} (h : H [Disk d D, RDisk n r D, ActsA (.slice va L.length vc) L] σ) (hlt : k < L.length) (hk : k < 200) (hD : D.Ok n) (hm : D.fly.length ≤ 4 * k) (hf : D.fuse < 9223372036854775808)
    (hN : ∀ d' D' τ', H [Disk d' D', RDisk n r D', ActsA (.slice va L.length vc) L] τ' → D'.Ok n → D'.fly.length ≤ 4 * (k + 1) → D'.fuse < 9223372036854775808 → N1 d' r (.slice va L.length vc) (.int .i64 L.length) (.int .i64 (k + 1 : Nat)) τ') :
    s5b1 N1 QT d r (.slice va L.length vc) (.int .i64 L.length) (.int .i64 k) σ := by
  have hn2 := hD.hi
  have hn := hD.lo
  -- what follows each call
  have tail : ∀ (d' : Value) (D' : DM) (x : Value) τ', H [Disk d' D', RDisk n r D', ActsA (.slice va L.length vc) L] τ' → D'.Ok n → D'.fly.length ≤ 4 * (k + 1) → D'.fuse < 9223372036854775808 → s5k27 N1 QT d' r (.slice va L.length vc) (.int .i64 L.length) (.int .i64 k) x τ' :=
    fun d' D' x τ' h' a b c => plays_tail h' a (by omega) hk fun τ2 h2 => hN d' D' τ2 h2 a b c
  unfold s5b1
  simp
  refine wC_dec (fun _ => ?_) fun g => absurd hlt (by omega)
  have hmm := List.getElem?_eq_getElem hlt
  generalize L[k] = A at hmm
  obtain ⟨ab, ao, av, a1, a2, hw, hat, ⟨ba, bc, rfl⟩, h1⟩ := act_at h 2 rfl hmm
  have hBl := rows_len h1 3 rfl
  simp only [Nat.mul_one, reachBytes] at hBl
  have hat' := hat
  unfold i64r at hat'
  simp [a1, a2]
  refine new_ok h1 ?_
  intro tb σ3 h3
  refine storeN h3 4 rfl (by simp) (by omega) (by simp [by8]) (by simp) ?_
  intro σ4 h4
  have t0 := load1 (n := 1) (o := 0) (h4.row 4 rfl)
  have t1 := load1 (n := 1) (o := 1) (h4.row 4 rfl)
  have t3 := load1 (n := 1) (o := 3) (h4.row 4 rfl)
  have t5 := loadN (n := 5) (o := 0) (h4.row 4 rfl) (by simp [splice])
  simp [splice] at t0 t1 t3 t5
  have : ¬ (k : Int) = 200 := by omega
  simp [this, t0, t1, t3, t5]
  -- Write
  refine wC_dec (fun q0 => ?_) fun q0 => ?_
  · refine block_ok (A := A) h4 3 rfl ?_
    intro w1 σ5 h5
    have t1 := load1 (n := 1) (o := 1) (h5.row 4 rfl)
    have t5 := loadN (n := 5) (o := 0) (h5.row 4 rfl) (by simp [splice])
    simp [splice] at t1 t5
    simp [t1, t5]
    have hbl : (blk A).length ≤ 140737488355328 := by
      cases hs : A.Short with
      | false => rw [blk_len A hs]; omega
      | true => unfold blk; rw [if_pos hs]; omega
    refine write_ok (bs := blk A) h5 0 rfl hD hf (by omega) hbl (fun τ hτ => hτ.own_rd 5 rfl) ?_
    intro σ6 h6
    have t1 := load1 (n := 1) (o := 1) (h6.row 4 rfl)
    have t5 := loadN (n := 5) (o := 0) (h6.row 4 rfl) (by simp [splice])
    simp [splice] at t1 t5
    simp [t1, t5, veq1, veqs, veq, veq0, by8]
    refine block_ok (A := A) h6 3 rfl ?_
    intro w2 σ7 h7
    have t1 := load1 (n := 1) (o := 1) (h7.row 4 rfl)
    simp [splice] at t1
    simp [t1]
    refine rwrite_ok (bs := blk A) h7 1 rfl 6 rfl (by omega) hD hf (by omega) hbl ?_
    intro σ8 h8
    simp
    have hfew := write_few D A.At (blk A)
    have hOk := write_Ok hD A.At (blk A)
    generalize (D.write A.At (blk A)).1 = D' at h6 h7 h8 hfew hOk
    obtain ⟨_, _, wa, wc, hw1⟩ := h8.own_src 5 rfl
    simp only [hw1, lenS_slice, pu_some]
    rw [← hw1]
    exact plays_b2 (h8.pick [0, 1, 2, 5] (by decide)) hOk (by omega) hk hbl fun τ2 h2 => hN d D' τ2 h2 hOk (by omega) (by omega)
  -- Read
  refine wC_dec (fun q1 => ?_) fun q1 => ?_
  · by_cases hr : D.ready A.At = 0
    · refine read_yes h4 0 rfl hD (by omega) hr ?_
      intro w1 σ5 h5
      have t1 := load1 (n := 1) (o := 1) (h5.row 4 rfl)
      simp [splice] at t1
      simp [t1]
      refine rread_yes h5 1 rfl hD (by omega) hr ?_
      intro w2 σ6 h6
      simp
      obtain ⟨s1, _, aa, ac, rfl⟩ := h6.own_src 5 rfl
      obtain ⟨s2, _, ca, cc, rfl⟩ := h6.own_src 6 rfl
      refine equal_ok s1 s2 ?_
      simp
      exact plays_b3 (h6.pick [0, 1, 2, 5] (by decide)) hD (by omega) hk (by omega) fun τ2 h2 => hN d D τ2 h2 hD (by omega) hf
    · refine read_no h4 0 rfl hD hr ?_
      simp [t1]
      refine rread_no h4 1 rfl hD hr ?_
      simp
      refine equal_ok (x := []) (y := []) (src_nil _ _ _) (src_nil _ _ _) ?_
      simp
      have h5 := (h4.own_nil 5 1).pick [0, 1, 2, 5] (by decide)
      exact plays_b3 (xs := []) h5 hD (by omega) hk (by omega) fun τ2 h2 => hN d D τ2 h2 hD (by omega) hf
  -- Barrier
  refine wC_dec (fun q2 => ?_) fun q2 => ?_
  · refine barrier_ok h4 0 rfl hD hf (by omega) ?_
    intro σ5 h5
    refine rbarrier_ok h5 1 rfl hD hf (by omega) ?_
    intro σ6 h6
    simp
    have hfew := barrier_few D
    exact tail d _ _ σ6 (h6.pick [0, 1, 2] (by decide)) (barrier_Ok hD) (by omega) (by omega)
  -- Fuse
  refine wC_dec (fun q3 => ?_) fun q3 => ?_
  · refine fuse_ok h4 0 rfl ?_
    intro σ5 h5
    have t1 := load1 (n := 1) (o := 1) (h5.row 4 rfl)
    simp [splice] at t1
    simp [t1]
    refine rfuse_ok h5 1 rfl ?_
    intro σ6 h6
    exact tail d (D.setFuse A.At) _ σ6 (h6.pick [0, 1, 2] (by decide)) ⟨hD.lo, hD.hi, hD.len, hD.fly⟩ (by simp [DM.setFuse]; omega) (by simp [DM.setFuse]; omega)
  -- Crash
  refine wC_dec (fun q4 => ?_) fun q4 => ?_
  · refine append_own (n := 0) (xs := []) (h4.own_zb 5 1) 5 rfl (H.bytes_rd h4 3 rfl).1.src (by omega) (by omega) (bv_one _) ?_
    intro w σ5 h5
    refine crash_ok (picks := A.B) h5 0 rfl hD (by omega) (fun τ hτ => hτ.own_rd 5 rfl) ?_
    intro σ6 h6
    have t3 := load1 (n := 1) (o := 3) (h6.row 4 rfl)
    simp [splice] at t3
    simp [t3]
    refine rcrash_ok (pk := A.B) h6 1 rfl hD (by omega) (fun τ hτ => (H.bytes_rd hτ 3 rfl).1) ?_
    intro σ7 h7
    exact tail d (D.crash A.B) _ σ7 (h7.pick [0, 1, 2] (by decide)) (crash_Ok hD _) (by simp [DM.crash]) (by simp [DM.crash])
  -- a copy goes on
  refine wC_dec (fun q5 => ?_) fun q5 => ?_
  · refine diskcopy_ok h4 0 rfl hD (by omega) ?_
    intro w σ5 h5
    refine full_ok (b := 99) h5 ?_
    intro fl σ6 h6
    refine write_ok (a := 0) (bs := List.replicate 256 99) h6 0 rfl hD hf (by omega) (by simp) (fun τ hτ => hτ.own_rd 6 rfl) ?_
    intro σ7 h7
    have hfew := write_few D 0 (List.replicate 256 99)
    have hOk := write_Ok hD 0 (List.replicate 256 99)
    generalize (D.write 0 (List.replicate 256 99)).1 = D1 at h7 hfew hOk
    refine barrier_ok h7 0 rfl hOk (by omega) (by omega) ?_
    intro σ8 h8
    have hfew2 := barrier_few D1
    have hOk2 := barrier_Ok hOk
    refine crash_ok (picks := []) h8 0 rfl hOk2 (by omega) (fun _ _ => Rd.nil _ _) ?_
    intro σ9 h9
    refine fuse_ok h9 0 rfl ?_
    intro σ10 h10
    exact tail w D _ σ10 (h10.pick [5, 1, 2] (by decide)) hD (by omega) hf
  exact tail d D _ σ4 (h4.pick [0, 1, 2] (by decide)) hD (by omega) hf

theorem diskPlays_ev {b : Int} {va : Value} {L : List ActM} (hb : i64r b) (h : H [ActsA va L] σ) : E 5 [.int .i64 b, va] σ QT := by
  obtain ⟨aa, ac, rfl⟩ := h.rows_form 0 rfl
  apply s5_ev; unfold s5
  by_cases hb1 : b < 1 ∨ 1024 < b
  · refine new_no hb1 ?_
    simp
    refine rnew_no hb1 ?_
    simp
    refine E_true rfl ?_
    simp
    unfold s5k4
    simp
  · obtain ⟨n, rfl⟩ : ∃ n : Nat, b = n := ⟨b.toNat, by omega⟩
    refine new_yes (n := (n : Int)) h (by omega) ?_
    intro d σ1 h1
    simp
    refine rnew_yes h1 (by omega) ?_
    intro r σ2 h2
    simp
    refine E_true rfl ?_
    simp
    unfold s5k4
    simp
    refine wC_dec (fun g12 => ?_) fun g12 => ?_
    · refine blocks_ok h2 1 rfl (by simp [DM.new]; omega) ?_
      simp [DM.new]
    · simp only [Int.toNat_natCast] at h2
      refine ⟨fun m x5 x7 x46 x47 x48 τ => ∃ (k : Nat) (D : DM), m = L.length - k ∧ k ≤ L.length ∧ k ≤ 200 ∧ r = x7 ∧ x46 = .slice aa L.length ac ∧ x47 = .int .i64 L.length ∧ x48 = .int .i64 k ∧ D.Ok n ∧ D.fly.length ≤ 4 * k ∧ D.fuse < 9223372036854775808 ∧ H [Disk x5 D, RDisk n r D, ActsA (.slice aa L.length ac) L] τ,
        ⟨_, 0, DM.new n, rfl, by omega, by omega, rfl, rfl, rfl, rfl, new_Ok n (by omega), by simp [DM.new], by simp [DM.new], h2.pick [1, 2, 0] (by decide)⟩, ?_⟩
      clear h h1 h2
      rintro m d _ _ _ _ τ ⟨k, D, rfl, hkl, hk2, rfl, rfl, rfl, rfl, hD, hm, hf, h⟩
      by_cases hend : k < L.length
      · by_cases h200 : k < 200
        · refine plays_step h hend h200 hD hm hf ?_
          intro d' D' τ' h' a b c
          exact ⟨_, by omega, k + 1, D', rfl, by omega, by omega, rfl, rfl, rfl, rfl, a, b, c, h'⟩
        · have : k = 200 := by omega
          subst this
          have hmm := List.getElem?_eq_getElem hend
          generalize L[200] = A at hmm
          obtain ⟨ab, ao, av, a1, a2, hw, hat, ⟨ba, bc, rfl⟩, h1⟩ := act_at h 2 rfl hmm
          unfold s5b1
          simp only [bin_lss, pu_some, a1, a2]
          refine wC_dec (fun _ => ?_) fun g => absurd hend (by omega)
          refine new_ok h1 ?_
          intro tb σ3 h3
          refine storeN h3 4 rfl (by simp) (by omega) (by simp [by8]) (by simp) ?_
          intro σ4 h4
          simp
          unfold s5k15
          rfl
      · unfold s5b1
        simp only [bin_lss, pu_some]
        refine wC_dec (fun g => absurd g (by omega)) fun g => ?_
        unfold s5k15
        rfl
end Go.Ax.YtfeamgocomlepaaC
