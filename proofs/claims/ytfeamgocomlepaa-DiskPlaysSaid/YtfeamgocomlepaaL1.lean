/- DiskFuse on the abstract heap. No statement of the seat is proved here. -/
import Derived.Test.YtfeamgocomlepaaL0
set_option maxRecDepth 100000
namespace Go.Ax.YtfeamgocomlepaaC
open Go.Proofs Go.RowKit

variable {l : List Assn} {σ : AHeap} {Q : WK}

theorem new_Ok (n : Nat) (h : 1 ≤ n ∧ n ≤ 1024) : (DM.new n).Ok n := ⟨h.1, h.2, by simp [DM.new], fun f hf => by simp [DM.new] at hf⟩
theorem parts_Ok {n a : Nat} {bs : List UInt8} (ha : a < n) (hb : bs.length = 256) : ∀ f ∈ parts a bs, FlyOk n f := by
  intro f hf
  simp only [parts, List.mem_cons, List.not_mem_nil, or_false] at hf
  rcases hf with rfl | rfl | rfl | rfl <;> refine ⟨by simp [hb], ?_, ?_⟩ <;> simp <;> omega
theorem burn_Ok {D : DM} {n : Nat} (h : D.Ok n) : D.burn.1.Ok n := by
  unfold DM.burn; split
  · exact h
  · split <;> exact ⟨h.lo, h.hi, h.len, h.fly⟩
theorem burn_fly (D : DM) : D.burn.1.fly = D.fly := by unfold DM.burn; split; rfl; split <;> rfl
theorem burn_fuse (D : DM) : D.burn.1.fuse ≤ D.fuse := by unfold DM.burn; split; exact Nat.le_refl _; split <;> simp
theorem land_Ok {D : DM} {n : Nat} (h : D.Ok n) : D.land.Ok n := ⟨h.lo, h.hi, laid_length _ _ h.len h.fly, fun f hf => by simp [DM.land] at hf⟩
theorem ready_zero {D : DM} {n : Nat} (hD : D.Ok n) {a : Int} (h : D.ready a = 0) : 0 ≤ a ∧ a < n := by
  have hlen := hD.len
  unfold DM.ready at h
  split at h
  · simp at h
  · split at h
    · simp at h
    · rename_i hx
      have : D.last.length / 256 = n := by omega
      omega
theorem ready_in {D : DM} {n : Nat} (hD : D.Ok n) {a : Nat} (ha : a < n) : D.ready a = if D.off then 9 else 0 := by
  unfold DM.ready
  have := hD.len
  have : D.last.length / 256 = n := by omega
  cases D.off with
  | true => rfl
  | false => simp only [Bool.false_eq_true, if_false]; rw [if_neg (by omega)]
theorem write_Ok {D : DM} {n : Nat} (h : D.Ok n) (a : Int) (bs : List UInt8) : (D.write a bs).1.Ok n := by
  unfold DM.write
  split
  · exact h
  · rename_i hr
    split
    · exact h
    · rename_i hb
      split
      · have ha := ready_zero h (a := a) (by omega)
        have h2 := burn_Ok h
        refine ⟨h2.lo, h2.hi, h2.len, fun f hf => ?_⟩
        simp only [DM.fling, List.mem_append] at hf
        rcases hf with hf | hf
        · exact h2.fly f hf
        · exact parts_Ok (by omega) (by omega) f hf
      · exact burn_Ok h
theorem write_few (D : DM) (a : Int) (bs : List UInt8) : (D.write a bs).1.fly.length ≤ D.fly.length + 4 ∧ (D.write a bs).1.fuse ≤ D.fuse := by
  have h1 := burn_fly D
  have h2 := burn_fuse D
  unfold DM.write
  split
  · exact ⟨by simp, by simp⟩
  · split
    · exact ⟨by simp, by simp⟩
    · split
      · exact ⟨by simp [DM.fling, h1, parts], h2⟩
      · exact ⟨by simp [h1], h2⟩
theorem barrier_Ok {D : DM} {n : Nat} (h : D.Ok n) : D.barrier.1.Ok n := by
  unfold DM.barrier
  split
  · exact h
  · split
    · exact land_Ok (burn_Ok h)
    · exact burn_Ok h
theorem barrier_few (D : DM) : D.barrier.1.fly.length ≤ D.fly.length ∧ D.barrier.1.fuse ≤ D.fuse := by
  have h1 := burn_fly D
  have h2 := burn_fuse D
  unfold DM.barrier
  split
  · exact ⟨by simp, by simp⟩
  · split
    · exact ⟨by simp [DM.land], h2⟩
    · exact ⟨by simp [h1], h2⟩

/-- What is told of either call. -/
theorem write_tells {D : DM} {n : Nat} (hD : D.Ok n) {a : Nat} (ha : a < n) {bs : List UInt8} (hb : bs.length = 256) :
    (D.write a bs).1.off = (if D.off then true else D.burn.1.off) ∧ (D.write a bs).1.fuse = (if D.off then D.fuse else D.burn.1.fuse) ∧ (D.write a bs).2 = if D.off then 9 else if D.burn.2 then 0 else 9 := by
  have hr : D.ready a = if D.off then 9 else 0 := by
    unfold DM.ready
    have := hD.len
    have : D.last.length / 256 = n := by omega
    cases D.off with
    | true => rfl
    | false => simp only [Bool.false_eq_true, if_false]; rw [if_neg (by omega)]
  unfold DM.write
  cases hoff : D.off with
  | true => rw [hoff] at hr; simp [hr, hoff]
  | false =>
    rw [hoff] at hr
    simp only [hr, Bool.false_eq_true, if_false, ne_eq, not_true, hb]
    cases hb2 : D.burn.2 with
    | true => simp [DM.fling]
    | false => simp
theorem barrier_tells {D : DM} {n : Nat} (hD : D.Ok n) :
    D.barrier.1.off = (if D.off then true else D.burn.1.off) ∧ D.barrier.1.fuse = (if D.off then D.fuse else D.burn.1.fuse) ∧ D.barrier.2 = if D.off then 9 else if D.burn.2 then 0 else 9 := by
  have hr : D.ready 0 = if D.off then 9 else 0 := by
    unfold DM.ready
    have := hD.len
    have := hD.lo
    have : D.last.length / 256 = n := by omega
    cases D.off with
    | true => rfl
    | false => simp only [Bool.false_eq_true, if_false]; rw [if_neg (by omega)]
  unfold DM.barrier
  cases hoff : D.off with
  | true => rw [hoff] at hr; simp [hr, hoff]
  | false =>
    rw [hoff] at hr
    simp only [hr, Bool.false_eq_true, if_false, ne_eq, not_true]
    cases hb2 : D.burn.2 with
    | true => simp [DM.land]
    | false => simp

theorem fuse_end {v d : Value} {L : List ActM} {D : DM} (h : H [ActsA v L, Disk d D] σ) (hD : D.Ok 3) (hm : D.fly.length < 1099511627776) : s4k12 (fun r _ => r = .bool true) d σ := by
  unfold s4k12
  have hn := hD.lo
  have hlen := hD.len
  have hready : D.ready 0 = if D.off then 9 else 0 := by
    unfold DM.ready
    cases D.off with
    | true => rfl
    | false => simp only [Bool.false_eq_true, if_false]; rw [if_neg (by omega)]
  have hlast : ∀ τ l', H ([ActsA v L, Disk d D] ++ l') τ → E 22 [d, .slice none 0 0] τ fun v81 τ_72 =>
      E 20 [d, .int .i64 0] τ_72 fun v84_75 τ_76 => pu (aExtract v84_75 0) fun v85_77 => pu (aExtract v84_75 1) fun v86_78 => pu (aBin (some (.int .i64)) .eql v86_78 (.int .i64 0)) fun v88_81 =>
        wG v88_81 (E 19 [d] τ_76 fun v91_83 τ_84 => pu (aBin (some (.int .i64)) .eql v91_83 (.int .i64 0)) fun v92_85 => v92_85 = .bool true) (Value.bool false = .bool true) (wB v88_81 fun b_88 => cond b_88 skipV (.bool false) = .bool true) := by
    intro τ l' hτ
    refine crash_ok (picks := []) hτ 1 rfl hD hm (fun _ _ => Rd.nil _ _) ?_
    intro σ2 h2
    have hD2 : (D.crash []).Ok 3 := ⟨hD.lo, hD.hi, crashed_length _ _ _ _ hD.len hD.fly, fun f hf => by simp [DM.crash] at hf⟩
    have hr2 : (D.crash []).ready 0 = 0 := ready_in hD2 (a := 0) (by omega)
    refine read_yes h2 1 rfl hD2 (by simp [DM.crash]) hr2 ?_
    intro w σ3 h3
    simp
    refine flight_ok h3 1 rfl ?_
    simp [DM.crash]
  cases hoff : D.off with
  | true =>
    rw [hoff] at hready
    refine read_no h 1 rfl hD (by rw [hready]; decide) ?_
    simp
    refine off_ok h 1 rfl ?_
    simp [hready, hoff]
    have := hlast σ [] h
    simpa using this
  | false =>
    rw [hoff] at hready
    refine read_yes h 1 rfl hD hm (by rw [hready]; decide) ?_
    intro w σ1 h1
    simp
    refine off_ok h1 1 rfl ?_
    simp [hoff]
    have := hlast σ1 _ h1
    simpa using this

theorem diskFuse_ev {n : UInt8} {v : Value} {L : List ActM} (h : H [ActsA v L] σ) : E 4 [by8 n, v] σ fun r _ => r = .bool true := by
  obtain ⟨va, vc, rfl⟩ := h.rows_form 0 rfl
  apply s4_ev; unfold s4
  refine new_yes (n := 3) h (by omega) ?_
  intro d σ1 h1
  simp
  refine E_true rfl ?_
  simp
  unfold s4k3
  have hn8 := by8_lt n
  simp [by8]
  rw [wrap_i64 (by omega)]
  refine fuse_ok h1 1 rfl ?_
  intro σ2 h2
  try simp
  have hd0 : ((DM.new 3).setFuse n.toNat).Ok 3 := by
    have := new_Ok 3 (by omega)
    exact ⟨this.lo, this.hi, this.len, this.fly⟩
  let J : DM → List Assn := fun D => [ActsA (.slice va L.length vc) L, Disk d D]
  refine ⟨fun m x0 x5 x7 x28 x29 x30 τ => ∃ (k left : Nat) (D : DM), m = L.length - k ∧ k ≤ L.length ∧ k ≤ 300 ∧ x0 = .int .u8 n.toNat ∧ d = x5 ∧ x7 = .int .i64 left ∧ x28 = .slice va L.length vc ∧ x29 = .int .i64 L.length ∧ x30 = .int .i64 k ∧
    H (J D) τ ∧ D.Ok 3 ∧ FuseR n.toNat left D ∧ D.fly.length ≤ 4 * k ∧ left ≤ 255 ∧ D.fuse ≤ 255, ⟨_, 0, n.toNat, (DM.new 3).setFuse n.toNat, rfl, by omega, by omega, rfl, rfl, rfl, rfl, rfl, rfl, h2, hd0, ?_, by simp [DM.setFuse, DM.new], by omega, by simp [DM.setFuse]; omega⟩, ?_⟩
  · rcases Nat.eq_zero_or_pos n.toNat with hz | hp
    · exact .inl ⟨hz, by simp [DM.setFuse, hz], rfl, hz⟩
    · exact .inr ⟨hp, .inl ⟨rfl, by simp [DM.setFuse], hp⟩⟩
  · rintro m _ _ _ _ _ _ τ ⟨k, left, D, rfl, hk, hk3, rfl, rfl, rfl, rfl, rfl, rfl, h, hD, hF, hfl, hleft, hfz⟩
    suffices hb : ∀ N : Value → Value → Value → Value → Value → Value → AHeap → Prop, (∀ τ' left' D', k < L.length → k < 300 → H (J D') τ' → D'.Ok 3 → FuseR n.toNat left' D' → D'.fly.length ≤ 4 * (k + 1) → left' ≤ 255 → D'.fuse ≤ 255 →
        N (.int .u8 n.toNat) d (.int .i64 left') (.slice va L.length vc) (.int .i64 L.length) (.int .i64 (k + 1 : Nat)) τ') → s4b1 N (fun r _ => r = .bool true) (.int .u8 n.toNat) d (.int .i64 left) (.slice va L.length vc) (.int .i64 L.length) (.int .i64 k) τ from
      hb _ fun τ' left' D' hlt h3 h' a b c e f => ⟨_, by omega, k + 1, left', D', rfl, by omega, by omega, rfl, rfl, rfl, rfl, rfl, rfl, h', a, b, c, e, f⟩
    intro N hN
    unfold s4b1
    simp
    refine wC_dec (fun hlt => ?_) fun hlt => fuse_end h hD (by omega)
    have hm := List.getElem?_eq_getElem hlt
    obtain ⟨ab, cs, a1, a2, a3, a4, a5⟩ := h.rows_elem 0 rfl hm
    obtain ⟨bv', ha1⟩ := H_ex.1 a5
    rw [H_sep] at ha1
    obtain ⟨⟨rfl, hw, hat⟩, ha⟩ := H_pure.1 ha1
    obtain ⟨ba, bc, rfl⟩ := ha.rows_form 0 rfl
    clear a5 ha1
    generalize L[k] = A at *
    simp [a1, a2]
    refine new_ok h ?_
    intro tb σ3 h3
    refine storeN h3 2 rfl (by simp) (by omega) (by simp [by8]) (by simp) ?_
    intro σ4 h4
    have t0 := load1 (n := 1) (o := 0) (h4.row 2 rfl)
    have t1 := load1 (n := 1) (o := 1) (h4.row 2 rfl)
    have t2 := load1 (n := 1) (o := 2) (h4.row 2 rfl)
    try simp
    refine wC_dec (fun h300 => fuse_end (h4.pick [0, 1] (by decide)) hD (by omega)) fun h300 => ?_
    -- what follows either call
    have tail : ∀ (e : Int) (D' : DM) τ', H (J D') τ' → D'.Ok 3 → D'.fly.length ≤ 4 * (k + 1) → D'.fuse ≤ 255 → D'.off = (if D.off then true else D.burn.1.off) → D'.fuse = (if D.off then D.fuse else D.burn.1.fuse) → (e = if D.off then 9 else if D.burn.2 then 0 else 9) →
        s4k21 N (fun r _ => r = .bool true) (.int .u8 n.toNat) (.int .i64 left) (.int .i64 e) d (.slice va L.length vc) (.int .i64 L.length) (.int .i64 k) undef τ' := by
      intro e D' τ' hh hD' hfew hfz' ho hfu he
      obtain ⟨left', hst, hR⟩ := fuse_step hD hF D' e ho hfu he
      have fin : ∀ x, s4k28 N (fun r _ => r = .bool true) (.bool false) (.int .u8 n.toNat) d (.int .i64 left') (.slice va L.length vc) (.int .i64 L.length) (.int .i64 k) x τ' := by
        intro x
        unfold s4k28
        simp
        rw [wrap_i64 (by omega)]
        refine hN τ' left' D' hlt (by omega) hh hD' hR hfew ?_ hfz'
        split at hst <;> omega
      have k27 : ∀ (w : Int) x, e = w → (D'.off = decide (w = 9)) → s4k27 N (fun r _ => r = .bool true) (.int .i64 e) (.int .i64 w) (.int .u8 n.toNat) d (.int .i64 left') (.slice va L.length vc) (.int .i64 L.length) (.int .i64 k) x τ' := by
        intro w x hew how
        unfold s4k27
        simp [hew]
        refine off_ok hh 1 rfl ?_
        simp [how]
        exact fin _
      unfold s4k21
      simp
      refine wC_dec (fun hp => ?_) fun hp => ?_
      · have hp : 0 < n.toNat := by omega
        rw [if_pos hp] at hst
        obtain ⟨rfl, hst2, hst3⟩ := hst
        have k25 : ∀ x, s4k25 N (fun r _ => r = .bool true) (.int .i64 (left - 1 : Nat)) (.int .i64 e) (.int .u8 n.toNat) d (.slice va L.length vc) (.int .i64 L.length) (.int .i64 k) x (.int .i64 0) τ' := by
          intro x
          unfold s4k25
          simp
          refine wC_dec (fun hz => ?_) fun hz => ?_
          · have hz : left - 1 = 0 := by omega
            exact k27 9 _ (by rw [hst2, if_pos hz]) (by rw [hst3]; simp [hz])
          · have hz : ¬ left - 1 = 0 := by omega
            exact k27 0 _ (by rw [hst2, if_neg hz]) (by rw [hst3]; simp [hz])
        refine wC_dec (fun hl => ?_) fun hl => ?_
        · rw [wrap_i64 (by omega)]
          have : (left : Int) - 1 = ((left - 1 : Nat) : Int) := by omega
          rw [this]
          exact k25 _
        · have : (left : Int) = ((left - 1 : Nat) : Int) := by omega
          rw [this]
          exact k25 _
      · have hp : ¬ 0 < n.toNat := by omega
        rw [if_neg hp] at hst
        obtain ⟨rfl, rfl, hst3⟩ := hst
        exact k27 0 _ rfl (by rw [hst3]; rfl)
    simp [t0, splice]
    refine wC_dec (fun h2 => ?_) fun h2 => ?_
    · simp [t1, t2, splice]
      refine within_ok (n := 3) (by omega) ?_
      intro a ha3
      simp [t2, splice, veq1, veq, veq0, by8]
      refine full_ok h4 ?_
      intro w σ5 h5
      refine write_ok (bs := List.replicate 256 A.X) h5 1 rfl hD (by omega) (by omega) (by simp) (fun τ hτ => hτ.own_rd 3 rfl) ?_
      intro σ6 h6
      have hl256 : (List.replicate 256 A.X).length = 256 := List.length_replicate
      obtain ⟨b1, b2, b3⟩ := write_tells hD ha3 hl256
      have := write_few D a (List.replicate 256 A.X)
      exact tail _ _ _ (h6.pick [0, 1] (by decide)) (write_Ok hD _ _) (by omega) (by omega) b1 b2 b3
    · refine barrier_ok h4 1 rfl hD (by omega) (by omega) ?_
      · intro σ5 h5
        obtain ⟨b1, b2, b3⟩ := barrier_tells hD
        have := barrier_few D
        exact tail _ _ _ (h5.pick [0, 1] (by decide)) (barrier_Ok hD) (by omega) (by omega) b1 b2 b3
end Go.Ax.YtfeamgocomlepaaC
