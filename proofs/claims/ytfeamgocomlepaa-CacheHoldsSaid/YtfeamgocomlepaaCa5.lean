/- Texts of one proof, joined: D3 Aw6 Cx2 L0 L1 K1 K2 H1 R1 R2 H2 H3 H4 H5 H6 H7. -/
import Derived.Test.YtfeamgocomlepaaCa4
import Derived.Deep.Slices
import Derived.ChangeArms
import Derived.ChangeStays
import Derived.ReadAgain
import GoSem.ClaimJoined
import Derived.Test.YtfeamgocomlepaaChecked
/- Contracts of the disk's functions: Barrier, Crash, Read, Copy, Write. No statement of the seat is proved here. -/
set_option maxRecDepth 100000
namespace Go.Ax.YtfeamgocomlepaaC
open Go.Proofs

variable {l : List Assn} {σ : AHeap} {Q : WK}

theorem barrier_ok {v : Value} {D : DM} {n : Nat} (h : H l σ) (i : Nat) (hi : l[i]? = some (Disk v D)) (hD : D.Ok n) (hf : D.fuse < 9223372036854775808) (hm : D.fly.length < 1099511627776)
    (hk : ∀ σ', H (l.set i (Disk v D.barrier.1)) σ' → Q (.int .i64 D.barrier.2) σ') : E 18 [v] σ Q := by
  apply s18_ev; unfold s18
  refine ready_ok h i hi hD ?_
  simp
  have hself : l.set i (Disk v D) = l := by
    apply List.ext_getElem?
    intro j
    rw [List.getElem?_set]
    split
    · rename_i e; subst e; split
      · exact hi.symm
      · rename_i hh; exact absurd (List.getElem?_eq_some_iff.1 hi).1 hh
    · rfl
  by_cases hr : D.ready 0 = 0
  · simp only [hr, decide_true, Bool.not_true, wC_false]
    have hlt := (List.getElem?_eq_some_iff.1 hi).1
    refine burn_ok h i hi hf (fun hb σ1 h1 => ?_) fun hb σ1 h1 => ?_
    · have hi2 : (l.set i (Disk v D.burn.1))[i]? = some (Disk v D.burn.1) := by simp [hlt]
      have hD2 : D.burn.1.Ok n := by
        unfold DM.burn; split
        · exact hD
        · split <;> exact ⟨hD.lo, hD.hi, hD.len, hD.fly⟩
      have hfl : D.burn.1.fly = D.fly := by unfold DM.burn; split; rfl; split <;> rfl
      refine land_ok h1 i hi2 hD2 (by rw [hfl]; exact hm) ?_
      intro σ2 h2
      rw [List.set_set] at h2
      have e : D.barrier = (D.burn.1.land, 0) := by simp [DM.barrier, hr, hb]
      rw [e] at hk
      exact hk _ h2
    · have e : D.barrier = (D.burn.1, 9) := by simp [DM.barrier, hr, hb]
      rw [e] at hk
      exact hk _ h1
  · simp only [hr, decide_false, Bool.not_false, wC_true]
    have e : D.barrier = (D, D.ready 0) := by simp [DM.barrier, hr]
    rw [e] at hk
    exact hk _ (by rw [hself]; exact h)

theorem crash_ok {v pv : Value} {D : DM} {n : Nat} {picks : List UInt8} (h : H l σ) (i : Nat) (hi : l[i]? = some (Disk v D)) (hD : D.Ok n) (hm : D.fly.length < 1099511627776)
    (hp : ∀ τ, H (l.set i emp) τ → Rd τ pv picks) (hk : ∀ σ', H (l.set i (Disk v (D.crash picks))) σ' → Q (.tuple #[]) σ') : E 22 [v, pv] σ Q := by
  obtain ⟨b, lv, fv, ss, rfl, hs, h⟩ := disk_out (h.out i hi)
  have hlen := hD.len
  have hn := hD.lo
  have hn2 := hD.hi
  apply s22_ev; unfold s22
  have r1 := load1 (n := 1) (o := 1) (h.row 0 rfl)
  obtain ⟨_, _, x, c, rfl⟩ := h.own_src 2 rfl
  obtain ⟨lb, lc, rfl, hcap, _⟩ := h.own_form 1 rfl (by omega)
  obtain ⟨pa, pc, rfl⟩ := (hp _ (h.beside 4 rfl)).form
  simp [r1]
  let J : Nat → List Assn := fun k => pt b (.cells [.slice (some ⟨lb, 0, none⟩) D.last.length lc, .slice x D.fly.length c, .int .i64 D.fuse, .bool D.off] 88 false) :: Own 5 1 (.slice (some ⟨lb, 0, none⟩) D.last.length lc) D.last.length (bv (crashed picks D.last 0 (D.fly.take k))) :: Own 110 2 (.slice x D.fly.length c) D.fly.length (flc D.fly ss) :: FlyA D.fly ss :: [Star (l.set i emp)]
  refine ⟨fun m x0 x1 x7 x8 x9 τ => ∃ k : Nat, m = D.fly.length - k ∧ k ≤ D.fly.length ∧ x0 = .pointer (some ⟨b, 0, none⟩) ∧ x1 = .slice pa picks.length pc ∧ x7 = .slice x D.fly.length c ∧ x8 = .int .i64 D.fly.length ∧ x9 = .int .i64 k ∧ H (J k) τ, ⟨_, 0, rfl, by omega, rfl, rfl, rfl, rfl, rfl, ?_⟩, ?_⟩
  · exact h
  · rintro m _ _ _ _ _ τ ⟨k, rfl, hkl, rfl, rfl, rfl, rfl, rfl, h⟩
    suffices hb : ∀ N : Value → Value → Value → Value → Value → AHeap → Prop, (∀ τ', k < D.fly.length → H (J (k + 1)) τ' →
        N (.pointer (some ⟨b, 0, none⟩)) (.slice pa picks.length pc) (.slice x D.fly.length c) (.int .i64 D.fly.length) (.int .i64 (k + 1 : Nat)) τ') → s22b1 N Q (.pointer (some ⟨b, 0, none⟩)) (.slice pa picks.length pc) (.slice x D.fly.length c) (.int .i64 D.fly.length) (.int .i64 k) τ from
      hb _ fun τ' hlt h' => ⟨_, by omega, k + 1, rfl, by omega, rfl, rfl, rfl, rfl, rfl, h'⟩
    intro N hN
    unfold s22b1
    simp
    have hok : ∀ f ∈ D.fly.take k, FlyOk n f := fun f hf => hD.fly f (List.mem_of_mem_take hf)
    have hll := crashed_length picks (D.fly.take k) D.last 0 hlen hok
    refine wC_dec (fun h1 => ?_) fun h1 => ?_
    · obtain ⟨b2, e1, e2, e3⟩ := h.own_elem 2 rfl (k := k) h1
      have hf := List.getElem?_eq_getElem h1
      have hsk := List.getElem?_eq_getElem (show k < ss.length by omega)
      have hfo := hD.fly _ (List.getElem_mem h1)
      rw [flc_get _ _ k _ _ hf hsk] at e2
      have hfit := hfo.fit
      have hl64 := hfo.len
      simp [e1, e2]
      refine new_ok h ?_
      intro tb σ1 h2
      obtain ⟨fb, fo, fcap, fc, hse, hfcap, hfr, hfd, hfl⟩ := fly_at h2 3 rfl hf hsk
      refine storeN h2 5 rfl (by simp) (by omega) (by simp [hse]) (by simp) ?_
      intro σ2 h3
      obtain ⟨fb, fo, fcap, fc, hse, hfcap, hfr, hfd, hfl⟩ := fly_at h3 3 rfl hf hsk
      have r0 := load1 (n := 1) (o := 0) (h3.row 0 rfl)
      have t0 := load1 (n := 1) (o := 0) (h3.row 5 rfl)
      have t1 := load1 (n := 1) (o := 1) (h3.row 5 rfl)
      obtain ⟨dc, hsl, _⟩ := slice_from (z := 1) (b := lb) (o := 0) (lo := (D.fly[k].1 : Int)) (k := .i64) hcap (by omega)
      -- what is laid, by the number
      have key : ∀ p : Nat, p < 256 → (p = 0 → cutOf picks k = 0) → (p = 1 → cutOf picks k = 64) → (1 < p → cutOf picks k = (p - 2) % 65) →
          s22k9 N Q (.int .i64 p) (.pointer (some ⟨b, 0, none⟩)) (.pointer (some ⟨tb, 0, none⟩)) (.int .i64 k) (.slice pa picks.length pc) (.slice x D.fly.length c) (.int .i64 D.fly.length) σ2 := by
        intro p hp256 hp0 hp1 hp2
        have hfin : ∀ τ, H (J (k + 1)) τ → s22k11 N Q (.int .i64 k) (.pointer (some ⟨b, 0, none⟩)) (.slice pa picks.length pc) (.slice x D.fly.length c) (.int .i64 D.fly.length) τ := by
          intro τ hτ
          unfold s22k11
          simp
          rw [wrap_i64 (by omega)]
          exact hN _ h1 hτ
        unfold s22k9
        simp
        refine wC_dec (fun g1 => ?_) fun g1 => ?_
        · have g1 : p = 1 := by omega
          simp [r0, t0, t1, splice, hsl, hse]
          have hmin : D.fly[k].snd.length.min (D.last.length - D.fly[k].fst) = 64 := by rw [hl64]; exact Nat.min_eq_left (by omega)
          refine copy_own (ys := bv D.fly[k].2) h3 1 rfl (by omega) (by rw [hmin, rob_src (n := 64) hfr hfd hfl (by omega), List.take_of_length_le (by omega)]) (bv_one _) (by simp; omega) ?_
          intro σ3 h4
          refine hfin _ ?_
          simp only [J]
          rw [crashed_take _ _ _ _ _ hf, hp1 g1, List.take_of_length_le (l := D.fly[k].2) (by omega), ← splice_put]
          exact h4.pick [0, 1, 2, 3, 4] (by decide)
        · refine wC_dec (fun g2 => ?_) fun g2 => ?_
          · have g2 : 1 < p := by omega
            have hw : IntKind.i64.wrap ((p : Int) - 2) = ((p - 2 : Nat) : Int) := by rw [wrap_i64 (by omega)]; omega
            have ht : ((p - 2 : Nat) : Int).tmod 65 = (((p - 2) % 65 : Nat) : Int) := rfl
            obtain ⟨ec, hse2, _⟩ := slice_to (z := 1) (b := fb) (o := fo) (n := D.fly[k].2.length) (c := fcap) (hi := (((p - 2) % 65 : Nat) : Int)) (k := .i64) hfcap (by omega) (by omega)
            simp only [Int.toNat_natCast] at hse2
            simp [r0, t0, t1, splice, hsl, hse, hw, -Int.natCast_emod]
            simp only [ht, hse2, pu_some]
            have hlt65 : (p - 2) % 65 ≤ 64 := by omega
            generalize (p - 2) % 65 = q at hlt65 hp2 hse2
            have hmin : Nat.min q (D.last.length - D.fly[k].fst) = q := Nat.min_eq_left (by omega)
            refine copy_own (ys := bv (D.fly[k].2.take q)) h3 1 rfl (by omega) (by rw [hmin, rob_src (n := q) hfr hfd hfl (by omega)]) (bv_one _) (by simp; omega) ?_
            intro σ3 h4
            refine hfin _ ?_
            simp only [J]
            rw [crashed_take _ _ _ _ _ hf, hp2 g2, ← splice_put]
            exact h4.pick [0, 1, 2, 3, 4] (by decide)
          · have g3 : p = 0 := by omega
            refine hfin _ ?_
            simp only [J]
            rw [crashed_take _ _ _ _ _ hf, hp0 g3, List.take_zero, put_nil]
            exact h3.pick [0, 1, 2, 3, 4] (by decide)
      refine wC_dec (fun g1 => ?_) fun g1 => ?_
      · have hrd := hp _ (h3.beside 4 rfl)
        have hpk := List.getElem?_eq_getElem g1
        obtain ⟨pp, p1, p2⟩ := hrd.elem k _ hpk
        have hb8 := by8_lt picks[k]
        simp [p1, p2, by8]
        rw [wrap_i64 (by omega)]
        refine key picks[k].toNat (by omega) ?_ ?_ ?_
        · intro h0; simp [cutOf, hpk, h0]
        · intro h0; simp [cutOf, hpk, h0]
        · intro h0; simp only [cutOf, hpk]; rw [if_neg (by omega), if_neg (by omega)]
      · have hpk : picks[k]? = none := List.getElem?_eq_none (by omega)
        exact key 0 (by omega) (fun _ => by simp [cutOf, hpk]) (by omega) (by omega)
    · have : k = D.fly.length := by omega
      subst this
      refine store1 (o := 1) (v := .slice none 0 0) h 0 rfl rfl (by simp) ?_
      intro σ1 h2
      try simp
      refine store1 (o := 2) (v := .int .i64 0) h2 0 rfl rfl (by simp) ?_
      intro σ2 h3
      try simp
      refine store1 (o := 3) (v := .bool false) h3 0 rfl rfl (by simp) ?_
      intro σ3 h4
      refine hk _ (H.in' i hi (disk_in (.slice (some ⟨lb, 0, none⟩) D.last.length lc) (.slice none 0 0) [] rfl ?_))
      have h5 := (h4.own_nil 110 2).emp_end.pick [0, 1, 5, 6, 4] (by decide)
      have e : (crashed picks D.last 0 D.fly).length = D.last.length := by rw [crashed_length picks D.fly D.last 0 hlen hD.fly, hlen]
      simp only [J, List.take_length] at h5
      simpa [Ax.picks, DiskP, DM.crash, FlyA, flc, e] using h5

theorem read_no {v : Value} {D : DM} {n : Nat} {a : Int} (h : H l σ) (i : Nat) (hi : l[i]? = some (Disk v D)) (hD : D.Ok n) (hr : D.ready a ≠ 0) (hk : Q (.tuple #[.slice none 0 0, .int .i64 (D.ready a)]) σ) : E 20 [v, .int .i64 a] σ Q := by
  apply s20_ev; unfold s20
  refine ready_ok h i hi hD ?_
  simp [hr]
  exact hk
theorem read_yes {v : Value} {D : DM} {n : Nat} {a : Int} (h : H l σ) (i : Nat) (hi : l[i]? = some (Disk v D)) (hD : D.Ok n) (hm : D.fly.length < 1099511627776) (hr : D.ready a = 0)
    (hk : ∀ w σ', H (l ++ [Own 5 1 w 256 (bv (D.block a.toNat))]) σ' → Q (.tuple #[w, .int .i64 0]) σ') : E 20 [v, .int .i64 a] σ Q := by
  apply s20_ev; unfold s20
  refine ready_ok h i hi hD ?_
  simp [hr]
  have hlen := hD.len
  have hn := hD.lo
  have hn2 := hD.hi
  have ha : 0 ≤ a ∧ a < n := by
    unfold DM.ready at hr
    split at hr
    · simp at hr
    · split at hr
      · simp at hr
      · rename_i hx
        have : D.last.length / 256 = n := by omega
        omega
  have h0 := h
  obtain ⟨b, lv, fv, ss, rfl, hs, h⟩ := disk_out (h.out i hi)
  have r0 := load1 (n := 1) (o := 0) (h.row 0 rfl)
  have r1 := load1 (n := 1) (o := 1) (h.row 0 rfl)
  obtain ⟨_, _, x, c, rfl⟩ := h.own_src 2 rfl
  obtain ⟨lb, lc, rfl, hcap, rest, hrow⟩ := h.own_form 1 rfl (by omega)
  obtain ⟨A, rfl⟩ : ∃ A : Nat, a = A := ⟨a.toNat, by omega⟩
  simp at hk
  rw [wrap_i64 (by omega), wrap_i64 (by omega)]
  obtain ⟨dc, hsl, _⟩ := slice_mid (z := 1) (b := lb) (o := 0) (lo := (A : Int) * 256) (hi := (A : Int) * 256 + 256) (k := .i64) (k' := .i64) hcap (by omega)
  have e1 : ((A : Int) * 256 + 256).toNat - ((A : Int) * 256).toNat = 256 := by omega
  have e2 : ((A : Int) * 256).toNat = A * 256 := by omega
  rw [e1, e2] at hsl
  simp [r0, hsl]
  refine clone_ok (bs := (D.last.drop (A * 256)).take 256) h (n := 256) ?_ (by omega) ?_
  · rw [src_row hrow (by simp; omega), List.drop_append_of_le_length (by simp; omega), List.take_append_of_le_length (by simp; omega)]; simp
  intro w σ1 h1
  have r1 := load1 (n := 1) (o := 1) (h1.row 0 rfl)
  simp [r1]
  let J : Nat → List Assn := fun k => pt b (.cells [.slice (some ⟨lb, 0, none⟩) D.last.length lc, .slice x D.fly.length c, .int .i64 D.fuse, .bool D.off] 88 false) :: Own 5 1 (.slice (some ⟨lb, 0, none⟩) D.last.length lc) D.last.length (bv D.last) :: Own 110 2 (.slice x D.fly.length c) D.fly.length (flc D.fly ss) :: FlyA D.fly ss :: [Star (l.set i emp), Own 5 1 w 256 (bv (over (A * 256) ((D.last.drop (A * 256)).take 256) (D.fly.take k)))]
  obtain ⟨wb, wc, rfl, hwcap, _⟩ := h1.own_form 5 rfl (by omega)
  refine ⟨fun m x0 x1 x7 x8 x9 τ => ∃ k : Nat, m = D.fly.length - k ∧ k ≤ D.fly.length ∧ x0 = .int .i64 ((A : Int) * 256) ∧ x1 = .slice (some ⟨wb, 0, none⟩) 256 wc ∧ x7 = .slice x D.fly.length c ∧ x8 = .int .i64 D.fly.length ∧ x9 = .int .i64 k ∧ H (J k) τ, ⟨_, 0, rfl, by omega, rfl, rfl, rfl, rfl, rfl, ?_⟩, ?_⟩
  · exact h1
  · rintro m _ _ _ _ _ τ ⟨k, rfl, hkl, rfl, rfl, rfl, rfl, rfl, h⟩
    suffices hb : ∀ N : Value → Value → Value → Value → Value → AHeap → Prop, (∀ τ', k < D.fly.length → H (J (k + 1)) τ' →
        N (.int .i64 ((A : Int) * 256)) (.slice (some ⟨wb, 0, none⟩) 256 wc) (.slice x D.fly.length c) (.int .i64 D.fly.length) (.int .i64 (k + 1 : Nat)) τ') → s20b1 N Q (.int .i64 ((A : Int) * 256)) (.slice (some ⟨wb, 0, none⟩) 256 wc) (.slice x D.fly.length c) (.int .i64 D.fly.length) (.int .i64 k) τ from
      hb _ fun τ' hlt h' => ⟨_, by omega, k + 1, rfl, by omega, rfl, rfl, rfl, rfl, rfl, h'⟩
    intro N hN
    unfold s20b1
    simp
    have hov : (over (A * 256) ((D.last.drop (A * 256)).take 256) (D.fly.take k)).length = 256 := by
      refine over_length _ _ _ (by simp; omega) (fun f hf => (hD.fly f (List.mem_of_mem_take hf)).len) fun f hf g1 g2 => ?_
      have := (hD.fly f (List.mem_of_mem_take hf)).al
      omega
    refine wC_dec (fun h1 => ?_) fun h1 => ?_
    · obtain ⟨b2, e1, e2, e3⟩ := h.own_elem 2 rfl (k := k) h1
      have hf := List.getElem?_eq_getElem h1
      have hsk := List.getElem?_eq_getElem (show k < ss.length by omega)
      have hfo := hD.fly _ (List.getElem_mem h1)
      rw [flc_get _ _ k _ _ hf hsk] at e2
      have hfit := hfo.fit
      have hl64 := hfo.len
      have hal := hfo.al
      simp [e1, e2]
      refine new_ok h ?_
      intro tb σ1 h2
      obtain ⟨fb, fo, fcap, fc, hse, hfcap, hfr, hfd, hfl⟩ := fly_at h2 3 rfl hf hsk
      refine storeN h2 6 rfl (by simp) (by omega) (by simp [hse]) (by simp) ?_
      intro σ2 h3
      obtain ⟨fb, fo, fcap, fc, hse, hfcap, hfr, hfd, hfl⟩ := fly_at h3 3 rfl hf hsk
      have t0 := load1 (n := 1) (o := 0) (h3.row 6 rfl)
      have t1 := load1 (n := 1) (o := 1) (h3.row 6 rfl)
      have hfin : ∀ τ, H (J (k + 1)) τ → s20k12 N Q (.int .i64 k) (.int .i64 ((A : Int) * 256)) (.slice (some ⟨wb, 0, none⟩) 256 wc) (.slice x D.fly.length c) (.int .i64 D.fly.length) τ := by
        intro τ hτ
        unfold s20k12
        simp
        rw [wrap_i64 (by omega)]
        exact hN _ h1 hτ
      simp [t0, splice]
      refine wG_dec (fun g1 => ?_) fun g1 => ?_
      · try simp [t0, splice]
        rw [wrap_i64 (by omega)]
        unfold s20k11
        simp
        refine wC_dec (fun g2 => ?_) fun g2 => ?_
        · have g1' : A * 256 ≤ D.fly[k].1 := by omega
          obtain ⟨dc, hsl, _⟩ := slice_from (z := 1) (b := wb) (o := 0) (lo := ((D.fly[k].1 - A * 256 : Nat) : Int)) (k := .i64) hwcap (by omega)
          have hw : IntKind.i64.wrap ((D.fly[k].1 : Int) - (A : Int) * 256) = ((D.fly[k].1 - A * 256 : Nat) : Int) := by rw [wrap_i64 (by omega)]; omega
          simp only [Int.toNat_natCast] at hsl
          simp [t0, t1, splice, hw, hsl, hse]
          have hmin : Nat.min D.fly[k].2.length (256 - (D.fly[k].1 - A * 256)) = 64 := by rw [hl64]; exact Nat.min_eq_left (by omega)
          refine copy_own (ys := bv D.fly[k].2) h3 5 rfl (by omega) (by rw [hmin, rob_src (n := 64) hfr hfd hfl (by omega), List.take_of_length_le (by omega)]) (bv_one _) (by simp; omega) ?_
          intro σ3 h4
          refine hfin _ ?_
          simp only [J]
          rw [over_take _ _ _ _ _ hf, if_pos (by omega), ← splice_put]
          exact h4.pick [0, 1, 2, 3, 4, 5] (by decide)
        · refine hfin _ ?_
          simp only [J]
          rw [over_take _ _ _ _ _ hf, if_neg (by omega)]
          exact h3.pick [0, 1, 2, 3, 4, 5] (by decide)
      · try simp
        unfold s20k11
        simp
        refine hfin _ ?_
        simp only [J]
        rw [over_take _ _ _ _ _ hf, if_neg (by omega)]
        exact h3.pick [0, 1, 2, 3, 4, 5] (by decide)
    · have : k = D.fly.length := by omega
      subst this
      refine hk _ _ (in_self i hi (disk_in (.slice (some ⟨lb, 0, none⟩) D.last.length lc) (.slice x D.fly.length c) ss hs ?_))
      simp only [J, List.take_length] at h
      exact h

/-! ### Copy -/
theorem flc_one : ∀ {fs : List Flight} {ss : List Value} {l : List Assn} {σ : AHeap}, H (FlyA fs ss :: l) σ → (flc fs ss).all one = true
  | [], _, l, σ, _ => by simp [flc]
  | _ :: _, [], l, σ, _ => by simp [flc]
  | f :: fs, s :: ss, l, σ, h => by
    simp only [FlyA, H_sep] at h
    obtain ⟨_, _, _, _, e, _⟩ := h.second.rob0
    have := flc_one h.tail
    simp only [flc, List.all_cons, Bool.and_eq_true]
    exact ⟨rfl, by rw [e]; rfl, this⟩
theorem clone2_ok {v : Value} {n : Nat} {ys : List Value} (h : H l σ) (hs : srcOf 2 v σ = some (n, ys)) (hf : ∃ a c, v = .slice a n c) (hone : ys.all one = true) (hn : n ≤ 1099511627776)
    (hk : ∀ w σ', H (l ++ [Own 110 2 w n ys]) σ' → Q w σ') : E 73 [v] σ Q := by
  obtain ⟨a, c, rfl⟩ := hf
  apply s73_ev; unfold s73
  cases a with
  | none =>
    simp
    have : n = 0 ∧ ys = [] := by
      simp only [srcOf] at hs
      split at hs
      · rename_i e; subst e
        simp only [Option.some.injEq, Prod.mk.injEq] at hs
        exact ⟨rfl, hs.2.symm⟩
      · cases hs
    obtain ⟨rfl, rfl⟩ := this
    exact hk _ _ (h.own_nil 110 2)
  | some a =>
    simp
    refine append_own (n := 0) (xs := []) (h.own_zb 110 2) l.length (by simp) hs (by omega) (by omega) hone ?_
    intro v' σ' h'
    simp at h'
    exact hk _ _ h'
theorem own_one {i : Nat} {e z n : Nat} {v : Value} {xs : List Value} (h : H l σ) (hi : l[i]? = some (Own e z v n xs)) : one v = true := by
  obtain ⟨_, _, a, c, rfl⟩ := h.own_src i hi; rfl
theorem diskcopy_ok {v : Value} {D : DM} {n : Nat} (h : H l σ) (i : Nat) (hi : l[i]? = some (Disk v D)) (hD : D.Ok n) (hm : D.fly.length < 1099511627776) (hk : ∀ w σ', H (l ++ [Disk w D]) σ' → Q w σ') : E 34 [v] σ Q := by
  obtain ⟨b, lv, fv, ss, rfl, hs, h⟩ := disk_out (h.out i hi)
  have hlen := hD.len
  have hn := hD.lo
  have hn2 := hD.hi
  apply s34_ev; unfold s34
  have hlo := own_one h (i := 1) rfl
  have hfo := own_one h (i := 2) rfl
  have rA := loadN (n := 4) (o := 0) (h.row 0 rfl) (by simp)
  simp [rA]
  refine new_ok h ?_
  intro nb σ1 h1
  refine storeN h1 5 rfl (by simp) (by omega) (by simp [hlo, hfo]) (by simp) ?_
  intro σ2 h2
  have r0 := load1 (n := 1) (o := 0) (h2.row 0 rfl)
  have r1 := load1 (n := 1) (o := 1) (h2.row 0 rfl)
  simp [r0, r1]
  obtain ⟨hs1, _, la, lc, rfl⟩ := h2.own_src 1 rfl
  refine clone_ok h2 hs1 (by omega) ?_
  intro w1 σ3 h3
  have r1 := load1 (n := 1) (o := 1) (h3.row 0 rfl)
  obtain ⟨hs2, _, fa, fc, rfl⟩ := h3.own_src 2 rfl
  simp [r1, veq1, veq, veq0]
  have hw1 := own_one h3 (i := 6) rfl
  refine clone2_ok h3 hs2 ⟨_, _, rfl⟩ (flc_one (h3.front 3 rfl)) (by omega) ?_
  intro w2 σ4 h4
  have hw2 := own_one h4 (i := 7) rfl
  try simp
  refine store1 (o := 0) h4 5 rfl hw1 (by simp [splice]) ?_
  intro σ5 h5
  try simp
  refine store1 (o := 1) h5 5 rfl hw2 (by simp [splice]) ?_
  intro σ6 h6
  refine hk _ _ (in_self i hi (disk_in (.slice la D.last.length lc) (.slice fa D.fly.length fc) ss hs ?_))
  have h7 := (h6.dup 3 rfl (FlyA.dup _ _)).pick [5, 6, 7, 8, 0, 1, 2, 3, 4] (by decide)
  have h8 := disk_in (b := nb) (D := D) w1 w2 ss hs h7
  exact h8.pick [1, 2, 3, 4, 5, 0] (by decide)
theorem diskcopy_nil (hk : Q (.pointer none) σ) : E 34 [.pointer none] σ Q := by
  apply s34_ev; unfold s34; simpa using hk

/-! ### Write -/
theorem parts_get (a : Nat) (bs : List UInt8) (k : Nat) (h : k < 4) : (parts a bs)[k]? = some (a * 256 + 64 * k, (bs.drop (64 * k)).take 64) := by
  have : k = 0 ∨ k = 1 ∨ k = 2 ∨ k = 3 := by omega
  rcases this with rfl | rfl | rfl | rfl <;> rfl
theorem parts_take (a : Nat) (bs : List UInt8) (k : Nat) (h : k < 4) : (parts a bs).take (k + 1) = (parts a bs).take k ++ [(a * 256 + 64 * k, (bs.drop (64 * k)).take 64)] := by
  rw [List.take_add_one, parts_get a bs k h]; rfl

theorem fling_ok {v bv' : Value} {D : DM} {n a : Nat} {bs : List UInt8} {x0 x1 x2 : Nat} (h : H l σ) (i : Nat) (hi : l[i]? = some (Disk v D)) (hD : D.Ok n) (hm : D.fly.length < 1099511627776)
    (i0 : Nat) (h0 : l[i0]? = some (pt x0 (.cells [bv'] 23 false))) (i1 : Nat) (h1 : l[i1]? = some (pt x1 (.cells [v] 24 false))) (i2 : Nat) (h2 : l[i2]? = some (pt x2 (.cells [.int .i64 (a : Nat)] 3 false)))
    (n0 : i0 ≠ i) (n1 : i1 ≠ i) (n2 : i2 ≠ i) (hb : Rd σ bv' bs) (hbs : bs.length = 256) (ha : a < n)
    (hk : ∀ σ', H (l.set i (Disk v (D.fling a bs))) σ' → Q (.tuple #[]) σ') : E 66 [.pointer (some ⟨x0, 0, none⟩), .pointer (some ⟨x1, 0, none⟩), .pointer (some ⟨x2, 0, none⟩)] σ Q := by
  have hlen := hD.len
  have hn := hD.lo
  have hn2 := hD.hi
  have r0 := load1 (n := 1) (o := 0) (h.row i0 h0)
  apply s66_ev; unfold s66
  obtain ⟨hsrc, ⟨ba, bc, rfl⟩, _⟩ := hb
  simp [r0]
  obtain ⟨b, lv, fv, ss, rfl, hs, h⟩ := disk_out (h.out i hi)
  refine clone_ok h hsrc (by omega) ?_
  intro w σ1 h3
  obtain ⟨wb, wc, rfl, hwc, _⟩ := h3.own_form 5 rfl (by omega)
  -- the clone is never written again
  obtain ⟨rest, e5, opn5, h4⟩ : ∃ rest e opn, H [pt b (.cells [lv, fv, .int .i64 D.fuse, .bool D.off] 88 false), Own 5 1 lv D.last.length (bv D.last), Own 110 2 fv D.fly.length (flc D.fly ss), FlyA D.fly ss, Star (l.set i emp), ro wb (.cells (bv bs ++ rest) e opn)] σ1 := by
    rcases H_own.1 (h3.front 5 rfl) with ⟨⟨e, _⟩, _⟩ | ⟨b', c', opn, rest, h5, _, _, hv, _, _⟩
    · omega
    · cases hv
      exact ⟨rest, 5, opn, (h5.freeze 0 rfl).pick [1, 2, 3, 4, 5, 0] (by decide)⟩
  let J : Nat → Value → List Value → List Assn := fun k fv ss => [pt b (.cells [lv, fv, .int .i64 D.fuse, .bool D.off] 88 false), Own 5 1 lv D.last.length (bv D.last), Own 110 2 fv (D.fly.length + k) (flc (D.fly ++ (parts a bs).take k) ss), FlyA (D.fly ++ (parts a bs).take k) ss, Star (l.set i emp), ro wb (.cells (bv bs ++ rest) e5 opn5)]
  refine ⟨fun m y1 y2 y3 y4 τ => ∃ k : Nat, m = 4 - k ∧ k ≤ 4 ∧ y1 = .pointer (some ⟨x1, 0, none⟩) ∧ y2 = .pointer (some ⟨x2, 0, none⟩) ∧ y3 = .slice (some ⟨wb, 0, none⟩) bs.length wc ∧ y4 = .int .i64 (64 * k : Nat) ∧ ∃ fv ss, ss.length = D.fly.length + k ∧ H (J k fv ss) τ, ⟨_, 0, rfl, by omega, rfl, rfl, rfl, rfl, fv, ss, hs, ?_⟩, ?_⟩
  · simpa [J] using h4
  · rintro m _ _ _ _ τ ⟨k, rfl, hkl, rfl, rfl, rfl, rfl, fv, ss, hs, h⟩
    suffices hb : ∀ N : Value → Value → Value → Value → AHeap → Prop, (∀ τ' fv' ss', k < 4 → ss'.length = D.fly.length + (k + 1) → H (J (k + 1) fv' ss') τ' →
        N (.pointer (some ⟨x1, 0, none⟩)) (.pointer (some ⟨x2, 0, none⟩)) (.slice (some ⟨wb, 0, none⟩) bs.length wc) (.int .i64 (64 * (k + 1) : Nat)) τ') → s66b1 N Q (.pointer (some ⟨x1, 0, none⟩)) (.pointer (some ⟨x2, 0, none⟩)) (.slice (some ⟨wb, 0, none⟩) bs.length wc) (.int .i64 (64 * k : Nat)) τ from
      hb _ fun τ' fv' ss' hlt hs' h' => ⟨_, by omega, k + 1, rfl, by omega, rfl, rfl, rfl, rfl, fv', ss', hs', h'⟩
    intro N hN
    have hl : ∀ {τ : AHeap} {m : List Assn}, H (m ++ [Star (l.set i emp)]) τ → True := fun _ => trivial
    have hx : ∀ {τ : AHeap}, H (l.set i emp) τ → aLoad false 1 (.pointer (some ⟨x1, 0, none⟩)) τ = some (.pointer (some ⟨b, 0, none⟩)) ∧ aLoad false 1 (.pointer (some ⟨x2, 0, none⟩)) τ = some (.int .i64 (a : Nat)) := by
      intro τ hτ
      have g1 : (l.set i emp)[i1]? = some (pt x1 (.cells [.pointer (some ⟨b, 0, none⟩)] 24 false)) := by rw [List.getElem?_set_ne (Ne.symm n1)]; exact h1
      have g2 : (l.set i emp)[i2]? = some (pt x2 (.cells [.int .i64 (a : Nat)] 3 false)) := by rw [List.getElem?_set_ne (Ne.symm n2)]; exact h2
      have l1 := load1 (n := 1) (o := 0) (hτ.row i1 g1)
      have l2 := load1 (n := 1) (o := 0) (hτ.row i2 g2)
      exact ⟨by rw [l1]; rfl, by rw [l2]; rfl⟩
    unfold s66b1
    simp
    refine wC_dec (fun hlt => ?_) fun hlt => ?_
    · have hk4 : k < 4 := by omega
      obtain ⟨l1, l2⟩ := hx (h.beside 4 rfl)
      have b1 := load1 (n := 1) (o := 1) (h.row 0 rfl)
      obtain ⟨_, _, fa, fc, rfl⟩ := h.own_src 2 rfl
      have w1 : IntKind.i64.wrap ((a : Int) * 256) = (a : Int) * 256 := wrap_i64 (by omega)
      have w2 : IntKind.i64.wrap ((a : Int) * 256 + 64 * (k : Int)) = ((a * 256 + 64 * k : Nat) : Int) := by rw [wrap_i64 (by omega)]; omega
      have w3 : IntKind.i64.wrap (64 * (k : Int) + 64) = ((64 * (k + 1) : Nat) : Int) := by rw [wrap_i64 (by omega)]; omega
      have sl := slice_3 (z := 1) (b := wb) (o := 0) (n := bs.length) (c := wc) (lo := 64 * (k : Int)) (hi := ((64 * (k + 1) : Nat) : Int)) (mx := ((64 * (k + 1) : Nat) : Int)) (k := .i64) (k' := .i64) (k'' := .i64) hwc (by omega)
      have z1 : (64 * (k : Int)).toNat = 64 * k := by omega
      have z2 : ((64 * (k + 1) : Nat) : Int).toNat - 64 * k = 64 := by omega
      rw [z1, z2, Nat.zero_add, Nat.mul_one] at sl
      simp only [l1, l2, b1, w1, w2, w3, pu_some, nil_ptr, fieldAddr_ptr, bin_add, bin_mul, sl, Nat.zero_add, List.getElem?_cons_succ, List.getElem?_cons_zero]
      generalize hat : a * 256 + 64 * k = at'
      simp [splice]
      refine buildS_ok h (by rfl) (cs := [.int .i64 (at' : Nat), .slice (some ⟨wb, 64 * k, none⟩) 64 64]) (by simp [reps, splice]) ?_
      intro nb σ2 h5
      obtain ⟨l1, l2⟩ := hx (h5.beside 4 rfl)
      have b1 := load1 (n := 1) (o := 1) (h5.row 0 rfl)
      simp [l1, b1, veq1, veq, veq0]
      refine append_own h5 2 rfl (src_row (n := 1) (z := 2) (h5.row 6 rfl) (by simp)) (by omega) (by omega) (by simp) ?_
      intro fv' σ3 h6
      obtain ⟨l1, l2⟩ := hx (h6.beside 4 rfl)
      have hfv := own_one h6 (i := 2) rfl
      simp [l1]
      refine store1 (o := 1) h6 0 rfl hfv (by simp) ?_
      intro σ4 h7
      have hrob := (h7.dup 5 rfl (Dup.ro _ _)).unsnoc
      have h8 := rob_in (o := 64 * k) (cap := 64) (x := (bs.drop (64 * k)).take 64) (by simp [hbs]; rw [show min 64 (256 - 64 * k) = 64 by omega]; exact CapOk.exact (by unfold OPEN; omega)) (by
        simp only [List.length_take, List.length_drop, hbs]
        rw [show min 64 (256 - 64 * k) = 64 by omega, List.drop_append_of_le_length (by simp; omega), List.take_append_of_le_length (by simp; omega)]; simp) (by simp [hbs]; omega) hrob
      have h9 := h8.pick [1, 2, 3, 4, 0, 5, 6] (by decide)
      refine hN σ4 fv' (ss ++ [.slice (some ⟨wb, 64 * k, none⟩) 64 64]) hk4 (by simp [hs]; omega) ?_
      have hlk : ((parts a bs).take k).length = k := by simp [parts]; omega
      have e64 : ((bs.drop (64 * k)).take 64).length = 64 := by simp [hbs]; omega
      rw [e64] at h9
      simp only [J]
      rw [parts_take a bs k hk4, ← List.append_assoc, flc_append _ _ _ _ (by simp [hlk, hs]), FlyA_append _ _ _ _ (by simp [hlk, hs]), hat]
      have eF : ∀ (p : Nat) (y : List UInt8) (s : Value), FlyA [(p, y)] [s] = RoB s y := fun p y s => by
        simp only [FlyA]; rw [sep_comm, emp_sep]
      rw [eF]
      have h10 := (H_sep.2 (h9.pick [3, 4, 0, 1, 2, 5, 6] (by decide))).pick [1, 2, 3, 0, 4, 5] (by decide)
      exact h10
    · obtain rfl : k = 4 := by omega
      refine hk _ (H.in' i hi (disk_in lv fv ss ?_ ?_))
      · simpa [DM.fling, parts] using hs
      · have := h.pick [0, 1, 2, 3, 4] (by decide)
        simpa [Ax.picks, J, DiskP, DM.fling, parts] using this

theorem write_ok {v bv' : Value} {D : DM} {n : Nat} {a : Int} {bs : List UInt8} (h : H l σ) (i : Nat) (hi : l[i]? = some (Disk v D)) (hD : D.Ok n) (hf : D.fuse < 9223372036854775808) (hm : D.fly.length < 1099511627776) (hl : bs.length ≤ 140737488355328)
    (hb : ∀ τ, H (l.set i emp) τ → Rd τ bv' bs) (hk : ∀ σ', H (l.set i (Disk v (D.write a bs).1)) σ' → Q (.int .i64 (D.write a bs).2) σ') : E 15 [v, .int .i64 a, bv'] σ Q := by
  have hlt := (List.getElem?_eq_some_iff.1 hi).1
  obtain ⟨ba, bc, rfl⟩ := (hb σ (by
    have := (h.front i hi).tail
    exact this)).form
  obtain ⟨pb, hv⟩ : ∃ pb, v = .pointer (some ⟨pb, 0, none⟩) := by
    obtain ⟨b, _, _, _, e, _⟩ := disk_out (h.out i hi); exact ⟨b, e⟩
  subst hv
  have h' := h.out i hi
  apply s15_ev; unfold s15
  simp
  refine new_ok h' ?_
  intro x1 σ1 h1
  refine new_ok h1 ?_
  intro x2 σ2 h2
  refine new_ok h2 ?_
  intro x0 σ3 h3
  have q1 := load1 (n := 1) (o := 0) (h3.row 2 rfl)
  have q2 := load1 (n := 1) (o := 0) (h3.row 3 rfl)
  have q0 := load1 (n := 1) (o := 0) (h3.row 4 rfl)
  simp [q1, q2]
  have back : ∀ {τ D'}, H [Disk (.pointer (some ⟨pb, 0, none⟩)) D', Star (l.set i emp), pt x1 (.cells [.pointer (some ⟨pb, 0, none⟩)] 24 false), pt x2 (.cells [.int .i64 a] 3 false), pt x0 (.cells [.slice ba bs.length bc] 23 false)] τ → H (l.set i (Disk (.pointer (some ⟨pb, 0, none⟩)) D')) τ :=
    fun h => H.in' i hi (h.pick [0, 1] (by decide))
  refine ready_ok h3 0 rfl hD ?_
  simp
  by_cases hr : D.ready a = 0
  · simp [hr, q0]
    by_cases hbl : bs.length = 256
    · have hz : (256 : Int) = (bs.length : Int) := by omega
      simp [hbl, q1]
      refine burn_ok h3 0 rfl hf (fun hb1 σ4 h4 => ?_) fun hb1 σ4 h4 => ?_
      · have hD2 : D.burn.1.Ok n := by
          unfold DM.burn; split
          · exact hD
          · split <;> exact ⟨hD.lo, hD.hi, hD.len, hD.fly⟩
        have hfl : D.burn.1.fly = D.fly := by unfold DM.burn; split; rfl; split <;> rfl
        have ha : 0 ≤ a ∧ a < n := by
          have hlen := hD.len
          unfold DM.ready at hr
          split at hr
          · simp at hr
          · split at hr
            · simp at hr
            · rename_i hx
              have : D.last.length / 256 = n := by omega
              omega
        obtain ⟨A, rfl⟩ : ∃ A : Nat, a = A := ⟨a.toNat, by omega⟩
        refine fling_ok (bs := bs) h4 0 rfl hD2 (by rw [hfl]; exact hm) 4 rfl 2 rfl 3 rfl (by decide) (by decide) (by decide) (hb _ (h4.beside 1 rfl)) hbl (by omega) ?_
        intro σ5 h5
        have e : D.write A bs = (D.burn.1.fling A bs, 0) := by simp [DM.write, hr, hbl, hb1]
        rw [e] at hk
        exact hk _ (back h5)
      · have e : D.write a bs = (D.burn.1, 9) := by simp [DM.write, hr, hbl, hb1]
        rw [e] at hk
        exact hk _ (back h4)
    · have : ¬ (bs.length : Int) = 256 := by omega
      simp [this]
      have e : D.write a bs = (D, 1) := by simp [DM.write, hr, hbl]
      rw [e] at hk
      exact hk _ (back h3)
  · simp [hr]
    have e : D.write a bs = (D, D.ready a) := by simp [DM.write, hr]
    rw [e] at hk
    exact hk _ (back h3)
end Go.Ax.YtfeamgocomlepaaC
/- What an argument reads as, on the abstract heap: rows that stay as they are for ever. No statement of the seat is proved here. -/
namespace Go.Ax
open Go.RowKit Go.Deep

theorem Rel.pushRo {B : Nat} {w0 : World} {ρ : List RB} {σ : AHeap} {w : World} (h : Rel B w0 ρ σ w) {b off : Nat} {c : List Value} {c' : Array Value} {e : TypeId} {fz : Nat × Nat} (hb : w.heap[b]? = some (.cells c' e fz)) (hB : b < B) (ho : off + c.length ≤ c'.size)
    (hl : LR ρ c ((c'.toList.drop off).take c.length)) :
    Rel B w0 (ρ ++ [⟨b, off, c'.size⟩]) (σ.push (.ro c e)) w ∧ Ext ρ (ρ ++ [⟨b, off, c'.size⟩]) ∧ (ρ ++ [(⟨b, off, c'.size⟩ : RB)])[σ.size]? = some ⟨b, off, c'.size⟩ := by
  have hext := Ext.append ρ [⟨b, off, c'.size⟩]
  have hnew : (ρ ++ [(⟨b, off, c'.size⟩ : RB)])[σ.size]? = some ⟨b, off, c'.size⟩ := by rw [← h.len]; simp
  have old : ∀ {a : Nat} {q : AObj} {r : RB}, σ.get a = some q → (ρ ++ [(⟨b, off, c'.size⟩ : RB)])[a]? = some r → ρ[a]? = some r := by
    intro a q r y z
    obtain ⟨r0, y', _⟩ := h.obj a q y
    rw [hext _ _ y'] at z; cases z; exact y'
  refine ⟨⟨by simp [h.len], fun i q hi => ?_, fun i j oi oj ri rj hi hj wi wj ri' rj' e => ?_, h.below, h.base⟩, hext, hnew⟩
  · rw [AHeap.get_push] at hi
    split at hi
    · rename_i e1; subst e1; cases hi
      exact ⟨_, hnew, ⟨c', fz, hb, rfl, ho, hl.mono hext⟩, (fun x => by cases x), fun _ _ => hB⟩
    · obtain ⟨r, x1, x2, x3, x4⟩ := h.obj i q hi
      exact ⟨r, hext _ _ x1, x2.mono hext rfl, x3, x4⟩
  · rw [AHeap.get_push] at hi hj
    split at hi
    · cases hi; cases wi
    · split at hj
      · cases hj; cases wj
      · exact h.inj i j oi oj ri rj hi hj wi wj (old hi ri') (old hj rj') e
theorem H.pushRo {l : List Assn} {σ : AHeap} (h : H l σ) (o : AObj) : H (ro σ.size o :: l) (σ.push o) := (h.push o).unsnoc.freeze0

/-! ### Rows of an argument -/
def Zip {M : Type} (A : List Value → M → Assn) : List (List Value) → List M → Assn
  | c :: cs, m :: ms => sep (A c m) (Zip A cs ms)
  | _, _ => emp
theorem Zip.dup {M : Type} {A : List Value → M → Assn} (hA : ∀ c m, Dup (A c m)) : ∀ (cs : List (List Value)) (ms : List M), Dup (Zip A cs ms)
  | [], _ => by simpa [Zip] using Dup.emp
  | _ :: _, [] => by simpa [Zip] using Dup.emp
  | c :: cs, m :: ms => Dup.sep (hA c m) (Zip.dup hA cs ms)
theorem Zip.snoc {M : Type} {A : List Value → M → Assn} : ∀ (cs : List (List Value)) (ms : List M) (c : List Value) (m : M), cs.length = ms.length → Zip A (cs ++ [c]) (ms ++ [m]) = sep (A c m) (Zip A cs ms)
  | [], [], c, m, _ => rfl
  | [], _ :: _, c, m, h => by simp at h
  | _ :: _, [], c, m, h => by simp at h
  | x :: cs, y :: ms, c, m, h => by
    simp only [List.cons_append, Zip, Zip.snoc cs ms c m (by simpa using h)]
    rw [← sep_assoc, sep_comm (A x y), sep_assoc]
theorem zip0 {M : Type} {A : List Value → M → Assn} : ∀ {cs : List (List Value)} {ms : List M} {l : List Assn} {σ : AHeap} {k : Nat} {c : List Value} {m : M}, H (Zip A cs ms :: l) σ → cs[k]? = some c → ms[k]? = some m → H (A c m :: l) σ
  | [], _, l, σ, k, c, m, h, hc, hm => by simp at hc
  | _ :: _, [], l, σ, k, c, m, h, hc, hm => by simp at hm
  | x :: cs, y :: ms, l, σ, 0, c, m, h, hc, hm => by
    simp at hc hm; subst hc; subst hm
    simp only [Zip, H_sep] at h
    exact h.second
  | x :: cs, y :: ms, l, σ, k + 1, c, m, h, hc, hm => by
    simp at hc hm
    simp only [Zip, H_sep] at h
    exact zip0 h.tail hc hm

/-- A slice of an argument: z cells an element, by bytes an element. -/
def RowsA {M : Type} (z by' : Nat) (A : List Value → M → Assn) (v : Value) (L : List M) : Assn := fun r =>
  (r = Res.emp ∧ L = [] ∧ (v = .slice none 0 0 ∨ v = .slice (some ⟨ZB, 0, some 0⟩) 0 0)) ∨
  (∃ (id cap e : Nat) (css : List (List Value)), sep (ro id (.ro css.flatten e)) (Zip A css L) r ∧ v = .slice (some ⟨id, 0, none⟩) L.length cap ∧ L.length ≤ cap ∧ cap < OPEN ∧ css.length = L.length ∧ (∀ c ∈ css, c.length = z) ∧ L.length * by' ≤ reachBytes)
theorem RowsA.dup {M : Type} {z by' : Nat} {A : List Value → M → Assn} (hA : ∀ c m, Dup (A c m)) (v : Value) (L : List M) : Dup (RowsA z by' A v L) := by
  rintro r (⟨rfl, h⟩ | ⟨id, cap, e, css, h, k⟩)
  · exact ⟨_, _, Res.Join.emp_left _, .inl ⟨rfl, h⟩, .inl ⟨rfl, h⟩⟩
  · obtain ⟨a, b, j, x, y⟩ := Dup.sep (Dup.ro _ _) (Zip.dup hA _ _) r h
    exact ⟨a, b, j, .inr ⟨id, cap, e, css, x, k⟩, .inr ⟨id, cap, e, css, y, k⟩⟩
theorem H_rows {M : Type} {z by' : Nat} {A : List Value → M → Assn} {v : Value} {L : List M} {l : List Assn} {σ : AHeap} : H (RowsA z by' A v L :: l) σ ↔
    ((L = [] ∧ (v = .slice none 0 0 ∨ v = .slice (some ⟨ZB, 0, some 0⟩) 0 0)) ∧ H l σ) ∨
    (∃ (id cap e : Nat) (css : List (List Value)), H (ro id (.ro css.flatten e) :: Zip A css L :: l) σ ∧ v = .slice (some ⟨id, 0, none⟩) L.length cap ∧ L.length ≤ cap ∧ cap < OPEN ∧ css.length = L.length ∧ (∀ c ∈ css, c.length = z) ∧ L.length * by' ≤ reachBytes) := by
  constructor
  · rintro ⟨r, h, a, k, j, x | ⟨id, cap, e, css, x, y⟩, hk⟩
    · obtain ⟨rfl, x⟩ := x
      exact .inl ⟨x, r, h, by rw [j.emp_eq]; exact hk⟩
    · exact .inr ⟨id, cap, e, css, by rw [← H_sep]; exact ⟨r, h, a, k, j, x, hk⟩, y⟩
  · rintro (⟨x, r, h, hk⟩ | ⟨id, cap, e, css, hh, y⟩)
    · exact ⟨r, h, _, r, Res.Join.emp_left r, .inl ⟨rfl, x⟩, hk⟩
    · rw [← H_sep] at hh
      obtain ⟨r, h, a, k, j, x, hk⟩ := hh
      exact ⟨r, h, a, k, j, .inr ⟨id, cap, e, css, x, y⟩, hk⟩
theorem flatten_part {z : Nat} : ∀ {css : List (List Value)} {k : Nat} {c : List Value}, (∀ c ∈ css, c.length = z) → css[k]? = some c → (css.flatten.drop (k * z)).take z = c
  | [], k, c, _, h => by simp at h
  | x :: css, 0, c, h, hk => by
    simp at hk; subst hk
    simp [h x (by simp)]
  | x :: css, k + 1, c, h, hk => by
    simp at hk
    have hx := h x (by simp)
    rw [List.flatten_cons, show (k + 1) * z = x.length + k * z by rw [hx, Nat.succ_mul]; omega, List.drop_append, List.drop_of_length_le (by omega), List.nil_append]
    have : x.length + k * z - x.length = k * z := by omega
    rw [this]
    exact flatten_part (fun c hc => h c (by simp [hc])) hk
theorem flatten_len {z : Nat} : ∀ {css : List (List Value)}, (∀ c ∈ css, c.length = z) → css.flatten.length = css.length * z
  | [], _ => by simp
  | x :: css, h => by
    rw [List.flatten_cons, List.length_append, h x (by simp), flatten_len fun c hc => h c (by simp [hc]), List.length_cons, Nat.succ_mul]; omega
/-- Of such a slice: its form; an element: where it stands, what it reads, what is told of it. -/
theorem H.rows_form {M : Type} {z by' : Nat} {A : List Value → M → Assn} {v : Value} {L : List M} {l : List Assn} {σ : AHeap} (h : H l σ) (i : Nat) (hi : l[i]? = some (RowsA z by' A v L)) : ∃ a c, v = .slice a L.length c := by
  rcases H_rows.1 (h.front i hi) with ⟨⟨rfl, rfl | rfl⟩, _⟩ | ⟨id, cap, e, css, _, rfl, _⟩
  · exact ⟨_, _, rfl⟩
  · exact ⟨_, _, rfl⟩
  · exact ⟨_, _, rfl⟩
theorem H.rows_elem {M : Type} {z by' : Nat} {A : List Value → M → Assn} {v : Value} {L : List M} {l : List Assn} {σ : AHeap} (h : H l σ) (i : Nat) (hi : l[i]? = some (RowsA z by' A v L)) {k : Nat} {m : M} (hk : L[k]? = some m) :
    ∃ b cs, (∀ kd, aIndexAddr z v (.int kd k) = some (.pointer (some ⟨b, k * z, none⟩))) ∧ aLoad true z (.pointer (some ⟨b, k * z, none⟩)) σ = some (.agg cs.toArray) ∧
      (∀ m j, j < z → aLoad false m (.pointer (some ⟨b, k * z + j, none⟩)) σ = cs[j]?) ∧ cs.length = z ∧ H (A cs m :: l.set i emp) σ := by
  have hlt := (List.getElem?_eq_some_iff.1 hk).1
  rcases H_rows.1 (h.front i hi) with ⟨⟨rfl, _⟩, _⟩ | ⟨id, cap, e, css, h1, rfl, h2, h3, h4, h5, h6⟩
  · simp at hk
  · have hc := List.getElem?_eq_getElem (show k < css.length by omega)
    have hrow := row_ro h1.rget0.1
    have hfl := flatten_len h5
    have hkz : k * z + z ≤ css.flatten.length := by rw [hfl, ← Nat.succ_mul]; exact Nat.mul_le_mul_right _ (by omega)
    refine ⟨id, css[k], fun kd => ?_, ?_, fun m j hj => ?_, h5 _ (List.getElem_mem _), zip0 h1.tail hc hk⟩
    · rw [idxA (by omega)]; simp
    · rw [loadN hrow hkz, flatten_part h5 hc]
    · rw [load1 hrow]
      have := congrArg (·[j]?) (flatten_part h5 hc)
      simp only [List.getElem?_take, if_pos hj, List.getElem?_drop] at this
      exact this

/-! ### From the machine's memory -/
section
variable (P : Program)

/-- Values of a type, where they are read, stand for abstract ones of which A tells. -/
def AbsT (t : TypeId) {M : Type} (A : List Value → M → Assn) : Prop :=
  ∀ ⦃H' : Type⦄ ⦃enc : TypeId × Value → H'⦄ ⦃W : World⦄ ⦃base : Nat⦄ ⦃held : Bool⦄ ⦃n : Nat⦄ ⦃cs : List Value⦄ ⦃x : DataW H' × List MemPlace⦄ ⦃ρ : List RB⦄ ⦃σ : AHeap⦄, Rel W.heap.size W ρ σ W →
    DataW.trod enc P W base (fun _ => true) held n t cs = some x → (∀ w ∈ x.1.weights P t, w ≤ reachBytes) →
    ∃ ρ' σ' cs' m, Ext ρ ρ' ∧ Rel W.heap.size W ρ' σ' W ∧ LR ρ' cs' cs ∧ cs'.length = P.cellsOf t ∧ ∀ l, H l σ → H (A cs' m :: l) σ'
variable {P}

theorem AbsT.int {t : TypeId} {k : IntKind} (ht : P.underlying t = some (.int k)) (hc : P.cellsOf t = 1) : AbsT P t (M := Int) fun cs n => pure' (cs = [.int k n] ∧ (Lit.int k n).wf = true) := by
  intro H' enc W base held n cs x ρ σ hr h _
  obtain ⟨m, rfl, rfl, hw⟩ := DataW.trod_int ht h
  exact ⟨ρ, σ, [.int k m], m, Ext.refl _, hr, LR.cons (.int _ _) (LR.nil _), by simp [hc], fun l hl => H_pure.2 ⟨⟨rfl, hw⟩, hl⟩⟩
theorem AbsT.u8 {t : TypeId} (ht : P.underlying t = some (.int .u8)) (hc : P.cellsOf t = 1) : AbsT P t (M := UInt8) fun cs b => pure' (cs = [by8 b]) := by
  intro H' enc W base held n cs x ρ σ hr h _
  obtain ⟨m, rfl, rfl, hw⟩ := DataW.trod_int ht h
  have hm : 0 ≤ m ∧ m < 256 := by
    simp [Lit.wf, IntKind.min, IntKind.max, IntKind.signed, IntKind.bits] at hw; omega
  refine ⟨ρ, σ, [.int .u8 m], UInt8.ofNat m.toNat, Ext.refl _, hr, LR.cons (.int _ _) (LR.nil _), by simp [hc], fun l hl => H_pure.2 ⟨?_, hl⟩⟩
  simp only [by8, UInt8.toNat_ofNat']
  congr 2
  omega
theorem AbsT.bool {t : TypeId} (ht : P.underlying t = some .bool) (hc : P.cellsOf t = 1) : AbsT P t (M := Bool) fun cs b => pure' (cs = [.bool b]) := by
  intro H' enc W base held n cs x ρ σ hr h _
  obtain ⟨b, rfl, rfl⟩ := DataW.trod_bool ht h
  exact ⟨ρ, σ, [.bool b], b, Ext.refl _, hr, LR.cons (.bool _) (LR.nil _), by simp [hc], fun l hl => H_pure.2 ⟨rfl, hl⟩⟩
theorem AbsT.str {t : TypeId} (ht : P.underlying t = some .string) (hc : P.cellsOf t = 1) : AbsT P t (M := ByteArray) fun cs s => pure' (cs = [.string s] ∧ s.size ≤ reachBytes) := by
  intro H' enc W base held n cs x ρ σ hr h hw
  obtain ⟨s, rfl, rfl, _⟩ := DataW.trod_string ht h
  have := hw s.size (by simp [DataW.weights])
  exact ⟨ρ, σ, [.string s], s, Ext.refl _, hr, LR.cons (.string _) (LR.nil _), by simp [hc], fun l hl => H_pure.2 ⟨⟨rfl, this⟩, hl⟩⟩

theorem LR.take_one {ρ : List RB} {c : List Value} {c' : List Value} {off : Nat} (h : LR ρ c ((c'.drop off).take c.length)) : LR ρ c ((c'.drop off).take c.length) := h

theorem AbsT.slice {t e : TypeId} {M : Type} {A : List Value → M → Assn} (ht : P.underlying t = some (.slice e)) (hc : P.cellsOf t = 1) (hz : 0 < P.cellsOf e) (hE : AbsT P e A) :
    AbsT P t (M := List M) fun cs L => ex fun v => sep (pure' (cs = [v])) (RowsA (P.cellsOf e) (P.bytesOf e) A v L) := by
  intro H' enc W base held fuel cs x ρ σ hr h hw
  rcases open_slice ht h with ⟨rfl, rfl⟩ | ⟨a, len, cap, m, n, D, Pl, rfl, hb, hl, hm, hmm, rfl, hx⟩
  · refine ⟨ρ, σ, [.slice none 0 0], [], Ext.refl _, hr, LR.cons (.nilslice _ _ (by unfold OPEN; omega)) (LR.nil _), by simp [hc], fun l hl => H_ex.2 ⟨.slice none 0 0, ?_⟩⟩
    rw [H_sep]
    exact H_pure.2 ⟨rfl, H_rows.2 (.inl ⟨⟨rfl, .inl rfl⟩, hl⟩)⟩
  · simp only [if_true] at hmm
    subst hmm
    rcases Nat.eq_zero_or_pos m with rfl | hpos
    · have hl0 : len = 0 := by omega
      subst hl0
      refine ⟨ρ, σ, [.slice (some ⟨ZB, 0, some 0⟩) 0 0], [], Ext.refl _, hr, LR.cons (.zslice _ _) (LR.nil _), by simp [hc], fun l hl => H_ex.2 ⟨.slice (some ⟨ZB, 0, some 0⟩) 0 0, ?_⟩⟩
      rw [H_sep]
      exact H_pure.2 ⟨rfl, H_rows.2 (.inl ⟨⟨rfl, .inr rfl⟩, hl⟩)⟩
    · -- the block
      obtain ⟨cs0, hcells0, _⟩ := hx 0 hpos
      obtain ⟨_, hlen0, hcell0⟩ := World.cells?_some hcells0
      have hc00 := hcell0 0 hz
      have hsome : ∃ c' e' fz, W.heap[a.block]? = some (.cells c' e' fz) ∧ a.spot = none := by
        have h1 : W.cell? a = cs0[0]? := by simpa [Addr.add] using hc00
        have h2 : cs0[0]? = some (cs0[0]'(by omega)) := by simp
        rw [h2] at h1
        unfold World.cell? at h1
        split at h1
        · rename_i c' e' fz hh
          split at h1
          · cases h1
          · rename_i hs
            exact ⟨c', e', fz, hh, by simpa using hs⟩
        · cases h1
      obtain ⟨c', e', fz, hblk, hsp⟩ := hsome
      have hBlk : a.block < W.heap.size := (Array.getElem?_eq_some_iff.1 hblk).1
      -- the elements, one by one
      have key : ∀ j, j ≤ len → ∃ (ρ' : List RB) (σ' : AHeap) (css : List (List Value)) (L : List M), Ext ρ ρ' ∧ Rel W.heap.size W ρ' σ' W ∧ css.length = j ∧ L.length = j ∧ (∀ c ∈ css, c.length = P.cellsOf e) ∧
          LR ρ' css.flatten ((c'.toList.drop a.off).take (j * P.cellsOf e)) ∧ (a.off + j * P.cellsOf e ≤ c'.size ∨ j = 0) ∧ ∀ l, H l σ → H (Zip A css L :: l) σ' := by
        intro j
        induction j with
        | zero => intro _; exact ⟨ρ, σ, [], [], Ext.refl _, hr, rfl, rfl, by simp, by simpa using LR.nil _, .inr rfl, fun l hl => H_emp.2 hl⟩
        | succ j ih =>
          intro hj
          obtain ⟨ρ1, σ1, css, L, x1, x2, x3, x4, x5, x6, x7, x8⟩ := ih (by omega)
          obtain ⟨cs', hcells, htrod⟩ := hx j (by omega)
          obtain ⟨_, hlen, hcell⟩ := World.cells?_some hcells
          obtain ⟨ρ2, σ2, cs2, m2, y1, y2, y3, y4, y5⟩ := hE x2 htrod (by
            intro w hwm
            refine hw w ?_
            unfold DataW.weights
            rw [ht]
            simp only [List.mem_cons, List.mem_append]
            right; left
            have hmem : ∀ (l : List (DataW H')) (d : DataW H'), d ∈ l → ∀ w ∈ d.weights P e, w ∈ DataW.weightsAll P e l := by
              intro l d hd w hw
              induction l with
              | nil => simp at hd
              | cons z l ih =>
                unfold DataW.weightsAll
                rcases List.mem_cons.1 hd with rfl | hd
                · exact List.mem_append_left _ hw
                · exact List.mem_append_right _ (ih hd)
            exact hmem _ (D j) (List.mem_map.2 ⟨j, List.mem_range.2 (by omega), rfl⟩) w hwm)
          -- the cells as they stand in the block
          have hcs : ∀ i, i < P.cellsOf e → c'[a.off + j * P.cellsOf e + i]? = cs'[i]? := by
            intro i hi
            have := hcell i hi
            rw [show (a.add (j * P.cellsOf e)).add i = ⟨a.block, a.off + j * P.cellsOf e + i, none⟩ by
              rw [show a = ⟨a.block, a.off, none⟩ by cases a; simp at hsp; simp [hsp], add_mk, add_mk]] at this
            simpa [World.cell?, hblk] using this
          have hfit : a.off + (j + 1) * P.cellsOf e ≤ c'.size := by
            have h1 := hcs (P.cellsOf e - 1) (by omega)
            have h2 : cs'[P.cellsOf e - 1]? ≠ none := by simp; omega
            rw [← h1] at h2
            have h3 : a.off + j * P.cellsOf e + (P.cellsOf e - 1) < c'.size := by
              rcases Nat.lt_or_ge (a.off + j * P.cellsOf e + (P.cellsOf e - 1)) c'.size with q | q
              · exact q
              · exact absurd (Array.getElem?_eq_none q) h2
            rw [Nat.succ_mul]; omega
          refine ⟨ρ2, σ2, css ++ [cs2], L ++ [m2], x1.trans y1, y2, by simp [x3], by simp [x4], ?_, ?_, .inl hfit, ?_⟩
          · intro c hcm
            rcases List.mem_append.1 hcm with q | q
            · exact x5 c q
            · simp at q; subst q; exact y4
          · have hsplit : (c'.toList.drop a.off).take ((j + 1) * P.cellsOf e) = (c'.toList.drop a.off).take (j * P.cellsOf e) ++ cs' := by
              rw [Nat.succ_mul, List.take_add]
              congr 1
              rw [List.drop_drop]
              apply List.ext_getElem?
              intro i
              rw [List.getElem?_take]
              split
              · rename_i hi
                rw [List.getElem?_drop]
                have := hcs i hi
                simpa using this
              · rename_i hi
                exact (List.getElem?_eq_none (by omega)).symm
            rw [hsplit, List.flatten_append]
            exact (x6.mono y1).append (by simpa using y3)
          · intro l hl
            rw [Zip.snoc _ _ _ _ (by omega), H_sep]
            exact y5 _ (x8 l hl)
      obtain ⟨ρ1, σ1, css, L, x1, x2, x3, x4, x5, x6, x7, x8⟩ := key len (Nat.le_refl _)
      have hfl := flatten_len x5
      have hfit : a.off + css.flatten.length ≤ c'.size := by
        rw [hfl, x3]
        rcases x7 with q | q
        · exact q
        · subst q
          have h1 : c'[a.off]? ≠ none := by
            have h1 : W.cell? a = cs0[0]? := by simpa [Addr.add] using hc00
            have h2 : cs0[0]? = some (cs0[0]'(by omega)) := by simp
            rw [h2] at h1
            simp [World.cell?, hblk, hsp] at h1
            rw [h1]; simp
          have h3 : a.off < c'.size := by
            rcases Nat.lt_or_ge a.off c'.size with q | q
            · exact q
            · exact absurd (Array.getElem?_eq_none q) h1
          omega
      obtain ⟨z1, z2, z3⟩ := x2.pushRo hblk hBlk hfit (by rw [hfl, x3]; exact x6)
      refine ⟨_, _, [.slice (some ⟨σ1.size, 0, none⟩) len m], L, x1.trans z2, z1, ?_, by simp [hc], fun l hl => H_ex.2 ⟨.slice (some ⟨σ1.size, 0, none⟩) len m, ?_⟩⟩
      · refine LR.cons ?_ (LR.nil _)
        have hcap : m < OPEN := by unfold OPEN; unfold maxLen at hm; omega
        have := VR.slice σ1.size 0 len m m _ z3 (by unfold CapR; rw [if_pos hcap])
        have ha : a = ⟨a.block, a.off, none⟩ := by cases a; simp at hsp; simp [hsp]
        rw [ha]
        simpa using this
      · rw [H_sep]
        refine H_pure.2 ⟨rfl, H_rows.2 (.inr ⟨σ1.size, m, e', css, (x8 l hl).pushRo _, by rw [x4], by omega, by unfold OPEN; unfold maxLen at hm; omega, by omega, x5, ?_⟩)⟩
        rw [x4]
        have hwm := hw ((len + (m - len)) * P.bytesOf e) (by
          unfold DataW.weights
          rw [ht]
          simp)
        have : len * P.bytesOf e ≤ (len + (m - len)) * P.bytesOf e := Nat.mul_le_mul_right _ (by omega)
        omega

/-- Fields that stand one behind the other from a cell on. -/
def AbsF (P : Program) (l : List Field) (o tot : Nat) {M : Type} (A : List Value → M → Assn) : Prop :=
  ∀ ⦃H' : Type⦄ ⦃enc : TypeId × Value → H'⦄ ⦃W : World⦄ ⦃base : Nat⦄ ⦃held : Bool⦄ ⦃n : Nat⦄ ⦃cs : List Value⦄ ⦃xs : List (DataW H' × List MemPlace)⦄ ⦃ρ : List RB⦄ ⦃σ : AHeap⦄, Rel W.heap.size W ρ σ W →
    xs.length = l.length → (∀ (i : Nat) (f : Field), l[i]? = some f → DataW.trod enc P W base (fun _ => true) held n f.type ((cs.drop f.offset).take (P.cellsOf f.type)) = xs[i]?) → (∀ w ∈ DataW.weightsEach P (l.map (·.type)) (xs.map (·.1)), w ≤ reachBytes) →
    ∃ ρ' σ' cs' m, Ext ρ ρ' ∧ Rel W.heap.size W ρ' σ' W ∧ LR ρ' cs' ((cs.drop o).take tot) ∧ cs'.length = tot ∧ ∀ l, H l σ → H (A cs' m :: l) σ'
theorem AbsF.nil {P : Program} (o : Nat) : AbsF P [] o 0 (M := Unit) fun cs _ => pure' (cs = []) := by
  intro H' enc W base held n cs xs ρ σ hr _ _ _
  exact ⟨ρ, σ, [], (), Ext.refl _, hr, by simpa using LR.nil _, rfl, fun l hl => H_pure.2 ⟨rfl, hl⟩⟩
theorem AbsF.cons {P : Program} {f : Field} {l : List Field} {o tot z : Nat} {M N : Type} {A : List Value → M → Assn} {B : List Value → N → Assn} (ho : f.offset = o) (hz : P.cellsOf f.type = z) (hT : AbsT P f.type A) (hF : AbsF P l (o + z) tot B) :
    AbsF P (f :: l) o (z + tot) (M := M × N) fun cs m => ex fun p : List Value × List Value => sep (pure' (cs = p.1 ++ p.2 ∧ p.1.length = z)) (sep (A p.1 m.1) (B p.2 m.2)) := by
  intro H' enc W base held n cs xs ρ σ hr hlen hx hw
  subst hz
  cases xs with
  | nil => simp at hlen
  | cons x xs =>
    have h0 := hx 0 f rfl
    simp only [List.getElem?_cons_zero] at h0
    simp only [List.map_cons, DataW.weightsEach, List.mem_append] at hw
    obtain ⟨ρ1, σ1, c1, m1, x1, x2, x3, x4, x5⟩ := hT hr h0 (fun w hm => hw w (.inl hm))
    obtain ⟨ρ2, σ2, c2, m2, y1, y2, y3, y4, y5⟩ := hF x2 (by simpa using hlen) (fun i g hg => by simpa using hx (i + 1) g (by simpa using hg)) (fun w hm => hw w (.inr hm))
    refine ⟨ρ2, σ2, c1 ++ c2, (m1, m2), x1.trans y1, y2, ?_, by simp [x4, y4], fun l hl => H_ex.2 ⟨(c1, c2), ?_⟩⟩
    · rw [List.take_add]
      refine LR.append ?_ ?_
      · rw [← ho]; exact x3.mono y1
      · rw [List.drop_drop]; exact y3
    · rw [H_sep]
      refine H_pure.2 ⟨⟨rfl, x4⟩, ?_⟩
      rw [H_sep]
      have := y5 _ (x5 l hl)
      exact this.perm (List.Perm.swap _ _ _)
theorem AbsT.struct {P : Program} {t : TypeId} {fs : Array Field} {tot : Nat} {M : Type} {A : List Value → M → Assn} (ht : P.underlying t = some (.struct fs)) (hc : P.cellsOf t = tot) (hF : AbsF P fs.toList 0 tot A) : AbsT P t A := by
  intro H' enc W base held n cs x ρ σ hr h hw
  obtain ⟨xs, n', rfl, rfl, hlen, hxl, hx⟩ := DataW.trod_struct ht h
  obtain ⟨ρ1, σ1, c1, m1, x1, x2, x3, x4, x5⟩ := hF hr (by simpa using hxl) (fun i f hf => hx i f (by simpa using hf)) (by
    intro w hm
    refine hw w ?_
    unfold DataW.weights
    rw [ht]
    exact hm)
  refine ⟨ρ1, σ1, c1, m1, x1, x2, ?_, by rw [hc, x4], x5⟩
  have : (cs.drop 0).take tot = cs := by rw [List.drop_zero, List.take_of_length_le (by omega)]
  rwa [this] at x3
theorem AbsT.imp {P : Program} {t : TypeId} {M N : Type} {A : List Value → M → Assn} {B : List Value → N → Assn} (g : M → N) (h : AbsT P t A) (hi : ∀ cs m l σ, H (A cs m :: l) σ → H (B cs (g m) :: l) σ) : AbsT P t B := by
  intro H' enc W base held n cs x ρ σ hr h1 h2
  obtain ⟨ρ1, σ1, c1, m1, x1, x2, x3, x4, x5⟩ := h hr h1 h2
  exact ⟨ρ1, σ1, c1, g m1, x1, x2, x3, x4, fun l hl => hi _ _ _ _ (x5 l hl)⟩

/-! ### All arguments -/
def AllB : List (List Value × Assn) → List Assn := fun l => l.map (·.2)
theorem Rel.start (W : World) : Rel W.heap.size W [] ⟨0, .leaf⟩ W := Rel.empty W

/-- What was read stays as it is where only new blocks are made. -/
theorem trodAll_below {P : Program} {H' : Type} {enc : TypeId × Value → H'} {W W' : World} (hl : laidOutB P = true) (hm : mapsRowed P = true) (hz : ((List.range P.types.size).all fun t => match P.underlying t with | some (.slice e) => decide (0 < P.cellsOf e) | _ => true) = true)
    (hb : Below W.heap.size W W') {sp : Nat → Bool} : ∀ {ts : List TypeId} {vs : List Value} {ds : List (DataW H')} {ps : List MemPlace}, (∀ t ∈ ts, t < P.types.size) → DataW.TrodAll enc P W 0 (fun _ => true) true ts vs ds ps → (∀ p ∈ ps, sp p.block = true) →
    DataW.TrodAll enc P W' 0 sp true ts vs ds ps
  | [], [], [], ps, _, h, _ => h
  | t :: ts, v :: vs, d :: ds, ps, ht, ⟨p, q, ⟨n, h1⟩, h2, e⟩, hs => by
    refine ⟨p, q, ⟨n, ?_⟩, trodAll_below hl hm hz hb (fun u hu => ht u (List.mem_cons_of_mem _ hu)) h2 (fun x hx => hs x (by rw [e]; exact List.mem_append_right _ hx)), e⟩
    exact DataW.trod_stays (kids_rows hl hm) (fun ht hu => slices_full_of P hz _ _ ht hu) (fun h => by cases h) (ht t (List.mem_cons_self)) h1
      (fun x hx => hb.same (DataW.trod_lt n t _ _ h1 x hx)) (fun x hx => hs x (by rw [e]; exact List.mem_append_left _ hx))
end
end Go.Ax
/- The seat's program to the abstract interpreter: the closed facts about it. No statement of the seat is proved here. -/
namespace Go.Ax.YtfeamgocomlepaaC
open Go.Proofs

theorem fok : FOk Try.prog F := FOk.mk (by kernel_rfl) (by kernel_rfl)

theorem mixed : Try.prog.follows .mixedOrders = true := Try.checked.mixed

theorem nobody100 : NoBody Try.prog 100 (Extern.BytealgMakeNoZero.makeNoZero #[3] #[23]) :=
  ⟨Try.f100, by kernel_rfl, by kernel_rfl, by kernel_rfl, by kernel_rfl, by kernel_rfl⟩
theorem nobody109 : NoBody Try.prog 109 Extern.MapsClone.clone :=
  ⟨Try.f109, by kernel_rfl, by kernel_rfl, by kernel_rfl, by kernel_rfl, by kernel_rfl⟩
theorem nobody136 : NoBody Try.prog 136 Extern.BytealgCompare.compare :=
  ⟨Try.f136, by kernel_rfl, by kernel_rfl, by kernel_rfl, by kernel_rfl, by kernel_rfl⟩

theorem xok : CallOk Try.prog fun f args σ => match X f with | some x => x args σ | none => none := by
  intro g args σ R hx B w0 ρ w args' h ha
  simp only [X] at hx
  by_cases hg : g = 100
  · subst hg
    rw [if_pos rfl] at hx
    exact makeNoZero_ok (t := 23) nobody100 rfl (by kernel_rfl) hx h ha
  · rw [if_neg hg] at hx
    by_cases hg : g = 109
    · subst hg
      rw [if_pos rfl] at hx
      exact _root_.Go.Ax.clone_ok nobody109 args σ R hx B w0 ρ w args' h ha
    · rw [if_neg hg] at hx
      by_cases hg : g = 136
      · subst hg
        rw [if_pos rfl] at hx
        exact cmpStr_ok nobody136 args σ R hx B w0 ρ w args' h ha
      · rw [if_neg hg] at hx; cases hx

theorem call_ok (n : Nat) : CallOk Try.prog (acall Try.prog F X n) := acall_sound mixed fok xok n
end Go.Ax.YtfeamgocomlepaaC
/- What the statements on the disk share: calls that a test makes, from the machine's memory to the abstract heap and back. No statement of the seat is proved here. -/
set_option maxRecDepth 100000
namespace Go.Ax.YtfeamgocomlepaaC
open Go.Proofs Go.RowKit

variable {l : List Assn} {σ : AHeap} {Q : WK}

theorem call0_ok (hX : CallOk Try.prog fun f args σ => match XT f with | some x => x args σ | none => none) (n : Nat) : CallOk Try.prog (acall0 Try.prog F XT n) := acall0_sound mixed fok hX n

/-- From the abstract heap to the machine. -/
theorem law_call (hX : CallOk Try.prog fun f args σ => match XT f with | some x => x args σ | none => none) {f : FuncId} {fn : Func} (hf : Try.prog.funcs[f]? = some fn) (hb : fn.body.isNone = false) {args args' : List Value} {ρ : List RB} {W : World}
    (hr : Rel W.heap.size W ρ σ W) (ha : LR ρ args args') (h : E f args σ fun v _ => v = .bool true) : Calls Try.prog f args'.toArray W fun e w' => e = .returned (.bool true) ∧ Below W.heap.size W w' := by
  obtain ⟨n, L, h1, h2⟩ := Ev.run h
  obtain ⟨fn', hfn', _, hor⟩ := call0_ok hX n f args σ L h1 _ _ _ W args' hr ha
  rw [hf] at hfn'; cases hfn'
  rcases hor with ⟨_, hcalls⟩ | ⟨v, v', ρ', σ', w', hm, hrun, _⟩
  · refine hcalls.mono fun e w' he => ?_
    obtain ⟨v, v', ρ', σ', hm, rfl, _, hr, hv⟩ := he
    have := h2 _ hm
    simp only at this
    rw [this] at hv
    rw [hv.bool_inv]
    exact ⟨rfl, hr.below⟩
  · simp only [callFunc] at hrun
    have hb2 : fn.body ≠ none := by intro e; rw [e] at hb; simp at hb
    simp [program, Sem.run, hf, hb2] at hrun
    split at hrun <;> simp at hrun

/-! ### Acts -/
structure ActM where
  What : Int
  At : Int
  X : UInt8
  B : List UInt8
  Short : Bool
def i64r (n : Int) : Prop := -9223372036854775808 ≤ n ∧ n < 9223372036854775808
def U8A : List Value → UInt8 → Assn := fun cs b => pure' (cs = [by8 b])
theorem U8A.dup (c : List Value) (b : UInt8) : Dup (U8A c b) := Dup.pure _
/-- A slice of bytes of an argument. -/
def BytesA (v : Value) (x : List UInt8) : Assn := RowsA 1 1 U8A v x
theorem BytesA.dup (v : Value) (x : List UInt8) : Dup (BytesA v x) := RowsA.dup U8A.dup v x
def ActA (cs : List Value) (m : ActM) : Assn := ex fun v => sep (pure' (cs = [.int .i64 m.What, .int .i64 m.At, by8 m.X, v, .bool m.Short] ∧ i64r m.What ∧ i64r m.At)) (BytesA v m.B)
theorem ActA.dup (c : List Value) (m : ActM) : Dup (ActA c m) := Dup.ex fun _ => Dup.sep (Dup.pure _) (BytesA.dup _ _)
def ActsA (v : Value) (L : List ActM) : Assn := RowsA 5 56 ActA v L

theorem zip_u8 : ∀ {css : List (List Value)} {x : List UInt8} {l : List Assn} {σ : AHeap}, css.length = x.length → H (Zip U8A css x :: l) σ → css.flatten = bv x
  | [], [], l, σ, _, _ => rfl
  | [], _ :: _, l, σ, h, _ => by simp at h
  | _ :: _, [], l, σ, h, _ => by simp at h
  | c :: css, b :: x, l, σ, hl, h => by
    simp only [Zip, H_sep, U8A, H_pure] at h
    obtain ⟨rfl, h⟩ := h
    simp [zip_u8 (by simpa using hl) h]
theorem H.bytes_rd {v : Value} {x : List UInt8} (h : H l σ) (i : Nat) (hi : l[i]? = some (BytesA v x)) : Rd σ v x ∧ x.length ≤ reachBytes := by
  rcases H_rows.1 (h.front i hi) with ⟨⟨rfl, rfl | rfl⟩, _⟩ | ⟨id, cap, e, css, h1, rfl, h2, h3, h4, h5, h6⟩
  · exact ⟨Rd.nil _ _, by simp⟩
  · exact ⟨⟨src_zero _ _ _ _, ⟨_, _, rfl⟩, fun k b h => by simp at h⟩, by simp⟩
  · have hrow := row_ro h1.rget0.1
    rw [zip_u8 h4 h1.tail] at hrow
    exact ⟨rd_row (o := 0) hrow (by simp) (by simp), by omega⟩

theorem u8T : AbsT Try.prog 5 U8A := AbsT.u8 (by kernel_rfl) (by kernel_rfl)
theorem bytesT : AbsT Try.prog 23 (M := List UInt8) fun cs x => ex fun v => sep (pure' (cs = [v])) (BytesA v x) := by
  have h := AbsT.slice (P := Try.prog) (t := 23) (e := 5) (A := U8A) (by kernel_rfl) (by kernel_rfl) (by rw [show Try.prog.cellsOf 5 = 1 by kernel_rfl]; decide) u8T
  rw [show Try.prog.cellsOf 5 = 1 by kernel_rfl, show Try.prog.bytesOf 5 = 1 by kernel_rfl] at h
  exact h
theorem intT : AbsT Try.prog 3 (M := Int) fun cs n => pure' (cs = [.int .i64 n] ∧ i64r n) := by
  refine AbsT.imp id (AbsT.int (P := Try.prog) (t := 3) (k := .i64) (by kernel_rfl) (by kernel_rfl)) ?_
  intro cs m l σ h
  obtain ⟨⟨h1, h2⟩, h⟩ := H_pure.1 h
  refine H_pure.2 ⟨⟨h1, ?_⟩, h⟩
  simp [Lit.wf, IntKind.min, IntKind.max, IntKind.signed, IntKind.bits] at h2
  unfold i64r; simp only [id]; omega
theorem boolT : AbsT Try.prog 4 (M := Bool) fun cs b => pure' (cs = [.bool b]) := AbsT.bool (by kernel_rfl) (by kernel_rfl)
def fs30 : Array Field := #[{ name := "What", type := 3, offset := 0, embedded := false, tag := "", pkgPath := "", byteOffset := 0 }, { name := "At", type := 3, offset := 1, embedded := false, tag := "", pkgPath := "", byteOffset := 8 }, { name := "X", type := 5, offset := 2, embedded := false, tag := "", pkgPath := "", byteOffset := 16 }, { name := "B", type := 23, offset := 3, embedded := false, tag := "", pkgPath := "", byteOffset := 24 }, { name := "Short", type := 4, offset := 4, embedded := false, tag := "", pkgPath := "", byteOffset := 48 }]
theorem actT : AbsT Try.prog 30 ActA := by
  refine AbsT.imp (fun m : Int × Int × UInt8 × List UInt8 × Bool × Unit => (⟨m.1, m.2.1, m.2.2.1, m.2.2.2.1, m.2.2.2.2.1⟩ : ActM)) (AbsT.struct (fs := fs30) (tot := 1 + (1 + (1 + (1 + (1 + 0))))) (by kernel_rfl) (by kernel_rfl)
    (AbsF.cons (z := 1) rfl (by kernel_rfl) intT <| AbsF.cons (z := 1) rfl (by kernel_rfl) intT <| AbsF.cons (z := 1) rfl (by kernel_rfl) u8T <| AbsF.cons (z := 1) rfl (by kernel_rfl) bytesT <| AbsF.cons (z := 1) rfl (by kernel_rfl) boolT <| AbsF.nil 5)) ?_
  intro cs m l σ h
  simp only [H_ex, H_sep, H_pure, U8A] at h
  obtain ⟨⟨c1, r1⟩, ⟨rfl, _⟩, ⟨rfl, h1⟩, ⟨c2, r2⟩, ⟨rfl, _⟩, ⟨rfl, h2⟩, ⟨c3, r3⟩, ⟨rfl, _⟩, rfl, ⟨c4, r4⟩, ⟨rfl, _⟩, v, rfl, h⟩ := h
  have h5 := h.perm (List.Perm.swap _ _ _)
  simp only [H_ex, H_sep, H_pure] at h5
  obtain ⟨⟨c5, r5⟩, ⟨rfl, _⟩, rfl, rfl, h6⟩ := h5
  refine H_ex.2 ⟨v, ?_⟩
  rw [H_sep]
  exact H_pure.2 ⟨⟨by simp, h1, h2⟩, h6⟩

theorem actsT : AbsT Try.prog 22 (M := List ActM) fun cs x => ex fun v => sep (pure' (cs = [v])) (ActsA v x) := by
  have h := AbsT.slice (P := Try.prog) (t := 22) (e := 30) (A := ActA) (by kernel_rfl) (by kernel_rfl) (by rw [show Try.prog.cellsOf 30 = 5 by kernel_rfl]; decide) actT
  rw [show Try.prog.cellsOf 30 = 5 by kernel_rfl, show Try.prog.bytesOf 30 = 56 by kernel_rfl] at h
  exact h

/-! ### The tests' own functions -/
theorem within_ok {k : Int} {n : Nat} (hn : 0 < n ∧ n ≤ 1000) (hk : ∀ a : Nat, a < n → Q (.int .i64 a) σ) : E 16 [.int .i64 k, .int .i64 n] σ Q := by
  apply s16_ev; unfold s16
  have h1 : IntKind.u64.wrap (n : Int) = n := wrap_u64 (by omega)
  have h2 : 0 ≤ IntKind.u64.wrap k := by
    simp [IntKind.wrap, IntKind.bits, IntKind.signed]; omega
  obtain ⟨m, hm⟩ : ∃ m : Nat, IntKind.u64.wrap k = m := ⟨(IntKind.u64.wrap k).toNat, by omega⟩
  have h3 : ¬ (n : Int) = 0 := by omega
  have h4 : ((m : Nat) : Int).tmod (n : Int) = ((m % n : Nat) : Int) := rfl
  have h5 : m % n < n := Nat.mod_lt _ hn.1
  simp only [conv_int, h1, hm, pu_some, bin_rem, if_neg h3, h4]
  rw [wrap_i64 (by omega)]
  exact hk _ h5

/-! ### DiskFuse -/
/-- How the fuse stands, by what is left of it. -/
def FuseR (n left : Nat) (D : DM) : Prop := (n = 0 ∧ D.fuse = 0 ∧ D.off = false ∧ left = 0) ∨ (0 < n ∧ ((D.off = false ∧ D.fuse = left ∧ 0 < left) ∨ (D.off = true ∧ left = 0)))

theorem fuse_step {n left : Nat} {D : DM} {N : Nat} (hD : D.Ok N) (h : FuseR n left D) (D' : DM) (e : Int) (hoff : D'.off = (if D.off then true else D.burn.1.off)) (hfu : D'.fuse = (if D.off then D.fuse else D.burn.1.fuse))
    (he : e = if D.off then 9 else if D.burn.2 then 0 else 9) :
    ∃ left', (if 0 < n then left' = left - 1 ∧ (e = if left' = 0 then 9 else 0) ∧ D'.off = decide (left' = 0) else left' = left ∧ e = 0 ∧ D'.off = false) ∧ FuseR n left' D' := by
  rcases h with ⟨rfl, h2, h3, rfl⟩ | ⟨h1, ⟨h2, h3, h4⟩ | ⟨h2, rfl⟩⟩
  · refine ⟨0, ?_, ?_⟩
    · have hb : D.burn = (D, true) := by simp [DM.burn, h2]
      simp [h3, hb] at he hoff
      simp [he, hoff]
    · have hb : D.burn = (D, true) := by simp [DM.burn, h2]
      simp [h3, hb] at hoff hfu
      exact .inl ⟨rfl, by omega, hoff, rfl⟩
  · simp only [if_pos h1]
    by_cases hl : left = 1
    · have hb : D.burn = ({ D with fuse := 0, off := true }, false) := by simp [DM.burn, h3, hl]
      simp [h2, hb] at he hoff hfu
      exact ⟨0, ⟨by omega, by simp [he], by simp [hoff]⟩, .inr ⟨h1, .inr ⟨hoff, rfl⟩⟩⟩
    · have hb : D.burn = ({ D with fuse := D.fuse - 1 }, true) := by
        unfold DM.burn; rw [if_neg (by omega), if_neg (by omega)]
      simp [h2, hb] at he hoff hfu
      refine ⟨left - 1, ⟨rfl, ?_, ?_⟩, .inr ⟨h1, .inl ⟨hoff, by omega, by omega⟩⟩⟩
      · rw [if_neg (by omega)]; exact he
      · rw [hoff]; simp; omega
  · simp only [if_pos h1]
    simp [h2] at he hoff hfu
    exact ⟨0, ⟨rfl, by simp [he], by simp [hoff]⟩, .inr ⟨h1, .inr ⟨hoff, rfl⟩⟩⟩
end Go.Ax.YtfeamgocomlepaaC
/- DiskFuse on the abstract heap. No statement of the seat is proved here. -/
set_option maxRecDepth 100000
namespace Go.Ax.YtfeamgocomlepaaC
open Go.Proofs Go.RowKit

variable {l : List Assn} {σ : AHeap} {Q : WK}

theorem new_Ok (n : Nat) (h : 1 ≤ n ∧ n ≤ 1024) : (DM.new n).Ok n := ⟨h.1, h.2, by simp [DM.new], fun f hf => by simp [DM.new] at hf⟩
theorem parts_Ok {n a : Nat} {bs : List UInt8} (ha : a < n) (hb : bs.length = 256) : ∀ f ∈ parts a bs, FlyOk n f := by
  intro f hf
  simp only [parts, List.mem_cons, List.not_mem_nil, or_false] at hf
  rcases hf with rfl | rfl | rfl | rfl <;> refine ⟨by simp [hb], ?_, ?_⟩ <;> simp <;> omega
theorem burn_Ok {D : DM} {n : Nat} (h : D.Ok n) : D.burn.1.Ok n := by
  unfold DM.burn; split
  · exact h
  · split <;> exact ⟨h.lo, h.hi, h.len, h.fly⟩
theorem burn_fly (D : DM) : D.burn.1.fly = D.fly := by unfold DM.burn; split; rfl; split <;> rfl
theorem burn_fuse (D : DM) : D.burn.1.fuse ≤ D.fuse := by unfold DM.burn; split; exact Nat.le_refl _; split <;> simp
theorem land_Ok {D : DM} {n : Nat} (h : D.Ok n) : D.land.Ok n := ⟨h.lo, h.hi, laid_length _ _ h.len h.fly, fun f hf => by simp [DM.land] at hf⟩
theorem ready_zero {D : DM} {n : Nat} (hD : D.Ok n) {a : Int} (h : D.ready a = 0) : 0 ≤ a ∧ a < n := by
  have hlen := hD.len
  unfold DM.ready at h
  split at h
  · simp at h
  · split at h
    · simp at h
    · rename_i hx
      have : D.last.length / 256 = n := by omega
      omega
theorem ready_in {D : DM} {n : Nat} (hD : D.Ok n) {a : Nat} (ha : a < n) : D.ready a = if D.off then 9 else 0 := by
  unfold DM.ready
  have := hD.len
  have : D.last.length / 256 = n := by omega
  cases D.off with
  | true => rfl
  | false => simp only [Bool.false_eq_true, if_false]; rw [if_neg (by omega)]
theorem write_Ok {D : DM} {n : Nat} (h : D.Ok n) (a : Int) (bs : List UInt8) : (D.write a bs).1.Ok n := by
  unfold DM.write
  split
  · exact h
  · rename_i hr
    split
    · exact h
    · rename_i hb
      split
      · have ha := ready_zero h (a := a) (by omega)
        have h2 := burn_Ok h
        refine ⟨h2.lo, h2.hi, h2.len, fun f hf => ?_⟩
        simp only [DM.fling, List.mem_append] at hf
        rcases hf with hf | hf
        · exact h2.fly f hf
        · exact parts_Ok (by omega) (by omega) f hf
      · exact burn_Ok h
theorem write_few (D : DM) (a : Int) (bs : List UInt8) : (D.write a bs).1.fly.length ≤ D.fly.length + 4 ∧ (D.write a bs).1.fuse ≤ D.fuse := by
  have h1 := burn_fly D
  have h2 := burn_fuse D
  unfold DM.write
  split
  · exact ⟨by simp, by simp⟩
  · split
    · exact ⟨by simp, by simp⟩
    · split
      · exact ⟨by simp [DM.fling, h1, parts], h2⟩
      · exact ⟨by simp [h1], h2⟩
theorem barrier_Ok {D : DM} {n : Nat} (h : D.Ok n) : D.barrier.1.Ok n := by
  unfold DM.barrier
  split
  · exact h
  · split
    · exact land_Ok (burn_Ok h)
    · exact burn_Ok h
theorem barrier_few (D : DM) : D.barrier.1.fly.length ≤ D.fly.length ∧ D.barrier.1.fuse ≤ D.fuse := by
  have h1 := burn_fly D
  have h2 := burn_fuse D
  unfold DM.barrier
  split
  · exact ⟨by simp, by simp⟩
  · split
    · exact ⟨by simp [DM.land], h2⟩
    · exact ⟨by simp [h1], h2⟩

/-- What is told of either call. -/
theorem write_tells {D : DM} {n : Nat} (hD : D.Ok n) {a : Nat} (ha : a < n) {bs : List UInt8} (hb : bs.length = 256) :
    (D.write a bs).1.off = (if D.off then true else D.burn.1.off) ∧ (D.write a bs).1.fuse = (if D.off then D.fuse else D.burn.1.fuse) ∧ (D.write a bs).2 = if D.off then 9 else if D.burn.2 then 0 else 9 := by
  have hr : D.ready a = if D.off then 9 else 0 := by
    unfold DM.ready
    have := hD.len
    have : D.last.length / 256 = n := by omega
    cases D.off with
    | true => rfl
    | false => simp only [Bool.false_eq_true, if_false]; rw [if_neg (by omega)]
  unfold DM.write
  cases hoff : D.off with
  | true => rw [hoff] at hr; simp [hr, hoff]
  | false =>
    rw [hoff] at hr
    simp only [hr, Bool.false_eq_true, if_false, ne_eq, not_true, hb]
    cases hb2 : D.burn.2 with
    | true => simp [DM.fling]
    | false => simp
theorem barrier_tells {D : DM} {n : Nat} (hD : D.Ok n) :
    D.barrier.1.off = (if D.off then true else D.burn.1.off) ∧ D.barrier.1.fuse = (if D.off then D.fuse else D.burn.1.fuse) ∧ D.barrier.2 = if D.off then 9 else if D.burn.2 then 0 else 9 := by
  have hr : D.ready 0 = if D.off then 9 else 0 := by
    unfold DM.ready
    have := hD.len
    have := hD.lo
    have : D.last.length / 256 = n := by omega
    cases D.off with
    | true => rfl
    | false => simp only [Bool.false_eq_true, if_false]; rw [if_neg (by omega)]
  unfold DM.barrier
  cases hoff : D.off with
  | true => rw [hoff] at hr; simp [hr, hoff]
  | false =>
    rw [hoff] at hr
    simp only [hr, Bool.false_eq_true, if_false, ne_eq, not_true]
    cases hb2 : D.burn.2 with
    | true => simp [DM.land]
    | false => simp

theorem fuse_end {v d : Value} {L : List ActM} {D : DM} (h : H [ActsA v L, Disk d D] σ) (hD : D.Ok 3) (hm : D.fly.length < 1099511627776) : s4k12 (fun r _ => r = .bool true) d σ := by
  unfold s4k12
  have hn := hD.lo
  have hlen := hD.len
  have hready : D.ready 0 = if D.off then 9 else 0 := by
    unfold DM.ready
    cases D.off with
    | true => rfl
    | false => simp only [Bool.false_eq_true, if_false]; rw [if_neg (by omega)]
  have hlast : ∀ τ l', H ([ActsA v L, Disk d D] ++ l') τ → E 22 [d, .slice none 0 0] τ fun v81 τ_72 =>
      E 20 [d, .int .i64 0] τ_72 fun v84_75 τ_76 => pu (aExtract v84_75 0) fun v85_77 => pu (aExtract v84_75 1) fun v86_78 => pu (aBin (some (.int .i64)) .eql v86_78 (.int .i64 0)) fun v88_81 =>
        wG v88_81 (E 19 [d] τ_76 fun v91_83 τ_84 => pu (aBin (some (.int .i64)) .eql v91_83 (.int .i64 0)) fun v92_85 => v92_85 = .bool true) (Value.bool false = .bool true) (wB v88_81 fun b_88 => cond b_88 skipV (.bool false) = .bool true) := by
    intro τ l' hτ
    refine crash_ok (picks := []) hτ 1 rfl hD hm (fun _ _ => Rd.nil _ _) ?_
    intro σ2 h2
    have hD2 : (D.crash []).Ok 3 := ⟨hD.lo, hD.hi, crashed_length _ _ _ _ hD.len hD.fly, fun f hf => by simp [DM.crash] at hf⟩
    have hr2 : (D.crash []).ready 0 = 0 := ready_in hD2 (a := 0) (by omega)
    refine read_yes h2 1 rfl hD2 (by simp [DM.crash]) hr2 ?_
    intro w σ3 h3
    simp
    refine flight_ok h3 1 rfl ?_
    simp [DM.crash]
  cases hoff : D.off with
  | true =>
    rw [hoff] at hready
    refine read_no h 1 rfl hD (by rw [hready]; decide) ?_
    simp
    refine off_ok h 1 rfl ?_
    simp [hready, hoff]
    have := hlast σ [] h
    simpa using this
  | false =>
    rw [hoff] at hready
    refine read_yes h 1 rfl hD hm (by rw [hready]; decide) ?_
    intro w σ1 h1
    simp
    refine off_ok h1 1 rfl ?_
    simp [hoff]
    have := hlast σ1 _ h1
    simpa using this

theorem diskFuse_ev {n : UInt8} {v : Value} {L : List ActM} (h : H [ActsA v L] σ) : E 4 [by8 n, v] σ fun r _ => r = .bool true := by
  obtain ⟨va, vc, rfl⟩ := h.rows_form 0 rfl
  apply s4_ev; unfold s4
  refine new_yes (n := 3) h (by omega) ?_
  intro d σ1 h1
  simp
  refine E_true rfl ?_
  simp
  unfold s4k3
  have hn8 := by8_lt n
  simp [by8]
  rw [wrap_i64 (by omega)]
  refine fuse_ok h1 1 rfl ?_
  intro σ2 h2
  try simp
  have hd0 : ((DM.new 3).setFuse n.toNat).Ok 3 := by
    have := new_Ok 3 (by omega)
    exact ⟨this.lo, this.hi, this.len, this.fly⟩
  let J : DM → List Assn := fun D => [ActsA (.slice va L.length vc) L, Disk d D]
  refine ⟨fun m x0 x5 x7 x28 x29 x30 τ => ∃ (k left : Nat) (D : DM), m = L.length - k ∧ k ≤ L.length ∧ k ≤ 300 ∧ x0 = .int .u8 n.toNat ∧ d = x5 ∧ x7 = .int .i64 left ∧ x28 = .slice va L.length vc ∧ x29 = .int .i64 L.length ∧ x30 = .int .i64 k ∧
    H (J D) τ ∧ D.Ok 3 ∧ FuseR n.toNat left D ∧ D.fly.length ≤ 4 * k ∧ left ≤ 255 ∧ D.fuse ≤ 255, ⟨_, 0, n.toNat, (DM.new 3).setFuse n.toNat, rfl, by omega, by omega, rfl, rfl, rfl, rfl, rfl, rfl, h2, hd0, ?_, by simp [DM.setFuse, DM.new], by omega, by simp [DM.setFuse]; omega⟩, ?_⟩
  · rcases Nat.eq_zero_or_pos n.toNat with hz | hp
    · exact .inl ⟨hz, by simp [DM.setFuse, hz], rfl, hz⟩
    · exact .inr ⟨hp, .inl ⟨rfl, by simp [DM.setFuse], hp⟩⟩
  · rintro m _ _ _ _ _ _ τ ⟨k, left, D, rfl, hk, hk3, rfl, rfl, rfl, rfl, rfl, rfl, h, hD, hF, hfl, hleft, hfz⟩
    suffices hb : ∀ N : Value → Value → Value → Value → Value → Value → AHeap → Prop, (∀ τ' left' D', k < L.length → k < 300 → H (J D') τ' → D'.Ok 3 → FuseR n.toNat left' D' → D'.fly.length ≤ 4 * (k + 1) → left' ≤ 255 → D'.fuse ≤ 255 →
        N (.int .u8 n.toNat) d (.int .i64 left') (.slice va L.length vc) (.int .i64 L.length) (.int .i64 (k + 1 : Nat)) τ') → s4b1 N (fun r _ => r = .bool true) (.int .u8 n.toNat) d (.int .i64 left) (.slice va L.length vc) (.int .i64 L.length) (.int .i64 k) τ from
      hb _ fun τ' left' D' hlt h3 h' a b c e f => ⟨_, by omega, k + 1, left', D', rfl, by omega, by omega, rfl, rfl, rfl, rfl, rfl, rfl, h', a, b, c, e, f⟩
    intro N hN
    unfold s4b1
    simp
    refine wC_dec (fun hlt => ?_) fun hlt => fuse_end h hD (by omega)
    have hm := List.getElem?_eq_getElem hlt
    obtain ⟨ab, cs, a1, a2, a3, a4, a5⟩ := h.rows_elem 0 rfl hm
    obtain ⟨bv', ha1⟩ := H_ex.1 a5
    rw [H_sep] at ha1
    obtain ⟨⟨rfl, hw, hat⟩, ha⟩ := H_pure.1 ha1
    obtain ⟨ba, bc, rfl⟩ := ha.rows_form 0 rfl
    clear a5 ha1
    generalize L[k] = A at *
    simp [a1, a2]
    refine new_ok h ?_
    intro tb σ3 h3
    refine storeN h3 2 rfl (by simp) (by omega) (by simp [by8]) (by simp) ?_
    intro σ4 h4
    have t0 := load1 (n := 1) (o := 0) (h4.row 2 rfl)
    have t1 := load1 (n := 1) (o := 1) (h4.row 2 rfl)
    have t2 := load1 (n := 1) (o := 2) (h4.row 2 rfl)
    try simp
    refine wC_dec (fun h300 => fuse_end (h4.pick [0, 1] (by decide)) hD (by omega)) fun h300 => ?_
    -- what follows either call
    have tail : ∀ (e : Int) (D' : DM) τ', H (J D') τ' → D'.Ok 3 → D'.fly.length ≤ 4 * (k + 1) → D'.fuse ≤ 255 → D'.off = (if D.off then true else D.burn.1.off) → D'.fuse = (if D.off then D.fuse else D.burn.1.fuse) → (e = if D.off then 9 else if D.burn.2 then 0 else 9) →
        s4k21 N (fun r _ => r = .bool true) (.int .u8 n.toNat) (.int .i64 left) (.int .i64 e) d (.slice va L.length vc) (.int .i64 L.length) (.int .i64 k) undef τ' := by
      intro e D' τ' hh hD' hfew hfz' ho hfu he
      obtain ⟨left', hst, hR⟩ := fuse_step hD hF D' e ho hfu he
      have fin : ∀ x, s4k28 N (fun r _ => r = .bool true) (.bool false) (.int .u8 n.toNat) d (.int .i64 left') (.slice va L.length vc) (.int .i64 L.length) (.int .i64 k) x τ' := by
        intro x
        unfold s4k28
        simp
        rw [wrap_i64 (by omega)]
        refine hN τ' left' D' hlt (by omega) hh hD' hR hfew ?_ hfz'
        split at hst <;> omega
      have k27 : ∀ (w : Int) x, e = w → (D'.off = decide (w = 9)) → s4k27 N (fun r _ => r = .bool true) (.int .i64 e) (.int .i64 w) (.int .u8 n.toNat) d (.int .i64 left') (.slice va L.length vc) (.int .i64 L.length) (.int .i64 k) x τ' := by
        intro w x hew how
        unfold s4k27
        simp [hew]
        refine off_ok hh 1 rfl ?_
        simp [how]
        exact fin _
      unfold s4k21
      simp
      refine wC_dec (fun hp => ?_) fun hp => ?_
      · have hp : 0 < n.toNat := by omega
        rw [if_pos hp] at hst
        obtain ⟨rfl, hst2, hst3⟩ := hst
        have k25 : ∀ x, s4k25 N (fun r _ => r = .bool true) (.int .i64 (left - 1 : Nat)) (.int .i64 e) (.int .u8 n.toNat) d (.slice va L.length vc) (.int .i64 L.length) (.int .i64 k) x (.int .i64 0) τ' := by
          intro x
          unfold s4k25
          simp
          refine wC_dec (fun hz => ?_) fun hz => ?_
          · have hz : left - 1 = 0 := by omega
            exact k27 9 _ (by rw [hst2, if_pos hz]) (by rw [hst3]; simp [hz])
          · have hz : ¬ left - 1 = 0 := by omega
            exact k27 0 _ (by rw [hst2, if_neg hz]) (by rw [hst3]; simp [hz])
        refine wC_dec (fun hl => ?_) fun hl => ?_
        · rw [wrap_i64 (by omega)]
          have : (left : Int) - 1 = ((left - 1 : Nat) : Int) := by omega
          rw [this]
          exact k25 _
        · have : (left : Int) = ((left - 1 : Nat) : Int) := by omega
          rw [this]
          exact k25 _
      · have hp : ¬ 0 < n.toNat := by omega
        rw [if_neg hp] at hst
        obtain ⟨rfl, rfl, hst3⟩ := hst
        exact k27 0 _ rfl (by rw [hst3]; rfl)
    simp [t0, splice]
    refine wC_dec (fun h2 => ?_) fun h2 => ?_
    · simp [t1, t2, splice]
      refine within_ok (n := 3) (by omega) ?_
      intro a ha3
      simp [t2, splice, veq1, veq, veq0, by8]
      refine full_ok h4 ?_
      intro w σ5 h5
      refine write_ok (bs := List.replicate 256 A.X) h5 1 rfl hD (by omega) (by omega) (by simp) (fun τ hτ => hτ.own_rd 3 rfl) ?_
      intro σ6 h6
      have hl256 : (List.replicate 256 A.X).length = 256 := List.length_replicate
      obtain ⟨b1, b2, b3⟩ := write_tells hD ha3 hl256
      have := write_few D a (List.replicate 256 A.X)
      exact tail _ _ _ (h6.pick [0, 1] (by decide)) (write_Ok hD _ _) (by omega) (by omega) b1 b2 b3
    · refine barrier_ok h4 1 rfl hD (by omega) (by omega) ?_
      · intro σ5 h5
        obtain ⟨b1, b2, b3⟩ := barrier_tells hD
        have := barrier_few D
        exact tail _ _ _ (h5.pick [0, 1] (by decide)) (barrier_Ok hD) (by omega) (by omega) b1 b2 b3
end Go.Ax.YtfeamgocomlepaaC
/- Contracts of the tests' own functions: what an act writes, a block's sectors. No statement of the seat is proved here. -/
set_option maxRecDepth 100000
namespace Go.Ax.YtfeamgocomlepaaC
open Go.Proofs Go.RowKit

variable {l : List Assn} {σ : AHeap} {Q : WK}

theorem rows_len {M : Type} {z by' : Nat} {A : List Value → M → Assn} {v : Value} {L : List M} (h : H l σ) (i : Nat) (hi : l[i]? = some (RowsA z by' A v L)) : L.length * by' ≤ reachBytes := by
  rcases H_rows.1 (h.front i hi) with ⟨⟨rfl, _⟩, _⟩ | ⟨_, _, _, _, _, _, _, _, _, _, h6⟩
  · simp
  · exact h6

/-! ### Parts of slices -/
theorem src_prefix {z : Nat} {a : Option Addr} {n c c' m : Nat} {ys : List Value} (h : srcOf z (.slice a n c) σ = some (n, ys)) (hm : m ≤ n) : srcOf z (.slice a m c') σ = some (m, ys.take (m * z)) := by
  cases a with
  | none =>
    simp only [srcOf] at h ⊢
    split at h
    · rename_i e; subst e
      obtain rfl : m = 0 := by omega
      simp
    · cases h
  | some a =>
    simp only [srcOf, Option.map_eq_some_iff] at h ⊢
    obtain ⟨l0, h1, h2⟩ := h
    simp only [Prod.mk.injEq, true_and] at h2
    subst h2
    refine ⟨l0.take (m * z), ?_, rfl⟩
    have hle : m * z ≤ n * z := Nat.mul_le_mul_right _ hm
    unfold seg at h1 ⊢
    split
    · rename_i e; rw [e]; simp
    · rename_i k e
      rw [e]
      split at h1
      · rename_i e2; omega
      · rename_i k2 e2
        rw [Option.bind_eq_some_iff] at h1 ⊢
        obtain ⟨c0, h3, h4⟩ := h1
        refine ⟨c0, h3, ?_⟩
        cases hb : Nat.ble (a.off + (k2 + 1)) c0.length with
        | false => rw [hb] at h4; cases h4
        | true =>
          rw [hb] at h4
          simp only [cond_true, Option.some.injEq] at h4
          subst h4
          rw [Nat.ble_eq] at hb
          have : Nat.ble (a.off + (k + 1)) c0.length = true := by rw [Nat.ble_eq]; omega
          rw [this]
          simp only [cond_true, Option.some.injEq, List.take_take]
          congr 1; omega
/-- What is left of bytes behind a place in them, their end too. -/
theorem rd_from {b o n c : Nat} {x : List UInt8} {lo : Int} {k : IntKind} (hc : CapOk 1 n c) (h : 0 ≤ lo ∧ lo ≤ n) :
    ∃ a' c', aSlice 1 (.slice (some ⟨b, o, none⟩) n c) (some (.int k lo)) none none = some (.slice (some a') (n - lo.toNat) c') ∧
      ∀ τ, srcOf 1 (.slice (some ⟨b, o, none⟩) n c) τ = some (n, bv x) → srcOf 1 (.slice (some a') (n - lo.toNat) c') τ = some (n - lo.toNat, bv (x.drop lo.toNat)) := by
  rcases Int.lt_or_eq_of_le h.2 with hlt | heq
  · obtain ⟨c', h1, h2⟩ := slice_from (z := 1) (b := b) (o := o) (k := k) hc ⟨h.1, hlt⟩
    refine ⟨_, c', h1, fun τ hs => ?_⟩
    have hpos : 0 < n := by omega
    simp only [srcOf, Option.map_eq_some_iff, Nat.mul_one] at hs ⊢
    obtain ⟨l0, hs, hl⟩ := hs
    simp only [Prod.mk.injEq, true_and] at hl
    subst hl
    refine ⟨bv (x.drop lo.toNat), ?_, rfl⟩
    obtain ⟨n', rfl⟩ : ∃ n', n = n' + 1 := ⟨n - 1, by omega⟩
    obtain ⟨m', hm'⟩ : ∃ m', n' + 1 - lo.toNat = m' + 1 := ⟨n' - lo.toNat, by omega⟩
    rw [hm']
    simp only [seg, Option.bind_eq_some_iff] at hs ⊢
    obtain ⟨c0, h3, h4⟩ := hs
    refine ⟨c0, h3, ?_⟩
    cases hb : Nat.ble (o + (n' + 1)) c0.length with
    | false => rw [hb] at h4; cases h4
    | true =>
      rw [hb] at h4
      simp only [cond_true, Option.some.injEq] at h4
      rw [Nat.ble_eq] at hb
      have : Nat.ble (o + lo.toNat + (m' + 1)) c0.length = true := by rw [Nat.ble_eq]; omega
      rw [this]
      simp only [cond_true, Option.some.injEq]
      rw [← bv_drop, ← h4, List.drop_take, List.drop_drop, hm']
  · have hz : n - lo.toNat = 0 := by omega
    obtain ⟨h1, h2⟩ := hc
    have : ∃ a' c', aSlice 1 (.slice (some ⟨b, o, none⟩) n c) (some (.int k lo)) none none = some (.slice (some a') (n - lo.toNat) c') := by
      simp only [aSlice, bndO, Option.bind_some]
      rw [bnd_int (by omega)]
      simp only [Option.bind_some]
      have e : lo.toNat = n := by omega
      rw [e]
      split
      · rename_i hlt
        rw [known_lt hlt] at h1
        rw [if_pos h1]
        split
        · exact ⟨_, _, rfl⟩
        · exact ⟨_, _, rfl⟩
      · split
        · exact ⟨_, _, rfl⟩
        · simp only [if_pos, Nat.sub_self]
          exact ⟨_, _, rfl⟩
    obtain ⟨a', c', h⟩ := this
    refine ⟨a', c', h, fun τ hs => ?_⟩
    rw [hz, src_zero]
    have hxl : (bv x).length = n := by have := srcOf_len hs; omega
    have : x.drop lo.toNat = [] := by rw [List.drop_eq_nil_iff]; simp at hxl; omega
    rw [this]; rfl

/-! ### What an act writes -/
def blk (A : ActM) : List UInt8 := if A.Short then A.B else put (List.replicate 256 A.X) 0 (A.B.take 256)
theorem blk_len (A : ActM) (h : A.Short = false) : (blk A).length = 256 := by
  unfold blk; rw [if_neg (by simp [h])]
  rw [put_length _ _ _ (by simp; omega)]; simp

theorem ro_front {A : Assn} (h : H l σ) (i : Nat) (hi : l[i]? = some A) (hd : Dup A) : H [A, Star l] σ := by
  have := h.dup i hi hd
  rw [H_app] at this
  exact this.pick [1, 0] (by decide)
theorem block_ok {A : ActM} {v : Value} (h : H l σ) (i : Nat) (hi : l[i]? = some (BytesA v A.B)) (hk : ∀ w σ', H (l ++ [Own 5 1 w (blk A).length (bv (blk A))]) σ' → Q w σ') :
    E 17 [.agg #[.int .i64 A.What, .int .i64 A.At, by8 A.X, v, .bool A.Short]] σ Q := by
  obtain ⟨va, vc, rfl⟩ := h.rows_form i hi
  obtain ⟨_, hlen⟩ := H.bytes_rd h i hi
  have h0 := ro_front h i hi (BytesA.dup _ _)
  have hk : ∀ w σ', H [Star l, Own 5 1 w (blk A).length (bv (blk A))] σ' → Q w σ' := fun w σ' h => hk w σ' (H_app.2 h)
  apply s17_ev; unfold s17
  simp
  refine new_ok h0 ?_
  intro tb σ1 h1
  have r2 := load1 (n := 1) (o := 2) (h1.row 2 rfl)
  have r3 := load1 (n := 1) (o := 3) (h1.row 2 rfl)
  have r4 := load1 (n := 1) (o := 4) (h1.row 2 rfl)
  simp [r2, r3, r4]
  unfold reachBytes at hlen
  cases hs : A.Short with
  | true =>
    simp
    have e : blk A = A.B := by unfold blk; simp [hs]
    rw [e] at hk
    refine append_own (n := 0) (xs := []) (h1.own_zb 5 1) 3 rfl (H.bytes_rd h1 0 rfl).1.src (by omega) (by omega) (bv_one _) ?_
    intro w σ2 h2
    simp at h2
    exact hk _ _ (h2.pick [1, 3] (by decide))
  | false =>
    simp
    refine full_ok h1 ?_
    intro w σ2 h2
    have r3 := load1 (n := 1) (o := 3) (h2.row 2 rfl)
    simp [r3]
    obtain ⟨wb, wc, rfl, hwc, _⟩ := h2.own_form 3 rfl (by omega)
    have hsrc := src_prefix (c' := vc) (H.bytes_rd h2 0 rfl).1.src (Nat.min_le_left A.B.length 256)
    simp only [Nat.mul_one, bv_take] at hsrc
    refine copy_own (o := 0) (ys := bv (A.B.take (Nat.min A.B.length 256))) h2 3 rfl (by omega) hsrc (bv_one _) (by simp; exact Nat.min_le_right _ _) ?_
    intro σ3 h3
    have e : blk A = put (List.replicate 256 A.X) 0 (A.B.take (Nat.min A.B.length 256)) := by
      unfold blk; simp only [hs, Bool.false_eq_true, if_false]
      congr 1
      rcases Nat.le_total A.B.length 256 with q | q
      · rw [show Nat.min A.B.length 256 = A.B.length from Nat.min_eq_left q, List.take_of_length_le q, List.take_length]
      · rw [show Nat.min A.B.length 256 = 256 from Nat.min_eq_right q]
    refine hk _ _ ?_
    rw [splice_put, ← e] at h3
    rw [blk_len A hs]
    exact h3.pick [1, 3] (by decide)

/-! ### A sector of a block -/
def sect (L : List UInt8) (s : Nat) : List UInt8 := (L.drop (64 * s)).take 64
theorem sect_len {L : List UInt8} {s : Nat} (h : 64 * s + 64 ≤ L.length) : (sect L s).length = 64 := by simp [sect]; omega
theorem sector_ok {b o c : Nat} {k : Nat} (hc : CapOk 1 256 c) (hk4 : k < 4) (hk : ∀ c', CapOk 1 64 c' → Q (.slice (some ⟨b, o + 64 * k, none⟩) 64 c') σ) : E 21 [.slice (some ⟨b, o, none⟩) 256 c, .int .i64 k] σ Q := by
  apply s21_ev; unfold s21
  simp
  rw [wrap_i64 (by omega), wrap_i64 (by omega)]
  obtain ⟨c', h1, h2⟩ := slice_mid (z := 1) (b := b) (o := o) (lo := 64 * (k : Int)) (hi := 64 * (k : Int) + 64) (k := .i64) (k' := .i64) hc (by omega)
  have e1 : (64 * (k : Int) + 64).toNat - (64 * (k : Int)).toNat = 64 := by omega
  have e2 : (64 * (k : Int)).toNat = 64 * k := by omega
  rw [e1, e2, Nat.mul_one] at h1
  rw [e1] at h2
  rw [h1, pu_some]
  exact hk _ h2
end Go.Ax.YtfeamgocomlepaaC
/- DiskKeeps in plain words, and the sectors' rows. No statement of the seat is proved here. -/
set_option maxRecDepth 100000
namespace Go.Ax.YtfeamgocomlepaaC
open Go.Proofs Go.RowKit

variable {l m : List Assn} {σ : AHeap} {Q : WK}

theorem src_part {b o n c c' lo k : Nat} {ys : List Value} {τ : AHeap} (h : srcOf 1 (.slice (some ⟨b, o, none⟩) n c) τ = some (n, ys)) (hk : lo + k ≤ n) : srcOf 1 (.slice (some ⟨b, o + lo, none⟩) k c') τ = some (k, (ys.drop lo).take k) := by
  rcases Nat.eq_zero_or_pos k with rfl | hpos
  · rw [src_zero]; simp
  · simp only [srcOf, Option.map_eq_some_iff, Nat.mul_one] at h ⊢
    obtain ⟨l0, h, hl⟩ := h
    simp only [Prod.mk.injEq, true_and] at hl
    subst hl
    refine ⟨_, ?_, rfl⟩
    obtain ⟨n', rfl⟩ : ∃ n', n = n' + 1 := ⟨n - 1, by omega⟩
    obtain ⟨k', rfl⟩ : ∃ k', k = k' + 1 := ⟨k - 1, by omega⟩
    simp only [seg, Option.bind_eq_some_iff] at h ⊢
    obtain ⟨c0, h3, h4⟩ := h
    refine ⟨c0, h3, ?_⟩
    cases hb : Nat.ble (o + (n' + 1)) c0.length with
    | false => rw [hb] at h4; cases h4
    | true =>
      rw [hb] at h4
      simp only [cond_true, Option.some.injEq] at h4
      rw [Nat.ble_eq] at hb
      have : Nat.ble (o + lo + (k' + 1)) c0.length = true := by rw [Nat.ble_eq]; omega
      rw [this]
      simp only [cond_true, Option.some.injEq]
      rw [← h4, List.drop_take, List.take_take, List.drop_drop, Nat.min_eq_left (by omega)]

/-! ### Sectors -/
theorem put_get (L : List UInt8) (a : Nat) (x : List UInt8) (h : a + x.length ≤ L.length) (i : Nat) : (put L a x)[i]? = if a ≤ i ∧ i < a + x.length then x[i - a]? else L[i]? := by
  unfold put
  rw [List.append_assoc, List.getElem?_append]
  simp only [List.length_take, Nat.min_eq_left (show a ≤ L.length by omega)]
  split
  · rename_i hi
    rw [if_neg (by omega), List.getElem?_take, if_pos hi]
  · rw [List.getElem?_append]
    split
    · rw [if_pos (by omega)]
    · rw [if_neg (by omega), List.getElem?_drop]; congr 1; omega
theorem sect_get (L : List UInt8) (s i : Nat) : (sect L s)[i]? = if i < 64 then L[64 * s + i]? else none := by
  unfold sect
  rw [List.getElem?_take]
  split
  · rw [List.getElem?_drop]
  · rfl
theorem sect_put_same {L y : List UInt8} {s : Nat} (hL : 64 * s + 64 ≤ L.length) (hy : y.length ≤ 64) : sect (put L (64 * s) y) s = y ++ (sect L s).drop y.length := by
  apply List.ext_getElem?
  intro i
  rw [sect_get, List.getElem?_append, List.getElem?_drop, sect_get]
  split
  · rw [put_get _ _ _ (by omega)]
    split
    · rw [if_pos (by omega)]; congr 1; omega
    · rw [if_neg (by omega), if_pos (by omega)]; congr 1; omega
  · rw [if_neg (by omega), if_neg (by omega)]
theorem sect_put_other {L y : List UInt8} {s j : Nat} (hL : 64 * s + 64 ≤ L.length) (hy : y.length ≤ 64) (hj : j ≠ s) : sect (put L (64 * s) y) j = sect L j := by
  apply List.ext_getElem?
  intro i
  rw [sect_get, sect_get]
  split
  · rw [put_get _ _ _ (by omega), if_neg (by omega)]
  · rfl
def sects (n : Nat) (L : List UInt8) : List (List UInt8) := (List.range n).map (sect L)
theorem sects_get {n : Nat} {L : List UInt8} {s : Nat} (h : s < n) : (sects n L)[s]? = some (sect L s) := by simp [sects, h]
theorem sects_put {n : Nat} {L y : List UInt8} {s : Nat} (hL : 64 * s + 64 ≤ L.length) (hy : y.length ≤ 64) (hs : s < n) : sects n (put L (64 * s) y) = (sects n L).set s (y ++ (sect L s).drop y.length) := by
  apply List.ext_getElem?
  intro i
  rw [List.getElem?_set]
  split
  · rename_i e; subst e
    rw [if_pos (by simp [sects, hs]), sects_get hs, sect_put_same hL hy]
  · rename_i e
    simp only [sects, List.getElem?_map]
    cases hr : (List.range n)[i]? with
    | none => rfl
    | some j =>
      have : j = i := by
        rw [List.getElem?_range] at hr
        · cases hr; rfl
        · have := (List.getElem?_eq_some_iff.1 hr).1; simpa using this
      subst this
      simp only [Option.map_some]
      rw [sect_put_other hL hy (by omega)]
theorem sects_snoc (n : Nat) (L : List UInt8) : sects (n + 1) L = sects n L ++ [sect L n] := by simp [sects, List.range_succ]
theorem sects_len (n : Nat) (L : List UInt8) : (sects n L).length = n := by simp [sects]

/-! ### Rows of assertions -/
theorem each_out {A : Value → List UInt8 → Assn} {vs : List Value} {xs : List (List UInt8)} {k : Nat} {v : Value} {x : List UInt8} (h : H (Star (List.zipWith A vs xs) :: m) σ) (hv : vs[k]? = some v) (hx : xs[k]? = some x) :
    H (A v x :: Star ((List.zipWith A vs xs).set k emp) :: m) σ := by
  have e : (List.zipWith A vs xs)[k]? = some (A v x) := by simp [List.getElem?_zipWith, hv, hx]
  rw [Star_take _ k, H_sep] at h
  simpa only [List.getD, e, Option.getD_some] using h
theorem zip_set {A : Value → List UInt8 → Assn} : ∀ (vs : List Value) (xs : List (List UInt8)) (k : Nat) (v : Value) (x : List UInt8), List.zipWith A (vs.set k v) (xs.set k x) = (List.zipWith A vs xs).set k (A v x)
  | [], _, _, _, _ => by simp
  | _ :: _, [], _, _, _ => by simp
  | _ :: vs, _ :: xs, 0, _, _ => by simp
  | _ :: vs, _ :: xs, k + 1, v, x => by simp [zip_set vs xs k v x]
theorem each_in {A : Value → List UInt8 → Assn} {vs : List Value} {xs : List (List UInt8)} {k : Nat} {v : Value} {x : List UInt8} (h1 : k < vs.length) (h2 : k < xs.length) (h : H (A v x :: Star ((List.zipWith A vs xs).set k emp) :: m) σ) :
    H (Star (List.zipWith A (vs.set k v) (xs.set k x)) :: m) σ := by
  rw [zip_set, Star_set _ _ _ (by simp; omega), H_sep]
  exact h
theorem each_mono {A B : Value → List UInt8 → Assn} (hAB : ∀ v x r, A v x r → B v x r) : ∀ (vs : List Value) (xs : List (List UInt8)) (r : Res), Star (List.zipWith A vs xs) r → Star (List.zipWith B vs xs) r
  | [], _, _, h => by simpa using h
  | _ :: _, [], _, h => by simpa using h
  | v :: vs, x :: xs, r, h => by
    simp only [List.zipWith_cons_cons, Star] at h ⊢
    obtain ⟨a, b, j, p, q⟩ := h
    exact ⟨a, b, j, hAB _ _ _ p, each_mono hAB vs xs b q⟩

theorem each_mono_set {A B : Value → List UInt8 → Assn} (hAB : ∀ v x r, A v x r → B v x r) : ∀ (vs : List Value) (xs : List (List UInt8)) (k : Nat) (r : Res), Star ((List.zipWith A vs xs).set k emp) r → Star ((List.zipWith B vs xs).set k emp) r
  | [], _, _, _, h => by simpa using h
  | _ :: _, [], _, _, h => by simpa using h
  | v :: vs, x :: xs, 0, r, h => by
    simp only [List.zipWith_cons_cons, List.set_cons_zero, Star] at h ⊢
    obtain ⟨a, b, j, p, q⟩ := h
    exact ⟨a, b, j, p, each_mono hAB vs xs b q⟩
  | v :: vs, x :: xs, k + 1, r, h => by
    simp only [List.zipWith_cons_cons, List.set_cons_succ, Star] at h ⊢
    obtain ⟨a, b, j, p, q⟩ := h
    exact ⟨a, b, j, hAB _ _ _ p, each_mono_set hAB vs xs k b q⟩

/-- What a sector may be: the last of a row is x. -/
def MayA (N : Nat) (v : Value) (x : List UInt8) : Assn := ex fun p : List Value × Value => sep (pure' (p.1.length ≤ N)) (sep (Own 23 1 v (p.1.length + 1) (p.1 ++ [p.2])) (RoB p.2 x))
theorem may_mono {N N' : Nat} (hN : N ≤ N') (v : Value) (x : List UInt8) (r : Res) : MayA N v x r → MayA N' v x r := by
  rintro ⟨p, a, b, j, ⟨rfl, h1⟩, h2⟩
  exact ⟨p, _, b, j, ⟨rfl, by omega⟩, h2⟩
theorem may_out {N : Nat} {v : Value} {x : List UInt8} (h : H (MayA N v x :: m) σ) : ∃ (pre : List Value) (sv : Value), pre.length ≤ N ∧ H (Own 23 1 v (pre.length + 1) (pre ++ [sv]) :: RoB sv x :: m) σ := by
  obtain ⟨p, h⟩ := H_ex.1 h
  rw [H_sep] at h
  obtain ⟨h1, h⟩ := H_pure.1 h
  rw [H_sep] at h
  exact ⟨_, _, h1, h⟩
theorem may_in {N n : Nat} {v sv : Value} {x : List UInt8} {pre : List Value} (hn : n = pre.length + 1) (h1 : pre.length ≤ N) (h : H (Own 23 1 v n (pre ++ [sv]) :: RoB sv x :: m) σ) : H (MayA N v x :: m) σ :=
  H_ex.2 ⟨(pre, sv), by rw [H_sep]; exact H_pure.2 ⟨h1, by rw [H_sep, ← hn]; exact h⟩⟩

/-! ### Bytes that are owned stay as they are from now on -/
theorem own_freeze {v : Value} {n : Nat} {x : List UInt8} (hn : 0 < n) (h : H (Own 5 1 v n (bv x) :: m) σ) : ∃ b c, v = .slice (some ⟨b, 0, none⟩) n c ∧ CapOk 1 n c ∧
    ∀ o k c', CapOk 1 k c' → o + k ≤ n → H (RoB (.slice (some ⟨b, o, none⟩) k c') ((x.drop o).take k) :: m) σ := by
  rcases H_own.1 h with ⟨⟨rfl, _⟩, _⟩ | ⟨b, c, opn, rest, hp, hx, hr, rfl, hn2, ho⟩
  · omega
  · refine ⟨b, c, rfl, ⟨hn2, by rcases ho with ⟨_, _, x⟩ | x; exact .inr x; exact .inl x⟩, fun o k c' hc hk => ?_⟩
    have hxl : x.length = n := by simpa using hx
    have hl : ((x.drop o).take k).length = k := by simp; omega
    have := rob_in (b := b) (o := o) (cap := c') (x := (x.drop o).take k) (c := bv x ++ rest) (e := 5) (opn := opn) (by rw [hl]; exact hc) (by
      rw [hl, List.drop_append_of_le_length (by simp; omega), List.take_append_of_le_length (by simp; omega)]; simp) (by rw [hl]; simp; omega) hp.freeze0
    rw [hl] at this
    exact this

/-! ### Plain disks -/
theorem write_plain {D : DM} {n a : Nat} {bs : List UInt8} (hD : D.Ok n) (ho : D.off = false) (hf : D.fuse = 0) (ha : a < n) (hb : bs.length = 256) : D.write a bs = (D.fling a bs, 0) := by
  have hr := ready_in hD ha
  rw [ho] at hr
  simp at hr
  simp [DM.write, hr, hb, DM.burn, hf]
theorem barrier_plain {D : DM} {n : Nat} (hD : D.Ok n) (ho : D.off = false) (hf : D.fuse = 0) : D.barrier = (D.land, 0) := by
  have hr := ready_in hD (a := 0) hD.lo
  rw [ho] at hr
  simp at hr
  simp [DM.barrier, hr, DM.burn, hf]
theorem fling_Ok {D : DM} {n a : Nat} {bs : List UInt8} (hD : D.Ok n) (ha : a < n) (hb : bs.length = 256) : (D.fling a bs).Ok n :=
  ⟨hD.lo, hD.hi, hD.len, fun f hf => by
    simp only [DM.fling, List.mem_append] at hf
    rcases hf with hf | hf
    · exact hD.fly f hf
    · exact parts_Ok ha hb f hf⟩
theorem crash_Ok {D : DM} {n : Nat} (hD : D.Ok n) (picks : List UInt8) : (D.crash picks).Ok n := ⟨hD.lo, hD.hi, crashed_length _ _ _ _ hD.len hD.fly, fun f hf => by simp [DM.crash] at hf⟩
theorem block_still {D : DM} (a : Nat) (h : D.fly = []) : D.block a = (D.last.drop (a * 256)).take 256 := by simp [DM.block, h, over]
theorem block_sect {L : List UInt8} {s : Nat} : ((((L.drop (s / 4 * 256)).take 256).drop (64 * (s % 4))).take 64) = sect L s := by
  rw [List.drop_take, List.take_take, List.drop_drop, Nat.min_eq_left (by omega)]
  unfold sect
  congr 2
  omega
theorem block_len {D : DM} {n a : Nat} (hD : D.Ok n) (ha : a < n) : (D.block a).length = 256 := by
  have := hD.len
  refine over_length _ _ _ (by simp; omega) (fun f hf => (hD.fly f hf).len) fun f hf g1 g2 => ?_
  have := (hD.fly f hf).al
  omega
end Go.Ax.YtfeamgocomlepaaC
/- Heaps in plain words: a row, its keys, what 'down' does to it. No program here. No statement of the seat is proved here. -/
namespace Go.Ax

section
variable {α : Type} (key : α → Nat)

def swp (R : List α) (i j : Nat) : List α :=
  match R[i]?, R[j]? with
  | some x, some y => (R.set i y).set j x
  | _, _ => R
variable {key}
theorem swp_eq {R : List α} {i j : Nat} (hi : i < R.length) (hj : j < R.length) : swp R i j = (R.set i R[j]).set j R[i] := by
  unfold swp
  rw [List.getElem?_eq_getElem hi, List.getElem?_eq_getElem hj]
theorem swp_length (R : List α) (i j : Nat) : (swp R i j).length = R.length := by
  unfold swp; split <;> simp
theorem swp_get {R : List α} {i j : Nat} (hi : i < R.length) (hj : j < R.length) (k : Nat) : (swp R i j)[k]? = if k = j then R[i]? else if k = i then R[j]? else R[k]? := by
  rw [swp_eq hi hj, List.getElem?_set, List.getElem?_set]
  by_cases h1 : j = k
  · subst h1; simp [hj, List.getElem?_eq_getElem hi]
  · rw [if_neg h1, if_neg (Ne.symm h1)]
    by_cases h2 : i = k
    · subst h2; simp [hi, List.getElem?_eq_getElem hj]
    · rw [if_neg h2, if_neg (Ne.symm h2)]
theorem swp_perm (R : List α) {i j : Nat} (hi : i < R.length) (hj : j < R.length) : (swp R i j).Perm R := by
  rw [swp_eq hi hj]
  exact List.set_set_perm hi hj

variable (key)
def Ky (R : List α) (k : Nat) : Nat := ((R[k]?).map key).getD 0
variable {key}
theorem Ky_swp {R : List α} {i j : Nat} (hi : i < R.length) (hj : j < R.length) (k : Nat) : Ky key (swp R i j) k = if k = j then Ky key R i else if k = i then Ky key R j else Ky key R k := by
  unfold Ky
  rw [swp_get hi hj]
  split
  · rfl
  · split <;> rfl

variable (key)
/-- A heap, but for what stands at i. -/
def HeapEx (R : List α) (n i : Nat) : Prop := (∀ k, 0 < k → k < n → (k - 1) / 2 ≠ i → Ky key R ((k - 1) / 2) ≤ Ky key R k) ∧ (∀ k, 0 < k → k < n → (k - 1) / 2 = i → 0 < i → Ky key R ((i - 1) / 2) ≤ Ky key R k)
def HeapOk (R : List α) (n : Nat) : Prop := ∀ k, 0 < k → k < n → Ky key R ((k - 1) / 2) ≤ Ky key R k
variable {key}

theorem HeapEx.step {R : List α} {n i j : Nat} (h : HeapEx key R n i) (hn : n ≤ R.length) (hj : j < n) (hp : (j - 1) / 2 = i) (hj0 : 0 < j) (hmin : ∀ k, 0 < k → k < n → (k - 1) / 2 = i → Ky key R j ≤ Ky key R k) (hlt : Ky key R j < Ky key R i) : HeapEx key (swp R i j) n j := by
  obtain ⟨h1, h2⟩ := h
  have hij : i < j := by omega
  refine ⟨fun k hk0 hkn hpk => ?_, fun k hk0 hkn hpk _ => ?_⟩
  · rw [Ky_swp (by omega) (by omega), Ky_swp (by omega) (by omega)]
    by_cases e1 : k = j
    · subst e1
      rw [if_neg (by omega), if_pos hp, if_pos rfl]; omega
    · by_cases e2 : k = i
      · subst e2
        rw [if_neg (by omega), if_neg (by omega), if_neg (by omega), if_pos rfl]
        exact h2 j hj0 hj hp hk0
      · rw [if_neg hpk, if_neg e1, if_neg e2]
        by_cases e3 : (k - 1) / 2 = i
        · rw [if_pos e3]; exact hmin k hk0 hkn e3
        · rw [if_neg e3]; exact h1 k hk0 hkn e3
  · rw [Ky_swp (by omega) (by omega), Ky_swp (by omega) (by omega)]
    rw [if_neg (by omega), if_pos hp, if_neg (by omega), if_neg (by omega)]
    have := h1 k hk0 hkn (by omega)
    rw [hpk] at this
    exact this
theorem HeapEx.done {R : List α} {n i : Nat} (h : HeapEx key R n i) (hmin : ∀ k, 0 < k → k < n → (k - 1) / 2 = i → Ky key R i ≤ Ky key R k) : HeapOk key R n := by
  intro k hk0 hkn
  by_cases e : (k - 1) / 2 = i
  · rw [e]; exact hmin k hk0 hkn e
  · exact h.1 k hk0 hkn e
theorem HeapOk.top {R : List α} {n : Nat} (h : HeapOk key R n) : ∀ k, k < n → Ky key R 0 ≤ Ky key R k := by
  intro k
  induction k using Nat.strongRecOn with
  | ind k ih =>
    intro hk
    rcases Nat.eq_zero_or_pos k with rfl | h0
    · exact Nat.le_refl _
    · exact Nat.le_trans (ih ((k - 1) / 2) (by omega) (by omega)) (h k h0 hk)
theorem HeapOk.less {R : List α} {n m : Nat} (h : HeapOk key R n) (hm : m ≤ n) : HeapOk key R m := fun k h0 hk => h k h0 (by omega)
/-- What is read of both is the same. -/
theorem Ky_congr {R S : List α} {n : Nat} (h : ∀ k, k < n → R[k]? = S[k]?) {k : Nat} (hk : k < n) : Ky key R k = Ky key S k := by unfold Ky; rw [h k hk]
theorem HeapOk.congr {R S : List α} {n : Nat} (h : HeapOk key R n) (e : ∀ k, k < n → R[k]? = S[k]?) : HeapOk key S n := fun k h0 hk => by
  rw [← Ky_congr e hk, ← Ky_congr e (show (k - 1) / 2 < n by omega)]; exact h k h0 hk
/-- A key that grows. -/
theorem HeapOk.grow {R : List α} {n p : Nat} {x : α} (h : HeapOk key R n) (hp : p < R.length) (hx : Ky key R p ≤ key x) : HeapEx key (R.set p x) n p := by
  have hK : ∀ k, Ky key (R.set p x) k = if k = p then key x else Ky key R k := by
    intro k
    unfold Ky
    rw [List.getElem?_set]
    by_cases e : p = k
    · subst e; simp [hp]
    · rw [if_neg e, if_neg (Ne.symm e)]
  refine ⟨fun k h0 hk hpk => ?_, fun k h0 hk hpk hp0 => ?_⟩
  · rw [hK, hK, if_neg hpk]
    have := h k h0 hk
    split
    · rename_i e; subst e; omega
    · exact this
  · rw [hK, hK, if_neg (by omega)]
    have h1 := h k h0 hk
    have h2 := h p hp0 (by omega)
    rw [hpk] at h1
    rw [if_neg (by omega)]
    omega
/-- The last one goes to the top, the top behind. -/
theorem HeapOk.pop {R : List α} {n : Nat} (h : HeapOk key R (n + 1)) (hn : n < R.length) : HeapEx key (swp R 0 n) n 0 := by
  refine ⟨fun k h0 hk hpk => ?_, fun k h0 hk hpk hp0 => by omega⟩
  rw [Ky_swp (by omega) hn, Ky_swp (by omega) hn, if_neg (by omega), if_neg hpk, if_neg (by omega), if_neg (by omega)]
  exact h k h0 (by omega)
end
end Go.Ax
/- The reference's disk in memory, and contracts of its functions. No statement of the seat is proved here. -/
set_option maxRecDepth 100000
namespace Go.Ax.YtfeamgocomlepaaC
open Go.Proofs Go.RowKit

variable {l m : List Assn} {σ : AHeap} {Q : WK}

theorem set_self {A : Assn} {i : Nat} (hi : l[i]? = some A) : l.set i A = l := by
  apply List.ext_getElem?
  intro j
  rw [List.getElem?_set]
  split
  · rename_i e; subst e; split
    · exact hi.symm
    · rename_i hh; exact absurd (List.getElem?_eq_some_iff.1 hi).1 hh
  · rfl

/-- The cells of the reference's flights. -/
def rflc : List Flight → List Value → List Value
  | f :: fs, s :: ss => .int .i64 (f.1 / 64 : Nat) :: s :: rflc fs ss
  | _, _ => []
theorem rflc_get : ∀ (fs : List Flight) (ss : List Value) (k : Nat) (f : Flight) (s : Value), fs[k]? = some f → ss[k]? = some s → ((rflc fs ss).drop (k * 2)).take 2 = [.int .i64 (f.1 / 64 : Nat), s]
  | [], _, k, f, s, h, _ => by simp at h
  | _ :: _, [], k, f, s, _, h => by simp at h
  | f :: fs, s :: ss, 0, f', s', h, h' => by simp at h h'; subst h; subst h'; simp [rflc]
  | f :: fs, s :: ss, k + 1, f', s', h, h' => by
    simp at h h'
    have := rflc_get fs ss k f' s' h h'
    simp only [rflc]
    rw [show (k + 1) * 2 = k * 2 + 1 + 1 by omega, List.drop_succ_cons, List.drop_succ_cons]
    exact this
theorem rflc_append : ∀ (fs : List Flight) (ss : List Value) (gs : List Flight) (ts : List Value), fs.length = ss.length → rflc (fs ++ gs) (ss ++ ts) = rflc fs ss ++ rflc gs ts
  | [], [], gs, ts, _ => rfl
  | [], _ :: _, gs, ts, h => by simp at h
  | _ :: _, [], gs, ts, h => by simp at h
  | f :: fs, s :: ss, gs, ts, h => by simp [rflc, rflc_append fs ss gs ts (by simpa using h)]

/-- The reference's disk of n blocks. -/
def RDiskP (b : Nat) (n : Nat) (sv lv : Value) (ss fs : List Value) (D : DM) : List Assn :=
  [pt b (.cells [sv, lv, .int .i64 D.fuse, .bool D.off, .int .i64 n] 114 false), Own 23 1 sv (4 * n) ss, Own 117 2 lv D.fly.length (rflc D.fly fs), Star (List.zipWith RoB ss (sects (4 * n) D.last)), FlyA D.fly fs]
def RDisk (n : Nat) (v : Value) (D : DM) : Assn := ex fun p : Nat × Value × Value × List Value × List Value =>
  sep (pure' (v = .pointer (some ⟨p.1, 0, none⟩) ∧ p.2.2.2.1.length = 4 * n ∧ p.2.2.2.2.length = D.fly.length)) (Star (RDiskP p.1 n p.2.1 p.2.2.1 p.2.2.2.1 p.2.2.2.2 D))
theorem rdisk_out {n : Nat} {v : Value} {D : DM} (h : H (RDisk n v D :: m) σ) : ∃ b sv lv ss fs, v = .pointer (some ⟨b, 0, none⟩) ∧ ss.length = 4 * n ∧ fs.length = D.fly.length ∧ H (RDiskP b n sv lv ss fs D ++ m) σ := by
  obtain ⟨p, h⟩ := H_ex.1 h
  rw [H_sep] at h
  obtain ⟨⟨h1, h2, h3⟩, h⟩ := H_pure.1 h
  exact ⟨_, _, _, _, _, h1, h2, h3, H_star.1 h⟩
theorem rdisk_in {n : Nat} {D : DM} {b : Nat} (sv lv : Value) (ss fs : List Value) (h1 : ss.length = 4 * n) (h2 : fs.length = D.fly.length) (h : H (RDiskP b n sv lv ss fs D ++ m) σ) : H (RDisk n (.pointer (some ⟨b, 0, none⟩)) D :: m) σ :=
  H_ex.2 ⟨(b, sv, lv, ss, fs), by rw [H_sep]; exact H_pure.2 ⟨⟨rfl, h1, h2⟩, H_star.2 h⟩⟩

/-! ### own, why, burns, Fuse -/
theorem rown_ok {v : Value} {k : Nat} {ys : List UInt8} (h : H l σ) (hs : srcOf 1 v σ = some (k, bv ys)) (hn : k ≤ 140737488355328) (hk : ∀ w σ', H (l ++ [Own 5 1 w k (bv ys)]) σ' → Q w σ') : E 71 [v] σ Q := by
  apply s71_ev; unfold s71
  refine append_own (n := 0) (xs := []) (h.own_nil 5 1) l.length (by simp) hs (by omega) (by omega) (bv_one _) ?_
  intro w σ1 h1
  simp at h1
  exact hk _ _ h1
theorem why_ok {v : Value} {D : DM} {n : Nat} {a : Int} (h : H l σ) (i : Nat) (hi : l[i]? = some (RDisk n v D)) (hD : D.Ok n) (hk : Q (.int .i64 (D.ready a)) σ) : E 69 [v, .int .i64 a] σ Q := by
  obtain ⟨b, sv, lv, ss, fs, rfl, hs, hf, h⟩ := rdisk_out (h.out i hi)
  have r3 := load1 (n := 1) (o := 3) (h.row 0 rfl)
  have r4 := load1 (n := 1) (o := 4) (h.row 0 rfl)
  have hlen := hD.len
  apply s69_ev; unfold s69
  simp [r3, r4]
  unfold DM.ready at hk
  cases ho : D.off with
  | true => simpa [ho] using hk
  | false =>
    simp only [ho, Bool.false_eq_true, if_false] at hk
    simp
    refine wG_dec (fun h1 => ?_) fun h1 => ?_
    · unfold s69k4; simpa [h1] using hk
    · unfold s69k4
      refine wC_dec (fun h2 => ?_) fun h2 => ?_
      · rw [if_pos (.inr (by omega))] at hk; exact hk
      · rw [if_neg (by omega)] at hk; exact hk
theorem burns_ok {v : Value} {D : DM} {n : Nat} (h : H l σ) (i : Nat) (hi : l[i]? = some (RDisk n v D)) (hf : D.fuse < 9223372036854775808) (hk : ∀ σ', H (l.set i (RDisk n v D.burn.1)) σ' → Q (.bool (!D.burn.2)) σ') : E 70 [v] σ Q := by
  have h0 := h
  obtain ⟨b, sv, lv, ss, fs, rfl, hs, hfs, h⟩ := rdisk_out (h.out i hi)
  have r2 := load1 (n := 1) (o := 2) (h.row 0 rfl)
  apply s70_ev; unfold s70
  simp [r2]
  refine wC_dec (fun h1 => ?_) fun h1 => ?_
  · have hb : D.burn = (D, true) := by unfold DM.burn; rw [if_pos (by omega)]
    rw [hb] at hk
    exact hk σ (by rw [set_self hi]; exact h0)
  · rw [wrap_i64 (by omega)]
    refine store1 h 0 rfl rfl (by simp) ?_
    intro σ1 h2
    have r2 := load1 (n := 1) (o := 2) (h2.row 0 rfl)
    simp [r2]
    have e : (D.fuse : Int) - 1 = ((D.fuse - 1 : Nat) : Int) := by omega
    rw [e] at h2
    refine wC_dec (fun h3 => ?_) fun h3 => ?_
    · have hb : D.burn = ({ D with fuse := D.fuse - 1 }, true) := by
        unfold DM.burn
        rw [if_neg (by omega), if_neg (by omega)]
      rw [hb] at hk
      exact hk _ (H.in' i hi (rdisk_in sv lv ss fs hs hfs h2))
    · have hb : D.burn = ({ D with fuse := 0, off := true }, false) := by
        unfold DM.burn
        rw [if_neg (by omega), if_pos (by omega)]
      rw [hb] at hk
      refine store1 h2 0 rfl rfl (by simp) ?_
      intro σ2 h4
      rw [show D.fuse - 1 = 0 by omega] at h4
      exact hk _ (H.in' i hi (rdisk_in (D := { D with fuse := 0, off := true }) sv lv ss fs hs hfs h4))
theorem rfuse_ok {v : Value} {D : DM} {n : Nat} {a : Int} (h : H l σ) (i : Nat) (hi : l[i]? = some (RDisk n v D)) (hk : ∀ σ', H (l.set i (RDisk n v (D.setFuse a))) σ' → Q (.tuple #[]) σ') : E 32 [v, .int .i64 a] σ Q := by
  obtain ⟨b, sv, lv, ss, fs, rfl, hs, hfs, h⟩ := rdisk_out (h.out i hi)
  apply s32_ev; unfold s32
  simp
  refine store1 h 0 rfl rfl (by simp) ?_
  intro σ1 h1
  try simp
  refine wC_dec (fun h3 => ?_) fun h3 => ?_
  · refine store1 h1 0 rfl rfl (by simp) ?_
    intro σ2 h2
    have e : a.toNat = 0 := by omega
    refine hk _ (H.in' i hi (rdisk_in (D := D.setFuse a) sv lv ss fs hs hfs ?_))
    unfold DM.setFuse RDiskP
    rw [e]
    exact h2
  · have e : a = (a.toNat : Nat) := by omega
    refine hk _ (H.in' i hi (rdisk_in (D := D.setFuse a) sv lv ss fs hs hfs ?_))
    unfold DM.setFuse RDiskP
    simp only
    rw [← e]
    exact h1

/-! ### Sectors and flights of the reference's disk -/
/-- A flight of the reference's disk: its cells, and its bytes. -/
theorem rdisk_fly {v : Value} {D : DM} {n k : Nat} {f : Flight} (h : H l σ) (i : Nat) (hi : l[i]? = some (RDisk n v D)) (hk : D.fly[k]? = some f) :
    ∃ b sv lv lb s, v = .pointer (some ⟨b, 0, none⟩) ∧ σ.row b = some [sv, lv, .int .i64 D.fuse, .bool D.off, .int .i64 n] ∧ (∀ kd, aIndexAddr 2 lv (.int kd k) = some (.pointer (some ⟨lb, k * 2, none⟩))) ∧
      aLoad true 2 (.pointer (some ⟨lb, k * 2, none⟩)) σ = some (.agg #[.int .i64 (f.1 / 64 : Nat), s]) ∧ aLoad false 1 (.pointer (some ⟨lb, k * 2, none⟩)) σ = some (.int .i64 (f.1 / 64 : Nat)) ∧ aLoad false 1 (.pointer (some ⟨lb, k * 2 + 1, none⟩)) σ = some s ∧
      H (l ++ [RoB s f.2]) σ := by
  have h0 := h
  obtain ⟨b, sv, lv, ss, fs, rfl, hs, hfs, h⟩ := rdisk_out (h.out i hi)
  have hlt := (List.getElem?_eq_some_iff.1 hk).1
  obtain ⟨lb, e1, e2, e3⟩ := h.own_elem 2 rfl (k := k) hlt
  have hsk := List.getElem?_eq_getElem (show k < fs.length by omega)
  have hg := rflc_get _ _ k _ _ hk hsk
  rw [hg] at e2
  have g0 := e3 1 0 (by omega)
  have g1 := e3 1 1 (by omega)
  have q0 : (rflc D.fly fs)[k * 2]? = some (.int .i64 (f.1 / 64 : Nat)) := by
    have := congrArg (·[0]?) hg
    simpa [List.getElem?_take, List.getElem?_drop] using this
  have q1 : (rflc D.fly fs)[k * 2 + 1]? = some fs[k] := by
    have := congrArg (·[1]?) hg
    simpa [List.getElem?_take, List.getElem?_drop] using this
  rw [Nat.add_zero] at g0
  rw [q0] at g0
  rw [q1] at g1
  refine ⟨b, sv, lv, lb, fs[k], rfl, h.row 0 rfl, e1, e2, g0, g1, ?_⟩
  have h1 := (h.dup 4 rfl (FlyA.dup _ _)).pick [6, 0, 1, 2, 3, 4, 5] (by decide)
  have h2 : H (RoB fs[k] f.2 :: _) σ := fly0 h1 hk hsk
  have h3 : H ([RDisk n (.pointer (some ⟨b, 0, none⟩)) D, Star (l.set i emp), RoB fs[k] f.2]) σ := rdisk_in sv lv ss fs hs hfs (h2.pick [1, 2, 3, 4, 5, 6, 0] (by decide))
  exact in_self i hi h3
/-- A sector of the reference's disk. -/
theorem rdisk_sect {v : Value} {D : DM} {n k : Nat} (h : H l σ) (i : Nat) (hi : l[i]? = some (RDisk n v D)) (hk : k < 4 * n) :
    ∃ b sv lv sb s, v = .pointer (some ⟨b, 0, none⟩) ∧ σ.row b = some [sv, lv, .int .i64 D.fuse, .bool D.off, .int .i64 n] ∧ (∀ kd, aIndexAddr 1 sv (.int kd k) = some (.pointer (some ⟨sb, k, none⟩))) ∧
      aLoad false 1 (.pointer (some ⟨sb, k, none⟩)) σ = some s ∧ H (l ++ [RoB s (sect D.last k)]) σ := by
  obtain ⟨b, sv, lv, ss, fs, rfl, hs, hfs, h⟩ := rdisk_out (h.out i hi)
  obtain ⟨sb, e1, e2, e3⟩ := h.own_elem 1 rfl (k := k) hk
  have hsk := List.getElem?_eq_getElem (show k < ss.length by omega)
  have g0 := e3 1 0 (by omega)
  rw [Nat.mul_one, Nat.add_zero, hsk] at g0
  simp only [Nat.mul_one] at e1
  refine ⟨b, sv, lv, sb, ss[k], rfl, h.row 0 rfl, e1, g0, ?_⟩
  have hd : Dup (Star (List.zipWith RoB ss (sects (4 * n) D.last))) := Dup.star fun A hA => by
    obtain ⟨i, hi, e⟩ := List.getElem_of_mem hA
    rw [← e]
    simp only [List.getElem_zipWith]
    exact RoB.dup _ _
  have h1 := (h.dup 3 rfl hd).pick [6, 0, 1, 2, 3, 4, 5] (by decide)
  have h2 := each_out h1 hsk (sects_get hk)
  have h3 : H ([RDisk n (.pointer (some ⟨b, 0, none⟩)) D, Star (l.set i emp), RoB ss[k] (sect D.last k)]) σ := rdisk_in sv lv ss fs hs hfs (h2.pick [2, 3, 4, 5, 6, 7, 0] (by decide))
  exact in_self i hi h3

/-- The part in front, what stands beside behind it. -/
theorem out_app {A : Assn} (h : H (l ++ m) σ) (i : Nat) (hi : l[i]? = some A) : H (A :: Star (l.set i emp) :: m) σ := by
  rw [H_app] at h
  have e : Star l = sep A (Star (l.set i emp)) := by
    conv => lhs; rw [Star_take l i]
    simp [List.getD, hi]
  rw [e, H_sep] at h; exact h

/-! ### lay -/
theorem lay_ok {v s : Value} {D : DM} {n sec q : Nat} {x : List UInt8} (h : H l σ) (i : Nat) (hi : l[i]? = some (RDisk n v D)) (j : Nat) (hj : l[j]? = some (RoB s x)) (hx : x.length = 64) (hD : D.last.length = 256 * n) (hn : n ≤ 1024) (hsec : sec < 4 * n) (hq : q ≤ 64)
    (hk : ∀ σ', H (l.set i (RDisk n v { D with last := put D.last (64 * sec) (x.take q) })) σ' → Q (.tuple #[]) σ') : E 72 [v, .agg #[.int .i64 sec, s], .int .i64 q] σ Q := by
  have hdup := out_app (h.dup j hj (RoB.dup _ _)) i hi
  obtain ⟨b, sv, lv, ss, fs, rfl, hs, hfs, h⟩ := rdisk_out hdup
  obtain ⟨svb, svc, rfl, hcap, _⟩ := h.own_form 1 rfl (by omega)
  obtain ⟨sb, so, sc, cc, rfl, hscap, _⟩ := h.rob 6 rfl
  rw [hx] at hscap
  apply s72_ev; unfold s72
  simp
  refine new_ok h ?_
  intro tb σ1 h1
  have t1 := load1 (n := 1) (o := 1) (h1.row 7 rfl)
  simp [t1]
  obtain ⟨c3, g1, _⟩ := slice_to (z := 1) (b := sb) (o := so) (hi := (q : Int)) (k := .i64) hscap (by omega) (by omega)
  rw [hx, g1]
  simp
  have hsx := (h1.rob_rd 6 rfl).src
  have hpre := src_prefix (c' := c3) hsx (show q ≤ x.length by omega)
  rw [Nat.mul_one, bv_take] at hpre
  refine rown_ok h1 hpre (by omega) ?_
  intro w σ2 h2
  have r0 := load1 (n := 1) (o := 0) (h2.row 0 rfl)
  have t0 := load1 (n := 1) (o := 0) (h2.row 7 rfl)
  simp [r0, t0]
  rw [idxA (by omega)]
  obtain ⟨_, _, hv, _, rest, hrow⟩ := h2.own_form 1 rfl (by omega)
  cases hv
  have hsk := List.getElem?_eq_getElem (show sec < ss.length by omega)
  have g0 := load1 (n := 1) (o := sec) hrow
  rw [List.getElem?_append_left (by omega), hsk] at g0
  simp [g0]
  have hd : Dup (Star (List.zipWith RoB ss (sects (4 * n) D.last))) := Dup.star fun A hA => by
    obtain ⟨i, hi, e⟩ := List.getElem_of_mem hA
    rw [← e]
    simp only [List.getElem_zipWith]
    exact RoB.dup _ _
  have hsl : (sect D.last sec).length = 64 := sect_len (by omega)
  have h3 := each_out ((h2.dup 3 rfl hd).pick [9, 0, 1, 2, 3, 4, 5, 7, 8] (by decide)) hsk (sects_get hsec)
  have h4 := h3.pick [0, 2, 3, 4, 5, 6, 7, 8, 9] (by decide)
  obtain ⟨kb, ko, kc, kk, hke, hkcap, _⟩ := h4.rob 0 rfl
  rw [hsl] at hke hkcap
  rw [hke]
  obtain ⟨a', c1, f1, f2⟩ := rd_from (b := kb) (o := ko) (x := sect D.last sec) (lo := (q : Int)) (k := .i64) hkcap (by omega)
  rw [f1]
  simp only [Int.toNat_natCast] at f2
  simp
  have hsv := (h4.rob_rd 0 rfl).src
  rw [hsl, hke] at hsv
  refine append_own (n := q) (m := 64 - q) (ys := bv ((sect D.last sec).drop q)) h4 8 rfl (f2 _ hsv) (by omega) (by omega) (bv_one _) ?_
  intro w2 σ3 h5
  have r0 := load1 (n := 1) (o := 0) (h5.row 1 rfl)
  have t0 := load1 (n := 1) (o := 0) (h5.row 7 rfl)
  simp [r0, t0, veq1, veq, veq0]
  rw [show q + (64 - q) = 64 by omega, ← bv_append] at h5
  have ho := own_one h5 (i := 8) rfl
  refine store_own h5 2 rfl (by omega) ho (by omega) ?_
  intro σ4 h6
  have h7 := h6.pick [8, 1, 2, 3, 4, 5, 6] (by decide)
  obtain ⟨fb, fc, rfl, hfc, hfr⟩ := own_freeze (by omega) h7
  have h8 := hfr 0 64 fc hfc (by omega)
  have hyl : (x.take q).length = q := by simp; omega
  have hz : (((x.take q ++ (sect D.last sec).drop q).drop 0).take 64) = x.take q ++ (sect D.last sec).drop q := by rw [List.drop_zero, List.take_of_length_le (by simp; omega)]
  rw [hz] at h8
  have h9 := (each_out (h8.pick [4, 0, 1, 2, 3, 5, 6] (by decide)) hsk (sects_get hsec)).pick [2, 1, 3, 4, 5, 6, 7] (by decide)
  have h10 : H [RoB (.slice (some ⟨fb, 0, none⟩) 64 fc) (x.take q ++ (sect D.last sec).drop q), Star ((List.zipWith RoB ss (sects (4 * n) D.last)).set sec emp), pt b (.cells [.slice (some ⟨svb, 0, none⟩) (4 * n) svc, lv, .int .i64 D.fuse, .bool D.off, .int .i64 n] 114 false),
    Own 23 1 (.slice (some ⟨svb, 0, none⟩) (4 * n) svc) (4 * n) (ss.set sec (.slice (some ⟨fb, 0, none⟩) 64 fc)), Own 117 2 lv D.fly.length (rflc D.fly fs), FlyA D.fly fs, Star (l.set i emp)] σ4 := h9
  have h11 := each_in (by omega) (by rw [sects_len]; exact hsec) h10
  rw [show x.take q ++ (sect D.last sec).drop q = x.take q ++ (sect D.last sec).drop (x.take q).length by rw [hyl], ← sects_put (by omega) (by omega) hsec] at h11
  refine hk _ (H.in' i hi (rdisk_in (D := { D with last := put D.last (64 * sec) (x.take q) }) (.slice (some ⟨svb, 0, none⟩) (4 * n) svc) lv (ss.set sec (.slice (some ⟨fb, 0, none⟩) 64 fc)) fs (by simpa using hs) hfs ?_))
  exact h11.pick [1, 2, 3, 0, 4, 5] (by decide)
end Go.Ax.YtfeamgocomlepaaC
/- Contracts of the reference's functions: New, Write, Barrier, Crash. No statement of the seat is proved here. -/
set_option maxRecDepth 100000
namespace Go.Ax.YtfeamgocomlepaaC
open Go.Proofs Go.RowKit

variable {l m : List Assn} {σ : AHeap} {Q : WK}

/-! ### New -/
theorem rnew_no {n : Int} (h : n < 1 ∨ 1024 < n) (hk : Q (.tuple #[.pointer none, .int .i64 1]) σ) : E 27 [.int .i64 n] σ Q := by
  apply s27_ev; unfold s27
  simp
  refine wG_dec (fun h1 => ?_) fun h1 => ?_
  · unfold s27k2; simpa using hk
  · unfold s27k2
    have : 1024 < n := by omega
    simpa [this] using hk
theorem sects_zero (n : Nat) : sects (4 * n) (List.replicate (256 * n) 0) = List.replicate (4 * n) (List.replicate 64 0) := by
  apply List.ext_getElem
  · simp [sects]
  · intro i h1 h2
    simp only [sects, List.length_map, List.length_range] at h1
    simp only [sects, List.getElem_map, List.getElem_range, List.getElem_replicate, sect]
    rw [List.drop_replicate, List.take_replicate]
    congr 1; omega
theorem rnew_yes {n : Nat} (h : H l σ) (hn : 1 ≤ n ∧ n ≤ 1024) (hk : ∀ v σ', H (l ++ [RDisk n v (.new n)]) σ' → Q (.tuple #[v, .int .i64 0]) σ') : E 27 [.int .i64 n] σ Q := by
  apply s27_ev; unfold s27
  have h1 : ¬ (n : Int) < 1 := by omega
  have h2 : ¬ 1024 < (n : Int) := by omega
  simp [h1]
  unfold s27k2
  simp [h2]
  refine new_ok (H_one.2 h) ?_
  intro b σ1 h3
  have h3 := h3.own_nil 23 1
  let J : Nat → List Value → Value → List Assn := fun k ss sv => [Star l, pt b (.cells [sv, .slice none 0 0, .int .i64 0, .bool false, .int .i64 n] 114 false), Own 23 1 sv k ss, Star (List.zipWith RoB ss (List.replicate k (List.replicate 64 0)))]
  refine ⟨fun m x0 x4 x5 τ => ∃ (k : Nat) (ss : List Value) (sv : Value), m = 4 * n - k ∧ k ≤ 4 * n ∧ ss.length = k ∧ x0 = .int .i64 n ∧ x4 = .pointer (some ⟨b, 0, none⟩) ∧ x5 = .int .i64 k ∧ H (J k ss sv) τ, ⟨_, 0, [], .slice none 0 0, rfl, by omega, rfl, rfl, rfl, rfl, ?_⟩, ?_⟩
  · exact (H.emp_end h3).pick [0, 1, 2, 3] (by decide)
  · clear h3
    rintro m _ _ _ τ ⟨k, ss, sv, rfl, hk4, hss, rfl, rfl, rfl, h3⟩
    suffices hb : ∀ N : Value → Value → Value → AHeap → Prop, (∀ ss' sv' τ', k < 4 * n → ss'.length = k + 1 → H (J (k + 1) ss' sv') τ' → N (.int .i64 n) (.pointer (some ⟨b, 0, none⟩)) (.int .i64 (k + 1 : Nat)) τ') →
        s27b1 N Q (.int .i64 n) (.pointer (some ⟨b, 0, none⟩)) (.int .i64 k) τ from
      hb _ fun ss' sv' τ' hlt a h' => ⟨_, by omega, k + 1, ss', sv', rfl, by omega, a, rfl, rfl, rfl, h'⟩
    intro N hN
    unfold s27b1
    simp
    rw [wrap_i64 (by omega)]
    refine wC_dec (fun h4 => ?_) fun h4 => ?_
    · have r0 := load1 (n := 1) (o := 0) (h3.row 1 rfl)
      simp [r0]
      refine make_ok h3 (by omega) ?_
      intro nb σ2 h5
      have r0 := load1 (n := 1) (o := 0) (h5.row 1 rfl)
      obtain ⟨_, _, sa, sc, rfl⟩ := h5.own_src 2 rfl
      simp [r0, veq1, veq, veq0]
      have e64 : reps (Int.toNat 64) [Value.int .u8 0] = bv (List.replicate 64 0) := by rw [reps_one, show (Value.int .u8 0) = by8 0 from rfl, bv_replicate]; rfl
      rw [e64] at h5
      obtain ⟨_, _, hv, hfc, hro⟩ := own_freeze (n := 64) (by omega) ((h5.to_own 4 rfl (n := 64) (z := 1) (by simp) (by unfold OPEN; omega)).pick [4, 0, 1, 2, 3] (by decide))
      cases hv
      have h6 := hro 0 64 64 hfc (by omega)
      rw [show ((List.replicate 64 (0 : UInt8)).drop 0).take 64 = List.replicate 64 0 by simp] at h6
      refine buildS_ok (cs := [.slice (some ⟨nb, 0, none⟩) 64 64]) h6 (by decide) (by rfl) ?_
      intro tb τ3 h7
      have r0 := load1 (n := 1) (o := 0) (h7.row 2 rfl)
      simp [r0, veq1, veq, veq0]
      have ht : srcOf 1 (.slice (some ⟨tb, 0, none⟩) 1 1) τ3 = some (1, [.slice (some ⟨nb, 0, none⟩) 64 64]) := by
        rw [src_row (h7.row 5 rfl) (by simp)]; rfl
      refine append_own h7 3 rfl ht (by omega) (by omega) (by rfl) ?_
      intro w τ4 h8
      have ho := own_one h8 (i := 3) rfl
      simp
      refine store1 h8 2 rfl ho (by simp) ?_
      intro τ5 h9
      try simp
      rw [wrap_i64 (by omega)]
      refine hN (ss ++ [.slice (some ⟨nb, 0, none⟩) 64 64]) w τ5 (by omega) (by simp [hss]) ?_
      simp only [J]
      rw [List.replicate_succ', List.zipWith_append (by simp [hss]), Star_append]
      have h10 := h9.pick [4, 0, 1, 2, 3] (by decide)
      have h11 : H [Star (List.zipWith RoB ss (List.replicate k (List.replicate 64 0))), Star [RoB (.slice (some ⟨nb, 0, none⟩) 64 64) (List.replicate 64 0)], Star l, pt b (.cells [w, .slice none 0 0, .int .i64 0, .bool false, .int .i64 n] 114 false), Own 23 1 w (k + 1) (ss ++ [.slice (some ⟨nb, 0, none⟩) 64 64])] τ5 := by
        have : H [Star [RoB (.slice (some ⟨nb, 0, none⟩) 64 64) (List.replicate 64 0)], Star (List.zipWith RoB ss (List.replicate k (List.replicate 64 0))), Star l, pt b (.cells [w, .slice none 0 0, .int .i64 0, .bool false, .int .i64 n] 114 false), Own 23 1 w (k + 1) (ss ++ [.slice (some ⟨nb, 0, none⟩) 64 64])] τ5 := H_star.2 (h10.pick [1, 0, 2, 3, 4] (by decide))
        exact this.pick [1, 0, 2, 3, 4] (by decide)
      exact (H_sep.2 h11).pick [1, 2, 3, 0] (by decide)
    · have : k = 4 * n := by omega
      subst this
      refine hk _ _ (H_app.2 ?_)
      have h5 := (h3.own_nil 117 2).emp_end
      refine (rdisk_in (m := [Star l]) (D := .new n) sv (.slice none 0 0) ss [] hss rfl ?_ : H [_, _] _).pick [1, 0] (by decide)
      have h6 := h5.pick [1, 2, 4, 3, 5, 0] (by decide)
      unfold RDiskP
      simp only [DM.new, sects_zero, FlyA, rflc, List.length_nil]
      exact h6

/-! ### Write -/
theorem part_at (a k : Nat) : (a * 256 + 64 * k) / 64 = 4 * a + k := by omega
theorem star2 {B : Assn} {i j : Nat} (hj : l[j]? = some B) (hij : i ≠ j) : Star (l.set i emp) = sep B (Star ((l.set i emp).set j emp)) := by
  conv => lhs; rw [Star_take _ j]
  simp [List.getD, List.getElem?_set, hij, hj]
theorem out2 {A B : Assn} {i j : Nat} (hi : l[i]? = some A) (hj : l[j]? = some B) (hij : i ≠ j) (h : H l σ) : H [A, B, Star ((l.set i emp).set j emp)] σ := by
  have h1 := h.out i hi
  rw [star2 hj hij] at h1
  have h2 : H [sep B (Star ((l.set i emp).set j emp)), A] σ := h1.pick [1, 0] (by decide)
  exact (H_sep.1 h2).pick [2, 0, 1] (by decide)
theorem in2 {A A' B : Assn} {i j : Nat} (hi : l[i]? = some A) (hj : l[j]? = some B) (hij : i ≠ j) (h : H [A', B, Star ((l.set i emp).set j emp)] σ) : H (l.set i A') σ := by
  refine H.in' i hi ?_
  rw [star2 hj hij]
  exact (H_sep.2 (h.pick [1, 2, 0] (by decide) : H (B :: Star ((l.set i emp).set j emp) :: [A']) σ)).pick [1, 0] (by decide)
theorem rwrite_ok {v bv' : Value} {D : DM} {n : Nat} {a : Int} {bs : List UInt8} (h : H l σ) (i : Nat) (hi : l[i]? = some (RDisk n v D)) (j : Nat) (hj : l[j]? = some (Own 5 1 bv' bs.length (bv bs))) (hij : i ≠ j) (hD : D.Ok n) (hf : D.fuse < 9223372036854775808) (hm : D.fly.length < 1099511627776) (hl : bs.length ≤ 140737488355328)
    (hk : ∀ σ', H (l.set i (RDisk n v (D.write a bs).1)) σ' → Q (.int .i64 (D.write a bs).2) σ') : E 29 [v, .int .i64 a, bv'] σ Q := by
  have hlt := (List.getElem?_eq_some_iff.1 hi).1
  obtain ⟨_, _, ba, bc, hbv⟩ := h.own_src j hj
  apply s29_ev; unfold s29
  refine why_ok h i hi hD ?_
  simp
  by_cases hr : D.ready a = 0
  · simp only [hr, decide_true, Bool.not_true, wC_false]
    simp only [hbv, lenS_slice, pu_some]
    by_cases hbl : bs.length = 256
    · simp [hbl]
      refine burns_ok h i hi hf ?_
      intro σ1 h1
      cases hb1 : D.burn.2 with
      | false =>
        have e : D.write a bs = (D.burn.1, 9) := by simp [DM.write, hr, hbl, hb1]
        rw [e] at hk
        simpa using hk _ h1
      | true =>
        simp
        have e : D.write a bs = (D.burn.1.fling a.toNat bs, 0) := by simp [DM.write, hr, hbl, hb1]
        rw [e] at hk
        have ha : 0 ≤ a ∧ a < n := ready_zero hD hr
        have hn2 := hD.hi
        obtain ⟨A, rfl⟩ : ∃ A : Nat, a = A := ⟨a.toNat, by omega⟩
        simp only [Int.toNat_natCast] at hk
        have hfl : D.burn.1.fly = D.fly := burn_fly D
        generalize D.burn.1 = D1 at h1 hk hfl
        have hi1 : (l.set i (RDisk n v D1))[i]? = some (RDisk n v D1) := by simp [hlt]
        have hj1 : (l.set i (RDisk n v D1))[j]? = some (Own 5 1 bv' bs.length (bv bs)) := by simp [List.getElem?_set, hij, hj]
        have h2' := out2 hi1 hj1 hij h1
        rw [List.set_set] at h2'
        rw [hbv, hbl] at h2'
        obtain ⟨b, sv, lv, ss, fs, rfl, hs, hfs, h2⟩ := rdisk_out h2'
        obtain ⟨wb, wc, hwe, hwc, _⟩ := h2.own_form 5 rfl (by omega)
        cases hwe
        let J : Nat → Value → List Value → List Assn := fun k lv fs => [pt b (.cells [sv, lv, .int .i64 D1.fuse, .bool D1.off, .int .i64 n] 114 false), Own 23 1 sv (4 * n) ss, Own 117 2 lv (D1.fly.length + k) (rflc (D1.fly ++ (parts A bs).take k) fs), Star (List.zipWith RoB ss (sects (4 * n) D1.last)), FlyA (D1.fly ++ (parts A bs).take k) fs, Own 5 1 (.slice (some ⟨wb, 0, none⟩) 256 bc) 256 (bv bs), Star ((l.set i emp).set j emp)]
        refine ⟨fun m x0 x1 x2 x8 τ => ∃ (k : Nat) (lv : Value) (fs : List Value), m = 4 - k ∧ k ≤ 4 ∧ fs.length = (D1.fly ++ (parts A bs).take k).length ∧ x0 = .pointer (some ⟨b, 0, none⟩) ∧ x1 = .int .i64 A ∧ x2 = .slice (some ⟨wb, 0, none⟩) 256 bc ∧ x8 = .int .i64 k ∧ H (J k lv fs) τ,
          ⟨_, 0, lv, fs, rfl, by omega, by simpa using hfs, rfl, rfl, rfl, rfl, ?_⟩, ?_⟩
        · simpa [J, RDiskP] using h2
        · clear h1 h2 hfs h2'
          rintro m _ _ _ _ τ ⟨k, lv, fs, rfl, hk4, hfs, rfl, rfl, rfl, rfl, h2⟩
          suffices hbb : ∀ N : Value → Value → Value → Value → AHeap → Prop, (∀ lv' fs' τ', k < 4 → fs'.length = (D1.fly ++ (parts A bs).take (k + 1)).length → H (J (k + 1) lv' fs') τ' →
              N (.pointer (some ⟨b, 0, none⟩)) (.int .i64 A) (.slice (some ⟨wb, 0, none⟩) 256 bc) (.int .i64 (k + 1 : Nat)) τ') → s29b1 N Q (.pointer (some ⟨b, 0, none⟩)) (.int .i64 A) (.slice (some ⟨wb, 0, none⟩) 256 bc) (.int .i64 k) τ from
            hbb _ fun lv' fs' τ' hlt a h' => ⟨_, by omega, k + 1, lv', fs', rfl, by omega, a, rfl, rfl, rfl, rfl, h'⟩
          intro N hN
          unfold s29b1
          simp
          refine wC_dec (fun g1 => ?_) fun g1 => ?_
          · have g1 : k < 4 := by omega
            have hpl : (D1.fly ++ (parts A bs).take k).length = D1.fly.length + k := by simp [parts]; omega
            have hpk : D1.fly ++ (parts A bs).take (k + 1) = (D1.fly ++ (parts A bs).take k) ++ [(A * 256 + 64 * k, (bs.drop (64 * k)).take 64)] := by rw [parts_take _ _ _ g1, List.append_assoc]
            have r1 := load1 (n := 1) (o := 1) (h2.row 0 rfl)
            obtain ⟨_, _, la, lc, rfl⟩ := h2.own_src 2 rfl
            simp [r1]
            have w1 : IntKind.i64.wrap (4 * (A : Int)) = 4 * (A : Int) := wrap_i64 (by omega)
            have w2 : IntKind.i64.wrap (4 * (A : Int) + (k : Int)) = 4 * (A : Int) + (k : Int) := wrap_i64 (by omega)
            have w3 : IntKind.i64.wrap (64 * (k : Int)) = 64 * (k : Int) := wrap_i64 (by omega)
            have w4 : IntKind.i64.wrap (64 * (k : Int) + 64) = 64 * (k : Int) + 64 := wrap_i64 (by omega)
            simp only [w1, w2, w3, w4]
            obtain ⟨c', e1, e2⟩ := slice_mid (z := 1) (b := wb) (o := 0) (lo := 64 * (k : Int)) (hi := 64 * (k : Int) + 64) (k := .i64) (k' := .i64) hwc (by omega)
            have q1 : (64 * (k : Int) + 64).toNat - (64 * (k : Int)).toNat = 64 := by omega
            have q2 : (64 * (k : Int)).toNat = 64 * k := by omega
            rw [q1, q2, Nat.mul_one] at e1
            rw [e1]
            simp
            have hsb := src_part (c' := c') (lo := 64 * k) (k := 64) (h2.own_src 5 rfl).1 (by omega)
            rw [bv_drop, bv_take, Nat.zero_add] at hsb
            refine rown_ok h2 hsb (by omega) ?_
            intro w τ1 h3
            have r1 := load1 (n := 1) (o := 1) (h3.row 0 rfl)
            obtain ⟨fb, fc, rfl, hfc, hro⟩ := own_freeze (by omega) (h3.pick [7, 0, 1, 2, 3, 4, 5, 6] (by decide))
            have h4 := hro 0 64 fc hfc (by omega)
            rw [show ((((bs.drop (64 * k)).take 64).drop 0).take 64) = (bs.drop (64 * k)).take 64 by simp [List.take_take]] at h4
            simp [r1, veq1, veq, veq0, splice]
            refine buildS_ok (cs := [.int .i64 (4 * A + k : Nat), .slice (some ⟨fb, 0, none⟩) 64 fc]) h4 (by decide) (by rw [show ((4 * A + k : Nat) : Int) = 4 * (A : Int) + (k : Int) by omega]; rfl) ?_
            intro tb τ3 h5
            have r1 := load1 (n := 1) (o := 1) (h5.row 1 rfl)
            simp [r1, veq1, veq, veq0]
            have ht : srcOf 2 (.slice (some ⟨tb, 0, none⟩) 1 1) τ3 = some (1, [.int .i64 (4 * A + k : Nat), .slice (some ⟨fb, 0, none⟩) 64 fc]) := by
              rw [src_row (h5.row 8 rfl) (by simp)]; rfl
            refine append_own h5 3 rfl ht (by omega) (by rw [hfl]; omega) (by rfl) ?_
            intro w τ4 h6
            have ho := own_one h6 (i := 3) rfl
            simp
            refine store1 h6 1 rfl ho (by simp) ?_
            intro τ5 h7
            try simp
            rw [wrap_i64 (by omega)]
            refine hN w (fs ++ [.slice (some ⟨fb, 0, none⟩) 64 fc]) τ5 g1 (by rw [hpk, List.length_append, List.length_append, hfs]; rfl) ?_
            simp only [J]
            rw [hpk, rflc_append _ _ _ _ hfs.symm, FlyA_append _ _ _ _ hfs.symm]
            simp only [rflc, FlyA, part_at, List.length_cons, List.length_nil]
            rw [sep_comm (RoB _ _) emp, emp_sep]
            have h8 := h7.pick [5, 0, 1, 2, 3, 4, 6, 7] (by decide)
            exact (H_sep.2 h8).pick [1, 2, 3, 4, 0, 5, 6] (by decide)
          · have : k = 4 := by omega
            subst this
            refine hk _ (in2 hi hj hij ?_)
            rw [hbv, hbl]
            refine rdisk_in (D := D1.fling A bs) sv lv ss fs hs (by simpa [DM.fling, parts] using hfs) ?_
            have e4 : (parts A bs).take 4 = parts A bs := by simp [parts]
            simp only [J, e4] at h2
            unfold RDiskP
            rw [show (D1.fling A bs).fly.length = D1.fly.length + 4 by simp [DM.fling, parts]]
            exact h2
    · have e : D.write a bs = (D, 1) := by simp [DM.write, hr, hbl]
      rw [e] at hk
      have : ¬ (bs.length : Int) = 256 := by omega
      simp [this]
      exact hk _ (by rw [set_self hi]; exact h)
  · simp only [hr, decide_false, Bool.not_false, wC_true]
    have e : D.write a bs = (D, D.ready a) := by simp [DM.write, hr]
    rw [e] at hk
    exact hk _ (by rw [set_self hi]; exact h)
end Go.Ax.YtfeamgocomlepaaC
/- The cache's row of items in memory, and contracts of the heap's functions over it. No statement of the seat is proved here. -/
set_option maxRecDepth 100000
namespace Go.Ax.YtfeamgocomlepaaC
open Go.Proofs Go.RowKit

variable {l m : List Assn} {σ : AHeap} {Q : WK}

structure Rec where
  ib : Nat
  pl : Nat
  used : Nat
  dirty : Bool
  sv : Value
  b : List UInt8
abbrev ku : Rec → Nat := Rec.used
def BytesV (v : Value) (x : List UInt8) : Assn := fun r => pure' (v = .slice none 0 0 ∧ x = []) r ∨ RoB v x r
def ItemA (k : Nat) (r : Rec) : Assn := sep (pt r.ib (.cells [.int .i64 r.pl, .int .i64 k, .int .u64 r.used, .bool r.dirty, r.sv] 123 false)) (BytesV r.sv r.b)
def itemsL : Nat → List Rec → List Assn
  | _, [] => []
  | o, r :: R => ItemA o r :: itemsL (o + 1) R
theorem itemsL_get : ∀ (R : List Rec) (o k : Nat), (itemsL o R)[k]? = R[k]?.map (ItemA (o + k))
  | [], o, k => by simp [itemsL]
  | r :: R, o, 0 => by simp [itemsL]
  | r :: R, o, k + 1 => by simp [itemsL, itemsL_get R (o + 1) k]; rw [show o + 1 + k = o + (k + 1) by omega]
theorem itemsL_set : ∀ (R : List Rec) (o k : Nat) (r : Rec), (itemsL o R).set k (ItemA (o + k) r) = itemsL o (R.set k r)
  | [], o, k, r => by simp [itemsL]
  | x :: R, o, 0, r => by simp [itemsL]
  | x :: R, o, k + 1, r => by
    have := itemsL_set R (o + 1) k r
    rw [show o + 1 + k = o + (k + 1) by omega] at this
    simp [itemsL, this]
theorem itemsL_append : ∀ (R S : List Rec) (o : Nat), itemsL o (R ++ S) = itemsL o R ++ itemsL (o + R.length) S
  | [], S, o => by simp [itemsL]
  | r :: R, S, o => by simp [itemsL, itemsL_append R S (o + 1)]; rw [show o + 1 + R.length = o + (R.length + 1) by omega]
theorem itemsL_length : ∀ (R : List Rec) (o : Nat), (itemsL o R).length = R.length
  | [], o => rfl
  | r :: R, o => by simp [itemsL, itemsL_length R (o + 1)]
theorem item_out {R : List Rec} {k : Nat} {r : Rec} (h : H (Star (itemsL 0 R) :: m) σ) (hr : R[k]? = some r) : H (ItemA k r :: Star ((itemsL 0 R).set k emp) :: m) σ := by
  have e : (itemsL 0 R)[k]? = some (ItemA k r) := by rw [itemsL_get, hr]; simp
  rw [Star_take _ k, H_sep] at h
  simpa only [List.getD, e, Option.getD_some] using h
theorem item_in {R : List Rec} {k : Nat} {r : Rec} (hk : k < R.length) (h : H (ItemA k r :: Star ((itemsL 0 R).set k emp) :: m) σ) : H (Star (itemsL 0 (R.set k r)) :: m) σ := by
  have e := itemsL_set R 0 k r
  rw [Nat.zero_add] at e
  rw [← e, Star_set _ _ _ (by rw [itemsL_length]; exact hk), H_sep]
  exact h
def ptrs (R : List Rec) : List Value := R.map fun r => .pointer (some ⟨r.ib, 0, none⟩)
theorem ptrs_get {R : List Rec} {k : Nat} {r : Rec} (h : R[k]? = some r) : (ptrs R)[k]? = some (.pointer (some ⟨r.ib, 0, none⟩)) := by simp [ptrs, h]
theorem ptrs_len (R : List Rec) : (ptrs R).length = R.length := by simp [ptrs]

/-- The row, behind the cache's own block. -/
def RowL (cb : Nat) (cs : List Value) (rowv : Value) (R : List Rec) (I0 : Assn) : List Assn := [pt cb (.cells (cs ++ [rowv]) 93 false), Own 121 1 rowv R.length (ptrs R), Star (itemsL 0 R), I0]

section
variable {cb : Nat} {cs : List Value} {rowv : Value} {R : List Rec} {I0 : Assn}

theorem row_load (hcs : cs.length = 4) (h : H (RowL cb cs rowv R I0) σ) : aLoad false 1 (.pointer (some ⟨cb, 4, none⟩)) σ = some rowv := by
  rw [load1 (h.row 0 rfl), List.getElem?_append_right (by omega), hcs]; rfl
theorem row_form (h : H (RowL cb cs rowv R I0) σ) : ∃ a c, rowv = .slice a R.length c := (h.own_src 1 rfl).2.2
theorem m_len (v : Value) (σ : AHeap) : aMethod P (.iface 160 v) "Len" σ = (aLoad false 1 v σ).bind fun u => some (164, u) := by kernel_rfl
theorem m_less (v : Value) (σ : AHeap) : aMethod P (.iface 160 v) "Less" σ = (aLoad false 1 v σ).bind fun u => some (165, u) := by kernel_rfl
theorem m_swap (v : Value) (σ : AHeap) : aMethod P (.iface 160 v) "Swap" σ = (aLoad false 1 v σ).bind fun u => some (166, u) := by kernel_rfl
theorem m_pop (v : Value) (σ : AHeap) : aMethod P (.iface 160 v) "Pop" σ = some (167, v) := by kernel_rfl
theorem m_push (v : Value) (σ : AHeap) : aMethod P (.iface 160 v) "Push" σ = some (168, v) := by kernel_rfl
theorem len_ok (h : H (RowL cb cs rowv R I0) σ) (hk : Q (.int .i64 R.length) σ) : E 164 [rowv] σ Q := by
  obtain ⟨a, c, rfl⟩ := row_form h
  apply s164_ev; unfold s164
  simpa using hk
theorem less_ok {i j : Nat} {x y : Rec} (h : H (RowL cb cs rowv R I0) σ) (hi : R[i]? = some x) (hj : R[j]? = some y) (hk : Q (.bool (decide (x.used < y.used))) σ) : E 165 [rowv, .int .i64 i, .int .i64 j] σ Q := by
  have hil := (List.getElem?_eq_some_iff.1 hi).1
  have hjl := (List.getElem?_eq_some_iff.1 hj).1
  apply s165_ev; unfold s165
  obtain ⟨b, c, rfl, hc, rest, hrow⟩ := h.own_form 1 rfl (by omega)
  have r1 := load1 (n := 1) (o := i) hrow
  have r2 := load1 (n := 1) (o := j) hrow
  rw [List.getElem?_append_left (by rw [ptrs_len]; omega), ptrs_get hi] at r1
  rw [List.getElem?_append_left (by rw [ptrs_len]; omega), ptrs_get hj] at r2
  rw [idxA (by omega), idxA (by omega)]
  have h1 := item_out (h.pick [2, 0, 1, 3] (by decide)) hi
  unfold ItemA at h1
  rw [H_sep] at h1
  have h2 := item_out (h.pick [2, 0, 1, 3] (by decide)) hj
  unfold ItemA at h2
  rw [H_sep] at h2
  have u1 := load1 (n := 1) (o := 2) (h1.row 0 rfl)
  have u2 := load1 (n := 1) (o := 2) (h2.row 0 rfl)
  simp [r1, r2, u1, u2]
  have e : decide ((x.used : Int) < (y.used : Int)) = decide (x.used < y.used) := by
    by_cases g : x.used < y.used
    · rw [decide_eq_true g, decide_eq_true (by omega)]
    · rw [decide_eq_false g, decide_eq_false (by omega)]
  simpa [e] using hk

theorem items_out2 {i j : Nat} {x y : Rec} (hij : i ≠ j) (hi : R[i]? = some x) (hj : R[j]? = some y) (h : H (Star (itemsL 0 R) :: m) σ) : H (ItemA i x :: ItemA j y :: Star (((itemsL 0 R).set i emp).set j emp) :: m) σ := by
  have h1 := item_out h hi
  have e : Star ((itemsL 0 R).set i emp) = sep (ItemA j y) (Star (((itemsL 0 R).set i emp).set j emp)) := by
    refine star2 ?_ hij
    rw [itemsL_get, hj]; simp
  rw [e] at h1
  have h2 := h1.perm (List.Perm.swap _ _ _)
  rw [H_sep] at h2
  have h3 : H ([ItemA j y, Star (((itemsL 0 R).set i emp).set j emp)] ++ ItemA i x :: m) σ := h2
  exact h3.perm (by
    show (ItemA j y :: Star (((itemsL 0 R).set i emp).set j emp) :: ItemA i x :: m).Perm (ItemA i x :: ItemA j y :: Star (((itemsL 0 R).set i emp).set j emp) :: m)
    exact ((List.Perm.swap _ _ _).cons _).trans (List.Perm.swap _ _ _))
theorem items_in2 {i j : Nat} {x y : Rec} (hij : i ≠ j) (hi : i < R.length) (hj : j < R.length) (h : H (ItemA j x :: ItemA i y :: Star (((itemsL 0 R).set i emp).set j emp) :: m) σ) : H (Star (itemsL 0 ((R.set i y).set j x)) :: m) σ := by
  have e1 := itemsL_set (R.set i y) 0 j x
  have e2 := itemsL_set R 0 i y
  rw [Nat.zero_add] at e1 e2
  rw [← e1, ← e2, Star_set _ j _ (by simp [itemsL_length]; exact hj), H_sep, List.set_comm _ _ hij, Star_set _ i _ (by simp [itemsL_length]; exact hi)]
  have h2 := h.perm ((List.Perm.cons _ (List.Perm.refl _)))
  rw [List.set_comm _ _ hij] at h2
  have h3 : H ((sep (ItemA i y) (Star (((itemsL 0 R).set j emp).set i emp))) :: ItemA j x :: m) σ := by
    rw [H_sep]
    exact h2.perm (by
      show (ItemA j x :: ItemA i y :: Star (((itemsL 0 R).set j emp).set i emp) :: m).Perm (ItemA i y :: Star (((itemsL 0 R).set j emp).set i emp) :: ItemA j x :: m)
      exact (List.Perm.swap _ _ _).trans ((List.Perm.swap _ _ _).cons _))
  exact h3.perm (List.Perm.swap _ _ _)
theorem ptrs_swp {i j : Nat} {x y : Rec} (hi : R[i]? = some x) (hj : R[j]? = some y) : ((ptrs R).set i (.pointer (some ⟨y.ib, 0, none⟩))).set j (.pointer (some ⟨x.ib, 0, none⟩)) = ptrs (swp R i j) := by
  unfold swp ptrs
  rw [hi, hj]
  simp only [List.map_set]
theorem swap_ok {i j : Nat} {x y : Rec} (h : H (RowL cb cs rowv R I0) σ) (hi : R[i]? = some x) (hj : R[j]? = some y) (hk : ∀ σ', H (RowL cb cs rowv (swp R i j) I0) σ' → Q (.tuple #[]) σ') : E 166 [rowv, .int .i64 i, .int .i64 j] σ Q := by
  have hil := (List.getElem?_eq_some_iff.1 hi).1
  have hjl := (List.getElem?_eq_some_iff.1 hj).1
  apply s166_ev; unfold s166
  obtain ⟨b, c, rfl, hc, rest, hrow⟩ := h.own_form 1 rfl (by omega)
  have r1 := load1 (n := 1) (o := i) hrow
  have r2 := load1 (n := 1) (o := j) hrow
  rw [List.getElem?_append_left (by rw [ptrs_len]; omega), ptrs_get hi] at r1
  rw [List.getElem?_append_left (by rw [ptrs_len]; omega), ptrs_get hj] at r2
  rw [idxA (by omega), idxA (by omega)]
  simp [r1, r2]
  refine store_own h 1 rfl (by omega) rfl (by rw [ptrs_len]; omega) ?_
  intro σ1 h1
  refine store_own h1 1 rfl (by omega) rfl (by rw [List.length_set, ptrs_len]; omega) ?_
  intro σ2 h2
  rw [ptrs_swp hi hj] at h2
  obtain ⟨_, _, hv, _, rest, hrow⟩ := h2.own_form 1 rfl (by omega)
  cases hv
  have si : (swp R i j)[i]? = some (if i = j then x else y) := by
    rw [swp_get hil hjl]; split
    · exact hi
    · rw [if_pos rfl, hj]
  have sj : (swp R i j)[j]? = some x := by rw [swp_get hil hjl, if_pos rfl, hi]
  have r1 := load1 (n := 1) (o := i) hrow
  have r2 := load1 (n := 1) (o := j) hrow
  rw [List.getElem?_append_left (by rw [ptrs_len, swp_length]; omega), ptrs_get si] at r1
  rw [List.getElem?_append_left (by rw [ptrs_len, swp_length]; omega), ptrs_get sj] at r2
  simp only [r1, r2, pu_some, nil_ptr, fieldAddr_ptr, Nat.zero_add]
  by_cases hij : i = j
  · subst hij
    have hxy : x = y := by rw [hi] at hj; cases hj; rfl
    subst hxy
    have hs : swp R i i = R := by
      apply List.ext_getElem?
      intro k
      rw [swp_get hil hil]
      split
      · rename_i e; subst e; rfl
      · rfl
    rw [hs] at hk h2
    simp only [if_true]
    have h3 := item_out (h2.pick [2, 0, 1, 3] (by decide)) hi
    unfold ItemA at h3
    rw [H_sep] at h3
    refine store1 h3 0 rfl rfl (by simp) ?_
    intro σ3 h4
    refine store1 h4 0 rfl rfl (by simp) ?_
    intro σ4 h5
    refine hk σ4 ?_
    have h6 := item_in (r := x) hil (H_sep.2 h5)
    have : R.set i x = R := by
      apply List.ext_getElem?
      intro k
      rw [List.getElem?_set]
      split
      · rename_i e; subst e; rw [hi]
      · rfl
    rw [this] at h6
    exact h6.pick [1, 2, 0, 3] (by decide)
  · rw [if_neg hij]
    have h3 := items_out2 hij hi hj (h2.pick [2, 0, 1, 3] (by decide))
    unfold ItemA at h3
    rw [H_sep] at h3
    have h4 := H_sep.1 (h3.pick [2, 0, 1, 3, 4, 5, 6] (by decide))
    refine store1 h4 0 rfl rfl (by simp) ?_
    intro σ3 h5
    refine store1 h5 2 rfl rfl (by simp) ?_
    intro σ4 h6
    refine hk σ4 ?_
    have h7 : H (ItemA j x :: _) σ4 := H_sep.2 (h6.pick [2, 3, 0, 1, 4, 5, 6, 7] (by decide))
    have h8 : H (ItemA i y :: _) σ4 := H_sep.2 (h7.pick [1, 2, 0, 3, 4, 5, 6] (by decide))
    have h9 := items_in2 hij hil hjl (h8.pick [1, 0, 2, 3, 4, 5] (by decide))
    have e : (R.set i y).set j x = swp R i j := by unfold swp; rw [hi, hj]
    rw [e] at h9
    have h10 := h9.pick [1, 2, 0, 3] (by decide)
    unfold RowL
    rw [swp_length]
    exact h10
end
end Go.Ax.YtfeamgocomlepaaC
/- Contracts of container/heap over the cache's row. No statement of the seat is proved here. -/
set_option maxRecDepth 100000
namespace Go.Ax.YtfeamgocomlepaaC
open Go.Proofs Go.RowKit

variable {l m : List Assn} {σ : AHeap} {Q : WK}

theorem own_to {e z n k i : Nat} {v : Value} {xs : List Value} (h : H l σ) (hi : l[i]? = some (Own e z v n xs)) (hn : 0 < n) (hk : k ≤ n) :
    ∃ v', (∀ kd, aSlice z v none (some (.int kd k)) none = some v') ∧ one v' = true ∧ H (l.set i (Own e z v' k (xs.take (k * z)))) σ := by
  rcases H_own.1 (h.front i hi) with ⟨⟨rfl, _⟩, _⟩ | ⟨b, c, opn, rest, hp, hx, hr, rfl, hn2, ho⟩
  · omega
  · have hcap : c < OPEN ∨ c / OPEN = z := by rcases ho with ⟨_, _, q⟩ | q; exact .inr q; exact .inl q
    refine ⟨.slice (some ⟨b, 0, none⟩) k c, fun kd => ?_, rfl, H.back i hi (H_own.2 (.inr ⟨b, c, opn, xs.drop (k * z) ++ rest, ?_, ?_, ?_, rfl, by omega, ho⟩))⟩
    · simp only [aSlice, bndO]
      rw [bnd_int (y := known c) (by omega)]
      simp only [Option.bind_some, Int.toNat_natCast]
      rcases Nat.lt_or_ge c OPEN with hlt | hge
      · have := known_lt hlt
        rw [if_pos hlt, if_pos (by omega), if_neg (by omega)]
        simp [add_mk]
      · have : ¬ c < OPEN := by omega
        rw [if_neg this, if_pos ⟨by omega, hcap.resolve_left this⟩]
        simp [add_mk]
    · rw [← List.append_assoc, List.take_append_drop]; exact hp
    · have : k * z ≤ n * z := Nat.mul_le_mul_right _ hk
      simp; omega
    · have h1 : k * z ≤ n * z := Nat.mul_le_mul_right _ hk
      have h2 : n * z ≤ known c * z := Nat.mul_le_mul_right _ hn2
      rw [List.length_append, List.length_drop, hx, hr, Nat.sub_mul, Nat.sub_mul]
      omega
theorem i_121 (v : Value) (hv : live v = true) : aIface P 121 v = some (.iface 121 v) := by
  have : aIface P 121 v = cond (live v) (some (.iface 121 v)) none := by kernel_rfl
  rw [this, hv]; rfl
theorem i_160 (v : Value) (hv : live v = true) : aIface P 160 v = some (.iface 160 v) := by
  have : aIface P 160 v = cond (live v) (some (.iface 160 v)) none := by kernel_rfl
  rw [this, hv]; rfl
theorem a_121 (v : Value) : aAssert P 121 false (.iface 121 v) = some v := by kernel_rfl

section
variable {cb : Nat} {cs : List Value} {rowv : Value} {R : List Rec} {I0 : Assn}

theorem popm_ok {n : Nat} {x : Rec} (hcs : cs.length = 4) (h : H (RowL cb cs rowv R I0) σ) (hn : R.length = n + 1) (hx : R[n]? = some x) (hb : n < 1099511627776)
    (hk : ∀ rowv' σ', H (RowL cb cs rowv' (R.take n) (Star [ItemA n x, I0])) σ' → Q (.iface 121 (.pointer (some ⟨x.ib, 0, none⟩))) σ') : E 167 [.pointer (some ⟨cb, 4, none⟩)] σ Q := by
  apply s167_ev; unfold s167
  have rl := row_load hcs h
  obtain ⟨a, c, hv⟩ := row_form h
  subst hv
  simp [rl]
  rw [wrap_i64 (by omega), show ((R.length : Nat) : Int) - 1 = (n : Int) by omega]
  obtain ⟨b, c', hv, hc, rest, hrow⟩ := h.own_form 1 rfl (by omega)
  cases hv
  have r1 := load1 (n := 1) (o := n) hrow
  rw [List.getElem?_append_left (by rw [ptrs_len]; omega), ptrs_get hx] at r1
  rw [idxA (by omega)]
  simp [r1]
  obtain ⟨v', e1, ho, h2⟩ := own_to (k := n) h (i := 1) rfl (by omega) (by omega)
  rw [e1]
  simp
  refine store1 h2 0 rfl ho (by simp [hcs]) ?_
  intro σ1 h3
  rw [i_121 _ rfl, pu_some]
  refine hk v' σ1 ?_
  have e2 : (cs ++ [Value.slice (some ⟨b, 0, none⟩) R.length c]).set 4 v' = cs ++ [v'] := by
    rw [List.set_append_right _ _ (by omega), hcs]; rfl
  have e3 : (ptrs R).take (n * 1) = ptrs (R.take n) := by simp [ptrs]
  have e4 : itemsL 0 R = itemsL 0 (R.take n) ++ [ItemA n x] := by
    have : R = R.take n ++ [x] := by
      have h5 : R.take (n + 1) = R.take n ++ [x] := by rw [List.take_add_one, hx]; rfl
      rw [← h5, ← hn, List.take_length]
    conv => lhs; rw [this]
    rw [itemsL_append, List.length_take, Nat.min_eq_left (by omega)]
    simp [itemsL]
  rw [e2, e3] at h3
  have h3 : H [pt cb (.cells (cs ++ [v']) 93 false), Own 121 1 v' n (ptrs (R.take n)), Star (itemsL 0 R), I0] σ1 := h3
  rw [e4, Star_append] at h3
  have h4 := H_sep.1 (h3.pick [2, 0, 1, 3] (by decide))
  have h6 : H [Star [ItemA n x], I0, pt cb (.cells (cs ++ [v']) 93 false), Own 121 1 v' n (ptrs (R.take n)), Star (itemsL 0 (R.take n))] σ1 := h4.pick [1, 4, 2, 3, 0] (by decide)
  have h5 : H [Star [ItemA n x, I0], pt cb (.cells (cs ++ [v']) 93 false), Own 121 1 v' n (ptrs (R.take n)), Star (itemsL 0 (R.take n))] σ1 := (H_star (l := [ItemA n x, I0])).2 ((H_star (l := [ItemA n x])).1 h6)
  unfold RowL
  rw [List.length_take, Nat.min_eq_left (by omega)]
  exact h5.pick [1, 2, 3, 0] (by decide)

theorem pushm_ok {p : Nat} {x : Rec} (hcs : cs.length = 4) (h : H (RowL cb cs rowv R (Star [ItemA p x, I0])) σ) (hb : R.length < 1099511627776)
    (hk : ∀ rowv' σ', H (RowL cb cs rowv' (R ++ [x]) I0) σ' → Q (.tuple #[]) σ') : E 168 [.pointer (some ⟨cb, 4, none⟩), .iface 121 (.pointer (some ⟨x.ib, 0, none⟩))] σ Q := by
  apply s168_ev; unfold s168
  have rl := row_load hcs h
  obtain ⟨a, c, hv⟩ := row_form h
  rw [a_121]
  subst hv
  simp [rl]
  have h1 : H (ItemA p x :: I0 :: _) σ := H_star.1 (h.pick [3, 0, 1, 2] (by decide))
  unfold ItemA at h1
  rw [H_sep] at h1
  refine store1 h1 0 rfl rfl (by simp) ?_
  intro σ1 h2
  have h3 : H (ItemA R.length x :: I0 :: pt cb (.cells (cs ++ [.slice a R.length c]) 93 false) :: Own 121 1 (.slice a R.length c) R.length (ptrs R) :: Star (itemsL 0 R) :: []) σ1 := H_sep.2 h2
  have rl := load1 (n := 1) (o := 4) (h3.row 2 rfl)
  rw [List.getElem?_append_right (by omega), hcs] at rl
  simp at rl
  simp [rl]
  refine buildS_ok (cs := [.pointer (some ⟨x.ib, 0, none⟩)]) h3 (by decide) (by rfl) ?_
  intro tb σ2 h4
  have ht : srcOf 1 (.slice (some ⟨tb, 0, none⟩) 1 1) σ2 = some (1, [.pointer (some ⟨x.ib, 0, none⟩)]) := by
    rw [src_row (h4.row 5 rfl) (by simp)]; rfl
  refine append_own h4 3 rfl ht (by omega) (by omega) (by rfl) ?_
  intro w σ3 h5
  have ho := own_one h5 (i := 3) rfl
  simp
  refine store1 h5 2 rfl ho (by simp [hcs]) ?_
  intro σ4 h6
  refine hk w σ4 ?_
  have e2 : (cs ++ [Value.slice a R.length c]).set 4 w = cs ++ [w] := by
    rw [List.set_append_right _ _ (by omega), hcs]; rfl
  rw [e2] at h6
  have e3 : ptrs R ++ [.pointer (some ⟨x.ib, 0, none⟩)] = ptrs (R ++ [x]) := by simp [ptrs]
  rw [e3] at h6
  unfold RowL
  rw [itemsL_append, Star_append, List.length_append]
  simp only [itemsL, Nat.zero_add]
  have h7 : H (sep (Star (itemsL 0 R)) (Star [ItemA R.length x]) :: _) σ4 := H_sep.2 (by
    have : H (Star [ItemA R.length x] :: _) σ4 := (H_star (l := [ItemA R.length x])).2 (h6.pick [0, 1, 2, 3, 4] (by decide))
    exact this.pick [4, 0, 1, 2, 3] (by decide))
  exact h7.pick [2, 3, 0, 1] (by decide)

/-! ### up, where nothing moves; down -/
theorem Ky_some {k : Nat} {x : Rec} (h : R[k]? = some x) : Ky ku R k = x.used := by unfold Ky; rw [h]; rfl
theorem up_ok {j : Nat} {x : Rec} (hcs : cs.length = 4) (h : H (RowL cb cs rowv R I0) σ) (hj : R[j]? = some x) (hb : R.length < 1099511627776) (hmax : ∀ k, k < j → Ky ku R k ≤ x.used)
    (hk : Q (.tuple #[]) σ) : E 116 [.iface 160 (.pointer (some ⟨cb, 4, none⟩)), .int .i64 j] σ Q := by
  have hjl := (List.getElem?_eq_some_iff.1 hj).1
  apply s116_ev; unfold s116
  refine ⟨fun m x0 x1 τ => x0 = .iface 160 (.pointer (some ⟨cb, 4, none⟩)) ∧ x1 = .int .i64 j ∧ τ = σ, ⟨0, rfl, rfl, rfl⟩, ?_⟩
  rintro m _ _ τ ⟨rfl, rfl, rfl⟩
  suffices hb : ∀ N, s116b1 N Q (.iface 160 (.pointer (some ⟨cb, 4, none⟩))) (.int .i64 j) τ from hb _
  intro N
  unfold s116b1
  simp
  rw [wrap_i64 (n := (j : Int) - 1) (by omega)]
  obtain ⟨i, hi, hi2⟩ : ∃ i : Nat, IntKind.i64.wrap (((j : Int) - 1).tdiv 2) = (i : Int) ∧ (i = j ∧ j = 0 ∨ i < j) := by
    rcases Nat.eq_zero_or_pos j with rfl | h0
    · exact ⟨0, by decide, .inl ⟨rfl, rfl⟩⟩
    · refine ⟨(j - 1) / 2, ?_, .inr (by omega)⟩
      rw [show (j : Int) - 1 = ((j - 1 : Nat) : Int) by omega, show (((j - 1 : Nat) : Int)).tdiv 2 = (((j - 1) / 2 : Nat) : Int) from rfl, wrap_i64 (by omega)]
  rw [hi]
  refine wG_dec (fun g => ?_) fun g => ?_
  · unfold s116k2; simpa using hk
  · have hij : i < j := by omega
    have hx := List.getElem?_eq_getElem (show i < R.length by omega)
    rw [m_less, row_load hcs h]
    simp
    refine less_ok h hj hx ?_
    have hle := hmax i hij
    rw [Ky_some hx] at hle
    have : decide (x.used < R[i].used) = false := decide_eq_false (by omega)
    rw [this]
    simp
    unfold s116k2
    simpa using hk

theorem down_ok {n i0 : Nat} {R0 : List Rec} (hcs : cs.length = 4) (h : H (RowL cb cs rowv R0 I0) σ) (hn : n ≤ R0.length) (hb : R0.length < 1099511627776) (hi0 : i0 ≤ n) (hex : HeapEx ku R0 n i0)
    (hk : ∀ (R' : List Rec) (i : Nat) σ', i0 ≤ i → R'.Perm R0 → HeapOk ku R' n → (∀ k, n ≤ k → R'[k]? = R0[k]?) → (i = i0 → R' = R0) → H (RowL cb cs rowv R' I0) σ' → Q (.bool (decide (i0 < i))) σ') :
    E 115 [.iface 160 (.pointer (some ⟨cb, 4, none⟩)), .int .i64 i0, .int .i64 n] σ Q := by
  apply s115_ev; unfold s115
  refine ⟨fun m x0 x1 x2 x7 τ => ∃ (R : List Rec) (i : Nat), m = n - i ∧ i ≤ n ∧ x0 = .iface 160 (.pointer (some ⟨cb, 4, none⟩)) ∧ x1 = .int .i64 i0 ∧ x2 = .int .i64 n ∧ x7 = .int .i64 i ∧ R.Perm R0 ∧ HeapEx ku R n i ∧ (∀ k, n ≤ k → R[k]? = R0[k]?) ∧ i0 ≤ i ∧ (i = i0 → R = R0) ∧ H (RowL cb cs rowv R I0) τ,
    ⟨_, R0, i0, rfl, hi0, rfl, rfl, rfl, rfl, List.Perm.refl _, hex, fun _ _ => rfl, Nat.le_refl _, fun _ => rfl, h⟩, ?_⟩
  clear h hex
  rintro m _ _ _ _ τ ⟨R, i, rfl, hin, rfl, rfl, rfl, rfl, hp, hex, htl, hii, hsame, h⟩
  suffices hb : ∀ N : Value → Value → Value → Value → AHeap → Prop, (∀ R' j τ', i < j → j < n → R'.Perm R0 → HeapEx ku R' n j → (∀ k, n ≤ k → R'[k]? = R0[k]?) → H (RowL cb cs rowv R' I0) τ' → N (.iface 160 (.pointer (some ⟨cb, 4, none⟩))) (.int .i64 i0) (.int .i64 n) (.int .i64 j) τ') →
      s115b1 N Q (.iface 160 (.pointer (some ⟨cb, 4, none⟩))) (.int .i64 i0) (.int .i64 n) (.int .i64 i) τ from
    hb _ fun R' j τ' h1 h2 a b c h' => ⟨_, by omega, R', j, rfl, by omega, rfl, rfl, rfl, rfl, a, b, c, by omega, fun e => by omega, h'⟩
  intro N hN
  have hRl := hp.length_eq
  have k5 : (∀ k, 0 < k → k < n → (k - 1) / 2 = i → Ky ku R i ≤ Ky ku R k) → ∀ τ', H (RowL cb cs rowv R I0) τ' → s115k5 Q (.int .i64 i) (.int .i64 i0) τ' := by
    intro hmin τ' h'
    unfold s115k5
    simp
    have e : decide ((i0 : Int) < (i : Int)) = decide (i0 < i) := by
      by_cases g : i0 < i
      · rw [decide_eq_true g, decide_eq_true (by omega)]
      · rw [decide_eq_false g, decide_eq_false (by omega)]
    have := hk R i τ' hii hp (hex.done hmin) htl hsame h'
    simpa [e] using this
  unfold s115b1
  simp
  have w1 : IntKind.i64.wrap (2 * (i : Int)) = 2 * (i : Int) := wrap_i64 (by omega)
  have w2 : IntKind.i64.wrap (2 * (i : Int) + 1) = ((2 * i + 1 : Nat) : Int) := by rw [wrap_i64 (by omega)]; omega
  simp only [w1, w2]
  refine wG_dec (fun g => ?_) fun g => ?_
  · unfold s115k4
    simp
    exact k5 (fun k h0 hk2 hp2 => by omega) τ h
  · have hlt : ¬ ((2 * i + 1 : Nat) : Int) < 0 := by omega
    rw [decide_eq_false hlt]
    unfold s115k4
    simp only [wC_false, bin_add, pu_some, bin_lss]
    have w3 : IntKind.i64.wrap (((2 * i + 1 : Nat) : Int) + 1) = ((2 * i + 2 : Nat) : Int) := by rw [wrap_i64 (by omega)]; omega
    simp only [w3]
    have hj1 : 2 * i + 1 < n := by omega
    have x1 := List.getElem?_eq_getElem (show 2 * i + 1 < R.length by omega)
    have xi := List.getElem?_eq_getElem (show i < R.length by omega)
    -- with the least child
    have k10 : ∀ j, j < n → (j - 1) / 2 = i → 0 < j → (∀ k, 0 < k → k < n → (k - 1) / 2 = i → Ky ku R j ≤ Ky ku R k) → s115k10 N Q (.iface 160 (.pointer (some ⟨cb, 4, none⟩))) (.int .i64 j) (.int .i64 i) (.int .i64 i0) (.int .i64 n) τ := by
      intro j hjn hpj hj0 hmin
      have xj := List.getElem?_eq_getElem (show j < R.length by omega)
      unfold s115k10
      rw [m_less, row_load hcs h]
      simp
      refine less_ok h xj xi ?_
      simp only [un_not, pu_some]
      by_cases hl : R[j].used < R[i].used
      · rw [decide_eq_true hl]
        simp
        rw [m_swap, row_load hcs h]
        simp
        refine swap_ok h xi xj ?_
        intro τ1 h1
        refine hN _ j τ1 (by omega) hjn ((swp_perm R (by omega) (by omega)).trans hp) (hex.step (by omega) hjn hpj hj0 hmin (by rw [Ky_some xj, Ky_some xi]; exact hl)) ?_ h1
        intro k hk2
        rw [swp_get (by omega) (by omega), if_neg (by omega), if_neg (by omega)]
        exact htl k hk2
      · rw [decide_eq_false hl]
        simp
        refine k5 (fun k h0 hk2 hp2 => ?_) τ h
        have := hmin k h0 hk2 hp2
        rw [Ky_some xj] at this
        rw [Ky_some xi]; omega
    by_cases h2 : 2 * i + 2 < n
    · rw [decide_eq_true (show ((2 * i + 2 : Nat) : Int) < (n : Int) by omega)]
      simp only [wG_true]
      have x2 := List.getElem?_eq_getElem (show 2 * i + 2 < R.length by omega)
      rw [m_less, row_load hcs h]
      simp only [Option.bind_some, pu_some]
      refine less_ok h x2 x1 ?_
      unfold s115k9
      refine wC_dec (fun g2 => ?_) fun g2 => ?_
      · refine k10 (2 * i + 2) h2 (by omega) (by omega) ?_
        intro k h0 hk2 hp2
        rcases (show k = 2 * i + 1 ∨ k = 2 * i + 2 by omega) with rfl | rfl
        · rw [Ky_some x1, Ky_some x2]; omega
        · exact Nat.le_refl _
      · refine k10 (2 * i + 1) hj1 (by omega) (by omega) ?_
        intro k h0 hk2 hp2
        rcases (show k = 2 * i + 1 ∨ k = 2 * i + 2 by omega) with rfl | rfl
        · exact Nat.le_refl _
        · rw [Ky_some x1, Ky_some x2]; omega
    · rw [decide_eq_false (show ¬ ((2 * i + 2 : Nat) : Int) < (n : Int) by omega)]
      simp only [wG_false]
      unfold s115k9
      simp only [wC_false]
      refine k10 (2 * i + 1) hj1 (by omega) (by omega) ?_
      intro k h0 hk2 hp2
      have : k = 2 * i + 1 := by omega
      rw [this]; exact Nat.le_refl _
end
end Go.Ax.YtfeamgocomlepaaC
/- Contracts of heap.Fix, heap.Push, heap.Pop over the cache's row; maps with numbers as keys. No statement of the seat is proved here. -/
set_option maxRecDepth 100000
namespace Go.Ax.YtfeamgocomlepaaC
open Go.Proofs Go.RowKit

variable {l m : List Assn} {σ : AHeap} {Q : WK}

section
variable {cb : Nat} {cs : List Value} {rowv : Value} {R : List Rec} {I0 : Assn}
abbrev hv (cb : Nat) : Value := .iface 160 (.pointer (some ⟨cb, 4, none⟩))

theorem fix_ok {p : Nat} {x : Rec} (hcs : cs.length = 4) (h : H (RowL cb cs rowv R I0) σ) (hx : R[p]? = some x) (hb : R.length < 1099511627776) (hex : HeapEx ku R R.length p) (hmax : ∀ k, k < R.length → Ky ku R k ≤ x.used)
    (hk : ∀ R' σ', R'.Perm R → HeapOk ku R' R'.length → H (RowL cb cs rowv R' I0) σ' → Q (.tuple #[]) σ') : E 103 [hv cb, .int .i64 p] σ Q := by
  have hpl := (List.getElem?_eq_some_iff.1 hx).1
  apply s103_ev; unfold s103
  rw [m_len, row_load hcs h]
  simp only [Option.bind_some, pu_some]
  refine len_ok h ?_
  refine down_ok hcs h (Nat.le_refl _) hb (by omega) hex ?_
  intro R' i σ1 hi hp hok _ hsame h1
  simp only [un_not, pu_some]
  have hl := hp.length_eq
  by_cases hlt : p < i
  · rw [decide_eq_true hlt]
    simp
    exact hk R' σ1 hp (by rw [hl]; exact hok) h1
  · have hip : i = p := by omega
    have hR := hsame hip
    subst hR
    rw [decide_eq_false hlt]
    simp
    refine up_ok hcs h1 hx hb (fun k hk => hmax k (by omega)) ?_
    exact hk R' σ1 hp hok h1

theorem hpush_ok {p : Nat} {x : Rec} (hcs : cs.length = 4) (h : H (RowL cb cs rowv R (Star [ItemA p x, I0])) σ) (hb : R.length < 1099511627775) (hmax : ∀ k, k < R.length → Ky ku R k ≤ x.used)
    (hk : ∀ rowv' σ', H (RowL cb cs rowv' (R ++ [x]) I0) σ' → Q (.tuple #[]) σ') : E 102 [hv cb, .iface 121 (.pointer (some ⟨x.ib, 0, none⟩))] σ Q := by
  apply s102_ev; unfold s102
  rw [m_push]
  simp only [pu_some]
  refine pushm_ok hcs h (by omega) ?_
  intro rowv' σ1 h1
  rw [m_len, row_load hcs h1]
  simp only [Option.bind_some, pu_some]
  refine len_ok h1 ?_
  simp
  rw [wrap_i64 (by omega)]
  refine up_ok (x := x) hcs h1 (by simp) (by simp; omega) (fun k hk => ?_) (hk rowv' σ1 h1)
  have := hmax k hk
  unfold Ky at this ⊢
  rw [List.getElem?_append_left hk]; exact this

theorem hpop_ok {n : Nat} {x : Rec} (hcs : cs.length = 4) (h : H (RowL cb cs rowv R I0) σ) (hn : R.length = n + 1) (hx : R[0]? = some x) (hb : R.length < 1099511627776) (hok : HeapOk ku R (n + 1))
    (hk : ∀ rowv' R' σ', (R' ++ [x]).Perm R → HeapOk ku R' R'.length → H (RowL cb cs rowv' R' (Star [ItemA n x, I0])) σ' → Q (.iface 121 (.pointer (some ⟨x.ib, 0, none⟩))) σ') : E 101 [hv cb] σ Q := by
  apply s101_ev; unfold s101
  rw [m_len, row_load hcs h]
  simp only [Option.bind_some, pu_some]
  refine len_ok h ?_
  simp only [bin_sub, pu_some]
  rw [wrap_i64 (by omega), show (R.length : Int) - 1 = (n : Int) by omega, m_swap, row_load hcs h]
  simp only [Option.bind_some, pu_some]
  have hy := List.getElem?_eq_getElem (show n < R.length by omega)
  refine swap_ok (i := 0) h hx hy ?_
  intro σ1 h1
  have hsl := swp_length R 0 n
  refine down_ok (i0 := 0) hcs h1 (by rw [hsl]; omega) (by rw [hsl]; exact hb) (by omega) (hok.pop (by omega)) ?_
  intro R' i σ2 _ hp hok2 htl _ h2
  rw [m_pop]
  simp only [pu_some]
  have hl : R'.length = n + 1 := by rw [hp.length_eq, hsl, hn]
  have hx2 : R'[n]? = some x := by rw [htl n (Nat.le_refl _), swp_get (by omega) (by omega), if_pos rfl, hx]
  refine popm_ok hcs h2 hl hx2 (by omega) ?_
  intro rowv' σ3 h3
  refine hk rowv' (R'.take n) σ3 ?_ ?_ h3
  · have e : R'.take n ++ [x] = R' := by
      have h5 : R'.take (n + 1) = R'.take n ++ [x] := by rw [List.take_add_one, hx2]; rfl
      rw [← h5, ← hl, List.take_length]
    rw [e]
    exact hp.trans (swp_perm R (by omega) (by omega))
  · rw [List.length_take, Nat.min_eq_left (by omega)]
    refine hok2.congr fun k hk => ?_
    rw [List.getElem?_take, if_pos hk]
end

/-! ### Maps with numbers as keys -/
abbrev Ent := Nat × Value × Nat
def ent (e : Ent) : MapEntry := { key := .int .i64 e.1, val := e.2.1, born := e.2.2 }
theorem find_no (a : Nat) : ∀ (es : List Ent) (i : Nat), (∀ e ∈ es, e.1 ≠ a) → Instr.findNow (.int .i64) (.int .i64 a) (es.map ent) i = some none
  | [], i, _ => rfl
  | e :: es, i, h => by
    have h1 : e.1 ≠ a := h e (by simp)
    have : Instr.sameNow (.int .i64) (.int .i64 a) (ent e).key = some false := by
      simp [Instr.sameNow, ent]; omega
    simp only [List.map_cons, Instr.findNow, this]
    exact find_no a es (i + 1) fun x hx => h x (by simp [hx])
theorem find_yes (a : Nat) : ∀ (es : List Ent) (i k : Nat) (e : Ent), (es.map (·.1)).Nodup → es[k]? = some e → e.1 = a → Instr.findNow (.int .i64) (.int .i64 a) (es.map ent) i = some (some (i + k, e.2.1))
  | [], i, k, e, _, h, _ => by simp at h
  | x :: es, i, 0, e, _, h, h1 => by
    simp at h; subst h; subst h1
    have : Instr.sameNow (.int .i64) (.int .i64 (x.1 : Nat)) (ent x).key = some true := by simp [Instr.sameNow, ent]
    simp only [List.map_cons, Instr.findNow, this]
    simp [ent]
  | x :: es, i, k + 1, e, hn, h, h1 => by
    simp at h
    simp only [List.map_cons, List.nodup_cons] at hn
    have hx : x.1 ≠ a := by
      intro e2
      exact hn.1 (List.mem_map.2 ⟨e, List.mem_of_getElem? h, by rw [h1, e2]⟩)
    have : Instr.sameNow (.int .i64) (.int .i64 a) (ent x).key = some false := by
      simp [Instr.sameNow, ent]; omega
    simp only [List.map_cons, Instr.findNow, this]
    rw [find_yes a es (i + 1) k e hn.2 h h1]
    congr 3; omega
theorem map_get {b clock : Nat} {es : List MapEntry} (hm : H (pt b (.map es clock) :: m) σ) : aEntries (.map (some b)) σ = some es := by
  simp [aEntries, hm.get0.1]
theorem lookup_eq (x k : Value) (ok : Bool) (σ : AHeap) : aLookup P 89 x k ok σ = (aEntries x σ).bind fun es => (aFind (.int .i64) k es).bind fun r => match r with
      | some (_, v) => some (okV ok v true)
      | none => some (okV ok (.pointer none) false) := by kernel_rfl
theorem update_eq (r : Nat) (k v : Value) (σ : AHeap) : aMapUpdate P 89 (.map (some r)) k v σ = match σ.get r with
    | some (.map es clock) => cond (keyV k) ((aFind (.int .i64) k es).bind fun f => match f with
      | some (i, _) => some (σ.set r (.map (es.modify i fun e => { e with key := k, val := v }) clock))
      | none => some (σ.set r (.map (es ++ [{ key := k, val := v, born := clock }]) (clock + 1)))) none
    | _ => none := by kernel_rfl
theorem delete_eq (r : Nat) (k : Value) (σ : AHeap) : aDelete P 89 (.map (some r)) k σ = match σ.get r with
    | some (.map es clock) => (aFind (.int .i64) k es).bind fun f => match f with
      | some (i, _) => some (σ.set r (.map (es.eraseIdx i) clock))
      | none => some (σ.set r (.map es clock))
    | _ => none := by kernel_rfl

/-- A map from numbers to items. -/
structure MapFor (es : List Ent) (L : List (Nat × Nat)) : Prop where
  nd : (es.map (·.1)).Nodup
  to : ∀ e ∈ es, ∃ p ∈ L, e.1 = p.1 ∧ e.2.1 = .pointer (some ⟨p.2, 0, none⟩)
  from' : ∀ p ∈ L, ∃ e ∈ es, e.1 = p.1 ∧ e.2.1 = .pointer (some ⟨p.2, 0, none⟩)
theorem MapFor.perm {es : List Ent} {L M : List (Nat × Nat)} (h : MapFor es L) (hp : L.Perm M) : MapFor es M :=
  ⟨h.nd, fun e he => by obtain ⟨p, hp1, hp2⟩ := h.to e he; exact ⟨p, hp.mem_iff.1 hp1, hp2⟩, fun p hp1 => h.from' p (hp.mem_iff.2 hp1)⟩
def MapA (mb : Nat) (L : List (Nat × Nat)) : Assn := ex fun p : List Ent × Nat => sep (pure' (MapFor p.1 L)) (pt mb (.map (p.1.map ent) p.2))
theorem mapA_perm {mb : Nat} {L M : List (Nat × Nat)} (hp : L.Perm M) : MapA mb L = MapA mb M := by
  funext r; apply propext
  constructor
  · rintro ⟨p, a, b, j, ⟨rfl, h1⟩, h2⟩; exact ⟨p, _, b, j, ⟨rfl, h1.perm hp⟩, h2⟩
  · rintro ⟨p, a, b, j, ⟨rfl, h1⟩, h2⟩; exact ⟨p, _, b, j, ⟨rfl, h1.perm hp.symm⟩, h2⟩
theorem lookup_no {mb a i : Nat} {L : List (Nat × Nat)} (ok : Bool) (h : H l σ) (hi : l[i]? = some (MapA mb L)) (hno : ∀ p ∈ L, p.1 ≠ a) : aLookup P 89 (.map (some mb)) (.int .i64 a) ok σ = some (okV ok (.pointer none) false) := by
  obtain ⟨⟨es, clock⟩, h1⟩ := H_ex.1 (h.front i hi)
  rw [H_sep] at h1
  obtain ⟨hm, h2⟩ := H_pure.1 h1
  rw [lookup_eq, map_get h2]
  simp only [Option.bind_some, aFind, keyD, cond_true]
  rw [find_no a es 0 fun e he => by obtain ⟨p, hp, e1, _⟩ := hm.to e he; rw [e1]; exact hno p hp]
  rfl
theorem lookup_yes {mb i : Nat} {L : List (Nat × Nat)} {p : Nat × Nat} (ok : Bool) (h : H l σ) (hi : l[i]? = some (MapA mb L)) (hp : p ∈ L) : aLookup P 89 (.map (some mb)) (.int .i64 p.1) ok σ = some (okV ok (.pointer (some ⟨p.2, 0, none⟩)) true) := by
  obtain ⟨⟨es, clock⟩, h1⟩ := H_ex.1 (h.front i hi)
  rw [H_sep] at h1
  obtain ⟨hm, h2⟩ := H_pure.1 h1
  rw [lookup_eq, map_get h2]
  simp only [Option.bind_some, aFind, keyD, cond_true]
  obtain ⟨e, he, e1, e2⟩ := hm.from' p hp
  obtain ⟨k, hk, hke⟩ := List.getElem_of_mem he
  rw [find_yes p.1 es 0 k e hm.nd (by rw [List.getElem?_eq_getElem hk, hke]) e1, e2]
  rfl
theorem update_new {mb a ib i : Nat} {L : List (Nat × Nat)} {k : AHeap → Prop} (h : H l σ) (hi : l[i]? = some (MapA mb L)) (hno : ∀ p ∈ L, p.1 ≠ a) (hk : ∀ σ', H (l.set i (MapA mb (L ++ [(a, ib)]))) σ' → k σ') :
    pu (aMapUpdate P 89 (.map (some mb)) (.int .i64 a) (.pointer (some ⟨ib, 0, none⟩)) σ) k := by
  obtain ⟨⟨es, clock⟩, h1⟩ := H_ex.1 (h.front i hi)
  rw [H_sep] at h1
  obtain ⟨hm, h2⟩ := H_pure.1 h1
  have hm : MapFor es L := hm
  rw [update_eq, h2.get0.1]
  simp only [keyV, cond_true, aFind, keyD]
  have hne : ∀ e ∈ es, e.1 ≠ a := fun e he => by obtain ⟨p, hp, e1, _⟩ := hm.to e he; rw [e1]; exact hno p hp
  rw [find_no a es 0 hne]
  simp only [Option.bind_some, pu_some]
  have h3 := h2.set0 (.map ((es ++ [((a, .pointer (some ⟨ib, 0, none⟩), clock) : Ent)]).map ent) (clock + 1))
  refine hk _ (H.back i hi (H_ex.2 ⟨(es ++ [(a, .pointer (some ⟨ib, 0, none⟩), clock)], clock + 1), ?_⟩))
  rw [H_sep]
  refine H_pure.2 ⟨⟨?_, ?_, ?_⟩, ?_⟩
  · simp only [List.map_append, List.map_cons, List.map_nil]
    rw [List.nodup_append]
    refine ⟨hm.nd, by simp, ?_⟩
    intro x hx y hy
    simp at hy; subst hy
    obtain ⟨e, he, rfl⟩ := List.mem_map.1 hx
    exact hne e he
  · intro e he
    rcases List.mem_append.1 he with he | he
    · obtain ⟨p, hp, hpe⟩ := hm.to e he
      exact ⟨p, List.mem_append_left _ hp, hpe⟩
    · simp at he; subst he
      exact ⟨(a, ib), by simp, rfl, rfl⟩
  · intro p hp
    rcases List.mem_append.1 hp with hp | hp
    · obtain ⟨e, he, hpe⟩ := hm.from' p hp
      exact ⟨e, List.mem_append_left _ he, hpe⟩
    · simp at hp; subst hp
      exact ⟨(a, .pointer (some ⟨ib, 0, none⟩), clock), by simp, rfl, rfl⟩
  · simpa [ent] using h3
theorem map_erase {α β : Type} (f : α → β) : ∀ (l : List α) (j : Nat), (l.eraseIdx j).map f = (l.map f).eraseIdx j
  | [], j => by simp
  | x :: l, 0 => by simp
  | x :: l, j + 1 => by simp [map_erase f l j]
theorem delete_yes {mb i : Nat} {L : List (Nat × Nat)} {p : Nat × Nat} {k : AHeap → Prop} (h : H l σ) (hi : l[i]? = some (MapA mb (L ++ [p]))) (hno : ∀ q ∈ L, q.1 ≠ p.1) (hk : ∀ σ', H (l.set i (MapA mb L)) σ' → k σ') :
    pu (aDelete P 89 (.map (some mb)) (.int .i64 p.1) σ) k := by
  obtain ⟨⟨es, clock⟩, h1⟩ := H_ex.1 (h.front i hi)
  rw [H_sep] at h1
  obtain ⟨hm, h2⟩ := H_pure.1 h1
  have hm : MapFor es (L ++ [p]) := hm
  rw [delete_eq, h2.get0.1]
  simp only [aFind, keyD, cond_true]
  obtain ⟨e, he, e1, e2⟩ := hm.from' p (by simp)
  obtain ⟨j, hj, hje⟩ := List.getElem_of_mem he
  rw [find_yes p.1 es 0 j e hm.nd (by rw [List.getElem?_eq_getElem hj, hje]) e1]
  simp only [Option.bind_some, pu_some, Nat.zero_add]
  have h3 := h2.set0 (.map ((es.eraseIdx j).map ent) clock)
  refine hk _ (H.back i hi (H_ex.2 ⟨(es.eraseIdx j, clock), ?_⟩))
  rw [H_sep]
  have hsub : ∀ x ∈ es.eraseIdx j, x ∈ es ∧ x.1 ≠ p.1 := by
    intro x hx
    have hxe := List.mem_of_mem_eraseIdx hx
    refine ⟨hxe, fun e3 => ?_⟩
    obtain ⟨k, hk, hkj⟩ := List.mem_eraseIdx_iff_getElem.1 hx
    have h5 : (es.map (·.1))[k]'(by simpa using hk) = (es.map (·.1))[j]'(by simpa using hj) := by
      simp only [List.getElem_map, hkj.2, hje, e3, e1]
    exact hkj.1 ((List.getElem_inj hm.nd).1 h5)
  refine H_pure.2 ⟨⟨?_, ?_, ?_⟩, ?_⟩
  · rw [map_erase]
    exact hm.nd.sublist (List.eraseIdx_sublist _ _)
  · intro x hx
    obtain ⟨hxe, hxn⟩ := hsub x hx
    obtain ⟨q, hq, hq1, hq2⟩ := hm.to x hxe
    rcases List.mem_append.1 hq with hq | hq
    · exact ⟨q, hq, hq1, hq2⟩
    · simp at hq; subst hq; exact absurd hq1 hxn
  · intro q hq
    obtain ⟨x, hx, hx1, hx2⟩ := hm.from' q (List.mem_append_left _ hq)
    refine ⟨x, ?_, hx1, hx2⟩
    obtain ⟨k, hk, hkx⟩ := List.getElem_of_mem hx
    refine List.mem_eraseIdx_iff_getElem.2 ⟨k, hk, ?_, hkx⟩
    intro e3
    subst e3
    have : x = e := by rw [← hkx, ← hje]
    exact hno q hq (by rw [← hx1, this, e1])
  · rw [map_erase]  at h3
    rw [map_erase]; exact h3
end Go.Ax.YtfeamgocomlepaaC
/- The cache in plain words and in memory; contracts of use and room. No statement of the seat is proved here. -/
set_option maxRecDepth 100000
namespace Go.Ax.YtfeamgocomlepaaC
open Go.Proofs Go.RowKit

variable {l m : List Assn} {σ : AHeap} {Q : WK}

/-! ### Rows in their order of use -/
theorem perm_set {α : Type} {R A B : List α} {k : Nat} {x y : α} (hk : R[k]? = some x) (hp : R.Perm (A ++ x :: B)) : (R.set k y).Perm (A ++ y :: B) := by
  have hlt := (List.getElem?_eq_some_iff.1 hk).1
  have e1 : R = R.take k ++ x :: R.drop (k + 1) := by
    have := List.getElem_cons_drop hlt
    rw [(List.getElem?_eq_some_iff.1 hk).2] at this
    rw [this, List.take_append_drop]
  have e2 : R.set k y = R.take k ++ y :: R.drop (k + 1) := by
    rw [List.set_eq_take_append_cons_drop, if_pos hlt]
  rw [e2]
  rw [e1] at hp
  have h1 := (List.perm_middle.symm.trans hp).trans List.perm_middle
  have h2 := h1.cons_inv
  exact (List.perm_middle.trans (h2.cons y)).trans List.perm_middle.symm

def pairs (R : List Rec) : List (Nat × Nat) := R.map fun r => (r.pl, r.ib)
/-- The heap's row R, and the row M in its order of use. -/
structure COk (R M : List Rec) (now : Nat) : Prop where
  perm : R.Perm M
  srt : M.Pairwise fun a b => a.used < b.used
  le : ∀ r ∈ M, r.used ≤ now
  heap : HeapOk ku R R.length
  nd : (M.map (·.pl)).Nodup
theorem COk.top {R M : List Rec} {now : Nat} {x : Rec} (h : COk R (x :: M) now) : R[0]? = some x := by
  have hl := h.perm.length_eq
  have h0 := List.getElem?_eq_getElem (show 0 < R.length by rw [hl]; simp)
  have hm : R[0]'(by rw [hl]; simp) ∈ x :: M := h.perm.mem_iff.1 (List.getElem_mem _)
  rcases List.mem_cons.1 hm with e | hm
  · rw [h0, e]
  · exfalso
    have hs := List.pairwise_cons.1 h.srt
    have h1 := hs.1 _ hm
    have hx : x ∈ R := h.perm.mem_iff.2 (by simp)
    obtain ⟨k, hk, hkx⟩ := List.getElem_of_mem hx
    have h2 := h.heap.top k hk
    rw [Ky_some h0, Ky_some (x := x) (by rw [List.getElem?_eq_getElem hk, hkx])] at h2
    omega
/-- Used once more: it goes behind the others. -/
theorem COk.use {R R' A B : List Rec} {x x' : Rec} {now : Nat} (h : COk R (A ++ x :: B) now) (hu : x'.used = now + 1) (hpl : x'.pl = x.pl) (hp : R'.Perm (A ++ x' :: B)) (hok : HeapOk ku R' R'.length) : COk R' (A ++ B ++ [x']) (now + 1) := by
  have hs := h.srt
  have hsub : (A ++ B).Sublist (A ++ x :: B) := List.Sublist.append (List.Sublist.refl _) (List.sublist_cons_self _ _)
  refine ⟨?_, ?_, ?_, hok, ?_⟩
  · refine hp.trans ?_
    rw [List.append_assoc]
    exact List.Perm.append_left A (by simpa using (List.perm_append_comm (l₁ := [x']) (l₂ := B)))
  · rw [List.pairwise_append]
    refine ⟨hs.sublist hsub, List.pairwise_singleton _ _, ?_⟩
    intro a ha b hb
    simp at hb; subst hb
    have := h.le a (hsub.subset ha)
    omega
  · intro r hr
    rcases List.mem_append.1 hr with hr | hr
    · have := h.le r (hsub.subset hr); omega
    · simp at hr; subst hr; omega
  · have h1 := h.nd
    simp only [List.map_append, List.map_cons, List.map_nil] at h1 ⊢
    rw [hpl]
    refine (List.Perm.nodup_iff ?_).1 h1
    rw [List.append_assoc]
    exact List.Perm.append_left _ (by simpa using (List.perm_append_comm (l₁ := [x.pl]) (l₂ := B.map (·.pl))))
theorem COk.new {R R' M : List Rec} {x : Rec} {now : Nat} (h : COk R M now) (hu : x.used = now + 1) (hpl : ∀ r ∈ M, r.pl ≠ x.pl) (hp : R'.Perm (M ++ [x])) (hok : HeapOk ku R' R'.length) : COk R' (M ++ [x]) (now + 1) := by
  refine ⟨hp, ?_, ?_, hok, ?_⟩
  · rw [List.pairwise_append]
    refine ⟨h.srt, List.pairwise_singleton _ _, ?_⟩
    intro a ha b hb
    simp at hb; subst hb
    have := h.le a ha
    omega
  · intro r hr
    rcases List.mem_append.1 hr with hr | hr
    · have := h.le r hr; omega
    · simp at hr; subst hr; omega
  · simp only [List.map_append, List.map_cons, List.map_nil]
    rw [List.nodup_append]
    refine ⟨h.nd, by simp, ?_⟩
    intro a ha b hb
    simp at hb; subst hb
    obtain ⟨r, hr, rfl⟩ := List.mem_map.1 ha
    exact hpl r hr
theorem COk.out {R R' M : List Rec} {x : Rec} {now : Nat} (h : COk R (x :: M) now) (hp : (R' ++ [x]).Perm R) (hok : HeapOk ku R' R'.length) : COk R' M now := by
  refine ⟨?_, (List.pairwise_cons.1 h.srt).2, fun r hr => h.le r (by simp [hr]), hok, ?_⟩
  · have h1 : (x :: R').Perm (x :: M) := ((List.perm_append_comm (l₁ := [x]) (l₂ := R')).trans hp).trans h.perm
    exact h1.cons_inv
  · have := h.nd
    simp only [List.map_cons, List.nodup_cons] at this
    exact this.2
/-- Another value of what is told of a block. -/
theorem COk.mod {R A B : List Rec} {x y : Rec} {k now : Nat} (h : COk R (A ++ x :: B) now) (hk : R[k]? = some x) (hu : y.used = x.used) (hpl : y.pl = x.pl) : COk (R.set k y) (A ++ y :: B) now := by
  have hlt := (List.getElem?_eq_some_iff.1 hk).1
  refine ⟨perm_set hk h.perm, ?_, ?_, ?_, ?_⟩
  · have hs := h.srt
    rw [List.pairwise_append, List.pairwise_cons] at hs ⊢
    obtain ⟨a, ⟨b, c⟩, d⟩ := hs
    refine ⟨a, ⟨fun z hz => by rw [hu]; exact b z hz, c⟩, fun z hz w hw => ?_⟩
    rcases List.mem_cons.1 hw with rfl | hw
    · rw [hu]; exact d z hz x (by simp)
    · exact d z hz w (by simp [hw])
  · intro r hr
    rcases List.mem_append.1 hr with hr | hr
    · exact h.le r (by simp [hr])
    · rcases List.mem_cons.1 hr with rfl | hr
      · rw [hu]; exact h.le x (by simp)
      · exact h.le r (by simp [hr])
  · have e : ∀ j, Ky ku (R.set k y) j = Ky ku R j := by
      intro j
      unfold Ky
      rw [List.getElem?_set]
      by_cases e : k = j
      · subst e; rw [if_pos rfl, if_pos hlt, hk]; simp only [Option.map_some, Option.getD_some]; exact hu
      · rw [if_neg e]
    rw [List.length_set]
    intro j h0 hj
    rw [e, e]; exact h.heap j h0 hj
  · have := h.nd
    simp only [List.map_append, List.map_cons] at this ⊢
    rw [hpl]; exact this
end Go.Ax.YtfeamgocomlepaaC
/- Contracts of the cache's use and room. No statement of the seat is proved here. -/
set_option maxRecDepth 100000
namespace Go.Ax.YtfeamgocomlepaaC
open Go.Proofs Go.RowKit

variable {l m : List Assn} {σ : AHeap} {Q : WK}

/-- The cache, open. -/
def CO (cb : Nat) (dv : Value) (nn now mb : Nat) (rowv : Value) (R M : List Rec) (I0 : Assn) : List Assn :=
  [pt cb (.cells [dv, .int .i64 nn, .int .u64 now, .map (some mb), rowv] 93 false), Own 121 1 rowv R.length (ptrs R), Star (itemsL 0 R), MapA mb (pairs M), I0]
section
variable {cb nn now mb : Nat} {dv rowv : Value} {R M : List Rec} {I0 : Assn}
abbrev c4 (dv : Value) (nn now mb : Nat) : List Value := [dv, .int .i64 nn, .int .u64 now, .map (some mb)]
theorem co_row : H (CO cb dv nn now mb rowv R M I0) σ ↔ H (RowL cb (c4 dv nn now mb) rowv R (Star [MapA mb (pairs M), I0])) σ := by
  constructor
  · intro h
    have h1 : H [MapA mb (pairs M), I0, pt cb (.cells (c4 dv nn now mb ++ [rowv]) 93 false), Own 121 1 rowv R.length (ptrs R), Star (itemsL 0 R)] σ := h.pick [3, 4, 0, 1, 2] (by decide)
    exact ((H_star (l := [MapA mb (pairs M), I0])).2 h1).pick [1, 2, 3, 0] (by decide)
  · intro h
    have h1 : H [Star [MapA mb (pairs M), I0], pt cb (.cells (c4 dv nn now mb ++ [rowv]) 93 false), Own 121 1 rowv R.length (ptrs R), Star (itemsL 0 R)] σ := h.pick [3, 0, 1, 2] (by decide)
    exact ((H_star (l := [MapA mb (pairs M), I0])).1 h1).pick [2, 3, 4, 0, 1] (by decide)
theorem co_perm {M' : List Rec} (hp : (pairs M).Perm (pairs M')) : CO cb dv nn now mb rowv R M I0 = CO cb dv nn now mb rowv R M' I0 := by
  unfold CO; rw [mapA_perm hp]

theorem use_k7 {k : Nat} {x : Rec} (h : H (CO cb dv nn now mb rowv R M I0) σ) (hk : R[k]? = some x) (hle : ∀ r ∈ R, r.used ≤ now) (hok : HeapOk ku R R.length) (hb : R.length < 1099511627776)
    (hQ : ∀ R' σ', R'.Perm (R.set k { x with used := now }) → HeapOk ku R' R'.length → H (CO cb dv nn now mb rowv R' M I0) σ' → Q (.pointer (some ⟨x.ib, 0, none⟩)) σ') : s77k7 Q (.pointer (some ⟨x.ib, 0, none⟩)) (.pointer (some ⟨cb, 0, none⟩)) σ := by
  have hkl := (List.getElem?_eq_some_iff.1 hk).1
  unfold s77k7
  have r2 := load1 (n := 1) (o := 2) (h.row 0 rfl)
  simp [r2]
  have h1 := item_out (h.pick [2, 0, 1, 3, 4] (by decide)) hk
  unfold ItemA at h1
  rw [H_sep] at h1
  refine store1 h1 0 rfl rfl (by simp) ?_
  intro σ1 h2
  rw [i_160 _ rfl]
  simp
  have r1 := load1 (n := 1) (o := 1) (h2.row 0 rfl)
  simp [r1]
  have h3 := item_in (r := { x with used := now }) hkl (H_sep.2 h2)
  have h4 : H (CO cb dv nn now mb rowv (R.set k { x with used := now }) M I0) σ1 := by
    have h5 := h3.pick [1, 2, 0, 3, 4] (by decide)
    have e : ptrs (R.set k { x with used := now }) = ptrs R := by
      unfold ptrs
      rw [List.map_set]
      apply List.ext_getElem?
      intro j
      rw [List.getElem?_set]
      split
      · rename_i e; subst e
        rw [List.length_map, if_pos hkl, List.getElem?_map, hk]; rfl
      · rfl
    unfold CO
    rw [e, List.length_set]
    exact h5
  have hx : (R.set k { x with used := now })[k]? = some { x with used := now } := by rw [List.getElem?_set, if_pos rfl, if_pos hkl]
  have hxle := hle x (List.mem_of_getElem? hk)
  refine fix_ok (cs := c4 dv nn now mb) rfl (co_row.1 h4) hx (by simpa using hb) ?_ ?_ ?_
  · rw [List.length_set]
    exact hok.grow hkl (by rw [Ky_some hk]; exact hxle)
  · intro j hj
    obtain ⟨y, hy⟩ : ∃ y, (R.set k { x with used := now })[j]? = some y := ⟨_, List.getElem?_eq_getElem hj⟩
    rw [Ky_some hy]
    have hym := List.mem_of_getElem? hy
    rcases List.mem_or_eq_of_mem_set hym with q | q
    · exact hle y q
    · rw [q]; exact Nat.le_refl _
  · intro R' σ2 hp hok2 h5
    exact hQ R' σ2 hp hok2 (co_row.2 h5)

theorem use_yes {A B : List Rec} {x : Rec} (h : H (CO cb dv nn now mb rowv R (A ++ x :: B) I0) σ) (hc : COk R (A ++ x :: B) now) (hnow : now + 1 < 18446744073709551616) (hb : R.length < 1099511627776)
    (hQ : ∀ R' σ', COk R' (A ++ B ++ [{ x with used := now + 1 }]) (now + 1) → H (CO cb dv nn (now + 1) mb rowv R' (A ++ B ++ [{ x with used := now + 1 }]) I0) σ' → Q (.pointer (some ⟨x.ib, 0, none⟩)) σ') :
    E 77 [.pointer (some ⟨cb, 0, none⟩), .int .i64 x.pl] σ Q := by
  apply s77_ev; unfold s77
  have r2 := load1 (n := 1) (o := 2) (h.row 0 rfl)
  simp [r2]
  rw [wrap_u64 (by omega)]
  refine store1 h 0 rfl rfl (by simp) ?_
  intro σ1 h1
  have r3 := load1 (n := 1) (o := 3) (h1.row 0 rfl)
  simp [r3]
  have hl := lookup_yes (p := (x.pl, x.ib)) true h1 (i := 3) rfl (by simp [pairs])
  simp only at hl
  rw [hl]
  simp [okV]
  have hm : x ∈ R := hc.perm.mem_iff.2 (by simp)
  obtain ⟨k, hk, hkx⟩ := List.getElem_of_mem hm
  have hk' : R[k]? = some x := by rw [List.getElem?_eq_getElem hk, hkx]
  have h2 : H (CO cb dv nn (now + 1) mb rowv R (A ++ x :: B) I0) σ1 := h1
  refine use_k7 h2 hk' (fun r hr => by have := hc.le r (hc.perm.mem_iff.1 hr); omega) hc.heap hb ?_
  intro R' σ2 hp hok h3
  have hp2 := hp.trans (perm_set (y := { x with used := now + 1 }) hk' hc.perm)
  refine hQ R' σ2 (hc.use rfl rfl hp2 hok) ?_
  rw [co_perm (M' := A ++ x :: B)]
  · exact h3
  · unfold pairs
    simp only [List.map_append, List.map_cons, List.map_nil, List.append_assoc]
    exact List.Perm.append_left _ (by simp)

theorem use_no {a : Nat} (h : H (CO cb dv nn now mb rowv R M I0) σ) (hc : COk R M now) (hno : ∀ r ∈ M, r.pl ≠ a) (hnow : now + 1 < 18446744073709551616) (hb : R.length < 1099511627775)
    (hQ : ∀ rowv' R' ib σ', COk R' (M ++ [⟨ib, a, now + 1, false, .slice none 0 0, []⟩]) (now + 1) → H (CO cb dv nn (now + 1) mb rowv' R' (M ++ [⟨ib, a, now + 1, false, .slice none 0 0, []⟩]) I0) σ' → Q (.pointer (some ⟨ib, 0, none⟩)) σ') :
    E 77 [.pointer (some ⟨cb, 0, none⟩), .int .i64 a] σ Q := by
  apply s77_ev; unfold s77
  have r2 := load1 (n := 1) (o := 2) (h.row 0 rfl)
  simp [r2]
  rw [wrap_u64 (by omega)]
  refine store1 h 0 rfl rfl (by simp) ?_
  intro σ1 h1
  have r3 := load1 (n := 1) (o := 3) (h1.row 0 rfl)
  have r2 := load1 (n := 1) (o := 2) (h1.row 0 rfl)
  simp [r3]
  have hnp : ∀ p ∈ pairs M, p.1 ≠ a := by
    intro p hp
    obtain ⟨r, hr, rfl⟩ := List.mem_map.1 hp
    exact hno r hr
  have hl := lookup_no (a := a) true h1 (i := 3) rfl hnp
  rw [hl]
  simp [okV, r2, splice]
  refine new_ok h1 ?_
  intro ib σ2 h2
  have r3 := load1 (n := 1) (o := 3) (h2.row 0 rfl)
  simp [r3]
  refine update_new h2 (i := 3) rfl hnp ?_
  intro σ3 h3
  rw [i_160 _ rfl, i_121 _ rfl]
  simp
  let x : Rec := ⟨ib, a, now + 1, false, .slice none 0 0, []⟩
  have e1 : pairs M ++ [(a, ib)] = pairs (M ++ [x]) := by simp [pairs, x]
  rw [e1] at h3
  have h4 : H (RowL cb (c4 dv nn (now + 1) mb) rowv R (Star [ItemA 0 x, Star [MapA mb (pairs (M ++ [x])), I0]])) σ3 := by
    have h5 : H [ItemA 0 x, Star [MapA mb (pairs (M ++ [x])), I0], pt cb (.cells (c4 dv nn (now + 1) mb ++ [rowv]) 93 false), Own 121 1 rowv R.length (ptrs R), Star (itemsL 0 R)] σ3 := by
      have h6 : H [MapA mb (pairs (M ++ [x])), I0, pt cb (.cells (c4 dv nn (now + 1) mb ++ [rowv]) 93 false), Own 121 1 rowv R.length (ptrs R), Star (itemsL 0 R), pt ib (.cells [.int .i64 a, .int .i64 0, .int .u64 (now + 1), .bool false, .slice none 0 0] 123 false)] σ3 := h3.pick [3, 4, 0, 1, 2, 5] (by decide)
      have h7 := (H_star (l := [MapA mb (pairs (M ++ [x])), I0])).2 h6
      have h8 : H [pt ib (.cells [.int .i64 a, .int .i64 0, .int .u64 (now + 1), .bool false, .slice none 0 0] 123 false), Star [MapA mb (pairs (M ++ [x])), I0], pt cb (.cells (c4 dv nn (now + 1) mb ++ [rowv]) 93 false), Own 121 1 rowv R.length (ptrs R), Star (itemsL 0 R)] σ3 := h7.pick [4, 0, 1, 2, 3] (by decide)
      have hB : Ax.H (BytesV (.slice none 0 0) [] :: [pt ib (.cells [.int .i64 a, .int .i64 0, .int .u64 (now + 1), .bool false, .slice none 0 0] 123 false), Star [MapA mb (pairs (M ++ [x])), I0], pt cb (.cells (c4 dv nn (now + 1) mb ++ [rowv]) 93 false), Own 121 1 rowv R.length (ptrs R), Star (itemsL 0 R)]) σ3 :=
        (H_pure.2 ⟨⟨rfl, rfl⟩, h8⟩ : H (pure' (Value.slice none 0 0 = .slice none 0 0 ∧ ([] : List UInt8) = []) :: _) σ3).map0 fun r hr => .inl hr
      unfold ItemA
      rw [H_sep]
      exact hB.pick [1, 0, 2, 3, 4, 5] (by decide)
    exact ((H_star (l := [ItemA 0 x, Star [MapA mb (pairs (M ++ [x])), I0]])).2 h5).pick [1, 2, 3, 0] (by decide)
  have hleR : ∀ r ∈ R, r.used ≤ now := fun r hr => hc.le r (hc.perm.mem_iff.1 hr)
  refine hpush_ok (cs := c4 dv nn (now + 1) mb) (x := x) rfl h4 hb ?_ ?_
  · intro k hk
    rw [Ky_some (List.getElem?_eq_getElem hk)]
    have := hleR _ (List.getElem_mem hk)
    show _ ≤ now + 1
    omega
  · intro rowv' σ4 h5
    have h6 : H (CO cb dv nn (now + 1) mb rowv' (R ++ [x]) (M ++ [x]) I0) σ4 := co_row.2 h5
    have hx : (R ++ [x])[R.length]? = some x := by simp
    have hheap : HeapOk ku (R ++ [x]) (R ++ [x]).length := by
      intro k h0 hk
      simp only [List.length_append, List.length_cons, List.length_nil] at hk
      by_cases e : k = R.length
      · subst e
        rw [Ky_some hx]
        have hp : (R.length - 1) / 2 < R.length := by omega
        rw [Ky_some (x := R[(R.length - 1) / 2]) (by rw [List.getElem?_append_left hp, List.getElem?_eq_getElem hp])]
        have := hleR _ (List.getElem_mem hp)
        show _ ≤ now + 1
        omega
      · have := hc.heap k h0 (by omega)
        unfold Ky at this ⊢
        rw [List.getElem?_append_left (by omega), List.getElem?_append_left (by omega)]
        exact this
    refine use_k7 h6 hx ?_ hheap (by simp; omega) ?_
    · intro r hr
      rcases List.mem_append.1 hr with hr | hr
      · have := hleR r hr; omega
      · simp at hr; subst hr; exact Nat.le_refl _
    · intro R' σ5 hp hok h7
      have e2 : (R ++ [x]).set R.length { x with used := now + 1 } = R ++ [x] := by simp [x]
      rw [e2] at hp
      refine hQ rowv' R' ib σ5 (hc.new rfl hno (hp.trans (hc.perm.append_right [x])) hok) h7
end
end Go.Ax.YtfeamgocomlepaaC
/- Contracts of the cache's write and room, over a disk whose power stays. No statement of the seat is proved here. -/
set_option maxRecDepth 100000
namespace Go.Ax.YtfeamgocomlepaaC
open Go.Proofs Go.RowKit

variable {l m : List Assn} {σ : AHeap} {Q : WK}

theorem bytesV_rob {v : Value} {x : List UInt8} (hx : x ≠ []) : BytesV v x = RoB v x := by
  funext r; apply propext
  constructor
  · rintro (⟨_, _, h⟩ | h)
    · exact absurd h hx
    · exact h
  · exact .inr
theorem bytesV_dup (v : Value) (x : List UInt8) : Dup (BytesV v x) := by
  rintro r (h | h)
  · obtain ⟨a, b, j, p, q⟩ := Dup.pure _ r h
    exact ⟨a, b, j, .inl p, .inl q⟩
  · obtain ⟨a, b, j, p, q⟩ := RoB.dup v x r h
    exact ⟨a, b, j, .inr p, .inr q⟩
/-- A disk whose power stays. -/
structure DPlain (D : DM) (n : Nat) : Prop where
  ok : D.Ok n
  off : D.off = false
  fuse : D.fuse = 0
theorem DPlain.fling {D : DM} {n a : Nat} {bs : List UInt8} (h : DPlain D n) (ha : a < n) (hb : bs.length = 256) : DPlain (D.fling a bs) n := ⟨fling_Ok h.ok ha hb, h.off, h.fuse⟩
theorem set_same {α : Type} {R : List α} {k : Nat} {x : α} (hk : R[k]? = some x) : R.set k x = R := by
  apply List.ext_getElem?
  intro j
  rw [List.getElem?_set]
  split
  · rename_i e; subst e; rw [hk, if_pos (List.getElem?_eq_some_iff.1 hk).1]
  · rfl
theorem ptrs_set {R : List Rec} {k : Nat} {x y : Rec} (hk : R[k]? = some x) (hy : y.ib = x.ib) : ptrs (R.set k y) = ptrs R := by
  unfold ptrs
  rw [List.map_set, hy]
  exact set_same (by rw [List.getElem?_map, hk]; rfl)

section
variable {cb nn now mb n : Nat} {dv rowv : Value} {R M A B : List Rec} {I0 : Assn} {D : DM}
/-- What is left of a write behind it. -/
def wrote (D : DM) (x : Rec) : DM := if x.dirty then D.fling x.pl x.b else D
abbrev clean (x : Rec) : Rec := { x with dirty := false }

theorem pairs_mod {x y : Rec} (hpl : y.pl = x.pl) (hib : y.ib = x.ib) : pairs (A ++ y :: B) = pairs (A ++ x :: B) := by simp [pairs, hpl, hib]

theorem witem_ok {k : Nat} {x : Rec} (h : H (CO cb dv nn now mb rowv R (A ++ x :: B) (Star [Disk dv D, I0])) σ) (hk : R[k]? = some x) (hD : DPlain D n) (hpl : x.pl < n) (hxb : x.b.length = 256) (hm : D.fly.length < 1099511627776)
    (hQ : ∀ σ', H (CO cb dv nn now mb rowv (R.set k (clean x)) (A ++ clean x :: B) (Star [Disk dv (wrote D x), I0])) σ' → Q (.int .i64 0) σ') : E 79 [.pointer (some ⟨cb, 0, none⟩), .pointer (some ⟨x.ib, 0, none⟩)] σ Q := by
  have hkl := (List.getElem?_eq_some_iff.1 hk).1
  apply s79_ev; unfold s79
  have h0 : H [Star [Disk dv D, I0], Star (itemsL 0 R), pt cb (.cells [dv, .int .i64 nn, .int .u64 now, .map (some mb), rowv] 93 false), Own 121 1 rowv R.length (ptrs R), MapA mb (pairs (A ++ x :: B))] σ := h.pick [4, 2, 0, 1, 3] (by decide)
  have h1 : H [Star (itemsL 0 R), Disk dv D, I0, pt cb (.cells [dv, .int .i64 nn, .int .u64 now, .map (some mb), rowv] 93 false), Own 121 1 rowv R.length (ptrs R), MapA mb (pairs (A ++ x :: B))] σ := ((H_star (l := [Disk dv D, I0])).1 h0).pick [2, 0, 1, 3, 4, 5] (by decide)
  have h2 := item_out h1 hk
  unfold ItemA at h2
  rw [H_sep, bytesV_rob (by intro e; rw [e] at hxb; simp at hxb)] at h2
  have r3 := load1 (n := 1) (o := 3) (h2.row 0 rfl)
  have r0 := load1 (n := 1) (o := 0) (h2.row 0 rfl)
  have r4 := load1 (n := 1) (o := 4) (h2.row 0 rfl)
  have c0 := load1 (n := 1) (o := 0) (h2.row 5 rfl)
  simp [r3]
  cases hd : x.dirty with
  | false =>
    simp
    have e : clean x = x := by cases x; simp_all [clean]
    have e2 : wrote D x = D := by simp [wrote, hd]
    rw [e, e2, set_same hk] at hQ
    exact hQ σ h
  | true =>
    simp [r0, r4, c0]
    refine write_ok (bs := x.b) h2 3 rfl hD.ok (by rw [hD.fuse]; omega) hm (by omega) (fun τ hτ => hτ.rob_rd 1 rfl) ?_
    rw [write_plain hD.ok hD.off hD.fuse hpl hxb]
    intro σ1 h3
    simp
    refine store1 h3 0 rfl rfl (by simp) ?_
    intro σ2 h4
    have e2 : wrote D x = D.fling x.pl x.b := by simp [wrote, hd]
    rw [e2] at hQ
    refine hQ σ2 ?_
    have h5 : H [pt x.ib (.cells [.int .i64 x.pl, .int .i64 k, .int .u64 x.used, .bool false, x.sv] 123 false), RoB x.sv x.b, Star ((itemsL 0 R).set k emp), Disk dv (D.fling x.pl x.b), I0, pt cb (.cells [dv, .int .i64 nn, .int .u64 now, .map (some mb), rowv] 93 false), Own 121 1 rowv R.length (ptrs R), MapA mb (pairs (A ++ x :: B))] σ2 := h4
    rw [← bytesV_rob (v := x.sv) (x := x.b) (by intro e; rw [e] at hxb; simp at hxb)] at h5
    have h6 := item_in (r := clean x) hkl (H_sep.2 h5)
    have h7 := (H_star (l := [Disk dv (D.fling x.pl x.b), I0])).2 (h6.pick [1, 2, 0, 3, 4, 5] (by decide))
    unfold CO
    rw [pairs_mod (x := x) (y := clean x) rfl rfl, ptrs_set (y := clean x) hk rfl, List.length_set]
    exact h7.pick [2, 3, 1, 4, 0] (by decide)

/-- Room for a block. -/
theorem room_no (h : H (CO cb dv nn now mb rowv R M I0) σ) (hlt : R.length < nn) (hQ : Q (.int .i64 0) σ) : E 76 [.pointer (some ⟨cb, 0, none⟩)] σ Q := by
  apply s76_ev; unfold s76
  have r4 := load1 (n := 1) (o := 4) (h.row 0 rfl)
  have r1 := load1 (n := 1) (o := 1) (h.row 0 rfl)
  obtain ⟨_, _, a, c, rfl⟩ := h.own_src 1 rfl
  simp [r4, r1, hlt]
  exact hQ
theorem room_yes {x : Rec} (h : H (CO cb dv nn now mb rowv R (x :: M) (Star [Disk dv D, I0])) σ) (hc : COk R (x :: M) now) (hge : nn ≤ R.length) (hb : R.length < 1099511627776) (hD : DPlain D n) (hpl : x.pl < n) (hxb : x.b.length = 256) (hm : D.fly.length < 1099511627776)
    (hQ : ∀ rowv' R' σ', COk R' M now → H (CO cb dv nn now mb rowv' R' M (Star [Disk dv (wrote D x), I0])) σ' → Q (.int .i64 0) σ') : E 76 [.pointer (some ⟨cb, 0, none⟩)] σ Q := by
  apply s76_ev; unfold s76
  have r4 := load1 (n := 1) (o := 4) (h.row 0 rfl)
  have r1 := load1 (n := 1) (o := 1) (h.row 0 rfl)
  have hl := hc.perm.length_eq
  simp only [List.length_cons] at hl
  obtain ⟨rb, rc, rfl, hrc, rest, hrow⟩ := h.own_form 1 rfl (by omega)
  have hnl : ¬ (R.length : Int) < (nn : Int) := by omega
  simp [r4, r1]
  refine wC_dec (fun g => absurd g (by omega)) fun _ => ?_
  have h0 := hc.top
  have rx := load1 (n := 1) (o := 0) hrow
  rw [List.getElem?_append_left (by rw [ptrs_len]; omega), ptrs_get h0] at rx
  rw [idxA (by omega)]
  simp [rx]
  refine witem_ok (A := []) (B := M) (k := 0) h h0 hD hpl hxb hm ?_
  intro σ1 h1
  simp
  rw [i_160 _ rfl, pu_some]
  have hc1 : COk (R.set 0 (clean x)) (clean x :: M) now := COk.mod (A := []) hc h0 rfl rfl
  have hl1 : (R.set 0 (clean x)).length = M.length + 1 := by rw [List.length_set]; exact hl
  refine hpop_ok (n := M.length) (x := clean x) (cs := c4 dv nn now mb) rfl (co_row.1 h1) hl1 hc1.top (by omega) (by rw [← hl1]; exact hc1.heap) ?_
  intro rowv' R' σ2 hp hok h2
  rw [a_121]
  have h3 : H [ItemA M.length (clean x), Star [MapA mb (pairs (clean x :: M)), Star [Disk dv (wrote D x), I0]], pt cb (.cells (c4 dv nn now mb ++ [rowv']) 93 false), Own 121 1 rowv' R'.length (ptrs R'), Star (itemsL 0 R')] σ2 :=
    (H_star (l := [ItemA M.length (clean x), Star [MapA mb (pairs (clean x :: M)), Star [Disk dv (wrote D x), I0]]])).1 (h2.pick [3, 0, 1, 2] (by decide))
  have h4 : H [MapA mb (pairs (clean x :: M)), Star [Disk dv (wrote D x), I0], ItemA M.length (clean x), pt cb (.cells (c4 dv nn now mb ++ [rowv']) 93 false), Own 121 1 rowv' R'.length (ptrs R'), Star (itemsL 0 R')] σ2 :=
    (H_star (l := [MapA mb (pairs (clean x :: M)), Star [Disk dv (wrote D x), I0]])).1 (h3.pick [1, 0, 2, 3, 4] (by decide))
  have e1 : (pairs (clean x :: M)).Perm (pairs M ++ [(x.pl, x.ib)]) := by
    exact (List.perm_append_singleton (x.pl, x.ib) (pairs M)).symm
  rw [mapA_perm e1] at h4
  have r3 := load1 (n := 1) (o := 3) (h4.row 3 rfl)
  have h5 := h4.pick [2, 0, 1, 3, 4, 5] (by decide)
  unfold ItemA at h5
  have q0 := load1 (n := 1) (o := 0) ((H_sep.1 h5).row 0 rfl)
  simp [r3, q0]
  refine delete_yes (p := (x.pl, x.ib)) h4 (i := 0) rfl ?_ ?_
  · intro q hq
    obtain ⟨r, hr, rfl⟩ := List.mem_map.1 hq
    have := hc.nd
    simp only [List.map_cons, List.nodup_cons] at this
    intro e
    exact this.1 (List.mem_map.2 ⟨r, hr, e⟩)
  · intro σ3 h6
    refine hQ rowv' R' σ3 (hc1.out hp hok) ?_
    exact h6.pick [3, 4, 5, 0, 1] (by decide)
end
end Go.Ax.YtfeamgocomlepaaC
