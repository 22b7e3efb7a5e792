/- Contracts of the disk's functions: Barrier, Crash, Read, Copy, Write. No statement of the seat is proved here. -/
import Derived.Test.YtfeamgocomlepaaD2
set_option maxRecDepth 100000
namespace Go.Ax.YtfeamgocomlepaaC
open Go.Proofs

variable {l : List Assn} {σ : AHeap} {Q : WK}

theorem barrier_ok {v : Value} {D : DM} {n : Nat} (h : H l σ) (i : Nat) (hi : l[i]? = some (Disk v D)) (hD : D.Ok n) (hf : D.fuse < 9223372036854775808) (hm : D.fly.length < 1099511627776)
    (hk : ∀ σ', H (l.set i (Disk v D.barrier.1)) σ' → Q (.int .i64 D.barrier.2) σ') : E 18 [v] σ Q := by
  apply s18_ev; unfold s18
  refine ready_ok h i hi hD ?_
  simp
  have hself : l.set i (Disk v D) = l := by
    apply List.ext_getElem?
    intro j
    rw [List.getElem?_set]
    split
    · rename_i e; subst e; split
      · exact hi.symm
      · rename_i hh; exact absurd (List.getElem?_eq_some_iff.1 hi).1 hh
    · rfl
  by_cases hr : D.ready 0 = 0
  · simp only [hr, decide_true, Bool.not_true, wC_false]
    have hlt := (List.getElem?_eq_some_iff.1 hi).1
    refine burn_ok h i hi hf (fun hb σ1 h1 => ?_) fun hb σ1 h1 => ?_
    · have hi2 : (l.set i (Disk v D.burn.1))[i]? = some (Disk v D.burn.1) := by simp [hlt]
      have hD2 : D.burn.1.Ok n := by
        unfold DM.burn; split
        · exact hD
        · split <;> exact ⟨hD.lo, hD.hi, hD.len, hD.fly⟩
      have hfl : D.burn.1.fly = D.fly := by unfold DM.burn; split; rfl; split <;> rfl
      refine land_ok h1 i hi2 hD2 (by rw [hfl]; exact hm) ?_
      intro σ2 h2
      rw [List.set_set] at h2
      have e : D.barrier = (D.burn.1.land, 0) := by simp [DM.barrier, hr, hb]
      rw [e] at hk
      exact hk _ h2
    · have e : D.barrier = (D.burn.1, 9) := by simp [DM.barrier, hr, hb]
      rw [e] at hk
      exact hk _ h1
  · simp only [hr, decide_false, Bool.not_false, wC_true]
    have e : D.barrier = (D, D.ready 0) := by simp [DM.barrier, hr]
    rw [e] at hk
    exact hk _ (by rw [hself]; exact h)

theorem crash_ok {v pv : Value} {D : DM} {n : Nat} {picks : List UInt8} (h : H l σ) (i : Nat) (hi : l[i]? = some (Disk v D)) (hD : D.Ok n) (hm : D.fly.length < 1099511627776)
    (hp : ∀ τ, H (l.set i emp) τ → Rd τ pv picks) (hk : ∀ σ', H (l.set i (Disk v (D.crash picks))) σ' → Q (.tuple #[]) σ') : E 22 [v, pv] σ Q := by
  obtain ⟨b, lv, fv, ss, rfl, hs, h⟩ := disk_out (h.out i hi)
  have hlen := hD.len
  have hn := hD.lo
  have hn2 := hD.hi
  apply s22_ev; unfold s22
  have r1 := load1 (n := 1) (o := 1) (h.row 0 rfl)
  obtain ⟨_, _, x, c, rfl⟩ := h.own_src 2 rfl
  obtain ⟨lb, lc, rfl, hcap, _⟩ := h.own_form 1 rfl (by omega)
  obtain ⟨pa, pc, rfl⟩ := (hp _ (h.beside 4 rfl)).form
  simp [r1]
  let J : Nat → List Assn := fun k => pt b (.cells [.slice (some ⟨lb, 0, none⟩) D.last.length lc, .slice x D.fly.length c, .int .i64 D.fuse, .bool D.off] 88 false) :: Own 5 1 (.slice (some ⟨lb, 0, none⟩) D.last.length lc) D.last.length (bv (crashed picks D.last 0 (D.fly.take k))) :: Own 110 2 (.slice x D.fly.length c) D.fly.length (flc D.fly ss) :: FlyA D.fly ss :: [Star (l.set i emp)]
  refine ⟨fun m x0 x1 x7 x8 x9 τ => ∃ k : Nat, m = D.fly.length - k ∧ k ≤ D.fly.length ∧ x0 = .pointer (some ⟨b, 0, none⟩) ∧ x1 = .slice pa picks.length pc ∧ x7 = .slice x D.fly.length c ∧ x8 = .int .i64 D.fly.length ∧ x9 = .int .i64 k ∧ H (J k) τ, ⟨_, 0, rfl, by omega, rfl, rfl, rfl, rfl, rfl, ?_⟩, ?_⟩
  · exact h
  · rintro m _ _ _ _ _ τ ⟨k, rfl, hkl, rfl, rfl, rfl, rfl, rfl, h⟩
    suffices hb : ∀ N : Value → Value → Value → Value → Value → AHeap → Prop, (∀ τ', k < D.fly.length → H (J (k + 1)) τ' →
        N (.pointer (some ⟨b, 0, none⟩)) (.slice pa picks.length pc) (.slice x D.fly.length c) (.int .i64 D.fly.length) (.int .i64 (k + 1 : Nat)) τ') → s22b1 N Q (.pointer (some ⟨b, 0, none⟩)) (.slice pa picks.length pc) (.slice x D.fly.length c) (.int .i64 D.fly.length) (.int .i64 k) τ from
      hb _ fun τ' hlt h' => ⟨_, by omega, k + 1, rfl, by omega, rfl, rfl, rfl, rfl, rfl, h'⟩
    intro N hN
    unfold s22b1
    simp
    have hok : ∀ f ∈ D.fly.take k, FlyOk n f := fun f hf => hD.fly f (List.mem_of_mem_take hf)
    have hll := crashed_length picks (D.fly.take k) D.last 0 hlen hok
    refine wC_dec (fun h1 => ?_) fun h1 => ?_
    · obtain ⟨b2, e1, e2, e3⟩ := h.own_elem 2 rfl (k := k) h1
      have hf := List.getElem?_eq_getElem h1
      have hsk := List.getElem?_eq_getElem (show k < ss.length by omega)
      have hfo := hD.fly _ (List.getElem_mem h1)
      rw [flc_get _ _ k _ _ hf hsk] at e2
      have hfit := hfo.fit
      have hl64 := hfo.len
      simp [e1, e2]
      refine new_ok h ?_
      intro tb σ1 h2
      obtain ⟨fb, fo, fcap, fc, hse, hfcap, hfr, hfd, hfl⟩ := fly_at h2 3 rfl hf hsk
      refine storeN h2 5 rfl (by simp) (by omega) (by simp [hse]) (by simp) ?_
      intro σ2 h3
      obtain ⟨fb, fo, fcap, fc, hse, hfcap, hfr, hfd, hfl⟩ := fly_at h3 3 rfl hf hsk
      have r0 := load1 (n := 1) (o := 0) (h3.row 0 rfl)
      have t0 := load1 (n := 1) (o := 0) (h3.row 5 rfl)
      have t1 := load1 (n := 1) (o := 1) (h3.row 5 rfl)
      obtain ⟨dc, hsl, _⟩ := slice_from (z := 1) (b := lb) (o := 0) (lo := (D.fly[k].1 : Int)) (k := .i64) hcap (by omega)
      -- what is laid, by the number
      have key : ∀ p : Nat, p < 256 → (p = 0 → cutOf picks k = 0) → (p = 1 → cutOf picks k = 64) → (1 < p → cutOf picks k = (p - 2) % 65) →
          s22k9 N Q (.int .i64 p) (.pointer (some ⟨b, 0, none⟩)) (.pointer (some ⟨tb, 0, none⟩)) (.int .i64 k) (.slice pa picks.length pc) (.slice x D.fly.length c) (.int .i64 D.fly.length) σ2 := by
        intro p hp256 hp0 hp1 hp2
        have hfin : ∀ τ, H (J (k + 1)) τ → s22k11 N Q (.int .i64 k) (.pointer (some ⟨b, 0, none⟩)) (.slice pa picks.length pc) (.slice x D.fly.length c) (.int .i64 D.fly.length) τ := by
          intro τ hτ
          unfold s22k11
          simp
          rw [wrap_i64 (by omega)]
          exact hN _ h1 hτ
        unfold s22k9
        simp
        refine wC_dec (fun g1 => ?_) fun g1 => ?_
        · have g1 : p = 1 := by omega
          simp [r0, t0, t1, splice, hsl, hse]
          have hmin : D.fly[k].snd.length.min (D.last.length - D.fly[k].fst) = 64 := by rw [hl64]; exact Nat.min_eq_left (by omega)
          refine copy_own (ys := bv D.fly[k].2) h3 1 rfl (by omega) (by rw [hmin, rob_src (n := 64) hfr hfd hfl (by omega), List.take_of_length_le (by omega)]) (bv_one _) (by simp; omega) ?_
          intro σ3 h4
          refine hfin _ ?_
          simp only [J]
          rw [crashed_take _ _ _ _ _ hf, hp1 g1, List.take_of_length_le (l := D.fly[k].2) (by omega), ← splice_put]
          exact h4.pick [0, 1, 2, 3, 4] (by decide)
        · refine wC_dec (fun g2 => ?_) fun g2 => ?_
          · have g2 : 1 < p := by omega
            have hw : IntKind.i64.wrap ((p : Int) - 2) = ((p - 2 : Nat) : Int) := by rw [wrap_i64 (by omega)]; omega
            have ht : ((p - 2 : Nat) : Int).tmod 65 = (((p - 2) % 65 : Nat) : Int) := rfl
            obtain ⟨ec, hse2, _⟩ := slice_to (z := 1) (b := fb) (o := fo) (n := D.fly[k].2.length) (c := fcap) (hi := (((p - 2) % 65 : Nat) : Int)) (k := .i64) hfcap (by omega) (by omega)
            simp only [Int.toNat_natCast] at hse2
            simp [r0, t0, t1, splice, hsl, hse, hw, -Int.natCast_emod]
            simp only [ht, hse2, pu_some]
            have hlt65 : (p - 2) % 65 ≤ 64 := by omega
            generalize (p - 2) % 65 = q at hlt65 hp2 hse2
            have hmin : Nat.min q (D.last.length - D.fly[k].fst) = q := Nat.min_eq_left (by omega)
            refine copy_own (ys := bv (D.fly[k].2.take q)) h3 1 rfl (by omega) (by rw [hmin, rob_src (n := q) hfr hfd hfl (by omega)]) (bv_one _) (by simp; omega) ?_
            intro σ3 h4
            refine hfin _ ?_
            simp only [J]
            rw [crashed_take _ _ _ _ _ hf, hp2 g2, ← splice_put]
            exact h4.pick [0, 1, 2, 3, 4] (by decide)
          · have g3 : p = 0 := by omega
            refine hfin _ ?_
            simp only [J]
            rw [crashed_take _ _ _ _ _ hf, hp0 g3, List.take_zero, put_nil]
            exact h3.pick [0, 1, 2, 3, 4] (by decide)
      refine wC_dec (fun g1 => ?_) fun g1 => ?_
      · have hrd := hp _ (h3.beside 4 rfl)
        have hpk := List.getElem?_eq_getElem g1
        obtain ⟨pp, p1, p2⟩ := hrd.elem k _ hpk
        have hb8 := by8_lt picks[k]
        simp [p1, p2, by8]
        rw [wrap_i64 (by omega)]
        refine key picks[k].toNat (by omega) ?_ ?_ ?_
        · intro h0; simp [cutOf, hpk, h0]
        · intro h0; simp [cutOf, hpk, h0]
        · intro h0; simp only [cutOf, hpk]; rw [if_neg (by omega), if_neg (by omega)]
      · have hpk : picks[k]? = none := List.getElem?_eq_none (by omega)
        exact key 0 (by omega) (fun _ => by simp [cutOf, hpk]) (by omega) (by omega)
    · have : k = D.fly.length := by omega
      subst this
      refine store1 (o := 1) (v := .slice none 0 0) h 0 rfl rfl (by simp) ?_
      intro σ1 h2
      try simp
      refine store1 (o := 2) (v := .int .i64 0) h2 0 rfl rfl (by simp) ?_
      intro σ2 h3
      try simp
      refine store1 (o := 3) (v := .bool false) h3 0 rfl rfl (by simp) ?_
      intro σ3 h4
      refine hk _ (H.in' i hi (disk_in (.slice (some ⟨lb, 0, none⟩) D.last.length lc) (.slice none 0 0) [] rfl ?_))
      have h5 := (h4.own_nil 110 2).emp_end.pick [0, 1, 5, 6, 4] (by decide)
      have e : (crashed picks D.last 0 D.fly).length = D.last.length := by rw [crashed_length picks D.fly D.last 0 hlen hD.fly, hlen]
      simp only [J, List.take_length] at h5
      simpa [Ax.picks, DiskP, DM.crash, FlyA, flc, e] using h5

theorem read_no {v : Value} {D : DM} {n : Nat} {a : Int} (h : H l σ) (i : Nat) (hi : l[i]? = some (Disk v D)) (hD : D.Ok n) (hr : D.ready a ≠ 0) (hk : Q (.tuple #[.slice none 0 0, .int .i64 (D.ready a)]) σ) : E 20 [v, .int .i64 a] σ Q := by
  apply s20_ev; unfold s20
  refine ready_ok h i hi hD ?_
  simp [hr]
  exact hk
theorem read_yes {v : Value} {D : DM} {n : Nat} {a : Int} (h : H l σ) (i : Nat) (hi : l[i]? = some (Disk v D)) (hD : D.Ok n) (hm : D.fly.length < 1099511627776) (hr : D.ready a = 0)
    (hk : ∀ w σ', H (l ++ [Own 5 1 w 256 (bv (D.block a.toNat))]) σ' → Q (.tuple #[w, .int .i64 0]) σ') : E 20 [v, .int .i64 a] σ Q := by
  apply s20_ev; unfold s20
  refine ready_ok h i hi hD ?_
  simp [hr]
  have hlen := hD.len
  have hn := hD.lo
  have hn2 := hD.hi
  have ha : 0 ≤ a ∧ a < n := by
    unfold DM.ready at hr
    split at hr
    · simp at hr
    · split at hr
      · simp at hr
      · rename_i hx
        have : D.last.length / 256 = n := by omega
        omega
  have h0 := h
  obtain ⟨b, lv, fv, ss, rfl, hs, h⟩ := disk_out (h.out i hi)
  have r0 := load1 (n := 1) (o := 0) (h.row 0 rfl)
  have r1 := load1 (n := 1) (o := 1) (h.row 0 rfl)
  obtain ⟨_, _, x, c, rfl⟩ := h.own_src 2 rfl
  obtain ⟨lb, lc, rfl, hcap, rest, hrow⟩ := h.own_form 1 rfl (by omega)
  obtain ⟨A, rfl⟩ : ∃ A : Nat, a = A := ⟨a.toNat, by omega⟩
  simp at hk
  rw [wrap_i64 (by omega), wrap_i64 (by omega)]
  obtain ⟨dc, hsl, _⟩ := slice_mid (z := 1) (b := lb) (o := 0) (lo := (A : Int) * 256) (hi := (A : Int) * 256 + 256) (k := .i64) (k' := .i64) hcap (by omega)
  have e1 : ((A : Int) * 256 + 256).toNat - ((A : Int) * 256).toNat = 256 := by omega
  have e2 : ((A : Int) * 256).toNat = A * 256 := by omega
  rw [e1, e2] at hsl
  simp [r0, hsl]
  refine clone_ok (bs := (D.last.drop (A * 256)).take 256) h (n := 256) ?_ (by omega) ?_
  · rw [src_row hrow (by simp; omega), List.drop_append_of_le_length (by simp; omega), List.take_append_of_le_length (by simp; omega)]; simp
  intro w σ1 h1
  have r1 := load1 (n := 1) (o := 1) (h1.row 0 rfl)
  simp [r1]
  let J : Nat → List Assn := fun k => pt b (.cells [.slice (some ⟨lb, 0, none⟩) D.last.length lc, .slice x D.fly.length c, .int .i64 D.fuse, .bool D.off] 88 false) :: Own 5 1 (.slice (some ⟨lb, 0, none⟩) D.last.length lc) D.last.length (bv D.last) :: Own 110 2 (.slice x D.fly.length c) D.fly.length (flc D.fly ss) :: FlyA D.fly ss :: [Star (l.set i emp), Own 5 1 w 256 (bv (over (A * 256) ((D.last.drop (A * 256)).take 256) (D.fly.take k)))]
  obtain ⟨wb, wc, rfl, hwcap, _⟩ := h1.own_form 5 rfl (by omega)
  refine ⟨fun m x0 x1 x7 x8 x9 τ => ∃ k : Nat, m = D.fly.length - k ∧ k ≤ D.fly.length ∧ x0 = .int .i64 ((A : Int) * 256) ∧ x1 = .slice (some ⟨wb, 0, none⟩) 256 wc ∧ x7 = .slice x D.fly.length c ∧ x8 = .int .i64 D.fly.length ∧ x9 = .int .i64 k ∧ H (J k) τ, ⟨_, 0, rfl, by omega, rfl, rfl, rfl, rfl, rfl, ?_⟩, ?_⟩
  · exact h1
  · rintro m _ _ _ _ _ τ ⟨k, rfl, hkl, rfl, rfl, rfl, rfl, rfl, h⟩
    suffices hb : ∀ N : Value → Value → Value → Value → Value → AHeap → Prop, (∀ τ', k < D.fly.length → H (J (k + 1)) τ' →
        N (.int .i64 ((A : Int) * 256)) (.slice (some ⟨wb, 0, none⟩) 256 wc) (.slice x D.fly.length c) (.int .i64 D.fly.length) (.int .i64 (k + 1 : Nat)) τ') → s20b1 N Q (.int .i64 ((A : Int) * 256)) (.slice (some ⟨wb, 0, none⟩) 256 wc) (.slice x D.fly.length c) (.int .i64 D.fly.length) (.int .i64 k) τ from
      hb _ fun τ' hlt h' => ⟨_, by omega, k + 1, rfl, by omega, rfl, rfl, rfl, rfl, rfl, h'⟩
    intro N hN
    unfold s20b1
    simp
    have hov : (over (A * 256) ((D.last.drop (A * 256)).take 256) (D.fly.take k)).length = 256 := by
      refine over_length _ _ _ (by simp; omega) (fun f hf => (hD.fly f (List.mem_of_mem_take hf)).len) fun f hf g1 g2 => ?_
      have := (hD.fly f (List.mem_of_mem_take hf)).al
      omega
    refine wC_dec (fun h1 => ?_) fun h1 => ?_
    · obtain ⟨b2, e1, e2, e3⟩ := h.own_elem 2 rfl (k := k) h1
      have hf := List.getElem?_eq_getElem h1
      have hsk := List.getElem?_eq_getElem (show k < ss.length by omega)
      have hfo := hD.fly _ (List.getElem_mem h1)
      rw [flc_get _ _ k _ _ hf hsk] at e2
      have hfit := hfo.fit
      have hl64 := hfo.len
      have hal := hfo.al
      simp [e1, e2]
      refine new_ok h ?_
      intro tb σ1 h2
      obtain ⟨fb, fo, fcap, fc, hse, hfcap, hfr, hfd, hfl⟩ := fly_at h2 3 rfl hf hsk
      refine storeN h2 6 rfl (by simp) (by omega) (by simp [hse]) (by simp) ?_
      intro σ2 h3
      obtain ⟨fb, fo, fcap, fc, hse, hfcap, hfr, hfd, hfl⟩ := fly_at h3 3 rfl hf hsk
      have t0 := load1 (n := 1) (o := 0) (h3.row 6 rfl)
      have t1 := load1 (n := 1) (o := 1) (h3.row 6 rfl)
      have hfin : ∀ τ, H (J (k + 1)) τ → s20k12 N Q (.int .i64 k) (.int .i64 ((A : Int) * 256)) (.slice (some ⟨wb, 0, none⟩) 256 wc) (.slice x D.fly.length c) (.int .i64 D.fly.length) τ := by
        intro τ hτ
        unfold s20k12
        simp
        rw [wrap_i64 (by omega)]
        exact hN _ h1 hτ
      simp [t0, splice]
      refine wG_dec (fun g1 => ?_) fun g1 => ?_
      · try simp [t0, splice]
        rw [wrap_i64 (by omega)]
        unfold s20k11
        simp
        refine wC_dec (fun g2 => ?_) fun g2 => ?_
        · have g1' : A * 256 ≤ D.fly[k].1 := by omega
          obtain ⟨dc, hsl, _⟩ := slice_from (z := 1) (b := wb) (o := 0) (lo := ((D.fly[k].1 - A * 256 : Nat) : Int)) (k := .i64) hwcap (by omega)
          have hw : IntKind.i64.wrap ((D.fly[k].1 : Int) - (A : Int) * 256) = ((D.fly[k].1 - A * 256 : Nat) : Int) := by rw [wrap_i64 (by omega)]; omega
          simp only [Int.toNat_natCast] at hsl
          simp [t0, t1, splice, hw, hsl, hse]
          have hmin : Nat.min D.fly[k].2.length (256 - (D.fly[k].1 - A * 256)) = 64 := by rw [hl64]; exact Nat.min_eq_left (by omega)
          refine copy_own (ys := bv D.fly[k].2) h3 5 rfl (by omega) (by rw [hmin, rob_src (n := 64) hfr hfd hfl (by omega), List.take_of_length_le (by omega)]) (bv_one _) (by simp; omega) ?_
          intro σ3 h4
          refine hfin _ ?_
          simp only [J]
          rw [over_take _ _ _ _ _ hf, if_pos (by omega), ← splice_put]
          exact h4.pick [0, 1, 2, 3, 4, 5] (by decide)
        · refine hfin _ ?_
          simp only [J]
          rw [over_take _ _ _ _ _ hf, if_neg (by omega)]
          exact h3.pick [0, 1, 2, 3, 4, 5] (by decide)
      · try simp
        unfold s20k11
        simp
        refine hfin _ ?_
        simp only [J]
        rw [over_take _ _ _ _ _ hf, if_neg (by omega)]
        exact h3.pick [0, 1, 2, 3, 4, 5] (by decide)
    · have : k = D.fly.length := by omega
      subst this
      refine hk _ _ (in_self i hi (disk_in (.slice (some ⟨lb, 0, none⟩) D.last.length lc) (.slice x D.fly.length c) ss hs ?_))
      simp only [J, List.take_length] at h
      exact h

/-! ### Copy -/
theorem flc_one : ∀ {fs : List Flight} {ss : List Value} {l : List Assn} {σ : AHeap}, H (FlyA fs ss :: l) σ → (flc fs ss).all one = true
  | [], _, l, σ, _ => by simp [flc]
  | _ :: _, [], l, σ, _ => by simp [flc]
  | f :: fs, s :: ss, l, σ, h => by
    simp only [FlyA, H_sep] at h
    obtain ⟨_, _, _, _, e, _⟩ := h.second.rob0
    have := flc_one h.tail
    simp only [flc, List.all_cons, Bool.and_eq_true]
    exact ⟨rfl, by rw [e]; rfl, this⟩
theorem clone2_ok {v : Value} {n : Nat} {ys : List Value} (h : H l σ) (hs : srcOf 2 v σ = some (n, ys)) (hf : ∃ a c, v = .slice a n c) (hone : ys.all one = true) (hn : n ≤ 1099511627776)
    (hk : ∀ w σ', H (l ++ [Own 110 2 w n ys]) σ' → Q w σ') : E 73 [v] σ Q := by
  obtain ⟨a, c, rfl⟩ := hf
  apply s73_ev; unfold s73
  cases a with
  | none =>
    simp
    have : n = 0 ∧ ys = [] := by
      simp only [srcOf] at hs
      split at hs
      · rename_i e; subst e
        simp only [Option.some.injEq, Prod.mk.injEq] at hs
        exact ⟨rfl, hs.2.symm⟩
      · cases hs
    obtain ⟨rfl, rfl⟩ := this
    exact hk _ _ (h.own_nil 110 2)
  | some a =>
    simp
    refine append_own (n := 0) (xs := []) (h.own_zb 110 2) l.length (by simp) hs (by omega) (by omega) hone ?_
    intro v' σ' h'
    simp at h'
    exact hk _ _ h'
theorem own_one {i : Nat} {e z n : Nat} {v : Value} {xs : List Value} (h : H l σ) (hi : l[i]? = some (Own e z v n xs)) : one v = true := by
  obtain ⟨_, _, a, c, rfl⟩ := h.own_src i hi; rfl
theorem diskcopy_ok {v : Value} {D : DM} {n : Nat} (h : H l σ) (i : Nat) (hi : l[i]? = some (Disk v D)) (hD : D.Ok n) (hm : D.fly.length < 1099511627776) (hk : ∀ w σ', H (l ++ [Disk w D]) σ' → Q w σ') : E 34 [v] σ Q := by
  obtain ⟨b, lv, fv, ss, rfl, hs, h⟩ := disk_out (h.out i hi)
  have hlen := hD.len
  have hn := hD.lo
  have hn2 := hD.hi
  apply s34_ev; unfold s34
  have hlo := own_one h (i := 1) rfl
  have hfo := own_one h (i := 2) rfl
  have rA := loadN (n := 4) (o := 0) (h.row 0 rfl) (by simp)
  simp [rA]
  refine new_ok h ?_
  intro nb σ1 h1
  refine storeN h1 5 rfl (by simp) (by omega) (by simp [hlo, hfo]) (by simp) ?_
  intro σ2 h2
  have r0 := load1 (n := 1) (o := 0) (h2.row 0 rfl)
  have r1 := load1 (n := 1) (o := 1) (h2.row 0 rfl)
  simp [r0, r1]
  obtain ⟨hs1, _, la, lc, rfl⟩ := h2.own_src 1 rfl
  refine clone_ok h2 hs1 (by omega) ?_
  intro w1 σ3 h3
  have r1 := load1 (n := 1) (o := 1) (h3.row 0 rfl)
  obtain ⟨hs2, _, fa, fc, rfl⟩ := h3.own_src 2 rfl
  simp [r1, veq1, veq, veq0]
  have hw1 := own_one h3 (i := 6) rfl
  refine clone2_ok h3 hs2 ⟨_, _, rfl⟩ (flc_one (h3.front 3 rfl)) (by omega) ?_
  intro w2 σ4 h4
  have hw2 := own_one h4 (i := 7) rfl
  try simp
  refine store1 (o := 0) h4 5 rfl hw1 (by simp [splice]) ?_
  intro σ5 h5
  try simp
  refine store1 (o := 1) h5 5 rfl hw2 (by simp [splice]) ?_
  intro σ6 h6
  refine hk _ _ (in_self i hi (disk_in (.slice la D.last.length lc) (.slice fa D.fly.length fc) ss hs ?_))
  have h7 := (h6.dup 3 rfl (FlyA.dup _ _)).pick [5, 6, 7, 8, 0, 1, 2, 3, 4] (by decide)
  have h8 := disk_in (b := nb) (D := D) w1 w2 ss hs h7
  exact h8.pick [1, 2, 3, 4, 5, 0] (by decide)
theorem diskcopy_nil (hk : Q (.pointer none) σ) : E 34 [.pointer none] σ Q := by
  apply s34_ev; unfold s34; simpa using hk

/-! ### Write -/
theorem parts_get (a : Nat) (bs : List UInt8) (k : Nat) (h : k < 4) : (parts a bs)[k]? = some (a * 256 + 64 * k, (bs.drop (64 * k)).take 64) := by
  have : k = 0 ∨ k = 1 ∨ k = 2 ∨ k = 3 := by omega
  rcases this with rfl | rfl | rfl | rfl <;> rfl
theorem parts_take (a : Nat) (bs : List UInt8) (k : Nat) (h : k < 4) : (parts a bs).take (k + 1) = (parts a bs).take k ++ [(a * 256 + 64 * k, (bs.drop (64 * k)).take 64)] := by
  rw [List.take_add_one, parts_get a bs k h]; rfl

theorem fling_ok {v bv' : Value} {D : DM} {n a : Nat} {bs : List UInt8} {x0 x1 x2 : Nat} (h : H l σ) (i : Nat) (hi : l[i]? = some (Disk v D)) (hD : D.Ok n) (hm : D.fly.length < 1099511627776)
    (i0 : Nat) (h0 : l[i0]? = some (pt x0 (.cells [bv'] 23 false))) (i1 : Nat) (h1 : l[i1]? = some (pt x1 (.cells [v] 24 false))) (i2 : Nat) (h2 : l[i2]? = some (pt x2 (.cells [.int .i64 (a : Nat)] 3 false)))
    (n0 : i0 ≠ i) (n1 : i1 ≠ i) (n2 : i2 ≠ i) (hb : Rd σ bv' bs) (hbs : bs.length = 256) (ha : a < n)
    (hk : ∀ σ', H (l.set i (Disk v (D.fling a bs))) σ' → Q (.tuple #[]) σ') : E 66 [.pointer (some ⟨x0, 0, none⟩), .pointer (some ⟨x1, 0, none⟩), .pointer (some ⟨x2, 0, none⟩)] σ Q := by
  have hlen := hD.len
  have hn := hD.lo
  have hn2 := hD.hi
  have r0 := load1 (n := 1) (o := 0) (h.row i0 h0)
  apply s66_ev; unfold s66
  obtain ⟨hsrc, ⟨ba, bc, rfl⟩, _⟩ := hb
  simp [r0]
  obtain ⟨b, lv, fv, ss, rfl, hs, h⟩ := disk_out (h.out i hi)
  refine clone_ok h hsrc (by omega) ?_
  intro w σ1 h3
  obtain ⟨wb, wc, rfl, hwc, _⟩ := h3.own_form 5 rfl (by omega)
  -- the clone is never written again
  obtain ⟨rest, e5, opn5, h4⟩ : ∃ rest e opn, H [pt b (.cells [lv, fv, .int .i64 D.fuse, .bool D.off] 88 false), Own 5 1 lv D.last.length (bv D.last), Own 110 2 fv D.fly.length (flc D.fly ss), FlyA D.fly ss, Star (l.set i emp), ro wb (.cells (bv bs ++ rest) e opn)] σ1 := by
    rcases H_own.1 (h3.front 5 rfl) with ⟨⟨e, _⟩, _⟩ | ⟨b', c', opn, rest, h5, _, _, hv, _, _⟩
    · omega
    · cases hv
      exact ⟨rest, 5, opn, (h5.freeze 0 rfl).pick [1, 2, 3, 4, 5, 0] (by decide)⟩
  let J : Nat → Value → List Value → List Assn := fun k fv ss => [pt b (.cells [lv, fv, .int .i64 D.fuse, .bool D.off] 88 false), Own 5 1 lv D.last.length (bv D.last), Own 110 2 fv (D.fly.length + k) (flc (D.fly ++ (parts a bs).take k) ss), FlyA (D.fly ++ (parts a bs).take k) ss, Star (l.set i emp), ro wb (.cells (bv bs ++ rest) e5 opn5)]
  refine ⟨fun m y1 y2 y3 y4 τ => ∃ k : Nat, m = 4 - k ∧ k ≤ 4 ∧ y1 = .pointer (some ⟨x1, 0, none⟩) ∧ y2 = .pointer (some ⟨x2, 0, none⟩) ∧ y3 = .slice (some ⟨wb, 0, none⟩) bs.length wc ∧ y4 = .int .i64 (64 * k : Nat) ∧ ∃ fv ss, ss.length = D.fly.length + k ∧ H (J k fv ss) τ, ⟨_, 0, rfl, by omega, rfl, rfl, rfl, rfl, fv, ss, hs, ?_⟩, ?_⟩
  · simpa [J] using h4
  · rintro m _ _ _ _ τ ⟨k, rfl, hkl, rfl, rfl, rfl, rfl, fv, ss, hs, h⟩
    suffices hb : ∀ N : Value → Value → Value → Value → AHeap → Prop, (∀ τ' fv' ss', k < 4 → ss'.length = D.fly.length + (k + 1) → H (J (k + 1) fv' ss') τ' →
        N (.pointer (some ⟨x1, 0, none⟩)) (.pointer (some ⟨x2, 0, none⟩)) (.slice (some ⟨wb, 0, none⟩) bs.length wc) (.int .i64 (64 * (k + 1) : Nat)) τ') → s66b1 N Q (.pointer (some ⟨x1, 0, none⟩)) (.pointer (some ⟨x2, 0, none⟩)) (.slice (some ⟨wb, 0, none⟩) bs.length wc) (.int .i64 (64 * k : Nat)) τ from
      hb _ fun τ' fv' ss' hlt hs' h' => ⟨_, by omega, k + 1, rfl, by omega, rfl, rfl, rfl, rfl, fv', ss', hs', h'⟩
    intro N hN
    have hl : ∀ {τ : AHeap} {m : List Assn}, H (m ++ [Star (l.set i emp)]) τ → True := fun _ => trivial
    have hx : ∀ {τ : AHeap}, H (l.set i emp) τ → aLoad false 1 (.pointer (some ⟨x1, 0, none⟩)) τ = some (.pointer (some ⟨b, 0, none⟩)) ∧ aLoad false 1 (.pointer (some ⟨x2, 0, none⟩)) τ = some (.int .i64 (a : Nat)) := by
      intro τ hτ
      have g1 : (l.set i emp)[i1]? = some (pt x1 (.cells [.pointer (some ⟨b, 0, none⟩)] 24 false)) := by rw [List.getElem?_set_ne (Ne.symm n1)]; exact h1
      have g2 : (l.set i emp)[i2]? = some (pt x2 (.cells [.int .i64 (a : Nat)] 3 false)) := by rw [List.getElem?_set_ne (Ne.symm n2)]; exact h2
      have l1 := load1 (n := 1) (o := 0) (hτ.row i1 g1)
      have l2 := load1 (n := 1) (o := 0) (hτ.row i2 g2)
      exact ⟨by rw [l1]; rfl, by rw [l2]; rfl⟩
    unfold s66b1
    simp
    refine wC_dec (fun hlt => ?_) fun hlt => ?_
    · have hk4 : k < 4 := by omega
      obtain ⟨l1, l2⟩ := hx (h.beside 4 rfl)
      have b1 := load1 (n := 1) (o := 1) (h.row 0 rfl)
      obtain ⟨_, _, fa, fc, rfl⟩ := h.own_src 2 rfl
      have w1 : IntKind.i64.wrap ((a : Int) * 256) = (a : Int) * 256 := wrap_i64 (by omega)
      have w2 : IntKind.i64.wrap ((a : Int) * 256 + 64 * (k : Int)) = ((a * 256 + 64 * k : Nat) : Int) := by rw [wrap_i64 (by omega)]; omega
      have w3 : IntKind.i64.wrap (64 * (k : Int) + 64) = ((64 * (k + 1) : Nat) : Int) := by rw [wrap_i64 (by omega)]; omega
      have sl := slice_3 (z := 1) (b := wb) (o := 0) (n := bs.length) (c := wc) (lo := 64 * (k : Int)) (hi := ((64 * (k + 1) : Nat) : Int)) (mx := ((64 * (k + 1) : Nat) : Int)) (k := .i64) (k' := .i64) (k'' := .i64) hwc (by omega)
      have z1 : (64 * (k : Int)).toNat = 64 * k := by omega
      have z2 : ((64 * (k + 1) : Nat) : Int).toNat - 64 * k = 64 := by omega
      rw [z1, z2, Nat.zero_add, Nat.mul_one] at sl
      simp only [l1, l2, b1, w1, w2, w3, pu_some, nil_ptr, fieldAddr_ptr, bin_add, bin_mul, sl, Nat.zero_add, List.getElem?_cons_succ, List.getElem?_cons_zero]
      generalize hat : a * 256 + 64 * k = at'
      simp [splice]
      refine buildS_ok h (by rfl) (cs := [.int .i64 (at' : Nat), .slice (some ⟨wb, 64 * k, none⟩) 64 64]) (by simp [reps, splice]) ?_
      intro nb σ2 h5
      obtain ⟨l1, l2⟩ := hx (h5.beside 4 rfl)
      have b1 := load1 (n := 1) (o := 1) (h5.row 0 rfl)
      simp [l1, b1, veq1, veq, veq0]
      refine append_own h5 2 rfl (src_row (n := 1) (z := 2) (h5.row 6 rfl) (by simp)) (by omega) (by omega) (by simp) ?_
      intro fv' σ3 h6
      obtain ⟨l1, l2⟩ := hx (h6.beside 4 rfl)
      have hfv := own_one h6 (i := 2) rfl
      simp [l1]
      refine store1 (o := 1) h6 0 rfl hfv (by simp) ?_
      intro σ4 h7
      have hrob := (h7.dup 5 rfl (Dup.ro _ _)).unsnoc
      have h8 := rob_in (o := 64 * k) (cap := 64) (x := (bs.drop (64 * k)).take 64) (by simp [hbs]; rw [show min 64 (256 - 64 * k) = 64 by omega]; exact CapOk.exact (by unfold OPEN; omega)) (by
        simp only [List.length_take, List.length_drop, hbs]
        rw [show min 64 (256 - 64 * k) = 64 by omega, List.drop_append_of_le_length (by simp; omega), List.take_append_of_le_length (by simp; omega)]; simp) (by simp [hbs]; omega) hrob
      have h9 := h8.pick [1, 2, 3, 4, 0, 5, 6] (by decide)
      refine hN σ4 fv' (ss ++ [.slice (some ⟨wb, 64 * k, none⟩) 64 64]) hk4 (by simp [hs]; omega) ?_
      have hlk : ((parts a bs).take k).length = k := by simp [parts]; omega
      have e64 : ((bs.drop (64 * k)).take 64).length = 64 := by simp [hbs]; omega
      rw [e64] at h9
      simp only [J]
      rw [parts_take a bs k hk4, ← List.append_assoc, flc_append _ _ _ _ (by simp [hlk, hs]), FlyA_append _ _ _ _ (by simp [hlk, hs]), hat]
      have eF : ∀ (p : Nat) (y : List UInt8) (s : Value), FlyA [(p, y)] [s] = RoB s y := fun p y s => by
        simp only [FlyA]; rw [sep_comm, emp_sep]
      rw [eF]
      have h10 := (H_sep.2 (h9.pick [3, 4, 0, 1, 2, 5, 6] (by decide))).pick [1, 2, 3, 0, 4, 5] (by decide)
      exact h10
    · obtain rfl : k = 4 := by omega
      refine hk _ (H.in' i hi (disk_in lv fv ss ?_ ?_))
      · simpa [DM.fling, parts] using hs
      · have := h.pick [0, 1, 2, 3, 4] (by decide)
        simpa [Ax.picks, J, DiskP, DM.fling, parts] using this

theorem write_ok {v bv' : Value} {D : DM} {n : Nat} {a : Int} {bs : List UInt8} (h : H l σ) (i : Nat) (hi : l[i]? = some (Disk v D)) (hD : D.Ok n) (hf : D.fuse < 9223372036854775808) (hm : D.fly.length < 1099511627776) (hl : bs.length ≤ 140737488355328)
    (hb : ∀ τ, H (l.set i emp) τ → Rd τ bv' bs) (hk : ∀ σ', H (l.set i (Disk v (D.write a bs).1)) σ' → Q (.int .i64 (D.write a bs).2) σ') : E 15 [v, .int .i64 a, bv'] σ Q := by
  have hlt := (List.getElem?_eq_some_iff.1 hi).1
  obtain ⟨ba, bc, rfl⟩ := (hb σ (by
    have := (h.front i hi).tail
    exact this)).form
  obtain ⟨pb, hv⟩ : ∃ pb, v = .pointer (some ⟨pb, 0, none⟩) := by
    obtain ⟨b, _, _, _, e, _⟩ := disk_out (h.out i hi); exact ⟨b, e⟩
  subst hv
  have h' := h.out i hi
  apply s15_ev; unfold s15
  simp
  refine new_ok h' ?_
  intro x1 σ1 h1
  refine new_ok h1 ?_
  intro x2 σ2 h2
  refine new_ok h2 ?_
  intro x0 σ3 h3
  have q1 := load1 (n := 1) (o := 0) (h3.row 2 rfl)
  have q2 := load1 (n := 1) (o := 0) (h3.row 3 rfl)
  have q0 := load1 (n := 1) (o := 0) (h3.row 4 rfl)
  simp [q1, q2]
  have back : ∀ {τ D'}, H [Disk (.pointer (some ⟨pb, 0, none⟩)) D', Star (l.set i emp), pt x1 (.cells [.pointer (some ⟨pb, 0, none⟩)] 24 false), pt x2 (.cells [.int .i64 a] 3 false), pt x0 (.cells [.slice ba bs.length bc] 23 false)] τ → H (l.set i (Disk (.pointer (some ⟨pb, 0, none⟩)) D')) τ :=
    fun h => H.in' i hi (h.pick [0, 1] (by decide))
  refine ready_ok h3 0 rfl hD ?_
  simp
  by_cases hr : D.ready a = 0
  · simp [hr, q0]
    by_cases hbl : bs.length = 256
    · have hz : (256 : Int) = (bs.length : Int) := by omega
      simp [hbl, q1]
      refine burn_ok h3 0 rfl hf (fun hb1 σ4 h4 => ?_) fun hb1 σ4 h4 => ?_
      · have hD2 : D.burn.1.Ok n := by
          unfold DM.burn; split
          · exact hD
          · split <;> exact ⟨hD.lo, hD.hi, hD.len, hD.fly⟩
        have hfl : D.burn.1.fly = D.fly := by unfold DM.burn; split; rfl; split <;> rfl
        have ha : 0 ≤ a ∧ a < n := by
          have hlen := hD.len
          unfold DM.ready at hr
          split at hr
          · simp at hr
          · split at hr
            · simp at hr
            · rename_i hx
              have : D.last.length / 256 = n := by omega
              omega
        obtain ⟨A, rfl⟩ : ∃ A : Nat, a = A := ⟨a.toNat, by omega⟩
        refine fling_ok (bs := bs) h4 0 rfl hD2 (by rw [hfl]; exact hm) 4 rfl 2 rfl 3 rfl (by decide) (by decide) (by decide) (hb _ (h4.beside 1 rfl)) hbl (by omega) ?_
        intro σ5 h5
        have e : D.write A bs = (D.burn.1.fling A bs, 0) := by simp [DM.write, hr, hbl, hb1]
        rw [e] at hk
        exact hk _ (back h5)
      · have e : D.write a bs = (D.burn.1, 9) := by simp [DM.write, hr, hbl, hb1]
        rw [e] at hk
        exact hk _ (back h4)
    · have : ¬ (bs.length : Int) = 256 := by omega
      simp [this]
      have e : D.write a bs = (D, 1) := by simp [DM.write, hr, hbl]
      rw [e] at hk
      exact hk _ (back h3)
  · simp [hr]
    have e : D.write a bs = (D, D.ready a) := by simp [DM.write, hr]
    rw [e] at hk
    exact hk _ (back h3)
end Go.Ax.YtfeamgocomlepaaC
