/- Texts of one proof, joined. No statement of the seat is proved here. -/
import Derived.Test.YtfeamgocomlepaaW4
import Derived.Shelf.Sort.Plain
import Derived.Shelf.Slices.In.SortNone
set_option linter.unusedVariables false
set_option linter.unusedSimpArgs false
set_option linter.unnecessarySimpa false
set_option linter.constructorNameAsVariable false
set_option maxRecDepth 100000
namespace Go.Ax.O
open Go.Proofs

variable {l : List Assn} {σ : AHeap} {Q : WK}

theorem barrier_ok {v : Value} {D : DM} {n : Nat} (h : H l σ) (i : Nat) (hi : l[i]? = some (Disk v D)) (hD : D.Ok n) (hf : D.fuse < 9223372036854775808) (hm : D.fly.length < 1099511627776)
    (hk : ∀ σ', H (l.set i (Disk v D.barrier.1)) σ' → Q (.int .i64 D.barrier.2) σ') : E f_disk_Disk_Barrier [v] σ Q := by
  apply o_disk_Disk_Barrier_ev; unfold o_disk_Disk_Barrier
  refine ready_ok h i hi hD ?_
  simp
  have hself : l.set i (Disk v D) = l := by
    apply List.ext_getElem?
    intro j
    rw [List.getElem?_set]
    split
    · rename_i e; subst e; split
      · exact hi.symm
      · rename_i hh; exact absurd (List.getElem?_eq_some_iff.1 hi).1 hh
    · rfl
  by_cases hr : D.ready 0 = 0
  · simp only [hr, decide_true, Bool.not_true, wC_false]
    have hlt := (List.getElem?_eq_some_iff.1 hi).1
    refine burn_ok h i hi hf (fun hb σ1 h1 => ?_) fun hb σ1 h1 => ?_
    · have hi2 : (l.set i (Disk v D.burn.1))[i]? = some (Disk v D.burn.1) := by simp [hlt]
      have hD2 : D.burn.1.Ok n := by
        unfold DM.burn; split
        · exact hD
        · split <;> exact ⟨hD.lo, hD.hi, hD.len, hD.fly⟩
      have hfl : D.burn.1.fly = D.fly := by unfold DM.burn; split; rfl; split <;> rfl
      refine land_ok h1 i hi2 hD2 (by rw [hfl]; exact hm) ?_
      intro σ2 h2
      rw [List.set_set] at h2
      have e : D.barrier = (D.burn.1.land, 0) := by simp [DM.barrier, hr, hb]
      rw [e] at hk
      exact hk _ h2
    · have e : D.barrier = (D.burn.1, 9) := by simp [DM.barrier, hr, hb]
      rw [e] at hk
      exact hk _ h1
  · simp only [hr, decide_false, Bool.not_false, wC_true]
    have e : D.barrier = (D, D.ready 0) := by simp [DM.barrier, hr]
    rw [e] at hk
    exact hk _ (by rw [hself]; exact h)

theorem crash_ok {v pv : Value} {D : DM} {n : Nat} {picks : List UInt8} (h : H l σ) (i : Nat) (hi : l[i]? = some (Disk v D)) (hD : D.Ok n) (hm : D.fly.length < 1099511627776)
    (hp : ∀ τ, H (l.set i emp) τ → Rd τ pv picks) (hk : ∀ σ', H (l.set i (Disk v (D.crash picks))) σ' → Q (.tuple #[]) σ') : E f_disk_Disk_Crash [v, pv] σ Q := by
  obtain ⟨b, lv, fv, ss, rfl, hs, h⟩ := disk_out (h.out i hi)
  have hlen := hD.len
  have hn := hD.lo
  have hn2 := hD.hi
  apply o_disk_Disk_Crash_ev; unfold o_disk_Disk_Crash
  have r1 := load1 (n := 1) (o := 1) (h.row 0 rfl)
  obtain ⟨_, _, x, c, rfl⟩ := h.own_src 2 rfl
  obtain ⟨lb, lc, rfl, hcap, _⟩ := h.own_form 1 rfl (by omega)
  obtain ⟨pa, pc, rfl⟩ := (hp _ (h.beside 4 rfl)).form
  simp [r1]
  let J : Nat → List Assn := fun k => pt b (.cells [.slice (some ⟨lb, 0, none⟩) D.last.length lc, .slice x D.fly.length c, .int .i64 D.fuse, .bool D.off] t_disk_Disk false) :: Own t_uint8 1 (.slice (some ⟨lb, 0, none⟩) D.last.length lc) D.last.length (bv (crashed picks D.last 0 (D.fly.take k))) :: Own t_disk_flight 2 (.slice x D.fly.length c) D.fly.length (flc D.fly ss) :: FlyA D.fly ss :: [Star (l.set i emp)]
  refine ⟨fun m x0 x1 x7 x8 x9 τ => ∃ k : Nat, m = D.fly.length - k ∧ k ≤ D.fly.length ∧ x0 = .pointer (some ⟨b, 0, none⟩) ∧ x1 = .slice pa picks.length pc ∧ x7 = .slice x D.fly.length c ∧ x8 = .int .i64 D.fly.length ∧ x9 = .int .i64 k ∧ H (J k) τ, ⟨_, 0, rfl, by omega, rfl, rfl, rfl, rfl, rfl, ?_⟩, ?_⟩
  · exact h
  · rintro m _ _ _ _ _ τ ⟨k, rfl, hkl, rfl, rfl, rfl, rfl, rfl, h⟩
    suffices hb : ∀ N : Value → Value → Value → Value → Value → AHeap → Prop, (∀ τ', k < D.fly.length → H (J (k + 1)) τ' →
        N (.pointer (some ⟨b, 0, none⟩)) (.slice pa picks.length pc) (.slice x D.fly.length c) (.int .i64 D.fly.length) (.int .i64 (k + 1 : Nat)) τ') → o_disk_Disk_Crash_b1 N Q (.pointer (some ⟨b, 0, none⟩)) (.slice pa picks.length pc) (.slice x D.fly.length c) (.int .i64 D.fly.length) (.int .i64 k) τ from
      hb _ fun τ' hlt h' => ⟨_, by omega, k + 1, rfl, by omega, rfl, rfl, rfl, rfl, rfl, h'⟩
    intro N hN
    unfold o_disk_Disk_Crash_b1
    simp
    have hok : ∀ f ∈ D.fly.take k, FlyOk n f := fun f hf => hD.fly f (List.mem_of_mem_take hf)
    have hll := crashed_length picks (D.fly.take k) D.last 0 hlen hok
    refine wC_dec (fun h1 => ?_) fun h1 => ?_
    · obtain ⟨b2, e1, e2, e3⟩ := h.own_elem 2 rfl (k := k) h1
      have hf := List.getElem?_eq_getElem h1
      have hsk := List.getElem?_eq_getElem (show k < ss.length by omega)
      have hfo := hD.fly _ (List.getElem_mem h1)
      rw [flc_get _ _ k _ _ hf hsk] at e2
      have hfit := hfo.fit
      have hl64 := hfo.len
      simp [e1, e2]
      refine new_ok h ?_
      intro tb σ1 h2
      obtain ⟨fb, fo, fcap, fc, hse, hfcap, hfr, hfd, hfl⟩ := fly_at h2 3 rfl hf hsk
      refine storeN h2 5 rfl (by simp) (by omega) (by simp [hse]) (by simp) ?_
      intro σ2 h3
      obtain ⟨fb, fo, fcap, fc, hse, hfcap, hfr, hfd, hfl⟩ := fly_at h3 3 rfl hf hsk
      have r0 := load1 (n := 1) (o := 0) (h3.row 0 rfl)
      have t0 := load1 (n := 1) (o := 0) (h3.row 5 rfl)
      have t1 := load1 (n := 1) (o := 1) (h3.row 5 rfl)
      obtain ⟨dc, hsl, _⟩ := slice_from (z := 1) (b := lb) (o := 0) (lo := (D.fly[k].1 : Int)) (k := .i64) hcap (by omega)
      -- what is laid, by the number
      have key : ∀ p : Nat, p < 256 → (p = 0 → cutOf picks k = 0) → (p = 1 → cutOf picks k = 64) → (1 < p → cutOf picks k = (p - 2) % 65) →
          o_disk_Disk_Crash_k9 N Q (.int .i64 p) (.pointer (some ⟨b, 0, none⟩)) (.pointer (some ⟨tb, 0, none⟩)) (.int .i64 k) (.slice pa picks.length pc) (.slice x D.fly.length c) (.int .i64 D.fly.length) σ2 := by
        intro p hp256 hp0 hp1 hp2
        have hfin : ∀ τ, H (J (k + 1)) τ → o_disk_Disk_Crash_k11 N Q (.int .i64 k) (.pointer (some ⟨b, 0, none⟩)) (.slice pa picks.length pc) (.slice x D.fly.length c) (.int .i64 D.fly.length) τ := by
          intro τ hτ
          unfold o_disk_Disk_Crash_k11
          simp
          rw [wrap_i64 (by omega)]
          exact hN _ h1 hτ
        unfold o_disk_Disk_Crash_k9
        simp
        refine wC_dec (fun g1 => ?_) fun g1 => ?_
        · have g1 : p = 1 := by omega
          simp [r0, t0, t1, splice, hsl, hse]
          have hmin : D.fly[k].snd.length.min (D.last.length - D.fly[k].fst) = 64 := by rw [hl64]; exact Nat.min_eq_left (by omega)
          refine copy_own (ys := bv D.fly[k].2) h3 1 rfl (by omega) (by rw [hmin, rob_src (n := 64) hfr hfd hfl (by omega), List.take_of_length_le (by omega)]) (bv_one _) (by simp; omega) ?_
          intro σ3 h4
          refine hfin _ ?_
          simp only [J]
          rw [crashed_take _ _ _ _ _ hf, hp1 g1, List.take_of_length_le (l := D.fly[k].2) (by omega), ← splice_put]
          exact h4.pick [0, 1, 2, 3, 4] (by decide)
        · refine wC_dec (fun g2 => ?_) fun g2 => ?_
          · have g2 : 1 < p := by omega
            have hw : IntKind.i64.wrap ((p : Int) - 2) = ((p - 2 : Nat) : Int) := by rw [wrap_i64 (by omega)]; omega
            have ht : ((p - 2 : Nat) : Int).tmod 65 = (((p - 2) % 65 : Nat) : Int) := rfl
            obtain ⟨ec, hse2, _⟩ := slice_to (z := 1) (b := fb) (o := fo) (n := D.fly[k].2.length) (c := fcap) (hi := (((p - 2) % 65 : Nat) : Int)) (k := .i64) hfcap (by omega) (by omega)
            simp only [Int.toNat_natCast] at hse2
            simp [r0, t0, t1, splice, hsl, hse, hw, -Int.natCast_emod]
            simp only [ht, hse2, pu_some]
            have hlt65 : (p - 2) % 65 ≤ 64 := by omega
            generalize (p - 2) % 65 = q at hlt65 hp2 hse2
            have hmin : Nat.min q (D.last.length - D.fly[k].fst) = q := Nat.min_eq_left (by omega)
            refine copy_own (ys := bv (D.fly[k].2.take q)) h3 1 rfl (by omega) (by rw [hmin, rob_src (n := q) hfr hfd hfl (by omega)]) (bv_one _) (by simp; omega) ?_
            intro σ3 h4
            refine hfin _ ?_
            simp only [J]
            rw [crashed_take _ _ _ _ _ hf, hp2 g2, ← splice_put]
            exact h4.pick [0, 1, 2, 3, 4] (by decide)
          · have g3 : p = 0 := by omega
            refine hfin _ ?_
            simp only [J]
            rw [crashed_take _ _ _ _ _ hf, hp0 g3, List.take_zero, put_nil]
            exact h3.pick [0, 1, 2, 3, 4] (by decide)
      refine wC_dec (fun g1 => ?_) fun g1 => ?_
      · have hrd := hp _ (h3.beside 4 rfl)
        have hpk := List.getElem?_eq_getElem g1
        obtain ⟨pp, p1, p2⟩ := hrd.elem k _ hpk
        have hb8 := by8_lt picks[k]
        simp [p1, p2, by8]
        rw [wrap_i64 (by omega)]
        refine key picks[k].toNat (by omega) ?_ ?_ ?_
        · intro h0; simp [cutOf, hpk, h0]
        · intro h0; simp [cutOf, hpk, h0]
        · intro h0; simp only [cutOf, hpk]; rw [if_neg (by omega), if_neg (by omega)]
      · have hpk : picks[k]? = none := List.getElem?_eq_none (by omega)
        exact key 0 (by omega) (fun _ => by simp [cutOf, hpk]) (by omega) (by omega)
    · have : k = D.fly.length := by omega
      subst this
      refine store1 (o := 1) (v := .slice none 0 0) h 0 rfl rfl (by simp) ?_
      intro σ1 h2
      try simp
      refine store1 (o := 2) (v := .int .i64 0) h2 0 rfl rfl (by simp) ?_
      intro σ2 h3
      try simp
      refine store1 (o := 3) (v := .bool false) h3 0 rfl rfl (by simp) ?_
      intro σ3 h4
      refine hk _ (H.in' i hi (disk_in (.slice (some ⟨lb, 0, none⟩) D.last.length lc) (.slice none 0 0) [] rfl ?_))
      have h5 := (h4.own_nil t_disk_flight 2).emp_end.pick [0, 1, 5, 6, 4] (by decide)
      have e : (crashed picks D.last 0 D.fly).length = D.last.length := by rw [crashed_length picks D.fly D.last 0 hlen hD.fly, hlen]
      simp only [J, List.take_length] at h5
      simpa [Ax.picks, DiskP, DM.crash, FlyA, flc, e] using h5

theorem read_no {v : Value} {D : DM} {n : Nat} {a : Int} (h : H l σ) (i : Nat) (hi : l[i]? = some (Disk v D)) (hD : D.Ok n) (hr : D.ready a ≠ 0) (hk : Q (.tuple #[.slice none 0 0, .int .i64 (D.ready a)]) σ) : E f_disk_Disk_Read [v, .int .i64 a] σ Q := by
  apply o_disk_Disk_Read_ev; unfold o_disk_Disk_Read
  refine ready_ok h i hi hD ?_
  simp [hr]
  exact hk
theorem read_yes {v : Value} {D : DM} {n : Nat} {a : Int} (h : H l σ) (i : Nat) (hi : l[i]? = some (Disk v D)) (hD : D.Ok n) (hm : D.fly.length < 1099511627776) (hr : D.ready a = 0)
    (hk : ∀ w σ', H (l ++ [Own t_uint8 1 w 256 (bv (D.block a.toNat))]) σ' → Q (.tuple #[w, .int .i64 0]) σ') : E f_disk_Disk_Read [v, .int .i64 a] σ Q := by
  apply o_disk_Disk_Read_ev; unfold o_disk_Disk_Read
  refine ready_ok h i hi hD ?_
  simp [hr]
  have hlen := hD.len
  have hn := hD.lo
  have hn2 := hD.hi
  have ha : 0 ≤ a ∧ a < n := by
    unfold DM.ready at hr
    split at hr
    · simp at hr
    · split at hr
      · simp at hr
      · rename_i hx
        have : D.last.length / 256 = n := by omega
        omega
  have h0 := h
  obtain ⟨b, lv, fv, ss, rfl, hs, h⟩ := disk_out (h.out i hi)
  have r0 := load1 (n := 1) (o := 0) (h.row 0 rfl)
  have r1 := load1 (n := 1) (o := 1) (h.row 0 rfl)
  obtain ⟨_, _, x, c, rfl⟩ := h.own_src 2 rfl
  obtain ⟨lb, lc, rfl, hcap, rest, hrow⟩ := h.own_form 1 rfl (by omega)
  obtain ⟨A, rfl⟩ : ∃ A : Nat, a = A := ⟨a.toNat, by omega⟩
  simp at hk
  rw [wrap_i64 (by omega), wrap_i64 (by omega)]
  obtain ⟨dc, hsl, _⟩ := slice_mid (z := 1) (b := lb) (o := 0) (lo := (A : Int) * 256) (hi := (A : Int) * 256 + 256) (k := .i64) (k' := .i64) hcap (by omega)
  have e1 : ((A : Int) * 256 + 256).toNat - ((A : Int) * 256).toNat = 256 := by omega
  have e2 : ((A : Int) * 256).toNat = A * 256 := by omega
  rw [e1, e2] at hsl
  simp [r0, hsl]
  refine clone_ok (bs := (D.last.drop (A * 256)).take 256) h (n := 256) ?_ (by omega) ?_
  · rw [src_row hrow (by simp; omega), List.drop_append_of_le_length (by simp; omega), List.take_append_of_le_length (by simp; omega)]; simp
  intro w σ1 h1
  have r1 := load1 (n := 1) (o := 1) (h1.row 0 rfl)
  simp [r1]
  let J : Nat → List Assn := fun k => pt b (.cells [.slice (some ⟨lb, 0, none⟩) D.last.length lc, .slice x D.fly.length c, .int .i64 D.fuse, .bool D.off] t_disk_Disk false) :: Own t_uint8 1 (.slice (some ⟨lb, 0, none⟩) D.last.length lc) D.last.length (bv D.last) :: Own t_disk_flight 2 (.slice x D.fly.length c) D.fly.length (flc D.fly ss) :: FlyA D.fly ss :: [Star (l.set i emp), Own t_uint8 1 w 256 (bv (over (A * 256) ((D.last.drop (A * 256)).take 256) (D.fly.take k)))]
  obtain ⟨wb, wc, rfl, hwcap, _⟩ := h1.own_form 5 rfl (by omega)
  refine ⟨fun m x0 x1 x7 x8 x9 τ => ∃ k : Nat, m = D.fly.length - k ∧ k ≤ D.fly.length ∧ x0 = .int .i64 ((A : Int) * 256) ∧ x1 = .slice (some ⟨wb, 0, none⟩) 256 wc ∧ x7 = .slice x D.fly.length c ∧ x8 = .int .i64 D.fly.length ∧ x9 = .int .i64 k ∧ H (J k) τ, ⟨_, 0, rfl, by omega, rfl, rfl, rfl, rfl, rfl, ?_⟩, ?_⟩
  · exact h1
  · rintro m _ _ _ _ _ τ ⟨k, rfl, hkl, rfl, rfl, rfl, rfl, rfl, h⟩
    suffices hb : ∀ N : Value → Value → Value → Value → Value → AHeap → Prop, (∀ τ', k < D.fly.length → H (J (k + 1)) τ' →
        N (.int .i64 ((A : Int) * 256)) (.slice (some ⟨wb, 0, none⟩) 256 wc) (.slice x D.fly.length c) (.int .i64 D.fly.length) (.int .i64 (k + 1 : Nat)) τ') → o_disk_Disk_Read_b1 N Q (.int .i64 ((A : Int) * 256)) (.slice (some ⟨wb, 0, none⟩) 256 wc) (.slice x D.fly.length c) (.int .i64 D.fly.length) (.int .i64 k) τ from
      hb _ fun τ' hlt h' => ⟨_, by omega, k + 1, rfl, by omega, rfl, rfl, rfl, rfl, rfl, h'⟩
    intro N hN
    unfold o_disk_Disk_Read_b1
    simp
    have hov : (over (A * 256) ((D.last.drop (A * 256)).take 256) (D.fly.take k)).length = 256 := by
      refine over_length _ _ _ (by simp; omega) (fun f hf => (hD.fly f (List.mem_of_mem_take hf)).len) fun f hf g1 g2 => ?_
      have := (hD.fly f (List.mem_of_mem_take hf)).al
      omega
    refine wC_dec (fun h1 => ?_) fun h1 => ?_
    · obtain ⟨b2, e1, e2, e3⟩ := h.own_elem 2 rfl (k := k) h1
      have hf := List.getElem?_eq_getElem h1
      have hsk := List.getElem?_eq_getElem (show k < ss.length by omega)
      have hfo := hD.fly _ (List.getElem_mem h1)
      rw [flc_get _ _ k _ _ hf hsk] at e2
      have hfit := hfo.fit
      have hl64 := hfo.len
      have hal := hfo.al
      simp [e1, e2]
      refine new_ok h ?_
      intro tb σ1 h2
      obtain ⟨fb, fo, fcap, fc, hse, hfcap, hfr, hfd, hfl⟩ := fly_at h2 3 rfl hf hsk
      refine storeN h2 6 rfl (by simp) (by omega) (by simp [hse]) (by simp) ?_
      intro σ2 h3
      obtain ⟨fb, fo, fcap, fc, hse, hfcap, hfr, hfd, hfl⟩ := fly_at h3 3 rfl hf hsk
      have t0 := load1 (n := 1) (o := 0) (h3.row 6 rfl)
      have t1 := load1 (n := 1) (o := 1) (h3.row 6 rfl)
      have hfin : ∀ τ, H (J (k + 1)) τ → o_disk_Disk_Read_k12 N Q (.int .i64 k) (.int .i64 ((A : Int) * 256)) (.slice (some ⟨wb, 0, none⟩) 256 wc) (.slice x D.fly.length c) (.int .i64 D.fly.length) τ := by
        intro τ hτ
        unfold o_disk_Disk_Read_k12
        simp
        rw [wrap_i64 (by omega)]
        exact hN _ h1 hτ
      simp [t0, splice]
      refine wG_dec (fun g1 => ?_) fun g1 => ?_
      · try simp [t0, splice]
        rw [wrap_i64 (by omega)]
        unfold o_disk_Disk_Read_k11
        simp
        refine wC_dec (fun g2 => ?_) fun g2 => ?_
        · have g1' : A * 256 ≤ D.fly[k].1 := by omega
          obtain ⟨dc, hsl, _⟩ := slice_from (z := 1) (b := wb) (o := 0) (lo := ((D.fly[k].1 - A * 256 : Nat) : Int)) (k := .i64) hwcap (by omega)
          have hw : IntKind.i64.wrap ((D.fly[k].1 : Int) - (A : Int) * 256) = ((D.fly[k].1 - A * 256 : Nat) : Int) := by rw [wrap_i64 (by omega)]; omega
          simp only [Int.toNat_natCast] at hsl
          simp [t0, t1, splice, hw, hsl, hse]
          have hmin : Nat.min D.fly[k].2.length (256 - (D.fly[k].1 - A * 256)) = 64 := by rw [hl64]; exact Nat.min_eq_left (by omega)
          refine copy_own (ys := bv D.fly[k].2) h3 5 rfl (by omega) (by rw [hmin, rob_src (n := 64) hfr hfd hfl (by omega), List.take_of_length_le (by omega)]) (bv_one _) (by simp; omega) ?_
          intro σ3 h4
          refine hfin _ ?_
          simp only [J]
          rw [over_take _ _ _ _ _ hf, if_pos (by omega), ← splice_put]
          exact h4.pick [0, 1, 2, 3, 4, 5] (by decide)
        · refine hfin _ ?_
          simp only [J]
          rw [over_take _ _ _ _ _ hf, if_neg (by omega)]
          exact h3.pick [0, 1, 2, 3, 4, 5] (by decide)
      · try simp
        unfold o_disk_Disk_Read_k11
        simp
        refine hfin _ ?_
        simp only [J]
        rw [over_take _ _ _ _ _ hf, if_neg (by omega)]
        exact h3.pick [0, 1, 2, 3, 4, 5] (by decide)
    · have : k = D.fly.length := by omega
      subst this
      refine hk _ _ (in_self i hi (disk_in (.slice (some ⟨lb, 0, none⟩) D.last.length lc) (.slice x D.fly.length c) ss hs ?_))
      simp only [J, List.take_length] at h
      exact h

/-! ### Copy -/
theorem flc_one : ∀ {fs : List Flight} {ss : List Value} {l : List Assn} {σ : AHeap}, H (FlyA fs ss :: l) σ → (flc fs ss).all one = true
  | [], _, l, σ, _ => by simp [flc]
  | _ :: _, [], l, σ, _ => by simp [flc]
  | f :: fs, s :: ss, l, σ, h => by
    simp only [FlyA, H_sep] at h
    obtain ⟨_, _, _, _, e, _⟩ := h.second.rob0
    have := flc_one h.tail
    simp only [flc, List.all_cons, Bool.and_eq_true]
    exact ⟨rfl, by rw [e]; rfl, this⟩
theorem clone2_ok {v : Value} {n : Nat} {ys : List Value} (h : H l σ) (hs : srcOf 2 v σ = some (n, ys)) (hf : ∃ a c, v = .slice a n c) (hone : ys.all one = true) (hn : n ≤ 1099511627776)
    (hk : ∀ w σ', H (l ++ [Own t_disk_flight 2 w n ys]) σ' → Q w σ') : E f_slices_Clone_sl_disk_flight_disk_flight [v] σ Q := by
  obtain ⟨a, c, rfl⟩ := hf
  apply o_slices_Clone_sl_disk_flight_disk_flight_ev; unfold o_slices_Clone_sl_disk_flight_disk_flight
  cases a with
  | none =>
    simp
    have : n = 0 ∧ ys = [] := by
      simp only [srcOf] at hs
      split at hs
      · rename_i e; subst e
        simp only [Option.some.injEq, Prod.mk.injEq] at hs
        exact ⟨rfl, hs.2.symm⟩
      · cases hs
    obtain ⟨rfl, rfl⟩ := this
    exact hk _ _ (h.own_nil t_disk_flight 2)
  | some a =>
    simp
    refine append_own (n := 0) (xs := []) (h.own_zb t_disk_flight 2) l.length (by simp) hs (by omega) (by omega) hone ?_
    intro v' σ' h'
    simp at h'
    exact hk _ _ h'
theorem own_one {i : Nat} {e z n : Nat} {v : Value} {xs : List Value} (h : H l σ) (hi : l[i]? = some (Own e z v n xs)) : one v = true := by
  obtain ⟨_, _, a, c, rfl⟩ := h.own_src i hi; rfl
theorem diskcopy_ok {v : Value} {D : DM} {n : Nat} (h : H l σ) (i : Nat) (hi : l[i]? = some (Disk v D)) (hD : D.Ok n) (hm : D.fly.length < 1099511627776) (hk : ∀ w σ', H (l ++ [Disk w D]) σ' → Q w σ') : E f_disk_Disk_Copy [v] σ Q := by
  obtain ⟨b, lv, fv, ss, rfl, hs, h⟩ := disk_out (h.out i hi)
  have hlen := hD.len
  have hn := hD.lo
  have hn2 := hD.hi
  apply o_disk_Disk_Copy_ev; unfold o_disk_Disk_Copy
  have hlo := own_one h (i := 1) rfl
  have hfo := own_one h (i := 2) rfl
  have rA := loadN (n := 4) (o := 0) (h.row 0 rfl) (by simp)
  simp [rA]
  refine new_ok h ?_
  intro nb σ1 h1
  refine storeN h1 5 rfl (by simp) (by omega) (by simp [hlo, hfo]) (by simp) ?_
  intro σ2 h2
  have r0 := load1 (n := 1) (o := 0) (h2.row 0 rfl)
  have r1 := load1 (n := 1) (o := 1) (h2.row 0 rfl)
  simp [r0, r1]
  obtain ⟨hs1, _, la, lc, rfl⟩ := h2.own_src 1 rfl
  refine clone_ok h2 hs1 (by omega) ?_
  intro w1 σ3 h3
  have r1 := load1 (n := 1) (o := 1) (h3.row 0 rfl)
  obtain ⟨hs2, _, fa, fc, rfl⟩ := h3.own_src 2 rfl
  simp [r1, veq1, veq, veq0]
  have hw1 := own_one h3 (i := 6) rfl
  refine clone2_ok h3 hs2 ⟨_, _, rfl⟩ (flc_one (h3.front 3 rfl)) (by omega) ?_
  intro w2 σ4 h4
  have hw2 := own_one h4 (i := 7) rfl
  try simp
  refine store1 (o := 0) h4 5 rfl hw1 (by simp [splice]) ?_
  intro σ5 h5
  try simp
  refine store1 (o := 1) h5 5 rfl hw2 (by simp [splice]) ?_
  intro σ6 h6
  refine hk _ _ (in_self i hi (disk_in (.slice la D.last.length lc) (.slice fa D.fly.length fc) ss hs ?_))
  have h7 := (h6.dup 3 rfl (FlyA.dup _ _)).pick [5, 6, 7, 8, 0, 1, 2, 3, 4] (by decide)
  have h8 := disk_in (b := nb) (D := D) w1 w2 ss hs h7
  exact h8.pick [1, 2, 3, 4, 5, 0] (by decide)
theorem diskcopy_nil (hk : Q (.pointer none) σ) : E f_disk_Disk_Copy [.pointer none] σ Q := by
  apply o_disk_Disk_Copy_ev; unfold o_disk_Disk_Copy; simpa using hk

/-! ### Write -/
theorem parts_get (a : Nat) (bs : List UInt8) (k : Nat) (h : k < 4) : (parts a bs)[k]? = some (a * 256 + 64 * k, (bs.drop (64 * k)).take 64) := by
  have : k = 0 ∨ k = 1 ∨ k = 2 ∨ k = 3 := by omega
  rcases this with rfl | rfl | rfl | rfl <;> rfl
theorem parts_take (a : Nat) (bs : List UInt8) (k : Nat) (h : k < 4) : (parts a bs).take (k + 1) = (parts a bs).take k ++ [(a * 256 + 64 * k, (bs.drop (64 * k)).take 64)] := by
  rw [List.take_add_one, parts_get a bs k h]; rfl

theorem fling_ok {v bv' : Value} {D : DM} {n a : Nat} {bs : List UInt8} {x0 x1 x2 : Nat} (h : H l σ) (i : Nat) (hi : l[i]? = some (Disk v D)) (hD : D.Ok n) (hm : D.fly.length < 1099511627776)
    (i0 : Nat) (h0 : l[i0]? = some (pt x0 (.cells [bv'] t_sl_uint8 false))) (i1 : Nat) (h1 : l[i1]? = some (pt x1 (.cells [v] t_p_disk_Disk false))) (i2 : Nat) (h2 : l[i2]? = some (pt x2 (.cells [.int .i64 (a : Nat)] t_int false)))
    (n0 : i0 ≠ i) (n1 : i1 ≠ i) (n2 : i2 ≠ i) (hb : Rd σ bv' bs) (hbs : bs.length = 256) (ha : a < n)
    (hk : ∀ σ', H (l.set i (Disk v (D.fling a bs))) σ' → Q (.tuple #[]) σ') : E f_disk_Disk_Write_c1 [.pointer (some ⟨x0, 0, none⟩), .pointer (some ⟨x1, 0, none⟩), .pointer (some ⟨x2, 0, none⟩)] σ Q := by
  have hlen := hD.len
  have hn := hD.lo
  have hn2 := hD.hi
  have r0 := load1 (n := 1) (o := 0) (h.row i0 h0)
  apply o_disk_Disk_Write_c1_ev; unfold o_disk_Disk_Write_c1
  obtain ⟨hsrc, ⟨ba, bc, rfl⟩, _⟩ := hb
  simp [r0]
  obtain ⟨b, lv, fv, ss, rfl, hs, h⟩ := disk_out (h.out i hi)
  refine clone_ok h hsrc (by omega) ?_
  intro w σ1 h3
  obtain ⟨wb, wc, rfl, hwc, _⟩ := h3.own_form 5 rfl (by omega)
  -- the clone is never written again
  obtain ⟨rest, e5, opn5, h4⟩ : ∃ rest e opn, H [pt b (.cells [lv, fv, .int .i64 D.fuse, .bool D.off] t_disk_Disk false), Own t_uint8 1 lv D.last.length (bv D.last), Own t_disk_flight 2 fv D.fly.length (flc D.fly ss), FlyA D.fly ss, Star (l.set i emp), ro wb (.cells (bv bs ++ rest) e opn)] σ1 := by
    rcases H_own.1 (h3.front 5 rfl) with ⟨⟨e, _⟩, _⟩ | ⟨b', c', opn, rest, h5, _, _, hv, _, _⟩
    · omega
    · cases hv
      exact ⟨rest, 5, opn, (h5.freeze 0 rfl).pick [1, 2, 3, 4, 5, 0] (by decide)⟩
  let J : Nat → Value → List Value → List Assn := fun k fv ss => [pt b (.cells [lv, fv, .int .i64 D.fuse, .bool D.off] t_disk_Disk false), Own t_uint8 1 lv D.last.length (bv D.last), Own t_disk_flight 2 fv (D.fly.length + k) (flc (D.fly ++ (parts a bs).take k) ss), FlyA (D.fly ++ (parts a bs).take k) ss, Star (l.set i emp), ro wb (.cells (bv bs ++ rest) e5 opn5)]
  refine ⟨fun m y1 y2 y3 y4 τ => ∃ k : Nat, m = 4 - k ∧ k ≤ 4 ∧ y1 = .pointer (some ⟨x1, 0, none⟩) ∧ y2 = .pointer (some ⟨x2, 0, none⟩) ∧ y3 = .slice (some ⟨wb, 0, none⟩) bs.length wc ∧ y4 = .int .i64 (64 * k : Nat) ∧ ∃ fv ss, ss.length = D.fly.length + k ∧ H (J k fv ss) τ, ⟨_, 0, rfl, by omega, rfl, rfl, rfl, rfl, fv, ss, hs, ?_⟩, ?_⟩
  · simpa [J] using h4
  · rintro m _ _ _ _ τ ⟨k, rfl, hkl, rfl, rfl, rfl, rfl, fv, ss, hs, h⟩
    suffices hb : ∀ N : Value → Value → Value → Value → AHeap → Prop, (∀ τ' fv' ss', k < 4 → ss'.length = D.fly.length + (k + 1) → H (J (k + 1) fv' ss') τ' →
        N (.pointer (some ⟨x1, 0, none⟩)) (.pointer (some ⟨x2, 0, none⟩)) (.slice (some ⟨wb, 0, none⟩) bs.length wc) (.int .i64 (64 * (k + 1) : Nat)) τ') → o_disk_Disk_Write_c1_b1 N Q (.pointer (some ⟨x1, 0, none⟩)) (.pointer (some ⟨x2, 0, none⟩)) (.slice (some ⟨wb, 0, none⟩) bs.length wc) (.int .i64 (64 * k : Nat)) τ from
      hb _ fun τ' fv' ss' hlt hs' h' => ⟨_, by omega, k + 1, rfl, by omega, rfl, rfl, rfl, rfl, fv', ss', hs', h'⟩
    intro N hN
    have hl : ∀ {τ : AHeap} {m : List Assn}, H (m ++ [Star (l.set i emp)]) τ → True := fun _ => trivial
    have hx : ∀ {τ : AHeap}, H (l.set i emp) τ → aLoad false 1 (.pointer (some ⟨x1, 0, none⟩)) τ = some (.pointer (some ⟨b, 0, none⟩)) ∧ aLoad false 1 (.pointer (some ⟨x2, 0, none⟩)) τ = some (.int .i64 (a : Nat)) := by
      intro τ hτ
      have g1 : (l.set i emp)[i1]? = some (pt x1 (.cells [.pointer (some ⟨b, 0, none⟩)] t_p_disk_Disk false)) := by rw [List.getElem?_set_ne (Ne.symm n1)]; exact h1
      have g2 : (l.set i emp)[i2]? = some (pt x2 (.cells [.int .i64 (a : Nat)] t_int false)) := by rw [List.getElem?_set_ne (Ne.symm n2)]; exact h2
      have l1 := load1 (n := 1) (o := 0) (hτ.row i1 g1)
      have l2 := load1 (n := 1) (o := 0) (hτ.row i2 g2)
      exact ⟨by rw [l1]; rfl, by rw [l2]; rfl⟩
    unfold o_disk_Disk_Write_c1_b1
    simp
    refine wC_dec (fun hlt => ?_) fun hlt => ?_
    · have hk4 : k < 4 := by omega
      obtain ⟨l1, l2⟩ := hx (h.beside 4 rfl)
      have b1 := load1 (n := 1) (o := 1) (h.row 0 rfl)
      obtain ⟨_, _, fa, fc, rfl⟩ := h.own_src 2 rfl
      have w1 : IntKind.i64.wrap ((a : Int) * 256) = (a : Int) * 256 := wrap_i64 (by omega)
      have w2 : IntKind.i64.wrap ((a : Int) * 256 + 64 * (k : Int)) = ((a * 256 + 64 * k : Nat) : Int) := by rw [wrap_i64 (by omega)]; omega
      have w3 : IntKind.i64.wrap (64 * (k : Int) + 64) = ((64 * (k + 1) : Nat) : Int) := by rw [wrap_i64 (by omega)]; omega
      have sl := slice_3 (z := 1) (b := wb) (o := 0) (n := bs.length) (c := wc) (lo := 64 * (k : Int)) (hi := ((64 * (k + 1) : Nat) : Int)) (mx := ((64 * (k + 1) : Nat) : Int)) (k := .i64) (k' := .i64) (k'' := .i64) hwc (by omega)
      have z1 : (64 * (k : Int)).toNat = 64 * k := by omega
      have z2 : ((64 * (k + 1) : Nat) : Int).toNat - 64 * k = 64 := by omega
      rw [z1, z2, Nat.zero_add, Nat.mul_one] at sl
      simp only [l1, l2, b1, w1, w2, w3, pu_some, nil_ptr, fieldAddr_ptr, bin_add, bin_mul, sl, Nat.zero_add, List.getElem?_cons_succ, List.getElem?_cons_zero]
      generalize hat : a * 256 + 64 * k = at'
      simp [splice]
      refine buildS_ok h (by rfl) (cs := [.int .i64 (at' : Nat), .slice (some ⟨wb, 64 * k, none⟩) 64 64]) (by simp [reps, splice]) ?_
      intro nb σ2 h5
      obtain ⟨l1, l2⟩ := hx (h5.beside 4 rfl)
      have b1 := load1 (n := 1) (o := 1) (h5.row 0 rfl)
      simp [l1, b1, veq1, veq, veq0]
      refine append_own h5 2 rfl (src_row (n := 1) (z := 2) (h5.row 6 rfl) (by simp)) (by omega) (by omega) (by simp) ?_
      intro fv' σ3 h6
      obtain ⟨l1, l2⟩ := hx (h6.beside 4 rfl)
      have hfv := own_one h6 (i := 2) rfl
      simp [l1]
      refine store1 (o := 1) h6 0 rfl hfv (by simp) ?_
      intro σ4 h7
      have hrob := (h7.dup 5 rfl (Dup.ro _ _)).unsnoc
      have h8 := rob_in (o := 64 * k) (cap := 64) (x := (bs.drop (64 * k)).take 64) (by simp [hbs]; rw [show min 64 (256 - 64 * k) = 64 by omega]; exact CapOk.exact (by unfold OPEN; omega)) (by
        simp only [List.length_take, List.length_drop, hbs]
        rw [show min 64 (256 - 64 * k) = 64 by omega, List.drop_append_of_le_length (by simp; omega), List.take_append_of_le_length (by simp; omega)]; simp) (by simp [hbs]; omega) hrob
      have h9 := h8.pick [1, 2, 3, 4, 0, 5, 6] (by decide)
      refine hN σ4 fv' (ss ++ [.slice (some ⟨wb, 64 * k, none⟩) 64 64]) hk4 (by simp [hs]; omega) ?_
      have hlk : ((parts a bs).take k).length = k := by simp [parts]; omega
      have e64 : ((bs.drop (64 * k)).take 64).length = 64 := by simp [hbs]; omega
      rw [e64] at h9
      simp only [J]
      rw [parts_take a bs k hk4, ← List.append_assoc, flc_append _ _ _ _ (by simp [hlk, hs]), FlyA_append _ _ _ _ (by simp [hlk, hs]), hat]
      have eF : ∀ (p : Nat) (y : List UInt8) (s : Value), FlyA [(p, y)] [s] = RoB s y := fun p y s => by
        simp only [FlyA]; rw [sep_comm, emp_sep]
      rw [eF]
      have h10 := (H_sep.2 (h9.pick [3, 4, 0, 1, 2, 5, 6] (by decide))).pick [1, 2, 3, 0, 4, 5] (by decide)
      exact h10
    · obtain rfl : k = 4 := by omega
      refine hk _ (H.in' i hi (disk_in lv fv ss ?_ ?_))
      · simpa [DM.fling, parts] using hs
      · have := h.pick [0, 1, 2, 3, 4] (by decide)
        simpa [Ax.picks, J, DiskP, DM.fling, parts] using this

theorem write_ok {v bv' : Value} {D : DM} {n : Nat} {a : Int} {bs : List UInt8} (h : H l σ) (i : Nat) (hi : l[i]? = some (Disk v D)) (hD : D.Ok n) (hf : D.fuse < 9223372036854775808) (hm : D.fly.length < 1099511627776) (hl : bs.length ≤ 140737488355328)
    (hb : ∀ τ, H (l.set i emp) τ → Rd τ bv' bs) (hk : ∀ σ', H (l.set i (Disk v (D.write a bs).1)) σ' → Q (.int .i64 (D.write a bs).2) σ') : E f_disk_Disk_Write [v, .int .i64 a, bv'] σ Q := by
  have hlt := (List.getElem?_eq_some_iff.1 hi).1
  obtain ⟨ba, bc, rfl⟩ := (hb σ (by
    have := (h.front i hi).tail
    exact this)).form
  obtain ⟨pb, hv⟩ : ∃ pb, v = .pointer (some ⟨pb, 0, none⟩) := by
    obtain ⟨b, _, _, _, e, _⟩ := disk_out (h.out i hi); exact ⟨b, e⟩
  subst hv
  have h' := h.out i hi
  apply o_disk_Disk_Write_ev; unfold o_disk_Disk_Write
  simp
  refine new_ok h' ?_
  intro x1 σ1 h1
  refine new_ok h1 ?_
  intro x2 σ2 h2
  refine new_ok h2 ?_
  intro x0 σ3 h3
  have q1 := load1 (n := 1) (o := 0) (h3.row 2 rfl)
  have q2 := load1 (n := 1) (o := 0) (h3.row 3 rfl)
  have q0 := load1 (n := 1) (o := 0) (h3.row 4 rfl)
  simp [q1, q2]
  have back : ∀ {τ D'}, H [Disk (.pointer (some ⟨pb, 0, none⟩)) D', Star (l.set i emp), pt x1 (.cells [.pointer (some ⟨pb, 0, none⟩)] t_p_disk_Disk false), pt x2 (.cells [.int .i64 a] t_int false), pt x0 (.cells [.slice ba bs.length bc] t_sl_uint8 false)] τ → H (l.set i (Disk (.pointer (some ⟨pb, 0, none⟩)) D')) τ :=
    fun h => H.in' i hi (h.pick [0, 1] (by decide))
  refine ready_ok h3 0 rfl hD ?_
  simp
  by_cases hr : D.ready a = 0
  · simp [hr, q0]
    by_cases hbl : bs.length = 256
    · have hz : (256 : Int) = (bs.length : Int) := by omega
      simp [hbl, q1]
      refine burn_ok h3 0 rfl hf (fun hb1 σ4 h4 => ?_) fun hb1 σ4 h4 => ?_
      · have hD2 : D.burn.1.Ok n := by
          unfold DM.burn; split
          · exact hD
          · split <;> exact ⟨hD.lo, hD.hi, hD.len, hD.fly⟩
        have hfl : D.burn.1.fly = D.fly := by unfold DM.burn; split; rfl; split <;> rfl
        have ha : 0 ≤ a ∧ a < n := by
          have hlen := hD.len
          unfold DM.ready at hr
          split at hr
          · simp at hr
          · split at hr
            · simp at hr
            · rename_i hx
              have : D.last.length / 256 = n := by omega
              omega
        obtain ⟨A, rfl⟩ : ∃ A : Nat, a = A := ⟨a.toNat, by omega⟩
        refine fling_ok (bs := bs) h4 0 rfl hD2 (by rw [hfl]; exact hm) 4 rfl 2 rfl 3 rfl (by decide) (by decide) (by decide) (hb _ (h4.beside 1 rfl)) hbl (by omega) ?_
        intro σ5 h5
        have e : D.write A bs = (D.burn.1.fling A bs, 0) := by simp [DM.write, hr, hbl, hb1]
        rw [e] at hk
        exact hk _ (back h5)
      · have e : D.write a bs = (D.burn.1, 9) := by simp [DM.write, hr, hbl, hb1]
        rw [e] at hk
        exact hk _ (back h4)
    · have : ¬ (bs.length : Int) = 256 := by omega
      simp [this]
      have e : D.write a bs = (D, 1) := by simp [DM.write, hr, hbl]
      rw [e] at hk
      exact hk _ (back h3)
  · simp [hr]
    have e : D.write a bs = (D, D.ready a) := by simp [DM.write, hr]
    rw [e] at hk
    exact hk _ (back h3)
end Go.Ax.O
set_option maxRecDepth 100000
namespace Go.Ax.O
open Go.Proofs Go.RowKit
variable {l m : List Assn} {σ : AHeap} {Q : WK}
theorem put_get (L : List UInt8) (a : Nat) (x : List UInt8) (h : a + x.length ≤ L.length) (i : Nat) : (put L a x)[i]? = if a ≤ i ∧ i < a + x.length then x[i - a]? else L[i]? := by
  unfold put
  rw [List.append_assoc, List.getElem?_append]
  simp only [List.length_take, Nat.min_eq_left (show a ≤ L.length by omega)]
  split
  · rename_i hi
    rw [if_neg (by omega), List.getElem?_take, if_pos hi]
  · rw [List.getElem?_append]
    split
    · rw [if_pos (by omega)]
    · rw [if_neg (by omega), List.getElem?_drop]; congr 1; omega

theorem parts_Ok {n a : Nat} {bs : List UInt8} (ha : a < n) (hb : bs.length = 256) : ∀ f ∈ parts a bs, FlyOk n f := by
  intro f hf
  simp only [parts, List.mem_cons, List.not_mem_nil, or_false] at hf
  rcases hf with rfl | rfl | rfl | rfl <;> refine ⟨by simp [hb], ?_, ?_⟩ <;> simp <;> omega

theorem ready_in {D : DM} {n : Nat} (hD : D.Ok n) {a : Nat} (ha : a < n) : D.ready a = if D.off then 9 else 0 := by
  unfold DM.ready
  have := hD.len
  have : D.last.length / 256 = n := by omega
  cases D.off with
  | true => rfl
  | false => simp only [Bool.false_eq_true, if_false]; rw [if_neg (by omega)]

theorem fling_Ok {D : DM} {n a : Nat} {bs : List UInt8} (hD : D.Ok n) (ha : a < n) (hb : bs.length = 256) : (D.fling a bs).Ok n :=
  ⟨hD.lo, hD.hi, hD.len, fun f hf => by
    simp only [DM.fling, List.mem_append] at hf
    rcases hf with hf | hf
    · exact hD.fly f hf
    · exact parts_Ok ha hb f hf⟩

theorem block_len {D : DM} {n a : Nat} (hD : D.Ok n) (ha : a < n) : (D.block a).length = 256 := by
  have := hD.len
  refine over_length _ _ _ (by simp; omega) (fun f hf => (hD.fly f hf).len) fun f hf g1 g2 => ?_
  have := (hD.fly f hf).al
  omega

theorem block_still {D : DM} (a : Nat) (h : D.fly = []) : D.block a = (D.last.drop (a * 256)).take 256 := by simp [DM.block, h, over]

theorem own_freeze {v : Value} {n : Nat} {x : List UInt8} (hn : 0 < n) (h : H (Own t_uint8 1 v n (bv x) :: m) σ) : ∃ b c, v = .slice (some ⟨b, 0, none⟩) n c ∧ CapOk 1 n c ∧
    ∀ o k c', CapOk 1 k c' → o + k ≤ n → H (RoB (.slice (some ⟨b, o, none⟩) k c') ((x.drop o).take k) :: m) σ := by
  rcases H_own.1 h with ⟨⟨rfl, _⟩, _⟩ | ⟨b, c, opn, rest, hp, hx, hr, rfl, hn2, ho⟩
  · omega
  · refine ⟨b, c, rfl, ⟨hn2, by rcases ho with ⟨_, _, x⟩ | x; exact .inr x; exact .inl x⟩, fun o k c' hc hk => ?_⟩
    have hxl : x.length = n := by simpa using hx
    have hl : ((x.drop o).take k).length = k := by simp; omega
    have := rob_in (b := b) (o := o) (cap := c') (x := (x.drop o).take k) (c := bv x ++ rest) (e := t_uint8) (opn := opn) (by rw [hl]; exact hc) (by
      rw [hl, List.drop_append_of_le_length (by simp; omega), List.take_append_of_le_length (by simp; omega)]; simp) (by rw [hl]; simp; omega) hp.freeze0
    rw [hl] at this
    exact this


theorem write_plain {D : DM} {n a : Nat} {bs : List UInt8} (hD : D.Ok n) (ho : D.off = false) (hf : D.fuse = 0) (ha : a < n) (hb : bs.length = 256) : D.write a bs = (D.fling a bs, 0) := by
  have hr := ready_in hD ha
  rw [ho] at hr
  simp at hr
  simp [DM.write, hr, hb, DM.burn, hf]

theorem star2 {B : Assn} {i j : Nat} (hj : l[j]? = some B) (hij : i ≠ j) : Star (l.set i emp) = sep B (Star ((l.set i emp).set j emp)) := by
  conv => lhs; rw [Star_take _ j]
  simp [List.getD, List.getElem?_set, hij, hj]

end Go.Ax.O
namespace Go.Ax

section
variable {α : Type} (key : α → Nat)

def swp (R : List α) (i j : Nat) : List α :=
  match R[i]?, R[j]? with
  | some x, some y => (R.set i y).set j x
  | _, _ => R
variable {key}
theorem swp_eq {R : List α} {i j : Nat} (hi : i < R.length) (hj : j < R.length) : swp R i j = (R.set i R[j]).set j R[i] := by
  unfold swp
  rw [List.getElem?_eq_getElem hi, List.getElem?_eq_getElem hj]
theorem swp_length (R : List α) (i j : Nat) : (swp R i j).length = R.length := by
  unfold swp; split <;> simp
theorem swp_get {R : List α} {i j : Nat} (hi : i < R.length) (hj : j < R.length) (k : Nat) : (swp R i j)[k]? = if k = j then R[i]? else if k = i then R[j]? else R[k]? := by
  rw [swp_eq hi hj, List.getElem?_set, List.getElem?_set]
  by_cases h1 : j = k
  · subst h1; simp [hj, List.getElem?_eq_getElem hi]
  · rw [if_neg h1, if_neg (Ne.symm h1)]
    by_cases h2 : i = k
    · subst h2; simp [hi, List.getElem?_eq_getElem hj]
    · rw [if_neg h2, if_neg (Ne.symm h2)]
theorem swp_perm (R : List α) {i j : Nat} (hi : i < R.length) (hj : j < R.length) : (swp R i j).Perm R := by
  rw [swp_eq hi hj]
  exact List.set_set_perm hi hj

variable (key)
def Ky (R : List α) (k : Nat) : Nat := ((R[k]?).map key).getD 0
variable {key}
theorem Ky_swp {R : List α} {i j : Nat} (hi : i < R.length) (hj : j < R.length) (k : Nat) : Ky key (swp R i j) k = if k = j then Ky key R i else if k = i then Ky key R j else Ky key R k := by
  unfold Ky
  rw [swp_get hi hj]
  split
  · rfl
  · split <;> rfl

variable (key)
/-- A heap, but for what stands at i. -/
def HeapEx (R : List α) (n i : Nat) : Prop := (∀ k, 0 < k → k < n → (k - 1) / 2 ≠ i → Ky key R ((k - 1) / 2) ≤ Ky key R k) ∧ (∀ k, 0 < k → k < n → (k - 1) / 2 = i → 0 < i → Ky key R ((i - 1) / 2) ≤ Ky key R k)
def HeapOk (R : List α) (n : Nat) : Prop := ∀ k, 0 < k → k < n → Ky key R ((k - 1) / 2) ≤ Ky key R k
variable {key}

theorem HeapEx.step {R : List α} {n i j : Nat} (h : HeapEx key R n i) (hn : n ≤ R.length) (hj : j < n) (hp : (j - 1) / 2 = i) (hj0 : 0 < j) (hmin : ∀ k, 0 < k → k < n → (k - 1) / 2 = i → Ky key R j ≤ Ky key R k) (hlt : Ky key R j < Ky key R i) : HeapEx key (swp R i j) n j := by
  obtain ⟨h1, h2⟩ := h
  have hij : i < j := by omega
  refine ⟨fun k hk0 hkn hpk => ?_, fun k hk0 hkn hpk _ => ?_⟩
  · rw [Ky_swp (by omega) (by omega), Ky_swp (by omega) (by omega)]
    by_cases e1 : k = j
    · subst e1
      rw [if_neg (by omega), if_pos hp, if_pos rfl]; omega
    · by_cases e2 : k = i
      · subst e2
        rw [if_neg (by omega), if_neg (by omega), if_neg (by omega), if_pos rfl]
        exact h2 j hj0 hj hp hk0
      · rw [if_neg hpk, if_neg e1, if_neg e2]
        by_cases e3 : (k - 1) / 2 = i
        · rw [if_pos e3]; exact hmin k hk0 hkn e3
        · rw [if_neg e3]; exact h1 k hk0 hkn e3
  · rw [Ky_swp (by omega) (by omega), Ky_swp (by omega) (by omega)]
    rw [if_neg (by omega), if_pos hp, if_neg (by omega), if_neg (by omega)]
    have := h1 k hk0 hkn (by omega)
    rw [hpk] at this
    exact this
theorem HeapEx.done {R : List α} {n i : Nat} (h : HeapEx key R n i) (hmin : ∀ k, 0 < k → k < n → (k - 1) / 2 = i → Ky key R i ≤ Ky key R k) : HeapOk key R n := by
  intro k hk0 hkn
  by_cases e : (k - 1) / 2 = i
  · rw [e]; exact hmin k hk0 hkn e
  · exact h.1 k hk0 hkn e
theorem HeapOk.top {R : List α} {n : Nat} (h : HeapOk key R n) : ∀ k, k < n → Ky key R 0 ≤ Ky key R k := by
  intro k
  induction k using Nat.strongRecOn with
  | ind k ih =>
    intro hk
    rcases Nat.eq_zero_or_pos k with rfl | h0
    · exact Nat.le_refl _
    · exact Nat.le_trans (ih ((k - 1) / 2) (by omega) (by omega)) (h k h0 hk)
theorem HeapOk.less {R : List α} {n m : Nat} (h : HeapOk key R n) (hm : m ≤ n) : HeapOk key R m := fun k h0 hk => h k h0 (by omega)
/-- What is read of both is the same. -/
theorem Ky_congr {R S : List α} {n : Nat} (h : ∀ k, k < n → R[k]? = S[k]?) {k : Nat} (hk : k < n) : Ky key R k = Ky key S k := by unfold Ky; rw [h k hk]
theorem HeapOk.congr {R S : List α} {n : Nat} (h : HeapOk key R n) (e : ∀ k, k < n → R[k]? = S[k]?) : HeapOk key S n := fun k h0 hk => by
  rw [← Ky_congr e hk, ← Ky_congr e (show (k - 1) / 2 < n by omega)]; exact h k h0 hk
/-- A key that grows. -/
theorem HeapOk.grow {R : List α} {n p : Nat} {x : α} (h : HeapOk key R n) (hp : p < R.length) (hx : Ky key R p ≤ key x) : HeapEx key (R.set p x) n p := by
  have hK : ∀ k, Ky key (R.set p x) k = if k = p then key x else Ky key R k := by
    intro k
    unfold Ky
    rw [List.getElem?_set]
    by_cases e : p = k
    · subst e; simp [hp]
    · rw [if_neg e, if_neg (Ne.symm e)]
  refine ⟨fun k h0 hk hpk => ?_, fun k h0 hk hpk hp0 => ?_⟩
  · rw [hK, hK, if_neg hpk]
    have := h k h0 hk
    split
    · rename_i e; subst e; omega
    · exact this
  · rw [hK, hK, if_neg (by omega)]
    have h1 := h k h0 hk
    have h2 := h p hp0 (by omega)
    rw [hpk] at h1
    rw [if_neg (by omega)]
    omega
/-- The last one goes to the top, the top behind. -/
theorem HeapOk.pop {R : List α} {n : Nat} (h : HeapOk key R (n + 1)) (hn : n < R.length) : HeapEx key (swp R 0 n) n 0 := by
  refine ⟨fun k h0 hk hpk => ?_, fun k h0 hk hpk hp0 => by omega⟩
  rw [Ky_swp (by omega) hn, Ky_swp (by omega) hn, if_neg (by omega), if_neg hpk, if_neg (by omega), if_neg (by omega)]
  exact h k h0 (by omega)
end
end Go.Ax
set_option maxRecDepth 100000
namespace Go.Ax.O
open Go.Proofs Go.RowKit

variable {l m : List Assn} {σ : AHeap} {Q : WK}

structure Rec where
  ib : Nat
  pl : Nat
  used : Nat
  dirty : Bool
  sv : Value
  b : List UInt8
abbrev ku : Rec → Nat := Rec.used
def BytesV (v : Value) (x : List UInt8) : Assn := fun r => pure' (v = .slice none 0 0 ∧ x = []) r ∨ RoB v x r
def ItemA (k : Nat) (r : Rec) : Assn := sep (pt r.ib (.cells [.int .i64 r.pl, .int .i64 k, .int .u64 r.used, .bool r.dirty, r.sv] t_cache_item false)) (BytesV r.sv r.b)
def itemsL : Nat → List Rec → List Assn
  | _, [] => []
  | o, r :: R => ItemA o r :: itemsL (o + 1) R
theorem itemsL_get : ∀ (R : List Rec) (o k : Nat), (itemsL o R)[k]? = R[k]?.map (ItemA (o + k))
  | [], o, k => by simp [itemsL]
  | r :: R, o, 0 => by simp [itemsL]
  | r :: R, o, k + 1 => by simp [itemsL, itemsL_get R (o + 1) k]; rw [show o + 1 + k = o + (k + 1) by omega]
theorem itemsL_set : ∀ (R : List Rec) (o k : Nat) (r : Rec), (itemsL o R).set k (ItemA (o + k) r) = itemsL o (R.set k r)
  | [], o, k, r => by simp [itemsL]
  | x :: R, o, 0, r => by simp [itemsL]
  | x :: R, o, k + 1, r => by
    have := itemsL_set R (o + 1) k r
    rw [show o + 1 + k = o + (k + 1) by omega] at this
    simp [itemsL, this]
theorem itemsL_append : ∀ (R S : List Rec) (o : Nat), itemsL o (R ++ S) = itemsL o R ++ itemsL (o + R.length) S
  | [], S, o => by simp [itemsL]
  | r :: R, S, o => by simp [itemsL, itemsL_append R S (o + 1)]; rw [show o + 1 + R.length = o + (R.length + 1) by omega]
theorem itemsL_length : ∀ (R : List Rec) (o : Nat), (itemsL o R).length = R.length
  | [], o => rfl
  | r :: R, o => by simp [itemsL, itemsL_length R (o + 1)]
theorem item_out {R : List Rec} {k : Nat} {r : Rec} (h : H (Star (itemsL 0 R) :: m) σ) (hr : R[k]? = some r) : H (ItemA k r :: Star ((itemsL 0 R).set k emp) :: m) σ := by
  have e : (itemsL 0 R)[k]? = some (ItemA k r) := by rw [itemsL_get, hr]; simp
  rw [Star_take _ k, H_sep] at h
  simpa only [List.getD, e, Option.getD_some] using h
theorem item_in {R : List Rec} {k : Nat} {r : Rec} (hk : k < R.length) (h : H (ItemA k r :: Star ((itemsL 0 R).set k emp) :: m) σ) : H (Star (itemsL 0 (R.set k r)) :: m) σ := by
  have e := itemsL_set R 0 k r
  rw [Nat.zero_add] at e
  rw [← e, Star_set _ _ _ (by rw [itemsL_length]; exact hk), H_sep]
  exact h
def ptrs (R : List Rec) : List Value := R.map fun r => .pointer (some ⟨r.ib, 0, none⟩)
theorem ptrs_get {R : List Rec} {k : Nat} {r : Rec} (h : R[k]? = some r) : (ptrs R)[k]? = some (.pointer (some ⟨r.ib, 0, none⟩)) := by simp [ptrs, h]
theorem ptrs_len (R : List Rec) : (ptrs R).length = R.length := by simp [ptrs]

/-- The row, behind the cache's own block. -/
def RowL (cb : Nat) (cs : List Value) (rowv : Value) (R : List Rec) (I0 : Assn) : List Assn := [pt cb (.cells (cs ++ [rowv]) t_cache_Cache false), Own t_p_cache_item 1 rowv R.length (ptrs R), Star (itemsL 0 R), I0]

section
variable {cb : Nat} {cs : List Value} {rowv : Value} {R : List Rec} {I0 : Assn}

theorem row_load (hcs : cs.length = 4) (h : H (RowL cb cs rowv R I0) σ) : aLoad false 1 (.pointer (some ⟨cb, 4, none⟩)) σ = some rowv := by
  rw [load1 (h.row 0 rfl), List.getElem?_append_right (by omega), hcs]; rfl
theorem row_form (h : H (RowL cb cs rowv R I0) σ) : ∃ a c, rowv = .slice a R.length c := (h.own_src 1 rfl).2.2
theorem m_len (v : Value) (σ : AHeap) : aMethod P (.iface t_p_cache_row v) "Len" σ = (aLoad false 1 v σ).bind fun u => some (f_cache_row_Len, u) := by kernel_rfl
theorem m_less (v : Value) (σ : AHeap) : aMethod P (.iface t_p_cache_row v) "Less" σ = (aLoad false 1 v σ).bind fun u => some (f_cache_row_Less, u) := by kernel_rfl
theorem m_swap (v : Value) (σ : AHeap) : aMethod P (.iface t_p_cache_row v) "Swap" σ = (aLoad false 1 v σ).bind fun u => some (f_cache_row_Swap, u) := by kernel_rfl
theorem m_pop (v : Value) (σ : AHeap) : aMethod P (.iface t_p_cache_row v) "Pop" σ = some (f_cache_row_Pop, v) := by kernel_rfl
theorem m_push (v : Value) (σ : AHeap) : aMethod P (.iface t_p_cache_row v) "Push" σ = some (f_cache_row_Push, v) := by kernel_rfl
theorem len_ok (h : H (RowL cb cs rowv R I0) σ) (hk : Q (.int .i64 R.length) σ) : E f_cache_row_Len [rowv] σ Q := by
  obtain ⟨a, c, rfl⟩ := row_form h
  apply o_cache_row_Len_ev; unfold o_cache_row_Len
  simpa using hk
theorem less_ok {i j : Nat} {x y : Rec} (h : H (RowL cb cs rowv R I0) σ) (hi : R[i]? = some x) (hj : R[j]? = some y) (hk : Q (.bool (decide (x.used < y.used))) σ) : E f_cache_row_Less [rowv, .int .i64 i, .int .i64 j] σ Q := by
  have hil := (List.getElem?_eq_some_iff.1 hi).1
  have hjl := (List.getElem?_eq_some_iff.1 hj).1
  apply o_cache_row_Less_ev; unfold o_cache_row_Less
  obtain ⟨b, c, rfl, hc, rest, hrow⟩ := h.own_form 1 rfl (by omega)
  have r1 := load1 (n := 1) (o := i) hrow
  have r2 := load1 (n := 1) (o := j) hrow
  rw [List.getElem?_append_left (by rw [ptrs_len]; omega), ptrs_get hi] at r1
  rw [List.getElem?_append_left (by rw [ptrs_len]; omega), ptrs_get hj] at r2
  rw [idxA (by omega), idxA (by omega)]
  have h1 := item_out (h.pick [2, 0, 1, 3] (by decide)) hi
  unfold ItemA at h1
  rw [H_sep] at h1
  have h2 := item_out (h.pick [2, 0, 1, 3] (by decide)) hj
  unfold ItemA at h2
  rw [H_sep] at h2
  have u1 := load1 (n := 1) (o := 2) (h1.row 0 rfl)
  have u2 := load1 (n := 1) (o := 2) (h2.row 0 rfl)
  simp [r1, r2, u1, u2]
  have e : decide ((x.used : Int) < (y.used : Int)) = decide (x.used < y.used) := by
    by_cases g : x.used < y.used
    · rw [decide_eq_true g, decide_eq_true (by omega)]
    · rw [decide_eq_false g, decide_eq_false (by omega)]
  simpa [e] using hk

theorem items_out2 {i j : Nat} {x y : Rec} (hij : i ≠ j) (hi : R[i]? = some x) (hj : R[j]? = some y) (h : H (Star (itemsL 0 R) :: m) σ) : H (ItemA i x :: ItemA j y :: Star (((itemsL 0 R).set i emp).set j emp) :: m) σ := by
  have h1 := item_out h hi
  have e : Star ((itemsL 0 R).set i emp) = sep (ItemA j y) (Star (((itemsL 0 R).set i emp).set j emp)) := by
    refine star2 ?_ hij
    rw [itemsL_get, hj]; simp
  rw [e] at h1
  have h2 := h1.perm (List.Perm.swap _ _ _)
  rw [H_sep] at h2
  have h3 : H ([ItemA j y, Star (((itemsL 0 R).set i emp).set j emp)] ++ ItemA i x :: m) σ := h2
  exact h3.perm (by
    show (ItemA j y :: Star (((itemsL 0 R).set i emp).set j emp) :: ItemA i x :: m).Perm (ItemA i x :: ItemA j y :: Star (((itemsL 0 R).set i emp).set j emp) :: m)
    exact ((List.Perm.swap _ _ _).cons _).trans (List.Perm.swap _ _ _))
theorem items_in2 {i j : Nat} {x y : Rec} (hij : i ≠ j) (hi : i < R.length) (hj : j < R.length) (h : H (ItemA j x :: ItemA i y :: Star (((itemsL 0 R).set i emp).set j emp) :: m) σ) : H (Star (itemsL 0 ((R.set i y).set j x)) :: m) σ := by
  have e1 := itemsL_set (R.set i y) 0 j x
  have e2 := itemsL_set R 0 i y
  rw [Nat.zero_add] at e1 e2
  rw [← e1, ← e2, Star_set _ j _ (by simp [itemsL_length]; exact hj), H_sep, List.set_comm _ _ hij, Star_set _ i _ (by simp [itemsL_length]; exact hi)]
  have h2 := h.perm ((List.Perm.cons _ (List.Perm.refl _)))
  rw [List.set_comm _ _ hij] at h2
  have h3 : H ((sep (ItemA i y) (Star (((itemsL 0 R).set j emp).set i emp))) :: ItemA j x :: m) σ := by
    rw [H_sep]
    exact h2.perm (by
      show (ItemA j x :: ItemA i y :: Star (((itemsL 0 R).set j emp).set i emp) :: m).Perm (ItemA i y :: Star (((itemsL 0 R).set j emp).set i emp) :: ItemA j x :: m)
      exact (List.Perm.swap _ _ _).trans ((List.Perm.swap _ _ _).cons _))
  exact h3.perm (List.Perm.swap _ _ _)
theorem ptrs_swp {i j : Nat} {x y : Rec} (hi : R[i]? = some x) (hj : R[j]? = some y) : ((ptrs R).set i (.pointer (some ⟨y.ib, 0, none⟩))).set j (.pointer (some ⟨x.ib, 0, none⟩)) = ptrs (swp R i j) := by
  unfold swp ptrs
  rw [hi, hj]
  simp only [List.map_set]
theorem swap_ok {i j : Nat} {x y : Rec} (h : H (RowL cb cs rowv R I0) σ) (hi : R[i]? = some x) (hj : R[j]? = some y) (hk : ∀ σ', H (RowL cb cs rowv (swp R i j) I0) σ' → Q (.tuple #[]) σ') : E f_cache_row_Swap [rowv, .int .i64 i, .int .i64 j] σ Q := by
  have hil := (List.getElem?_eq_some_iff.1 hi).1
  have hjl := (List.getElem?_eq_some_iff.1 hj).1
  apply o_cache_row_Swap_ev; unfold o_cache_row_Swap
  obtain ⟨b, c, rfl, hc, rest, hrow⟩ := h.own_form 1 rfl (by omega)
  have r1 := load1 (n := 1) (o := i) hrow
  have r2 := load1 (n := 1) (o := j) hrow
  rw [List.getElem?_append_left (by rw [ptrs_len]; omega), ptrs_get hi] at r1
  rw [List.getElem?_append_left (by rw [ptrs_len]; omega), ptrs_get hj] at r2
  rw [idxA (by omega), idxA (by omega)]
  simp [r1, r2]
  refine store_own h 1 rfl (by omega) rfl (by rw [ptrs_len]; omega) ?_
  intro σ1 h1
  refine store_own h1 1 rfl (by omega) rfl (by rw [List.length_set, ptrs_len]; omega) ?_
  intro σ2 h2
  rw [ptrs_swp hi hj] at h2
  obtain ⟨_, _, hv, _, rest, hrow⟩ := h2.own_form 1 rfl (by omega)
  cases hv
  have si : (swp R i j)[i]? = some (if i = j then x else y) := by
    rw [swp_get hil hjl]; split
    · exact hi
    · rw [if_pos rfl, hj]
  have sj : (swp R i j)[j]? = some x := by rw [swp_get hil hjl, if_pos rfl, hi]
  have r1 := load1 (n := 1) (o := i) hrow
  have r2 := load1 (n := 1) (o := j) hrow
  rw [List.getElem?_append_left (by rw [ptrs_len, swp_length]; omega), ptrs_get si] at r1
  rw [List.getElem?_append_left (by rw [ptrs_len, swp_length]; omega), ptrs_get sj] at r2
  simp only [r1, r2, pu_some, nil_ptr, fieldAddr_ptr, Nat.zero_add]
  by_cases hij : i = j
  · subst hij
    have hxy : x = y := by rw [hi] at hj; cases hj; rfl
    subst hxy
    have hs : swp R i i = R := by
      apply List.ext_getElem?
      intro k
      rw [swp_get hil hil]
      split
      · rename_i e; subst e; rfl
      · rfl
    rw [hs] at hk h2
    simp only [if_true]
    have h3 := item_out (h2.pick [2, 0, 1, 3] (by decide)) hi
    unfold ItemA at h3
    rw [H_sep] at h3
    refine store1 h3 0 rfl rfl (by simp) ?_
    intro σ3 h4
    refine store1 h4 0 rfl rfl (by simp) ?_
    intro σ4 h5
    refine hk σ4 ?_
    have h6 := item_in (r := x) hil (H_sep.2 h5)
    have : R.set i x = R := by
      apply List.ext_getElem?
      intro k
      rw [List.getElem?_set]
      split
      · rename_i e; subst e; rw [hi]
      · rfl
    rw [this] at h6
    exact h6.pick [1, 2, 0, 3] (by decide)
  · rw [if_neg hij]
    have h3 := items_out2 hij hi hj (h2.pick [2, 0, 1, 3] (by decide))
    unfold ItemA at h3
    rw [H_sep] at h3
    have h4 := H_sep.1 (h3.pick [2, 0, 1, 3, 4, 5, 6] (by decide))
    refine store1 h4 0 rfl rfl (by simp) ?_
    intro σ3 h5
    refine store1 h5 2 rfl rfl (by simp) ?_
    intro σ4 h6
    refine hk σ4 ?_
    have h7 : H (ItemA j x :: _) σ4 := H_sep.2 (h6.pick [2, 3, 0, 1, 4, 5, 6, 7] (by decide))
    have h8 : H (ItemA i y :: _) σ4 := H_sep.2 (h7.pick [1, 2, 0, 3, 4, 5, 6] (by decide))
    have h9 := items_in2 hij hil hjl (h8.pick [1, 0, 2, 3, 4, 5] (by decide))
    have e : (R.set i y).set j x = swp R i j := by unfold swp; rw [hi, hj]
    rw [e] at h9
    have h10 := h9.pick [1, 2, 0, 3] (by decide)
    unfold RowL
    rw [swp_length]
    exact h10
end
end Go.Ax.O
set_option maxRecDepth 100000
namespace Go.Ax.O
open Go.Proofs Go.RowKit

variable {l m : List Assn} {σ : AHeap} {Q : WK}

theorem own_to {e z n k i : Nat} {v : Value} {xs : List Value} (h : H l σ) (hi : l[i]? = some (Own e z v n xs)) (hn : 0 < n) (hk : k ≤ n) :
    ∃ v', (∀ kd, aSlice z v none (some (.int kd k)) none = some v') ∧ one v' = true ∧ H (l.set i (Own e z v' k (xs.take (k * z)))) σ := by
  rcases H_own.1 (h.front i hi) with ⟨⟨rfl, _⟩, _⟩ | ⟨b, c, opn, rest, hp, hx, hr, rfl, hn2, ho⟩
  · omega
  · have hcap : c < OPEN ∨ c / OPEN = z := by rcases ho with ⟨_, _, q⟩ | q; exact .inr q; exact .inl q
    refine ⟨.slice (some ⟨b, 0, none⟩) k c, fun kd => ?_, rfl, H.back i hi (H_own.2 (.inr ⟨b, c, opn, xs.drop (k * z) ++ rest, ?_, ?_, ?_, rfl, by omega, ho⟩))⟩
    · simp only [aSlice, bndO]
      rw [bnd_int (y := known c) (by omega)]
      simp only [Option.bind_some, Int.toNat_natCast]
      rcases Nat.lt_or_ge c OPEN with hlt | hge
      · have := known_lt hlt
        rw [if_pos hlt, if_pos (by omega), if_neg (by omega)]
        simp [add_mk]
      · have : ¬ c < OPEN := by omega
        rw [if_neg this, if_pos ⟨by omega, hcap.resolve_left this⟩]
        simp [add_mk]
    · rw [← List.append_assoc, List.take_append_drop]; exact hp
    · have : k * z ≤ n * z := Nat.mul_le_mul_right _ hk
      simp; omega
    · have h1 : k * z ≤ n * z := Nat.mul_le_mul_right _ hk
      have h2 : n * z ≤ known c * z := Nat.mul_le_mul_right _ hn2
      rw [List.length_append, List.length_drop, hx, hr, Nat.sub_mul, Nat.sub_mul]
      omega
theorem i_121 (v : Value) (hv : live v = true) : aIface P t_p_cache_item v = some (.iface t_p_cache_item v) := by
  have : aIface P t_p_cache_item v = cond (live v) (some (.iface t_p_cache_item v)) none := by kernel_rfl
  rw [this, hv]; rfl
theorem i_160 (v : Value) (hv : live v = true) : aIface P t_p_cache_row v = some (.iface t_p_cache_row v) := by
  have : aIface P t_p_cache_row v = cond (live v) (some (.iface t_p_cache_row v)) none := by kernel_rfl
  rw [this, hv]; rfl
theorem a_121 (v : Value) : aAssert P t_p_cache_item false (.iface t_p_cache_item v) = some v := by kernel_rfl

section
variable {cb : Nat} {cs : List Value} {rowv : Value} {R : List Rec} {I0 : Assn}

theorem popm_ok {n : Nat} {x : Rec} (hcs : cs.length = 4) (h : H (RowL cb cs rowv R I0) σ) (hn : R.length = n + 1) (hx : R[n]? = some x) (hb : n < 1099511627776)
    (hk : ∀ rowv' σ', H (RowL cb cs rowv' (R.take n) (Star [ItemA n x, I0])) σ' → Q (.iface t_p_cache_item (.pointer (some ⟨x.ib, 0, none⟩))) σ') : E f_cache_row_Pop [.pointer (some ⟨cb, 4, none⟩)] σ Q := by
  apply o_cache_row_Pop_ev; unfold o_cache_row_Pop
  have rl := row_load hcs h
  obtain ⟨a, c, hv⟩ := row_form h
  subst hv
  simp [rl]
  rw [wrap_i64 (by omega), show ((R.length : Nat) : Int) - 1 = (n : Int) by omega]
  obtain ⟨b, c', hv, hc, rest, hrow⟩ := h.own_form 1 rfl (by omega)
  cases hv
  have r1 := load1 (n := 1) (o := n) hrow
  rw [List.getElem?_append_left (by rw [ptrs_len]; omega), ptrs_get hx] at r1
  rw [idxA (by omega)]
  simp [r1]
  obtain ⟨v', e1, ho, h2⟩ := own_to (k := n) h (i := 1) rfl (by omega) (by omega)
  rw [e1]
  simp
  refine store1 h2 0 rfl ho (by simp [hcs]) ?_
  intro σ1 h3
  rw [i_121 _ rfl, pu_some]
  refine hk v' σ1 ?_
  have e2 : (cs ++ [Value.slice (some ⟨b, 0, none⟩) R.length c]).set 4 v' = cs ++ [v'] := by
    rw [List.set_append_right _ _ (by omega), hcs]; rfl
  have e3 : (ptrs R).take (n * 1) = ptrs (R.take n) := by simp [ptrs]
  have e4 : itemsL 0 R = itemsL 0 (R.take n) ++ [ItemA n x] := by
    have : R = R.take n ++ [x] := by
      have h5 : R.take (n + 1) = R.take n ++ [x] := by rw [List.take_add_one, hx]; rfl
      rw [← h5, ← hn, List.take_length]
    conv => lhs; rw [this]
    rw [itemsL_append, List.length_take, Nat.min_eq_left (by omega)]
    simp [itemsL]
  rw [e2, e3] at h3
  have h3 : H [pt cb (.cells (cs ++ [v']) t_cache_Cache false), Own t_p_cache_item 1 v' n (ptrs (R.take n)), Star (itemsL 0 R), I0] σ1 := h3
  rw [e4, Star_append] at h3
  have h4 := H_sep.1 (h3.pick [2, 0, 1, 3] (by decide))
  have h6 : H [Star [ItemA n x], I0, pt cb (.cells (cs ++ [v']) t_cache_Cache false), Own t_p_cache_item 1 v' n (ptrs (R.take n)), Star (itemsL 0 (R.take n))] σ1 := h4.pick [1, 4, 2, 3, 0] (by decide)
  have h5 : H [Star [ItemA n x, I0], pt cb (.cells (cs ++ [v']) t_cache_Cache false), Own t_p_cache_item 1 v' n (ptrs (R.take n)), Star (itemsL 0 (R.take n))] σ1 := (H_star (l := [ItemA n x, I0])).2 ((H_star (l := [ItemA n x])).1 h6)
  unfold RowL
  rw [List.length_take, Nat.min_eq_left (by omega)]
  exact h5.pick [1, 2, 3, 0] (by decide)

theorem pushm_ok {p : Nat} {x : Rec} (hcs : cs.length = 4) (h : H (RowL cb cs rowv R (Star [ItemA p x, I0])) σ) (hb : R.length < 1099511627776)
    (hk : ∀ rowv' σ', H (RowL cb cs rowv' (R ++ [x]) I0) σ' → Q (.tuple #[]) σ') : E f_cache_row_Push [.pointer (some ⟨cb, 4, none⟩), .iface t_p_cache_item (.pointer (some ⟨x.ib, 0, none⟩))] σ Q := by
  apply o_cache_row_Push_ev; unfold o_cache_row_Push
  have rl := row_load hcs h
  obtain ⟨a, c, hv⟩ := row_form h
  rw [a_121]
  subst hv
  simp [rl]
  have h1 : H (ItemA p x :: I0 :: _) σ := H_star.1 (h.pick [3, 0, 1, 2] (by decide))
  unfold ItemA at h1
  rw [H_sep] at h1
  refine store1 h1 0 rfl rfl (by simp) ?_
  intro σ1 h2
  have h3 : H (ItemA R.length x :: I0 :: pt cb (.cells (cs ++ [.slice a R.length c]) t_cache_Cache false) :: Own t_p_cache_item 1 (.slice a R.length c) R.length (ptrs R) :: Star (itemsL 0 R) :: []) σ1 := H_sep.2 h2
  have rl := load1 (n := 1) (o := 4) (h3.row 2 rfl)
  rw [List.getElem?_append_right (by omega), hcs] at rl
  simp at rl
  simp [rl]
  refine buildS_ok (cs := [.pointer (some ⟨x.ib, 0, none⟩)]) h3 (by decide) (by rfl) ?_
  intro tb σ2 h4
  have ht : srcOf 1 (.slice (some ⟨tb, 0, none⟩) 1 1) σ2 = some (1, [.pointer (some ⟨x.ib, 0, none⟩)]) := by
    rw [src_row (h4.row 5 rfl) (by simp)]; rfl
  refine append_own h4 3 rfl ht (by omega) (by omega) (by rfl) ?_
  intro w σ3 h5
  have ho := own_one h5 (i := 3) rfl
  simp
  refine store1 h5 2 rfl ho (by simp [hcs]) ?_
  intro σ4 h6
  refine hk w σ4 ?_
  have e2 : (cs ++ [Value.slice a R.length c]).set 4 w = cs ++ [w] := by
    rw [List.set_append_right _ _ (by omega), hcs]; rfl
  rw [e2] at h6
  have e3 : ptrs R ++ [.pointer (some ⟨x.ib, 0, none⟩)] = ptrs (R ++ [x]) := by simp [ptrs]
  rw [e3] at h6
  unfold RowL
  rw [itemsL_append, Star_append, List.length_append]
  simp only [itemsL, Nat.zero_add]
  have h7 : H (sep (Star (itemsL 0 R)) (Star [ItemA R.length x]) :: _) σ4 := H_sep.2 (by
    have : H (Star [ItemA R.length x] :: _) σ4 := (H_star (l := [ItemA R.length x])).2 (h6.pick [0, 1, 2, 3, 4] (by decide))
    exact this.pick [4, 0, 1, 2, 3] (by decide))
  exact h7.pick [2, 3, 0, 1] (by decide)

/-! ### up, where nothing moves; down -/
theorem Ky_some {k : Nat} {x : Rec} (h : R[k]? = some x) : Ky ku R k = x.used := by unfold Ky; rw [h]; rfl
theorem up_ok {j : Nat} {x : Rec} (hcs : cs.length = 4) (h : H (RowL cb cs rowv R I0) σ) (hj : R[j]? = some x) (hb : R.length < 1099511627776) (hmax : ∀ k, k < j → Ky ku R k ≤ x.used)
    (hk : Q (.tuple #[]) σ) : E f_heap_up [.iface t_p_cache_row (.pointer (some ⟨cb, 4, none⟩)), .int .i64 j] σ Q := by
  have hjl := (List.getElem?_eq_some_iff.1 hj).1
  apply o_heap_up_ev; unfold o_heap_up
  refine ⟨fun m x0 x1 τ => x0 = .iface t_p_cache_row (.pointer (some ⟨cb, 4, none⟩)) ∧ x1 = .int .i64 j ∧ τ = σ, ⟨0, rfl, rfl, rfl⟩, ?_⟩
  rintro m _ _ τ ⟨rfl, rfl, rfl⟩
  suffices hb : ∀ N, o_heap_up_b1 N Q (.iface t_p_cache_row (.pointer (some ⟨cb, 4, none⟩))) (.int .i64 j) τ from hb _
  intro N
  unfold o_heap_up_b1
  simp
  rw [wrap_i64 (n := (j : Int) - 1) (by omega)]
  obtain ⟨i, hi, hi2⟩ : ∃ i : Nat, IntKind.i64.wrap (((j : Int) - 1).tdiv 2) = (i : Int) ∧ (i = j ∧ j = 0 ∨ i < j) := by
    rcases Nat.eq_zero_or_pos j with rfl | h0
    · exact ⟨0, by decide, .inl ⟨rfl, rfl⟩⟩
    · refine ⟨(j - 1) / 2, ?_, .inr (by omega)⟩
      rw [show (j : Int) - 1 = ((j - 1 : Nat) : Int) by omega, show (((j - 1 : Nat) : Int)).tdiv 2 = (((j - 1) / 2 : Nat) : Int) from rfl, wrap_i64 (by omega)]
  rw [hi]
  refine wG_dec (fun g => ?_) fun g => ?_
  · unfold o_heap_up_k2; simpa using hk
  · have hij : i < j := by omega
    have hx := List.getElem?_eq_getElem (show i < R.length by omega)
    rw [m_less, row_load hcs h]
    simp
    refine less_ok h hj hx ?_
    have hle := hmax i hij
    rw [Ky_some hx] at hle
    have : decide (x.used < R[i].used) = false := decide_eq_false (by omega)
    rw [this]
    simp
    unfold o_heap_up_k2
    simpa using hk

theorem down_ok {n i0 : Nat} {R0 : List Rec} (hcs : cs.length = 4) (h : H (RowL cb cs rowv R0 I0) σ) (hn : n ≤ R0.length) (hb : R0.length < 1099511627776) (hi0 : i0 ≤ n) (hex : HeapEx ku R0 n i0)
    (hk : ∀ (R' : List Rec) (i : Nat) σ', i0 ≤ i → R'.Perm R0 → HeapOk ku R' n → (∀ k, n ≤ k → R'[k]? = R0[k]?) → (i = i0 → R' = R0) → H (RowL cb cs rowv R' I0) σ' → Q (.bool (decide (i0 < i))) σ') :
    E f_heap_down [.iface t_p_cache_row (.pointer (some ⟨cb, 4, none⟩)), .int .i64 i0, .int .i64 n] σ Q := by
  apply o_heap_down_ev; unfold o_heap_down
  refine ⟨fun m x0 x1 x2 x7 τ => ∃ (R : List Rec) (i : Nat), m = n - i ∧ i ≤ n ∧ x0 = .iface t_p_cache_row (.pointer (some ⟨cb, 4, none⟩)) ∧ x1 = .int .i64 i0 ∧ x2 = .int .i64 n ∧ x7 = .int .i64 i ∧ R.Perm R0 ∧ HeapEx ku R n i ∧ (∀ k, n ≤ k → R[k]? = R0[k]?) ∧ i0 ≤ i ∧ (i = i0 → R = R0) ∧ H (RowL cb cs rowv R I0) τ,
    ⟨_, R0, i0, rfl, hi0, rfl, rfl, rfl, rfl, List.Perm.refl _, hex, fun _ _ => rfl, Nat.le_refl _, fun _ => rfl, h⟩, ?_⟩
  clear h hex
  rintro m _ _ _ _ τ ⟨R, i, rfl, hin, rfl, rfl, rfl, rfl, hp, hex, htl, hii, hsame, h⟩
  suffices hb : ∀ N : Value → Value → Value → Value → AHeap → Prop, (∀ R' j τ', i < j → j < n → R'.Perm R0 → HeapEx ku R' n j → (∀ k, n ≤ k → R'[k]? = R0[k]?) → H (RowL cb cs rowv R' I0) τ' → N (.iface t_p_cache_row (.pointer (some ⟨cb, 4, none⟩))) (.int .i64 i0) (.int .i64 n) (.int .i64 j) τ') →
      o_heap_down_b1 N Q (.iface t_p_cache_row (.pointer (some ⟨cb, 4, none⟩))) (.int .i64 i0) (.int .i64 n) (.int .i64 i) τ from
    hb _ fun R' j τ' h1 h2 a b c h' => ⟨_, by omega, R', j, rfl, by omega, rfl, rfl, rfl, rfl, a, b, c, by omega, fun e => by omega, h'⟩
  intro N hN
  have hRl := hp.length_eq
  have k5 : (∀ k, 0 < k → k < n → (k - 1) / 2 = i → Ky ku R i ≤ Ky ku R k) → ∀ τ', H (RowL cb cs rowv R I0) τ' → o_heap_down_k5 Q (.int .i64 i) (.int .i64 i0) τ' := by
    intro hmin τ' h'
    unfold o_heap_down_k5
    simp
    have e : decide ((i0 : Int) < (i : Int)) = decide (i0 < i) := by
      by_cases g : i0 < i
      · rw [decide_eq_true g, decide_eq_true (by omega)]
      · rw [decide_eq_false g, decide_eq_false (by omega)]
    have := hk R i τ' hii hp (hex.done hmin) htl hsame h'
    simpa [e] using this
  unfold o_heap_down_b1
  simp
  have w1 : IntKind.i64.wrap (2 * (i : Int)) = 2 * (i : Int) := wrap_i64 (by omega)
  have w2 : IntKind.i64.wrap (2 * (i : Int) + 1) = ((2 * i + 1 : Nat) : Int) := by rw [wrap_i64 (by omega)]; omega
  simp only [w1, w2]
  refine wG_dec (fun g => ?_) fun g => ?_
  · unfold o_heap_down_k4
    simp
    exact k5 (fun k h0 hk2 hp2 => by omega) τ h
  · have hlt : ¬ ((2 * i + 1 : Nat) : Int) < 0 := by omega
    rw [decide_eq_false hlt]
    unfold o_heap_down_k4
    simp only [wC_false, bin_add, pu_some, bin_lss]
    have w3 : IntKind.i64.wrap (((2 * i + 1 : Nat) : Int) + 1) = ((2 * i + 2 : Nat) : Int) := by rw [wrap_i64 (by omega)]; omega
    simp only [w3]
    have hj1 : 2 * i + 1 < n := by omega
    have x1 := List.getElem?_eq_getElem (show 2 * i + 1 < R.length by omega)
    have xi := List.getElem?_eq_getElem (show i < R.length by omega)
    -- with the least child
    have k10 : ∀ j, j < n → (j - 1) / 2 = i → 0 < j → (∀ k, 0 < k → k < n → (k - 1) / 2 = i → Ky ku R j ≤ Ky ku R k) → o_heap_down_k10 N Q (.iface t_p_cache_row (.pointer (some ⟨cb, 4, none⟩))) (.int .i64 j) (.int .i64 i) (.int .i64 i0) (.int .i64 n) τ := by
      intro j hjn hpj hj0 hmin
      have xj := List.getElem?_eq_getElem (show j < R.length by omega)
      unfold o_heap_down_k10
      rw [m_less, row_load hcs h]
      simp
      refine less_ok h xj xi ?_
      simp only [un_not, pu_some]
      by_cases hl : R[j].used < R[i].used
      · rw [decide_eq_true hl]
        simp
        rw [m_swap, row_load hcs h]
        simp
        refine swap_ok h xi xj ?_
        intro τ1 h1
        refine hN _ j τ1 (by omega) hjn ((swp_perm R (by omega) (by omega)).trans hp) (hex.step (by omega) hjn hpj hj0 hmin (by rw [Ky_some xj, Ky_some xi]; exact hl)) ?_ h1
        intro k hk2
        rw [swp_get (by omega) (by omega), if_neg (by omega), if_neg (by omega)]
        exact htl k hk2
      · rw [decide_eq_false hl]
        simp
        refine k5 (fun k h0 hk2 hp2 => ?_) τ h
        have := hmin k h0 hk2 hp2
        rw [Ky_some xj] at this
        rw [Ky_some xi]; omega
    by_cases h2 : 2 * i + 2 < n
    · rw [decide_eq_true (show ((2 * i + 2 : Nat) : Int) < (n : Int) by omega)]
      simp only [wG_true]
      have x2 := List.getElem?_eq_getElem (show 2 * i + 2 < R.length by omega)
      rw [m_less, row_load hcs h]
      simp only [Option.bind_some, pu_some]
      refine less_ok h x2 x1 ?_
      unfold o_heap_down_k9
      refine wC_dec (fun g2 => ?_) fun g2 => ?_
      · refine k10 (2 * i + 2) h2 (by omega) (by omega) ?_
        intro k h0 hk2 hp2
        rcases (show k = 2 * i + 1 ∨ k = 2 * i + 2 by omega) with rfl | rfl
        · rw [Ky_some x1, Ky_some x2]; omega
        · exact Nat.le_refl _
      · refine k10 (2 * i + 1) hj1 (by omega) (by omega) ?_
        intro k h0 hk2 hp2
        rcases (show k = 2 * i + 1 ∨ k = 2 * i + 2 by omega) with rfl | rfl
        · exact Nat.le_refl _
        · rw [Ky_some x1, Ky_some x2]; omega
    · rw [decide_eq_false (show ¬ ((2 * i + 2 : Nat) : Int) < (n : Int) by omega)]
      simp only [wG_false]
      unfold o_heap_down_k9
      simp only [wC_false]
      refine k10 (2 * i + 1) hj1 (by omega) (by omega) ?_
      intro k h0 hk2 hp2
      have : k = 2 * i + 1 := by omega
      rw [this]; exact Nat.le_refl _
end
end Go.Ax.O
set_option maxRecDepth 100000
namespace Go.Ax.O
open Go.Proofs Go.RowKit

variable {l m : List Assn} {σ : AHeap} {Q : WK}

section
variable {cb : Nat} {cs : List Value} {rowv : Value} {R : List Rec} {I0 : Assn}
abbrev hv (cb : Nat) : Value := .iface t_p_cache_row (.pointer (some ⟨cb, 4, none⟩))

theorem fix_ok {p : Nat} {x : Rec} (hcs : cs.length = 4) (h : H (RowL cb cs rowv R I0) σ) (hx : R[p]? = some x) (hb : R.length < 1099511627776) (hex : HeapEx ku R R.length p) (hmax : ∀ k, k < R.length → Ky ku R k ≤ x.used)
    (hk : ∀ R' σ', R'.Perm R → HeapOk ku R' R'.length → H (RowL cb cs rowv R' I0) σ' → Q (.tuple #[]) σ') : E f_heap_Fix [hv cb, .int .i64 p] σ Q := by
  have hpl := (List.getElem?_eq_some_iff.1 hx).1
  apply o_heap_Fix_ev; unfold o_heap_Fix
  rw [m_len, row_load hcs h]
  simp only [Option.bind_some, pu_some]
  refine len_ok h ?_
  refine down_ok hcs h (Nat.le_refl _) hb (by omega) hex ?_
  intro R' i σ1 hi hp hok _ hsame h1
  simp only [un_not, pu_some]
  have hl := hp.length_eq
  by_cases hlt : p < i
  · rw [decide_eq_true hlt]
    simp
    exact hk R' σ1 hp (by rw [hl]; exact hok) h1
  · have hip : i = p := by omega
    have hR := hsame hip
    subst hR
    rw [decide_eq_false hlt]
    simp
    refine up_ok hcs h1 hx hb (fun k hk => hmax k (by omega)) ?_
    exact hk R' σ1 hp hok h1

theorem hpush_ok {p : Nat} {x : Rec} (hcs : cs.length = 4) (h : H (RowL cb cs rowv R (Star [ItemA p x, I0])) σ) (hb : R.length < 1099511627775) (hmax : ∀ k, k < R.length → Ky ku R k ≤ x.used)
    (hk : ∀ rowv' σ', H (RowL cb cs rowv' (R ++ [x]) I0) σ' → Q (.tuple #[]) σ') : E f_heap_Push [hv cb, .iface t_p_cache_item (.pointer (some ⟨x.ib, 0, none⟩))] σ Q := by
  apply o_heap_Push_ev; unfold o_heap_Push
  rw [m_push]
  simp only [pu_some]
  refine pushm_ok hcs h (by omega) ?_
  intro rowv' σ1 h1
  rw [m_len, row_load hcs h1]
  simp only [Option.bind_some, pu_some]
  refine len_ok h1 ?_
  simp
  rw [wrap_i64 (by omega)]
  refine up_ok (x := x) hcs h1 (by simp) (by simp; omega) (fun k hk => ?_) (hk rowv' σ1 h1)
  have := hmax k hk
  unfold Ky at this ⊢
  rw [List.getElem?_append_left hk]; exact this

theorem hpop_ok {n : Nat} {x : Rec} (hcs : cs.length = 4) (h : H (RowL cb cs rowv R I0) σ) (hn : R.length = n + 1) (hx : R[0]? = some x) (hb : R.length < 1099511627776) (hok : HeapOk ku R (n + 1))
    (hk : ∀ rowv' R' σ', (R' ++ [x]).Perm R → HeapOk ku R' R'.length → H (RowL cb cs rowv' R' (Star [ItemA n x, I0])) σ' → Q (.iface t_p_cache_item (.pointer (some ⟨x.ib, 0, none⟩))) σ') : E f_heap_Pop [hv cb] σ Q := by
  apply o_heap_Pop_ev; unfold o_heap_Pop
  rw [m_len, row_load hcs h]
  simp only [Option.bind_some, pu_some]
  refine len_ok h ?_
  simp only [bin_sub, pu_some]
  rw [wrap_i64 (by omega), show (R.length : Int) - 1 = (n : Int) by omega, m_swap, row_load hcs h]
  simp only [Option.bind_some, pu_some]
  have hy := List.getElem?_eq_getElem (show n < R.length by omega)
  refine swap_ok (i := 0) h hx hy ?_
  intro σ1 h1
  have hsl := swp_length R 0 n
  refine down_ok (i0 := 0) hcs h1 (by rw [hsl]; omega) (by rw [hsl]; exact hb) (by omega) (hok.pop (by omega)) ?_
  intro R' i σ2 _ hp hok2 htl _ h2
  rw [m_pop]
  simp only [pu_some]
  have hl : R'.length = n + 1 := by rw [hp.length_eq, hsl, hn]
  have hx2 : R'[n]? = some x := by rw [htl n (Nat.le_refl _), swp_get (by omega) (by omega), if_pos rfl, hx]
  refine popm_ok hcs h2 hl hx2 (by omega) ?_
  intro rowv' σ3 h3
  refine hk rowv' (R'.take n) σ3 ?_ ?_ h3
  · have e : R'.take n ++ [x] = R' := by
      have h5 : R'.take (n + 1) = R'.take n ++ [x] := by rw [List.take_add_one, hx2]; rfl
      rw [← h5, ← hl, List.take_length]
    rw [e]
    exact hp.trans (swp_perm R (by omega) (by omega))
  · rw [List.length_take, Nat.min_eq_left (by omega)]
    refine hok2.congr fun k hk => ?_
    rw [List.getElem?_take, if_pos hk]
end

/-! ### Maps with numbers as keys -/
abbrev Ent := Nat × Value × Nat
def ent (e : Ent) : MapEntry := { key := .int .i64 e.1, val := e.2.1, born := e.2.2 }
theorem find_no (a : Nat) : ∀ (es : List Ent) (i : Nat), (∀ e ∈ es, e.1 ≠ a) → Instr.findNow (.int .i64) (.int .i64 a) (es.map ent) i = some none
  | [], i, _ => rfl
  | e :: es, i, h => by
    have h1 : e.1 ≠ a := h e (by simp)
    have : Instr.sameNow (.int .i64) (.int .i64 a) (ent e).key = some false := by
      simp [Instr.sameNow, ent]; omega
    simp only [List.map_cons, Instr.findNow, this]
    exact find_no a es (i + 1) fun x hx => h x (by simp [hx])
theorem find_yes (a : Nat) : ∀ (es : List Ent) (i k : Nat) (e : Ent), (es.map (·.1)).Nodup → es[k]? = some e → e.1 = a → Instr.findNow (.int .i64) (.int .i64 a) (es.map ent) i = some (some (i + k, e.2.1))
  | [], i, k, e, _, h, _ => by simp at h
  | x :: es, i, 0, e, _, h, h1 => by
    simp at h; subst h; subst h1
    have : Instr.sameNow (.int .i64) (.int .i64 (x.1 : Nat)) (ent x).key = some true := by simp [Instr.sameNow, ent]
    simp only [List.map_cons, Instr.findNow, this]
    simp [ent]
  | x :: es, i, k + 1, e, hn, h, h1 => by
    simp at h
    simp only [List.map_cons, List.nodup_cons] at hn
    have hx : x.1 ≠ a := by
      intro e2
      exact hn.1 (List.mem_map.2 ⟨e, List.mem_of_getElem? h, by rw [h1, e2]⟩)
    have : Instr.sameNow (.int .i64) (.int .i64 a) (ent x).key = some false := by
      simp [Instr.sameNow, ent]; omega
    simp only [List.map_cons, Instr.findNow, this]
    rw [find_yes a es (i + 1) k e hn.2 h h1]
    congr 3; omega
theorem map_get {b clock : Nat} {es : List MapEntry} (hm : H (pt b (.map es clock) :: m) σ) : aEntries (.map (some b)) σ = some es := by
  simp [aEntries, hm.get0.1]
theorem lookup_eq (x k : Value) (ok : Bool) (σ : AHeap) : aLookup P t_m_int_p_cache_item x k ok σ = (aEntries x σ).bind fun es => (aFind (.int .i64) k es).bind fun r => match r with
      | some (_, v) => some (okV ok v true)
      | none => some (okV ok (.pointer none) false) := by kernel_rfl
theorem update_eq (r : Nat) (k v : Value) (σ : AHeap) : aMapUpdate P t_m_int_p_cache_item (.map (some r)) k v σ = match σ.get r with
    | some (.map es clock) => cond (keyV k) ((aFind (.int .i64) k es).bind fun f => match f with
      | some (i, _) => some (σ.set r (.map (es.modify i fun e => { e with key := k, val := v }) clock))
      | none => some (σ.set r (.map (es ++ [{ key := k, val := v, born := clock }]) (clock + 1)))) none
    | _ => none := by kernel_rfl
theorem delete_eq (r : Nat) (k : Value) (σ : AHeap) : aDelete P t_m_int_p_cache_item (.map (some r)) k σ = match σ.get r with
    | some (.map es clock) => (aFind (.int .i64) k es).bind fun f => match f with
      | some (i, _) => some (σ.set r (.map (es.eraseIdx i) clock))
      | none => some (σ.set r (.map es clock))
    | _ => none := by kernel_rfl

/-- A map from numbers to items. -/
structure MapFor (es : List Ent) (L : List (Nat × Nat)) : Prop where
  nd : (es.map (·.1)).Nodup
  to : ∀ e ∈ es, ∃ p ∈ L, e.1 = p.1 ∧ e.2.1 = .pointer (some ⟨p.2, 0, none⟩)
  from' : ∀ p ∈ L, ∃ e ∈ es, e.1 = p.1 ∧ e.2.1 = .pointer (some ⟨p.2, 0, none⟩)
theorem MapFor.perm {es : List Ent} {L M : List (Nat × Nat)} (h : MapFor es L) (hp : L.Perm M) : MapFor es M :=
  ⟨h.nd, fun e he => by obtain ⟨p, hp1, hp2⟩ := h.to e he; exact ⟨p, hp.mem_iff.1 hp1, hp2⟩, fun p hp1 => h.from' p (hp.mem_iff.2 hp1)⟩
def MapA (mb : Nat) (L : List (Nat × Nat)) : Assn := ex fun p : List Ent × Nat => sep (pure' (MapFor p.1 L)) (pt mb (.map (p.1.map ent) p.2))
theorem mapA_perm {mb : Nat} {L M : List (Nat × Nat)} (hp : L.Perm M) : MapA mb L = MapA mb M := by
  funext r; apply propext
  constructor
  · rintro ⟨p, a, b, j, ⟨rfl, h1⟩, h2⟩; exact ⟨p, _, b, j, ⟨rfl, h1.perm hp⟩, h2⟩
  · rintro ⟨p, a, b, j, ⟨rfl, h1⟩, h2⟩; exact ⟨p, _, b, j, ⟨rfl, h1.perm hp.symm⟩, h2⟩
theorem lookup_no {mb a i : Nat} {L : List (Nat × Nat)} (ok : Bool) (h : H l σ) (hi : l[i]? = some (MapA mb L)) (hno : ∀ p ∈ L, p.1 ≠ a) : aLookup P t_m_int_p_cache_item (.map (some mb)) (.int .i64 a) ok σ = some (okV ok (.pointer none) false) := by
  obtain ⟨⟨es, clock⟩, h1⟩ := H_ex.1 (h.front i hi)
  rw [H_sep] at h1
  obtain ⟨hm, h2⟩ := H_pure.1 h1
  rw [lookup_eq, map_get h2]
  simp only [Option.bind_some, aFind, keyD, cond_true]
  rw [find_no a es 0 fun e he => by obtain ⟨p, hp, e1, _⟩ := hm.to e he; rw [e1]; exact hno p hp]
  rfl
theorem lookup_yes {mb i : Nat} {L : List (Nat × Nat)} {p : Nat × Nat} (ok : Bool) (h : H l σ) (hi : l[i]? = some (MapA mb L)) (hp : p ∈ L) : aLookup P t_m_int_p_cache_item (.map (some mb)) (.int .i64 p.1) ok σ = some (okV ok (.pointer (some ⟨p.2, 0, none⟩)) true) := by
  obtain ⟨⟨es, clock⟩, h1⟩ := H_ex.1 (h.front i hi)
  rw [H_sep] at h1
  obtain ⟨hm, h2⟩ := H_pure.1 h1
  rw [lookup_eq, map_get h2]
  simp only [Option.bind_some, aFind, keyD, cond_true]
  obtain ⟨e, he, e1, e2⟩ := hm.from' p hp
  obtain ⟨k, hk, hke⟩ := List.getElem_of_mem he
  rw [find_yes p.1 es 0 k e hm.nd (by rw [List.getElem?_eq_getElem hk, hke]) e1, e2]
  rfl
theorem update_new {mb a ib i : Nat} {L : List (Nat × Nat)} {k : AHeap → Prop} (h : H l σ) (hi : l[i]? = some (MapA mb L)) (hno : ∀ p ∈ L, p.1 ≠ a) (hk : ∀ σ', H (l.set i (MapA mb (L ++ [(a, ib)]))) σ' → k σ') :
    pu (aMapUpdate P t_m_int_p_cache_item (.map (some mb)) (.int .i64 a) (.pointer (some ⟨ib, 0, none⟩)) σ) k := by
  obtain ⟨⟨es, clock⟩, h1⟩ := H_ex.1 (h.front i hi)
  rw [H_sep] at h1
  obtain ⟨hm, h2⟩ := H_pure.1 h1
  have hm : MapFor es L := hm
  rw [update_eq, h2.get0.1]
  simp only [keyV, cond_true, aFind, keyD]
  have hne : ∀ e ∈ es, e.1 ≠ a := fun e he => by obtain ⟨p, hp, e1, _⟩ := hm.to e he; rw [e1]; exact hno p hp
  rw [find_no a es 0 hne]
  simp only [Option.bind_some, pu_some]
  have h3 := h2.set0 (.map ((es ++ [((a, .pointer (some ⟨ib, 0, none⟩), clock) : Ent)]).map ent) (clock + 1))
  refine hk _ (H.back i hi (H_ex.2 ⟨(es ++ [(a, .pointer (some ⟨ib, 0, none⟩), clock)], clock + 1), ?_⟩))
  rw [H_sep]
  refine H_pure.2 ⟨⟨?_, ?_, ?_⟩, ?_⟩
  · simp only [List.map_append, List.map_cons, List.map_nil]
    rw [List.nodup_append]
    refine ⟨hm.nd, by simp, ?_⟩
    intro x hx y hy
    simp at hy; subst hy
    obtain ⟨e, he, rfl⟩ := List.mem_map.1 hx
    exact hne e he
  · intro e he
    rcases List.mem_append.1 he with he | he
    · obtain ⟨p, hp, hpe⟩ := hm.to e he
      exact ⟨p, List.mem_append_left _ hp, hpe⟩
    · simp at he; subst he
      exact ⟨(a, ib), by simp, rfl, rfl⟩
  · intro p hp
    rcases List.mem_append.1 hp with hp | hp
    · obtain ⟨e, he, hpe⟩ := hm.from' p hp
      exact ⟨e, List.mem_append_left _ he, hpe⟩
    · simp at hp; subst hp
      exact ⟨(a, .pointer (some ⟨ib, 0, none⟩), clock), by simp, rfl, rfl⟩
  · simpa [ent] using h3
theorem map_erase {α β : Type} (f : α → β) : ∀ (l : List α) (j : Nat), (l.eraseIdx j).map f = (l.map f).eraseIdx j
  | [], j => by simp
  | x :: l, 0 => by simp
  | x :: l, j + 1 => by simp [map_erase f l j]
theorem delete_yes {mb i : Nat} {L : List (Nat × Nat)} {p : Nat × Nat} {k : AHeap → Prop} (h : H l σ) (hi : l[i]? = some (MapA mb (L ++ [p]))) (hno : ∀ q ∈ L, q.1 ≠ p.1) (hk : ∀ σ', H (l.set i (MapA mb L)) σ' → k σ') :
    pu (aDelete P t_m_int_p_cache_item (.map (some mb)) (.int .i64 p.1) σ) k := by
  obtain ⟨⟨es, clock⟩, h1⟩ := H_ex.1 (h.front i hi)
  rw [H_sep] at h1
  obtain ⟨hm, h2⟩ := H_pure.1 h1
  have hm : MapFor es (L ++ [p]) := hm
  rw [delete_eq, h2.get0.1]
  simp only [aFind, keyD, cond_true]
  obtain ⟨e, he, e1, e2⟩ := hm.from' p (by simp)
  obtain ⟨j, hj, hje⟩ := List.getElem_of_mem he
  rw [find_yes p.1 es 0 j e hm.nd (by rw [List.getElem?_eq_getElem hj, hje]) e1]
  simp only [Option.bind_some, pu_some, Nat.zero_add]
  have h3 := h2.set0 (.map ((es.eraseIdx j).map ent) clock)
  refine hk _ (H.back i hi (H_ex.2 ⟨(es.eraseIdx j, clock), ?_⟩))
  rw [H_sep]
  have hsub : ∀ x ∈ es.eraseIdx j, x ∈ es ∧ x.1 ≠ p.1 := by
    intro x hx
    have hxe := List.mem_of_mem_eraseIdx hx
    refine ⟨hxe, fun e3 => ?_⟩
    obtain ⟨k, hk, hkj⟩ := List.mem_eraseIdx_iff_getElem.1 hx
    have h5 : (es.map (·.1))[k]'(by simpa using hk) = (es.map (·.1))[j]'(by simpa using hj) := by
      simp only [List.getElem_map, hkj.2, hje, e3, e1]
    exact hkj.1 ((List.getElem_inj hm.nd).1 h5)
  refine H_pure.2 ⟨⟨?_, ?_, ?_⟩, ?_⟩
  · rw [map_erase]
    exact hm.nd.sublist (List.eraseIdx_sublist _ _)
  · intro x hx
    obtain ⟨hxe, hxn⟩ := hsub x hx
    obtain ⟨q, hq, hq1, hq2⟩ := hm.to x hxe
    rcases List.mem_append.1 hq with hq | hq
    · exact ⟨q, hq, hq1, hq2⟩
    · simp at hq; subst hq; exact absurd hq1 hxn
  · intro q hq
    obtain ⟨x, hx, hx1, hx2⟩ := hm.from' q (List.mem_append_left _ hq)
    refine ⟨x, ?_, hx1, hx2⟩
    obtain ⟨k, hk, hkx⟩ := List.getElem_of_mem hx
    refine List.mem_eraseIdx_iff_getElem.2 ⟨k, hk, ?_, hkx⟩
    intro e3
    subst e3
    have : x = e := by rw [← hkx, ← hje]
    exact hno q hq (by rw [← hx1, this, e1])
  · rw [map_erase]  at h3
    rw [map_erase]; exact h3
end Go.Ax.O
set_option maxRecDepth 100000
namespace Go.Ax.O
open Go.Proofs Go.RowKit

variable {l m : List Assn} {σ : AHeap} {Q : WK}

/-! ### Rows in their order of use -/
theorem perm_set {α : Type} {R A B : List α} {k : Nat} {x y : α} (hk : R[k]? = some x) (hp : R.Perm (A ++ x :: B)) : (R.set k y).Perm (A ++ y :: B) := by
  have hlt := (List.getElem?_eq_some_iff.1 hk).1
  have e1 : R = R.take k ++ x :: R.drop (k + 1) := by
    have := List.getElem_cons_drop hlt
    rw [(List.getElem?_eq_some_iff.1 hk).2] at this
    rw [this, List.take_append_drop]
  have e2 : R.set k y = R.take k ++ y :: R.drop (k + 1) := by
    rw [List.set_eq_take_append_cons_drop, if_pos hlt]
  rw [e2]
  rw [e1] at hp
  have h1 := (List.perm_middle.symm.trans hp).trans List.perm_middle
  have h2 := h1.cons_inv
  exact (List.perm_middle.trans (h2.cons y)).trans List.perm_middle.symm

def pairs (R : List Rec) : List (Nat × Nat) := R.map fun r => (r.pl, r.ib)
/-- The heap's row R, and the row M in its order of use. -/
structure COk (R M : List Rec) (now : Nat) : Prop where
  perm : R.Perm M
  srt : M.Pairwise fun a b => a.used < b.used
  le : ∀ r ∈ M, r.used ≤ now
  heap : HeapOk ku R R.length
  nd : (M.map (·.pl)).Nodup
theorem COk.top {R M : List Rec} {now : Nat} {x : Rec} (h : COk R (x :: M) now) : R[0]? = some x := by
  have hl := h.perm.length_eq
  have h0 := List.getElem?_eq_getElem (show 0 < R.length by rw [hl]; simp)
  have hm : R[0]'(by rw [hl]; simp) ∈ x :: M := h.perm.mem_iff.1 (List.getElem_mem _)
  rcases List.mem_cons.1 hm with e | hm
  · rw [h0, e]
  · exfalso
    have hs := List.pairwise_cons.1 h.srt
    have h1 := hs.1 _ hm
    have hx : x ∈ R := h.perm.mem_iff.2 (by simp)
    obtain ⟨k, hk, hkx⟩ := List.getElem_of_mem hx
    have h2 := h.heap.top k hk
    rw [Ky_some h0, Ky_some (x := x) (by rw [List.getElem?_eq_getElem hk, hkx])] at h2
    omega
/-- Used once more: it goes behind the others. -/
theorem COk.use {R R' A B : List Rec} {x x' : Rec} {now : Nat} (h : COk R (A ++ x :: B) now) (hu : x'.used = now + 1) (hpl : x'.pl = x.pl) (hp : R'.Perm (A ++ x' :: B)) (hok : HeapOk ku R' R'.length) : COk R' (A ++ B ++ [x']) (now + 1) := by
  have hs := h.srt
  have hsub : (A ++ B).Sublist (A ++ x :: B) := List.Sublist.append (List.Sublist.refl _) (List.sublist_cons_self _ _)
  refine ⟨?_, ?_, ?_, hok, ?_⟩
  · refine hp.trans ?_
    rw [List.append_assoc]
    exact List.Perm.append_left A (by simpa using (List.perm_append_comm (l₁ := [x']) (l₂ := B)))
  · rw [List.pairwise_append]
    refine ⟨hs.sublist hsub, List.pairwise_singleton _ _, ?_⟩
    intro a ha b hb
    simp at hb; subst hb
    have := h.le a (hsub.subset ha)
    omega
  · intro r hr
    rcases List.mem_append.1 hr with hr | hr
    · have := h.le r (hsub.subset hr); omega
    · simp at hr; subst hr; omega
  · have h1 := h.nd
    simp only [List.map_append, List.map_cons, List.map_nil] at h1 ⊢
    rw [hpl]
    refine (List.Perm.nodup_iff ?_).1 h1
    rw [List.append_assoc]
    exact List.Perm.append_left _ (by simpa using (List.perm_append_comm (l₁ := [x.pl]) (l₂ := B.map (·.pl))))
theorem COk.new {R R' M : List Rec} {x : Rec} {now : Nat} (h : COk R M now) (hu : x.used = now + 1) (hpl : ∀ r ∈ M, r.pl ≠ x.pl) (hp : R'.Perm (M ++ [x])) (hok : HeapOk ku R' R'.length) : COk R' (M ++ [x]) (now + 1) := by
  refine ⟨hp, ?_, ?_, hok, ?_⟩
  · rw [List.pairwise_append]
    refine ⟨h.srt, List.pairwise_singleton _ _, ?_⟩
    intro a ha b hb
    simp at hb; subst hb
    have := h.le a ha
    omega
  · intro r hr
    rcases List.mem_append.1 hr with hr | hr
    · have := h.le r hr; omega
    · simp at hr; subst hr; omega
  · simp only [List.map_append, List.map_cons, List.map_nil]
    rw [List.nodup_append]
    refine ⟨h.nd, by simp, ?_⟩
    intro a ha b hb
    simp at hb; subst hb
    obtain ⟨r, hr, rfl⟩ := List.mem_map.1 ha
    exact hpl r hr
theorem COk.out {R R' M : List Rec} {x : Rec} {now : Nat} (h : COk R (x :: M) now) (hp : (R' ++ [x]).Perm R) (hok : HeapOk ku R' R'.length) : COk R' M now := by
  refine ⟨?_, (List.pairwise_cons.1 h.srt).2, fun r hr => h.le r (by simp [hr]), hok, ?_⟩
  · have h1 : (x :: R').Perm (x :: M) := ((List.perm_append_comm (l₁ := [x]) (l₂ := R')).trans hp).trans h.perm
    exact h1.cons_inv
  · have := h.nd
    simp only [List.map_cons, List.nodup_cons] at this
    exact this.2
/-- Another value of what is told of a block. -/
theorem COk.mod {R A B : List Rec} {x y : Rec} {k now : Nat} (h : COk R (A ++ x :: B) now) (hk : R[k]? = some x) (hu : y.used = x.used) (hpl : y.pl = x.pl) : COk (R.set k y) (A ++ y :: B) now := by
  have hlt := (List.getElem?_eq_some_iff.1 hk).1
  refine ⟨perm_set hk h.perm, ?_, ?_, ?_, ?_⟩
  · have hs := h.srt
    rw [List.pairwise_append, List.pairwise_cons] at hs ⊢
    obtain ⟨a, ⟨b, c⟩, d⟩ := hs
    refine ⟨a, ⟨fun z hz => by rw [hu]; exact b z hz, c⟩, fun z hz w hw => ?_⟩
    rcases List.mem_cons.1 hw with rfl | hw
    · rw [hu]; exact d z hz x (by simp)
    · exact d z hz w (by simp [hw])
  · intro r hr
    rcases List.mem_append.1 hr with hr | hr
    · exact h.le r (by simp [hr])
    · rcases List.mem_cons.1 hr with rfl | hr
      · rw [hu]; exact h.le x (by simp)
      · exact h.le r (by simp [hr])
  · have e : ∀ j, Ky ku (R.set k y) j = Ky ku R j := by
      intro j
      unfold Ky
      rw [List.getElem?_set]
      by_cases e : k = j
      · subst e; rw [if_pos rfl, if_pos hlt, hk]; simp only [Option.map_some, Option.getD_some]; exact hu
      · rw [if_neg e]
    rw [List.length_set]
    intro j h0 hj
    rw [e, e]; exact h.heap j h0 hj
  · have := h.nd
    simp only [List.map_append, List.map_cons] at this ⊢
    rw [hpl]; exact this
end Go.Ax.O
set_option maxRecDepth 100000
namespace Go.Ax.O
open Go.Proofs Go.RowKit

variable {l m : List Assn} {σ : AHeap} {Q : WK}

/-- The cache, open. -/
def CO (cb : Nat) (dv : Value) (nn now mb : Nat) (rowv : Value) (R M : List Rec) (I0 : Assn) : List Assn :=
  [pt cb (.cells [dv, .int .i64 nn, .int .u64 now, .map (some mb), rowv] t_cache_Cache false), Own t_p_cache_item 1 rowv R.length (ptrs R), Star (itemsL 0 R), MapA mb (pairs M), I0]
section
variable {cb nn now mb : Nat} {dv rowv : Value} {R M : List Rec} {I0 : Assn}
abbrev c4 (dv : Value) (nn now mb : Nat) : List Value := [dv, .int .i64 nn, .int .u64 now, .map (some mb)]
theorem co_row : H (CO cb dv nn now mb rowv R M I0) σ ↔ H (RowL cb (c4 dv nn now mb) rowv R (Star [MapA mb (pairs M), I0])) σ := by
  constructor
  · intro h
    have h1 : H [MapA mb (pairs M), I0, pt cb (.cells (c4 dv nn now mb ++ [rowv]) t_cache_Cache false), Own t_p_cache_item 1 rowv R.length (ptrs R), Star (itemsL 0 R)] σ := h.pick [3, 4, 0, 1, 2] (by decide)
    exact ((H_star (l := [MapA mb (pairs M), I0])).2 h1).pick [1, 2, 3, 0] (by decide)
  · intro h
    have h1 : H [Star [MapA mb (pairs M), I0], pt cb (.cells (c4 dv nn now mb ++ [rowv]) t_cache_Cache false), Own t_p_cache_item 1 rowv R.length (ptrs R), Star (itemsL 0 R)] σ := h.pick [3, 0, 1, 2] (by decide)
    exact ((H_star (l := [MapA mb (pairs M), I0])).1 h1).pick [2, 3, 4, 0, 1] (by decide)
theorem co_perm {M' : List Rec} (hp : (pairs M).Perm (pairs M')) : CO cb dv nn now mb rowv R M I0 = CO cb dv nn now mb rowv R M' I0 := by
  unfold CO; rw [mapA_perm hp]

theorem use_k7 {k : Nat} {x : Rec} (h : H (CO cb dv nn now mb rowv R M I0) σ) (hk : R[k]? = some x) (hle : ∀ r ∈ R, r.used ≤ now) (hok : HeapOk ku R R.length) (hb : R.length < 1099511627776)
    (hQ : ∀ R' σ', R'.Perm (R.set k { x with used := now }) → HeapOk ku R' R'.length → H (CO cb dv nn now mb rowv R' M I0) σ' → Q (.pointer (some ⟨x.ib, 0, none⟩)) σ') : o_cache_Cache_use_k7 Q (.pointer (some ⟨x.ib, 0, none⟩)) (.pointer (some ⟨cb, 0, none⟩)) σ := by
  have hkl := (List.getElem?_eq_some_iff.1 hk).1
  unfold o_cache_Cache_use_k7
  have r2 := load1 (n := 1) (o := 2) (h.row 0 rfl)
  simp [r2]
  have h1 := item_out (h.pick [2, 0, 1, 3, 4] (by decide)) hk
  unfold ItemA at h1
  rw [H_sep] at h1
  refine store1 h1 0 rfl rfl (by simp) ?_
  intro σ1 h2
  rw [i_160 _ rfl]
  simp
  have r1 := load1 (n := 1) (o := 1) (h2.row 0 rfl)
  simp [r1]
  have h3 := item_in (r := { x with used := now }) hkl (H_sep.2 h2)
  have h4 : H (CO cb dv nn now mb rowv (R.set k { x with used := now }) M I0) σ1 := by
    have h5 := h3.pick [1, 2, 0, 3, 4] (by decide)
    have e : ptrs (R.set k { x with used := now }) = ptrs R := by
      unfold ptrs
      rw [List.map_set]
      apply List.ext_getElem?
      intro j
      rw [List.getElem?_set]
      split
      · rename_i e; subst e
        rw [List.length_map, if_pos hkl, List.getElem?_map, hk]; rfl
      · rfl
    unfold CO
    rw [e, List.length_set]
    exact h5
  have hx : (R.set k { x with used := now })[k]? = some { x with used := now } := by rw [List.getElem?_set, if_pos rfl, if_pos hkl]
  have hxle := hle x (List.mem_of_getElem? hk)
  refine fix_ok (cs := c4 dv nn now mb) rfl (co_row.1 h4) hx (by simpa using hb) ?_ ?_ ?_
  · rw [List.length_set]
    exact hok.grow hkl (by rw [Ky_some hk]; exact hxle)
  · intro j hj
    obtain ⟨y, hy⟩ : ∃ y, (R.set k { x with used := now })[j]? = some y := ⟨_, List.getElem?_eq_getElem hj⟩
    rw [Ky_some hy]
    have hym := List.mem_of_getElem? hy
    rcases List.mem_or_eq_of_mem_set hym with q | q
    · exact hle y q
    · rw [q]; exact Nat.le_refl _
  · intro R' σ2 hp hok2 h5
    exact hQ R' σ2 hp hok2 (co_row.2 h5)

theorem use_yes {A B : List Rec} {x : Rec} (h : H (CO cb dv nn now mb rowv R (A ++ x :: B) I0) σ) (hc : COk R (A ++ x :: B) now) (hnow : now + 1 < 18446744073709551616) (hb : R.length < 1099511627776)
    (hQ : ∀ R' σ', COk R' (A ++ B ++ [{ x with used := now + 1 }]) (now + 1) → H (CO cb dv nn (now + 1) mb rowv R' (A ++ B ++ [{ x with used := now + 1 }]) I0) σ' → Q (.pointer (some ⟨x.ib, 0, none⟩)) σ') :
    E f_cache_Cache_use [.pointer (some ⟨cb, 0, none⟩), .int .i64 x.pl] σ Q := by
  apply o_cache_Cache_use_ev; unfold o_cache_Cache_use
  have r2 := load1 (n := 1) (o := 2) (h.row 0 rfl)
  simp [r2]
  rw [wrap_u64 (by omega)]
  refine store1 h 0 rfl rfl (by simp) ?_
  intro σ1 h1
  have r3 := load1 (n := 1) (o := 3) (h1.row 0 rfl)
  simp [r3]
  have hl := lookup_yes (p := (x.pl, x.ib)) true h1 (i := 3) rfl (by simp [pairs])
  simp only at hl
  rw [hl]
  simp [okV]
  have hm : x ∈ R := hc.perm.mem_iff.2 (by simp)
  obtain ⟨k, hk, hkx⟩ := List.getElem_of_mem hm
  have hk' : R[k]? = some x := by rw [List.getElem?_eq_getElem hk, hkx]
  have h2 : H (CO cb dv nn (now + 1) mb rowv R (A ++ x :: B) I0) σ1 := h1
  refine use_k7 h2 hk' (fun r hr => by have := hc.le r (hc.perm.mem_iff.1 hr); omega) hc.heap hb ?_
  intro R' σ2 hp hok h3
  have hp2 := hp.trans (perm_set (y := { x with used := now + 1 }) hk' hc.perm)
  refine hQ R' σ2 (hc.use rfl rfl hp2 hok) ?_
  rw [co_perm (M' := A ++ x :: B)]
  · exact h3
  · unfold pairs
    simp only [List.map_append, List.map_cons, List.map_nil, List.append_assoc]
    exact List.Perm.append_left _ (by simp)

theorem use_no {a : Nat} (h : H (CO cb dv nn now mb rowv R M I0) σ) (hc : COk R M now) (hno : ∀ r ∈ M, r.pl ≠ a) (hnow : now + 1 < 18446744073709551616) (hb : R.length < 1099511627775)
    (hQ : ∀ rowv' R' ib σ', COk R' (M ++ [⟨ib, a, now + 1, false, .slice none 0 0, []⟩]) (now + 1) → H (CO cb dv nn (now + 1) mb rowv' R' (M ++ [⟨ib, a, now + 1, false, .slice none 0 0, []⟩]) I0) σ' → Q (.pointer (some ⟨ib, 0, none⟩)) σ') :
    E f_cache_Cache_use [.pointer (some ⟨cb, 0, none⟩), .int .i64 a] σ Q := by
  apply o_cache_Cache_use_ev; unfold o_cache_Cache_use
  have r2 := load1 (n := 1) (o := 2) (h.row 0 rfl)
  simp [r2]
  rw [wrap_u64 (by omega)]
  refine store1 h 0 rfl rfl (by simp) ?_
  intro σ1 h1
  have r3 := load1 (n := 1) (o := 3) (h1.row 0 rfl)
  have r2 := load1 (n := 1) (o := 2) (h1.row 0 rfl)
  simp [r3]
  have hnp : ∀ p ∈ pairs M, p.1 ≠ a := by
    intro p hp
    obtain ⟨r, hr, rfl⟩ := List.mem_map.1 hp
    exact hno r hr
  have hl := lookup_no (a := a) true h1 (i := 3) rfl hnp
  rw [hl]
  simp [okV, r2, splice]
  refine new_ok h1 ?_
  intro ib σ2 h2
  have r3 := load1 (n := 1) (o := 3) (h2.row 0 rfl)
  simp [r3]
  refine update_new h2 (i := 3) rfl hnp ?_
  intro σ3 h3
  rw [i_160 _ rfl, i_121 _ rfl]
  simp
  let x : Rec := ⟨ib, a, now + 1, false, .slice none 0 0, []⟩
  have e1 : pairs M ++ [(a, ib)] = pairs (M ++ [x]) := by simp [pairs, x]
  rw [e1] at h3
  have h4 : H (RowL cb (c4 dv nn (now + 1) mb) rowv R (Star [ItemA 0 x, Star [MapA mb (pairs (M ++ [x])), I0]])) σ3 := by
    have h5 : H [ItemA 0 x, Star [MapA mb (pairs (M ++ [x])), I0], pt cb (.cells (c4 dv nn (now + 1) mb ++ [rowv]) t_cache_Cache false), Own t_p_cache_item 1 rowv R.length (ptrs R), Star (itemsL 0 R)] σ3 := by
      have h6 : H [MapA mb (pairs (M ++ [x])), I0, pt cb (.cells (c4 dv nn (now + 1) mb ++ [rowv]) t_cache_Cache false), Own t_p_cache_item 1 rowv R.length (ptrs R), Star (itemsL 0 R), pt ib (.cells [.int .i64 a, .int .i64 0, .int .u64 (now + 1), .bool false, .slice none 0 0] t_cache_item false)] σ3 := h3.pick [3, 4, 0, 1, 2, 5] (by decide)
      have h7 := (H_star (l := [MapA mb (pairs (M ++ [x])), I0])).2 h6
      have h8 : H [pt ib (.cells [.int .i64 a, .int .i64 0, .int .u64 (now + 1), .bool false, .slice none 0 0] t_cache_item false), Star [MapA mb (pairs (M ++ [x])), I0], pt cb (.cells (c4 dv nn (now + 1) mb ++ [rowv]) t_cache_Cache false), Own t_p_cache_item 1 rowv R.length (ptrs R), Star (itemsL 0 R)] σ3 := h7.pick [4, 0, 1, 2, 3] (by decide)
      have hB : Ax.H (BytesV (.slice none 0 0) [] :: [pt ib (.cells [.int .i64 a, .int .i64 0, .int .u64 (now + 1), .bool false, .slice none 0 0] t_cache_item false), Star [MapA mb (pairs (M ++ [x])), I0], pt cb (.cells (c4 dv nn (now + 1) mb ++ [rowv]) t_cache_Cache false), Own t_p_cache_item 1 rowv R.length (ptrs R), Star (itemsL 0 R)]) σ3 :=
        (H_pure.2 ⟨⟨rfl, rfl⟩, h8⟩ : H (pure' (Value.slice none 0 0 = .slice none 0 0 ∧ ([] : List UInt8) = []) :: _) σ3).map0 fun r hr => .inl hr
      unfold ItemA
      rw [H_sep]
      exact hB.pick [1, 0, 2, 3, 4, 5] (by decide)
    exact ((H_star (l := [ItemA 0 x, Star [MapA mb (pairs (M ++ [x])), I0]])).2 h5).pick [1, 2, 3, 0] (by decide)
  have hleR : ∀ r ∈ R, r.used ≤ now := fun r hr => hc.le r (hc.perm.mem_iff.1 hr)
  refine hpush_ok (cs := c4 dv nn (now + 1) mb) (x := x) rfl h4 hb ?_ ?_
  · intro k hk
    rw [Ky_some (List.getElem?_eq_getElem hk)]
    have := hleR _ (List.getElem_mem hk)
    show _ ≤ now + 1
    omega
  · intro rowv' σ4 h5
    have h6 : H (CO cb dv nn (now + 1) mb rowv' (R ++ [x]) (M ++ [x]) I0) σ4 := co_row.2 h5
    have hx : (R ++ [x])[R.length]? = some x := by simp
    have hheap : HeapOk ku (R ++ [x]) (R ++ [x]).length := by
      intro k h0 hk
      simp only [List.length_append, List.length_cons, List.length_nil] at hk
      by_cases e : k = R.length
      · subst e
        rw [Ky_some hx]
        have hp : (R.length - 1) / 2 < R.length := by omega
        rw [Ky_some (x := R[(R.length - 1) / 2]) (by rw [List.getElem?_append_left hp, List.getElem?_eq_getElem hp])]
        have := hleR _ (List.getElem_mem hp)
        show _ ≤ now + 1
        omega
      · have := hc.heap k h0 (by omega)
        unfold Ky at this ⊢
        rw [List.getElem?_append_left (by omega), List.getElem?_append_left (by omega)]
        exact this
    refine use_k7 h6 hx ?_ hheap (by simp; omega) ?_
    · intro r hr
      rcases List.mem_append.1 hr with hr | hr
      · have := hleR r hr; omega
      · simp at hr; subst hr; exact Nat.le_refl _
    · intro R' σ5 hp hok h7
      have e2 : (R ++ [x]).set R.length { x with used := now + 1 } = R ++ [x] := by simp [x]
      rw [e2] at hp
      refine hQ rowv' R' ib σ5 (hc.new rfl hno (hp.trans (hc.perm.append_right [x])) hok) h7
end
end Go.Ax.O
set_option maxRecDepth 100000
namespace Go.Ax.O
open Go.Proofs Go.RowKit

variable {l m : List Assn} {σ : AHeap} {Q : WK}

theorem bytesV_rob {v : Value} {x : List UInt8} (hx : x ≠ []) : BytesV v x = RoB v x := by
  funext r; apply propext
  constructor
  · rintro (⟨_, _, h⟩ | h)
    · exact absurd h hx
    · exact h
  · exact .inr
theorem bytesV_dup (v : Value) (x : List UInt8) : Dup (BytesV v x) := by
  rintro r (h | h)
  · obtain ⟨a, b, j, p, q⟩ := Dup.pure _ r h
    exact ⟨a, b, j, .inl p, .inl q⟩
  · obtain ⟨a, b, j, p, q⟩ := RoB.dup v x r h
    exact ⟨a, b, j, .inr p, .inr q⟩
/-- A disk whose power stays. -/
structure DPlain (D : DM) (n : Nat) : Prop where
  ok : D.Ok n
  off : D.off = false
  fuse : D.fuse = 0
theorem DPlain.fling {D : DM} {n a : Nat} {bs : List UInt8} (h : DPlain D n) (ha : a < n) (hb : bs.length = 256) : DPlain (D.fling a bs) n := ⟨fling_Ok h.ok ha hb, h.off, h.fuse⟩
theorem set_same {α : Type} {R : List α} {k : Nat} {x : α} (hk : R[k]? = some x) : R.set k x = R := by
  apply List.ext_getElem?
  intro j
  rw [List.getElem?_set]
  split
  · rename_i e; subst e; rw [hk, if_pos (List.getElem?_eq_some_iff.1 hk).1]
  · rfl
theorem ptrs_set {R : List Rec} {k : Nat} {x y : Rec} (hk : R[k]? = some x) (hy : y.ib = x.ib) : ptrs (R.set k y) = ptrs R := by
  unfold ptrs
  rw [List.map_set, hy]
  exact set_same (by rw [List.getElem?_map, hk]; rfl)

section
variable {cb nn now mb n : Nat} {dv rowv : Value} {R M A B : List Rec} {I0 : Assn} {D : DM}
/-- What is left of a write behind it. -/
def wrote (D : DM) (x : Rec) : DM := if x.dirty then D.fling x.pl x.b else D
abbrev clean (x : Rec) : Rec := { x with dirty := false }

theorem pairs_mod {x y : Rec} (hpl : y.pl = x.pl) (hib : y.ib = x.ib) : pairs (A ++ y :: B) = pairs (A ++ x :: B) := by simp [pairs, hpl, hib]

theorem witem_ok {k : Nat} {x : Rec} (h : H (CO cb dv nn now mb rowv R (A ++ x :: B) (Star [Disk dv D, I0])) σ) (hk : R[k]? = some x) (hD : DPlain D n) (hpl : x.pl < n) (hxb : x.b.length = 256) (hm : D.fly.length < 1099511627776)
    (hQ : ∀ σ', H (CO cb dv nn now mb rowv (R.set k (clean x)) (A ++ clean x :: B) (Star [Disk dv (wrote D x), I0])) σ' → Q (.int .i64 0) σ') : E f_cache_Cache_write [.pointer (some ⟨cb, 0, none⟩), .pointer (some ⟨x.ib, 0, none⟩)] σ Q := by
  have hkl := (List.getElem?_eq_some_iff.1 hk).1
  apply o_cache_Cache_write_ev; unfold o_cache_Cache_write
  have h0 : H [Star [Disk dv D, I0], Star (itemsL 0 R), pt cb (.cells [dv, .int .i64 nn, .int .u64 now, .map (some mb), rowv] t_cache_Cache false), Own t_p_cache_item 1 rowv R.length (ptrs R), MapA mb (pairs (A ++ x :: B))] σ := h.pick [4, 2, 0, 1, 3] (by decide)
  have h1 : H [Star (itemsL 0 R), Disk dv D, I0, pt cb (.cells [dv, .int .i64 nn, .int .u64 now, .map (some mb), rowv] t_cache_Cache false), Own t_p_cache_item 1 rowv R.length (ptrs R), MapA mb (pairs (A ++ x :: B))] σ := ((H_star (l := [Disk dv D, I0])).1 h0).pick [2, 0, 1, 3, 4, 5] (by decide)
  have h2 := item_out h1 hk
  unfold ItemA at h2
  rw [H_sep, bytesV_rob (by intro e; rw [e] at hxb; simp at hxb)] at h2
  have r3 := load1 (n := 1) (o := 3) (h2.row 0 rfl)
  have r0 := load1 (n := 1) (o := 0) (h2.row 0 rfl)
  have r4 := load1 (n := 1) (o := 4) (h2.row 0 rfl)
  have c0 := load1 (n := 1) (o := 0) (h2.row 5 rfl)
  simp [r3]
  cases hd : x.dirty with
  | false =>
    simp
    have e : clean x = x := by cases x; simp_all [clean]
    have e2 : wrote D x = D := by simp [wrote, hd]
    rw [e, e2, set_same hk] at hQ
    exact hQ σ h
  | true =>
    simp [r0, r4, c0]
    refine write_ok (bs := x.b) h2 3 rfl hD.ok (by rw [hD.fuse]; omega) hm (by omega) (fun τ hτ => hτ.rob_rd 1 rfl) ?_
    rw [write_plain hD.ok hD.off hD.fuse hpl hxb]
    intro σ1 h3
    simp
    refine store1 h3 0 rfl rfl (by simp) ?_
    intro σ2 h4
    have e2 : wrote D x = D.fling x.pl x.b := by simp [wrote, hd]
    rw [e2] at hQ
    refine hQ σ2 ?_
    have h5 : H [pt x.ib (.cells [.int .i64 x.pl, .int .i64 k, .int .u64 x.used, .bool false, x.sv] t_cache_item false), RoB x.sv x.b, Star ((itemsL 0 R).set k emp), Disk dv (D.fling x.pl x.b), I0, pt cb (.cells [dv, .int .i64 nn, .int .u64 now, .map (some mb), rowv] t_cache_Cache false), Own t_p_cache_item 1 rowv R.length (ptrs R), MapA mb (pairs (A ++ x :: B))] σ2 := h4
    rw [← bytesV_rob (v := x.sv) (x := x.b) (by intro e; rw [e] at hxb; simp at hxb)] at h5
    have h6 := item_in (r := clean x) hkl (H_sep.2 h5)
    have h7 := (H_star (l := [Disk dv (D.fling x.pl x.b), I0])).2 (h6.pick [1, 2, 0, 3, 4, 5] (by decide))
    unfold CO
    rw [pairs_mod (x := x) (y := clean x) rfl rfl, ptrs_set (y := clean x) hk rfl, List.length_set]
    exact h7.pick [2, 3, 1, 4, 0] (by decide)

/-- Room for a block. -/
theorem room_no (h : H (CO cb dv nn now mb rowv R M I0) σ) (hlt : R.length < nn) (hQ : Q (.int .i64 0) σ) : E f_cache_Cache_room [.pointer (some ⟨cb, 0, none⟩)] σ Q := by
  apply o_cache_Cache_room_ev; unfold o_cache_Cache_room
  have r4 := load1 (n := 1) (o := 4) (h.row 0 rfl)
  have r1 := load1 (n := 1) (o := 1) (h.row 0 rfl)
  obtain ⟨_, _, a, c, rfl⟩ := h.own_src 1 rfl
  simp [r4, r1, hlt]
  exact hQ
theorem room_yes {x : Rec} (h : H (CO cb dv nn now mb rowv R (x :: M) (Star [Disk dv D, I0])) σ) (hc : COk R (x :: M) now) (hge : nn ≤ R.length) (hb : R.length < 1099511627776) (hD : DPlain D n) (hpl : x.pl < n) (hxb : x.b.length = 256) (hm : D.fly.length < 1099511627776)
    (hQ : ∀ rowv' R' σ', COk R' M now → H (CO cb dv nn now mb rowv' R' M (Star [Disk dv (wrote D x), I0])) σ' → Q (.int .i64 0) σ') : E f_cache_Cache_room [.pointer (some ⟨cb, 0, none⟩)] σ Q := by
  apply o_cache_Cache_room_ev; unfold o_cache_Cache_room
  have r4 := load1 (n := 1) (o := 4) (h.row 0 rfl)
  have r1 := load1 (n := 1) (o := 1) (h.row 0 rfl)
  have hl := hc.perm.length_eq
  simp only [List.length_cons] at hl
  obtain ⟨rb, rc, rfl, hrc, rest, hrow⟩ := h.own_form 1 rfl (by omega)
  have hnl : ¬ (R.length : Int) < (nn : Int) := by omega
  simp [r4, r1]
  refine wC_dec (fun g => absurd g (by omega)) fun _ => ?_
  have h0 := hc.top
  have rx := load1 (n := 1) (o := 0) hrow
  rw [List.getElem?_append_left (by rw [ptrs_len]; omega), ptrs_get h0] at rx
  rw [idxA (by omega)]
  simp [rx]
  refine witem_ok (A := []) (B := M) (k := 0) h h0 hD hpl hxb hm ?_
  intro σ1 h1
  simp
  rw [i_160 _ rfl, pu_some]
  have hc1 : COk (R.set 0 (clean x)) (clean x :: M) now := COk.mod (A := []) hc h0 rfl rfl
  have hl1 : (R.set 0 (clean x)).length = M.length + 1 := by rw [List.length_set]; exact hl
  refine hpop_ok (n := M.length) (x := clean x) (cs := c4 dv nn now mb) rfl (co_row.1 h1) hl1 hc1.top (by omega) (by rw [← hl1]; exact hc1.heap) ?_
  intro rowv' R' σ2 hp hok h2
  rw [a_121]
  have h3 : H [ItemA M.length (clean x), Star [MapA mb (pairs (clean x :: M)), Star [Disk dv (wrote D x), I0]], pt cb (.cells (c4 dv nn now mb ++ [rowv']) t_cache_Cache false), Own t_p_cache_item 1 rowv' R'.length (ptrs R'), Star (itemsL 0 R')] σ2 :=
    (H_star (l := [ItemA M.length (clean x), Star [MapA mb (pairs (clean x :: M)), Star [Disk dv (wrote D x), I0]]])).1 (h2.pick [3, 0, 1, 2] (by decide))
  have h4 : H [MapA mb (pairs (clean x :: M)), Star [Disk dv (wrote D x), I0], ItemA M.length (clean x), pt cb (.cells (c4 dv nn now mb ++ [rowv']) t_cache_Cache false), Own t_p_cache_item 1 rowv' R'.length (ptrs R'), Star (itemsL 0 R')] σ2 :=
    (H_star (l := [MapA mb (pairs (clean x :: M)), Star [Disk dv (wrote D x), I0]])).1 (h3.pick [1, 0, 2, 3, 4] (by decide))
  have e1 : (pairs (clean x :: M)).Perm (pairs M ++ [(x.pl, x.ib)]) := by
    exact (List.perm_append_singleton (x.pl, x.ib) (pairs M)).symm
  rw [mapA_perm e1] at h4
  have r3 := load1 (n := 1) (o := 3) (h4.row 3 rfl)
  have h5 := h4.pick [2, 0, 1, 3, 4, 5] (by decide)
  unfold ItemA at h5
  have q0 := load1 (n := 1) (o := 0) ((H_sep.1 h5).row 0 rfl)
  simp [r3, q0]
  refine delete_yes (p := (x.pl, x.ib)) h4 (i := 0) rfl ?_ ?_
  · intro q hq
    obtain ⟨r, hr, rfl⟩ := List.mem_map.1 hq
    have := hc.nd
    simp only [List.map_cons, List.nodup_cons] at this
    intro e
    exact this.1 (List.mem_map.2 ⟨r, hr, e⟩)
  · intro σ3 h6
    refine hQ rowv' R' σ3 (hc1.out hp hok) ?_
    exact h6.pick [3, 4, 5, 0, 1] (by decide)
end
end Go.Ax.O
set_option maxRecDepth 100000
namespace Go.Ax.O
open Go.Proofs Go.RowKit

variable {l m : List Assn} {σ : AHeap} {Q : WK}

section
variable {cb nn now mb n : Nat} {dv rowv : Value} {R M A B : List Rec} {I0 : Assn} {D : DM}

/-- The disk beside, flat. -/
theorem co_disk : H (CO cb dv nn now mb rowv R M (Star [Disk dv D, I0])) σ ↔ H [pt cb (.cells [dv, .int .i64 nn, .int .u64 now, .map (some mb), rowv] t_cache_Cache false), Own t_p_cache_item 1 rowv R.length (ptrs R), Star (itemsL 0 R), MapA mb (pairs M), Disk dv D, I0] σ := by
  constructor
  · intro h
    exact ((H_star (l := [Disk dv D, I0])).1 (h.pick [4, 0, 1, 2, 3] (by decide) : H [Star [Disk dv D, I0], _, _, _, _] σ)).pick [2, 3, 4, 5, 0, 1] (by decide)
  · intro h
    have h1 : H [Disk dv D, I0, pt cb (.cells [dv, .int .i64 nn, .int .u64 now, .map (some mb), rowv] t_cache_Cache false), Own t_p_cache_item 1 rowv R.length (ptrs R), Star (itemsL 0 R), MapA mb (pairs M)] σ := h.pick [4, 5, 0, 1, 2, 3] (by decide)
    exact ((H_star (l := [Disk dv D, I0])).2 h1).pick [1, 2, 3, 4, 0] (by decide)
theorem disk_ptr (h : H l σ) (i : Nat) (hi : l[i]? = some (Disk dv D)) : ∃ b, dv = .pointer (some ⟨b, 0, none⟩) := by
  obtain ⟨b, _, _, _, e, _⟩ := disk_out (h.out i hi); exact ⟨b, e⟩
theorem cready_ok {a : Nat} (h : H (CO cb dv nn now mb rowv R M (Star [Disk dv D, I0])) σ) (hD : DPlain D n) (ha : a < n) (hQ : Q (.int .i64 0) σ) : E f_cache_Cache_ready [.pointer (some ⟨cb, 0, none⟩), .int .i64 a] σ Q := by
  have h1 := co_disk.1 h
  obtain ⟨db, hdb⟩ := disk_ptr h1 4 rfl
  have hlen := hD.ok.len
  have hn2 := hD.ok.hi
  apply o_cache_Cache_ready_ev; unfold o_cache_Cache_ready
  have c0 := load1 (n := 1) (o := 0) (h1.row 0 rfl)
  simp [c0]
  rw [hdb]
  simp
  unfold o_cache_Cache_ready_k2
  simp [c0]
  refine off_ok h1 4 rfl ?_
  rw [hD.off]
  have hna : ¬ (a : Int) < 0 := by omega
  simp [hna, c0]
  refine blocks_ok h1 4 rfl (by omega) ?_
  have : D.last.length / 256 = n := by omega
  rw [this]
  have hnn : ¬ n ≤ a := by omega
  unfold o_cache_Cache_ready_k4
  simpa [hnn] using hQ

/-- The end of Get: it is used, and told. -/
theorem get_k12 {x : Rec} (h : H (CO cb dv nn now mb rowv R (A ++ x :: B) I0) σ) (hc : COk R (A ++ x :: B) now) (hnow : now + 1 < 18446744073709551616) (hb : R.length < 1099511627776) (hxb : x.b.length = 256)
    (hQ : ∀ R' w σ', COk R' (A ++ B ++ [{ x with used := now + 1 }]) (now + 1) → H (CO cb dv nn (now + 1) mb rowv R' (A ++ B ++ [{ x with used := now + 1 }]) (Star [I0, Own t_uint8 1 w 256 (bv x.b)])) σ' → Q (.tuple #[w, .int .i64 0]) σ') :
    o_cache_Cache_Get_k12 Q (.pointer (some ⟨cb, 0, none⟩)) (.int .i64 x.pl) σ := by
  unfold o_cache_Cache_Get_k12
  refine use_yes h hc hnow hb ?_
  intro R' σ1 hc1 h1
  have hm : { x with used := now + 1 } ∈ R' := hc1.perm.mem_iff.2 (by simp)
  obtain ⟨k, hk, hkx⟩ := List.getElem_of_mem hm
  have hk' : R'[k]? = some { x with used := now + 1 } := by rw [List.getElem?_eq_getElem hk, hkx]
  have h2 := item_out (h1.pick [2, 0, 1, 3, 4] (by decide)) hk'
  unfold ItemA at h2
  rw [H_sep, bytesV_rob (by intro e; simp only at e; rw [e] at hxb; simp at hxb)] at h2
  have r4 := load1 (n := 1) (o := 4) (h2.row 0 rfl)
  simp [r4]
  obtain ⟨sb, so, sc, cc, hsv, _⟩ := h2.rob 1 rfl
  simp only at hsv
  have hs := (h2.rob_rd 1 rfl).src
  simp only at hs
  rw [hsv] at hs ⊢
  rw [hxb] at hs ⊢
  refine clone_ok h1 hs (by omega) ?_
  intro w σ2 h3
  try simp
  refine hQ R' w σ2 hc1 ?_
  have h4 := (H_star (l := [I0, Own t_uint8 1 w 256 (bv x.b)])).2 (h3.pick [4, 5, 0, 1, 2, 3] (by decide))
  exact h4.pick [1, 2, 3, 4, 0] (by decide)
end

/-! ### The cache, shut -/
structure It where
  pl : Nat
  dirty : Bool
  b : List UInt8
structure CM where
  n : Nat
  its : List It
def toIt (r : Rec) : It := ⟨r.pl, r.dirty, r.b⟩
def CacheA (v dv : Value) (K : Nat) (C : CM) : Assn := ex fun p : (Nat × Nat × Nat) × Value × List Rec × List Rec =>
  sep (pure' (v = .pointer (some ⟨p.1.1, 0, none⟩) ∧ COk p.2.2.1 p.2.2.2 p.1.2.2 ∧ p.2.2.2.map toIt = C.its ∧ p.1.2.2 ≤ K))
    (Star [pt p.1.1 (.cells [dv, .int .i64 C.n, .int .u64 p.1.2.2, .map (some p.1.2.1), p.2.1] t_cache_Cache false), Own t_p_cache_item 1 p.2.1 p.2.2.1.length (ptrs p.2.2.1), Star (itemsL 0 p.2.2.1), MapA p.1.2.1 (pairs p.2.2.2)])
theorem cache_out {v dv : Value} {K : Nat} {C : CM} (h : H (CacheA v dv K C :: m) σ) : ∃ cb mb now rowv R M, v = .pointer (some ⟨cb, 0, none⟩) ∧ COk R M now ∧ M.map toIt = C.its ∧ now ≤ K ∧ H (CO cb dv C.n now mb rowv R M (Star m)) σ := by
  obtain ⟨⟨⟨cb, mb, now⟩, rowv, R, M⟩, h⟩ := H_ex.1 h
  rw [H_sep] at h
  obtain ⟨⟨h1, h2, h3, h4⟩, h⟩ := H_pure.1 h
  refine ⟨cb, mb, now, rowv, R, M, h1, h2, h3, h4, ?_⟩
  have h5 := (H_star.1 h).perm List.perm_append_comm
  exact (H_app.1 h5).pick [1, 2, 3, 4, 0] (by decide)
theorem cache_in {dv rowv : Value} {K cb mb now : Nat} {C : CM} {R M : List Rec} (h2 : COk R M now) (h3 : M.map toIt = C.its) (h4 : now ≤ K) (h : H (CO cb dv C.n now mb rowv R M (Star m)) σ) : H (CacheA (.pointer (some ⟨cb, 0, none⟩)) dv K C :: m) σ := by
  refine H_ex.2 ⟨((cb, mb, now), rowv, R, M), ?_⟩
  rw [H_sep]
  refine H_pure.2 ⟨⟨rfl, h2, h3, h4⟩, ?_⟩
  rw [H_star]
  have h5 : H [Star m, pt cb (.cells [dv, .int .i64 C.n, .int .u64 now, .map (some mb), rowv] t_cache_Cache false), Own t_p_cache_item 1 rowv R.length (ptrs R), Star (itemsL 0 R), MapA mb (pairs M)] σ := h.pick [4, 0, 1, 2, 3] (by decide)
  exact (H_star.1 h5).perm List.perm_append_comm
end Go.Ax.O
set_option maxRecDepth 100000
namespace Go.Ax.O
open Go.Proofs Go.RowKit

variable {l m : List Assn} {σ : AHeap} {Q : WK}

structure CM.Ok (C : CM) (n : Nat) : Prop where
  lo : 1 ≤ C.n
  hi : C.n ≤ 1024
  len : C.its.length ≤ C.n
  it : ∀ x ∈ C.its, x.pl < n ∧ x.b.length = 256
  nd : (C.its.map (·.pl)).Nodup
def wroteI (D : DM) (x : It) : DM := if x.dirty then D.fling x.pl x.b else D
/-- Room for a block: who goes, what is written. -/
def CM.room (C : CM) (D : DM) : List It × DM := if C.its.length < C.n then (C.its, D) else match C.its with
  | [] => ([], D)
  | x :: l => (l, wroteI D x)

theorem its_split {M : List Rec} {A B : List It} {it : It} (h : M.map toIt = A ++ it :: B) : ∃ A' x B', M = A' ++ x :: B' ∧ A'.map toIt = A ∧ toIt x = it ∧ B'.map toIt = B := by
  obtain ⟨A', T, rfl, h1, h2⟩ := List.map_eq_append_iff.1 h
  obtain ⟨x, B', rfl, h3, h4⟩ := List.map_eq_cons_iff.1 h2
  exact ⟨A', x, B', rfl, h1, h3, h4⟩
theorem get_hit {v dv : Value} {K n : Nat} {C : CM} {D : DM} {I0 : Assn} {A B : List It} {it : It} (h : H [CacheA v dv K C, Disk dv D, I0] σ) (hC : C.Ok n) (hits : C.its = A ++ it :: B) (hD : DPlain D n) (hK : K + 1 < 18446744073709551616)
    (hQ : ∀ w σ', H [CacheA v dv (K + 1) { C with its := A ++ B ++ [it] }, Disk dv D, I0, Own t_uint8 1 w 256 (bv it.b)] σ' → Q (.tuple #[w, .int .i64 0]) σ') : E f_cache_Cache_Get [v, .int .i64 it.pl] σ Q := by
  obtain ⟨cb, mb, now, rowv, R, M, rfl, hc, hM, hnow, h1⟩ := cache_out h
  rw [hits] at hM
  obtain ⟨A', x, B', rfl, hA', hx, hB'⟩ := its_split hM
  obtain ⟨hpl, hxb⟩ := hC.it it (by rw [hits]; simp)
  have hl := hc.perm.length_eq
  have hl2 : (A' ++ x :: B').length = C.its.length := by rw [hits, ← hM, List.length_map]
  have hlen := hC.len
  have hhi := hC.hi
  have e1 : it.pl = x.pl := by rw [← hx]; rfl
  have e2 : it.b = x.b := by rw [← hx]; rfl
  rw [e1] at hpl ⊢
  apply o_cache_Cache_Get_ev; unfold o_cache_Cache_Get
  refine cready_ok h1 hD hpl ?_
  simp
  have r3 := load1 (n := 1) (o := 3) (h1.row 0 rfl)
  simp [r3]
  have hlk := lookup_yes (p := (x.pl, x.ib)) false h1 (i := 3) rfl (by simp [pairs])
  simp only at hlk
  rw [hlk]
  simp [okV]
  refine get_k12 h1 hc (by omega) (by omega) (by rw [← e2]; exact hxb) ?_
  intro R' w σ1 hc1 h2
  refine hQ w σ1 ?_
  have h3 : H [CacheA (.pointer (some ⟨cb, 0, none⟩)) dv (K + 1) { C with its := A ++ B ++ [it] }, Star [Disk dv D, I0], Own t_uint8 1 w 256 (bv x.b)] σ1 := by
    refine cache_in hc1 ?_ (by omega) h2
    simp only [List.map_append, hA', hB', List.map_cons, List.map_nil]
    rw [← hx]; rfl
  rw [e2]
  exact ((H_star (l := [Disk dv D, I0])).1 (h3.pick [1, 0, 2] (by decide) : H (Star [Disk dv D, I0] :: [CacheA (.pointer (some ⟨cb, 0, none⟩)) dv (K + 1) { C with its := A ++ B ++ [it] }, Own t_uint8 1 w 256 (bv x.b)]) σ1)).pick [2, 0, 1, 3] (by decide)

/-- Room, with the cache open. -/
theorem room_ok {cb mb now n : Nat} {dv rowv : Value} {R M : List Rec} {I0 : Assn} {D : DM} {C : CM} (h : H (CO cb dv C.n now mb rowv R M (Star [Disk dv D, I0])) σ) (hc : COk R M now) (hM : M.map toIt = C.its) (hC : C.Ok n) (hD : DPlain D n) (hm : D.fly.length < 1099511627776)
    (hQ : ∀ rowv' R' M' σ', COk R' M' now → M'.map toIt = (C.room D).1 → H (CO cb dv C.n now mb rowv' R' M' (Star [Disk dv (C.room D).2, I0])) σ' → Q (.int .i64 0) σ') : E f_cache_Cache_room [.pointer (some ⟨cb, 0, none⟩)] σ Q := by
  have hl := hc.perm.length_eq
  have hl2 : M.length = C.its.length := by rw [← hM, List.length_map]
  have hlen := hC.len
  have hhi := hC.hi
  have hlo := hC.lo
  by_cases hlt : C.its.length < C.n
  · have e : C.room D = (C.its, D) := by simp [CM.room, hlt]
    rw [e] at hQ
    refine room_no h (by omega) ?_
    exact hQ rowv R M σ hc hM h
  · cases M with
    | nil => simp at hl2; omega
    | cons x M0 =>
      have hM' := hM
      simp only [List.map_cons] at hM'
      have e : C.room D = (M0.map toIt, wrote D x) := by
        unfold CM.room
        rw [if_neg hlt, ← hM']
        rfl
      rw [e] at hQ
      obtain ⟨hpl, hxb⟩ := hC.it (toIt x) (by rw [← hM']; simp)
      refine room_yes h hc (by omega) (by omega) hD hpl hxb hm ?_
      intro rowv' R' σ1 hc1 h1
      exact hQ rowv' R' M0 σ1 hc1 rfl h1
theorem room_plain {n : Nat} {D : DM} {C : CM} (hC : C.Ok n) (hD : DPlain D n) : DPlain (C.room D).2 n ∧ (C.room D).2.fly.length ≤ D.fly.length + 4 ∧ (C.room D).1.length < C.n ∧ (∀ x ∈ (C.room D).1, x ∈ C.its) ∧ ((C.room D).1.map (·.pl)).Nodup := by
  have hlo := hC.lo
  have hlen := hC.len
  unfold CM.room
  split
  · rename_i h
    exact ⟨hD, by simp, h, fun x hx => hx, hC.nd⟩
  · rename_i h
    split
    · rename_i e; rw [e] at h; simp at h; omega
    · rename_i x l e
      have hx := hC.it x (by rw [e]; simp)
      have hnd := hC.nd
      rw [e] at hlen hnd ⊢
      simp only [List.length_cons] at hlen
      simp only [List.map_cons, List.nodup_cons] at hnd
      refine ⟨?_, ?_, by show l.length < C.n; omega, fun y hy => List.mem_cons_of_mem _ hy, hnd.2⟩
      · unfold wroteI; split
        · exact hD.fling hx.1 hx.2
        · exact hD
      · unfold wroteI; split
        · simp [DM.fling, parts]
        · simp

theorem get_miss {v dv : Value} {K n a : Nat} {C : CM} {D : DM} {I0 : Assn} (h : H [CacheA v dv K C, Disk dv D, I0] σ) (hC : C.Ok n) (hno : ∀ x ∈ C.its, x.pl ≠ a) (ha : a < n) (hD : DPlain D n) (hm : D.fly.length < 1099511627000) (hK : K + 2 < 18446744073709551616)
    (hQ : ∀ w σ', H [CacheA v dv (K + 2) { C with its := (C.room D).1 ++ [⟨a, false, (C.room D).2.block a⟩] }, Disk dv (C.room D).2, I0, Own t_uint8 1 w 256 (bv ((C.room D).2.block a))] σ' → Q (.tuple #[w, .int .i64 0]) σ') : E f_cache_Cache_Get [v, .int .i64 a] σ Q := by
  obtain ⟨cb, mb, now, rowv, R, M, rfl, hc, hM, hnow, h1⟩ := cache_out h
  have hhi := hC.hi
  have hnoM : ∀ p ∈ pairs M, p.1 ≠ a := by
    intro p hp
    obtain ⟨r, hr, rfl⟩ := List.mem_map.1 hp
    exact hno (toIt r) (by rw [← hM]; exact List.mem_map_of_mem hr)
  obtain ⟨hD1, hf1, hl1, hsub, hnd1⟩ := room_plain hC hD
  apply o_cache_Cache_Get_ev; unfold o_cache_Cache_Get
  refine cready_ok h1 hD ha ?_
  simp
  have r3 := load1 (n := 1) (o := 3) (h1.row 0 rfl)
  simp [r3]
  have hlk := lookup_no (a := a) false h1 (i := 3) rfl hnoM
  rw [hlk]
  simp [okV]
  refine room_ok h1 hc hM hC hD (by omega) ?_
  intro rowv1 R1 M1 σ1 hc1 hM1 h2
  simp
  generalize (C.room D).2 = D1 at hD1 hf1 h2 hQ
  generalize (C.room D).1 = its1 at hl1 hsub hnd1 hM1 hQ
  have h3 := co_disk.1 h2
  have c0 := load1 (n := 1) (o := 0) (h3.row 0 rfl)
  simp [c0]
  have hr := ready_in hD1.ok ha
  rw [hD1.off] at hr
  simp only [Bool.false_eq_true, if_false] at hr
  refine read_yes h3 4 rfl hD1.ok (by omega) hr ?_
  intro w0 σ2 h4
  simp
  simp only [Int.toNat_natCast] at h4
  have hbl := block_len hD1.ok ha
  have hl2 := hc1.perm.length_eq
  have hl3 : M1.length = its1.length := by rw [← hM1, List.length_map]
  have h5 : H (CO cb dv C.n now mb rowv1 R1 M1 (Star [Disk dv D1, Star [I0, Own t_uint8 1 w0 256 (bv (D1.block a))]])) σ2 := by
    refine co_disk.2 ?_
    have := (H_star (l := [I0, Own t_uint8 1 w0 256 (bv (D1.block a))])).2 (h4.pick [5, 6, 0, 1, 2, 3, 4] (by decide))
    exact this.pick [1, 2, 3, 4, 5, 0] (by decide)
  refine use_no h5 hc1 ?_ (by omega) (by omega) ?_
  · intro r hr
    exact hno (toIt r) (hsub _ (by rw [← hM1]; exact List.mem_map_of_mem hr))
  intro rowv2 R2 ib σ3 hc2 h6
  simp
  -- the block's bytes go into the item
  have h7 : H [Star [Disk dv D1, Star [I0, Own t_uint8 1 w0 256 (bv (D1.block a))]], pt cb (.cells [dv, .int .i64 C.n, .int .u64 (now + 1 : Nat), .map (some mb), rowv2] t_cache_Cache false), Own t_p_cache_item 1 rowv2 R2.length (ptrs R2), Star (itemsL 0 R2), MapA mb (pairs (M1 ++ [⟨ib, a, now + 1, false, .slice none 0 0, []⟩]))] σ3 := h6.pick [4, 0, 1, 2, 3] (by decide)
  have h8 := ((H_star (l := [Disk dv D1, Star [I0, Own t_uint8 1 w0 256 (bv (D1.block a))]])).1 h7).pick [1, 0, 2, 3, 4, 5] (by decide)
  have h9 : H [Own t_uint8 1 w0 256 (bv (D1.block a)), I0, Disk dv D1, pt cb (.cells [dv, .int .i64 C.n, .int .u64 (now + 1 : Nat), .map (some mb), rowv2] t_cache_Cache false), Own t_p_cache_item 1 rowv2 R2.length (ptrs R2), Star (itemsL 0 R2), MapA mb (pairs (M1 ++ [⟨ib, a, now + 1, false, .slice none 0 0, []⟩]))] σ3 :=
    ((H_star (l := [I0, Own t_uint8 1 w0 256 (bv (D1.block a))])).1 h8).pick [1, 0, 2, 3, 4, 5, 6] (by decide)
  obtain ⟨wb, wc, rfl, hwc, hro⟩ := own_freeze (by omega) h9
  have h10 := hro 0 256 wc hwc (by omega)
  rw [show (((D1.block a).drop 0).take 256) = D1.block a by rw [List.drop_zero, List.take_of_length_le (by omega)]] at h10
  have hm2 : (⟨ib, a, now + 1, false, .slice none 0 0, []⟩ : Rec) ∈ R2 := hc2.perm.mem_iff.2 (by simp)
  obtain ⟨k, hk, hkx⟩ := List.getElem_of_mem hm2
  have hk' : R2[k]? = some ⟨ib, a, now + 1, false, .slice none 0 0, []⟩ := by rw [List.getElem?_eq_getElem hk, hkx]
  have h11 := item_out (h10.pick [5, 0, 1, 2, 3, 4, 6] (by decide)) hk'
  unfold ItemA at h11
  rw [H_sep] at h11
  refine store1 h11 0 rfl rfl (by simp) ?_
  intro σ4 h12
  let x3 : Rec := ⟨ib, a, now + 1, false, .slice (some ⟨wb, 0, none⟩) 256 wc, D1.block a⟩
  have h13 : H [pt ib (.cells [.int .i64 a, .int .i64 k, .int .u64 (now + 1 : Nat), .bool false, .slice (some ⟨wb, 0, none⟩) 256 wc] t_cache_item false), RoB (.slice (some ⟨wb, 0, none⟩) 256 wc) (D1.block a), Star ((itemsL 0 R2).set k emp), I0, Disk dv D1, pt cb (.cells [dv, .int .i64 C.n, .int .u64 (now + 1 : Nat), .map (some mb), rowv2] t_cache_Cache false), Own t_p_cache_item 1 rowv2 R2.length (ptrs R2), MapA mb (pairs (M1 ++ [⟨ib, a, now + 1, false, .slice none 0 0, []⟩]))] σ4 := h12.pick [0, 3, 2, 4, 5, 6, 7, 8] (by decide)
  rw [← bytesV_rob (by intro e; rw [e] at hbl; simp at hbl)] at h13
  have h14 := item_in (r := x3) hk (H_sep.2 h13)
  have e3 : ptrs (R2.set k x3) = ptrs R2 := ptrs_set hk' rfl
  have e4 : pairs (M1 ++ [x3]) = pairs (M1 ++ [⟨ib, a, now + 1, false, .slice none 0 0, []⟩]) := by simp [pairs, x3]
  have h15 : H (CO cb dv C.n (now + 1) mb rowv2 (R2.set k x3) (M1 ++ [x3]) (Star [Disk dv D1, I0])) σ4 := by
    refine co_disk.2 ?_
    rw [e3, e4, List.length_set]
    exact h14.pick [3, 4, 0, 5, 2, 1] (by decide)
  have hc3 : COk (R2.set k x3) (M1 ++ [x3]) (now + 1) := COk.mod (B := []) hc2 hk' rfl rfl
  have hl4 := hc2.perm.length_eq
  simp only [List.length_append, List.length_cons, List.length_nil] at hl4
  refine get_k12 (A := M1) (B := []) (x := x3) h15 hc3 (by omega) (by simp; omega) hbl ?_
  intro R3 w σ5 hc4 h16
  refine hQ w σ5 ?_
  have h17 : H [CacheA (.pointer (some ⟨cb, 0, none⟩)) dv (K + 2) { C with its := its1 ++ [⟨a, false, D1.block a⟩] }, Star [Disk dv D1, I0], Own t_uint8 1 w 256 (bv (D1.block a))] σ5 := by
    refine cache_in hc4 ?_ (by omega) h16
    simp only [List.map_append, hM1, List.map_cons, List.map_nil, List.append_nil]
    rfl
  exact ((H_star (l := [Disk dv D1, I0])).1 (h17.pick [1, 0, 2] (by decide) : H (Star [Disk dv D1, I0] :: [CacheA (.pointer (some ⟨cb, 0, none⟩)) dv (K + 2) { C with its := its1 ++ [⟨a, false, D1.block a⟩] }, Own t_uint8 1 w 256 (bv (D1.block a))]) σ5)).pick [2, 0, 1, 3] (by decide)
end Go.Ax.O
set_option maxRecDepth 100000
namespace Go.Ax.O
open Go.Proofs Go.RowKit

variable {l m : List Assn} {σ : AHeap} {Q : WK}

/-- Bytes go into the item that was used last. -/
theorem put_store {cb nn now mb : Nat} {dv rowv w : Value} {R A : List Rec} {x : Rec} {bs : List UInt8} {I0 : Assn} {K : WK} (h : H (CO cb dv nn now mb rowv R (A ++ [x]) (Star [Own t_uint8 1 w 256 (bv bs), I0])) σ) (hc : COk R (A ++ [x]) now)
    (hQ : ∀ sv R' σ', COk R' (A ++ [{ x with dirty := true, sv := sv, b := bs }]) now → H (CO cb dv nn now mb rowv R' (A ++ [{ x with dirty := true, sv := sv, b := bs }]) (Star [Own t_uint8 1 w 256 (bv bs), I0])) σ' → K (.int .i64 0) σ') :
    E f_bytes_Clone [w] σ fun v37 τ => pu (aStore 1 (.pointer (some ⟨x.ib, 4, none⟩)) v37 τ) fun τ => pu (aStore 1 (.pointer (some ⟨x.ib, 3, none⟩)) (.bool true) τ) fun τ => K (.int .i64 0) τ := by
  have h0 : H [Own t_uint8 1 w 256 (bv bs), I0, pt cb (.cells [dv, .int .i64 nn, .int .u64 now, .map (some mb), rowv] t_cache_Cache false), Own t_p_cache_item 1 rowv R.length (ptrs R), Star (itemsL 0 R), MapA mb (pairs (A ++ [x]))] σ :=
    (H_star (l := [Own t_uint8 1 w 256 (bv bs), I0])).1 (h.pick [4, 0, 1, 2, 3] (by decide))
  obtain ⟨hs, hbl, wa, wc, rfl⟩ := h0.own_src 0 rfl
  simp only [Nat.mul_one, bv_length] at hbl
  refine clone_ok h0 hs (by omega) ?_
  intro c σ1 h1
  obtain ⟨fb, fc, rfl, hfc, hro⟩ := own_freeze (by omega) (h1.pick [6, 0, 1, 2, 3, 4, 5] (by decide))
  have h2 := hro 0 256 fc hfc (by omega)
  rw [show ((bs.drop 0).take 256) = bs by rw [List.drop_zero, List.take_of_length_le (by omega)]] at h2
  have hm : x ∈ R := hc.perm.mem_iff.2 (by simp)
  obtain ⟨k, hk, hkx⟩ := List.getElem_of_mem hm
  have hk' : R[k]? = some x := by rw [List.getElem?_eq_getElem hk, hkx]
  have h3 := item_out (h2.pick [5, 0, 1, 2, 3, 4, 6] (by decide)) hk'
  unfold ItemA at h3
  rw [H_sep] at h3
  refine store1 h3 0 rfl rfl (by simp) ?_
  intro σ2 h4
  refine store1 h4 0 rfl rfl (by simp) ?_
  intro σ3 h5
  let y : Rec := { x with dirty := true, sv := .slice (some ⟨fb, 0, none⟩) 256 fc, b := bs }
  have h6 : H [pt x.ib (.cells [.int .i64 x.pl, .int .i64 k, .int .u64 x.used, .bool true, .slice (some ⟨fb, 0, none⟩) 256 fc] t_cache_item false), RoB (.slice (some ⟨fb, 0, none⟩) 256 fc) bs, Star ((itemsL 0 R).set k emp), Own t_uint8 1 (.slice wa 256 wc) 256 (bv bs), I0, pt cb (.cells [dv, .int .i64 nn, .int .u64 now, .map (some mb), rowv] t_cache_Cache false), Own t_p_cache_item 1 rowv R.length (ptrs R), MapA mb (pairs (A ++ [x]))] σ3 := h5.pick [0, 3, 2, 4, 5, 6, 7, 8] (by decide)
  rw [← bytesV_rob (by intro e; rw [e] at hbl; simp at hbl)] at h6
  have h7 := item_in (r := y) hk (H_sep.2 h6)
  have hc3 : COk (R.set k y) (A ++ [y]) now := COk.mod (B := []) hc hk' rfl rfl
  refine hQ (.slice (some ⟨fb, 0, none⟩) 256 fc) (R.set k y) σ3 hc3 ?_
  have e3 : ptrs (R.set k y) = ptrs R := ptrs_set hk' rfl
  have e4 : pairs (A ++ [y]) = pairs (A ++ [x]) := by simp [pairs, y]
  have h8 := (H_star (l := [Own t_uint8 1 (.slice wa 256 wc) 256 (bv bs), I0])).2 (h7.pick [1, 2, 0, 3, 4, 5] (by decide))
  show H (CO cb dv nn now mb rowv (R.set k y) (A ++ [y]) _) σ3
  unfold CO
  rw [e3, e4, List.length_set]
  exact h8.pick [2, 3, 1, 4, 0] (by decide)

theorem put_hit {v dv w : Value} {K n : Nat} {C : CM} {D : DM} {I0 : Assn} {A B : List It} {it : It} {bs : List UInt8} (h : H [CacheA v dv K C, Disk dv D, Own t_uint8 1 w 256 (bv bs), I0] σ) (hC : C.Ok n) (hits : C.its = A ++ it :: B) (hD : DPlain D n) (hK : K + 1 < 18446744073709551616)
    (hQ : ∀ σ', H [CacheA v dv (K + 1) { C with its := A ++ B ++ [⟨it.pl, true, bs⟩] }, Disk dv D, Own t_uint8 1 w 256 (bv bs), I0] σ' → Q (.int .i64 0) σ') : E f_cache_Cache_Put [v, .int .i64 it.pl, w] σ Q := by
  obtain ⟨cb, mb, now, rowv, R, M, rfl, hc, hM, hnow, h1⟩ := cache_out h
  rw [hits] at hM
  obtain ⟨A', x, B', rfl, hA', hx, hB'⟩ := its_split hM
  obtain ⟨hpl, hxb⟩ := hC.it it (by rw [hits]; simp)
  have hl := hc.perm.length_eq
  have hl2 : (A' ++ x :: B').length = C.its.length := by rw [hits, ← hM, List.length_map]
  have hlen := hC.len
  have hhi := hC.hi
  have e1 : it.pl = x.pl := by rw [← hx]; rfl
  rw [e1] at hpl hQ ⊢
  obtain ⟨hs, hbl, wa, wc, hw⟩ := h.own_src 2 rfl
  have h1 : H (CO cb dv C.n now mb rowv R (A' ++ x :: B') (Star [Disk dv D, Star [Own t_uint8 1 w 256 (bv bs), I0]])) σ := by
    have h2 : H (Star [Disk dv D, Own t_uint8 1 w 256 (bv bs), I0] :: [pt cb (.cells [dv, .int .i64 C.n, .int .u64 now, .map (some mb), rowv] t_cache_Cache false), Own t_p_cache_item 1 rowv R.length (ptrs R), Star (itemsL 0 R), MapA mb (pairs (A' ++ x :: B'))]) σ := h1.pick [4, 0, 1, 2, 3] (by decide)
    refine co_disk.2 ?_
    have h3 := ((H_star (l := [Disk dv D, Own t_uint8 1 w 256 (bv bs), I0])).1 h2).pick [1, 2, 0, 3, 4, 5, 6] (by decide)
    exact ((H_star (l := [Own t_uint8 1 w 256 (bv bs), I0])).2 h3).pick [2, 3, 4, 5, 1, 0] (by decide)
  apply o_cache_Cache_Put_ev; unfold o_cache_Cache_Put
  refine cready_ok h1 hD hpl ?_
  simp only [bin_neq, pu_some, hw, lenS_slice]
  rw [← hw]
  have r3 := load1 (n := 1) (o := 3) (h1.row 0 rfl)
  simp [r3]
  have hlk := lookup_yes (p := (x.pl, x.ib)) false h1 (i := 3) rfl (by simp [pairs])
  simp only at hlk
  rw [hlk]
  simp [okV]
  unfold o_cache_Cache_Put_k10
  refine use_yes h1 hc (by omega) (by omega) ?_
  intro R' σ1 hc1 h2
  have h3 : H (CO cb dv C.n (now + 1) mb rowv R' (A' ++ B' ++ [{ x with used := now + 1 }]) (Star [Own t_uint8 1 w 256 (bv bs), Star [Disk dv D, I0]])) σ1 := by
    have h4 := ((H_star (l := [Own t_uint8 1 w 256 (bv bs), I0])).1 ((co_disk.1 h2).pick [5, 0, 1, 2, 3, 4] (by decide))).pick [6, 1, 0, 2, 3, 4, 5] (by decide)
    have h5 := ((H_star (l := [Disk dv D, I0])).2 h4).pick [1, 0, 2, 3, 4, 5] (by decide)
    exact ((H_star (l := [Own t_uint8 1 w 256 (bv bs), Star [Disk dv D, I0]])).2 h5).pick [1, 2, 3, 4, 0] (by decide)
  simp
  refine put_store (A := A' ++ B') (x := { x with used := now + 1 }) h3 hc1 ?_
  intro sv R2 σ2 hc2 h4
  refine hQ σ2 ?_
  have h5 : H [CacheA (.pointer (some ⟨cb, 0, none⟩)) dv (K + 1) { C with its := A ++ B ++ [⟨x.pl, true, bs⟩] }, Own t_uint8 1 w 256 (bv bs), Star [Disk dv D, I0]] σ2 := by
    refine cache_in hc2 ?_ (by omega) h4
    simp only [List.map_append, hA', hB', List.map_cons, List.map_nil]
    rfl
  exact ((H_star (l := [Disk dv D, I0])).1 (h5.pick [2, 0, 1] (by decide) : H (Star [Disk dv D, I0] :: [CacheA (.pointer (some ⟨cb, 0, none⟩)) dv (K + 1) { C with its := A ++ B ++ [⟨x.pl, true, bs⟩] }, Own t_uint8 1 w 256 (bv bs)]) σ2)).pick [2, 0, 3, 1] (by decide)

theorem put_miss {v dv w : Value} {K n a : Nat} {C : CM} {D : DM} {I0 : Assn} {bs : List UInt8} (h : H [CacheA v dv K C, Disk dv D, Own t_uint8 1 w 256 (bv bs), I0] σ) (hC : C.Ok n) (hno : ∀ x ∈ C.its, x.pl ≠ a) (ha : a < n) (hD : DPlain D n) (hm : D.fly.length < 1099511627000) (hK : K + 1 < 18446744073709551616)
    (hQ : ∀ σ', H [CacheA v dv (K + 1) { C with its := (C.room D).1 ++ [⟨a, true, bs⟩] }, Disk dv (C.room D).2, Own t_uint8 1 w 256 (bv bs), I0] σ' → Q (.int .i64 0) σ') : E f_cache_Cache_Put [v, .int .i64 a, w] σ Q := by
  obtain ⟨cb, mb, now, rowv, R, M, rfl, hc, hM, hnow, h1⟩ := cache_out h
  have hhi := hC.hi
  have hnoM : ∀ p ∈ pairs M, p.1 ≠ a := by
    intro p hp
    obtain ⟨r, hr, rfl⟩ := List.mem_map.1 hp
    exact hno (toIt r) (by rw [← hM]; exact List.mem_map_of_mem hr)
  obtain ⟨hD1, hf1, hl1, hsub, hnd1⟩ := room_plain hC hD
  obtain ⟨hs, hbl, wa, wc, hw⟩ := h.own_src 2 rfl
  have h1 : H (CO cb dv C.n now mb rowv R M (Star [Disk dv D, Star [Own t_uint8 1 w 256 (bv bs), I0]])) σ := by
    have h2 : H (Star [Disk dv D, Own t_uint8 1 w 256 (bv bs), I0] :: [pt cb (.cells [dv, .int .i64 C.n, .int .u64 now, .map (some mb), rowv] t_cache_Cache false), Own t_p_cache_item 1 rowv R.length (ptrs R), Star (itemsL 0 R), MapA mb (pairs M)]) σ := h1.pick [4, 0, 1, 2, 3] (by decide)
    refine co_disk.2 ?_
    have h3 := ((H_star (l := [Disk dv D, Own t_uint8 1 w 256 (bv bs), I0])).1 h2).pick [1, 2, 0, 3, 4, 5, 6] (by decide)
    exact ((H_star (l := [Own t_uint8 1 w 256 (bv bs), I0])).2 h3).pick [2, 3, 4, 5, 1, 0] (by decide)
  apply o_cache_Cache_Put_ev; unfold o_cache_Cache_Put
  refine cready_ok h1 hD ha ?_
  simp only [bin_neq, pu_some, hw, lenS_slice]
  rw [← hw]
  have r3 := load1 (n := 1) (o := 3) (h1.row 0 rfl)
  simp [r3]
  have hlk := lookup_no (a := a) false h1 (i := 3) rfl hnoM
  rw [hlk]
  simp [okV]
  refine room_ok h1 hc hM hC hD (by omega) ?_
  intro rowv1 R1 M1 σ1 hc1 hM1 h2
  simp
  generalize (C.room D).2 = D1 at hD1 hf1 h2 hQ
  generalize (C.room D).1 = its1 at hl1 hsub hnd1 hM1 hQ
  have hl2 := hc1.perm.length_eq
  have hl3 : M1.length = its1.length := by rw [← hM1, List.length_map]
  unfold o_cache_Cache_Put_k10
  refine use_no h2 hc1 ?_ (by omega) (by omega) ?_
  · intro r hr
    exact hno (toIt r) (hsub _ (by rw [← hM1]; exact List.mem_map_of_mem hr))
  intro rowv2 R2 ib σ3 hc2 h6
  have h3 : H (CO cb dv C.n (now + 1) mb rowv2 R2 (M1 ++ [⟨ib, a, now + 1, false, .slice none 0 0, []⟩]) (Star [Own t_uint8 1 w 256 (bv bs), Star [Disk dv D1, I0]])) σ3 := by
    have h4 := ((H_star (l := [Own t_uint8 1 w 256 (bv bs), I0])).1 ((co_disk.1 h6).pick [5, 0, 1, 2, 3, 4] (by decide))).pick [6, 1, 0, 2, 3, 4, 5] (by decide)
    have h5 := ((H_star (l := [Disk dv D1, I0])).2 h4).pick [1, 0, 2, 3, 4, 5] (by decide)
    exact ((H_star (l := [Own t_uint8 1 w 256 (bv bs), Star [Disk dv D1, I0]])).2 h5).pick [1, 2, 3, 4, 0] (by decide)
  simp
  refine put_store (A := M1) (x := ⟨ib, a, now + 1, false, .slice none 0 0, []⟩) h3 hc2 ?_
  intro sv R3 σ4 hc3 h4
  refine hQ σ4 ?_
  have h5 : H [CacheA (.pointer (some ⟨cb, 0, none⟩)) dv (K + 1) { C with its := its1 ++ [⟨a, true, bs⟩] }, Own t_uint8 1 w 256 (bv bs), Star [Disk dv D1, I0]] σ4 := by
    refine cache_in hc3 ?_ (by omega) h4
    simp only [List.map_append, hM1, List.map_cons, List.map_nil]
    rfl
  exact ((H_star (l := [Disk dv D1, I0])).1 (h5.pick [2, 0, 1] (by decide) : H (Star [Disk dv D1, I0] :: [CacheA (.pointer (some ⟨cb, 0, none⟩)) dv (K + 1) { C with its := its1 ++ [⟨a, true, bs⟩] }, Own t_uint8 1 w 256 (bv bs)]) σ4)).pick [2, 0, 3, 1] (by decide)

theorem held_ok {v dv : Value} {K : Nat} {C : CM} (h : H (CacheA v dv K C :: m) σ) (hQ : Q (.int .i64 C.its.length) σ) : E f_cache_Cache_Held [v] σ Q := by
  obtain ⟨cb, mb, now, rowv, R, M, rfl, hc, hM, hnow, h1⟩ := cache_out h
  have hl := hc.perm.length_eq
  have hl2 : M.length = C.its.length := by rw [← hM, List.length_map]
  apply o_cache_Cache_Held_ev; unfold o_cache_Cache_Held
  have r4 := load1 (n := 1) (o := 4) (h1.row 0 rfl)
  obtain ⟨_, _, a, c, rfl⟩ := h1.own_src 1 rfl
  simp [r4]
  rw [hl, hl2]
  exact hQ

/-! ### New -/
theorem mkMap_eq (σ : AHeap) : aMakeMap P t_m_int_p_cache_item none σ = some (.map (some σ.size), σ.push (.map [] 0)) := rfl
theorem cnew_ok {dv : Value} {D : DM} {n k : Nat} {I0 : Assn} (h : H [Disk dv D, I0] σ) (hD : D.Ok n) (hk : 1 ≤ k ∧ k ≤ 1024) (hQ : ∀ v σ', H [CacheA v dv 0 ⟨k, []⟩, Disk dv D, I0] σ' → Q (.tuple #[v, .int .i64 0]) σ') : E f_cache_New [dv, .int .i64 k] σ Q := by
  obtain ⟨db, rfl⟩ := disk_ptr h 0 rfl
  have hlen := hD.len
  have hn := hD.lo
  have hn2 := hD.hi
  apply o_cache_New_ev; unfold o_cache_New
  simp
  refine blocks_ok h 0 rfl (by omega) ?_
  have : D.last.length / 256 = n := by omega
  rw [this]
  have hnz : ¬ n = 0 := by omega
  have h1 : ¬ k < 1 := by omega
  have h2 : ¬ 1024 < k := by omega
  unfold o_cache_New_k2 o_cache_New_k4
  have h3 : ¬ (k : Int) < 1 := by omega
  have h4 : ¬ 1024 < (k : Int) := by omega
  simp [hnz, h3, h4, mkMap_eq, splice]
  have hp := h.push (.map [] 0)
  refine new_ok hp ?_
  intro b σ1 h5
  have h6 := h5.own_nil t_p_cache_item 1
  refine hQ _ σ1 ?_
  have hc : COk [] [] 0 := ⟨List.Perm.refl _, List.Pairwise.nil, fun r hr => by simp at hr, fun k h0 hk => by simp at hk, by simp⟩
  refine cache_in (cb := b) (rowv := .slice none 0 0) (mb := σ.size) (now := 0) hc rfl (Nat.le_refl _) ?_
  have h7 : H [MapA σ.size [], pt b (.cells [.pointer (some ⟨db, 0, none⟩), .int .i64 k, .int .u64 0, .map (some σ.size), .slice none 0 0] t_cache_Cache false), Own t_p_cache_item 1 (.slice none 0 0) 0 [], Disk (.pointer (some ⟨db, 0, none⟩)) D, I0] σ1 := by
    refine H_ex.2 ⟨([], 0), ?_⟩
    rw [H_sep]
    refine H_pure.2 ⟨⟨by simp, fun e he => by simp at he, fun e he => by simp at he⟩, ?_⟩
    exact h6.pick [2, 3, 4, 0, 1] (by decide)
  have h8 := (H_star (l := [Disk (.pointer (some ⟨db, 0, none⟩)) D, I0])).2 (h7.emp_end.pick [3, 4, 0, 1, 2, 5] (by decide))
  exact h8.pick [2, 3, 4, 1, 0] (by decide)
end Go.Ax.O
set_option maxRecDepth 100000
namespace Go.Ax.O

theorem over_append (a : Nat) (L : List UInt8) (fs gs : List Flight) : over a L (fs ++ gs) = over a (over a L fs) gs := by simp [over]
theorem over_other {a c : Nat} (h : a ≠ c) (L b : List UInt8) (hb : b.length = 256) : over (a * 256) L (parts c b) = L := by
  simp only [over, parts, List.foldl_cons, List.foldl_nil]
  rw [if_neg (by omega), if_neg (by omega), if_neg (by omega), if_neg (by omega)]
theorem over_same {a : Nat} {L b : List UInt8} (hL : L.length = 256) (hb : b.length = 256) : over (a * 256) L (parts a b) = b := by
  simp only [over, parts, List.foldl_cons, List.foldl_nil]
  rw [if_pos (by omega), if_pos (by omega), if_pos (by omega), if_pos (by omega)]
  rw [show a * 256 - a * 256 = 0 by omega, show a * 256 + 64 - a * 256 = 64 by omega, show a * 256 + 128 - a * 256 = 128 by omega, show a * 256 + 192 - a * 256 = 192 by omega]
  have l0 : ((b.drop 0).take 64).length = 64 := by simp; omega
  have l1 : ((b.drop 64).take 64).length = 64 := by simp; omega
  have l2 : ((b.drop 128).take 64).length = 64 := by simp; omega
  have l3 : ((b.drop 192).take 64).length = 64 := by simp; omega
  have p0 : (put L 0 ((b.drop 0).take 64)).length = 256 := by rw [put_length _ _ _ (by omega), hL]
  have p1 : (put (put L 0 ((b.drop 0).take 64)) 64 ((b.drop 64).take 64)).length = 256 := by rw [put_length _ _ _ (by omega), p0]
  have p2 : (put (put (put L 0 ((b.drop 0).take 64)) 64 ((b.drop 64).take 64)) 128 ((b.drop 128).take 64)).length = 256 := by rw [put_length _ _ _ (by omega), p1]
  apply List.ext_getElem?
  intro i
  rw [put_get _ _ _ (by omega), put_get _ _ _ (by omega), put_get _ _ _ (by omega), put_get _ _ _ (by omega)]
  rw [l0, l1, l2, l3]
  simp only [List.getElem?_take, List.getElem?_drop]
  by_cases h3 : 192 ≤ i ∧ i < 192 + 64
  · rw [if_pos h3, if_pos (by omega)]; congr 1; omega
  · rw [if_neg h3]
    by_cases h2 : 128 ≤ i ∧ i < 128 + 64
    · rw [if_pos h2, if_pos (by omega)]; congr 1; omega
    · rw [if_neg h2]
      by_cases h1 : 64 ≤ i ∧ i < 64 + 64
      · rw [if_pos h1, if_pos (by omega)]; congr 1; omega
      · rw [if_neg h1]
        by_cases h0 : 0 ≤ i ∧ i < 0 + 64
        · rw [if_pos h0, if_pos (by omega)]; congr 1; omega
        · rw [if_neg h0, List.getElem?_eq_none (by omega), List.getElem?_eq_none (by omega)]
/-- What is read behind a write. -/
theorem block_fling {D : DM} {n a c : Nat} {b : List UInt8} (hD : D.Ok n) (ha : a < n) (hb : b.length = 256) : (D.fling c b).block a = if a = c then b else D.block a := by
  have h1 : (D.fling c b).block a = over (a * 256) (D.block a) (parts c b) := by
    unfold DM.block DM.fling
    simp only [over_append]
  rw [h1]
  split
  · rename_i e; subst e
    exact over_same (block_len hD ha) hb
  · rename_i e
    exact over_other e _ _ hb
theorem block_new {n a : Nat} (ha : a < n) : (DM.new n).block a = List.replicate 256 0 := by
  rw [block_still _ rfl]
  simp only [DM.new, List.drop_replicate, List.take_replicate]
  congr 1; omega
end Go.Ax.O
set_option maxRecDepth 100000
namespace Go.Ax.C
open Go.Proofs Go.RowKit
open O (CacheA Disk It DPlain)

instance (v dv : Value) (K : Nat) (C : O.CM) (l : List Assn) : AtV (CacheA v dv K C :: l) v (CacheA v dv K C) l := ⟨.refl _⟩
instance (v : Value) (D : DM) (l : List Assn) : AtV (Disk v D :: l) v (Disk v D) l := ⟨.refl _⟩

variable {l r r2 : List Assn} {σ : AHeap} {Q : RK}

/-- What a block has. -/
def content (C : O.CM) (D : DM) (a : Nat) : List UInt8 :=
  match C.its.find? fun x => x.pl == a with
  | some x => x.b
  | none => D.block a
structure CInv (C : O.CM) (D : DM) (n : Nat) : Prop where
  ok : C.Ok n
  dp : DPlain D n
  cl : ∀ x ∈ C.its, x.dirty = false → D.block x.pl = x.b

theorem content_mem {C : O.CM} {D : DM} {n : Nat} (h : C.Ok n) {x : It} (hx : x ∈ C.its) : content C D x.pl = x.b := by
  unfold content
  have hnd := h.nd
  obtain ⟨A, B, e⟩ := List.append_of_mem hx
  rw [e] at hnd ⊢
  simp only [List.map_append, List.map_cons, List.nodup_append] at hnd
  have hA : ∀ y ∈ A, ¬ (y.pl == x.pl) = true := fun y hy he => by
    have := hnd.2.2 y.pl (List.mem_map_of_mem hy) x.pl (by simp)
    simp at he; exact this he
  rw [List.find?_append, List.find?_eq_none.2 hA]
  simp
theorem content_no {C : O.CM} {D : DM} {a : Nat} (h : ∀ x ∈ C.its, x.pl ≠ a) : content C D a = D.block a := by
  unfold content
  rw [List.find?_eq_none.2 fun x hx => by simpa using h x hx]
theorem content_len {C : O.CM} {D : DM} {n a : Nat} (h : CInv C D n) (ha : a < n) : (content C D a).length = 256 := by
  by_cases hx : ∃ x ∈ C.its, x.pl = a
  · obtain ⟨x, hx, rfl⟩ := hx
    rw [content_mem h.ok hx]; exact (h.ok.it x hx).2
  · rw [content_no fun x hx' e => hx ⟨x, hx', e⟩]; exact O.block_len h.dp.ok ha

theorem cacheA_le {v dv : Value} {K K' : Nat} {C : O.CM} {m : List Assn} (hk : K ≤ K') (h : H (CacheA v dv K C :: m) σ) : H (CacheA v dv K' C :: m) σ := by
  obtain ⟨cb, mb, now, rowv, R, M, rfl, h2, h3, h4, h5⟩ := O.cache_out h
  exact O.cache_in h2 h3 (Nat.le_trans h4 hk) h5
theorem H_two {A B : Assn} : H (A :: B :: l) σ ↔ H [A, B, Star l] σ := by
  constructor
  · intro h
    exact (H_star.2 (h.perm (List.perm_append_comm (l₁ := [A, B]) (l₂ := l)))).perm (by
      exact (List.Perm.swap _ _ _).trans ((List.Perm.swap _ _ _).cons _))
  · intro h
    have h1 : H (Star l :: [A, B]) σ := h.perm ((List.perm_append_comm (l₁ := [A, B]) (l₂ := [Star l])))
    exact (H_star.1 h1).perm List.perm_append_comm
theorem H_thr {A B X : Assn} : H (A :: B :: X :: l) σ ↔ H [A, B, X, Star l] σ := by
  constructor
  · intro h
    have h1 := h.perm (List.perm_append_comm (l₁ := [A, B, X]) (l₂ := l))
    exact (H_star.2 h1).perm (List.perm_append_comm (l₁ := [Star l]) (l₂ := [A, B, X]))
  · intro h
    have h1 : H (Star l :: [A, B, X]) σ := h.perm ((List.perm_append_comm (l₁ := [A, B, X]) (l₂ := [Star l])))
    exact (H_star.1 h1).perm List.perm_append_comm

/-- Room is made: nobody sees it. -/
theorem room_inv {C : O.CM} {D : DM} {n : Nat} (h : CInv C D n) : CInv { C with its := (C.room D).1 } (C.room D).2 n ∧ (∀ a < n, content { C with its := (C.room D).1 } (C.room D).2 a = content C D a) ∧ (C.room D).2.fly.length ≤ D.fly.length + 4 ∧ (C.room D).1.length < C.n := by
  obtain ⟨h1, h2, h3, h4, h5⟩ := O.room_plain h.ok h.dp
  have hok : ({ C with its := (C.room D).1 } : O.CM).Ok n := ⟨h.ok.lo, h.ok.hi, by simp; omega, fun x hx => h.ok.it x (h4 x hx), h5⟩
  unfold O.CM.room at h1 h2 h3 h4 h5 hok ⊢
  by_cases hlt : C.its.length < C.n
  · simp only [if_pos hlt] at h1 h2 h3 h4 h5 hok ⊢
    exact ⟨h, by intros; trivial, by omega, hlt⟩
  · simp only [if_neg hlt] at h1 h2 h3 h4 h5 hok ⊢
    cases e : C.its with
    | nil =>
      rw [e] at h1 h2 h3 h4 h5 hok
      refine ⟨⟨hok, h.dp, fun x hx => by simp at hx⟩, fun a ha => ?_, by simp, h3⟩
      rw [content_no (by simp), content_no (by simp [e])]
    | cons x t =>
      rw [e] at h1 h2 h3 h4 h5 hok
      simp only at h1 h2 h3 h4 h5 hok ⊢
      have hx := h.ok.it x (by simp [e])
      have hnd := h.ok.nd
      rw [e] at hnd
      simp only [List.map_cons, List.nodup_cons] at hnd
      have hbl : ∀ a < n, (O.wroteI D x).block a = if a = x.pl then x.b else D.block a := by
        intro a ha
        unfold O.wroteI
        cases hd : x.dirty with
        | true => simp only [if_true]; exact O.block_fling h.dp.ok ha hx.2
        | false =>
          simp only [Bool.false_eq_true, if_false]
          split
          · rename_i e2; subst e2; exact h.cl x (by simp [e]) hd
          · rfl
      have hcl : ∀ y ∈ t, y.dirty = false → (O.wroteI D x).block y.pl = y.b := fun y hy hd => by
        have hyl := (h.ok.it y (by simp [e, hy])).1
        rw [hbl _ hyl, if_neg (fun e2 => hnd.1 (by rw [← e2]; exact List.mem_map_of_mem hy))]
        exact h.cl y (by simp [e, hy]) hd
      refine ⟨⟨hok, h1, hcl⟩, fun a ha => ?_, h2, h3⟩
      by_cases hm : ∃ y ∈ t, y.pl = a
      · obtain ⟨y, hy, rfl⟩ := hm
        rw [content_mem hok hy, content_mem h.ok (x := y) (by simp [e, hy])]
      · have hno : ∀ y ∈ t, y.pl ≠ a := fun y hy e2 => hm ⟨y, hy, e2⟩
        rw [content_no hno, hbl a ha]
        by_cases hax : a = x.pl
        · subst hax; rw [if_pos rfl, content_mem h.ok (x := x) (by simp [e])]
        · rw [if_neg hax, content_no (C := C)]
          intro y hy
          rw [e] at hy
          rcases List.mem_cons.1 hy with rfl | hy
          · exact fun e2 => hax e2.symm
          · exact hno y hy

/-- Get: what the block has; nobody sees another change. -/
theorem cget {v dv : Value} {K n a : Nat} {C : O.CM} {D : DM} (h : H l σ) [k1 : AtV l v (CacheA v dv K C) r] [k2 : AtV r dv (Disk dv D) r2] (hI : CInv C D n) (ha : a < n) (hm : D.fly.length < 1099511627000) (hK : K + 2 < 18446744073709551616)
    (hQ : ∀ w σ' C' D', CInv C' D' n → C'.n = C.n → (∀ x < n, content C' D' x = content C D x) → D'.fly.length ≤ D.fly.length + 4 → (∀ y ∈ C'.its, y.dirty = true → y ∈ C.its) → (C.its.length < C.n ∨ (∃ y ∈ C.its, y.pl = a) → D' = D ∧ ∀ y ∈ C.its, y ∈ C'.its) →
      H (Own t_uint8 1 w 256 (bv (content C D a)) :: CacheA v dv (K + 2) C' :: Disk dv D' :: r2) σ' → Q (.ret (.tuple #[w, .int .i64 0])) σ') : E f_cache_Cache_Get [v, .int .i64 a] σ Q := by
  have h1 := H_two.1 ((h.atv v).perm (k2.perm.cons _))
  refine O.up ?_
  by_cases hin : ∃ it ∈ C.its, it.pl = a
  · obtain ⟨it, hit, hpl⟩ := hin
    obtain ⟨A, B, hits⟩ := List.append_of_mem hit
    subst hpl
    refine O.get_hit h1 hI.ok hits hI.dp (by omega) ?_
    intro w σ' h2
    have hpm : (A ++ B ++ [it]).Perm C.its := by
      rw [hits, List.append_assoc]
      exact List.Perm.append_left A (by simp)
    have hok : ({ C with its := A ++ B ++ [it] } : O.CM).Ok n := ⟨hI.ok.lo, hI.ok.hi, by have := hpm.length_eq; have := hI.ok.len; simp only; omega, fun x hx => hI.ok.it x (hpm.mem_iff.1 hx), ((hpm.map _).nodup_iff).2 hI.ok.nd⟩
    refine hQ w σ' { C with its := A ++ B ++ [it] } D ⟨hok, hI.dp, fun x hx => hI.cl x (hpm.mem_iff.1 hx)⟩ rfl (fun x hx => ?_) (by omega) (fun y hy _ => hpm.mem_iff.1 hy) (fun _ => ⟨rfl, fun y hy => hpm.mem_iff.2 hy⟩) ?_
    · by_cases hm : ∃ y ∈ C.its, y.pl = x
      · obtain ⟨y, hy, rfl⟩ := hm
        rw [content_mem hok (hpm.mem_iff.2 hy), content_mem hI.ok hy]
      · have hno : ∀ y ∈ C.its, y.pl ≠ x := fun y hy e => hm ⟨y, hy, e⟩
        rw [content_no hno, content_no fun y hy => hno y (hpm.mem_iff.1 hy)]
    · rw [content_mem hI.ok hit]
      have h3 : H [Own t_uint8 1 w 256 (bv it.b), CacheA v dv (K + 1) { C with its := A ++ B ++ [it] }, Disk dv D, Star r2] σ' := h2.pick [3, 0, 1, 2] (by decide)
      have h4 := H_thr.2 h3
      exact ((cacheA_le (by omega) (h4.perm (List.Perm.swap _ _ _))).perm (List.Perm.swap _ _ _))
  · have hno : ∀ x ∈ C.its, x.pl ≠ a := fun x hx e => hin ⟨x, hx, e⟩
    obtain ⟨hR, hRc, hRf, hRl⟩ := room_inv hI
    refine O.get_miss h1 hI.ok hno ha hI.dp hm hK ?_
    intro w σ' h2
    obtain ⟨_, _, _, hsub, _⟩ := O.room_plain hI.ok hI.dp
    have hroom : C.its.length < C.n → C.room D = (C.its, D) := fun hl => by unfold O.CM.room; rw [if_pos hl]
    generalize hits : (C.room D).1 = its at hR hRc hRl hsub h2
    generalize hDD : (C.room D).2 = D' at hR hRc hRf h2
    have hno' : ∀ x ∈ its, x.pl ≠ a := fun x hx => hno x (hsub x hx)
    have hbl : D'.block a = content C D a := by rw [← hRc a ha, content_no hno']
    have hok : ({ C with its := its ++ [⟨a, false, D'.block a⟩] } : O.CM).Ok n := by
      refine ⟨hI.ok.lo, hI.ok.hi, by simp; omega, fun x hx => ?_, ?_⟩
      · rcases List.mem_append.1 hx with hx | hx
        · exact hR.ok.it x hx
        · simp at hx; subst hx; exact ⟨ha, O.block_len hR.dp.ok ha⟩
      · simp only [List.map_append, List.map_cons, List.map_nil]
        rw [List.nodup_append]
        refine ⟨hR.ok.nd, by simp, ?_⟩
        intro x hx y hy
        simp at hy; subst hy
        obtain ⟨z, hz, rfl⟩ := List.mem_map.1 hx
        exact hno' z hz
    refine hQ w σ' _ D' ⟨hok, hR.dp, fun x hx hd => ?_⟩ rfl (fun x hx => ?_) hRf (fun y hy hd => ?_) (fun hl => ?_) ?_
    · rcases List.mem_append.1 hx with hx | hx
      · exact hR.cl x hx hd
      · simp at hx; subst hx; rfl
    · rw [← hRc x hx]
      by_cases hm : ∃ y ∈ its, y.pl = x
      · obtain ⟨y, hy, rfl⟩ := hm
        rw [content_mem hok (x := y) (by simp [hy]), content_mem hR.ok hy]
      · have hn2 : ∀ y ∈ its, y.pl ≠ x := fun y hy e => hm ⟨y, hy, e⟩
        by_cases hxa : x = a
        · subst hxa
          rw [content_no (C := { C with its := its }) hn2]
          exact content_mem hok (x := ⟨x, false, D'.block x⟩) (by simp)
        · rw [content_no (C := { C with its := its }) hn2, content_no]
          intro y hy
          rcases List.mem_append.1 hy with hy | hy
          · exact hn2 y hy
          · simp at hy; subst hy; exact fun e => hxa e.symm
    · rcases List.mem_append.1 hy with hy | hy
      · exact hsub y hy
      · simp at hy; subst hy; simp at hd
    · have := hroom (hl.resolve_right fun ⟨y, hy, e⟩ => hno y hy e)
      rw [this] at hits hDD
      exact ⟨hDD.symm, fun y hy => by rw [← hits]; simp [hy]⟩
    · rw [← hbl]
      have h3 : H [Own t_uint8 1 w 256 (bv (D'.block a)), CacheA v dv (K + 2) { C with its := its ++ [⟨a, false, D'.block a⟩] }, Disk dv D', Star r2] σ' := h2.pick [3, 0, 1, 2] (by decide)
      exact H_thr.2 h3

/-- Put: the block has what is put. -/
theorem cput {v dv w : Value} {K n a : Nat} {C : O.CM} {D : DM} {r3 : List Assn} {bs : List UInt8} (h : H l σ) [k1 : AtV l v (CacheA v dv K C) r] [k2 : AtV r dv (Disk dv D) r2] [k3 : AtV r2 w (Own t_uint8 1 w 256 (bv bs)) r3] (hI : CInv C D n) (ha : a < n) (hb : bs.length = 256) (hm : D.fly.length < 1099511627000) (hK : K + 2 < 18446744073709551616)
    (hQ : ∀ σ' C' D', CInv C' D' n → C'.n = C.n → (∀ x < n, content C' D' x = if x = a then bs else content C D x) → D'.fly.length ≤ D.fly.length + 4 → (∀ y ∈ C'.its, y.dirty = true → y.pl = a ∨ y ∈ C.its) → (∃ y ∈ C'.its, y.pl = a ∧ y.dirty = true) → (C.its.length < C.n ∨ (∃ y ∈ C.its, y.pl = a) → D' = D ∧ ∀ y ∈ C.its, y.pl ≠ a → y ∈ C'.its) →
      H (Own t_uint8 1 w 256 (bv bs) :: CacheA v dv (K + 2) C' :: Disk dv D' :: r3) σ' → Q (.ret (.int .i64 0)) σ') : E f_cache_Cache_Put [v, .int .i64 a, w] σ Q := by
  have h1 := H_thr.1 (((h.atv v).perm (k2.perm.cons _)).perm ((k3.perm.cons _).cons _))
  refine O.up ?_
  -- what both ways share
  have go : ∀ (its : List It) (D' : DM) (σ' : AHeap) (K' : Nat), K' ≤ K + 2 → CInv { C with its := its } D' n → its.length < C.n → (∀ x ∈ its, x.pl ≠ a) → (∀ x ∈ its, x ∈ C.its) → (∀ x < n, x ≠ a → content { C with its := its } D' x = content C D x) → D'.fly.length ≤ D.fly.length + 4 →
      (C.its.length < C.n ∨ (∃ y ∈ C.its, y.pl = a) → D' = D ∧ ∀ y ∈ C.its, y.pl ≠ a → y ∈ its) →
      H [CacheA v dv K' { C with its := its ++ [⟨a, true, bs⟩] }, Disk dv D', Own t_uint8 1 w 256 (bv bs), Star r3] σ' → Q (.ret (.int .i64 0)) σ' := by
    intro its D' σ' K' hK' hR hl hno hsub hcon hf hst h2
    have hok : ({ C with its := its ++ [⟨a, true, bs⟩] } : O.CM).Ok n := by
      refine ⟨hI.ok.lo, hI.ok.hi, by simp; omega, fun x hx => ?_, ?_⟩
      · rcases List.mem_append.1 hx with hx | hx
        · exact hR.ok.it x hx
        · simp at hx; subst hx; exact ⟨ha, hb⟩
      · simp only [List.map_append, List.map_cons, List.map_nil]
        rw [List.nodup_append]
        refine ⟨hR.ok.nd, by simp, ?_⟩
        intro x hx y hy
        simp at hy; subst hy
        obtain ⟨z, hz, rfl⟩ := List.mem_map.1 hx
        exact hno z hz
    refine hQ σ' _ D' ⟨hok, hR.dp, fun x hx hd => ?_⟩ rfl (fun x hx => ?_) hf (fun y hy hd => ?_) ⟨⟨a, true, bs⟩, by simp, rfl, rfl⟩ (fun hh => ⟨(hst hh).1, fun y hy hya => List.mem_append_left _ ((hst hh).2 y hy hya)⟩) ?_
    · rcases List.mem_append.1 hx with hx | hx
      · exact hR.cl x hx hd
      · simp at hx; subst hx; cases hd
    · by_cases hxa : x = a
      · subst hxa
        rw [if_pos rfl]
        exact content_mem hok (x := ⟨x, true, bs⟩) (by simp)
      · rw [if_neg hxa, ← hcon x hx hxa]
        by_cases hm : ∃ y ∈ its, y.pl = x
        · obtain ⟨y, hy, rfl⟩ := hm
          rw [content_mem hok (x := y) (by simp [hy]), content_mem hR.ok hy]
        · have hn2 : ∀ y ∈ its, y.pl ≠ x := fun y hy e => hm ⟨y, hy, e⟩
          rw [content_no (C := { C with its := its }) hn2, content_no]
          intro y hy
          rcases List.mem_append.1 hy with hy | hy
          · exact hn2 y hy
          · simp at hy; subst hy; exact fun e => hxa e.symm
    · rcases List.mem_append.1 hy with hy | hy
      · exact .inr (hsub y hy)
      · simp at hy; subst hy; exact .inl rfl
    · have h3 : H [Own t_uint8 1 w 256 (bv bs), CacheA v dv K' { C with its := its ++ [⟨a, true, bs⟩] }, Disk dv D', Star r3] σ' := h2.pick [2, 0, 1, 3] (by decide)
      have h4 := H_thr.2 h3
      exact ((cacheA_le hK' (h4.perm (List.Perm.swap _ _ _))).perm (List.Perm.swap _ _ _))
  by_cases hin : ∃ it ∈ C.its, it.pl = a
  · obtain ⟨it, hit, hpl⟩ := hin
    obtain ⟨A, B, hits⟩ := List.append_of_mem hit
    subst hpl
    refine O.put_hit h1 hI.ok hits hI.dp (by omega) ?_
    intro σ' h2
    have hnd := hI.ok.nd
    rw [hits] at hnd
    simp only [List.map_append, List.map_cons, List.nodup_append, List.nodup_cons] at hnd
    have hno : ∀ x ∈ A ++ B, x.pl ≠ it.pl := by
      intro x hx
      rcases List.mem_append.1 hx with hx | hx
      · exact fun e => hnd.2.2 x.pl (List.mem_map_of_mem hx) it.pl (by simp) e
      · exact fun e => hnd.2.1.1 (by rw [← e]; exact List.mem_map_of_mem hx)
    have hsub : ∀ x ∈ A ++ B, x ∈ C.its := fun x hx => by rw [hits]; simp only [List.mem_append, List.mem_cons] at hx ⊢; exact hx.elim .inl fun h => .inr (.inr h)
    have hlen : (A ++ B).length + 1 = C.its.length := by rw [hits]; simp; omega
    have hok : ({ C with its := A ++ B } : O.CM).Ok n := ⟨hI.ok.lo, hI.ok.hi, by have := hI.ok.len; simp only; omega, fun x hx => hI.ok.it x (hsub x hx), by
      simp only [List.map_append]
      rw [List.nodup_append]
      exact ⟨hnd.1, hnd.2.1.2, fun x hx y hy => hnd.2.2 x hx y (by simp [hy])⟩⟩
    refine go (A ++ B) D σ' (K + 1) (by omega) ⟨hok, hI.dp, fun x hx => hI.cl x (hsub x hx)⟩ (by have := hI.ok.len; omega) hno hsub (fun x hx hxa => ?_) (by omega) (fun _ => ⟨rfl, fun y hy hya => ?_⟩) h2
    · by_cases hm : ∃ y ∈ A ++ B, y.pl = x
      · obtain ⟨y, hy, rfl⟩ := hm
        rw [content_mem hok hy, content_mem hI.ok (hsub y hy)]
      · have hn2 : ∀ y ∈ A ++ B, y.pl ≠ x := fun y hy e => hm ⟨y, hy, e⟩
        rw [content_no (C := { C with its := A ++ B }) hn2, content_no]
        intro y hy
        rw [hits] at hy
        simp only [List.mem_append, List.mem_cons] at hy
        rcases hy with hy | rfl | hy
        · exact hn2 y (by simp [hy])
        · exact fun e => hxa e.symm
        · exact hn2 y (by simp [hy])
    · rw [hits] at hy
      simp only [List.mem_append, List.mem_cons] at hy ⊢
      rcases hy with hy | rfl | hy
      · exact .inl hy
      · exact absurd rfl hya
      · exact .inr hy
  · have hno : ∀ x ∈ C.its, x.pl ≠ a := fun x hx e => hin ⟨x, hx, e⟩
    obtain ⟨hR, hRc, hRf, hRl⟩ := room_inv hI
    refine O.put_miss h1 hI.ok hno ha hI.dp hm (by omega) ?_
    intro σ' h2
    obtain ⟨_, _, _, hsub, _⟩ := O.room_plain hI.ok hI.dp
    refine go (C.room D).1 (C.room D).2 σ' (K + 1) (by omega) hR hRl (fun x hx => hno x (hsub x hx)) hsub (fun x hx _ => hRc x hx) hRf (fun hh => ?_) h2
    rcases hh with hl | ⟨y, hy, e⟩
    · unfold O.CM.room; rw [if_pos hl]; exact ⟨rfl, fun y hy _ => hy⟩
    · exact absurd e (hno y hy)
end Go.Ax.C
namespace Go.Ax
open Go.RowKit Go.Proofs

theorem Rel.ahead {B : Nat} {w0 : World} {ρ : List RB} {σ : AHeap} {w : World} (h : Rel B w0 ρ σ w) (n : Nat) : Rel B w0 ρ σ (Sort.ahead w n) :=
  ⟨h.len, h.obj, h.inj, ⟨h.below.os, h.below.tape, h.below.output, h.below.size, h.below.block⟩, h.base⟩
theorem Rel.grow {B : Nat} {w0 : World} {ρ : List RB} {σ : AHeap} : ∀ (os : List Obj) {w : World}, Rel B w0 ρ σ w → Rel B w0 ρ σ (Sort.grow w os.toArray)
  | [], w, h => by simpa using h
  | o :: os, w, h => by
    have := Rel.grow os (h.garbage o)
    rw [Sort.alloc_eq_grow, Sort.grow_grow] at this
    simpa using this

def iz (zs : List Int) : List Value := zs.map fun z => .int .i64 z
theorem iz_len (zs : List Int) : (iz zs).length = zs.length := by simp [iz]
theorem iz_get (zs : List Int) (j : Nat) : (iz zs)[j]? = zs[j]?.map fun z => .int .i64 z := by simp [iz]

theorem sortInts_ev {P : Program} {g : FuncId} (hbody : ∃ fn, P.funcs[g]? = some fn ∧ (fn.name == "runtime.NumGoroutine") = false ∧ fn.body.isNone = false)
    (hS : ∀ (blk off cap : Nat) (zs : List Int) (w : World), Sort.Holds (Value.int .i64) w blk off zs.toArray → blk < w.heap.size → zs.length < 4611686018427387904 →
      Calls P g #[.slice (some ⟨blk, off, none⟩) zs.length cap] w fun e w' => e = .returned (.tuple #[]) ∧ ∃ n os, w' = Sort.grow (Sort.putRow (Value.int .i64) (Sort.ahead w n) blk off (zs.mergeSort fun x y => decide (x ≤ y)).toArray) os)
    {σ : AHeap} {b cap : Nat} {zs : List Int} {rest : List Value} {e : TypeId} {opn : Bool} {Q : RK} (hg : σ.get b = some (.cells (iz zs ++ rest) e opn)) (hlen : zs.length < 4611686018427387904)
    (hQ : Q (.ret (.tuple #[])) (σ.set b (.cells (iz (zs.mergeSort fun x y => decide (x ≤ y)) ++ rest) e opn))) : Ev P g [.slice (some ⟨b, 0, none⟩) zs.length cap] σ Q := by
  intro B w0 ρ w args' hr ha
  obtain ⟨fn, f1, f2, f3⟩ := hbody
  refine ⟨fn, f1, f2, .inl ⟨f3, ?_⟩⟩
  obtain ⟨v', l2, rfl, hv, hnil⟩ := ha.cons_inv
  rw [hnil.nil_inv]
  obtain ⟨a', c', rfl, _, _, hor⟩ := hv.slice_inv
  rcases hor with ⟨h, _⟩ | ⟨x, x', r, hx, rfl, hr2, rfl, _⟩ | ⟨x', h, _⟩ | ⟨o, x', h, _⟩
  · cases h
  · cases hx
    obtain ⟨r0, hr0, ⟨cc, fz, hh, hfz, hsz, hop, hle, hlr⟩, hB, hB2⟩ := hr.obj b _ hg
    rw [hr2] at hr0; cases hr0
    have hL : (iz zs ++ rest).length = zs.length + rest.length := by simp [iz]
    rw [hL] at hle hop
    have hcell : ∀ j z, zs[j]? = some z → cc[r.s + j]? = some (.int .i64 z) := by
      intro j z hz
      have hj := (List.getElem?_eq_some_iff.1 hz).1
      have h1 : (iz zs ++ rest)[j]? = some (.int .i64 z) := by rw [List.getElem?_append_left (by rw [iz_len]; exact hj), iz_get, hz]; rfl
      have h2 : ((cc.toList.drop r.s).take (iz zs ++ rest).length)[j]? = cc[r.s + j]? := by
        rw [List.getElem?_take, if_pos (by rw [hL]; omega), List.getElem?_drop]; simp
      cases hc : cc[r.s + j]? with
      | none =>
        have := Array.getElem?_eq_none_iff.1 hc
        omega
      | some u =>
        have := hlr.2 j _ u h1 (by rw [h2, hc])
        rw [this.int_inv]
    have hblk : r.b < w.heap.size := (Array.getElem?_eq_some_iff.1 hh).1
    have hH : Sort.Holds (Value.int .i64) w r.b (r.s + 0) zs.toArray := by
      intro j hj
      have hj : j < zs.length := by simpa using hj
      have hc := hcell j zs[j] (List.getElem?_eq_getElem hj)
      have hlt : r.s + j < cc.size := (Array.getElem?_eq_some_iff.1 hc).1
      refine ⟨?_, ?_⟩
      · simp only [World.cell?, hh, Nat.add_zero, hc]
        simp [hj]
      · have := hfz.at (r.s + j) hlt
        simp only [World.frozen?, hh, Nat.add_zero]
        simpa using this
    refine (hS r.b (r.s + 0) c' zs w hH hblk hlen).mono fun e w' ⟨he, n, os, hw⟩ => ?_
    subst he; subst hw
    generalize hss : (zs.mergeSort fun x y => decide (x ≤ y)) = ss at hQ ⊢
    have hsl : ss.length = zs.length := by rw [← hss]; simp
    refine ⟨.ret (.tuple #[]), ρ, _, hQ, ⟨_, rfl, VR.tuple' (by simpa using LR.nil ρ)⟩, Ext.refl _, ?_⟩
    have hfin := Rel.grow os.toList (w := Sort.putRow (Value.int .i64) (Sort.ahead w n) r.b (r.s + 0) ss.toArray) (ρ := ρ) (B := B) (w0 := w0) (σ := σ.set b (.cells (iz ss ++ rest) e opn)) ?_
    · simpa using hfin
    refine (hr.ahead n).update hg rfl rfl hr2 ?_ ?_ rfl rfl rfl (by simp)
    · refine ⟨Sort.putCells (Value.int .i64) (r.s + 0) ss.toArray cc, fz, ?_, ?_, ?_, ?_, ?_, ?_⟩
      · simp only [Sort.putRow, Sort.mapBlock, Sort.heap_ahead, Array.getElem?_modify, if_true, hh, Option.map_some, Sort.onCells]
      · have : (Sort.putCells (Value.int .i64) (r.s + 0) ss.toArray cc).size = cc.size := by simp [Sort.putCells]
        rw [this]; exact hfz
      · simp [Sort.putCells, hsz]
      · intro ho
        have := hop ho
        simp only [List.length_append, iz_len, hsl]
        exact this
      · simp only [List.length_append, iz_len, hsl]; exact hle
      · refine ⟨by simp [Sort.putCells, iz_len, hsl]; omega, fun i v v' h1 h2 => ?_⟩
        rw [List.getElem?_take] at h2
        split at h2
        · rename_i hi
          simp only [List.length_append, iz_len, hsl] at hi
          rw [List.getElem?_drop] at h2
          simp only [Sort.putCells, Array.getElem?_toList, Array.getElem?_mapIdx, Nat.add_zero, List.size_toArray] at h2
          cases hc : cc[r.s + i]? with
          | none => rw [hc] at h2; cases h2
          | some u =>
            rw [hc] at h2
            simp only [Option.map_some, Option.some.injEq] at h2
            by_cases hlt : i < ss.length
            · rw [if_pos (by omega)] at h2
              rw [List.getElem?_append_left (by rw [iz_len]; exact hlt), iz_get, List.getElem?_eq_getElem hlt] at h1
              simp only [Option.map_some, Option.some.injEq] at h1
              rw [← h1, ← h2]
              have : r.s + i - r.s = i := by omega
              rw [this]
              have e1 : ss.toArray[i]! = ss[i] := by simp [hlt]
              rw [e1]
              exact .int _ _
            · rw [if_neg (by omega)] at h2
              subst h2
              rw [List.getElem?_append_right (by rw [iz_len]; omega), iz_len] at h1
              refine hlr.2 i v u ?_ ?_
              · rw [List.getElem?_append_right (by rw [iz_len]; omega), iz_len, ← hsl]; exact h1
              · rw [List.getElem?_take, if_pos (by rw [hL]; omega), List.getElem?_drop]; simpa using hc
        · cases h2
    · intro k hk
      simp only [Sort.putRow, Sort.mapBlock, Sort.heap_ahead, Array.getElem?_modify, if_neg (Ne.symm hk)]
  · cases h
  · cases h
theorem sortNone_ev {P : Program} {g : FuncId} (hbody : ∃ fn, P.funcs[g]? = some fn ∧ (fn.name == "runtime.NumGoroutine") = false ∧ fn.body.isNone = false)
    (hS : ∀ (p : Option Addr) (cap : Nat) (w : World), Calls P g #[.slice p 0 cap] w fun e w' => e = .returned (.tuple #[]) ∧ w' = w)
    {σ : AHeap} {a : Option Addr} {cap : Nat} {Q : RK} (hQ : Q (.ret (.tuple #[])) σ) : Ev P g [.slice a 0 cap] σ Q := by
  intro B w0 ρ w args' hr ha
  obtain ⟨fn, f1, f2, f3⟩ := hbody
  refine ⟨fn, f1, f2, .inl ⟨f3, ?_⟩⟩
  obtain ⟨v', l2, rfl, hv, hnil⟩ := ha.cons_inv
  rw [hnil.nil_inv]
  obtain ⟨a', c', rfl, _⟩ := hv.slice_inv
  refine (hS a' c' w).mono fun e w' ⟨he, hw⟩ => ?_
  subst he; subst hw
  exact ⟨.ret (.tuple #[]), ρ, σ, hQ, ⟨_, rfl, VR.tuple' (by simpa using LR.nil ρ)⟩, Ext.refl _, hr⟩
end Go.Ax
namespace Go.Proofs
open Go.Shelf
def Try.lays189_ren : Go.Shelf.Ren := ⟨fun | 189 => 78 | 125 => 105 | 257 => 104 | 128 => 126 | 129 => 127 | 294 => 117 | 295 => 118 | 296 => 119 | 297 => 120 | 298 => 121 | 299 => 122 | 216 => 123 | 300 => 124 | 301 => 125 | 328 => 137 | 329 => 138 | 330 => 139 | 331 => 140 | 332 => 141 | 215 => 142 | 343 => 146 | n => n, fun | 28 => 60 | 3 => 3 | 46 => 111 | 0 => 0 | 51 => 176 | 53 => 70 | 4 => 4 | 183 => 187 | 182 => 186 | 131 => 192 | 5 => 5 | 9 => 9 | 218 => 202 | 222 => 206 | 228 => 211 | 229 => 212 | n => n, fun | n => n⟩
theorem Try.lays189 : Go.Proofs.Lays.n189 Try.prog Try.lays189_ren := {
  mixed := by kernel_rfl
  f125 := Try.func105.trans (congrArg some (by kernel_rfl))
  f128 := Try.func126.trans (congrArg some (by kernel_rfl))
  f129 := Try.func127.trans (congrArg some (by kernel_rfl))
  f189 := Try.func78.trans (congrArg some (by kernel_rfl))
  f215 := Try.func142.trans (congrArg some (by kernel_rfl))
  f216 := Try.func123.trans (congrArg some (by kernel_rfl))
  f257 := Try.func104.trans (congrArg some (by kernel_rfl))
  f294 := Try.func117.trans (congrArg some (by kernel_rfl))
  f295 := Try.func118.trans (congrArg some (by kernel_rfl))
  f296 := Try.func119.trans (congrArg some (by kernel_rfl))
  f297 := Try.func120.trans (congrArg some (by kernel_rfl))
  f298 := Try.func121.trans (congrArg some (by kernel_rfl))
  f299 := Try.func122.trans (congrArg some (by kernel_rfl))
  f300 := Try.func124.trans (congrArg some (by kernel_rfl))
  f301 := Try.func125.trans (congrArg some (by kernel_rfl))
  f328 := Try.func137.trans (congrArg some (by kernel_rfl))
  f329 := Try.func138.trans (congrArg some (by kernel_rfl))
  f330 := Try.func139.trans (congrArg some (by kernel_rfl))
  f331 := Try.func140.trans (congrArg some (by kernel_rfl))
  f332 := Try.func141.trans (congrArg some (by kernel_rfl))
  f343 := Try.func146.trans (congrArg some (by kernel_rfl))
  t0 := Try.underlying0
  a0 := Try.isAgg0
  z0 := Try.sizeOf0
  v0 := Try.zeroValue0
  t3 := Try.underlying3
  a3 := Try.isAgg3
  z3 := Try.sizeOf3
  v3 := Try.zeroValue3
  t4 := Try.underlying4
  a4 := Try.isAgg4
  z4 := Try.sizeOf4
  v4 := Try.zeroValue4
  t5 := Try.underlying5
  a5 := Try.isAgg5
  z5 := Try.sizeOf5
  v5 := Try.zeroValue5
  t9 := Try.underlying9
  a9 := Try.isAgg9
  z9 := Try.sizeOf9
  v9 := Try.zeroValue9
  t28 := Try.underlying60
  a28 := Try.isAgg60
  z28 := Try.sizeOf60
  v28 := Try.zeroValue60
  t46 := Try.underlying111
  a46 := Try.isAgg111
  z46 := Try.sizeOf111
  v46 := Try.zeroValue111
  t51 := Try.underlying176
  a51 := Try.isAgg176
  z51 := Try.sizeOf176
  v51 := Try.zeroValue176
  t53 := Try.underlying70
  a53 := Try.isAgg70
  z53 := Try.sizeOf70
  v53 := Try.zeroValue70
  t131 := Try.underlying192
  a131 := Try.isAgg192
  z131 := Try.sizeOf192
  v131 := Try.zeroValue192
  t182 := Try.underlying186
  a182 := Try.isAgg186
  z182 := Try.sizeOf186
  v182 := Try.zeroValue186
  t183 := Try.underlying187
  a183 := Try.isAgg187
  z183 := Try.sizeOf187
  v183 := Try.zeroValue187
  t218 := Try.underlying202
  a218 := Try.isAgg202
  z218 := Try.sizeOf202
  v218 := Try.zeroValue202
  t222 := Try.underlying206
  a222 := Try.isAgg206
  z222 := Try.sizeOf206
  v222 := Try.zeroValue206
  t228 := Try.underlying211
  a228 := Try.isAgg211
  z228 := Try.sizeOf211
  v228 := Try.zeroValue211
  t229 := Try.underlying212
  a229 := Try.isAgg212
  z229 := Try.sizeOf212
  v229 := Try.zeroValue212 }
open Go.Sort Go.RowKit in
theorem Try.slices_Sort_int (blk off cap : Nat) (zs : List Int) (w : World) (hH : Holds (Value.int .i64) w blk off zs.toArray) (hblk : blk < w.heap.size) (hsz : zs.length < 4611686018427387904) :
    Calls Try.prog 78 #[.slice (some ⟨blk, off, none⟩) zs.length cap] w fun e w' =>
      e = .returned (.tuple #[]) ∧ ∃ n os, w' = grow (putRow (Value.int .i64) (Sort.ahead w n) blk off (zs.mergeSort fun x y => decide (x ≤ y)).toArray) os := Any.slices_Sort_int Try.lays189 blk off cap zs w hH hblk hsz
open Go.Sort Go.RowKit in
theorem Try.slices_Sort_int_none (p : Option Addr) (cap : Nat) (w : World) :
    Calls Try.prog 78 #[.slice p 0 cap] w fun e w' => e = .returned (.tuple #[]) ∧ w' = w := Any.slices_Sort_int_none Try.lays189 p cap w
end Go.Proofs
namespace Go.Ax.C
open Go.Proofs
theorem sort_body : ∃ fn, P.funcs[f_slices_Sort_sl_int_int]? = some fn ∧ (fn.name == "runtime.NumGoroutine") = false ∧ fn.body.isNone = false := ⟨Try.f78, by kernel_rfl, by kernel_rfl, by kernel_rfl⟩
def sorted (zs : List Int) : List Int := zs.mergeSort fun x y => decide (x ≤ y)
theorem sort_ok {l r : List Assn} {σ : AHeap} {v : Value} {n : Nat} {zs : List Int} {Q : RK} (h : H l σ) [k : AtV l v (Own t_int 1 v n (iz zs)) r] (hn : zs.length < 4611686018427387904) (hz : zs.length = n)
    (hQ : ∀ σ', H (Own t_int 1 v n (iz (sorted zs)) :: r) σ' → Q (.ret (.tuple #[])) σ') : E f_slices_Sort_sl_int_int [v] σ Q := by
  have h := h.atv v
  rw [E_eq]
  rcases H_own.1 h with ⟨⟨rfl, h2, hv⟩, h3⟩ | ⟨b, c, opn, rest, h1, h2, h3, rfl, h5, h6⟩
  · have hz0 : zs = [] := List.length_eq_zero_iff.1 hz
    subst hz0
    have hQ' : Q (.ret (.tuple #[])) σ := hQ σ (by
      have : sorted [] = [] := by simp [sorted]
      rw [this]; exact h)
    rcases hv with rfl | rfl
    · exact sortNone_ev sort_body Try.slices_Sort_int_none hQ'
    · exact sortNone_ev sort_body Try.slices_Sort_int_none hQ'
  · subst hz
    refine sortInts_ev (zs := zs) sort_body Try.slices_Sort_int h1.get0.1 hn (hQ _ ?_)
    have h7 := h1.set0 (.cells (iz (sorted zs) ++ rest) t_int opn)
    exact H_own.2 (.inr ⟨b, c, opn, rest, h7, by simp [iz, sorted], h3, rfl, h5, h6⟩)
end Go.Ax.C
