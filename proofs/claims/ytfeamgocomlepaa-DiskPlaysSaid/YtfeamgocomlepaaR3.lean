/- Contracts of the reference's functions: Barrier, Crash, Read, Copy. No statement of the seat is proved here. -/
import Derived.Test.YtfeamgocomlepaaR2
set_option maxRecDepth 100000
namespace Go.Ax.YtfeamgocomlepaaC
open Go.Proofs Go.RowKit

variable {l m : List Assn} {σ : AHeap} {Q : WK}

theorem rdisk_row {v : Value} {D : DM} {n : Nat} (h : H l σ) (i : Nat) (hi : l[i]? = some (RDisk n v D)) :
    ∃ b sa sc la lc, v = .pointer (some ⟨b, 0, none⟩) ∧ σ.row b = some [.slice sa (4 * n) sc, .slice la D.fly.length lc, .int .i64 D.fuse, .bool D.off, .int .i64 n] := by
  obtain ⟨b, sv, lv, ss, fs, rfl, hs, hfs, h⟩ := rdisk_out (h.out i hi)
  obtain ⟨_, _, sa, sc, rfl⟩ := h.own_src 1 rfl
  obtain ⟨_, _, la, lc, rfl⟩ := h.own_src 2 rfl
  exact ⟨b, sa, sc, la, lc, rfl, h.row 0 rfl⟩
theorem crashed_append (pk : List UInt8) : ∀ (fs gs : List Flight) (L : List UInt8) (j : Nat), crashed pk L j (fs ++ gs) = crashed pk (crashed pk L j fs) (j + fs.length) gs
  | [], gs, L, j => by simp [crashed]
  | f :: fs, gs, L, j => by
    simp only [List.cons_append, crashed, crashed_append pk fs, List.length_cons]
    rw [show j + 1 + fs.length = j + (fs.length + 1) by omega]
theorem crashed_rest (pk : List UInt8) : ∀ (fs : List Flight) (L : List UInt8) (j : Nat), pk.length ≤ j → crashed pk L j fs = L
  | [], L, j, _ => rfl
  | f :: fs, L, j, h => by
    have : pk[j]? = none := List.getElem?_eq_none h
    simp only [crashed, cutOf, this, List.take_zero, put_nil]
    exact crashed_rest pk fs L (j + 1) (by omega)
theorem crashed_stop (pk L : List UInt8) (fs : List Flight) (k : Nat) (hk : pk.length ≤ k) (hk2 : k ≤ fs.length) : crashed pk L 0 fs = crashed pk L 0 (fs.take k) := by
  conv => lhs; rw [← List.take_append_drop k fs]
  rw [crashed_append, crashed_rest _ _ _ _ (by simp; omega)]
/-- What lies in flight is nothing. -/
theorem rdisk_still {v : Value} {D : DM} {n : Nat} (h : H [RDisk n v D, Star (l)] σ) : ∃ b, v = .pointer (some ⟨b, 0, none⟩) ∧ ∀ k : AHeap → Prop, (∀ σ', H [RDisk n v { D with fly := [] }, Star l] σ' → k σ') → pu (aStore 1 (.pointer (some ⟨b, 1, none⟩)) (.slice none 0 0) σ) k := by
  obtain ⟨b, sv, lv, ss, fs, rfl, hs, hfs, h⟩ := rdisk_out h
  refine ⟨b, rfl, fun k hk => ?_⟩
  refine store1 h 0 rfl rfl (by simp) ?_
  intro σ1 h1
  have h2 := (h1.own_nil 117 2).emp_end
  refine hk _ (rdisk_in (D := { D with fly := [] }) sv (.slice none 0 0) ss [] hs rfl ?_)
  exact h2.pick [0, 1, 6, 3, 7, 5] (by decide)

/-! ### Barrier -/
theorem laid_Ok {D : DM} {n k : Nat} (h : D.Ok n) : ({ D with last := laid D.last (D.fly.take k) } : DM).Ok n := ⟨h.lo, h.hi, laid_length _ _ h.len fun f hf => h.fly f (List.mem_of_mem_take hf), h.fly⟩
theorem crashed_Ok {D : DM} {n k : Nat} {pk : List UInt8} (h : D.Ok n) : ({ D with last := crashed pk D.last 0 (D.fly.take k) } : DM).Ok n := ⟨h.lo, h.hi, crashed_length _ _ _ _ h.len fun f hf => h.fly f (List.mem_of_mem_take hf), h.fly⟩
theorem fly_sec {n : Nat} {f : Flight} (h : FlyOk n f) : 64 * (f.1 / 64) = f.1 ∧ f.1 / 64 < 4 * n := by
  have := h.al; have := h.fit; omega
theorem rbarrier_ok {v : Value} {D : DM} {n : Nat} (h : H l σ) (i : Nat) (hi : l[i]? = some (RDisk n v D)) (hD : D.Ok n) (hf : D.fuse < 9223372036854775808) (hm : D.fly.length < 1099511627776)
    (hk : ∀ σ', H (l.set i (RDisk n v D.barrier.1)) σ' → Q (.int .i64 D.barrier.2) σ') : E 31 [v] σ Q := by
  have hlt := (List.getElem?_eq_some_iff.1 hi).1
  obtain ⟨b, sa, sc, la, lc, rfl, hrow⟩ := rdisk_row h i hi
  apply s31_ev; unfold s31
  have r3 := load1 (n := 1) (o := 3) hrow
  simp [r3]
  have hr := ready_in hD (a := 0) hD.lo
  cases ho : D.off with
  | true =>
    rw [ho] at hr
    have e : D.barrier = (D, 9) := by simp [DM.barrier]; simp at hr; simp [hr]
    rw [e] at hk
    simpa using hk _ (by rw [set_self hi]; exact h)
  | false =>
    rw [ho] at hr
    simp at hr
    simp
    refine burns_ok h i hi hf ?_
    intro σ1 h1
    cases hb1 : D.burn.2 with
    | false =>
      have e : D.barrier = (D.burn.1, 9) := by simp [DM.barrier, hr, hb1]
      rw [e] at hk
      simpa using hk _ h1
    | true =>
      simp
      have e : D.barrier = (D.burn.1.land, 0) := by simp [DM.barrier, hr, hb1]
      rw [e] at hk
      have hfl : D.burn.1.fly = D.fly := burn_fly D
      have hD1 := burn_Ok hD
      have hm1 : D.burn.1.fly.length < 1099511627776 := by rw [hfl]; exact hm
      generalize D.burn.1 = D1 at h1 hk hfl hD1 hm1
      have hi1 : (l.set i (RDisk n (.pointer (some ⟨b, 0, none⟩)) D1))[i]? = some (RDisk n (.pointer (some ⟨b, 0, none⟩)) D1) := by simp [hlt]
      have h2 := h1.out i hi1
      rw [List.set_set] at h2
      let J : Nat → List Assn := fun k => [RDisk n (.pointer (some ⟨b, 0, none⟩)) { D1 with last := laid D1.last (D1.fly.take k) }, Star (l.set i emp)]
      refine ⟨fun m x0 x3 τ => ∃ k : Nat, m = D1.fly.length - k ∧ k ≤ D1.fly.length ∧ x0 = .pointer (some ⟨b, 0, none⟩) ∧ x3 = .int .i64 k ∧ H (J k) τ, ⟨_, 0, rfl, by omega, rfl, rfl, h2⟩, ?_⟩
      rintro m _ _ τ ⟨k, rfl, hkl, rfl, rfl, h3⟩
      suffices hb : ∀ N : Value → Value → AHeap → Prop, (∀ τ', k < D1.fly.length → H (J (k + 1)) τ' → N (.pointer (some ⟨b, 0, none⟩)) (.int .i64 (k + 1 : Nat)) τ') → s31b1 N Q (.pointer (some ⟨b, 0, none⟩)) (.int .i64 k) τ from
        hb _ fun τ' hlt h' => ⟨_, by omega, k + 1, rfl, by omega, rfl, rfl, h'⟩
      intro N hN
      obtain ⟨b', sa, sc, la, lc, hb', hrow⟩ := rdisk_row h3 0 rfl
      cases hb'
      have r1 := load1 (n := 1) (o := 1) hrow
      unfold s31b1
      simp [r1]
      refine wC_dec (fun g1 => ?_) fun g1 => ?_
      · have hfk := List.getElem?_eq_getElem g1
        have hfo := hD1.fly _ (List.getElem_mem g1)
        generalize D1.fly[k] = f at hfk hfo
        obtain ⟨hsec, hsec2⟩ := fly_sec hfo
        obtain ⟨b', sv, lv, lb, s, hb', hrow2, e1, e2, _, _, h4⟩ := rdisk_fly h3 0 rfl hfk
        cases hb'
        rw [hrow] at hrow2
        cases hrow2
        simp only [e1, e2, pu_some]
        refine lay_ok (q := 64) h4 0 rfl 2 rfl hfo.len (laid_Ok hD1).len hD1.hi hsec2 (by omega) ?_
        intro τ1 h5
        rw [wrap_i64 (by omega)]
        refine hN τ1 g1 ?_
        simp only [J]
        have h6 := h5.pick [0, 1] (by decide)
        rw [laid_take _ _ _ _ hfk]
        rw [hsec, List.take_of_length_le (l := f.2) (by have := hfo.len; omega)] at h6
        exact h6
      · have : k = D1.fly.length := by omega
        subst this
        simp only [J, List.take_length] at h3
        obtain ⟨b', hb', hst⟩ := rdisk_still h3
        cases hb'
        refine hst _ ?_
        intro τ1 h4
        exact hk _ (H.in' i hi h4)

/-! ### Crash -/
theorem rcrash_ok {v pv : Value} {D : DM} {n : Nat} {pk : List UInt8} (h : H l σ) (i : Nat) (hi : l[i]? = some (RDisk n v D)) (hD : D.Ok n) (hm : D.fly.length < 1099511627776)
    (hp : ∀ τ, H (l.set i emp) τ → Rd τ pv pk) (hk : ∀ σ', H (l.set i (RDisk n v (D.crash pk))) σ' → Q (.tuple #[]) σ') : E 33 [v, pv] σ Q := by
  obtain ⟨b, sa, sc, la, lc, rfl, hrow⟩ := rdisk_row h i hi
  have h2 := h.out i hi
  obtain ⟨pa, pc, rfl⟩ := (hp _ (h2.beside 1 rfl)).form
  apply s33_ev; unfold s33
  let J : Nat → List Assn := fun k => [RDisk n (.pointer (some ⟨b, 0, none⟩)) { D with last := crashed pk D.last 0 (D.fly.take k) }, Star (l.set i emp)]
  refine ⟨fun m x0 x1 x4 τ => ∃ k : Nat, m = D.fly.length - k ∧ k ≤ D.fly.length ∧ x0 = .pointer (some ⟨b, 0, none⟩) ∧ x1 = .slice pa pk.length pc ∧ x4 = .int .i64 k ∧ H (J k) τ, ⟨_, 0, rfl, by omega, rfl, rfl, rfl, h2⟩, ?_⟩
  clear h2 hrow
  rintro m _ _ _ τ ⟨k, rfl, hkl, rfl, rfl, rfl, h3⟩
  suffices hb : ∀ N : Value → Value → Value → AHeap → Prop, (∀ τ', k < D.fly.length → H (J (k + 1)) τ' → N (.pointer (some ⟨b, 0, none⟩)) (.slice pa pk.length pc) (.int .i64 (k + 1 : Nat)) τ') → s33b1 N Q (.pointer (some ⟨b, 0, none⟩)) (.slice pa pk.length pc) (.int .i64 k) τ from
    hb _ fun τ' hlt h' => ⟨_, by omega, k + 1, rfl, by omega, rfl, rfl, rfl, h'⟩
  intro N hN
  obtain ⟨b', sa, sc, la, lc, hb', hrow⟩ := rdisk_row h3 0 rfl
  cases hb'
  have r1 := load1 (n := 1) (o := 1) hrow
  -- the end
  have fin : crashed pk D.last 0 D.fly = crashed pk D.last 0 (D.fly.take k) → ∀ x, s33k2 N Q (.bool false) (.slice pa pk.length pc) x (.pointer (some ⟨b, 0, none⟩)) τ := by
    intro he x
    unfold s33k2
    simp
    obtain ⟨b', hb', hst⟩ := rdisk_still h3
    cases hb'
    refine hst _ ?_
    intro τ1 h4
    obtain ⟨b', sv, lv, ss, fs, hb', hs, hfs, h5⟩ := rdisk_out h4
    cases hb'
    refine store1 h5 0 rfl rfl (by simp) ?_
    intro τ2 h6
    try simp
    refine store1 h6 0 rfl rfl (by simp) ?_
    intro τ3 h7
    refine hk _ (H.in' i hi (rdisk_in (D := D.crash pk) sv lv ss fs hs hfs ?_))
    simp only [DM.crash, he, RDiskP]
    exact h7
  unfold s33b1
  simp [r1]
  refine wG_dec (fun g1 => ?_) fun g1 => fin (by rw [List.take_of_length_le (by omega)]) _
  by_cases g2 : k < pk.length
  · rw [decide_eq_true (by omega)]
    have hrd := hp _ (h3.beside 1 rfl)
    have hpk := List.getElem?_eq_getElem g2
    obtain ⟨pp, p1, p2⟩ := hrd.elem _ _ hpk
    have hb8 := by8_lt pk[k]
    unfold s33k2
    simp [p1, p2, by8]
    rw [wrap_i64 (by omega)]
    have hfk := List.getElem?_eq_getElem g1
    have hfo := hD.fly _ (List.getElem_mem g1)
    generalize D.fly[k] = f at hfk hfo
    obtain ⟨hsec, hsec2⟩ := fly_sec hfo
    obtain ⟨b', sv, lv, lb, s, hb', hrow2, e1, e2, _, _, h4⟩ := rdisk_fly h3 0 rfl hfk
    cases hb'
    rw [hrow] at hrow2
    cases hrow2
    have k8 : ∀ τ', H (J (k + 1)) τ' → s33k8 N Q (.int .i64 k) (.pointer (some ⟨b, 0, none⟩)) (.slice pa pk.length pc) τ' := by
      intro τ' h'
      unfold s33k8
      simp
      rw [wrap_i64 (by omega)]
      exact hN τ' g1 h'
    have hcut : cutOf pk k = if pk[k].toNat = 0 then 0 else if pk[k].toNat = 1 then 64 else (pk[k].toNat - 2) % 65 := by simp [cutOf, hpk]
    have hct := crashed_take pk D.last D.fly k f hfk
    generalize pk[k].toNat = p at hb8 hcut
    have go : ∀ q : Nat, q ≤ 64 → cutOf pk k = q → ∀ τ', H ([RDisk n (.pointer (some ⟨b, 0, none⟩)) { D with last := put (crashed pk D.last 0 (D.fly.take k)) (64 * (f.1 / 64)) (f.2.take q) }, Star (l.set i emp)]) τ' → H (J (k + 1)) τ' := by
      intro q hq hc τ' h'
      simp only [J]
      rw [hct, hc, ← hsec]
      rw [hsec] at h' ⊢
      exact h'
    refine wC_dec (fun q1 => ?_) fun q1 => ?_
    · simp only [r1, List.getElem?_cons_succ, List.getElem?_cons_zero, pu_some, e1, e2]
      refine lay_ok (q := 64) h4 0 rfl 2 rfl hfo.len (crashed_Ok hD).len hD.hi hsec2 (by omega) ?_
      intro τ1 h5
      unfold s33k6
      have : ¬ 1 < (p : Int) := by omega
      simp [this]
      refine k8 _ (go 64 (by omega) (by rw [hcut, if_neg (by omega), if_pos (by omega)]) _ ?_)
      exact h5.pick [0, 1] (by decide)
    · unfold s33k6
      simp
      refine wC_dec (fun q2 => ?_) fun q2 => ?_
      · have hw : IntKind.i64.wrap ((p : Int) - 2) = ((p - 2 : Nat) : Int) := by rw [wrap_i64 (by omega)]; omega
        have ht : ((p - 2 : Nat) : Int).tmod 65 = (((p - 2) % 65 : Nat) : Int) := rfl
        simp only [r1, List.getElem?_cons_succ, List.getElem?_cons_zero, pu_some, e1, e2, hw, ht]
        refine lay_ok (q := (p - 2) % 65) h4 0 rfl 2 rfl hfo.len (crashed_Ok hD).len hD.hi hsec2 (by omega) ?_
        intro τ1 h5
        refine k8 _ (go ((p - 2) % 65) (by omega) (by rw [hcut, if_neg (by omega), if_neg (by omega)]) _ ?_)
        exact h5.pick [0, 1] (by decide)
      · refine k8 _ ?_
        simp only [J]
        rw [hct, hcut, if_pos (by omega), List.take_zero, put_nil]
        exact h3
  · rw [decide_eq_false (by omega)]
    exact fin (crashed_stop pk D.last D.fly k (by omega) (by omega)) _
end Go.Ax.YtfeamgocomlepaaC
