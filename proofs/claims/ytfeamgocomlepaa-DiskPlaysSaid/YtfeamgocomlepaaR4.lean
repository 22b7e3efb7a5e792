/- Contracts of the reference's functions: Read, Copy. No statement of the seat is proved here. -/
import Derived.Test.YtfeamgocomlepaaR3
set_option maxRecDepth 100000
namespace Go.Ax.YtfeamgocomlepaaC
open Go.Proofs Go.RowKit

variable {l m : List Assn} {σ : AHeap} {Q : WK}

/-! ### What is read last of a sector -/
def lastOf (s : Nat) (b0 : List UInt8) (fs : List Flight) : List UInt8 := fs.foldl (fun b f => if f.1 / 64 = s then f.2 else b) b0
theorem lastOf_take (s : Nat) (b0 : List UInt8) (fs : List Flight) (k : Nat) (f : Flight) (h : fs[k]? = some f) : lastOf s b0 (fs.take (k + 1)) = if f.1 / 64 = s then f.2 else lastOf s b0 (fs.take k) := by
  rw [List.take_add_one, h]; simp [lastOf]
theorem lastOf_len {n : Nat} (s : Nat) : ∀ (fs : List Flight) (b0 : List UInt8), b0.length = 64 → (∀ f ∈ fs, FlyOk n f) → (lastOf s b0 fs).length = 64
  | [], b0, h, _ => h
  | f :: fs, b0, h, hf => lastOf_len s fs (if f.1 / 64 = s then f.2 else b0) (by
      split
      · exact (hf f (by simp)).len
      · exact h) fun g hg => hf g (by simp [hg])
theorem sect_over {n a r : Nat} (hr : r < 4) : ∀ (fs : List Flight) (L : List UInt8), L.length = 256 → (∀ f ∈ fs, FlyOk n f) → sect (over (a * 256) L fs) r = lastOf (4 * a + r) (sect L r) fs
  | [], L, _, _ => rfl
  | f :: fs, L, hL, hf => by
    have hfo := hf f (by simp)
    have hal := hfo.al
    have hlen := hfo.len
    have ih := sect_over (n := n) (a := a) hr fs (if a * 256 ≤ f.1 ∧ f.1 < a * 256 + 256 then put L (f.1 - a * 256) f.2 else L) (by
      split
      · rw [put_length _ _ _ (by omega), hL]
      · exact hL) fun g hg => hf g (by simp [hg])
    show sect (over (a * 256) (if a * 256 ≤ f.1 ∧ f.1 < a * 256 + 256 then put L (f.1 - a * 256) f.2 else L) fs) r = lastOf (4 * a + r) (if f.1 / 64 = 4 * a + r then f.2 else sect L r) fs
    rw [ih]
    congr 1
    by_cases h1 : a * 256 ≤ f.1 ∧ f.1 < a * 256 + 256
    · rw [if_pos h1]
      obtain ⟨q, hq⟩ : ∃ q, f.1 - a * 256 = 64 * q := ⟨(f.1 - a * 256) / 64, by omega⟩
      rw [hq]
      by_cases h2 : q = r
      · subst h2
        rw [if_pos (by omega), sect_put_same (by omega) (by omega)]
        rw [List.drop_eq_nil_of_le (by rw [sect_len (by omega)]; omega), List.append_nil]
      · rw [if_neg (by omega), sect_put_other (by omega) (by omega) (by omega)]
    · rw [if_neg h1, if_neg (by omega)]
theorem take_sect (B : List UInt8) (r : Nat) : B.take (64 * (r + 1)) = B.take (64 * r) ++ sect B r := by
  rw [Nat.mul_add, List.take_add]; rfl
theorem block_len {D : DM} {n a : Nat} (hD : D.Ok n) (ha : a < n) : (D.block a).length = 256 := by
  have := hD.len
  refine over_length _ _ _ (by simp; omega) (fun f hf => (hD.fly f hf).len) fun f hf g1 g2 => ?_
  have := (hD.fly f hf).al
  omega
theorem block_last {D : DM} {n a r : Nat} (hD : D.Ok n) (ha : a < n) (hr : r < 4) : sect (D.block a) r = lastOf (4 * a + r) (sect D.last (4 * a + r)) D.fly := by
  have := hD.len
  unfold DM.block
  rw [sect_over hr _ _ (by simp; omega) hD.fly]
  congr 1
  have := block_sect (L := D.last) (s := 4 * a + r)
  rw [show (4 * a + r) / 4 = a by omega, show (4 * a + r) % 4 = r by omega] at this
  exact this

theorem rread_no {v : Value} {D : DM} {n : Nat} {a : Int} (h : H l σ) (i : Nat) (hi : l[i]? = some (RDisk n v D)) (hD : D.Ok n) (hr : D.ready a ≠ 0) (hk : Q (.tuple #[.slice none 0 0, .int .i64 (D.ready a)]) σ) : E 30 [v, .int .i64 a] σ Q := by
  apply s30_ev; unfold s30
  refine why_ok h i hi hD ?_
  simp [hr]
  exact hk
theorem rread_yes {v : Value} {D : DM} {n : Nat} {a : Int} (h : H l σ) (i : Nat) (hi : l[i]? = some (RDisk n v D)) (hD : D.Ok n) (hm : D.fly.length < 1099511627776) (hr : D.ready a = 0)
    (hk : ∀ w σ', H (l ++ [Own 5 1 w 256 (bv (D.block a.toNat))]) σ' → Q (.tuple #[w, .int .i64 0]) σ') : E 30 [v, .int .i64 a] σ Q := by
  apply s30_ev; unfold s30
  refine why_ok h i hi hD ?_
  simp [hr]
  obtain ⟨ha0, han⟩ := ready_zero hD hr
  have hn2 := hD.hi
  obtain ⟨A, rfl⟩ : ∃ A : Nat, a = A := ⟨a.toNat, by omega⟩
  simp only [Int.toNat_natCast] at hk
  have w1 : IntKind.i64.wrap (4 * (A : Int)) = 4 * (A : Int) := wrap_i64 (by omega)
  have w2 : IntKind.i64.wrap (4 * (A : Int) + 4) = 4 * (A : Int) + 4 := wrap_i64 (by omega)
  simp only [w1]
  obtain ⟨b, _, _, _, _, rfl, _⟩ := rdisk_row h i hi
  have h2 := (h.out i hi).own_nil 5 1
  let J : Nat → Value → List Assn := fun r out => [RDisk n (.pointer (some ⟨b, 0, none⟩)) D, Star (l.set i emp), Own 5 1 out (64 * r) (bv ((D.block A).take (64 * r)))]
  refine ⟨fun m x0 x1 x7 x8 τ => ∃ (r : Nat), m = 4 - r ∧ r ≤ 4 ∧ x0 = .pointer (some ⟨b, 0, none⟩) ∧ x1 = .int .i64 A ∧ x8 = .int .i64 (4 * A + r : Nat) ∧ H (J r x7) τ, ⟨_, 0, rfl, by omega, rfl, rfl, by simp, ?_⟩, ?_⟩
  · exact h2
  clear h2
  rintro m _ _ out _ τ ⟨r, rfl, hr4, rfl, rfl, rfl, h3⟩
  suffices hb : ∀ N : Value → Value → Value → Value → AHeap → Prop, (∀ out' τ', r < 4 → H (J (r + 1) out') τ' → N (.pointer (some ⟨b, 0, none⟩)) (.int .i64 A) out' (.int .i64 (4 * A + (r + 1) : Nat)) τ') →
      s30b1 N Q (.pointer (some ⟨b, 0, none⟩)) (.int .i64 A) out (.int .i64 (4 * A + r : Nat)) τ from
    hb _ fun out' τ' hlt h' => ⟨_, by omega, r + 1, rfl, by omega, rfl, rfl, rfl, h'⟩
  intro N hN
  unfold s30b1
  simp only [bin_mul, bin_add, pu_some, w1, w2, bin_lss]
  refine wC_dec (fun g1 => ?_) fun g1 => ?_
  · have g1 : r < 4 := by omega
    obtain ⟨b', sv, lv, sb, s, hb', hrow, e1, e2, h4⟩ := rdisk_sect (k := 4 * A + r) h3 0 rfl (by omega)
    cases hb'
    have r0 := load1 (n := 1) (o := 0) hrow
    simp only [nil_ptr, pu_some, fieldAddr_ptr, r0, List.getElem?_cons_zero, e1, e2]
    clear e1 e2 r0 hrow
    let J2 : Nat → Value → List Assn := fun k b9 => [RDisk n (.pointer (some ⟨b, 0, none⟩)) D, Star (l.set i emp), Own 5 1 out (64 * r) (bv ((D.block A).take (64 * r))), RoB b9 (lastOf (4 * A + r) (sect D.last (4 * A + r)) (D.fly.take k))]
    refine ⟨fun m x0 x1 x7 x8 x9 x10 τ => ∃ (k : Nat), m = D.fly.length - k ∧ k ≤ D.fly.length ∧ x0 = .pointer (some ⟨b, 0, none⟩) ∧ x1 = .int .i64 A ∧ out = x7 ∧ x8 = .int .i64 (4 * A + r : Nat) ∧ x10 = .int .i64 k ∧ H (J2 k x9) τ, ⟨_, 0, rfl, by omega, rfl, rfl, rfl, rfl, rfl, h4⟩, ?_⟩
    clear h4 h3
    rintro m _ _ _ _ b9 _ τ ⟨k, rfl, hk4, rfl, rfl, rfl, rfl, rfl, h4⟩
    suffices hb : ∀ N2 : Value → Value → Value → Value → Value → Value → AHeap → Prop, (∀ b9' τ', k < D.fly.length → H (J2 (k + 1) b9') τ' → N2 (.pointer (some ⟨b, 0, none⟩)) (.int .i64 A) out (.int .i64 (4 * A + r : Nat)) b9' (.int .i64 (k + 1 : Nat)) τ') →
        s30b2 N N2 Q (.pointer (some ⟨b, 0, none⟩)) (.int .i64 A) out (.int .i64 (4 * A + r : Nat)) b9 (.int .i64 k) τ from
      hb _ fun b9' τ' hlt h' => ⟨_, by omega, k + 1, rfl, by omega, rfl, rfl, rfl, rfl, rfl, h'⟩
    intro N2 hN2
    obtain ⟨b', sa, sc, la, lc, hb', hrow⟩ := rdisk_row h4 0 rfl
    cases hb'
    have r1 := load1 (n := 1) (o := 1) hrow
    have hlen := hD.len
    have hs0 : (sect D.last (4 * A + r)).length = 64 := sect_len (by omega)
    have hlo := lastOf_len (n := n) (4 * A + r) (D.fly.take k) (sect D.last (4 * A + r)) hs0 fun f hf => hD.fly f (List.mem_of_mem_take hf)
    unfold s30b2
    simp [r1]
    refine wC_dec (fun g2 => ?_) fun g2 => ?_
    · have hfk := List.getElem?_eq_getElem g2
      have hfo := hD.fly _ (List.getElem_mem g2)
      generalize D.fly[k] = f at hfk hfo
      obtain ⟨b', sv', lv', lb, s', hb', hrow2, e1, e2, e3, e4, h5⟩ := rdisk_fly h4 0 rfl hfk
      cases hb'
      rw [hrow] at hrow2
      cases hrow2
      have hlt := lastOf_take (4 * A + r) (sect D.last (4 * A + r)) D.fly k f hfk
      have k14 : ∀ b9', H (J2 (k + 1) b9') τ → s30k14 N2 Q (.int .i64 k) (.pointer (some ⟨b, 0, none⟩)) (.int .i64 A) out (.int .i64 (4 * A + r : Nat)) b9' τ := by
        intro b9' h'
        unfold s30k14
        simp
        rw [wrap_i64 (by omega)]
        exact hN2 b9' τ g2 h'
      simp only [e1, pu_some, fieldAddr_ptr, Nat.add_zero, e3, bin_eql]
      refine wC_dec (fun g3 => ?_) fun g3 => ?_
      · simp only [e4, pu_some]
        refine k14 s' ?_
        simp only [J2]
        rw [hlt, if_pos (by omega)]
        exact h5.pick [0, 1, 2, 4] (by decide)
      · refine k14 b9 ?_
        simp only [J2]
        rw [hlt, if_neg (by omega)]
        exact h4
    · have : k = D.fly.length := by omega
      subst this
      have hsrc := (h4.rob_rd 3 rfl).src
      rw [hlo, List.take_length] at hsrc
      refine append_own h4 2 rfl hsrc (by omega) (by omega) (bv_one _) ?_
      intro out' τ1 h5
      try simp
      rw [wrap_i64 (by omega)]
      have e5 : (4 * (A : Int) + (r : Int) + 1) = ((4 * A + (r + 1) : Nat) : Int) := by omega
      rw [e5]
      refine hN out' τ1 g1 ?_
      simp only [J]
      rw [take_sect, block_last hD (by omega) g1, bv_append]
      exact h5.pick [0, 1, 2] (by decide)
  · have : r = 4 := by omega
    subst this
    refine hk out _ ?_
    have h4 : H (RDisk n (.pointer (some ⟨b, 0, none⟩)) D :: Star (l.set i emp) :: [Own 5 1 out (64 * 4) (bv ((D.block A).take (64 * 4)))]) τ := h3
    have h5 := in_self i hi h4
    rw [List.take_of_length_le (by rw [block_len hD (by omega)]; omega)] at h5
    exact h5

/-! ### Copy -/
theorem rflc_at (fs : List Flight) (ss : List Value) (k : Nat) (f : Flight) (s : Value) (hf : fs[k]? = some f) (hs : ss[k]? = some s) : (rflc fs ss)[k * 2]? = some (.int .i64 (f.1 / 64 : Nat)) ∧ (rflc fs ss)[k * 2 + 1]? = some s := by
  have hg := rflc_get fs ss k f s hf hs
  constructor
  · have := congrArg (·[0]?) hg
    simpa [List.getElem?_take, List.getElem?_drop] using this
  · have := congrArg (·[1]?) hg
    simpa [List.getElem?_take, List.getElem?_drop] using this
theorem zip_snoc {A : Value → List UInt8 → Assn} (vs : List Value) (xs : List (List UInt8)) (v : Value) (x : List UInt8) (h : vs.length = xs.length) : Star (List.zipWith A (vs ++ [v]) (xs ++ [x])) = sep (Star (List.zipWith A vs xs)) (A v x) := by
  rw [List.zipWith_append h, Star_append]
  simp only [List.zipWith_cons_cons, List.zipWith_nil_left, Star]
  rw [sep_comm (A v x) emp, emp_sep]
theorem rcopy_ok {v : Value} {D : DM} {n : Nat} (h : H l σ) (i : Nat) (hi : l[i]? = some (RDisk n v D)) (hD : D.Ok n) (hm : D.fly.length < 1099511627776) (hk : ∀ w σ', H (l ++ [RDisk n w D]) σ' → Q w σ') : E 74 [v] σ Q := by
  obtain ⟨b, sa, sc, la, lc, rfl, hrow⟩ := rdisk_row h i hi
  have r2 := load1 (n := 1) (o := 2) hrow
  have r3 := load1 (n := 1) (o := 3) hrow
  have r4 := load1 (n := 1) (o := 4) hrow
  have hlen := hD.len
  have hn := hD.lo
  have hn2 := hD.hi
  apply s74_ev; unfold s74
  simp [r2, r3, r4, splice]
  refine new_ok (h.out i hi) ?_
  intro nb σ1 h1
  have h1 := (h1.own_nil 23 1).own_nil 117 2
  let J : Nat → Value → List Value → List Assn := fun k sv ss => [RDisk n (.pointer (some ⟨b, 0, none⟩)) D, Star (l.set i emp), pt nb (.cells [sv, .slice none 0 0, .int .i64 D.fuse, .bool D.off, .int .i64 n] 114 false), Own 23 1 sv k ss, Own 117 2 (.slice none 0 0) 0 [], Star (List.zipWith RoB ss (sects k D.last))]
  refine ⟨fun m x0 x3 x4 τ => ∃ (k : Nat) (sv : Value) (ss : List Value), m = 4 * n - k ∧ k ≤ 4 * n ∧ ss.length = k ∧ x0 = .pointer (some ⟨b, 0, none⟩) ∧ x3 = .pointer (some ⟨nb, 0, none⟩) ∧ x4 = .int .i64 k ∧ H (J k sv ss) τ, ⟨_, 0, .slice none 0 0, [], rfl, by omega, rfl, rfl, rfl, rfl, ?_⟩, ?_⟩
  · exact h1.emp_end
  clear h1 r2 r3 r4 hrow
  rintro m _ _ _ τ ⟨k, sv, ss, rfl, hk4, hss, rfl, rfl, rfl, h3⟩
  suffices hb : ∀ N : Value → Value → Value → AHeap → Prop, (∀ sv' ss' τ', k < 4 * n → ss'.length = k + 1 → H (J (k + 1) sv' ss') τ' → N (.pointer (some ⟨b, 0, none⟩)) (.pointer (some ⟨nb, 0, none⟩)) (.int .i64 (k + 1 : Nat)) τ') →
      s74b1 N Q (.pointer (some ⟨b, 0, none⟩)) (.pointer (some ⟨nb, 0, none⟩)) (.int .i64 k) τ from
    hb _ fun sv' ss' τ' hlt a h' => ⟨_, by omega, k + 1, sv', ss', rfl, by omega, a, rfl, rfl, rfl, h'⟩
  intro N hN
  obtain ⟨b', sa, sc, la, lc, hb', hrow⟩ := rdisk_row h3 0 rfl
  cases hb'
  have r0 := load1 (n := 1) (o := 0) hrow
  have r1 := load1 (n := 1) (o := 1) hrow
  unfold s74b1
  simp [r0]
  refine wC_dec (fun g1 => ?_) fun g1 => ?_
  · have g1 : k < 4 * n := by omega
    obtain ⟨b', sv', lv', sb, s, hb', hrow2, e1, e2, h4⟩ := rdisk_sect (k := k) h3 0 rfl (by omega)
    cases hb'
    rw [hrow] at hrow2
    cases hrow2
    have q0 := load1 (n := 1) (o := 0) (h4.row 2 rfl)
    obtain ⟨_, _, va, vc, rfl⟩ := h4.own_src 3 rfl
    simp [q0, e1, e2]
    have hs0 : (sect D.last k).length = 64 := sect_len (by omega)
    have hsrc := (h4.rob_rd 6 rfl).src
    rw [hs0] at hsrc
    refine rown_ok h4 hsrc (by omega) ?_
    intro w τ1 h5
    have q0 := load1 (n := 1) (o := 0) (h5.row 2 rfl)
    simp [q0, veq1, veq, veq0]
    obtain ⟨fb, fc, rfl, hfc, hro⟩ := own_freeze (by omega) (h5.pick [7, 0, 1, 2, 3, 4, 5] (by decide))
    have h6 := hro 0 64 fc hfc (by omega)
    rw [show (((sect D.last k).drop 0).take 64) = sect D.last k by rw [List.drop_zero, List.take_of_length_le (by omega)]] at h6
    refine buildS_ok (cs := [.slice (some ⟨fb, 0, none⟩) 64 fc]) h6 (by decide) (by rfl) ?_
    intro tb τ3 h7
    have q0 := load1 (n := 1) (o := 0) (h7.row 3 rfl)
    simp [q0, veq1, veq, veq0]
    have ht : srcOf 1 (.slice (some ⟨tb, 0, none⟩) 1 1) τ3 = some (1, [.slice (some ⟨fb, 0, none⟩) 64 fc]) := by
      rw [src_row (h7.row 7 rfl) (by simp)]; rfl
    refine append_own h7 4 rfl ht (by omega) (by omega) (by rfl) ?_
    intro w τ4 h8
    have ho := own_one h8 (i := 4) rfl
    simp
    refine store1 h8 3 rfl ho (by simp) ?_
    intro τ5 h9
    try simp
    rw [wrap_i64 (by omega)]
    refine hN w (ss ++ [.slice (some ⟨fb, 0, none⟩) 64 fc]) τ5 g1 (by simp [hss]) ?_
    simp only [J]
    rw [sects_snoc, zip_snoc _ _ _ _ (by rw [sects_len, hss])]
    exact (H_sep.2 (h9.pick [6, 0, 1, 2, 3, 4, 5] (by decide))).pick [1, 2, 3, 4, 5, 0] (by decide)
  · have : k = 4 * n := by omega
    subst this
    let J2 : Nat → Value → List Value → List Assn := fun k lv fs => [RDisk n (.pointer (some ⟨b, 0, none⟩)) D, Star (l.set i emp), pt nb (.cells [sv, lv, .int .i64 D.fuse, .bool D.off, .int .i64 n] 114 false), Own 23 1 sv (4 * n) ss, Own 117 2 lv k (rflc (D.fly.take k) fs), Star (List.zipWith RoB ss (sects (4 * n) D.last)), FlyA (D.fly.take k) fs]
    refine ⟨fun m x0 x3 x5 τ => ∃ (k : Nat) (lv : Value) (fs : List Value), m = D.fly.length - k ∧ k ≤ D.fly.length ∧ fs.length = k ∧ x0 = .pointer (some ⟨b, 0, none⟩) ∧ x3 = .pointer (some ⟨nb, 0, none⟩) ∧ x5 = .int .i64 k ∧ H (J2 k lv fs) τ, ⟨_, 0, .slice none 0 0, [], rfl, by omega, rfl, rfl, rfl, rfl, ?_⟩, ?_⟩
    · exact h3.emp_end
    clear h3 hN
    rintro m _ _ _ τ ⟨k, lv, fs, rfl, hk4, hfs, rfl, rfl, rfl, h3⟩
    suffices hb : ∀ N : Value → Value → Value → AHeap → Prop, (∀ lv' fs' τ', k < D.fly.length → fs'.length = k + 1 → H (J2 (k + 1) lv' fs') τ' → N (.pointer (some ⟨b, 0, none⟩)) (.pointer (some ⟨nb, 0, none⟩)) (.int .i64 (k + 1 : Nat)) τ') →
        s74b2 N Q (.pointer (some ⟨b, 0, none⟩)) (.pointer (some ⟨nb, 0, none⟩)) (.int .i64 k) τ from
      hb _ fun lv' fs' τ' hlt a h' => ⟨_, by omega, k + 1, lv', fs', rfl, by omega, a, rfl, rfl, rfl, h'⟩
    intro N hN
    obtain ⟨b', sa, sc, la, lc, hb', hrow⟩ := rdisk_row h3 0 rfl
    cases hb'
    have r1 := load1 (n := 1) (o := 1) hrow
    unfold s74b2
    simp [r1]
    refine wC_dec (fun g1 => ?_) fun g1 => ?_
    · have hfk := List.getElem?_eq_getElem g1
      have hfo := hD.fly _ (List.getElem_mem g1)
      generalize D.fly[k] = f at hfk hfo
      obtain ⟨b', sv0, lv0, ss0, fs0, hb', hs0, hfs0, h4⟩ := rdisk_out h3
      cases hb'
      obtain ⟨lb, lcc, rfl, hlcap, rest, hlrow⟩ := h4.own_form 2 rfl (by omega)
      have hj := hrow.symm.trans (h4.row 0 rfl)
      simp only [Option.some.injEq, List.cons.injEq, Value.slice.injEq] at hj
      obtain ⟨rfl, ⟨rfl, _, rfl⟩, _⟩ := hj
      have hsk := List.getElem?_eq_getElem (show k < fs0.length by omega)
      generalize fs0[k] = s at hsk
      obtain ⟨q0, q1⟩ := rflc_at _ _ k _ _ hfk hsk
      have hrl : k * 2 + 1 < (rflc D.fly fs0).length := (List.getElem?_eq_some_iff.1 q1).1
      have g0 := load1 (n := 1) (o := k * 2) hlrow
      have g2 := load1 (n := 1) (o := k * 2 + 1) hlrow
      rw [List.getElem?_append_left (by omega), q0] at g0
      rw [List.getElem?_append_left (by omega), q1] at g2
      have n1 := load1 (n := 1) (o := 1) (h4.row 6 rfl)
      obtain ⟨_, _, va, vc, rfl⟩ := h4.own_src 8 rfl
      simp [n1]
      rw [idxA (by omega)]
      simp [g0, g2]
      have h5 : H (RoB s f.2 :: _) _ := fly0 ((h4.dup 4 rfl (FlyA.dup _ _)).pick [11, 0, 1, 2, 3, 4, 5, 6, 7, 8, 9, 10] (by decide)) hfk hsk
      have hsrc := (h5.rob_rd 0 rfl).src
      rw [hfo.len] at hsrc
      refine rown_ok h5 hsrc (by omega) ?_
      intro w τ1 h6
      obtain ⟨fb, fc, rfl, hfc, hro⟩ := own_freeze (by omega) (h6.pick [12, 1, 2, 3, 4, 5, 6, 7, 8, 9, 10, 11] (by decide))
      have h7 := hro 0 64 fc hfc (by omega)
      rw [show ((f.2.drop 0).take 64) = f.2 by rw [List.drop_zero, List.take_of_length_le (by rw [hfo.len]; omega)]] at h7
      have n1 := load1 (n := 1) (o := 1) (h7.row 7 rfl)
      have r1 := load1 (n := 1) (o := 1) (h7.row 1 rfl)
      obtain ⟨_, _, hv, _, rest, hlrow⟩ := h7.own_form 3 rfl (by omega)
      cases hv
      have g0 := load1 (n := 1) (o := k * 2) hlrow
      rw [List.getElem?_append_left (by omega), q0] at g0
      simp [n1, r1, g0, veq1, veq, veq0, splice]
      refine buildS_ok (cs := [.int .i64 (f.1 / 64 : Nat), .slice (some ⟨fb, 0, none⟩) 64 fc]) h7 (by decide) (by rfl) ?_
      intro tb τ3 h8
      have n1 := load1 (n := 1) (o := 1) (h8.row 7 rfl)
      simp [n1, veq1, veq, veq0]
      have ht : srcOf 2 (.slice (some ⟨tb, 0, none⟩) 1 1) τ3 = some (1, [.int .i64 (f.1 / 64 : Nat), .slice (some ⟨fb, 0, none⟩) 64 fc]) := by
        rw [src_row (h8.row 12 rfl) (by simp)]; rfl
      refine append_own h8 9 rfl ht (by omega) (by omega) (by rfl) ?_
      intro w τ4 h9
      have ho := own_one h9 (i := 9) rfl
      simp
      refine store1 h9 7 rfl ho (by simp) ?_
      intro τ5 h10
      try simp
      rw [wrap_i64 (by omega)]
      refine hN w (fs ++ [.slice (some ⟨fb, 0, none⟩) 64 fc]) τ5 g1 (by simp [hfs]) ?_
      have hpk : D.fly.take (k + 1) = D.fly.take k ++ [f] := by rw [List.take_add_one, hfk]; rfl
      have hfl : (D.fly.take k).length = fs.length := by simp; omega
      simp only [J2]
      rw [hpk, rflc_append _ _ _ _ hfl, FlyA_append _ _ _ _ hfl]
      simp only [rflc, FlyA]
      rw [sep_comm (RoB _ _) emp, emp_sep]
      have h11 := h10.pick [1, 2, 3, 4, 5, 6, 7, 8, 9, 10, 11, 0] (by decide)
      have h12 : H (RDisk n (.pointer (some ⟨b, 0, none⟩)) D :: _) τ5 := rdisk_in _ _ ss0 fs0 hs0 hfs0 h11
      exact (H_sep.2 (h12.pick [6, 7, 0, 1, 2, 3, 4, 5] (by decide))).pick [1, 2, 3, 4, 5, 6, 0] (by decide)
    · have : k = D.fly.length := by omega
      subst this
      refine hk _ _ ?_
      have h4 := h3.pick [2, 3, 4, 5, 6, 0, 1] (by decide)
      have h5 : H [RDisk n (.pointer (some ⟨nb, 0, none⟩)) D, RDisk n (.pointer (some ⟨b, 0, none⟩)) D, Star (l.set i emp)] τ := by
        refine rdisk_in sv lv ss fs hss hfs ?_
        have := h4
        simp only [J2, Ax.picks, List.take_length] at this
        exact this
      exact in_self (m := [RDisk n (.pointer (some ⟨nb, 0, none⟩)) D]) i hi (h5.pick [1, 2, 0] (by decide))
end Go.Ax.YtfeamgocomlepaaC
