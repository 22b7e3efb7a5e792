/- DiskKeeps on the abstract heap. No statement of the seat is proved here. -/
import Derived.Test.YtfeamgocomlepaaK2
set_option maxRecDepth 100000
namespace Go.Ax.YtfeamgocomlepaaC
open Go.Proofs Go.RowKit

variable {l m : List Assn} {σ : AHeap}

abbrev QT : WK := fun r _ => r = .bool true
theorem tdiv_nat (a b : Nat) : ((a : Nat) : Int).tdiv (b : Int) = ((a / b : Nat) : Int) := rfl
theorem tmod_nat (a b : Nat) : ((a : Nat) : Int).tmod (b : Int) = ((a % b : Nat) : Int) := rfl

def Mays (N : Nat) (vs : List Value) (C : List UInt8) : Assn := Star (List.zipWith (MayA N) vs (sects 16 C))

/-- Behind the crash all is as it was foretold. -/
theorem keeps_end {d : Value} {mb N : Nat} {vs : List Value} {D : DM} {I0 : Assn} (h : H [Disk d D, pt mb (.cells vs 37 false), Mays N vs D.last, I0] σ) (hvs : vs.length = 16) (hD : D.Ok 4) (hf : D.fly = []) (ho : D.off = false) (hN : N < 1000) :
    ∃ I : Nat → Value → Value → Value → AHeap → Prop, (∃ m, I m d (.pointer (some ⟨mb, 0, none⟩)) (.int .i64 0) σ) ∧ ∀ m (x7 x11 x164 : Value) (σ' : AHeap), I m x7 x11 x164 σ' → s3b5 (fun x7 x11 x164 σ' => ∃ m', m' < m ∧ I m' x7 x11 x164 σ') QT x7 x11 x164 σ' := by
  refine ⟨fun m x7 x11 x164 τ => ∃ s : Nat, m = 16 - s ∧ s ≤ 16 ∧ d = x7 ∧ x11 = .pointer (some ⟨mb, 0, none⟩) ∧ x164 = .int .i64 s ∧ H [Disk d D, pt mb (.cells vs 37 false), Mays N vs D.last, I0] τ, ⟨_, 0, rfl, by omega, rfl, rfl, rfl, h⟩, ?_⟩
  rintro m _ _ _ τ ⟨s, rfl, hs, rfl, rfl, rfl, h⟩
  suffices hb : ∀ N5 : Value → Value → Value → AHeap → Prop, (∀ τ', s < 16 → H [Disk d D, pt mb (.cells vs 37 false), Mays N vs D.last, I0] τ' → N5 d (.pointer (some ⟨mb, 0, none⟩)) (.int .i64 (s + 1 : Nat)) τ') → s3b5 N5 QT d (.pointer (some ⟨mb, 0, none⟩)) (.int .i64 s) τ from
    hb _ fun τ' hlt h' => ⟨_, by omega, s + 1, rfl, by omega, rfl, rfl, rfl, h'⟩
  intro N5 hN5
  unfold s3b5
  simp
  have hlen := hD.len
  refine wC_dec (fun h1 => ?_) fun h1 => ?_
  · have h1 : s < 16 := by omega
    obtain ⟨q, r, hq, hrr, g1, g2⟩ : ∃ q r : Nat, s = 4 * q + r ∧ r < 4 ∧ s / 4 = q ∧ s % 4 = r := ⟨s / 4, s % 4, by omega, by omega, rfl, rfl⟩
    rw [show (s : Int) / 4 = (q : Int) by omega, show ((s : Nat) : Int).tmod 4 = ((s % 4 : Nat) : Int) from rfl, g2, wrap_i64 (by omega)]
    have hr := ready_in hD (a := q) (by omega)
    rw [ho] at hr
    refine read_yes h 0 rfl hD (by rw [hf]; simp) (by simpa using hr) ?_
    intro w τ1 h2
    simp
    rw [block_still _ hf] at h2
    have hvk := List.getElem?_eq_getElem (show s < vs.length by omega)
    generalize vs[s] = v at hvk
    have hsx : (sect D.last s).length = 64 := sect_len (by omega)
    have h3 := each_out (h2.pick [2, 0, 1, 3, 4] (by decide)) hvk (sects_get h1)
    obtain ⟨pre, sv, hpre, h4⟩ := may_out h3
    have h5 := h4.pick [0, 1, 4, 6] (by decide)
    rw [idxAA (by omega)]
    have r1 := load1 (n := 1) (o := 0 + (s : Int).toNat * 1) (h5.row 2 rfl)
    rw [show 0 + (s : Int).toNat * 1 = s by simp, hvk] at r1
    simp [r1]
    obtain ⟨vb, vc, rfl, hcap, _⟩ := h5.own_form 0 rfl (by omega)
    simp
    rw [wrap_i64 (by omega)]
    obtain ⟨vb', e1, e2, e3⟩ := h5.own_elem 0 rfl (k := pre.length) (by omega)
    have e4 := e3 1 0 (by omega)
    simp at e4
    simp [e1, e4]
    obtain ⟨wb, wc, rfl, hwc, _⟩ := h5.own_form 3 rfl (by omega)
    refine sector_ok hwc (by omega) ?_
    intro c' hc'
    obtain ⟨sb, so, sc, cc, rfl, hscap, _⟩ := h5.rob 1 rfl
    have hsv := (h5.rob_rd 1 rfl).src
    rw [hsx] at hsv ⊢
    simp [r1, e1, e4, hsx, veq1, veq, veq0]
    have hw := (h5.own_src 3 rfl).1
    have hws := src_part (c' := c') (lo := 64 * r) (k := 64) hw (by omega)
    have key : (((D.last.drop (q * 256)).take 256).drop (64 * r)).take 64 = sect D.last s := by rw [← g1, ← g2]; exact block_sect
    rw [bv_drop, bv_take, Int.toNat_natCast, key] at hws
    refine equal_ok (by simpa using hws) hsv ?_
    simp
    unfold s3k57
    simp
    rw [wrap_i64 (by omega)]
    exact hN5 τ1 h1 (h2.pick [0, 1, 2, 3] (by decide))
  · have : s = 16 := by omega
    refine flight_ok h 0 rfl ?_
    simp [hf]
    refine off_ok h 0 rfl ?_
    simp [ho]

/-- A sector may be one thing more. -/
theorem keeps_k46 {N4 : Value → Value → Value → Value → Value → Value → Value → Value → Value → Value → AHeap → Prop} {x2 x7 x15 x86 x87 x88 d : Value} {mb wb wc N a j q : Nat} {vs : List Value} {D : DM} {C bs : List UInt8} {I0 : Assn}
    (h : H [Disk d D, pt mb (.cells vs 37 false), Mays N vs C, RoB (.slice (some ⟨wb, 0, none⟩) 256 wc) bs, I0] σ) (hvs : vs.length = 16) (hC : C.length = 1024) (hbs : bs.length = 256) (hwc : CapOk 1 256 wc) (ha : a < 4) (hj : j < 4) (hq : q ≤ 64) (hN : N < 1000)
    (hk : ∀ vs' τ', vs'.length = 16 → H [Disk d D, pt mb (.cells vs' 37 false), Mays (N + 1) vs' (put C (64 * (4 * a + j)) (((bs.drop (64 * j)).take 64).take q)), RoB (.slice (some ⟨wb, 0, none⟩) 256 wc) bs, I0] τ' →
      s3k42 N4 QT (.int .i64 j) x2 x7 (.pointer (some ⟨mb, 0, none⟩)) x15 (.int .i64 a) (.slice (some ⟨wb, 0, none⟩) 256 wc) x86 x87 x88 τ') :
    s3k46 N4 QT (.int .i64 a) (.int .i64 j) (.pointer (some ⟨mb, 0, none⟩)) (.slice (some ⟨wb, 0, none⟩) 256 wc) (.int .i64 q) (.int .i64 j) x2 x7 x15 x86 x87 x88 σ := by
  unfold s3k46
  simp
  rw [wrap_i64 (n := 4 * (a : Int)) (by omega), wrap_i64 (by omega)]
  obtain ⟨s, hs⟩ : ∃ s, s = 4 * a + j := ⟨_, rfl⟩
  rw [show (4 * (a : Int) + (j : Int)) = (s : Int) by omega]
  rw [← hs] at hk
  have hs16 : s < 16 := by omega
  have hvk := List.getElem?_eq_getElem (show s < vs.length by omega)
  generalize vs[s] = v at hvk
  have hsx : (sect C s).length = 64 := sect_len (by omega)
  have h3 := each_out (h.pick [2, 0, 1, 3, 4] (by decide)) hvk (sects_get hs16)
  obtain ⟨pre, sv, hpre, h5⟩ := may_out h3
  rw [idxAA (by omega)]
  have r1 := load1 (n := 1) (o := 0 + (s : Int).toNat * 1) (h5.row 4 rfl)
  rw [show 0 + (s : Int).toNat * 1 = s by simp, hvk] at r1
  simp [r1]
  obtain ⟨vb, vc, rfl, hcap, _⟩ := h5.own_form 0 rfl (by omega)
  simp
  rw [wrap_i64 (by omega)]
  obtain ⟨vb', e1, e2, e3⟩ := h5.own_elem 0 rfl (k := pre.length) (by omega)
  have e4 := e3 1 0 (by omega)
  simp at e4
  simp [e1, e4]
  obtain ⟨sb, so, sc, cc, rfl, hscap, _⟩ := h5.rob 1 rfl
  rw [hsx] at hscap
  simp only [hsx] at h5
  obtain ⟨a', c1, f1, f2⟩ := rd_from (b := sb) (o := so) (x := sect C s) (lo := (q : Int)) (k := .i64) hscap (by omega)
  rw [hsx, f1]
  simp
  refine sector_ok hwc hj ?_
  intro c2 hc2
  obtain ⟨c3, g1, _⟩ := slice_to (z := 1) (b := wb) (o := 0 + 64 * j) (hi := (q : Int)) (k := .i64) hc2 (by omega) (by omega)
  simp only [Int.toNat_natCast] at g1 f2
  simp [r1, veq1, veq, veq0]
  simp at g1
  simp [g1]
  have hw := (h5.rob_rd 5 rfl).src
  rw [hbs] at hw
  have hws := src_part (c' := c3) (lo := 64 * j) (k := q) hw (by omega)
  rw [bv_drop, bv_take] at hws
  refine append_own (n := 0) (xs := []) (h5.own_zb 5 1) 7 rfl (by simpa using hws) (by omega) (by omega) (bv_one _) ?_
  intro w1 τ1 h6
  have r1 := load1 (n := 1) (o := s) (h6.row 4 rfl)
  rw [hvk] at r1
  simp [r1, veq1, veq, veq0]
  have hsv := (h6.rob_rd 1 rfl).src
  rw [hsx] at hsv
  have h7 : H _ τ1 := h6
  refine append_own (n := 0 + q) (m := 64 - q) (ys := bv ((sect C s).drop q)) h6 7 rfl (f2 _ hsv) (by omega) (by omega) (bv_one _) ?_
  intro w2 τ2 h8
  have r1 := load1 (n := 1) (o := s) (h8.row 4 rfl)
  rw [hvk] at r1
  simp [r1, veq1, veq, veq0]
  rw [show 0 + q + (64 - q) = 64 by omega, List.nil_append, ← bv_append] at h8
  let y := ((bs.drop (64 * j)).take 64).take q
  have hy : ((bs.drop (64 * j)).take q) = y := by simp only [y]; rw [List.take_take, Nat.min_eq_left hq]
  have hyl : y.length = q := by rw [← hy]; simp; omega
  rw [hy] at h8
  obtain ⟨fb, fc, rfl, hfc, hfr⟩ := own_freeze (by omega) (h8.pick [7, 0, 1, 2, 3, 4, 5, 6] (by decide))
  have h9 := hfr 0 64 fc hfc (by omega)
  have hz : (((y ++ (sect C s).drop q).drop 0).take 64) = y ++ (sect C s).drop q := by rw [List.drop_zero, List.take_of_length_le (by simp; omega)]
  rw [hz] at h9
  refine buildS_ok (cs := [.slice (some ⟨fb, 0, none⟩) 64 fc]) h9 (by decide) (by rfl) ?_
  intro tb τ3 h10
  have r1 := load1 (n := 1) (o := s) (h10.row 5 rfl)
  rw [hvk] at r1
  simp [r1, veq1, veq, veq0]
  have ht : srcOf 1 (.slice (some ⟨tb, 0, none⟩) 1 1) τ3 = some (1, [.slice (some ⟨fb, 0, none⟩) 64 fc]) := by
    rw [src_row (h10.row 8 rfl) (by simp)]; rfl
  refine append_own h10 1 rfl ht (by omega) (by omega) (by rfl) ?_
  intro w3 τ4 h11
  have ho := own_one h11 (i := 1) rfl
  simp
  refine store1 h11 5 rfl ho (by omega) ?_
  intro τ5 h12
  refine hk (vs.set s w3) τ5 (by simp [hvs]) ?_
  have h13 := h12.pick [1, 0, 3, 4, 5, 6, 7] (by decide)
  have h14 := may_in (N := N + 1) (pre := pre ++ [Value.slice (some ⟨sb, so, none⟩) 64 sc]) (sv := .slice (some ⟨fb, 0, none⟩) 64 fc) (n := pre.length + 1 + 1) (by simp) (by simp; omega) h13
  have h15 := (h14.pick [1, 0, 2, 3, 4, 5] (by decide)).map0 (each_mono_set (may_mono (Nat.le_add_right N 1)) vs (sects 16 C) s)
  have h16 : H [MayA (N + 1) w3 (y ++ (sect C s).drop q), Star ((List.zipWith (MayA (N + 1)) vs (sects 16 C)).set s emp), Disk d D, pt mb (.cells (vs.set s w3) 37 false), RoB (.slice (some ⟨wb, 0, none⟩) 256 wc) bs, I0] τ5 := h15.pick [1, 0, 2, 3, 4, 5] (by decide)
  have h16 := each_in (by omega) (by rw [sects_len]; exact hs16) h16
  rw [show y ++ (sect C s).drop q = y ++ (sect C s).drop y.length by rw [hyl], ← sects_put (by omega) (by omega) hs16] at h16
  exact h16.pick [1, 2, 0, 3, 4] (by decide)

/-- An act of a row. -/
theorem act_at {va : Value} {L : List ActM} (h : H l σ) (i : Nat) (hi : l[i]? = some (ActsA va L)) {k : Nat} {A : ActM} (hk : L[k]? = some A) :
    ∃ b o v, (∀ kd, aIndexAddr 5 va (.int kd k) = some (.pointer (some ⟨b, o, none⟩))) ∧ aLoad true 5 (.pointer (some ⟨b, o, none⟩)) σ = some (.agg #[.int .i64 A.What, .int .i64 A.At, by8 A.X, v, .bool A.Short]) ∧ i64r A.What ∧ i64r A.At ∧ (∃ ba bc, v = .slice ba A.B.length bc) ∧ H (l ++ [BytesA v A.B]) σ := by
  have h0 := h.dup i hi (RowsA.dup ActA.dup va L)
  have hl : (l ++ [ActsA va L])[l.length]? = some (ActsA va L) := by simp
  obtain ⟨b, cs, a1, a2, a3, a4, a5⟩ := h0.rows_elem l.length hl hk
  obtain ⟨v, a6⟩ := H_ex.1 a5
  rw [H_sep] at a6
  obtain ⟨⟨rfl, h1, h2⟩, a7⟩ := H_pure.1 a6
  refine ⟨b, _, v, a1, a2, h1, h2, a7.rows_form 0 rfl, ?_⟩
  have e : (l ++ [ActsA va L]).set l.length emp = l ++ [emp] := by simp
  rw [e] at a7
  have a8 : H (BytesA v A.B :: emp :: l) σ := a7.perm (List.Perm.cons _ (by simp))
  exact (a8.perm (List.Perm.swap _ _ _)).tail.snoc

theorem part_Ok {D : DM} {a j : Nat} {F : List Flight} {bs : List UInt8} (hD : D.Ok 4) (hF : ∀ f ∈ F, FlyOk 4 f) (ha : a < 4) (hb : bs.length = 256) : ∀ f ∈ F ++ (parts a bs).take j, FlyOk 4 f := by
  intro f hf
  rcases List.mem_append.1 hf with hf | hf
  · exact hF f hf
  · exact parts_Ok ha hb f (List.mem_of_mem_take hf)

/-- A write in flight: each of its sectors. -/
theorem keeps_b4 {N3 : Value → Value → Value → Value → Value → Value → AHeap → Prop} {pv x86 x87 d : Value} {mb wb wc a k : Nat} {vs : List Value} {D : DM} {L0 bs pk : List UInt8} {F : List Flight} {I0 : Assn}
    (h : H [Disk d D, pt mb (.cells vs 37 false), Mays (4 * k) vs (crashed pk L0 0 F), RoB (.slice (some ⟨wb, 0, none⟩) 256 wc) bs, I0] σ) (hvs : vs.length = 16) (hL : L0.length = 1024) (hF : ∀ f ∈ F, FlyOk 4 f) (hFl : F.length = 4 * k) (hbs : bs.length = 256) (hwc : CapOk 1 256 wc) (ha : a < 4) (hk40 : k < 40)
    (hp : ∀ τ, H [I0] τ → Rd τ pv pk)
    (hk : ∀ vs' τ', vs'.length = 16 → H [Disk d D, pt mb (.cells vs' 37 false), Mays (4 * (k + 1)) vs' (crashed pk L0 0 (F ++ parts a bs)), I0] τ' → N3 pv d (.pointer (some ⟨mb, 0, none⟩)) x86 x87 (.int .i64 (k + 1 : Nat)) τ') :
    ∃ I : Nat → Value → Value → Value → Value → Value → Value → Value → Value → Value → Value → AHeap → Prop, (∃ m, I m pv d (.pointer (some ⟨mb, 0, none⟩)) (.int .i64 k) (.int .i64 a) (.slice (some ⟨wb, 0, none⟩) 256 wc) x86 x87 (.int .i64 k) (.int .i64 0) σ) ∧
    ∀ m (x2 x7 x11 x15 x17 x18 x86 x87 x88 x104 : Value) (σ' : AHeap), I m x2 x7 x11 x15 x17 x18 x86 x87 x88 x104 σ' → s3b4 N3 (fun x2 x7 x11 x15 x17 x18 x86 x87 x88 x104 σ' => ∃ m', m' < m ∧ I m' x2 x7 x11 x15 x17 x18 x86 x87 x88 x104 σ') QT x2 x7 x11 x15 x17 x18 x86 x87 x88 x104 σ' := by
  let J : Nat → List Value → List Assn := fun j vs => [Disk d D, pt mb (.cells vs 37 false), Mays (4 * k + j) vs (crashed pk L0 0 (F ++ (parts a bs).take j)), RoB (.slice (some ⟨wb, 0, none⟩) 256 wc) bs, I0]
  refine ⟨fun m x2 x7 x11 x15 x17 x18 y86 y87 x88 x104 τ => ∃ (j : Nat) (vs : List Value), m = 4 - j ∧ j ≤ 4 ∧ pv = x2 ∧ d = x7 ∧ x11 = .pointer (some ⟨mb, 0, none⟩) ∧ x15 = .int .i64 k ∧ x17 = .int .i64 a ∧ x18 = .slice (some ⟨wb, 0, none⟩) 256 wc ∧ x86 = y86 ∧ x87 = y87 ∧ x88 = .int .i64 k ∧ x104 = .int .i64 j ∧ vs.length = 16 ∧ H (J j vs) τ,
    ⟨_, 0, vs, rfl, by omega, rfl, rfl, rfl, rfl, rfl, rfl, rfl, rfl, rfl, rfl, hvs, ?_⟩, ?_⟩
  · simpa [J] using h
  rintro m _ _ _ _ _ _ _ _ _ _ τ ⟨j, vs, rfl, hj, rfl, rfl, rfl, rfl, rfl, rfl, rfl, rfl, rfl, rfl, hvs, h⟩
  suffices hb : ∀ N4 : Value → Value → Value → Value → Value → Value → Value → Value → Value → Value → AHeap → Prop, (∀ vs' τ', j < 4 → vs'.length = 16 → H (J (j + 1) vs') τ' →
      N4 pv d (.pointer (some ⟨mb, 0, none⟩)) (.int .i64 k) (.int .i64 a) (.slice (some ⟨wb, 0, none⟩) 256 wc) x86 x87 (.int .i64 k) (.int .i64 (j + 1 : Nat)) τ') →
      s3b4 N3 N4 QT pv d (.pointer (some ⟨mb, 0, none⟩)) (.int .i64 k) (.int .i64 a) (.slice (some ⟨wb, 0, none⟩) 256 wc) x86 x87 (.int .i64 k) (.int .i64 j) τ from
    hb _ fun vs' τ' hlt hl h' => ⟨_, by omega, j + 1, vs', rfl, by omega, rfl, rfl, rfl, rfl, rfl, rfl, rfl, rfl, rfl, rfl, hl, h'⟩
  intro N4 hN4
  unfold s3b4
  simp
  refine wC_dec (fun h1 => ?_) fun h1 => ?_
  · have h1 : j < 4 := by omega
    rw [wrap_i64 (n := 4 * (k : Int)) (by omega), wrap_i64 (by omega)]
    have hrd := hp _ (h.pick [4] (by decide))
    obtain ⟨pa, pc, rfl⟩ := hrd.form
    have hCl : (crashed pk L0 0 (F ++ (parts a bs).take j)).length = 1024 := crashed_length (n := 4) _ _ _ _ hL fun f hf => by
      rcases List.mem_append.1 hf with hf | hf
      · exact hF f hf
      · exact parts_Ok ha hbs f (List.mem_of_mem_take hf)
    have hC : crashed pk L0 0 (F ++ (parts a bs).take (j + 1)) = put (crashed pk L0 0 (F ++ (parts a bs).take j)) (64 * (4 * a + j)) (((bs.drop (64 * j)).take 64).take (cutOf pk (4 * k + j))) := by
      rw [parts_take _ _ _ h1, ← List.append_assoc, crashed_snoc]
      simp only [List.length_append, List.length_take, hFl, parts, List.length_cons, List.length_nil, Nat.zero_add]
      rw [show min j 4 = j by omega, show a * 256 + 64 * j = 64 * (4 * a + j) by omega]
    have k42 : ∀ vs' τ', vs'.length = 16 → H (J (j + 1) vs') τ' → s3k42 N4 QT (.int .i64 j) (.slice pa pk.length pc) d (.pointer (some ⟨mb, 0, none⟩)) (.int .i64 k) (.int .i64 a) (.slice (some ⟨wb, 0, none⟩) 256 wc) x86 x87 (.int .i64 k) τ' := by
      intro vs' τ' hl h'
      unfold s3k42
      simp
      rw [wrap_i64 (by omega)]
      exact hN4 _ _ h1 hl h'
    have key : ∀ p : Nat, p < 256 → (p = 0 → cutOf pk (4 * k + j) = 0) → (p = 1 → cutOf pk (4 * k + j) = 64) → (1 < p → cutOf pk (4 * k + j) = (p - 2) % 65) →
        s3k40 N4 QT (.int .i64 p) (.int .i64 j) (.slice pa pk.length pc) d (.pointer (some ⟨mb, 0, none⟩)) (.int .i64 k) (.int .i64 a) (.slice (some ⟨wb, 0, none⟩) 256 wc) x86 x87 (.int .i64 k) (.int .i64 j) τ := by
      intro p hp256 hp0 hp1 hp2
      unfold s3k40
      simp
      refine wC_dec (fun g1 => ?_) fun g1 => ?_
      · refine k42 vs τ hvs ?_
        simp only [J]
        rw [hC, hp0 (by omega), List.take_zero, put_nil]
        have h2 : H [Mays (4 * k + j) vs (crashed pk L0 0 (F ++ (parts a bs).take j)), Disk d D, pt mb (.cells vs 37 false), RoB (.slice (some ⟨wb, 0, none⟩) 256 wc) bs, I0] τ := h.pick [2, 0, 1, 3, 4] (by decide)
        exact (h2.map0 (each_mono (may_mono (Nat.le_add_right (4 * k + j) 1)) vs _)).pick [1, 2, 0, 3, 4] (by decide)
      · have go : ∀ q : Nat, q ≤ 64 → cutOf pk (4 * k + j) = q → s3k46 N4 QT (.int .i64 a) (.int .i64 j) (.pointer (some ⟨mb, 0, none⟩)) (.slice (some ⟨wb, 0, none⟩) 256 wc) (.int .i64 q) (.int .i64 j) (.slice pa pk.length pc) d (.int .i64 k) x86 x87 (.int .i64 k) τ := by
          intro q hq hcut
          refine keeps_k46 h hvs hCl hbs hwc ha h1 hq (by omega) ?_
          intro vs' τ' hl h'
          refine k42 vs' τ' hl ?_
          simp only [J]
          rw [hC, hcut]
          exact h'
        refine wC_dec (fun g2 => ?_) fun g2 => ?_
        · have hw : IntKind.i64.wrap ((p : Int) - 2) = ((p - 2 : Nat) : Int) := by rw [wrap_i64 (by omega)]; omega
          have ht : ((p - 2 : Nat) : Int).tmod 65 = (((p - 2) % 65 : Nat) : Int) := rfl
          rw [hw, ht]
          exact go _ (by omega) (hp2 (by omega))
        · exact go 64 (by omega) (hp1 (by omega))
    simp
    refine wC_dec (fun g1 => ?_) fun g1 => ?_
    · have g1 : 4 * k + j < pk.length := by omega
      have hpk := List.getElem?_eq_getElem g1
      obtain ⟨pp, p1, p2⟩ := hrd.elem _ _ hpk
      have hb8 := by8_lt pk[4 * k + j]
      rw [show 4 * (k : Int) + (j : Int) = ((4 * k + j : Nat) : Int) by omega, p1]
      simp [p2, by8]
      rw [wrap_i64 (by omega)]
      refine key _ (by omega) ?_ ?_ ?_
      · intro h0; simp [cutOf, hpk, h0]
      · intro h0; simp [cutOf, hpk, h0]
      · intro h0; simp only [cutOf, hpk]; rw [if_neg (by omega), if_neg (by omega)]
    · have hpk : pk[4 * k + j]? = none := List.getElem?_eq_none (by omega)
      exact key 0 (by omega) (fun _ => by simp [cutOf, hpk]) (by omega) (by omega)
  · have : j = 4 := by omega
    subst this
    rw [wrap_i64 (by omega)]
    refine hk vs τ hvs ?_
    have := h.pick [0, 1, 2, 4] (by decide)
    simpa [J, Ax.picks, parts, Nat.mul_add] using this

/-- What a test's act without 'Short' writes. -/
abbrev long (A : ActM) : ActM := { A with Short := false }

/-- The writes behind the barrier, and what follows. -/
theorem keeps_b3 {pv vb d : Value} {vc2 : Nat} {va2 : Option Addr} {mb : Nat} {vs : List Value} {D : DM} {pk : List UInt8} {L2 : List ActM} (hvb : vb = .slice va2 L2.length vc2)
    (h : H [Disk d D, pt mb (.cells vs 37 false), Mays 0 vs D.last, Star [ActsA vb L2, BytesA pv pk]] σ) (hvs : vs.length = 16) (hD : D.Ok 4) (ho : D.off = false) (hf : D.fuse = 0) (hfl : D.fly = []) (hL2 : L2.length ≤ 40) :
    ∃ I : Nat → Value → Value → Value → Value → Value → Value → AHeap → Prop, (∃ m, I m pv d (.pointer (some ⟨mb, 0, none⟩)) vb (.int .i64 L2.length) (.int .i64 0) σ) ∧
    ∀ m (x2 x7 x11 x86 x87 x88 : Value) (σ' : AHeap), I m x2 x7 x11 x86 x87 x88 σ' → s3b3 (fun x2 x7 x11 x86 x87 x88 σ' => ∃ m', m' < m ∧ I m' x2 x7 x11 x86 x87 x88 σ') QT x2 x7 x11 x86 x87 x88 σ' := by
  let I0 : Assn := Star [ActsA vb L2, BytesA pv pk]
  have hI0 : Dup I0 := Dup.star fun A hA => by
    simp only [List.mem_cons, List.not_mem_nil, or_false] at hA
    rcases hA with rfl | rfl
    · exact RowsA.dup ActA.dup _ _
    · exact BytesA.dup _ _
  have hp : ∀ τ, H [I0] τ → Rd τ pv pk := fun τ hτ => (H.bytes_rd (H_one.1 hτ) 1 rfl).1
  let J : DM → Nat → List Value → List Assn := fun D k vs => [Disk d D, pt mb (.cells vs 37 false), Mays (4 * k) vs (crashed pk D.last 0 D.fly), I0]
  refine ⟨fun m x2 x7 x11 x86 x87 x88 τ => ∃ (k : Nat) (vs : List Value) (D : DM), m = L2.length - k ∧ k ≤ L2.length ∧ pv = x2 ∧ d = x7 ∧ x11 = .pointer (some ⟨mb, 0, none⟩) ∧ vb = x86 ∧ x87 = .int .i64 L2.length ∧ x88 = .int .i64 k ∧ vs.length = 16 ∧ D.Ok 4 ∧ D.off = false ∧ D.fuse = 0 ∧ D.fly.length = 4 * k ∧ H (J D k vs) τ,
    ⟨_, 0, vs, D, rfl, by omega, rfl, rfl, rfl, rfl, rfl, rfl, hvs, hD, ho, hf, by simp [hfl], ?_⟩, ?_⟩
  · simpa [J, hfl, crashed] using h
  clear h hvs hD ho hf hfl
  rintro m _ _ _ _ _ _ τ ⟨k, vs, D, rfl, hk, rfl, rfl, rfl, rfl, rfl, rfl, hvs, hD, ho, hf, hfl, h⟩
  suffices hb : ∀ N3 : Value → Value → Value → Value → Value → Value → AHeap → Prop, (∀ vs' D' τ', k < L2.length → vs'.length = 16 → D'.Ok 4 → D'.off = false → D'.fuse = 0 → D'.fly.length = 4 * (k + 1) → H (J D' (k + 1) vs') τ' →
      N3 pv d (.pointer (some ⟨mb, 0, none⟩)) vb (.int .i64 L2.length) (.int .i64 (k + 1 : Nat)) τ') →
      s3b3 N3 QT pv d (.pointer (some ⟨mb, 0, none⟩)) vb (.int .i64 L2.length) (.int .i64 k) τ from
    hb _ fun vs' D' τ' hlt a b c e f h' => ⟨_, by omega, k + 1, vs', D', rfl, by omega, rfl, rfl, rfl, rfl, rfl, rfl, a, b, c, e, f, h'⟩
  intro N3 hN3
  unfold s3b3
  simp
  refine wC_dec (fun hlt => ?_) fun hlt => ?_
  · have hm := List.getElem?_eq_getElem hlt
    generalize L2[k] = A at hm
    have h0 := (H_star.1 (h.dup 3 rfl hI0).unsnoc).pick [2, 3, 4, 5, 0] (by decide)
    obtain ⟨ab, ao, av, a1, a2, hw, hat, ⟨ba, bc, rfl⟩, h1⟩ := act_at h0 4 rfl hm
    have h1 := h1.pick [0, 1, 2, 3, 5] (by decide)
    simp [a1, a2]
    refine new_ok h1 ?_
    intro tb σ3 h3
    refine storeN h3 5 rfl (by simp) (by omega) (by simp [by8]) (by simp) ?_
    intro σ4 h4
    try simp
    refine store1 (o := 4) h4 5 rfl (by simp) (by simp [splice]) ?_
    intro σ5 h5
    have t1 := load1 (n := 1) (o := 1) (h5.row 5 rfl)
    have t5 := loadN (n := 5) (o := 0) (h5.row 5 rfl) (by simp [splice])
    simp [splice] at t1 t5
    simp [t1, t5]
    refine within_ok (n := 4) (by omega) ?_
    intro a ha
    simp [t5, veq1, veqs, veq, veq0, by8]
    refine block_ok (A := long A) h5 4 rfl ?_
    intro w σ6 h6
    have hbl : (blk (long A)).length = 256 := blk_len _ rfl
    rw [hbl] at h6
    generalize blk (long A) = bs at hbl h6
    have hwp := write_plain hD ho hf ha hbl
    refine write_ok (bs := bs) h6 0 rfl hD (by omega) (by omega) (by omega) (fun τ hτ => hτ.own_rd 6 rfl) ?_
    rw [hwp]
    intro σ7 h7
    simp
    obtain ⟨wb, wc, rfl, hwc, hro⟩ := own_freeze (by omega) (h7.pick [6, 0, 1, 2, 3] (by decide))
    have h8 := hro 0 256 wc hwc (by omega)
    have hz : ((bs.drop 0).take 256) = bs := by rw [List.drop_zero, List.take_of_length_le (by omega)]
    rw [hz] at h8
    have h9 : H [Disk d (D.fling a bs), pt mb (.cells vs 37 false), Mays (4 * k) vs (crashed pk D.last 0 D.fly), RoB (.slice (some ⟨wb, 0, none⟩) 256 wc) bs, I0] σ7 := h8.pick [1, 2, 3, 0, 4] (by decide)
    refine keeps_b4 h9 hvs (by have := hD.len; omega) hD.fly hfl hbl hwc ha (by omega) hp ?_
    intro vs' τ' hl h'
    refine hN3 vs' (D.fling a bs) τ' hlt hl (fling_Ok hD ha hbl) ho hf ?_ ?_
    · simp [DM.fling, parts, hfl]; omega
    · exact h'
  · have : k = L2.length := by omega
    subst this
    refine crash_ok h 0 rfl hD (by omega) (fun τ hτ => hp τ (hτ.pick [3] (by decide))) ?_
    intro σ1 h1
    simp only [List.set_cons_zero, J] at h1
    exact keeps_end (D := D.crash pk) h1 hvs (crash_Ok hD pk) rfl rfl (by omega)

/-- What each sector is behind the barrier, and what follows. -/
theorem keeps_b2 {pv vb d : Value} {vc2 : Nat} {va2 : Option Addr} {mb : Nat} {D : DM} {pk : List UInt8} {L2 : List ActM} (hvb : vb = .slice va2 L2.length vc2)
    (h : H [Disk d D, pt mb (.cells (List.replicate 16 (.slice none 0 0)) 37 false), Star [ActsA vb L2, BytesA pv pk]] σ) (hD : D.Ok 4) (ho : D.off = false) (hf : D.fuse = 0) (hfl : D.fly = []) (hL2 : L2.length ≤ 40) :
    ∃ I : Nat → Value → Value → Value → Value → Value → AHeap → Prop, (∃ m, I m vb pv d (.pointer (some ⟨mb, 0, none⟩)) (.int .i64 0) σ) ∧
    ∀ m (x1 x2 x7 x11 x68 : Value) (σ' : AHeap), I m x1 x2 x7 x11 x68 σ' → s3b2 (fun x1 x2 x7 x11 x68 σ' => ∃ m', m' < m ∧ I m' x1 x2 x7 x11 x68 σ') QT x1 x2 x7 x11 x68 σ' := by
  let J : Nat → List Value → List Assn := fun j vs => [Disk d D, pt mb (.cells (vs ++ List.replicate (16 - j) (.slice none 0 0)) 37 false), Star (List.zipWith (MayA 0) vs (sects j D.last)), Star [ActsA vb L2, BytesA pv pk]]
  refine ⟨fun m x1 x2 x7 x11 x68 τ => ∃ (j : Nat) (vs : List Value), m = 16 - j ∧ j ≤ 16 ∧ vb = x1 ∧ pv = x2 ∧ d = x7 ∧ x11 = .pointer (some ⟨mb, 0, none⟩) ∧ x68 = .int .i64 j ∧ vs.length = j ∧ H (J j vs) τ,
    ⟨_, 0, [], rfl, by omega, rfl, rfl, rfl, rfl, rfl, rfl, ?_⟩, ?_⟩
  · have h1 : H [Disk d D, pt mb (.cells (List.replicate 16 (.slice none 0 0)) 37 false), Star [ActsA vb L2, BytesA pv pk], emp] σ := h.emp_end
    exact h1.pick [0, 1, 3, 2] (by decide)
  clear h
  rintro m _ _ _ _ _ τ ⟨j, vs, rfl, hj, rfl, rfl, rfl, rfl, rfl, hvs, h⟩
  suffices hb : ∀ N2 : Value → Value → Value → Value → Value → AHeap → Prop, (∀ vs' τ', j < 16 → vs'.length = j + 1 → H (J (j + 1) vs') τ' → N2 vb pv d (.pointer (some ⟨mb, 0, none⟩)) (.int .i64 (j + 1 : Nat)) τ') →
      s3b2 N2 QT vb pv d (.pointer (some ⟨mb, 0, none⟩)) (.int .i64 j) τ from
    hb _ fun vs' τ' hlt a h' => ⟨_, by omega, j + 1, vs', rfl, by omega, rfl, rfl, rfl, rfl, rfl, a, h'⟩
  intro N2 hN2
  unfold s3b2
  simp
  refine wC_dec (fun h1 => ?_) fun h1 => ?_
  · have h1 : j < 16 := by omega
    obtain ⟨q, r, hq, hrr, g1, g2⟩ : ∃ q r : Nat, j = 4 * q + r ∧ r < 4 ∧ j / 4 = q ∧ j % 4 = r := ⟨j / 4, j % 4, by omega, by omega, rfl, rfl⟩
    rw [show (j : Int) / 4 = (q : Int) by omega, show ((j : Nat) : Int).tmod 4 = ((j % 4 : Nat) : Int) from rfl, g2, wrap_i64 (by omega)]
    have hr := ready_in hD (a := q) (by omega)
    rw [ho] at hr
    refine read_yes h 0 rfl hD (by rw [hfl]; simp) (by simpa using hr) ?_
    intro w τ1 h2
    simp
    rw [block_still _ hfl] at h2
    obtain ⟨wb, wc, rfl, hwc, hro⟩ := own_freeze (by omega) (h2.pick [4, 0, 1, 2, 3] (by decide))
    refine sector_ok hwc hrr ?_
    intro c' hc'
    have h3 := hro (0 + 64 * r) 64 c' hc' (by omega)
    have key : (((D.last.drop (q * 256)).take 256).drop (64 * r)).take 64 = sect D.last j := by rw [← g1, ← g2]; exact block_sect
    rw [Int.toNat_natCast, Nat.zero_add, key] at h3
    refine buildS_ok (cs := [.slice (some ⟨wb, 0 + 64 * r, none⟩) 64 c']) h3 (by decide) (by rfl) ?_
    intro tb τ2 h4
    rw [idxAA (by omega)]
    simp
    rw [wrap_i64 (by omega)]
    refine store1 h4 2 rfl (by simp) (by simp [hvs]; omega) ?_
    intro τ3 h5
    refine hN2 (vs ++ [.slice (some ⟨tb, 0, none⟩) 1 1]) τ3 h1 (by simp [hvs]) ?_
    have e : (vs ++ List.replicate (16 - j) (Value.slice none 0 0)).set j (Value.slice (some ⟨tb, 0, none⟩) 1 1) = vs ++ [Value.slice (some ⟨tb, 0, none⟩) 1 1] ++ List.replicate (16 - (j + 1)) (Value.slice none 0 0) := by
      rw [List.set_append_right _ _ (by omega), hvs, Nat.sub_self, show 16 - j = (16 - (j + 1)) + 1 by omega, List.replicate_succ]
      simp
    rw [e] at h5
    have h6 := (h5.to_own 5 rfl (n := 1) (z := 1) rfl (by unfold OPEN; omega)).pick [5, 0, 1, 2, 3, 4] (by decide)
    simp only [Nat.zero_add] at h6
    have h7 := may_in (N := 0) (n := 1) (pre := []) rfl (Nat.le_refl 0) h6
    have h8 : H [MayA 0 (.slice (some ⟨tb, 0, none⟩) 1 1) (sect D.last j), Disk d D, pt mb (.cells (vs ++ [Value.slice (some ⟨tb, 0, none⟩) 1 1] ++ List.replicate (16 - (j + 1)) (.slice none 0 0)) 37 false), Star (List.zipWith (MayA 0) vs (sects j D.last)), Star [ActsA vb L2, BytesA pv pk]] τ3 := h7
    simp only [J]
    rw [sects_snoc, List.zipWith_append (by rw [sects_len, hvs]), Star_append]
    have h9 := h8.pick [3, 0, 1, 2, 4] (by decide)
    have h10 := (H_sep (A := Star (List.zipWith (MayA 0) vs (sects j D.last))) (B := Star [MayA 0 (.slice (some ⟨tb, 0, none⟩) 1 1) (sect D.last j)])).2 (by
      have : H [Star [MayA 0 (.slice (some ⟨tb, 0, none⟩) 1 1) (sect D.last j)], Star (List.zipWith (MayA 0) vs (sects j D.last)), Disk d D, pt mb (.cells (vs ++ [Value.slice (some ⟨tb, 0, none⟩) 1 1] ++ List.replicate (16 - (j + 1)) (.slice none 0 0)) 37 false), Star [ActsA vb L2, BytesA pv pk]] τ3 := H_star.2 (h9.pick [1, 0, 2, 3, 4] (by decide))
      exact this.pick [1, 0, 2, 3, 4] (by decide))
    exact h10.pick [1, 2, 0, 3] (by decide)
  · have : j = 16 := by omega
    subst this
    simp only [hvb, lenS_slice, pu_some]
    rw [← hvb]
    refine keeps_b3 (pk := pk) (vs := vs) hvb ?_ hvs hD ho hf hfl hL2
    simpa [J, Mays] using h

theorem keeps_k15 {p pv vb d : Value} {vc2 : Nat} {va2 : Option Addr} {D : DM} {pk : List UInt8} {L2 : List ActM} (hp : p = .bool false) (hvb : vb = .slice va2 L2.length vc2)
    (h : H [Disk d D, Star [ActsA vb L2, BytesA pv pk]] σ) (hD : D.Ok 4) (ho : D.off = false) (hf : D.fuse = 0) (hfl : D.fly = []) (hL2 : L2.length ≤ 40) : s3k15 QT p vb pv d σ := by
  unfold s3k15
  simp only [hp, wC_false]
  refine new_ok h ?_
  intro mb σ1 h1
  refine keeps_b2 (pk := pk) hvb ?_ hD ho hf hfl hL2
  exact h1.pick [0, 2, 1] (by decide)

theorem diskKeeps_ev {va vb pv : Value} {L1 L2 : List ActM} {pk : List UInt8} (h : H [ActsA va L1, ActsA vb L2, BytesA pv pk] σ) : E 3 [va, vb, pv] σ QT := by
  obtain ⟨aa, ac, rfl⟩ := h.rows_form 0 rfl
  obtain ⟨ba, bc, hvb⟩ := h.rows_form 1 rfl
  apply s3_ev; unfold s3
  refine new_yes (n := 4) h (by omega) ?_
  intro d σ1 h1
  simp
  refine E_true rfl ?_
  simp
  unfold s3k3
  have hr1 := rows_len h 0 rfl
  have hr2 := rows_len h 1 rfl
  unfold reachBytes at hr1 hr2
  simp only [hvb, lenS_slice, pu_some, wC_false, bin_add, bin_gtr]
  rw [wrap_i64 (by omega)]
  rw [← hvb]
  refine wC_dec (fun h40 => by simp) fun h40 => ?_
  let J : DM → List Assn := fun D => [Disk d D, ActsA (.slice aa L1.length ac) L1, Star [ActsA vb L2, BytesA pv pk]]
  refine ⟨fun m x1 x2 x7 x44 x45 x46 τ => ∃ (k : Nat) (D : DM), m = L1.length - k ∧ k ≤ L1.length ∧ vb = x1 ∧ pv = x2 ∧ d = x7 ∧ x44 = .slice aa L1.length ac ∧ x45 = .int .i64 L1.length ∧ x46 = .int .i64 k ∧ D.Ok 4 ∧ D.off = false ∧ D.fuse = 0 ∧ D.fly.length = 4 * k ∧ H (J D) τ,
    ⟨_, 0, DM.new 4, rfl, by omega, rfl, rfl, rfl, rfl, rfl, rfl, new_Ok 4 (by omega), rfl, rfl, rfl, ?_⟩, ?_⟩
  · have h2 : H (ActsA vb L2 :: BytesA pv pk :: [Disk d (DM.new 4), ActsA (.slice aa L1.length ac) L1]) σ1 := h1.pick [1, 2, 3, 0] (by decide)
    exact ((H_star (l := [ActsA vb L2, BytesA pv pk])).2 h2).pick [1, 2, 0] (by decide)
  clear h h1
  rintro m _ _ _ _ _ _ τ ⟨k, D, rfl, hk, rfl, rfl, rfl, rfl, rfl, rfl, hD, ho, hf, hfl, h⟩
  suffices hb : ∀ N1 : Value → Value → Value → Value → Value → Value → AHeap → Prop, (∀ D' τ', k < L1.length → D'.Ok 4 → D'.off = false → D'.fuse = 0 → D'.fly.length = 4 * (k + 1) → H (J D') τ' →
      N1 vb pv d (.slice aa L1.length ac) (.int .i64 L1.length) (.int .i64 (k + 1 : Nat)) τ') → s3b1 N1 QT vb pv d (.slice aa L1.length ac) (.int .i64 L1.length) (.int .i64 k) τ from
    hb _ fun D' τ' hlt a b c e h' => ⟨_, by omega, k + 1, D', rfl, by omega, rfl, rfl, rfl, rfl, rfl, rfl, a, b, c, e, h'⟩
  intro N1 hN1
  unfold s3b1
  simp
  refine wC_dec (fun hlt => ?_) fun hlt => ?_
  · have hm := List.getElem?_eq_getElem hlt
    generalize L1[k] = A at hm
    obtain ⟨ab, ao, av, a1, a2, hw, hat, ⟨ba', bc', rfl⟩, h1⟩ := act_at h 1 rfl hm
    simp [a1, a2]
    refine new_ok h1 ?_
    intro tb σ3 h3
    refine storeN h3 4 rfl (by simp) (by omega) (by simp [by8]) (by simp) ?_
    intro σ4 h4
    try simp
    refine store1 (o := 4) h4 4 rfl (by simp) (by simp [splice]) ?_
    intro σ5 h5
    have t1 := load1 (n := 1) (o := 1) (h5.row 4 rfl)
    have t5 := loadN (n := 5) (o := 0) (h5.row 4 rfl) (by simp [splice])
    simp [splice] at t1 t5
    simp [t1, t5]
    refine within_ok (n := 4) (by omega) ?_
    intro a ha
    simp [t5, veq1, veqs, veq, veq0, by8]
    refine block_ok (A := long A) h5 3 rfl ?_
    intro w σ6 h6
    have hbl : (blk (long A)).length = 256 := blk_len _ rfl
    rw [hbl] at h6
    generalize blk (long A) = bs at hbl h6
    have hwp := write_plain hD ho hf ha hbl
    refine write_ok (bs := bs) h6 0 rfl hD (by omega) (by omega) (by omega) (fun τ hτ => hτ.own_rd 5 rfl) ?_
    rw [hwp]
    intro σ7 h7
    simp
    rw [wrap_i64 (by omega)]
    refine hN1 (D.fling a bs) σ7 hlt (fling_Ok hD ha hbl) ho hf ?_ (h7.pick [0, 1, 2] (by decide))
    simp [DM.fling, parts, hfl]; omega
  · have hbp := barrier_plain hD ho hf
    refine barrier_ok h 0 rfl hD (by omega) (by omega) ?_
    rw [hbp]
    intro σ1 h1
    simp
    refine flight_ok h1 0 rfl ?_
    simp
    exact keeps_k15 (by simp [DM.land]) hvb (h1.pick [0, 2] (by decide)) (land_Ok hD) ho hf rfl (by omega)

end Go.Ax.YtfeamgocomlepaaC
