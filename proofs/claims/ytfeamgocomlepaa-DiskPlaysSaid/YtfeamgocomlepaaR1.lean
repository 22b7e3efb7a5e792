/- The reference's disk in memory, and contracts of its functions. No statement of the seat is proved here. -/
import Derived.Test.YtfeamgocomlepaaK2
set_option maxRecDepth 100000
namespace Go.Ax.YtfeamgocomlepaaC
open Go.Proofs Go.RowKit

variable {l m : List Assn} {σ : AHeap} {Q : WK}

theorem set_self {A : Assn} {i : Nat} (hi : l[i]? = some A) : l.set i A = l := by
  apply List.ext_getElem?
  intro j
  rw [List.getElem?_set]
  split
  · rename_i e; subst e; split
    · exact hi.symm
    · rename_i hh; exact absurd (List.getElem?_eq_some_iff.1 hi).1 hh
  · rfl

/-- The cells of the reference's flights. -/
def rflc : List Flight → List Value → List Value
  | f :: fs, s :: ss => .int .i64 (f.1 / 64 : Nat) :: s :: rflc fs ss
  | _, _ => []
theorem rflc_get : ∀ (fs : List Flight) (ss : List Value) (k : Nat) (f : Flight) (s : Value), fs[k]? = some f → ss[k]? = some s → ((rflc fs ss).drop (k * 2)).take 2 = [.int .i64 (f.1 / 64 : Nat), s]
  | [], _, k, f, s, h, _ => by simp at h
  | _ :: _, [], k, f, s, _, h => by simp at h
  | f :: fs, s :: ss, 0, f', s', h, h' => by simp at h h'; subst h; subst h'; simp [rflc]
  | f :: fs, s :: ss, k + 1, f', s', h, h' => by
    simp at h h'
    have := rflc_get fs ss k f' s' h h'
    simp only [rflc]
    rw [show (k + 1) * 2 = k * 2 + 1 + 1 by omega, List.drop_succ_cons, List.drop_succ_cons]
    exact this
theorem rflc_append : ∀ (fs : List Flight) (ss : List Value) (gs : List Flight) (ts : List Value), fs.length = ss.length → rflc (fs ++ gs) (ss ++ ts) = rflc fs ss ++ rflc gs ts
  | [], [], gs, ts, _ => rfl
  | [], _ :: _, gs, ts, h => by simp at h
  | _ :: _, [], gs, ts, h => by simp at h
  | f :: fs, s :: ss, gs, ts, h => by simp [rflc, rflc_append fs ss gs ts (by simpa using h)]

/-- The reference's disk of n blocks. -/
def RDiskP (b : Nat) (n : Nat) (sv lv : Value) (ss fs : List Value) (D : DM) : List Assn :=
  [pt b (.cells [sv, lv, .int .i64 D.fuse, .bool D.off, .int .i64 n] 114 false), Own 23 1 sv (4 * n) ss, Own 117 2 lv D.fly.length (rflc D.fly fs), Star (List.zipWith RoB ss (sects (4 * n) D.last)), FlyA D.fly fs]
def RDisk (n : Nat) (v : Value) (D : DM) : Assn := ex fun p : Nat × Value × Value × List Value × List Value =>
  sep (pure' (v = .pointer (some ⟨p.1, 0, none⟩) ∧ p.2.2.2.1.length = 4 * n ∧ p.2.2.2.2.length = D.fly.length)) (Star (RDiskP p.1 n p.2.1 p.2.2.1 p.2.2.2.1 p.2.2.2.2 D))
theorem rdisk_out {n : Nat} {v : Value} {D : DM} (h : H (RDisk n v D :: m) σ) : ∃ b sv lv ss fs, v = .pointer (some ⟨b, 0, none⟩) ∧ ss.length = 4 * n ∧ fs.length = D.fly.length ∧ H (RDiskP b n sv lv ss fs D ++ m) σ := by
  obtain ⟨p, h⟩ := H_ex.1 h
  rw [H_sep] at h
  obtain ⟨⟨h1, h2, h3⟩, h⟩ := H_pure.1 h
  exact ⟨_, _, _, _, _, h1, h2, h3, H_star.1 h⟩
theorem rdisk_in {n : Nat} {D : DM} {b : Nat} (sv lv : Value) (ss fs : List Value) (h1 : ss.length = 4 * n) (h2 : fs.length = D.fly.length) (h : H (RDiskP b n sv lv ss fs D ++ m) σ) : H (RDisk n (.pointer (some ⟨b, 0, none⟩)) D :: m) σ :=
  H_ex.2 ⟨(b, sv, lv, ss, fs), by rw [H_sep]; exact H_pure.2 ⟨⟨rfl, h1, h2⟩, H_star.2 h⟩⟩

/-! ### own, why, burns, Fuse -/
theorem rown_ok {v : Value} {k : Nat} {ys : List UInt8} (h : H l σ) (hs : srcOf 1 v σ = some (k, bv ys)) (hn : k ≤ 140737488355328) (hk : ∀ w σ', H (l ++ [Own 5 1 w k (bv ys)]) σ' → Q w σ') : E 71 [v] σ Q := by
  apply s71_ev; unfold s71
  refine append_own (n := 0) (xs := []) (h.own_nil 5 1) l.length (by simp) hs (by omega) (by omega) (bv_one _) ?_
  intro w σ1 h1
  simp at h1
  exact hk _ _ h1
theorem why_ok {v : Value} {D : DM} {n : Nat} {a : Int} (h : H l σ) (i : Nat) (hi : l[i]? = some (RDisk n v D)) (hD : D.Ok n) (hk : Q (.int .i64 (D.ready a)) σ) : E 69 [v, .int .i64 a] σ Q := by
  obtain ⟨b, sv, lv, ss, fs, rfl, hs, hf, h⟩ := rdisk_out (h.out i hi)
  have r3 := load1 (n := 1) (o := 3) (h.row 0 rfl)
  have r4 := load1 (n := 1) (o := 4) (h.row 0 rfl)
  have hlen := hD.len
  apply s69_ev; unfold s69
  simp [r3, r4]
  unfold DM.ready at hk
  cases ho : D.off with
  | true => simpa [ho] using hk
  | false =>
    simp only [ho, Bool.false_eq_true, if_false] at hk
    simp
    refine wG_dec (fun h1 => ?_) fun h1 => ?_
    · unfold s69k4; simpa [h1] using hk
    · unfold s69k4
      refine wC_dec (fun h2 => ?_) fun h2 => ?_
      · rw [if_pos (.inr (by omega))] at hk; exact hk
      · rw [if_neg (by omega)] at hk; exact hk
theorem burns_ok {v : Value} {D : DM} {n : Nat} (h : H l σ) (i : Nat) (hi : l[i]? = some (RDisk n v D)) (hf : D.fuse < 9223372036854775808) (hk : ∀ σ', H (l.set i (RDisk n v D.burn.1)) σ' → Q (.bool (!D.burn.2)) σ') : E 70 [v] σ Q := by
  have h0 := h
  obtain ⟨b, sv, lv, ss, fs, rfl, hs, hfs, h⟩ := rdisk_out (h.out i hi)
  have r2 := load1 (n := 1) (o := 2) (h.row 0 rfl)
  apply s70_ev; unfold s70
  simp [r2]
  refine wC_dec (fun h1 => ?_) fun h1 => ?_
  · have hb : D.burn = (D, true) := by unfold DM.burn; rw [if_pos (by omega)]
    rw [hb] at hk
    exact hk σ (by rw [set_self hi]; exact h0)
  · rw [wrap_i64 (by omega)]
    refine store1 h 0 rfl rfl (by simp) ?_
    intro σ1 h2
    have r2 := load1 (n := 1) (o := 2) (h2.row 0 rfl)
    simp [r2]
    have e : (D.fuse : Int) - 1 = ((D.fuse - 1 : Nat) : Int) := by omega
    rw [e] at h2
    refine wC_dec (fun h3 => ?_) fun h3 => ?_
    · have hb : D.burn = ({ D with fuse := D.fuse - 1 }, true) := by
        unfold DM.burn
        rw [if_neg (by omega), if_neg (by omega)]
      rw [hb] at hk
      exact hk _ (H.in' i hi (rdisk_in sv lv ss fs hs hfs h2))
    · have hb : D.burn = ({ D with fuse := 0, off := true }, false) := by
        unfold DM.burn
        rw [if_neg (by omega), if_pos (by omega)]
      rw [hb] at hk
      refine store1 h2 0 rfl rfl (by simp) ?_
      intro σ2 h4
      rw [show D.fuse - 1 = 0 by omega] at h4
      exact hk _ (H.in' i hi (rdisk_in (D := { D with fuse := 0, off := true }) sv lv ss fs hs hfs h4))
theorem rfuse_ok {v : Value} {D : DM} {n : Nat} {a : Int} (h : H l σ) (i : Nat) (hi : l[i]? = some (RDisk n v D)) (hk : ∀ σ', H (l.set i (RDisk n v (D.setFuse a))) σ' → Q (.tuple #[]) σ') : E 32 [v, .int .i64 a] σ Q := by
  obtain ⟨b, sv, lv, ss, fs, rfl, hs, hfs, h⟩ := rdisk_out (h.out i hi)
  apply s32_ev; unfold s32
  simp
  refine store1 h 0 rfl rfl (by simp) ?_
  intro σ1 h1
  try simp
  refine wC_dec (fun h3 => ?_) fun h3 => ?_
  · refine store1 h1 0 rfl rfl (by simp) ?_
    intro σ2 h2
    have e : a.toNat = 0 := by omega
    refine hk _ (H.in' i hi (rdisk_in (D := D.setFuse a) sv lv ss fs hs hfs ?_))
    unfold DM.setFuse RDiskP
    rw [e]
    exact h2
  · have e : a = (a.toNat : Nat) := by omega
    refine hk _ (H.in' i hi (rdisk_in (D := D.setFuse a) sv lv ss fs hs hfs ?_))
    unfold DM.setFuse RDiskP
    simp only
    rw [← e]
    exact h1

/-! ### Sectors and flights of the reference's disk -/
/-- A flight of the reference's disk: its cells, and its bytes. -/
theorem rdisk_fly {v : Value} {D : DM} {n k : Nat} {f : Flight} (h : H l σ) (i : Nat) (hi : l[i]? = some (RDisk n v D)) (hk : D.fly[k]? = some f) :
    ∃ b sv lv lb s, v = .pointer (some ⟨b, 0, none⟩) ∧ σ.row b = some [sv, lv, .int .i64 D.fuse, .bool D.off, .int .i64 n] ∧ (∀ kd, aIndexAddr 2 lv (.int kd k) = some (.pointer (some ⟨lb, k * 2, none⟩))) ∧
      aLoad true 2 (.pointer (some ⟨lb, k * 2, none⟩)) σ = some (.agg #[.int .i64 (f.1 / 64 : Nat), s]) ∧ aLoad false 1 (.pointer (some ⟨lb, k * 2, none⟩)) σ = some (.int .i64 (f.1 / 64 : Nat)) ∧ aLoad false 1 (.pointer (some ⟨lb, k * 2 + 1, none⟩)) σ = some s ∧
      H (l ++ [RoB s f.2]) σ := by
  have h0 := h
  obtain ⟨b, sv, lv, ss, fs, rfl, hs, hfs, h⟩ := rdisk_out (h.out i hi)
  have hlt := (List.getElem?_eq_some_iff.1 hk).1
  obtain ⟨lb, e1, e2, e3⟩ := h.own_elem 2 rfl (k := k) hlt
  have hsk := List.getElem?_eq_getElem (show k < fs.length by omega)
  have hg := rflc_get _ _ k _ _ hk hsk
  rw [hg] at e2
  have g0 := e3 1 0 (by omega)
  have g1 := e3 1 1 (by omega)
  have q0 : (rflc D.fly fs)[k * 2]? = some (.int .i64 (f.1 / 64 : Nat)) := by
    have := congrArg (·[0]?) hg
    simpa [List.getElem?_take, List.getElem?_drop] using this
  have q1 : (rflc D.fly fs)[k * 2 + 1]? = some fs[k] := by
    have := congrArg (·[1]?) hg
    simpa [List.getElem?_take, List.getElem?_drop] using this
  rw [Nat.add_zero] at g0
  rw [q0] at g0
  rw [q1] at g1
  refine ⟨b, sv, lv, lb, fs[k], rfl, h.row 0 rfl, e1, e2, g0, g1, ?_⟩
  have h1 := (h.dup 4 rfl (FlyA.dup _ _)).pick [6, 0, 1, 2, 3, 4, 5] (by decide)
  have h2 : H (RoB fs[k] f.2 :: _) σ := fly0 h1 hk hsk
  have h3 : H ([RDisk n (.pointer (some ⟨b, 0, none⟩)) D, Star (l.set i emp), RoB fs[k] f.2]) σ := rdisk_in sv lv ss fs hs hfs (h2.pick [1, 2, 3, 4, 5, 6, 0] (by decide))
  exact in_self i hi h3
/-- A sector of the reference's disk. -/
theorem rdisk_sect {v : Value} {D : DM} {n k : Nat} (h : H l σ) (i : Nat) (hi : l[i]? = some (RDisk n v D)) (hk : k < 4 * n) :
    ∃ b sv lv sb s, v = .pointer (some ⟨b, 0, none⟩) ∧ σ.row b = some [sv, lv, .int .i64 D.fuse, .bool D.off, .int .i64 n] ∧ (∀ kd, aIndexAddr 1 sv (.int kd k) = some (.pointer (some ⟨sb, k, none⟩))) ∧
      aLoad false 1 (.pointer (some ⟨sb, k, none⟩)) σ = some s ∧ H (l ++ [RoB s (sect D.last k)]) σ := by
  obtain ⟨b, sv, lv, ss, fs, rfl, hs, hfs, h⟩ := rdisk_out (h.out i hi)
  obtain ⟨sb, e1, e2, e3⟩ := h.own_elem 1 rfl (k := k) hk
  have hsk := List.getElem?_eq_getElem (show k < ss.length by omega)
  have g0 := e3 1 0 (by omega)
  rw [Nat.mul_one, Nat.add_zero, hsk] at g0
  simp only [Nat.mul_one] at e1
  refine ⟨b, sv, lv, sb, ss[k], rfl, h.row 0 rfl, e1, g0, ?_⟩
  have hd : Dup (Star (List.zipWith RoB ss (sects (4 * n) D.last))) := Dup.star fun A hA => by
    obtain ⟨i, hi, e⟩ := List.getElem_of_mem hA
    rw [← e]
    simp only [List.getElem_zipWith]
    exact RoB.dup _ _
  have h1 := (h.dup 3 rfl hd).pick [6, 0, 1, 2, 3, 4, 5] (by decide)
  have h2 := each_out h1 hsk (sects_get hk)
  have h3 : H ([RDisk n (.pointer (some ⟨b, 0, none⟩)) D, Star (l.set i emp), RoB ss[k] (sect D.last k)]) σ := rdisk_in sv lv ss fs hs hfs (h2.pick [2, 3, 4, 5, 6, 7, 0] (by decide))
  exact in_self i hi h3

/-- The part in front, what stands beside behind it. -/
theorem out_app {A : Assn} (h : H (l ++ m) σ) (i : Nat) (hi : l[i]? = some A) : H (A :: Star (l.set i emp) :: m) σ := by
  rw [H_app] at h
  have e : Star l = sep A (Star (l.set i emp)) := by
    conv => lhs; rw [Star_take l i]
    simp [List.getD, hi]
  rw [e, H_sep] at h; exact h

/-! ### lay -/
theorem lay_ok {v s : Value} {D : DM} {n sec q : Nat} {x : List UInt8} (h : H l σ) (i : Nat) (hi : l[i]? = some (RDisk n v D)) (j : Nat) (hj : l[j]? = some (RoB s x)) (hx : x.length = 64) (hD : D.last.length = 256 * n) (hn : n ≤ 1024) (hsec : sec < 4 * n) (hq : q ≤ 64)
    (hk : ∀ σ', H (l.set i (RDisk n v { D with last := put D.last (64 * sec) (x.take q) })) σ' → Q (.tuple #[]) σ') : E 72 [v, .agg #[.int .i64 sec, s], .int .i64 q] σ Q := by
  have hdup := out_app (h.dup j hj (RoB.dup _ _)) i hi
  obtain ⟨b, sv, lv, ss, fs, rfl, hs, hfs, h⟩ := rdisk_out hdup
  obtain ⟨svb, svc, rfl, hcap, _⟩ := h.own_form 1 rfl (by omega)
  obtain ⟨sb, so, sc, cc, rfl, hscap, _⟩ := h.rob 6 rfl
  rw [hx] at hscap
  apply s72_ev; unfold s72
  simp
  refine new_ok h ?_
  intro tb σ1 h1
  have t1 := load1 (n := 1) (o := 1) (h1.row 7 rfl)
  simp [t1]
  obtain ⟨c3, g1, _⟩ := slice_to (z := 1) (b := sb) (o := so) (hi := (q : Int)) (k := .i64) hscap (by omega) (by omega)
  rw [hx, g1]
  simp
  have hsx := (h1.rob_rd 6 rfl).src
  have hpre := src_prefix (c' := c3) hsx (show q ≤ x.length by omega)
  rw [Nat.mul_one, bv_take] at hpre
  refine rown_ok h1 hpre (by omega) ?_
  intro w σ2 h2
  have r0 := load1 (n := 1) (o := 0) (h2.row 0 rfl)
  have t0 := load1 (n := 1) (o := 0) (h2.row 7 rfl)
  simp [r0, t0]
  rw [idxA (by omega)]
  obtain ⟨_, _, hv, _, rest, hrow⟩ := h2.own_form 1 rfl (by omega)
  cases hv
  have hsk := List.getElem?_eq_getElem (show sec < ss.length by omega)
  have g0 := load1 (n := 1) (o := sec) hrow
  rw [List.getElem?_append_left (by omega), hsk] at g0
  simp [g0]
  have hd : Dup (Star (List.zipWith RoB ss (sects (4 * n) D.last))) := Dup.star fun A hA => by
    obtain ⟨i, hi, e⟩ := List.getElem_of_mem hA
    rw [← e]
    simp only [List.getElem_zipWith]
    exact RoB.dup _ _
  have hsl : (sect D.last sec).length = 64 := sect_len (by omega)
  have h3 := each_out ((h2.dup 3 rfl hd).pick [9, 0, 1, 2, 3, 4, 5, 7, 8] (by decide)) hsk (sects_get hsec)
  have h4 := h3.pick [0, 2, 3, 4, 5, 6, 7, 8, 9] (by decide)
  obtain ⟨kb, ko, kc, kk, hke, hkcap, _⟩ := h4.rob 0 rfl
  rw [hsl] at hke hkcap
  rw [hke]
  obtain ⟨a', c1, f1, f2⟩ := rd_from (b := kb) (o := ko) (x := sect D.last sec) (lo := (q : Int)) (k := .i64) hkcap (by omega)
  rw [f1]
  simp only [Int.toNat_natCast] at f2
  simp
  have hsv := (h4.rob_rd 0 rfl).src
  rw [hsl, hke] at hsv
  refine append_own (n := q) (m := 64 - q) (ys := bv ((sect D.last sec).drop q)) h4 8 rfl (f2 _ hsv) (by omega) (by omega) (bv_one _) ?_
  intro w2 σ3 h5
  have r0 := load1 (n := 1) (o := 0) (h5.row 1 rfl)
  have t0 := load1 (n := 1) (o := 0) (h5.row 7 rfl)
  simp [r0, t0, veq1, veq, veq0]
  rw [show q + (64 - q) = 64 by omega, ← bv_append] at h5
  have ho := own_one h5 (i := 8) rfl
  refine store_own h5 2 rfl (by omega) ho (by omega) ?_
  intro σ4 h6
  have h7 := h6.pick [8, 1, 2, 3, 4, 5, 6] (by decide)
  obtain ⟨fb, fc, rfl, hfc, hfr⟩ := own_freeze (by omega) h7
  have h8 := hfr 0 64 fc hfc (by omega)
  have hyl : (x.take q).length = q := by simp; omega
  have hz : (((x.take q ++ (sect D.last sec).drop q).drop 0).take 64) = x.take q ++ (sect D.last sec).drop q := by rw [List.drop_zero, List.take_of_length_le (by simp; omega)]
  rw [hz] at h8
  have h9 := (each_out (h8.pick [4, 0, 1, 2, 3, 5, 6] (by decide)) hsk (sects_get hsec)).pick [2, 1, 3, 4, 5, 6, 7] (by decide)
  have h10 : H [RoB (.slice (some ⟨fb, 0, none⟩) 64 fc) (x.take q ++ (sect D.last sec).drop q), Star ((List.zipWith RoB ss (sects (4 * n) D.last)).set sec emp), pt b (.cells [.slice (some ⟨svb, 0, none⟩) (4 * n) svc, lv, .int .i64 D.fuse, .bool D.off, .int .i64 n] 114 false),
    Own 23 1 (.slice (some ⟨svb, 0, none⟩) (4 * n) svc) (4 * n) (ss.set sec (.slice (some ⟨fb, 0, none⟩) 64 fc)), Own 117 2 lv D.fly.length (rflc D.fly fs), FlyA D.fly fs, Star (l.set i emp)] σ4 := h9
  have h11 := each_in (by omega) (by rw [sects_len]; exact hsec) h10
  rw [show x.take q ++ (sect D.last sec).drop q = x.take q ++ (sect D.last sec).drop (x.take q).length by rw [hyl], ← sects_put (by omega) (by omega) hsec] at h11
  refine hk _ (H.in' i hi (rdisk_in (D := { D with last := put D.last (64 * sec) (x.take q) }) (.slice (some ⟨svb, 0, none⟩) (4 * n) svc) lv (ss.set sec (.slice (some ⟨fb, 0, none⟩) 64 fc)) fs (by simpa using hs) hfs ?_))
  exact h11.pick [1, 2, 3, 0, 4, 5] (by decide)
end Go.Ax.YtfeamgocomlepaaC
