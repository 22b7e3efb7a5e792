/- A disk in memory, and contracts of the disk's functions. No statement of the seat is proved here. -/
import Derived.Test.YtfeamgocomlepaaD1
import Derived.Test.YtfeamgocomlepaaM1
set_option maxRecDepth 100000
namespace Go.Ax.YtfeamgocomlepaaC
open Go.Proofs

variable {l : List Assn} {σ : AHeap} {Q : WK}

/-- The cells of flights. -/
def flc : List Flight → List Value → List Value
  | f :: fs, s :: ss => .int .i64 (f.1 : Nat) :: s :: flc fs ss
  | _, _ => []
def FlyA : List Flight → List Value → Assn
  | f :: fs, s :: ss => sep (RoB s f.2) (FlyA fs ss)
  | _, _ => emp
theorem flc_get : ∀ (fs : List Flight) (ss : List Value) (k : Nat) (f : Flight) (s : Value), fs[k]? = some f → ss[k]? = some s → ((flc fs ss).drop (k * 2)).take 2 = [.int .i64 (f.1 : Nat), s]
  | [], _, k, f, s, h, _ => by simp at h
  | _ :: _, [], k, f, s, _, h => by simp at h
  | f :: fs, s :: ss, 0, f', s', h, h' => by simp at h h'; subst h; subst h'; simp [flc]
  | f :: fs, s :: ss, k + 1, f', s', h, h' => by
    simp at h h'
    have := flc_get fs ss k f' s' h h'
    simp only [flc]
    rw [show (k + 1) * 2 = k * 2 + 1 + 1 by omega, List.drop_succ_cons, List.drop_succ_cons]
    exact this
theorem flc_append : ∀ (fs : List Flight) (ss : List Value) (gs : List Flight) (ts : List Value), fs.length = ss.length → flc (fs ++ gs) (ss ++ ts) = flc fs ss ++ flc gs ts
  | [], [], gs, ts, _ => rfl
  | [], _ :: _, gs, ts, h => by simp at h
  | _ :: _, [], gs, ts, h => by simp at h
  | f :: fs, s :: ss, gs, ts, h => by simp [flc, flc_append fs ss gs ts (by simpa using h)]
theorem FlyA.dup : ∀ (fs : List Flight) (ss : List Value), Dup (FlyA fs ss)
  | [], _ => by simpa [FlyA] using Dup.emp
  | _ :: _, [] => by simpa [FlyA] using Dup.emp
  | f :: fs, s :: ss => Dup.sep (RoB.dup _ _) (FlyA.dup fs ss)
theorem FlyA_append : ∀ (fs : List Flight) (ss : List Value) (gs : List Flight) (ts : List Value), fs.length = ss.length → FlyA (fs ++ gs) (ss ++ ts) = sep (FlyA fs ss) (FlyA gs ts)
  | [], [], gs, ts, _ => by simp [FlyA, emp_sep]
  | [], _ :: _, gs, ts, h => by simp at h
  | _ :: _, [], gs, ts, h => by simp at h
  | f :: fs, s :: ss, gs, ts, h => by simp [FlyA, FlyA_append fs ss gs ts (by simpa using h), sep_assoc]
theorem fly0 : ∀ {fs : List Flight} {ss : List Value} {l : List Assn} {σ : AHeap} {k : Nat} {f : Flight} {s : Value}, H (FlyA fs ss :: l) σ → fs[k]? = some f → ss[k]? = some s → H (RoB s f.2 :: l) σ
  | [], _, l, σ, k, f, s, h, hf, hs => by simp at hf
  | _ :: _, [], l, σ, k, f, s, h, hf, hs => by simp at hs
  | f :: fs, s :: ss, l, σ, 0, f', s', h, hf, hs => by
    simp at hf hs; subst hf; subst hs
    simp only [FlyA, H_sep] at h
    exact h.second
  | f :: fs, s :: ss, l, σ, k + 1, f', s', h, hf, hs => by
    simp at hf hs
    simp only [FlyA, H_sep] at h
    exact fly0 h.tail hf hs
theorem fly_at {fs : List Flight} {ss : List Value} (h : H l σ) (i : Nat) (hi : l[i]? = some (FlyA fs ss)) {k : Nat} {f : Flight} {s : Value} (hf : fs[k]? = some f) (hs : ss[k]? = some s) :
    ∃ b o cap c, s = .slice (some ⟨b, o, none⟩) f.2.length cap ∧ CapOk 1 f.2.length cap ∧ σ.row b = some c ∧ (c.drop o).take f.2.length = bv f.2 ∧ o + f.2.length ≤ c.length := (fly0 (h.front i hi) hf hs).rob0

/-- A disk: its own block, what lasts, the flights. -/
def DiskP (b : Nat) (lv fv : Value) (ss : List Value) (D : DM) : List Assn :=
  [pt b (.cells [lv, fv, .int .i64 D.fuse, .bool D.off] 88 false), Own 5 1 lv D.last.length (bv D.last), Own 110 2 fv D.fly.length (flc D.fly ss), FlyA D.fly ss]
def Disk (v : Value) (D : DM) : Assn := ex fun p : Nat × Value × Value × List Value =>
  sep (pure' (v = .pointer (some ⟨p.1, 0, none⟩) ∧ p.2.2.2.length = D.fly.length)) (Star (DiskP p.1 p.2.1 p.2.2.1 p.2.2.2 D))

theorem disk_out {v : Value} {D : DM} {m : List Assn} (h : H (Disk v D :: m) σ) : ∃ b lv fv ss, v = .pointer (some ⟨b, 0, none⟩) ∧ ss.length = D.fly.length ∧ H (DiskP b lv fv ss D ++ m) σ := by
  obtain ⟨p, h⟩ := H_ex.1 h
  rw [H_sep] at h
  obtain ⟨⟨h1, h2⟩, h⟩ := H_pure.1 h
  exact ⟨_, _, _, _, h1, h2, H_star.1 h⟩
theorem disk_in {D : DM} {b : Nat} (lv fv : Value) (ss : List Value) {m : List Assn} (hs : ss.length = D.fly.length) (h : H (DiskP b lv fv ss D ++ m) σ) : H (Disk (.pointer (some ⟨b, 0, none⟩)) D :: m) σ :=
  H_ex.2 ⟨(b, lv, fv, ss), by rw [H_sep]; exact H_pure.2 ⟨⟨rfl, hs⟩, H_star.2 h⟩⟩

theorem in_self {A : Assn} {m : List Assn} (i : Nat) (hi : l[i]? = some A) (h : H (A :: Star (l.set i emp) :: m) σ) : H (l ++ m) σ := by
  rw [H_app]
  have e : Star l = sep A (Star (l.set i emp)) := by
    conv => lhs; rw [Star_take l i]
    simp [List.getD, hi]
  rw [e, H_sep]; exact h

/-! ### New, Blocks, ready, Off, Flight, Fuse -/
theorem new_no {n : Int} (h : n < 1 ∨ 1024 < n) (hk : Q (.tuple #[.pointer none, .int .i64 1]) σ) : E 13 [.int .i64 n] σ Q := by
  apply s13_ev; unfold s13
  simp
  refine wG_dec (fun h1 => ?_) fun h1 => ?_
  · unfold s13k2; simpa using hk
  · unfold s13k2
    have : 1024 < n := by omega
    simpa [this] using hk
theorem bv_replicate (n : Nat) (b : UInt8) : List.replicate n (by8 b) = bv (List.replicate n b) := by simp [bv]
theorem new_yes {n : Int} (h : H l σ) (hn : 1 ≤ n ∧ n ≤ 1024) (hk : ∀ v σ', H (l ++ [Disk v (.new n.toNat)]) σ' → Q (.tuple #[v, .int .i64 0]) σ') : E 13 [.int .i64 n] σ Q := by
  apply s13_ev; unfold s13
  have h1 : ¬ n < 1 := by omega
  have h2 : ¬ 1024 < n := by omega
  simp [h1]
  unfold s13k2
  simp [h2]
  rw [wrap_i64 (by omega)]
  refine make_ok (H_one.2 h) (by omega) ?_
  intro b σ1 h3
  simp [splice]
  refine new_ok h3 ?_
  intro b2 σ2 h4
  refine hk _ _ (H_app.2 ?_)
  have e1 : (n * 256).toNat = 256 * n.toNat := by omega
  rw [e1, reps_one] at h4
  have h5 := ((h4.to_own 1 rfl (n := 256 * n.toNat) (z := 1) (by simp) (by unfold OPEN; omega)).own_nil 110 2).emp_end
  have h6 := h5.pick [2, 1, 3, 4, 0] (by decide)
  refine (disk_in (D := .new n.toNat) (.slice (some ⟨b, 0, none⟩) (256 * n.toNat) (256 * n.toNat)) (.slice none 0 0) [] rfl ?_ : H [_, _] _).pick [1, 0] (by decide)
  rw [show (Value.int .u8 0) = by8 0 from rfl, bv_replicate] at h6
  simpa [picks, DiskP, DM.new, FlyA, flc] using h6
theorem blocks_ok {v : Value} {D : DM} (h : H l σ) (i : Nat) (hi : l[i]? = some (Disk v D)) (hD : D.last.length < 1099511627776) (hk : Q (.int .i64 (D.last.length / 256 : Nat)) σ) : E 28 [v] σ Q := by
  obtain ⟨b, lv, fv, ss, rfl, hs, h⟩ := disk_out (h.out i hi)
  apply s28_ev; unfold s28
  have r0 := load1 (n := 1) (o := 0) (h.row 0 rfl)
  obtain ⟨_, _, a, c, rfl⟩ := h.own_src 1 rfl
  simp [r0]
  rw [wrap_i64 (by omega)]
  simpa using hk
theorem off_ok {v : Value} {D : DM} (h : H l σ) (i : Nat) (hi : l[i]? = some (Disk v D)) (hk : Q (.bool D.off) σ) : E 24 [v] σ Q := by
  obtain ⟨b, lv, fv, ss, rfl, hs, h⟩ := disk_out (h.out i hi)
  apply s24_ev; unfold s24
  have r3 := load1 (n := 1) (o := 3) (h.row 0 rfl)
  simp [r3]
  exact hk
theorem flight_ok {v : Value} {D : DM} (h : H l σ) (i : Nat) (hi : l[i]? = some (Disk v D)) (hk : Q (.int .i64 D.fly.length) σ) : E 19 [v] σ Q := by
  obtain ⟨b, lv, fv, ss, rfl, hs, h⟩ := disk_out (h.out i hi)
  apply s19_ev; unfold s19
  have r1 := load1 (n := 1) (o := 1) (h.row 0 rfl)
  obtain ⟨_, _, a, c, rfl⟩ := h.own_src 2 rfl
  simp [r1]
  exact hk
theorem ready_ok {v : Value} {D : DM} {n : Nat} {a : Int} (h : H l σ) (i : Nat) (hi : l[i]? = some (Disk v D)) (hD : D.Ok n) (hk : Q (.int .i64 (D.ready a)) σ) : E 64 [v, .int .i64 a] σ Q := by
  have h0 := h
  have hv0 := hi
  obtain ⟨b, lv, fv, ss, rfl, hs, h⟩ := disk_out (h.out i hi)
  have hlen := hD.len
  have hn := hD.lo
  have hn2 := hD.hi
  apply s64_ev; unfold s64
  have r0 := load1 (n := 1) (o := 0) (h.row 0 rfl)
  have r3 := load1 (n := 1) (o := 3) (h.row 0 rfl)
  obtain ⟨_, _, x, c, rfl⟩ := h.own_src 1 rfl
  have hz : ¬ D.last.length = 0 := by omega
  simp [r0]
  unfold s64k2
  have hz2 : D.last ≠ [] := fun e => by rw [e] at hz; simp at hz
  simp [hz2, r3]
  unfold DM.ready at hk
  cases hoff : D.off with
  | true => simpa [hoff] using hk
  | false =>
    simp only [hoff, Bool.false_eq_true, if_false] at hk
    simp
    refine wG_dec (fun h1 => ?_) fun h1 => ?_
    · unfold s64k4; simpa [h1] using hk
    · refine blocks_ok h0 i hv0 (by omega) ?_
      unfold s64k4
      simp
      refine wC_dec (fun h2 => ?_) fun h2 => ?_
      · rw [if_pos (.inr (by omega))] at hk; exact hk
      · rw [if_neg (by omega)] at hk; exact hk
theorem fuse_ok {v : Value} {D : DM} {n : Int} (h : H l σ) (i : Nat) (hi : l[i]? = some (Disk v D)) (hk : ∀ σ', H (l.set i (Disk v (D.setFuse n))) σ' → Q (.tuple #[]) σ') : E 25 [v, .int .i64 n] σ Q := by
  obtain ⟨b, lv, fv, ss, rfl, hs, h⟩ := disk_out (h.out i hi)
  apply s25_ev; unfold s25
  simp
  have e : (if (0 : Int) > n then (0 : Int) else n) = (n.toNat : Nat) := by split <;> omega
  rw [e]
  refine store1 h 0 rfl rfl (by simp) ?_
  intro σ' h'
  refine hk _ (H.in' i hi (disk_in lv fv ss hs ?_))
  exact h'

/-! ### burn, land, Barrier -/
theorem burn_ok {v : Value} {D : DM} {g : FuncId} {a c : Array Value} (h : H l σ) (i : Nat) (hi : l[i]? = some (Disk v D)) (hf : D.fuse < 9223372036854775808)
    (hw : D.burn.2 = true → ∀ σ', H (l.set i (Disk v D.burn.1)) σ' → E g (a.toList ++ [] ++ c.toList) σ' fun _ τ => Q (.int .i64 0) τ)
    (ho : D.burn.2 = false → ∀ σ', H (l.set i (Disk v D.burn.1)) σ' → Q (.int .i64 9) σ') : E 65 [v, .func (.func g) a c] σ Q := by
  have h0 := h
  obtain ⟨b, lv, fv, ss, rfl, hs, h⟩ := disk_out (h.out i hi)
  apply s65_ev; unfold s65
  have r2 := load1 (n := 1) (o := 2) (h.row 0 rfl)
  simp [r2]
  refine wC_dec (fun h1 => ?_) fun h1 => ?_
  · rw [wrap_i64 (by omega)]
    refine store1 h 0 rfl rfl (by simp) ?_
    intro σ1 h2
    have r2 := load1 (n := 1) (o := 2) (h2.row 0 rfl)
    simp [r2]
    refine wC_dec (fun h3 => ?_) fun h3 => ?_
    · refine store1 h2 0 rfl rfl (by simp) ?_
      intro σ2 h4
      have h5 : D.fuse = 1 := by omega
      have hb : D.burn = ({ D with fuse := 0, off := true }, false) := by simp [DM.burn, h5]
      refine ho (by rw [hb]) _ (H.in' i hi ?_)
      rw [hb]
      refine disk_in lv fv ss hs ?_
      have e : (D.fuse : Int) - 1 = 0 := by omega
      rw [e] at h4
      exact h4
    · unfold s65k6
      simp
      have hb : D.burn = ({ D with fuse := D.fuse - 1 }, true) := by
        unfold DM.burn
        rw [if_neg (by omega), if_neg (by omega)]
      have := hw (by rw [hb]) σ1 (by
        refine H.in' i hi ?_
        rw [hb]
        refine disk_in lv fv ss hs ?_
        have e : (D.fuse : Int) - 1 = ((D.fuse - 1 : Nat) : Int) := by omega
        rw [e] at h2
        exact h2)
      simpa using this
  · unfold s65k6
    simp
    have hb : D.burn = (D, true) := by
      unfold DM.burn
      rw [if_pos (by omega)]
    have := hw (by rw [hb]) σ (by
      have : l.set i (Disk (.pointer (some ⟨b, 0, none⟩)) D) = l := by
        apply List.ext_getElem?
        intro j
        rw [List.getElem?_set]
        split
        · rename_i e; subst e; split
          · exact hi.symm
          · rename_i hh; exact absurd (List.getElem?_eq_some_iff.1 hi).1 hh
        · rfl
      rw [hb]; simp only [this]; exact h0)
    simpa using this

theorem land_ok {v : Value} {D : DM} {n : Nat} (h : H l σ) (i : Nat) (hi : l[i]? = some (Disk v D)) (hD : D.Ok n) (hm : D.fly.length < 1099511627776) (hk : ∀ σ', H (l.set i (Disk v D.land)) σ' → Q (.tuple #[]) σ') : E 68 [v] σ Q := by
  obtain ⟨b, lv, fv, ss, rfl, hs, h⟩ := disk_out (h.out i hi)
  have hlen := hD.len
  have hn := hD.lo
  have hn2 := hD.hi
  apply s68_ev; unfold s68
  have r1 := load1 (n := 1) (o := 1) (h.row 0 rfl)
  obtain ⟨_, _, x, c, rfl⟩ := h.own_src 2 rfl
  obtain ⟨lb, lc, rfl, hcap, _⟩ := h.own_form 1 rfl (by omega)
  simp [r1]
  refine ⟨fun m x0 x7 x8 x9 τ => ∃ k : Nat, m = D.fly.length - k ∧ k ≤ D.fly.length ∧ x0 = .pointer (some ⟨b, 0, none⟩) ∧ x7 = .slice x D.fly.length c ∧ x8 = .int .i64 D.fly.length ∧ x9 = .int .i64 k ∧
    H (pt b (.cells [.slice (some ⟨lb, 0, none⟩) D.last.length lc, .slice x D.fly.length c, .int .i64 D.fuse, .bool D.off] 88 false) :: Own 5 1 (.slice (some ⟨lb, 0, none⟩) D.last.length lc) D.last.length (bv (laid D.last (D.fly.take k))) :: Own 110 2 (.slice x D.fly.length c) D.fly.length (flc D.fly ss) :: FlyA D.fly ss :: [Star (l.set i emp)]) τ, ⟨_, 0, rfl, by omega, rfl, rfl, rfl, rfl, ?_⟩, ?_⟩
  · exact h
  · rintro m _ _ _ _ τ ⟨k, rfl, hkl, rfl, rfl, rfl, rfl, h⟩
    suffices hb : ∀ N : Value → Value → Value → Value → AHeap → Prop, (∀ τ', k < D.fly.length → H (pt b (.cells [.slice (some ⟨lb, 0, none⟩) D.last.length lc, .slice x D.fly.length c, .int .i64 D.fuse, .bool D.off] 88 false) :: Own 5 1 (.slice (some ⟨lb, 0, none⟩) D.last.length lc) D.last.length (bv (laid D.last (D.fly.take (k + 1)))) :: Own 110 2 (.slice x D.fly.length c) D.fly.length (flc D.fly ss) :: FlyA D.fly ss :: [Star (l.set i emp)]) τ' →
        N (.pointer (some ⟨b, 0, none⟩)) (.slice x D.fly.length c) (.int .i64 D.fly.length) (.int .i64 (k + 1 : Nat)) τ') → s68b1 N Q (.pointer (some ⟨b, 0, none⟩)) (.slice x D.fly.length c) (.int .i64 D.fly.length) (.int .i64 k) τ from
      hb _ fun τ' hlt h' => ⟨_, by omega, k + 1, rfl, by omega, rfl, rfl, rfl, rfl, h'⟩
    intro N hN
    unfold s68b1
    simp
    have hok : ∀ f ∈ D.fly.take k, FlyOk n f := fun f hf => hD.fly f (List.mem_of_mem_take hf)
    have hll := laid_length (D.fly.take k) D.last hlen hok
    refine wC_dec (fun h1 => ?_) fun h1 => ?_
    · obtain ⟨b2, e1, e2, e3⟩ := h.own_elem 2 rfl (k := k) h1
      have hf := List.getElem?_eq_getElem h1
      have hsk := List.getElem?_eq_getElem (show k < ss.length by omega)
      have hfo := hD.fly _ (List.getElem_mem h1)
      rw [flc_get _ _ k _ _ hf hsk] at e2
      have hfit := hfo.fit
      have hl64 := hfo.len
      simp [e1, e2]
      refine new_ok h ?_
      intro tb σ1 h2
      obtain ⟨fb, fo, fcap, fc, hse, hfcap, hfr, hfd, hfl⟩ := fly_at h2 3 rfl hf hsk
      refine storeN h2 5 rfl (by simp) (by omega) (by simp [hse]) (by simp) ?_
      intro σ2 h3
      obtain ⟨fb, fo, fcap, fc, hse, hfcap, hfr, hfd, hfl⟩ := fly_at h3 3 rfl hf hsk
      have r0 := load1 (n := 1) (o := 0) (h3.row 0 rfl)
      have t0 := load1 (n := 1) (o := 0) (h3.row 5 rfl)
      have t1 := load1 (n := 1) (o := 1) (h3.row 5 rfl)
      obtain ⟨dc, hsl, _⟩ := slice_from (z := 1) (b := lb) (o := 0) (lo := (D.fly[k].1 : Int)) (k := .i64) hcap (by omega)
      simp [r0, t0, t1, splice, hsl, hse]
      have hmin : D.fly[k].snd.length.min (D.last.length - D.fly[k].fst) = 64 := by rw [hl64]; exact Nat.min_eq_left (by omega)
      refine copy_own (ys := bv D.fly[k].2) h3 1 rfl (by omega) (by rw [hmin, rob_src (n := 64) hfr hfd hfl (by omega), List.take_of_length_le (by omega)]) (bv_one _) (by simp; omega) ?_
      intro σ3 h4
      simp
      rw [wrap_i64 (by omega)]
      refine hN _ h1 ?_
      rw [laid_take _ _ _ _ hf, ← splice_put]
      exact h4.pick [0, 1, 2, 3, 4] (by decide)
    · have : k = D.fly.length := by omega
      subst this
      refine store1 (o := 1) (v := .slice none 0 0) (k := fun τ => Q (.tuple #[]) τ) h 0 rfl rfl (by simp) ?_
      intro σ1 h2
      refine hk _ (H.in' i hi (disk_in (.slice (some ⟨lb, 0, none⟩) D.last.length lc) (.slice none 0 0) [] rfl ?_))
      have h3 := (h2.own_nil 110 2).emp_end.pick [0, 1, 5, 6, 4] (by decide)
      have e : (laid D.last D.fly).length = D.last.length := by rw [laid_length D.fly D.last hlen hD.fly, hlen]
      simpa [picks, DiskP, DM.land, FlyA, flc, e] using h3
end Go.Ax.YtfeamgocomlepaaC
