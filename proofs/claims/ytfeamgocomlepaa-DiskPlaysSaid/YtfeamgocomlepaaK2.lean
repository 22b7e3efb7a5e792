/- DiskKeeps in plain words, and the sectors' rows. No statement of the seat is proved here. -/
import Derived.Test.YtfeamgocomlepaaK1
set_option maxRecDepth 100000
namespace Go.Ax.YtfeamgocomlepaaC
open Go.Proofs Go.RowKit

variable {l m : List Assn} {σ : AHeap} {Q : WK}

theorem src_part {b o n c c' lo k : Nat} {ys : List Value} {τ : AHeap} (h : srcOf 1 (.slice (some ⟨b, o, none⟩) n c) τ = some (n, ys)) (hk : lo + k ≤ n) : srcOf 1 (.slice (some ⟨b, o + lo, none⟩) k c') τ = some (k, (ys.drop lo).take k) := by
  rcases Nat.eq_zero_or_pos k with rfl | hpos
  · rw [src_zero]; simp
  · simp only [srcOf, Option.map_eq_some_iff, Nat.mul_one] at h ⊢
    obtain ⟨l0, h, hl⟩ := h
    simp only [Prod.mk.injEq, true_and] at hl
    subst hl
    refine ⟨_, ?_, rfl⟩
    obtain ⟨n', rfl⟩ : ∃ n', n = n' + 1 := ⟨n - 1, by omega⟩
    obtain ⟨k', rfl⟩ : ∃ k', k = k' + 1 := ⟨k - 1, by omega⟩
    simp only [seg, Option.bind_eq_some_iff] at h ⊢
    obtain ⟨c0, h3, h4⟩ := h
    refine ⟨c0, h3, ?_⟩
    cases hb : Nat.ble (o + (n' + 1)) c0.length with
    | false => rw [hb] at h4; cases h4
    | true =>
      rw [hb] at h4
      simp only [cond_true, Option.some.injEq] at h4
      rw [Nat.ble_eq] at hb
      have : Nat.ble (o + lo + (k' + 1)) c0.length = true := by rw [Nat.ble_eq]; omega
      rw [this]
      simp only [cond_true, Option.some.injEq]
      rw [← h4, List.drop_take, List.take_take, List.drop_drop, Nat.min_eq_left (by omega)]

/-! ### Sectors -/
theorem put_get (L : List UInt8) (a : Nat) (x : List UInt8) (h : a + x.length ≤ L.length) (i : Nat) : (put L a x)[i]? = if a ≤ i ∧ i < a + x.length then x[i - a]? else L[i]? := by
  unfold put
  rw [List.append_assoc, List.getElem?_append]
  simp only [List.length_take, Nat.min_eq_left (show a ≤ L.length by omega)]
  split
  · rename_i hi
    rw [if_neg (by omega), List.getElem?_take, if_pos hi]
  · rw [List.getElem?_append]
    split
    · rw [if_pos (by omega)]
    · rw [if_neg (by omega), List.getElem?_drop]; congr 1; omega
theorem sect_get (L : List UInt8) (s i : Nat) : (sect L s)[i]? = if i < 64 then L[64 * s + i]? else none := by
  unfold sect
  rw [List.getElem?_take]
  split
  · rw [List.getElem?_drop]
  · rfl
theorem sect_put_same {L y : List UInt8} {s : Nat} (hL : 64 * s + 64 ≤ L.length) (hy : y.length ≤ 64) : sect (put L (64 * s) y) s = y ++ (sect L s).drop y.length := by
  apply List.ext_getElem?
  intro i
  rw [sect_get, List.getElem?_append, List.getElem?_drop, sect_get]
  split
  · rw [put_get _ _ _ (by omega)]
    split
    · rw [if_pos (by omega)]; congr 1; omega
    · rw [if_neg (by omega), if_pos (by omega)]; congr 1; omega
  · rw [if_neg (by omega), if_neg (by omega)]
theorem sect_put_other {L y : List UInt8} {s j : Nat} (hL : 64 * s + 64 ≤ L.length) (hy : y.length ≤ 64) (hj : j ≠ s) : sect (put L (64 * s) y) j = sect L j := by
  apply List.ext_getElem?
  intro i
  rw [sect_get, sect_get]
  split
  · rw [put_get _ _ _ (by omega), if_neg (by omega)]
  · rfl
def sects (n : Nat) (L : List UInt8) : List (List UInt8) := (List.range n).map (sect L)
theorem sects_get {n : Nat} {L : List UInt8} {s : Nat} (h : s < n) : (sects n L)[s]? = some (sect L s) := by simp [sects, h]
theorem sects_put {n : Nat} {L y : List UInt8} {s : Nat} (hL : 64 * s + 64 ≤ L.length) (hy : y.length ≤ 64) (hs : s < n) : sects n (put L (64 * s) y) = (sects n L).set s (y ++ (sect L s).drop y.length) := by
  apply List.ext_getElem?
  intro i
  rw [List.getElem?_set]
  split
  · rename_i e; subst e
    rw [if_pos (by simp [sects, hs]), sects_get hs, sect_put_same hL hy]
  · rename_i e
    simp only [sects, List.getElem?_map]
    cases hr : (List.range n)[i]? with
    | none => rfl
    | some j =>
      have : j = i := by
        rw [List.getElem?_range] at hr
        · cases hr; rfl
        · have := (List.getElem?_eq_some_iff.1 hr).1; simpa using this
      subst this
      simp only [Option.map_some]
      rw [sect_put_other hL hy (by omega)]
theorem sects_snoc (n : Nat) (L : List UInt8) : sects (n + 1) L = sects n L ++ [sect L n] := by simp [sects, List.range_succ]
theorem sects_len (n : Nat) (L : List UInt8) : (sects n L).length = n := by simp [sects]

/-! ### Rows of assertions -/
theorem each_out {A : Value → List UInt8 → Assn} {vs : List Value} {xs : List (List UInt8)} {k : Nat} {v : Value} {x : List UInt8} (h : H (Star (List.zipWith A vs xs) :: m) σ) (hv : vs[k]? = some v) (hx : xs[k]? = some x) :
    H (A v x :: Star ((List.zipWith A vs xs).set k emp) :: m) σ := by
  have e : (List.zipWith A vs xs)[k]? = some (A v x) := by simp [List.getElem?_zipWith, hv, hx]
  rw [Star_take _ k, H_sep] at h
  simpa only [List.getD, e, Option.getD_some] using h
theorem zip_set {A : Value → List UInt8 → Assn} : ∀ (vs : List Value) (xs : List (List UInt8)) (k : Nat) (v : Value) (x : List UInt8), List.zipWith A (vs.set k v) (xs.set k x) = (List.zipWith A vs xs).set k (A v x)
  | [], _, _, _, _ => by simp
  | _ :: _, [], _, _, _ => by simp
  | _ :: vs, _ :: xs, 0, _, _ => by simp
  | _ :: vs, _ :: xs, k + 1, v, x => by simp [zip_set vs xs k v x]
theorem each_in {A : Value → List UInt8 → Assn} {vs : List Value} {xs : List (List UInt8)} {k : Nat} {v : Value} {x : List UInt8} (h1 : k < vs.length) (h2 : k < xs.length) (h : H (A v x :: Star ((List.zipWith A vs xs).set k emp) :: m) σ) :
    H (Star (List.zipWith A (vs.set k v) (xs.set k x)) :: m) σ := by
  rw [zip_set, Star_set _ _ _ (by simp; omega), H_sep]
  exact h
theorem each_mono {A B : Value → List UInt8 → Assn} (hAB : ∀ v x r, A v x r → B v x r) : ∀ (vs : List Value) (xs : List (List UInt8)) (r : Res), Star (List.zipWith A vs xs) r → Star (List.zipWith B vs xs) r
  | [], _, _, h => by simpa using h
  | _ :: _, [], _, h => by simpa using h
  | v :: vs, x :: xs, r, h => by
    simp only [List.zipWith_cons_cons, Star] at h ⊢
    obtain ⟨a, b, j, p, q⟩ := h
    exact ⟨a, b, j, hAB _ _ _ p, each_mono hAB vs xs b q⟩

theorem each_mono_set {A B : Value → List UInt8 → Assn} (hAB : ∀ v x r, A v x r → B v x r) : ∀ (vs : List Value) (xs : List (List UInt8)) (k : Nat) (r : Res), Star ((List.zipWith A vs xs).set k emp) r → Star ((List.zipWith B vs xs).set k emp) r
  | [], _, _, _, h => by simpa using h
  | _ :: _, [], _, _, h => by simpa using h
  | v :: vs, x :: xs, 0, r, h => by
    simp only [List.zipWith_cons_cons, List.set_cons_zero, Star] at h ⊢
    obtain ⟨a, b, j, p, q⟩ := h
    exact ⟨a, b, j, p, each_mono hAB vs xs b q⟩
  | v :: vs, x :: xs, k + 1, r, h => by
    simp only [List.zipWith_cons_cons, List.set_cons_succ, Star] at h ⊢
    obtain ⟨a, b, j, p, q⟩ := h
    exact ⟨a, b, j, hAB _ _ _ p, each_mono_set hAB vs xs k b q⟩

/-- What a sector may be: the last of a row is x. -/
def MayA (N : Nat) (v : Value) (x : List UInt8) : Assn := ex fun p : List Value × Value => sep (pure' (p.1.length ≤ N)) (sep (Own 23 1 v (p.1.length + 1) (p.1 ++ [p.2])) (RoB p.2 x))
theorem may_mono {N N' : Nat} (hN : N ≤ N') (v : Value) (x : List UInt8) (r : Res) : MayA N v x r → MayA N' v x r := by
  rintro ⟨p, a, b, j, ⟨rfl, h1⟩, h2⟩
  exact ⟨p, _, b, j, ⟨rfl, by omega⟩, h2⟩
theorem may_out {N : Nat} {v : Value} {x : List UInt8} (h : H (MayA N v x :: m) σ) : ∃ (pre : List Value) (sv : Value), pre.length ≤ N ∧ H (Own 23 1 v (pre.length + 1) (pre ++ [sv]) :: RoB sv x :: m) σ := by
  obtain ⟨p, h⟩ := H_ex.1 h
  rw [H_sep] at h
  obtain ⟨h1, h⟩ := H_pure.1 h
  rw [H_sep] at h
  exact ⟨_, _, h1, h⟩
theorem may_in {N n : Nat} {v sv : Value} {x : List UInt8} {pre : List Value} (hn : n = pre.length + 1) (h1 : pre.length ≤ N) (h : H (Own 23 1 v n (pre ++ [sv]) :: RoB sv x :: m) σ) : H (MayA N v x :: m) σ :=
  H_ex.2 ⟨(pre, sv), by rw [H_sep]; exact H_pure.2 ⟨h1, by rw [H_sep, ← hn]; exact h⟩⟩

/-! ### Bytes that are owned stay as they are from now on -/
theorem own_freeze {v : Value} {n : Nat} {x : List UInt8} (hn : 0 < n) (h : H (Own 5 1 v n (bv x) :: m) σ) : ∃ b c, v = .slice (some ⟨b, 0, none⟩) n c ∧ CapOk 1 n c ∧
    ∀ o k c', CapOk 1 k c' → o + k ≤ n → H (RoB (.slice (some ⟨b, o, none⟩) k c') ((x.drop o).take k) :: m) σ := by
  rcases H_own.1 h with ⟨⟨rfl, _⟩, _⟩ | ⟨b, c, opn, rest, hp, hx, hr, rfl, hn2, ho⟩
  · omega
  · refine ⟨b, c, rfl, ⟨hn2, by rcases ho with ⟨_, _, x⟩ | x; exact .inr x; exact .inl x⟩, fun o k c' hc hk => ?_⟩
    have hxl : x.length = n := by simpa using hx
    have hl : ((x.drop o).take k).length = k := by simp; omega
    have := rob_in (b := b) (o := o) (cap := c') (x := (x.drop o).take k) (c := bv x ++ rest) (e := 5) (opn := opn) (by rw [hl]; exact hc) (by
      rw [hl, List.drop_append_of_le_length (by simp; omega), List.take_append_of_le_length (by simp; omega)]; simp) (by rw [hl]; simp; omega) hp.freeze0
    rw [hl] at this
    exact this

/-! ### Plain disks -/
theorem write_plain {D : DM} {n a : Nat} {bs : List UInt8} (hD : D.Ok n) (ho : D.off = false) (hf : D.fuse = 0) (ha : a < n) (hb : bs.length = 256) : D.write a bs = (D.fling a bs, 0) := by
  have hr := ready_in hD ha
  rw [ho] at hr
  simp at hr
  simp [DM.write, hr, hb, DM.burn, hf]
theorem barrier_plain {D : DM} {n : Nat} (hD : D.Ok n) (ho : D.off = false) (hf : D.fuse = 0) : D.barrier = (D.land, 0) := by
  have hr := ready_in hD (a := 0) hD.lo
  rw [ho] at hr
  simp at hr
  simp [DM.barrier, hr, DM.burn, hf]
theorem fling_Ok {D : DM} {n a : Nat} {bs : List UInt8} (hD : D.Ok n) (ha : a < n) (hb : bs.length = 256) : (D.fling a bs).Ok n :=
  ⟨hD.lo, hD.hi, hD.len, fun f hf => by
    simp only [DM.fling, List.mem_append] at hf
    rcases hf with hf | hf
    · exact hD.fly f hf
    · exact parts_Ok ha hb f hf⟩
theorem crash_Ok {D : DM} {n : Nat} (hD : D.Ok n) (picks : List UInt8) : (D.crash picks).Ok n := ⟨hD.lo, hD.hi, crashed_length _ _ _ _ hD.len hD.fly, fun f hf => by simp [DM.crash] at hf⟩
theorem block_still {D : DM} (a : Nat) (h : D.fly = []) : D.block a = (D.last.drop (a * 256)).take 256 := by simp [DM.block, h, over]
theorem block_sect {L : List UInt8} {s : Nat} : ((((L.drop (s / 4 * 256)).take 256).drop (64 * (s % 4))).take 64) = sect L s := by
  rw [List.drop_take, List.take_take, List.drop_drop, Nat.min_eq_left (by omega)]
  unfold sect
  congr 2
  omega
end Go.Ax.YtfeamgocomlepaaC
