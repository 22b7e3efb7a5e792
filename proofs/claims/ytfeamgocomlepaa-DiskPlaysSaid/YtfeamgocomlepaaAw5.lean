/- Rules for slices: parts, append, copy, make. No statement of the seat is proved here. -/
import Derived.Test.YtfeamgocomlepaaAw4
namespace Go.Ax
open Go.RowKit

theorem H.map0 {A B : Assn} {l : List Assn} {σ : AHeap} (h : H (A :: l) σ) (k : ∀ r, A r → B r) : H (B :: l) σ := by
  obtain ⟨r, h, a, b, j, x, y⟩ := h; exact ⟨r, h, a, b, j, k a x, y⟩

/-! ### Parts of slices -/
/-- At least n elements' room, of z cells each. -/
def CapOk (z n c : Nat) : Prop := n ≤ known c ∧ (c < OPEN ∨ c / OPEN = z)
theorem CapOk.exact {z n : Nat} (h : n < OPEN) : CapOk z n n := ⟨by rw [known_lt h]; exact Nat.le_refl _, .inl h⟩
theorem CapOk.open' {z n : Nat} (h : n < OPEN) : CapOk z n (OPEN * z + n) := by
  refine ⟨?_, .inr ?_⟩
  · unfold known; rw [Nat.mul_add_mod, Nat.mod_eq_of_lt h]; exact Nat.le_refl _
  · rw [Nat.mul_add_div (by unfold OPEN; omega), Nat.div_eq_of_lt h, Nat.add_zero]

theorem bnd_int {k : IntKind} {i : Int} {y : Nat} (h : 0 ≤ i ∧ i ≤ y) : bnd (.int k i) y = some i.toNat := by simp only [bnd, if_pos h]

theorem known_sub {c l : Nat} (h : l ≤ known c) : known (c - l) = known c - l ∧ (OPEN ≤ c → (c - l) / OPEN = c / OPEN ∧ OPEN ≤ c - l) := by
  unfold known at *; unfold OPEN at *; omega

theorem slice_mid {z b o n c : Nat} {lo hi : Int} {k k' : IntKind} (hc : CapOk z n c) (h : 0 ≤ lo ∧ lo < hi ∧ hi ≤ n) :
    ∃ c', aSlice z (.slice (some ⟨b, o, none⟩) n c) (some (.int k lo)) (some (.int k' hi)) none = some (.slice (some ⟨b, o + lo.toNat * z, none⟩) (hi.toNat - lo.toNat) c') ∧ CapOk z (hi.toNat - lo.toNat) c' := by
  obtain ⟨h1, h2⟩ := hc
  have hks := known_sub (c := c) (l := lo.toNat) (by omega)
  refine ⟨c - lo.toNat, ?_, ?_, ?_⟩
  · simp only [aSlice, bndO]
    rw [bnd_int (y := known c) (by omega)]
    simp only [Option.bind_some]
    rw [bnd_int (by omega)]
    simp only [Option.bind_some]
    rcases Nat.lt_or_ge c OPEN with hlt | hge
    · have := known_lt hlt
      rw [if_pos hlt, if_pos (by omega), if_neg (by omega)]
      simp [add_mk]
    · have : ¬ c < OPEN := by omega
      rw [if_neg this, if_pos ⟨by omega, h2.resolve_left this⟩]
      simp [add_mk]
  · omega
  · rcases h2 with h2 | h2
    · left; omega
    · rcases Nat.lt_or_ge c OPEN with hlt | hge
      · left; omega
      · right; rw [(hks.2 hge).1]; exact h2
theorem slice_from {z b o n c : Nat} {lo : Int} {k : IntKind} (hc : CapOk z n c) (h : 0 ≤ lo ∧ lo < n) :
    ∃ c', aSlice z (.slice (some ⟨b, o, none⟩) n c) (some (.int k lo)) none none = some (.slice (some ⟨b, o + lo.toNat * z, none⟩) (n - lo.toNat) c') ∧ CapOk z (n - lo.toNat) c' := by
  obtain ⟨h1, h2⟩ := hc
  have hks := known_sub (c := c) (l := lo.toNat) (by omega)
  refine ⟨c - lo.toNat, ?_, ?_, ?_⟩
  · simp only [aSlice, bndO]
    simp only [Option.bind_some]
    rw [bnd_int (by omega)]
    simp only [Option.bind_some]
    rcases Nat.lt_or_ge c OPEN with hlt | hge
    · have := known_lt hlt
      rw [if_pos hlt, if_pos (by omega), if_neg (by omega)]
      simp [add_mk]
    · have : ¬ c < OPEN := by omega
      rw [if_neg this, if_pos ⟨by omega, h2.resolve_left this⟩]
      simp [add_mk]
  · omega
  · rcases h2 with h2 | h2
    · left; omega
    · rcases Nat.lt_or_ge c OPEN with hlt | hge
      · left; omega
      · right; rw [(hks.2 hge).1]; exact h2
theorem slice_to {z b o n c : Nat} {hi : Int} {k : IntKind} (hc : CapOk z n c) (hn : 0 < n) (h : 0 ≤ hi ∧ hi ≤ n) :
    ∃ c', aSlice z (.slice (some ⟨b, o, none⟩) n c) none (some (.int k hi)) none = some (.slice (some ⟨b, o, none⟩) hi.toNat c') ∧ CapOk z hi.toNat c' := by
  obtain ⟨h1, h2⟩ := hc
  refine ⟨c, ?_, by omega, h2⟩
  simp only [aSlice, bndO]
  rw [bnd_int (y := known c) (by omega)]
  simp only [Option.bind_some]
  rcases Nat.lt_or_ge c OPEN with hlt | hge
  · have := known_lt hlt
    rw [if_pos hlt, if_pos (by omega), if_neg (by omega)]
    simp [add_mk]
  · have : ¬ c < OPEN := by omega
    rw [if_neg this, if_pos ⟨by omega, h2.resolve_left this⟩]
    simp [add_mk]
theorem slice_3 {z b o n c : Nat} {lo hi mx : Int} {k k' k'' : IntKind} (hc : CapOk z n c) (h : 0 ≤ lo ∧ lo ≤ hi ∧ hi ≤ mx ∧ mx ≤ n ∧ lo < mx) :
    aSlice z (.slice (some ⟨b, o, none⟩) n c) (some (.int k lo)) (some (.int k' hi)) (some (.int k'' mx)) = some (.slice (some ⟨b, o + lo.toNat * z, none⟩) (hi.toNat - lo.toNat) (mx.toNat - lo.toNat)) := by
  obtain ⟨h1, h2⟩ := hc
  simp only [aSlice, bndO]
  rw [bnd_int (y := known c) (by omega)]
  simp only [Option.bind_some]
  rw [bnd_int (by omega)]
  simp only [Option.bind_some]
  rw [bnd_int (by omega)]
  simp only [Option.bind_some]
  rw [if_neg (by omega)]
  simp [add_mk]

/-! ### What a slice reads -/
theorem src_row {σ : AHeap} {z b o n cap : Nat} {c : List Value} (h : σ.row b = some c) (hn : o + n * z ≤ c.length) : srcOf z (.slice (some ⟨b, o, none⟩) n cap) σ = some (n, (c.drop o).take (n * z)) := by
  simp only [srcOf]
  cases hz : n * z with
  | zero => simp [seg]
  | succ m =>
    have hb : o + (m + 1) ≤ c.length := by omega
    simp [seg, h, hb]
theorem src_nil (σ : AHeap) (z c : Nat) : srcOf z (.slice none 0 c) σ = some (0, []) := rfl
theorem src_zero (σ : AHeap) (z c : Nat) (a : Addr) : srcOf z (.slice (some a) 0 c) σ = some (0, []) := by simp [srcOf, seg]
theorem src_str (σ : AHeap) (s : ByteArray) : srcOf 1 (.string s) σ = some (s.size, s.data.toList.map by8) := rfl

/-! ### A slice that owns its row -/
def Own (e z : Nat) (v : Value) (n : Nat) (xs : List Value) : Assn := fun r =>
  (r = Res.emp ∧ n = 0 ∧ xs = [] ∧ (v = .slice none 0 0 ∨ v = .slice (some ⟨ZB, 0, some 0⟩) 0 0)) ∨
  (∃ b c opn rest, pt b (.cells (xs ++ rest) e opn) r ∧ xs.length = n * z ∧ rest.length = (known c - n) * z ∧ v = .slice (some ⟨b, 0, none⟩) n c ∧ n ≤ known c ∧ ((opn = true ∧ OPEN ≤ c ∧ c / OPEN = z) ∨ c < OPEN))

theorem H_own {e z n : Nat} {v : Value} {xs : List Value} {l : List Assn} {σ : AHeap} : H (Own e z v n xs :: l) σ ↔
    ((n = 0 ∧ xs = [] ∧ (v = .slice none 0 0 ∨ v = .slice (some ⟨ZB, 0, some 0⟩) 0 0)) ∧ H l σ) ∨
    (∃ b c opn rest, H (pt b (.cells (xs ++ rest) e opn) :: l) σ ∧ xs.length = n * z ∧ rest.length = (known c - n) * z ∧ v = .slice (some ⟨b, 0, none⟩) n c ∧ n ≤ known c ∧ ((opn = true ∧ OPEN ≤ c ∧ c / OPEN = z) ∨ c < OPEN)) := by
  constructor
  · rintro ⟨r, h, a, k, j, x | ⟨b, c, opn, rest, x, y⟩, hk⟩
    · obtain ⟨rfl, x⟩ := x
      exact .inl ⟨x, r, h, by rw [j.emp_eq]; exact hk⟩
    · exact .inr ⟨b, c, opn, rest, ⟨r, h, a, k, j, x, hk⟩, y⟩
  · rintro (⟨x, r, h, hk⟩ | ⟨b, c, opn, rest, ⟨r, h, a, k, j, x, hk⟩, y⟩)
    · exact ⟨r, h, _, r, Res.Join.emp_left r, .inl ⟨rfl, x⟩, hk⟩
    · exact ⟨r, h, a, k, j, .inr ⟨b, c, opn, rest, x, y⟩, hk⟩

theorem H.own_nil {l : List Assn} {σ : AHeap} (h : H l σ) (e z : Nat) : H (l ++ [Own e z (.slice none 0 0) 0 []]) σ := H.snoc (H_own.2 (.inl ⟨⟨rfl, rfl, .inl rfl⟩, h⟩))
theorem H.own_zb {l : List Assn} {σ : AHeap} (h : H l σ) (e z : Nat) : H (l ++ [Own e z (.slice (some ⟨ZB, 0, some 0⟩) 0 0) 0 []]) σ := H.snoc (H_own.2 (.inl ⟨⟨rfl, rfl, .inr rfl⟩, h⟩))
/-- Of an own slice: its length, what it reads. -/
theorem H.own_src {l : List Assn} {σ : AHeap} (h : H l σ) (i : Nat) {e z n : Nat} {v : Value} {xs : List Value} (hi : l[i]? = some (Own e z v n xs)) :
    srcOf z v σ = some (n, xs) ∧ xs.length = n * z ∧ ∃ a c, v = .slice a n c := by
  rcases H_own.1 (h.front i hi) with ⟨⟨rfl, rfl, rfl | rfl⟩, h⟩ | ⟨b, c, opn, rest, h, hx, hr, rfl, hn, ho⟩
  · exact ⟨rfl, by simp, _, _, rfl⟩
  · exact ⟨src_zero _ _ _ _, by simp, _, _, rfl⟩
  · refine ⟨?_, hx, _, _, rfl⟩
    rw [src_row (row_cells h.get0.1) (by simp; omega)]
    simp [← hx]

theorem H.drop0 {A : Assn} {l : List Assn} {σ : AHeap} (h : H (A :: l) σ) : H l σ := h.tail

theorem poke_ok {l : List Assn} {σ : AHeap} {b o : Nat} {c ys : List Value} {e : TypeId} {opn : Bool} (h : H (pt b (.cells c e opn) :: l) σ) (hv : ys.all one = true) (ho : o + ys.length ≤ c.length) :
    ∃ σ', aPoke ⟨b, o, none⟩ ys σ = some σ' ∧ H (pt b (.cells (splice c o ys) e opn) :: l) σ' := by
  cases ys with
  | nil => exact ⟨σ, rfl, by simpa [splice] using h⟩
  | cons y ys =>
    refine ⟨_, ?_, h.set0 _⟩
    simp only [aPoke, h.get0.1]
    have hv' : ((y :: ys).all Value.oneCell' && Nat.ble (o + (y :: ys).length) c.length) = true := by
      rw [Nat.ble_eq_true_of_le ho, Bool.and_true]; exact hv
    rw [hv']; rfl

theorem splice_mid (xs rest ys : List Value) (o : Nat) (h : o = xs.length) (hr : ys.length ≤ rest.length) : splice (xs ++ rest) o ys = xs ++ ys ++ rest.drop ys.length := by
  subst h
  simp [splice, List.drop_append]

theorem append_own {l : List Assn} {σ : AHeap} (h : H l σ) (i : Nat) {e z by' n m : Nat} {v x : Value} {xs ys : List Value} {k : Value × AHeap → Prop} (hi : l[i]? = some (Own e z v n xs)) (hs : srcOf z x σ = some (m, ys)) (hz : 0 < z)
    (hb : (n + m) * by' ≤ 140737488355328 ∧ n + m ≤ 140737488355328) (hone : ys.all one = true) (hk : ∀ v' σ', H (l.set i (Own e z v' (n + m) (xs ++ ys))) σ' → k (v', σ')) : pu (aAppend e z by' v x σ) k := by
  have hlen : ys.length = m * z := srcOf_len hs
  have hN : n + m < OPEN := by unfold OPEN; omega
  -- a new block in its place
  have new : ∀ (a : Option Addr) (c : Nat) (σ2 : AHeap), v = .slice a n c → ¬ n + m ≤ known c → oldOf z a n σ = some xs → xs.length = n * z → H (l.set i emp) σ2 → σ2.size = σ.size →
      (aAppendN e z by' v m ys σ = some (.slice (some ⟨σ.size, 0, none⟩) (n + m) (OPEN * z + (n + m)), σ2.push (.cells (xs ++ ys) e true))) → pu (aAppend e z by' v x σ) k := by
    intro a c σ2 hv hc hold hxl h2 hsz he
    unfold aAppend
    rw [hs]
    simp only [Option.bind_some, he, pu_some]
    refine hk _ _ (H.back i hi ?_)
    have := (h2.push (.cells (xs ++ ys) e true)).unsnoc
    rw [hsz] at this
    refine H_own.2 (.inr ⟨_, _, true, [], by simpa using this, by simp [hlen, hxl, Nat.add_mul], ?_, rfl, ?_, .inl ⟨rfl, ?_, ?_⟩⟩)
    · have : known (OPEN * z + (n + m)) = n + m := by unfold known; rw [Nat.mul_add_mod, Nat.mod_eq_of_lt hN]
      rw [this]; simp
    · exact (CapOk.open' (z := z) hN).1
    · have : OPEN * 1 ≤ OPEN * z := Nat.mul_le_mul_left _ hz
      omega
    · exact (CapOk.open' (z := z) hN).2.resolve_left (by have : OPEN * 1 ≤ OPEN * z := Nat.mul_le_mul_left _ hz
                                                         omega)
  have hf := h.front i hi
  rcases H_own.1 hf with ⟨⟨rfl, rfl, hv⟩, h2⟩ | ⟨b, c, opn, rest, h2, hx, hr, rfl, hn, ho⟩
  · rcases Nat.eq_zero_or_pos m with rfl | hm
    · have hys : ys = [] := List.length_eq_zero_iff.1 (by simpa using hlen)
      subst hys
      have he : aAppend e z by' v x σ = some (v, σ) := by
        unfold aAppend; rw [hs]
        rcases hv with rfl | rfl <;> simp [aAppendN, known, aPoke]
      rw [he, pu_some]
      refine hk _ _ (H.back i hi (H_own.2 (.inl ⟨⟨rfl, rfl, hv⟩, h2⟩)))
    · rcases hv with rfl | rfl
      · refine new none 0 σ rfl (by simp [known]; omega) rfl (by simp) h2 rfl ?_
        simp only [aAppendN]
        rw [if_neg (by simp [known]; omega), if_pos ⟨by omega, by omega, hz⟩]
        simp [oldOf, OPEN]
      · refine new (some ⟨ZB, 0, some 0⟩) 0 σ rfl (by simp [known]; omega) (by simp [oldOf, seg]) (by simp) h2 rfl ?_
        simp only [aAppendN]
        rw [if_neg (by simp [known]; omega), if_pos ⟨by omega, by omega, hz⟩]
        simp [oldOf, OPEN, seg]
  · by_cases hroom : n + m ≤ known c
    · obtain ⟨σ', hp, h3⟩ := poke_ok (o := n * z) (ys := ys) h2 hone (by
        rw [List.length_append, hx, hr, hlen]
        have : n * z + (known c - n) * z = known c * z := by rw [← Nat.add_mul]; congr 1; omega
        have h4 : (n + m) * z ≤ known c * z := Nat.mul_le_mul_right _ hroom
        rw [Nat.add_mul] at h4; omega)
      have he : aAppend e z by' (.slice (some ⟨b, 0, none⟩) n c) x σ = some (.slice (some ⟨b, 0, none⟩) (n + m) c, σ') := by
        unfold aAppend; rw [hs]
        simp only [Option.bind_some, aAppendN]
        rw [if_pos hroom, add_mk, Nat.zero_add, hp]; rfl
      rw [he, pu_some]
      have hfit : ys.length ≤ rest.length := by rw [hlen, hr]; exact Nat.mul_le_mul_right _ (by omega)
      rw [splice_mid xs rest ys (n * z) hx.symm hfit] at h3
      refine hk _ _ (H.back i hi (H_own.2 (.inr ⟨b, c, opn, rest.drop ys.length, h3, ?_, ?_, rfl, hroom, ho⟩)))
      · rw [List.length_append, hx, hlen, Nat.add_mul]
      · rw [List.length_drop, hr, hlen, ← Nat.sub_mul]; congr 1; omega
    · have hold : oldOf z (some ⟨b, 0, none⟩) n σ = some xs := by
        simp only [oldOf]
        have := (h.own_src i hi).1
        simp only [srcOf, Option.map_eq_some_iff] at this
        obtain ⟨l0, h1, h4⟩ := this
        rw [h1]; cases h4; rfl
      rcases ho with ⟨rfl, hc1, hc2⟩ | hc
      · refine new (some ⟨b, 0, none⟩) c (σ.set b .dead) rfl hroom hold hx (h2.set0 .dead).tail rfl ?_
        simp only [aAppendN]
        rw [if_neg hroom, if_pos ⟨by omega, by omega, hz⟩, hold]
        simp only [Option.bind_some]
        rw [if_neg (by omega), h2.get0.1]
        simp only
        rw [if_pos ⟨trivial, hc2, hone, trivial⟩]
      · refine new (some ⟨b, 0, none⟩) c σ rfl hroom hold hx h2.tail rfl ?_
        simp only [aAppendN]
        rw [if_neg hroom, if_pos ⟨by omega, by omega, hz⟩, hold]
        simp only [Option.bind_some]
        rw [if_pos hc]

theorem copy_ok {l : List Assn} {σ : AHeap} (h : H l σ) (i : Nat) {z b o dl dc xl xc m : Nat} {xb : Option Addr} {c ys : List Value} {e : TypeId} {opn : Bool} {k : Value × AHeap → Prop} (hi : l[i]? = some (pt b (.cells c e opn)))
    (hs : srcOf z (.slice xb (Nat.min xl dl) xc) σ = some (m, ys)) (hone : ys.all one = true) (hl : o + ys.length ≤ c.length)
    (hk : ∀ σ', H (l.set i (pt b (.cells (splice c o ys) e opn))) σ' → k (.int .i64 m, σ')) : pu (aCopy z (.slice (some ⟨b, o, none⟩) dl dc) (.slice xb xl xc) σ) k := by
  obtain ⟨σ', hp, h3⟩ := poke_ok (h.front i hi) hone hl
  have he : aCopy z (.slice (some ⟨b, o, none⟩) dl dc) (.slice xb xl xc) σ = some (.int .i64 m, σ') := by
    simp only [aCopy, hs, Option.bind_some, hp, Option.map_some]
  rw [he, pu_some]
  exact hk _ (H.back i hi h3)

theorem reps_one (n : Nat) (v : Value) : reps n [v] = List.replicate n v := by
  induction n with
  | zero => rfl
  | succ n ih => simp [reps, ih, List.replicate_succ]
theorem make_ok {l : List Assn} {σ : AHeap} (h : H l σ) {e by' : Nat} {zc : List Value} {n c : Int} {k1 k2 : IntKind} {k : Value × AHeap → Prop} (hn : 0 ≤ n ∧ n ≤ c ∧ c * by' ≤ 140737488355328 ∧ c ≤ 140737488355328)
    (hk : ∀ b σ', H (l ++ [pt b (.cells (reps c.toNat zc) e false)]) σ' → k (.slice (some ⟨b, 0, none⟩) n.toNat c.toNat, σ')) : pu (aMake e by' zc (.int k1 n) (.int k2 c) σ) k := by
  have he : aMake e by' zc (.int k1 n) (.int k2 c) σ = some (.slice (some ⟨σ.size, 0, none⟩) n.toNat c.toNat, σ.push (.cells (reps c.toNat zc) e false)) := by
    simp only [aMake, if_pos hn]
  rw [he, pu_some]
  exact hk _ _ (h.push _)
theorem buildS_ok {l : List Assn} {σ : AHeap} (h : H l σ) {e z len : Nat} {zc cs : List Value} {parts : List (Nat × Value)} {k : Value × AHeap → Prop} (hc : (Nat.ble (len * z) 16777216 && Nat.blt 0 z) = true)
    (hf : aFill (fun k => some (k * z, z)) (reps len zc) parts = some cs)
    (hk : ∀ b σ', H (l ++ [pt b (.cells cs e false)]) σ' → k (.slice (some ⟨b, 0, none⟩) len len, σ')) : pu (buildS e z len zc parts σ) k := by
  have he : buildS e z len zc parts σ = some (.slice (some ⟨σ.size, 0, none⟩) len len, σ.push (.cells cs e false)) := by
    simp only [buildS, hc, hf, cond_true, Option.map_some]
  rw [he, pu_some]
  exact hk _ _ (h.push _)

theorem bytesOf_bv (l : List UInt8) : bytesOf (bv l) = some l := by
  induction l with
  | nil => rfl
  | cons b l ih => simp [bytesOf, by8, ih]
theorem bytesStr_src {σ : AHeap} {a : Option Addr} {n c : Nat} {l : List UInt8} (h : srcOf 1 (.slice a n c) σ = some (n, bv l)) : aBytesStr (.slice a n c) σ = some (.string ⟨l.toArray⟩) := by
  cases a with
  | none =>
    simp only [srcOf] at h
    split at h
    · simp only [Option.some.injEq, Prod.mk.injEq] at h
      have : l = [] := by have := congrArg List.length h.2; simpa using this.symm
      subst this; rfl
    · cases h
  | some a =>
    simp only [srcOf, Option.map_eq_some_iff, Nat.mul_one] at h
    obtain ⟨l0, h1, h2⟩ := h
    cases h2
    simp only [aBytesStr, h1, Option.bind_some, bytesOf_bv, Option.map_some]

/-! ### Own slices: parts, elements, what is copied into them -/
theorem H.own_form {l : List Assn} {σ : AHeap} (h : H l σ) (i : Nat) {e z n : Nat} {v : Value} {xs : List Value} (hi : l[i]? = some (Own e z v n xs)) (hn : 0 < n) :
    ∃ b c, v = .slice (some ⟨b, 0, none⟩) n c ∧ CapOk z n c ∧ ∃ rest, σ.row b = some (xs ++ rest) := by
  rcases H_own.1 (h.front i hi) with ⟨⟨rfl, rfl, rfl | rfl⟩, h⟩ | ⟨b, c, opn, rest, h, hx, hr, rfl, hn, ho⟩
  · omega
  · omega
  · exact ⟨b, c, rfl, ⟨hn, by rcases ho with ⟨_, _, x⟩ | x; exact .inr x; exact .inl x⟩, rest, row_cells h.get0.1⟩

theorem take_drop_append (xs rest : List Value) (a z : Nat) (h : a + z ≤ xs.length) : ((xs ++ rest).drop a).take z = (xs.drop a).take z := by
  rw [List.drop_append_of_le_length (by omega), List.take_append_of_le_length (by simp; omega)]

/-- An element of an own slice: where it stands, and that it is read there. -/
theorem H.own_elem {l : List Assn} {σ : AHeap} (h : H l σ) (i : Nat) {e z n : Nat} {v : Value} {xs : List Value} (hi : l[i]? = some (Own e z v n xs)) {k : Nat} (hk : k < n) :
    ∃ b, (∀ kd, aIndexAddr z v (.int kd k) = some (.pointer (some ⟨b, k * z, none⟩))) ∧ aLoad true z (.pointer (some ⟨b, k * z, none⟩)) σ = some (.agg ((xs.drop (k * z)).take z).toArray) ∧
      ∀ m j, j < z → aLoad false m (.pointer (some ⟨b, k * z + j, none⟩)) σ = xs[k * z + j]? := by
  obtain ⟨b, c, rfl, hc, rest, hrow⟩ := h.own_form i hi (by omega)
  have hx := (h.own_src i hi).2.1
  have hkz : k * z + z ≤ n * z := by rw [← Nat.succ_mul]; exact Nat.mul_le_mul_right _ hk
  refine ⟨b, fun kd => ?_, ?_, fun m j hj => ?_⟩
  · rw [idxA (by omega)]; simp
  · rw [loadN hrow (by simp; omega), take_drop_append _ _ _ _ (by omega)]
  · rw [load1 hrow, List.getElem?_append_left (by omega)]

theorem splice_append (xs rest ys : List Value) (o : Nat) (h : o + ys.length ≤ xs.length) : splice (xs ++ rest) o ys = splice xs o ys ++ rest := by
  unfold splice
  rw [List.take_append_of_le_length (by omega), List.drop_append_of_le_length (by omega)]
  simp

theorem copy_own {l : List Assn} {σ : AHeap} (h : H l σ) (i : Nat) {e z n b o c dl dc xl xc m : Nat} {xb : Option Addr} {xs ys : List Value} {k : Value × AHeap → Prop} (hi : l[i]? = some (Own e z (.slice (some ⟨b, 0, none⟩) n c) n xs)) (hn : 0 < n)
    (hs : srcOf z (.slice xb (Nat.min xl dl) xc) σ = some (m, ys)) (hone : ys.all one = true) (hl : o + ys.length ≤ xs.length)
    (hk : ∀ σ', H (l.set i (Own e z (.slice (some ⟨b, 0, none⟩) n c) n (splice xs o ys))) σ' → k (.int .i64 m, σ')) : pu (aCopy z (.slice (some ⟨b, o, none⟩) dl dc) (.slice xb xl xc) σ) k := by
  rcases H_own.1 (h.front i hi) with ⟨⟨rfl, rfl, _⟩, h⟩ | ⟨b', c', opn, rest, h1, hx, hr, hv, hn, ho⟩
  · omega
  · cases hv
    obtain ⟨σ', hp, h3⟩ := poke_ok (o := o) h1 hone (by simp; omega)
    have he : aCopy z (.slice (some ⟨b, o, none⟩) dl dc) (.slice xb xl xc) σ = some (.int .i64 m, σ') := by
      simp only [aCopy, hs, Option.bind_some, hp, Option.map_some]
    rw [he, pu_some]
    rw [splice_append _ _ _ _ hl] at h3
    exact hk _ (H.back i hi (H_own.2 (.inr ⟨b, c, opn, rest, h3, by rw [splice_length _ _ _ hl]; exact hx, hr, rfl, hn, ho⟩)))
/-- An element's cell is written. -/
theorem store_own {l : List Assn} {σ : AHeap} (h : H l σ) (i : Nat) {e z n b o c : Nat} {w : Value} {xs : List Value} {k : AHeap → Prop} (hi : l[i]? = some (Own e z (.slice (some ⟨b, 0, none⟩) n c) n xs)) (hn : 0 < n) (hw : one w = true) (ho : o < xs.length)
    (hk : ∀ σ', H (l.set i (Own e z (.slice (some ⟨b, 0, none⟩) n c) n (xs.set o w))) σ' → k σ') : pu (aStore 1 (.pointer (some ⟨b, o, none⟩)) w σ) k := by
  rcases H_own.1 (h.front i hi) with ⟨⟨rfl, rfl, _⟩, h⟩ | ⟨b', c', opn, rest, h1, hx, hr, hv, hn, ho2⟩
  · omega
  · cases hv
    refine store1 h1 0 rfl hw (by simp; omega) ?_
    intro σ' h3
    simp only [List.set_cons_zero] at h3
    rw [List.set_append_left _ _ ho] at h3
    exact hk _ (H.back i hi (H_own.2 (.inr ⟨b, c, opn, rest, h3, by simpa using hx, hr, rfl, hn, ho2⟩)))

/-! ### Bytes that stay as they are -/
def RoB (v : Value) (x : List UInt8) : Assn := ex fun p : Nat × Nat × Nat × List Value × Nat × Bool =>
  sep (pure' (v = .slice (some ⟨p.1, p.2.1, none⟩) x.length p.2.2.1 ∧ CapOk 1 x.length p.2.2.1 ∧ (p.2.2.2.1.drop p.2.1).take x.length = bv x ∧ p.2.1 + x.length ≤ p.2.2.2.1.length)) (ro p.1 (.cells p.2.2.2.1 p.2.2.2.2.1 p.2.2.2.2.2))
theorem RoB.dup (v : Value) (x : List UInt8) : Dup (RoB v x) := Dup.ex fun _ => Dup.sep (Dup.pure _) (Dup.ro _ _)
theorem H.rob0 {v : Value} {x : List UInt8} {l : List Assn} {σ : AHeap} (h : H (RoB v x :: l) σ) :
    ∃ b o cap c, v = .slice (some ⟨b, o, none⟩) x.length cap ∧ CapOk 1 x.length cap ∧ σ.row b = some c ∧ (c.drop o).take x.length = bv x ∧ o + x.length ≤ c.length := by
  obtain ⟨p, h⟩ := H_ex.1 h
  rw [H_sep] at h
  obtain ⟨⟨h1, h2, h3, h4⟩, h⟩ := H_pure.1 h
  exact ⟨_, _, _, _, h1, h2, row_cells h.rget0.1, h3, h4⟩
theorem rob_src {σ : AHeap} {b o cap n : Nat} {c : List Value} {x : List UInt8} (hr : σ.row b = some c) (hx : (c.drop o).take x.length = bv x) (hl : o + x.length ≤ c.length) (hn : n ≤ x.length) :
    srcOf 1 (.slice (some ⟨b, o, none⟩) n cap) σ = some (n, bv (x.take n)) := by
  rw [src_row hr (by omega), Nat.mul_one, ← bv_take, ← hx, List.take_take, Nat.min_eq_left hn]
theorem H.rob {l : List Assn} {σ : AHeap} (h : H l σ) (i : Nat) {v : Value} {x : List UInt8} (hi : l[i]? = some (RoB v x)) :
    ∃ b o cap c, v = .slice (some ⟨b, o, none⟩) x.length cap ∧ CapOk 1 x.length cap ∧ σ.row b = some c ∧ (c.drop o).take x.length = bv x ∧ o + x.length ≤ c.length := (h.front i hi).rob0

/-! ### What stands beside, as one -/
theorem H_one {l : List Assn} {σ : AHeap} : H [Star l] σ ↔ H l σ := by rw [H_star, List.append_nil]
theorem H_app {l m : List Assn} {σ : AHeap} : H (l ++ m) σ ↔ H (Star l :: m) σ := H_star.symm
theorem H.out {l : List Assn} {σ : AHeap} {A : Assn} (h : H l σ) (i : Nat) (hi : l[i]? = some A) : H [A, Star (l.set i emp)] σ := by
  have := h.front i hi
  exact (H_star.2 (by simpa using this : H ([A] ++ l.set i emp) σ) : H (Star [A] :: l.set i emp) σ) |> fun _ => by
    have h2 : H (A :: l.set i emp) σ := this
    obtain ⟨r, h3, a, b, j, x, y⟩ := h2
    exact ⟨r, h3, a, b, j, x, by simp only [Star]; rw [sep_comm, emp_sep]; exact y⟩
theorem H.in' {l : List Assn} {σ : AHeap} {A B : Assn} (i : Nat) (hi : l[i]? = some A) (h : H [B, Star (l.set i emp)] σ) : H (l.set i B) σ := by
  refine H.back i hi ?_
  obtain ⟨r, h3, a, b, j, x, y⟩ := h
  refine ⟨r, h3, a, b, j, x, ?_⟩
  simp only [Star] at y
  rw [sep_comm, emp_sep] at y
  exact y
theorem H.to_own {l : List Assn} {σ : AHeap} (h : H l σ) (i : Nat) {b e z n : Nat} {xs : List Value} {opn : Bool} (hi : l[i]? = some (pt b (.cells xs e opn))) (hx : xs.length = n * z) (hn : n < OPEN) :
    H (l.set i (Own e z (.slice (some ⟨b, 0, none⟩) n n) n xs)) σ := by
  refine H.back i hi (H_own.2 (.inr ⟨b, n, opn, [], by simpa using h.front i hi, hx, ?_, rfl, ?_, .inr hn⟩))
  · rw [known_lt hn]; simp
  · rw [known_lt hn]; exact Nat.le_refl _
theorem H.emp_end {l : List Assn} {σ : AHeap} (h : H l σ) : H (l ++ [emp]) σ := H.snoc (H_emp.2 h)

/-! ### Bytes that can be read -/
structure Rd (σ : AHeap) (v : Value) (x : List UInt8) : Prop where
  src : srcOf 1 v σ = some (x.length, bv x)
  form : ∃ a c, v = .slice a x.length c
  elem : ∀ (k : Nat) (b : UInt8), x[k]? = some b → ∃ p, (∀ kd, aIndexAddr 1 v (.int kd k) = some (.pointer (some p))) ∧ aLoad false 1 (.pointer (some p)) σ = some (by8 b)
theorem Rd.nil (σ : AHeap) (c : Nat) : Rd σ (.slice none 0 c) [] := ⟨rfl, ⟨none, c, rfl⟩, fun k b h => by simp at h⟩
theorem rd_row {σ : AHeap} {b o cap : Nat} {c : List Value} {x : List UInt8} (hr : σ.row b = some c) (hx : (c.drop o).take x.length = bv x) (hl : o + x.length ≤ c.length) : Rd σ (.slice (some ⟨b, o, none⟩) x.length cap) x := by
  refine ⟨?_, ⟨_, _, rfl⟩, fun k y hk => ?_⟩
  · rw [rob_src hr hx hl (Nat.le_refl _), List.take_length]
  · have hlt := (List.getElem?_eq_some_iff.1 hk).1
    refine ⟨⟨b, o + k, none⟩, fun kd => by rw [idxA (by omega)]; simp, ?_⟩
    rw [load1 hr]
    have : ((c.drop o).take x.length)[k]? = (bv x)[k]? := by rw [hx]
    rw [List.getElem?_take, if_pos hlt, List.getElem?_drop, bv_get, hk] at this
    exact this
theorem H.own_rd {l : List Assn} {σ : AHeap} (h : H l σ) (i : Nat) {e n : Nat} {v : Value} {x : List UInt8} (hi : l[i]? = some (Own e 1 v n (bv x))) : Rd σ v x := by
  have h0 := h.own_src i hi
  obtain ⟨hs, hl, a, c, hv⟩ := h0
  have hn : x.length = n := by simpa using hl
  subst hn
  refine ⟨hs, ⟨a, c, hv⟩, fun k b hk => ?_⟩
  have hlt := (List.getElem?_eq_some_iff.1 hk).1
  obtain ⟨bb, e1, e2, e3⟩ := h.own_elem i hi hlt
  refine ⟨_, e1, ?_⟩
  have := e3 1 0 (by omega)
  simp only [Nat.mul_one, Nat.add_zero] at this
  rw [Nat.mul_one, this, bv_get, hk]; rfl
theorem H.rob_rd {l : List Assn} {σ : AHeap} (h : H l σ) (i : Nat) {v : Value} {x : List UInt8} (hi : l[i]? = some (RoB v x)) : Rd σ v x := by
  obtain ⟨b, o, cap, c, rfl, hc, hr, hx, hl⟩ := h.rob i hi
  exact rd_row hr hx hl
/-- Of what stands beside as one. -/
theorem H.beside {l m : List Assn} {σ : AHeap} (h : H l σ) (i : Nat) (hi : l[i]? = some (Star m)) : H m σ := by
  have := h.front i hi
  rw [H_star] at this
  exact this.left
theorem rob_in {l : List Assn} {σ : AHeap} {b o cap : Nat} {x : List UInt8} {c : List Value} {e : Nat} {opn : Bool} (hcap : CapOk 1 x.length cap) (hx : (c.drop o).take x.length = bv x) (hl : o + x.length ≤ c.length) (h : H (ro b (.cells c e opn) :: l) σ) :
    H (RoB (.slice (some ⟨b, o, none⟩) x.length cap) x :: l) σ := H_ex.2 ⟨(b, o, cap, c, e, opn), by rw [H_sep]; exact H_pure.2 ⟨⟨rfl, hcap, hx, hl⟩, h⟩⟩
end Go.Ax
