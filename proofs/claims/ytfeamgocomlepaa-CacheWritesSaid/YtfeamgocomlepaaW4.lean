/- Texts of one proof, joined. No statement of the seat is proved here. -/
import Derived.Test.YtfeamgocomlepaaW3
import Derived.Deep.Slices
import Derived.ChangeArms
import Derived.ChangeStays
import Derived.ReadAgain
import GoSem.ClaimJoined
import Derived.Test.YtfeamgocomlepaaProg
import Derived.Test.YtfeamgocomlepaaChecked
set_option linter.unusedVariables false
set_option linter.unusedSimpArgs false
set_option linter.unnecessarySimpa false
set_option linter.constructorNameAsVariable false
namespace Go.Ax
open Go.RowKit

theorem H.map0 {A B : Assn} {l : List Assn} {σ : AHeap} (h : H (A :: l) σ) (k : ∀ r, A r → B r) : H (B :: l) σ := by
  obtain ⟨r, h, a, b, j, x, y⟩ := h; exact ⟨r, h, a, b, j, k a x, y⟩

/-! ### Parts of slices -/
/-- At least n elements' room, of z cells each. -/
def CapOk (z n c : Nat) : Prop := n ≤ known c ∧ (c < OPEN ∨ c / OPEN = z)
theorem CapOk.exact {z n : Nat} (h : n < OPEN) : CapOk z n n := ⟨by rw [known_lt h]; exact Nat.le_refl _, .inl h⟩
theorem CapOk.open' {z n : Nat} (h : n < OPEN) : CapOk z n (OPEN * z + n) := by
  refine ⟨?_, .inr ?_⟩
  · unfold known; rw [Nat.mul_add_mod, Nat.mod_eq_of_lt h]; exact Nat.le_refl _
  · rw [Nat.mul_add_div (by unfold OPEN; omega), Nat.div_eq_of_lt h, Nat.add_zero]

theorem bnd_int {k : IntKind} {i : Int} {y : Nat} (h : 0 ≤ i ∧ i ≤ y) : bnd (.int k i) y = some i.toNat := by simp only [bnd, if_pos h]

theorem known_sub {c l : Nat} (h : l ≤ known c) : known (c - l) = known c - l ∧ (OPEN ≤ c → (c - l) / OPEN = c / OPEN ∧ OPEN ≤ c - l) := by
  unfold known at *; unfold OPEN at *; omega

theorem slice_mid {z b o n c : Nat} {lo hi : Int} {k k' : IntKind} (hc : CapOk z n c) (h : 0 ≤ lo ∧ lo < hi ∧ hi ≤ n) :
    ∃ c', aSlice z (.slice (some ⟨b, o, none⟩) n c) (some (.int k lo)) (some (.int k' hi)) none = some (.slice (some ⟨b, o + lo.toNat * z, none⟩) (hi.toNat - lo.toNat) c') ∧ CapOk z (hi.toNat - lo.toNat) c' := by
  obtain ⟨h1, h2⟩ := hc
  have hks := known_sub (c := c) (l := lo.toNat) (by omega)
  refine ⟨c - lo.toNat, ?_, ?_, ?_⟩
  · simp only [aSlice, bndO]
    rw [bnd_int (y := known c) (by omega)]
    simp only [Option.bind_some]
    rw [bnd_int (by omega)]
    simp only [Option.bind_some]
    rcases Nat.lt_or_ge c OPEN with hlt | hge
    · have := known_lt hlt
      rw [if_pos hlt, if_pos (by omega), if_neg (by omega)]
      simp [add_mk]
    · have : ¬ c < OPEN := by omega
      rw [if_neg this, if_pos ⟨by omega, h2.resolve_left this⟩]
      simp [add_mk]
  · omega
  · rcases h2 with h2 | h2
    · left; omega
    · rcases Nat.lt_or_ge c OPEN with hlt | hge
      · left; omega
      · right; rw [(hks.2 hge).1]; exact h2
theorem slice_from {z b o n c : Nat} {lo : Int} {k : IntKind} (hc : CapOk z n c) (h : 0 ≤ lo ∧ lo < n) :
    ∃ c', aSlice z (.slice (some ⟨b, o, none⟩) n c) (some (.int k lo)) none none = some (.slice (some ⟨b, o + lo.toNat * z, none⟩) (n - lo.toNat) c') ∧ CapOk z (n - lo.toNat) c' := by
  obtain ⟨h1, h2⟩ := hc
  have hks := known_sub (c := c) (l := lo.toNat) (by omega)
  refine ⟨c - lo.toNat, ?_, ?_, ?_⟩
  · simp only [aSlice, bndO]
    simp only [Option.bind_some]
    rw [bnd_int (by omega)]
    simp only [Option.bind_some]
    rcases Nat.lt_or_ge c OPEN with hlt | hge
    · have := known_lt hlt
      rw [if_pos hlt, if_pos (by omega), if_neg (by omega)]
      simp [add_mk]
    · have : ¬ c < OPEN := by omega
      rw [if_neg this, if_pos ⟨by omega, h2.resolve_left this⟩]
      simp [add_mk]
  · omega
  · rcases h2 with h2 | h2
    · left; omega
    · rcases Nat.lt_or_ge c OPEN with hlt | hge
      · left; omega
      · right; rw [(hks.2 hge).1]; exact h2
theorem slice_to {z b o n c : Nat} {hi : Int} {k : IntKind} (hc : CapOk z n c) (hn : 0 < n) (h : 0 ≤ hi ∧ hi ≤ n) :
    ∃ c', aSlice z (.slice (some ⟨b, o, none⟩) n c) none (some (.int k hi)) none = some (.slice (some ⟨b, o, none⟩) hi.toNat c') ∧ CapOk z hi.toNat c' := by
  obtain ⟨h1, h2⟩ := hc
  refine ⟨c, ?_, by omega, h2⟩
  simp only [aSlice, bndO]
  rw [bnd_int (y := known c) (by omega)]
  simp only [Option.bind_some]
  rcases Nat.lt_or_ge c OPEN with hlt | hge
  · have := known_lt hlt
    rw [if_pos hlt, if_pos (by omega), if_neg (by omega)]
    simp [add_mk]
  · have : ¬ c < OPEN := by omega
    rw [if_neg this, if_pos ⟨by omega, h2.resolve_left this⟩]
    simp [add_mk]
theorem slice_3 {z b o n c : Nat} {lo hi mx : Int} {k k' k'' : IntKind} (hc : CapOk z n c) (h : 0 ≤ lo ∧ lo ≤ hi ∧ hi ≤ mx ∧ mx ≤ n ∧ lo < mx) :
    aSlice z (.slice (some ⟨b, o, none⟩) n c) (some (.int k lo)) (some (.int k' hi)) (some (.int k'' mx)) = some (.slice (some ⟨b, o + lo.toNat * z, none⟩) (hi.toNat - lo.toNat) (mx.toNat - lo.toNat)) := by
  obtain ⟨h1, h2⟩ := hc
  simp only [aSlice, bndO]
  rw [bnd_int (y := known c) (by omega)]
  simp only [Option.bind_some]
  rw [bnd_int (by omega)]
  simp only [Option.bind_some]
  rw [bnd_int (by omega)]
  simp only [Option.bind_some]
  rw [if_neg (by omega)]
  simp [add_mk]

/-! ### What a slice reads -/
theorem src_row {σ : AHeap} {z b o n cap : Nat} {c : List Value} (h : σ.row b = some c) (hn : o + n * z ≤ c.length) : srcOf z (.slice (some ⟨b, o, none⟩) n cap) σ = some (n, (c.drop o).take (n * z)) := by
  simp only [srcOf]
  cases hz : n * z with
  | zero => simp [seg]
  | succ m =>
    have hb : o + (m + 1) ≤ c.length := by omega
    simp [seg, h, hb]
theorem src_nil (σ : AHeap) (z c : Nat) : srcOf z (.slice none 0 c) σ = some (0, []) := rfl
theorem src_zero (σ : AHeap) (z c : Nat) (a : Addr) : srcOf z (.slice (some a) 0 c) σ = some (0, []) := by simp [srcOf, seg]
theorem src_str (σ : AHeap) (s : ByteArray) : srcOf 1 (.string s) σ = some (s.size, s.data.toList.map by8) := rfl

/-! ### A slice that owns its row -/
def Own (e z : Nat) (v : Value) (n : Nat) (xs : List Value) : Assn := fun r =>
  (r = Res.emp ∧ n = 0 ∧ xs = [] ∧ (v = .slice none 0 0 ∨ v = .slice (some ⟨ZB, 0, some 0⟩) 0 0)) ∨
  (∃ b c opn rest, pt b (.cells (xs ++ rest) e opn) r ∧ xs.length = n * z ∧ rest.length = (known c - n) * z ∧ v = .slice (some ⟨b, 0, none⟩) n c ∧ n ≤ known c ∧ ((opn = true ∧ OPEN ≤ c ∧ c / OPEN = z) ∨ c < OPEN))

theorem H_own {e z n : Nat} {v : Value} {xs : List Value} {l : List Assn} {σ : AHeap} : H (Own e z v n xs :: l) σ ↔
    ((n = 0 ∧ xs = [] ∧ (v = .slice none 0 0 ∨ v = .slice (some ⟨ZB, 0, some 0⟩) 0 0)) ∧ H l σ) ∨
    (∃ b c opn rest, H (pt b (.cells (xs ++ rest) e opn) :: l) σ ∧ xs.length = n * z ∧ rest.length = (known c - n) * z ∧ v = .slice (some ⟨b, 0, none⟩) n c ∧ n ≤ known c ∧ ((opn = true ∧ OPEN ≤ c ∧ c / OPEN = z) ∨ c < OPEN)) := by
  constructor
  · rintro ⟨r, h, a, k, j, x | ⟨b, c, opn, rest, x, y⟩, hk⟩
    · obtain ⟨rfl, x⟩ := x
      exact .inl ⟨x, r, h, by rw [j.emp_eq]; exact hk⟩
    · exact .inr ⟨b, c, opn, rest, ⟨r, h, a, k, j, x, hk⟩, y⟩
  · rintro (⟨x, r, h, hk⟩ | ⟨b, c, opn, rest, ⟨r, h, a, k, j, x, hk⟩, y⟩)
    · exact ⟨r, h, _, r, Res.Join.emp_left r, .inl ⟨rfl, x⟩, hk⟩
    · exact ⟨r, h, a, k, j, .inr ⟨b, c, opn, rest, x, y⟩, hk⟩

theorem H.own_nil {l : List Assn} {σ : AHeap} (h : H l σ) (e z : Nat) : H (l ++ [Own e z (.slice none 0 0) 0 []]) σ := H.snoc (H_own.2 (.inl ⟨⟨rfl, rfl, .inl rfl⟩, h⟩))
theorem H.own_zb {l : List Assn} {σ : AHeap} (h : H l σ) (e z : Nat) : H (l ++ [Own e z (.slice (some ⟨ZB, 0, some 0⟩) 0 0) 0 []]) σ := H.snoc (H_own.2 (.inl ⟨⟨rfl, rfl, .inr rfl⟩, h⟩))
/-- Of an own slice: its length, what it reads. -/
theorem H.own_src {l : List Assn} {σ : AHeap} (h : H l σ) (i : Nat) {e z n : Nat} {v : Value} {xs : List Value} (hi : l[i]? = some (Own e z v n xs)) :
    srcOf z v σ = some (n, xs) ∧ xs.length = n * z ∧ ∃ a c, v = .slice a n c := by
  rcases H_own.1 (h.front i hi) with ⟨⟨rfl, rfl, rfl | rfl⟩, h⟩ | ⟨b, c, opn, rest, h, hx, hr, rfl, hn, ho⟩
  · exact ⟨rfl, by simp, _, _, rfl⟩
  · exact ⟨src_zero _ _ _ _, by simp, _, _, rfl⟩
  · refine ⟨?_, hx, _, _, rfl⟩
    rw [src_row (row_cells h.get0.1) (by simp; omega)]
    simp [← hx]

theorem H.drop0 {A : Assn} {l : List Assn} {σ : AHeap} (h : H (A :: l) σ) : H l σ := h.tail

theorem poke_ok {l : List Assn} {σ : AHeap} {b o : Nat} {c ys : List Value} {e : TypeId} {opn : Bool} (h : H (pt b (.cells c e opn) :: l) σ) (hv : ys.all one = true) (ho : o + ys.length ≤ c.length) :
    ∃ σ', aPoke ⟨b, o, none⟩ ys σ = some σ' ∧ H (pt b (.cells (splice c o ys) e opn) :: l) σ' := by
  cases ys with
  | nil => exact ⟨σ, rfl, by simpa [splice] using h⟩
  | cons y ys =>
    refine ⟨_, ?_, h.set0 _⟩
    simp only [aPoke, h.get0.1]
    have hv' : ((y :: ys).all Value.oneCell' && Nat.ble (o + (y :: ys).length) c.length) = true := by
      rw [Nat.ble_eq_true_of_le ho, Bool.and_true]; exact hv
    rw [hv']; rfl

theorem splice_mid (xs rest ys : List Value) (o : Nat) (h : o = xs.length) (hr : ys.length ≤ rest.length) : splice (xs ++ rest) o ys = xs ++ ys ++ rest.drop ys.length := by
  subst h
  simp [splice, List.drop_append]

theorem append_own {l : List Assn} {σ : AHeap} (h : H l σ) (i : Nat) {e z by' n m : Nat} {v x : Value} {xs ys : List Value} {k : Value × AHeap → Prop} (hi : l[i]? = some (Own e z v n xs)) (hs : srcOf z x σ = some (m, ys)) (hz : 0 < z)
    (hb : (n + m) * by' ≤ 140737488355328 ∧ n + m ≤ 140737488355328) (hone : ys.all one = true) (hk : ∀ v' σ', H (l.set i (Own e z v' (n + m) (xs ++ ys))) σ' → k (v', σ')) : pu (aAppend e z by' v x σ) k := by
  have hlen : ys.length = m * z := srcOf_len hs
  have hN : n + m < OPEN := by unfold OPEN; omega
  -- a new block in its place
  have new : ∀ (a : Option Addr) (c : Nat) (σ2 : AHeap), v = .slice a n c → ¬ n + m ≤ known c → oldOf z a n σ = some xs → xs.length = n * z → H (l.set i emp) σ2 → σ2.size = σ.size →
      (aAppendN e z by' v m ys σ = some (.slice (some ⟨σ.size, 0, none⟩) (n + m) (OPEN * z + (n + m)), σ2.push (.cells (xs ++ ys) e true))) → pu (aAppend e z by' v x σ) k := by
    intro a c σ2 hv hc hold hxl h2 hsz he
    unfold aAppend
    rw [hs]
    simp only [Option.bind_some, he, pu_some]
    refine hk _ _ (H.back i hi ?_)
    have := (h2.push (.cells (xs ++ ys) e true)).unsnoc
    rw [hsz] at this
    refine H_own.2 (.inr ⟨_, _, true, [], by simpa using this, by simp [hlen, hxl, Nat.add_mul], ?_, rfl, ?_, .inl ⟨rfl, ?_, ?_⟩⟩)
    · have : known (OPEN * z + (n + m)) = n + m := by unfold known; rw [Nat.mul_add_mod, Nat.mod_eq_of_lt hN]
      rw [this]; simp
    · exact (CapOk.open' (z := z) hN).1
    · have : OPEN * 1 ≤ OPEN * z := Nat.mul_le_mul_left _ hz
      omega
    · exact (CapOk.open' (z := z) hN).2.resolve_left (by have : OPEN * 1 ≤ OPEN * z := Nat.mul_le_mul_left _ hz
                                                         omega)
  have hf := h.front i hi
  rcases H_own.1 hf with ⟨⟨rfl, rfl, hv⟩, h2⟩ | ⟨b, c, opn, rest, h2, hx, hr, rfl, hn, ho⟩
  · rcases Nat.eq_zero_or_pos m with rfl | hm
    · have hys : ys = [] := List.length_eq_zero_iff.1 (by simpa using hlen)
      subst hys
      have he : aAppend e z by' v x σ = some (v, σ) := by
        unfold aAppend; rw [hs]
        rcases hv with rfl | rfl <;> simp [aAppendN, known, aPoke]
      rw [he, pu_some]
      refine hk _ _ (H.back i hi (H_own.2 (.inl ⟨⟨rfl, rfl, hv⟩, h2⟩)))
    · rcases hv with rfl | rfl
      · refine new none 0 σ rfl (by simp [known]; omega) rfl (by simp) h2 rfl ?_
        simp only [aAppendN]
        rw [if_neg (by simp [known]; omega), if_pos ⟨by omega, by omega, hz⟩]
        simp [oldOf, OPEN]
      · refine new (some ⟨ZB, 0, some 0⟩) 0 σ rfl (by simp [known]; omega) (by simp [oldOf, seg]) (by simp) h2 rfl ?_
        simp only [aAppendN]
        rw [if_neg (by simp [known]; omega), if_pos ⟨by omega, by omega, hz⟩]
        simp [oldOf, OPEN, seg]
  · by_cases hroom : n + m ≤ known c
    · obtain ⟨σ', hp, h3⟩ := poke_ok (o := n * z) (ys := ys) h2 hone (by
        rw [List.length_append, hx, hr, hlen]
        have : n * z + (known c - n) * z = known c * z := by rw [← Nat.add_mul]; congr 1; omega
        have h4 : (n + m) * z ≤ known c * z := Nat.mul_le_mul_right _ hroom
        rw [Nat.add_mul] at h4; omega)
      have he : aAppend e z by' (.slice (some ⟨b, 0, none⟩) n c) x σ = some (.slice (some ⟨b, 0, none⟩) (n + m) c, σ') := by
        unfold aAppend; rw [hs]
        simp only [Option.bind_some, aAppendN]
        rw [if_pos hroom, add_mk, Nat.zero_add, hp]; rfl
      rw [he, pu_some]
      have hfit : ys.length ≤ rest.length := by rw [hlen, hr]; exact Nat.mul_le_mul_right _ (by omega)
      rw [splice_mid xs rest ys (n * z) hx.symm hfit] at h3
      refine hk _ _ (H.back i hi (H_own.2 (.inr ⟨b, c, opn, rest.drop ys.length, h3, ?_, ?_, rfl, hroom, ho⟩)))
      · rw [List.length_append, hx, hlen, Nat.add_mul]
      · rw [List.length_drop, hr, hlen, ← Nat.sub_mul]; congr 1; omega
    · have hold : oldOf z (some ⟨b, 0, none⟩) n σ = some xs := by
        simp only [oldOf]
        have := (h.own_src i hi).1
        simp only [srcOf, Option.map_eq_some_iff] at this
        obtain ⟨l0, h1, h4⟩ := this
        rw [h1]; cases h4; rfl
      rcases ho with ⟨rfl, hc1, hc2⟩ | hc
      · refine new (some ⟨b, 0, none⟩) c (σ.set b .dead) rfl hroom hold hx (h2.set0 .dead).tail rfl ?_
        simp only [aAppendN]
        rw [if_neg hroom, if_pos ⟨by omega, by omega, hz⟩, hold]
        simp only [Option.bind_some]
        rw [if_neg (by omega), h2.get0.1]
        simp only
        rw [if_pos ⟨trivial, hc2, hone, trivial⟩]
      · refine new (some ⟨b, 0, none⟩) c σ rfl hroom hold hx h2.tail rfl ?_
        simp only [aAppendN]
        rw [if_neg hroom, if_pos ⟨by omega, by omega, hz⟩, hold]
        simp only [Option.bind_some]
        rw [if_pos hc]

theorem copy_ok {l : List Assn} {σ : AHeap} (h : H l σ) (i : Nat) {z b o dl dc xl xc m : Nat} {xb : Option Addr} {c ys : List Value} {e : TypeId} {opn : Bool} {k : Value × AHeap → Prop} (hi : l[i]? = some (pt b (.cells c e opn)))
    (hs : srcOf z (.slice xb (Nat.min xl dl) xc) σ = some (m, ys)) (hone : ys.all one = true) (hl : o + ys.length ≤ c.length)
    (hk : ∀ σ', H (l.set i (pt b (.cells (splice c o ys) e opn))) σ' → k (.int .i64 m, σ')) : pu (aCopy z (.slice (some ⟨b, o, none⟩) dl dc) (.slice xb xl xc) σ) k := by
  obtain ⟨σ', hp, h3⟩ := poke_ok (h.front i hi) hone hl
  have he : aCopy z (.slice (some ⟨b, o, none⟩) dl dc) (.slice xb xl xc) σ = some (.int .i64 m, σ') := by
    simp only [aCopy, hs, Option.bind_some, hp, Option.map_some]
  rw [he, pu_some]
  exact hk _ (H.back i hi h3)

theorem reps_one (n : Nat) (v : Value) : reps n [v] = List.replicate n v := by
  induction n with
  | zero => rfl
  | succ n ih => simp [reps, ih, List.replicate_succ]
theorem make_ok {l : List Assn} {σ : AHeap} (h : H l σ) {e by' : Nat} {zc : List Value} {n c : Int} {k1 k2 : IntKind} {k : Value × AHeap → Prop} (hn : 0 ≤ n ∧ n ≤ c ∧ c * by' ≤ 140737488355328 ∧ c ≤ 140737488355328)
    (hk : ∀ b σ', H (l ++ [pt b (.cells (reps c.toNat zc) e false)]) σ' → k (.slice (some ⟨b, 0, none⟩) n.toNat c.toNat, σ')) : pu (aMake e by' zc (.int k1 n) (.int k2 c) σ) k := by
  have he : aMake e by' zc (.int k1 n) (.int k2 c) σ = some (.slice (some ⟨σ.size, 0, none⟩) n.toNat c.toNat, σ.push (.cells (reps c.toNat zc) e false)) := by
    simp only [aMake, if_pos hn]
  rw [he, pu_some]
  exact hk _ _ (h.push _)
theorem buildS_ok {l : List Assn} {σ : AHeap} (h : H l σ) {e z len : Nat} {zc cs : List Value} {parts : List (Nat × Value)} {k : Value × AHeap → Prop} (hc : (Nat.ble (len * z) 16777216 && Nat.blt 0 z) = true)
    (hf : aFill (fun k => some (k * z, z)) (reps len zc) parts = some cs)
    (hk : ∀ b σ', H (l ++ [pt b (.cells cs e false)]) σ' → k (.slice (some ⟨b, 0, none⟩) len len, σ')) : pu (buildS e z len zc parts σ) k := by
  have he : buildS e z len zc parts σ = some (.slice (some ⟨σ.size, 0, none⟩) len len, σ.push (.cells cs e false)) := by
    simp only [buildS, hc, hf, cond_true, Option.map_some]
  rw [he, pu_some]
  exact hk _ _ (h.push _)

theorem bytesOf_bv (l : List UInt8) : bytesOf (bv l) = some l := by
  induction l with
  | nil => rfl
  | cons b l ih => simp [bytesOf, by8, ih]
theorem bytesStr_src {σ : AHeap} {a : Option Addr} {n c : Nat} {l : List UInt8} (h : srcOf 1 (.slice a n c) σ = some (n, bv l)) : aBytesStr (.slice a n c) σ = some (.string ⟨l.toArray⟩) := by
  cases a with
  | none =>
    simp only [srcOf] at h
    split at h
    · simp only [Option.some.injEq, Prod.mk.injEq] at h
      have : l = [] := by have := congrArg List.length h.2; simpa using this.symm
      subst this; rfl
    · cases h
  | some a =>
    simp only [srcOf, Option.map_eq_some_iff, Nat.mul_one] at h
    obtain ⟨l0, h1, h2⟩ := h
    cases h2
    simp only [aBytesStr, h1, Option.bind_some, bytesOf_bv, Option.map_some]

/-! ### Own slices: parts, elements, what is copied into them -/
theorem H.own_form {l : List Assn} {σ : AHeap} (h : H l σ) (i : Nat) {e z n : Nat} {v : Value} {xs : List Value} (hi : l[i]? = some (Own e z v n xs)) (hn : 0 < n) :
    ∃ b c, v = .slice (some ⟨b, 0, none⟩) n c ∧ CapOk z n c ∧ ∃ rest, σ.row b = some (xs ++ rest) := by
  rcases H_own.1 (h.front i hi) with ⟨⟨rfl, rfl, rfl | rfl⟩, h⟩ | ⟨b, c, opn, rest, h, hx, hr, rfl, hn, ho⟩
  · omega
  · omega
  · exact ⟨b, c, rfl, ⟨hn, by rcases ho with ⟨_, _, x⟩ | x; exact .inr x; exact .inl x⟩, rest, row_cells h.get0.1⟩

theorem take_drop_append (xs rest : List Value) (a z : Nat) (h : a + z ≤ xs.length) : ((xs ++ rest).drop a).take z = (xs.drop a).take z := by
  rw [List.drop_append_of_le_length (by omega), List.take_append_of_le_length (by simp; omega)]

/-- An element of an own slice: where it stands, and that it is read there. -/
theorem H.own_elem {l : List Assn} {σ : AHeap} (h : H l σ) (i : Nat) {e z n : Nat} {v : Value} {xs : List Value} (hi : l[i]? = some (Own e z v n xs)) {k : Nat} (hk : k < n) :
    ∃ b, (∀ kd, aIndexAddr z v (.int kd k) = some (.pointer (some ⟨b, k * z, none⟩))) ∧ aLoad true z (.pointer (some ⟨b, k * z, none⟩)) σ = some (.agg ((xs.drop (k * z)).take z).toArray) ∧
      ∀ m j, j < z → aLoad false m (.pointer (some ⟨b, k * z + j, none⟩)) σ = xs[k * z + j]? := by
  obtain ⟨b, c, rfl, hc, rest, hrow⟩ := h.own_form i hi (by omega)
  have hx := (h.own_src i hi).2.1
  have hkz : k * z + z ≤ n * z := by rw [← Nat.succ_mul]; exact Nat.mul_le_mul_right _ hk
  refine ⟨b, fun kd => ?_, ?_, fun m j hj => ?_⟩
  · rw [idxA (by omega)]; simp
  · rw [loadN hrow (by simp; omega), take_drop_append _ _ _ _ (by omega)]
  · rw [load1 hrow, List.getElem?_append_left (by omega)]

theorem splice_append (xs rest ys : List Value) (o : Nat) (h : o + ys.length ≤ xs.length) : splice (xs ++ rest) o ys = splice xs o ys ++ rest := by
  unfold splice
  rw [List.take_append_of_le_length (by omega), List.drop_append_of_le_length (by omega)]
  simp

theorem copy_own {l : List Assn} {σ : AHeap} (h : H l σ) (i : Nat) {e z n b o c dl dc xl xc m : Nat} {xb : Option Addr} {xs ys : List Value} {k : Value × AHeap → Prop} (hi : l[i]? = some (Own e z (.slice (some ⟨b, 0, none⟩) n c) n xs)) (hn : 0 < n)
    (hs : srcOf z (.slice xb (Nat.min xl dl) xc) σ = some (m, ys)) (hone : ys.all one = true) (hl : o + ys.length ≤ xs.length)
    (hk : ∀ σ', H (l.set i (Own e z (.slice (some ⟨b, 0, none⟩) n c) n (splice xs o ys))) σ' → k (.int .i64 m, σ')) : pu (aCopy z (.slice (some ⟨b, o, none⟩) dl dc) (.slice xb xl xc) σ) k := by
  rcases H_own.1 (h.front i hi) with ⟨⟨rfl, rfl, _⟩, h⟩ | ⟨b', c', opn, rest, h1, hx, hr, hv, hn, ho⟩
  · omega
  · cases hv
    obtain ⟨σ', hp, h3⟩ := poke_ok (o := o) h1 hone (by simp; omega)
    have he : aCopy z (.slice (some ⟨b, o, none⟩) dl dc) (.slice xb xl xc) σ = some (.int .i64 m, σ') := by
      simp only [aCopy, hs, Option.bind_some, hp, Option.map_some]
    rw [he, pu_some]
    rw [splice_append _ _ _ _ hl] at h3
    exact hk _ (H.back i hi (H_own.2 (.inr ⟨b, c, opn, rest, h3, by rw [splice_length _ _ _ hl]; exact hx, hr, rfl, hn, ho⟩)))
/-- An element's cell is written. -/
theorem store_own {l : List Assn} {σ : AHeap} (h : H l σ) (i : Nat) {e z n b o c : Nat} {w : Value} {xs : List Value} {k : AHeap → Prop} (hi : l[i]? = some (Own e z (.slice (some ⟨b, 0, none⟩) n c) n xs)) (hn : 0 < n) (hw : one w = true) (ho : o < xs.length)
    (hk : ∀ σ', H (l.set i (Own e z (.slice (some ⟨b, 0, none⟩) n c) n (xs.set o w))) σ' → k σ') : pu (aStore 1 (.pointer (some ⟨b, o, none⟩)) w σ) k := by
  rcases H_own.1 (h.front i hi) with ⟨⟨rfl, rfl, _⟩, h⟩ | ⟨b', c', opn, rest, h1, hx, hr, hv, hn, ho2⟩
  · omega
  · cases hv
    refine store1 h1 0 rfl hw (by simp; omega) ?_
    intro σ' h3
    simp only [List.set_cons_zero] at h3
    rw [List.set_append_left _ _ ho] at h3
    exact hk _ (H.back i hi (H_own.2 (.inr ⟨b, c, opn, rest, h3, by simpa using hx, hr, rfl, hn, ho2⟩)))

/-! ### Bytes that stay as they are -/
def RoB (v : Value) (x : List UInt8) : Assn := ex fun p : Nat × Nat × Nat × List Value × Nat × Bool =>
  sep (pure' (v = .slice (some ⟨p.1, p.2.1, none⟩) x.length p.2.2.1 ∧ CapOk 1 x.length p.2.2.1 ∧ (p.2.2.2.1.drop p.2.1).take x.length = bv x ∧ p.2.1 + x.length ≤ p.2.2.2.1.length)) (ro p.1 (.cells p.2.2.2.1 p.2.2.2.2.1 p.2.2.2.2.2))
theorem RoB.dup (v : Value) (x : List UInt8) : Dup (RoB v x) := Dup.ex fun _ => Dup.sep (Dup.pure _) (Dup.ro _ _)
theorem H.rob0 {v : Value} {x : List UInt8} {l : List Assn} {σ : AHeap} (h : H (RoB v x :: l) σ) :
    ∃ b o cap c, v = .slice (some ⟨b, o, none⟩) x.length cap ∧ CapOk 1 x.length cap ∧ σ.row b = some c ∧ (c.drop o).take x.length = bv x ∧ o + x.length ≤ c.length := by
  obtain ⟨p, h⟩ := H_ex.1 h
  rw [H_sep] at h
  obtain ⟨⟨h1, h2, h3, h4⟩, h⟩ := H_pure.1 h
  exact ⟨_, _, _, _, h1, h2, row_cells h.rget0.1, h3, h4⟩
theorem rob_src {σ : AHeap} {b o cap n : Nat} {c : List Value} {x : List UInt8} (hr : σ.row b = some c) (hx : (c.drop o).take x.length = bv x) (hl : o + x.length ≤ c.length) (hn : n ≤ x.length) :
    srcOf 1 (.slice (some ⟨b, o, none⟩) n cap) σ = some (n, bv (x.take n)) := by
  rw [src_row hr (by omega), Nat.mul_one, ← bv_take, ← hx, List.take_take, Nat.min_eq_left hn]
theorem H.rob {l : List Assn} {σ : AHeap} (h : H l σ) (i : Nat) {v : Value} {x : List UInt8} (hi : l[i]? = some (RoB v x)) :
    ∃ b o cap c, v = .slice (some ⟨b, o, none⟩) x.length cap ∧ CapOk 1 x.length cap ∧ σ.row b = some c ∧ (c.drop o).take x.length = bv x ∧ o + x.length ≤ c.length := (h.front i hi).rob0

/-! ### What stands beside, as one -/
theorem H_one {l : List Assn} {σ : AHeap} : H [Star l] σ ↔ H l σ := by rw [H_star, List.append_nil]
theorem H_app {l m : List Assn} {σ : AHeap} : H (l ++ m) σ ↔ H (Star l :: m) σ := H_star.symm
theorem H.out {l : List Assn} {σ : AHeap} {A : Assn} (h : H l σ) (i : Nat) (hi : l[i]? = some A) : H [A, Star (l.set i emp)] σ := by
  have := h.front i hi
  exact (H_star.2 (by simpa using this : H ([A] ++ l.set i emp) σ) : H (Star [A] :: l.set i emp) σ) |> fun _ => by
    have h2 : H (A :: l.set i emp) σ := this
    obtain ⟨r, h3, a, b, j, x, y⟩ := h2
    exact ⟨r, h3, a, b, j, x, by simp only [Star]; rw [sep_comm, emp_sep]; exact y⟩
theorem H.in' {l : List Assn} {σ : AHeap} {A B : Assn} (i : Nat) (hi : l[i]? = some A) (h : H [B, Star (l.set i emp)] σ) : H (l.set i B) σ := by
  refine H.back i hi ?_
  obtain ⟨r, h3, a, b, j, x, y⟩ := h
  refine ⟨r, h3, a, b, j, x, ?_⟩
  simp only [Star] at y
  rw [sep_comm, emp_sep] at y
  exact y
theorem H.to_own {l : List Assn} {σ : AHeap} (h : H l σ) (i : Nat) {b e z n : Nat} {xs : List Value} {opn : Bool} (hi : l[i]? = some (pt b (.cells xs e opn))) (hx : xs.length = n * z) (hn : n < OPEN) :
    H (l.set i (Own e z (.slice (some ⟨b, 0, none⟩) n n) n xs)) σ := by
  refine H.back i hi (H_own.2 (.inr ⟨b, n, opn, [], by simpa using h.front i hi, hx, ?_, rfl, ?_, .inr hn⟩))
  · rw [known_lt hn]; simp
  · rw [known_lt hn]; exact Nat.le_refl _
theorem H.emp_end {l : List Assn} {σ : AHeap} (h : H l σ) : H (l ++ [emp]) σ := H.snoc (H_emp.2 h)

/-! ### Bytes that can be read -/
structure Rd (σ : AHeap) (v : Value) (x : List UInt8) : Prop where
  src : srcOf 1 v σ = some (x.length, bv x)
  form : ∃ a c, v = .slice a x.length c
  elem : ∀ (k : Nat) (b : UInt8), x[k]? = some b → ∃ p, (∀ kd, aIndexAddr 1 v (.int kd k) = some (.pointer (some p))) ∧ aLoad false 1 (.pointer (some p)) σ = some (by8 b)
theorem Rd.nil (σ : AHeap) (c : Nat) : Rd σ (.slice none 0 c) [] := ⟨rfl, ⟨none, c, rfl⟩, fun k b h => by simp at h⟩
theorem rd_row {σ : AHeap} {b o cap : Nat} {c : List Value} {x : List UInt8} (hr : σ.row b = some c) (hx : (c.drop o).take x.length = bv x) (hl : o + x.length ≤ c.length) : Rd σ (.slice (some ⟨b, o, none⟩) x.length cap) x := by
  refine ⟨?_, ⟨_, _, rfl⟩, fun k y hk => ?_⟩
  · rw [rob_src hr hx hl (Nat.le_refl _), List.take_length]
  · have hlt := (List.getElem?_eq_some_iff.1 hk).1
    refine ⟨⟨b, o + k, none⟩, fun kd => by rw [idxA (by omega)]; simp, ?_⟩
    rw [load1 hr]
    have : ((c.drop o).take x.length)[k]? = (bv x)[k]? := by rw [hx]
    rw [List.getElem?_take, if_pos hlt, List.getElem?_drop, bv_get, hk] at this
    exact this
theorem H.own_rd {l : List Assn} {σ : AHeap} (h : H l σ) (i : Nat) {e n : Nat} {v : Value} {x : List UInt8} (hi : l[i]? = some (Own e 1 v n (bv x))) : Rd σ v x := by
  have h0 := h.own_src i hi
  obtain ⟨hs, hl, a, c, hv⟩ := h0
  have hn : x.length = n := by simpa using hl
  subst hn
  refine ⟨hs, ⟨a, c, hv⟩, fun k b hk => ?_⟩
  have hlt := (List.getElem?_eq_some_iff.1 hk).1
  obtain ⟨bb, e1, e2, e3⟩ := h.own_elem i hi hlt
  refine ⟨_, e1, ?_⟩
  have := e3 1 0 (by omega)
  simp only [Nat.mul_one, Nat.add_zero] at this
  rw [Nat.mul_one, this, bv_get, hk]; rfl
theorem H.rob_rd {l : List Assn} {σ : AHeap} (h : H l σ) (i : Nat) {v : Value} {x : List UInt8} (hi : l[i]? = some (RoB v x)) : Rd σ v x := by
  obtain ⟨b, o, cap, c, rfl, hc, hr, hx, hl⟩ := h.rob i hi
  exact rd_row hr hx hl
/-- Of what stands beside as one. -/
theorem H.beside {l m : List Assn} {σ : AHeap} (h : H l σ) (i : Nat) (hi : l[i]? = some (Star m)) : H m σ := by
  have := h.front i hi
  rw [H_star] at this
  exact this.left
theorem rob_in {l : List Assn} {σ : AHeap} {b o cap : Nat} {x : List UInt8} {c : List Value} {e : Nat} {opn : Bool} (hcap : CapOk 1 x.length cap) (hx : (c.drop o).take x.length = bv x) (hl : o + x.length ≤ c.length) (h : H (ro b (.cells c e opn) :: l) σ) :
    H (RoB (.slice (some ⟨b, o, none⟩) x.length cap) x :: l) σ := H_ex.2 ⟨(b, o, cap, c, e, opn), by rw [H_sep]; exact H_pure.2 ⟨⟨rfl, hcap, hx, hl⟩, h⟩⟩
end Go.Ax
namespace Go.Ax
open Go.RowKit Go.Deep

theorem Rel.pushRo {B : Nat} {w0 : World} {ρ : List RB} {σ : AHeap} {w : World} (h : Rel B w0 ρ σ w) {b off : Nat} {c : List Value} {c' : Array Value} {e : TypeId} {fz : Nat × Nat} (hb : w.heap[b]? = some (.cells c' e fz)) (hB : b < B) (ho : off + c.length ≤ c'.size)
    (hl : LR ρ c ((c'.toList.drop off).take c.length)) :
    Rel B w0 (ρ ++ [⟨b, off, c'.size⟩]) (σ.push (.ro c e)) w ∧ Ext ρ (ρ ++ [⟨b, off, c'.size⟩]) ∧ (ρ ++ [(⟨b, off, c'.size⟩ : RB)])[σ.size]? = some ⟨b, off, c'.size⟩ := by
  have hext := Ext.append ρ [⟨b, off, c'.size⟩]
  have hnew : (ρ ++ [(⟨b, off, c'.size⟩ : RB)])[σ.size]? = some ⟨b, off, c'.size⟩ := by rw [← h.len]; simp
  have old : ∀ {a : Nat} {q : AObj} {r : RB}, σ.get a = some q → (ρ ++ [(⟨b, off, c'.size⟩ : RB)])[a]? = some r → ρ[a]? = some r := by
    intro a q r y z
    obtain ⟨r0, y', _⟩ := h.obj a q y
    rw [hext _ _ y'] at z; cases z; exact y'
  refine ⟨⟨by simp [h.len], fun i q hi => ?_, fun i j oi oj ri rj hi hj wi wj ri' rj' e => ?_, h.below, h.base⟩, hext, hnew⟩
  · rw [AHeap.get_push] at hi
    split at hi
    · rename_i e1; subst e1; cases hi
      exact ⟨_, hnew, ⟨c', fz, hb, rfl, ho, hl.mono hext⟩, (fun x => by cases x), fun _ _ => hB⟩
    · obtain ⟨r, x1, x2, x3, x4⟩ := h.obj i q hi
      exact ⟨r, hext _ _ x1, x2.mono hext rfl, x3, x4⟩
  · rw [AHeap.get_push] at hi hj
    split at hi
    · cases hi; cases wi
    · split at hj
      · cases hj; cases wj
      · exact h.inj i j oi oj ri rj hi hj wi wj (old hi ri') (old hj rj') e
theorem H.pushRo {l : List Assn} {σ : AHeap} (h : H l σ) (o : AObj) : H (ro σ.size o :: l) (σ.push o) := (h.push o).unsnoc.freeze0

/-! ### Rows of an argument -/
def Zip {M : Type} (A : List Value → M → Assn) : List (List Value) → List M → Assn
  | c :: cs, m :: ms => sep (A c m) (Zip A cs ms)
  | _, _ => emp
theorem Zip.dup {M : Type} {A : List Value → M → Assn} (hA : ∀ c m, Dup (A c m)) : ∀ (cs : List (List Value)) (ms : List M), Dup (Zip A cs ms)
  | [], _ => by simpa [Zip] using Dup.emp
  | _ :: _, [] => by simpa [Zip] using Dup.emp
  | c :: cs, m :: ms => Dup.sep (hA c m) (Zip.dup hA cs ms)
theorem Zip.snoc {M : Type} {A : List Value → M → Assn} : ∀ (cs : List (List Value)) (ms : List M) (c : List Value) (m : M), cs.length = ms.length → Zip A (cs ++ [c]) (ms ++ [m]) = sep (A c m) (Zip A cs ms)
  | [], [], c, m, _ => rfl
  | [], _ :: _, c, m, h => by simp at h
  | _ :: _, [], c, m, h => by simp at h
  | x :: cs, y :: ms, c, m, h => by
    simp only [List.cons_append, Zip, Zip.snoc cs ms c m (by simpa using h)]
    rw [← sep_assoc, sep_comm (A x y), sep_assoc]
theorem zip0 {M : Type} {A : List Value → M → Assn} : ∀ {cs : List (List Value)} {ms : List M} {l : List Assn} {σ : AHeap} {k : Nat} {c : List Value} {m : M}, H (Zip A cs ms :: l) σ → cs[k]? = some c → ms[k]? = some m → H (A c m :: l) σ
  | [], _, l, σ, k, c, m, h, hc, hm => by simp at hc
  | _ :: _, [], l, σ, k, c, m, h, hc, hm => by simp at hm
  | x :: cs, y :: ms, l, σ, 0, c, m, h, hc, hm => by
    simp at hc hm; subst hc; subst hm
    simp only [Zip, H_sep] at h
    exact h.second
  | x :: cs, y :: ms, l, σ, k + 1, c, m, h, hc, hm => by
    simp at hc hm
    simp only [Zip, H_sep] at h
    exact zip0 h.tail hc hm

/-- A slice of an argument: z cells an element, by bytes an element. -/
def RowsA {M : Type} (z by' : Nat) (A : List Value → M → Assn) (v : Value) (L : List M) : Assn := fun r =>
  (r = Res.emp ∧ L = [] ∧ (v = .slice none 0 0 ∨ v = .slice (some ⟨ZB, 0, some 0⟩) 0 0)) ∨
  (∃ (id cap e : Nat) (css : List (List Value)), sep (ro id (.ro css.flatten e)) (Zip A css L) r ∧ v = .slice (some ⟨id, 0, none⟩) L.length cap ∧ L.length ≤ cap ∧ cap < OPEN ∧ css.length = L.length ∧ (∀ c ∈ css, c.length = z) ∧ L.length * by' ≤ reachBytes)
theorem RowsA.dup {M : Type} {z by' : Nat} {A : List Value → M → Assn} (hA : ∀ c m, Dup (A c m)) (v : Value) (L : List M) : Dup (RowsA z by' A v L) := by
  rintro r (⟨rfl, h⟩ | ⟨id, cap, e, css, h, k⟩)
  · exact ⟨_, _, Res.Join.emp_left _, .inl ⟨rfl, h⟩, .inl ⟨rfl, h⟩⟩
  · obtain ⟨a, b, j, x, y⟩ := Dup.sep (Dup.ro _ _) (Zip.dup hA _ _) r h
    exact ⟨a, b, j, .inr ⟨id, cap, e, css, x, k⟩, .inr ⟨id, cap, e, css, y, k⟩⟩
theorem H_rows {M : Type} {z by' : Nat} {A : List Value → M → Assn} {v : Value} {L : List M} {l : List Assn} {σ : AHeap} : H (RowsA z by' A v L :: l) σ ↔
    ((L = [] ∧ (v = .slice none 0 0 ∨ v = .slice (some ⟨ZB, 0, some 0⟩) 0 0)) ∧ H l σ) ∨
    (∃ (id cap e : Nat) (css : List (List Value)), H (ro id (.ro css.flatten e) :: Zip A css L :: l) σ ∧ v = .slice (some ⟨id, 0, none⟩) L.length cap ∧ L.length ≤ cap ∧ cap < OPEN ∧ css.length = L.length ∧ (∀ c ∈ css, c.length = z) ∧ L.length * by' ≤ reachBytes) := by
  constructor
  · rintro ⟨r, h, a, k, j, x | ⟨id, cap, e, css, x, y⟩, hk⟩
    · obtain ⟨rfl, x⟩ := x
      exact .inl ⟨x, r, h, by rw [j.emp_eq]; exact hk⟩
    · exact .inr ⟨id, cap, e, css, by rw [← H_sep]; exact ⟨r, h, a, k, j, x, hk⟩, y⟩
  · rintro (⟨x, r, h, hk⟩ | ⟨id, cap, e, css, hh, y⟩)
    · exact ⟨r, h, _, r, Res.Join.emp_left r, .inl ⟨rfl, x⟩, hk⟩
    · rw [← H_sep] at hh
      obtain ⟨r, h, a, k, j, x, hk⟩ := hh
      exact ⟨r, h, a, k, j, .inr ⟨id, cap, e, css, x, y⟩, hk⟩
theorem flatten_part {z : Nat} : ∀ {css : List (List Value)} {k : Nat} {c : List Value}, (∀ c ∈ css, c.length = z) → css[k]? = some c → (css.flatten.drop (k * z)).take z = c
  | [], k, c, _, h => by simp at h
  | x :: css, 0, c, h, hk => by
    simp at hk; subst hk
    simp [h x (by simp)]
  | x :: css, k + 1, c, h, hk => by
    simp at hk
    have hx := h x (by simp)
    rw [List.flatten_cons, show (k + 1) * z = x.length + k * z by rw [hx, Nat.succ_mul]; omega, List.drop_append, List.drop_of_length_le (by omega), List.nil_append]
    have : x.length + k * z - x.length = k * z := by omega
    rw [this]
    exact flatten_part (fun c hc => h c (by simp [hc])) hk
theorem flatten_len {z : Nat} : ∀ {css : List (List Value)}, (∀ c ∈ css, c.length = z) → css.flatten.length = css.length * z
  | [], _ => by simp
  | x :: css, h => by
    rw [List.flatten_cons, List.length_append, h x (by simp), flatten_len fun c hc => h c (by simp [hc]), List.length_cons, Nat.succ_mul]; omega
/-- Of such a slice: its form; an element: where it stands, what it reads, what is told of it. -/
theorem H.rows_form {M : Type} {z by' : Nat} {A : List Value → M → Assn} {v : Value} {L : List M} {l : List Assn} {σ : AHeap} (h : H l σ) (i : Nat) (hi : l[i]? = some (RowsA z by' A v L)) : ∃ a c, v = .slice a L.length c := by
  rcases H_rows.1 (h.front i hi) with ⟨⟨rfl, rfl | rfl⟩, _⟩ | ⟨id, cap, e, css, _, rfl, _⟩
  · exact ⟨_, _, rfl⟩
  · exact ⟨_, _, rfl⟩
  · exact ⟨_, _, rfl⟩
theorem H.rows_elem {M : Type} {z by' : Nat} {A : List Value → M → Assn} {v : Value} {L : List M} {l : List Assn} {σ : AHeap} (h : H l σ) (i : Nat) (hi : l[i]? = some (RowsA z by' A v L)) {k : Nat} {m : M} (hk : L[k]? = some m) :
    ∃ b cs, (∀ kd, aIndexAddr z v (.int kd k) = some (.pointer (some ⟨b, k * z, none⟩))) ∧ aLoad true z (.pointer (some ⟨b, k * z, none⟩)) σ = some (.agg cs.toArray) ∧
      (∀ m j, j < z → aLoad false m (.pointer (some ⟨b, k * z + j, none⟩)) σ = cs[j]?) ∧ cs.length = z ∧ H (A cs m :: l.set i emp) σ := by
  have hlt := (List.getElem?_eq_some_iff.1 hk).1
  rcases H_rows.1 (h.front i hi) with ⟨⟨rfl, _⟩, _⟩ | ⟨id, cap, e, css, h1, rfl, h2, h3, h4, h5, h6⟩
  · simp at hk
  · have hc := List.getElem?_eq_getElem (show k < css.length by omega)
    have hrow := row_ro h1.rget0.1
    have hfl := flatten_len h5
    have hkz : k * z + z ≤ css.flatten.length := by rw [hfl, ← Nat.succ_mul]; exact Nat.mul_le_mul_right _ (by omega)
    refine ⟨id, css[k], fun kd => ?_, ?_, fun m j hj => ?_, h5 _ (List.getElem_mem _), zip0 h1.tail hc hk⟩
    · rw [idxA (by omega)]; simp
    · rw [loadN hrow hkz, flatten_part h5 hc]
    · rw [load1 hrow]
      have := congrArg (·[j]?) (flatten_part h5 hc)
      simp only [List.getElem?_take, if_pos hj, List.getElem?_drop] at this
      exact this

/-! ### From the machine's memory -/
section
variable (P : Program)

/-- Values of a type, where they are read, stand for abstract ones of which A tells. -/
def AbsT (t : TypeId) {M : Type} (A : List Value → M → Assn) : Prop :=
  ∀ ⦃H' : Type⦄ ⦃enc : TypeId × Value → H'⦄ ⦃W : World⦄ ⦃base : Nat⦄ ⦃held : Bool⦄ ⦃n : Nat⦄ ⦃cs : List Value⦄ ⦃x : DataW H' × List MemPlace⦄ ⦃ρ : List RB⦄ ⦃σ : AHeap⦄, Rel W.heap.size W ρ σ W →
    DataW.trod enc P W base (fun _ => true) held n t cs = some x → (∀ w ∈ x.1.weights P t, w ≤ reachBytes) →
    ∃ ρ' σ' cs' m, Ext ρ ρ' ∧ Rel W.heap.size W ρ' σ' W ∧ LR ρ' cs' cs ∧ cs'.length = P.cellsOf t ∧ ∀ l, H l σ → H (A cs' m :: l) σ'
variable {P}

theorem AbsT.int {t : TypeId} {k : IntKind} (ht : P.underlying t = some (.int k)) (hc : P.cellsOf t = 1) : AbsT P t (M := Int) fun cs n => pure' (cs = [.int k n] ∧ (Lit.int k n).wf = true) := by
  intro H' enc W base held n cs x ρ σ hr h _
  obtain ⟨m, rfl, rfl, hw⟩ := DataW.trod_int ht h
  exact ⟨ρ, σ, [.int k m], m, Ext.refl _, hr, LR.cons (.int _ _) (LR.nil _), by simp [hc], fun l hl => H_pure.2 ⟨⟨rfl, hw⟩, hl⟩⟩
theorem AbsT.u8 {t : TypeId} (ht : P.underlying t = some (.int .u8)) (hc : P.cellsOf t = 1) : AbsT P t (M := UInt8) fun cs b => pure' (cs = [by8 b]) := by
  intro H' enc W base held n cs x ρ σ hr h _
  obtain ⟨m, rfl, rfl, hw⟩ := DataW.trod_int ht h
  have hm : 0 ≤ m ∧ m < 256 := by
    simp [Lit.wf, IntKind.min, IntKind.max, IntKind.signed, IntKind.bits] at hw; omega
  refine ⟨ρ, σ, [.int .u8 m], UInt8.ofNat m.toNat, Ext.refl _, hr, LR.cons (.int _ _) (LR.nil _), by simp [hc], fun l hl => H_pure.2 ⟨?_, hl⟩⟩
  simp only [by8, UInt8.toNat_ofNat']
  congr 2
  omega
theorem AbsT.bool {t : TypeId} (ht : P.underlying t = some .bool) (hc : P.cellsOf t = 1) : AbsT P t (M := Bool) fun cs b => pure' (cs = [.bool b]) := by
  intro H' enc W base held n cs x ρ σ hr h _
  obtain ⟨b, rfl, rfl⟩ := DataW.trod_bool ht h
  exact ⟨ρ, σ, [.bool b], b, Ext.refl _, hr, LR.cons (.bool _) (LR.nil _), by simp [hc], fun l hl => H_pure.2 ⟨rfl, hl⟩⟩
theorem AbsT.str {t : TypeId} (ht : P.underlying t = some .string) (hc : P.cellsOf t = 1) : AbsT P t (M := ByteArray) fun cs s => pure' (cs = [.string s] ∧ s.size ≤ reachBytes) := by
  intro H' enc W base held n cs x ρ σ hr h hw
  obtain ⟨s, rfl, rfl, _⟩ := DataW.trod_string ht h
  have := hw s.size (by simp [DataW.weights])
  exact ⟨ρ, σ, [.string s], s, Ext.refl _, hr, LR.cons (.string _) (LR.nil _), by simp [hc], fun l hl => H_pure.2 ⟨⟨rfl, this⟩, hl⟩⟩

theorem LR.take_one {ρ : List RB} {c : List Value} {c' : List Value} {off : Nat} (h : LR ρ c ((c'.drop off).take c.length)) : LR ρ c ((c'.drop off).take c.length) := h

theorem AbsT.slice {t e : TypeId} {M : Type} {A : List Value → M → Assn} (ht : P.underlying t = some (.slice e)) (hc : P.cellsOf t = 1) (hz : 0 < P.cellsOf e) (hE : AbsT P e A) :
    AbsT P t (M := List M) fun cs L => ex fun v => sep (pure' (cs = [v])) (RowsA (P.cellsOf e) (P.bytesOf e) A v L) := by
  intro H' enc W base held fuel cs x ρ σ hr h hw
  rcases open_slice ht h with ⟨rfl, rfl⟩ | ⟨a, len, cap, m, n, D, Pl, rfl, hb, hl, hm, hmm, rfl, hx⟩
  · refine ⟨ρ, σ, [.slice none 0 0], [], Ext.refl _, hr, LR.cons (.nilslice _ _ (by unfold OPEN; omega)) (LR.nil _), by simp [hc], fun l hl => H_ex.2 ⟨.slice none 0 0, ?_⟩⟩
    rw [H_sep]
    exact H_pure.2 ⟨rfl, H_rows.2 (.inl ⟨⟨rfl, .inl rfl⟩, hl⟩)⟩
  · simp only [if_true] at hmm
    subst hmm
    rcases Nat.eq_zero_or_pos m with rfl | hpos
    · have hl0 : len = 0 := by omega
      subst hl0
      refine ⟨ρ, σ, [.slice (some ⟨ZB, 0, some 0⟩) 0 0], [], Ext.refl _, hr, LR.cons (.zslice _ _) (LR.nil _), by simp [hc], fun l hl => H_ex.2 ⟨.slice (some ⟨ZB, 0, some 0⟩) 0 0, ?_⟩⟩
      rw [H_sep]
      exact H_pure.2 ⟨rfl, H_rows.2 (.inl ⟨⟨rfl, .inr rfl⟩, hl⟩)⟩
    · -- the block
      obtain ⟨cs0, hcells0, _⟩ := hx 0 hpos
      obtain ⟨_, hlen0, hcell0⟩ := World.cells?_some hcells0
      have hc00 := hcell0 0 hz
      have hsome : ∃ c' e' fz, W.heap[a.block]? = some (.cells c' e' fz) ∧ a.spot = none := by
        have h1 : W.cell? a = cs0[0]? := by simpa [Addr.add] using hc00
        have h2 : cs0[0]? = some (cs0[0]'(by omega)) := by simp
        rw [h2] at h1
        unfold World.cell? at h1
        split at h1
        · rename_i c' e' fz hh
          split at h1
          · cases h1
          · rename_i hs
            exact ⟨c', e', fz, hh, by simpa using hs⟩
        · cases h1
      obtain ⟨c', e', fz, hblk, hsp⟩ := hsome
      have hBlk : a.block < W.heap.size := (Array.getElem?_eq_some_iff.1 hblk).1
      -- the elements, one by one
      have key : ∀ j, j ≤ len → ∃ (ρ' : List RB) (σ' : AHeap) (css : List (List Value)) (L : List M), Ext ρ ρ' ∧ Rel W.heap.size W ρ' σ' W ∧ css.length = j ∧ L.length = j ∧ (∀ c ∈ css, c.length = P.cellsOf e) ∧
          LR ρ' css.flatten ((c'.toList.drop a.off).take (j * P.cellsOf e)) ∧ (a.off + j * P.cellsOf e ≤ c'.size ∨ j = 0) ∧ ∀ l, H l σ → H (Zip A css L :: l) σ' := by
        intro j
        induction j with
        | zero => intro _; exact ⟨ρ, σ, [], [], Ext.refl _, hr, rfl, rfl, by simp, by simpa using LR.nil _, .inr rfl, fun l hl => H_emp.2 hl⟩
        | succ j ih =>
          intro hj
          obtain ⟨ρ1, σ1, css, L, x1, x2, x3, x4, x5, x6, x7, x8⟩ := ih (by omega)
          obtain ⟨cs', hcells, htrod⟩ := hx j (by omega)
          obtain ⟨_, hlen, hcell⟩ := World.cells?_some hcells
          obtain ⟨ρ2, σ2, cs2, m2, y1, y2, y3, y4, y5⟩ := hE x2 htrod (by
            intro w hwm
            refine hw w ?_
            unfold DataW.weights
            rw [ht]
            simp only [List.mem_cons, List.mem_append]
            right; left
            have hmem : ∀ (l : List (DataW H')) (d : DataW H'), d ∈ l → ∀ w ∈ d.weights P e, w ∈ DataW.weightsAll P e l := by
              intro l d hd w hw
              induction l with
              | nil => simp at hd
              | cons z l ih =>
                unfold DataW.weightsAll
                rcases List.mem_cons.1 hd with rfl | hd
                · exact List.mem_append_left _ hw
                · exact List.mem_append_right _ (ih hd)
            exact hmem _ (D j) (List.mem_map.2 ⟨j, List.mem_range.2 (by omega), rfl⟩) w hwm)
          -- the cells as they stand in the block
          have hcs : ∀ i, i < P.cellsOf e → c'[a.off + j * P.cellsOf e + i]? = cs'[i]? := by
            intro i hi
            have := hcell i hi
            rw [show (a.add (j * P.cellsOf e)).add i = ⟨a.block, a.off + j * P.cellsOf e + i, none⟩ by
              rw [show a = ⟨a.block, a.off, none⟩ by cases a; simp at hsp; simp [hsp], add_mk, add_mk]] at this
            simpa [World.cell?, hblk] using this
          have hfit : a.off + (j + 1) * P.cellsOf e ≤ c'.size := by
            have h1 := hcs (P.cellsOf e - 1) (by omega)
            have h2 : cs'[P.cellsOf e - 1]? ≠ none := by simp; omega
            rw [← h1] at h2
            have h3 : a.off + j * P.cellsOf e + (P.cellsOf e - 1) < c'.size := by
              rcases Nat.lt_or_ge (a.off + j * P.cellsOf e + (P.cellsOf e - 1)) c'.size with q | q
              · exact q
              · exact absurd (Array.getElem?_eq_none q) h2
            rw [Nat.succ_mul]; omega
          refine ⟨ρ2, σ2, css ++ [cs2], L ++ [m2], x1.trans y1, y2, by simp [x3], by simp [x4], ?_, ?_, .inl hfit, ?_⟩
          · intro c hcm
            rcases List.mem_append.1 hcm with q | q
            · exact x5 c q
            · simp at q; subst q; exact y4
          · have hsplit : (c'.toList.drop a.off).take ((j + 1) * P.cellsOf e) = (c'.toList.drop a.off).take (j * P.cellsOf e) ++ cs' := by
              rw [Nat.succ_mul, List.take_add]
              congr 1
              rw [List.drop_drop]
              apply List.ext_getElem?
              intro i
              rw [List.getElem?_take]
              split
              · rename_i hi
                rw [List.getElem?_drop]
                have := hcs i hi
                simpa using this
              · rename_i hi
                exact (List.getElem?_eq_none (by omega)).symm
            rw [hsplit, List.flatten_append]
            exact (x6.mono y1).append (by simpa using y3)
          · intro l hl
            rw [Zip.snoc _ _ _ _ (by omega), H_sep]
            exact y5 _ (x8 l hl)
      obtain ⟨ρ1, σ1, css, L, x1, x2, x3, x4, x5, x6, x7, x8⟩ := key len (Nat.le_refl _)
      have hfl := flatten_len x5
      have hfit : a.off + css.flatten.length ≤ c'.size := by
        rw [hfl, x3]
        rcases x7 with q | q
        · exact q
        · subst q
          have h1 : c'[a.off]? ≠ none := by
            have h1 : W.cell? a = cs0[0]? := by simpa [Addr.add] using hc00
            have h2 : cs0[0]? = some (cs0[0]'(by omega)) := by simp
            rw [h2] at h1
            simp [World.cell?, hblk, hsp] at h1
            rw [h1]; simp
          have h3 : a.off < c'.size := by
            rcases Nat.lt_or_ge a.off c'.size with q | q
            · exact q
            · exact absurd (Array.getElem?_eq_none q) h1
          omega
      obtain ⟨z1, z2, z3⟩ := x2.pushRo hblk hBlk hfit (by rw [hfl, x3]; exact x6)
      refine ⟨_, _, [.slice (some ⟨σ1.size, 0, none⟩) len m], L, x1.trans z2, z1, ?_, by simp [hc], fun l hl => H_ex.2 ⟨.slice (some ⟨σ1.size, 0, none⟩) len m, ?_⟩⟩
      · refine LR.cons ?_ (LR.nil _)
        have hcap : m < OPEN := by unfold OPEN; unfold maxLen at hm; omega
        have := VR.slice σ1.size 0 len m m _ z3 (by unfold CapR; rw [if_pos hcap])
        have ha : a = ⟨a.block, a.off, none⟩ := by cases a; simp at hsp; simp [hsp]
        rw [ha]
        simpa using this
      · rw [H_sep]
        refine H_pure.2 ⟨rfl, H_rows.2 (.inr ⟨σ1.size, m, e', css, (x8 l hl).pushRo _, by rw [x4], by omega, by unfold OPEN; unfold maxLen at hm; omega, by omega, x5, ?_⟩)⟩
        rw [x4]
        have hwm := hw ((len + (m - len)) * P.bytesOf e) (by
          unfold DataW.weights
          rw [ht]
          simp)
        have : len * P.bytesOf e ≤ (len + (m - len)) * P.bytesOf e := Nat.mul_le_mul_right _ (by omega)
        omega

/-- Fields that stand one behind the other from a cell on. -/
def AbsF (P : Program) (l : List Field) (o tot : Nat) {M : Type} (A : List Value → M → Assn) : Prop :=
  ∀ ⦃H' : Type⦄ ⦃enc : TypeId × Value → H'⦄ ⦃W : World⦄ ⦃base : Nat⦄ ⦃held : Bool⦄ ⦃n : Nat⦄ ⦃cs : List Value⦄ ⦃xs : List (DataW H' × List MemPlace)⦄ ⦃ρ : List RB⦄ ⦃σ : AHeap⦄, Rel W.heap.size W ρ σ W →
    xs.length = l.length → (∀ (i : Nat) (f : Field), l[i]? = some f → DataW.trod enc P W base (fun _ => true) held n f.type ((cs.drop f.offset).take (P.cellsOf f.type)) = xs[i]?) → (∀ w ∈ DataW.weightsEach P (l.map (·.type)) (xs.map (·.1)), w ≤ reachBytes) →
    ∃ ρ' σ' cs' m, Ext ρ ρ' ∧ Rel W.heap.size W ρ' σ' W ∧ LR ρ' cs' ((cs.drop o).take tot) ∧ cs'.length = tot ∧ ∀ l, H l σ → H (A cs' m :: l) σ'
theorem AbsF.nil {P : Program} (o : Nat) : AbsF P [] o 0 (M := Unit) fun cs _ => pure' (cs = []) := by
  intro H' enc W base held n cs xs ρ σ hr _ _ _
  exact ⟨ρ, σ, [], (), Ext.refl _, hr, by simpa using LR.nil _, rfl, fun l hl => H_pure.2 ⟨rfl, hl⟩⟩
theorem AbsF.cons {P : Program} {f : Field} {l : List Field} {o tot z : Nat} {M N : Type} {A : List Value → M → Assn} {B : List Value → N → Assn} (ho : f.offset = o) (hz : P.cellsOf f.type = z) (hT : AbsT P f.type A) (hF : AbsF P l (o + z) tot B) :
    AbsF P (f :: l) o (z + tot) (M := M × N) fun cs m => ex fun p : List Value × List Value => sep (pure' (cs = p.1 ++ p.2 ∧ p.1.length = z)) (sep (A p.1 m.1) (B p.2 m.2)) := by
  intro H' enc W base held n cs xs ρ σ hr hlen hx hw
  subst hz
  cases xs with
  | nil => simp at hlen
  | cons x xs =>
    have h0 := hx 0 f rfl
    simp only [List.getElem?_cons_zero] at h0
    simp only [List.map_cons, DataW.weightsEach, List.mem_append] at hw
    obtain ⟨ρ1, σ1, c1, m1, x1, x2, x3, x4, x5⟩ := hT hr h0 (fun w hm => hw w (.inl hm))
    obtain ⟨ρ2, σ2, c2, m2, y1, y2, y3, y4, y5⟩ := hF x2 (by simpa using hlen) (fun i g hg => by simpa using hx (i + 1) g (by simpa using hg)) (fun w hm => hw w (.inr hm))
    refine ⟨ρ2, σ2, c1 ++ c2, (m1, m2), x1.trans y1, y2, ?_, by simp [x4, y4], fun l hl => H_ex.2 ⟨(c1, c2), ?_⟩⟩
    · rw [List.take_add]
      refine LR.append ?_ ?_
      · rw [← ho]; exact x3.mono y1
      · rw [List.drop_drop]; exact y3
    · rw [H_sep]
      refine H_pure.2 ⟨⟨rfl, x4⟩, ?_⟩
      rw [H_sep]
      have := y5 _ (x5 l hl)
      exact this.perm (List.Perm.swap _ _ _)
theorem AbsT.struct {P : Program} {t : TypeId} {fs : Array Field} {tot : Nat} {M : Type} {A : List Value → M → Assn} (ht : P.underlying t = some (.struct fs)) (hc : P.cellsOf t = tot) (hF : AbsF P fs.toList 0 tot A) : AbsT P t A := by
  intro H' enc W base held n cs x ρ σ hr h hw
  obtain ⟨xs, n', rfl, rfl, hlen, hxl, hx⟩ := DataW.trod_struct ht h
  obtain ⟨ρ1, σ1, c1, m1, x1, x2, x3, x4, x5⟩ := hF hr (by simpa using hxl) (fun i f hf => hx i f (by simpa using hf)) (by
    intro w hm
    refine hw w ?_
    unfold DataW.weights
    rw [ht]
    exact hm)
  refine ⟨ρ1, σ1, c1, m1, x1, x2, ?_, by rw [hc, x4], x5⟩
  have : (cs.drop 0).take tot = cs := by rw [List.drop_zero, List.take_of_length_le (by omega)]
  rwa [this] at x3
theorem AbsT.imp {P : Program} {t : TypeId} {M N : Type} {A : List Value → M → Assn} {B : List Value → N → Assn} (g : M → N) (h : AbsT P t A) (hi : ∀ cs m l σ, H (A cs m :: l) σ → H (B cs (g m) :: l) σ) : AbsT P t B := by
  intro H' enc W base held n cs x ρ σ hr h1 h2
  obtain ⟨ρ1, σ1, c1, m1, x1, x2, x3, x4, x5⟩ := h hr h1 h2
  exact ⟨ρ1, σ1, c1, g m1, x1, x2, x3, x4, fun l hl => hi _ _ _ _ (x5 l hl)⟩

/-! ### All arguments -/
def AllB : List (List Value × Assn) → List Assn := fun l => l.map (·.2)
theorem Rel.start (W : World) : Rel W.heap.size W [] ⟨0, .leaf⟩ W := Rel.empty W

/-- What was read stays as it is where only new blocks are made. -/
theorem trodAll_below {P : Program} {H' : Type} {enc : TypeId × Value → H'} {W W' : World} (hl : laidOutB P = true) (hm : mapsRowed P = true) (hz : ((List.range P.types.size).all fun t => match P.underlying t with | some (.slice e) => decide (0 < P.cellsOf e) | _ => true) = true)
    (hb : Below W.heap.size W W') {sp : Nat → Bool} : ∀ {ts : List TypeId} {vs : List Value} {ds : List (DataW H')} {ps : List MemPlace}, (∀ t ∈ ts, t < P.types.size) → DataW.TrodAll enc P W 0 (fun _ => true) true ts vs ds ps → (∀ p ∈ ps, sp p.block = true) →
    DataW.TrodAll enc P W' 0 sp true ts vs ds ps
  | [], [], [], ps, _, h, _ => h
  | t :: ts, v :: vs, d :: ds, ps, ht, ⟨p, q, ⟨n, h1⟩, h2, e⟩, hs => by
    refine ⟨p, q, ⟨n, ?_⟩, trodAll_below hl hm hz hb (fun u hu => ht u (List.mem_cons_of_mem _ hu)) h2 (fun x hx => hs x (by rw [e]; exact List.mem_append_right _ hx)), e⟩
    exact DataW.trod_stays (kids_rows hl hm) (fun ht hu => slices_full_of P hz _ _ ht hu) (fun h => by cases h) (ht t (List.mem_cons_self)) h1
      (fun x hx => hb.same (DataW.trod_lt n t _ _ h1 x hx)) (fun x hx => hs x (by rw [e]; exact List.mem_append_left _ hx))
end
end Go.Ax
namespace Go.Ax
open Go.RowKit

def hl (l : List (Nat × Hint)) (k : Nat) : Option Hint := l.lookup k
def L (b o : Nat) (σ : AHeap) : Option Value := aLoad false 1 (.pointer (some ⟨b, o, none⟩)) σ
def ldI (k : IntKind) (o : Option Value) (K : Int → Prop) : Prop := om o (tI k K)
def ldB (o : Option Value) (K : Bool → Prop) : Prop := om o (tB K)
def ldS (o : Option Value) (K : ByteArray → Prop) : Prop := om o (tS K)
def If (c : Bool) (A B : Prop) : Prop :=
  match c with
  | true => A
  | false => B
def Bi (e : Int) (K : Int → Prop) : Prop := K e
def On (v : Value) (p : Prop) : Prop := cond v.oneCell' p False
def w64 (n : Int) : Int := IntKind.i64.wrap n
def wu64 (n : Int) : Int := IntKind.u64.wrap n
def wu32 (n : Int) : Int := IntKind.u32.wrap n
def wu8 (n : Int) : Int := IntKind.u8.wrap n
def St (b o : Nat) (v : Value) (σ : AHeap) (K : AHeap → Prop) : Prop := pu (aStore 1 (.pointer (some ⟨b, o, none⟩)) v σ) K
def pQ (Q : RK) : WK := fun v σ => Q (.pan v) σ
def cI (Q : RK) (k : IntKind) (K : Int → AHeap → Prop) : RK := RP (fun v σ => tI k (fun n => K n σ) v) (pQ Q)
def cB (Q : RK) (K : Bool → AHeap → Prop) : RK := RP (fun v σ => tB (fun n => K n σ) v) (pQ Q)
def cS (Q : RK) (K : ByteArray → AHeap → Prop) : RK := RP (fun v σ => tS (fun n => K n σ) v) (pQ Q)
def cV (Q : RK) (K : WK) : RK := RP K (pQ Q)
def c0 (Q : RK) (K : AHeap → Prop) : RK := RP (r0 K) (pQ Q)
def c2 (Q : RK) (K : Value → Value → AHeap → Prop) : RK := RP (r2 K) (pQ Q)
def c3 (Q : RK) (K : Value → Value → Value → AHeap → Prop) : RK := RP (r3 K) (pQ Q)
def c4 (Q : RK) (K : Value → Value → Value → Value → AHeap → Prop) : RK := RP (r4 K) (pQ Q)

section
variable {Q : RK} {σ : AHeap}
@[simp] theorem cI_ret (k : IntKind) (K : Int → AHeap → Prop) (n : Int) : cI Q k K (.ret (.int k n)) σ = K n σ := by simp [cI, RP, tI]
@[simp] theorem cI_pan (k : IntKind) (K : Int → AHeap → Prop) (v : Value) : cI Q k K (.pan v) σ = Q (.pan v) σ := rfl
@[simp] theorem cB_ret (K : Bool → AHeap → Prop) (n : Bool) : cB Q K (.ret (.bool n)) σ = K n σ := rfl
@[simp] theorem cB_pan (K : Bool → AHeap → Prop) (v : Value) : cB Q K (.pan v) σ = Q (.pan v) σ := rfl
@[simp] theorem cS_ret (K : ByteArray → AHeap → Prop) (n : ByteArray) : cS Q K (.ret (.string n)) σ = K n σ := rfl
@[simp] theorem cV_ret (K : WK) (v : Value) : cV Q K (.ret v) σ = K v σ := rfl
@[simp] theorem cV_pan (K : WK) (v : Value) : cV Q K (.pan v) σ = Q (.pan v) σ := rfl
@[simp] theorem c0_ret (K : AHeap → Prop) : c0 Q K (.ret (.tuple #[])) σ = K σ := rfl
@[simp] theorem c0_pan (K : AHeap → Prop) (v : Value) : c0 Q K (.pan v) σ = Q (.pan v) σ := rfl
@[simp] theorem c2_ret (K : Value → Value → AHeap → Prop) (a b : Value) : c2 Q K (.ret (.tuple #[a, b])) σ = K a b σ := rfl
@[simp] theorem c2_pan (K : Value → Value → AHeap → Prop) (v : Value) : c2 Q K (.pan v) σ = Q (.pan v) σ := rfl
@[simp] theorem c3_ret (K : Value → Value → Value → AHeap → Prop) (a b c : Value) : c3 Q K (.ret (.tuple #[a, b, c])) σ = K a b c σ := rfl
@[simp] theorem c3_pan (K : Value → Value → Value → AHeap → Prop) (v : Value) : c3 Q K (.pan v) σ = Q (.pan v) σ := rfl
@[simp] theorem c4_ret (K : Value → Value → Value → Value → AHeap → Prop) (a b c d : Value) : c4 Q K (.ret (.tuple #[a, b, c, d])) σ = K a b c d σ := rfl
@[simp] theorem c4_pan (K : Value → Value → Value → Value → AHeap → Prop) (v : Value) : c4 Q K (.pan v) σ = Q (.pan v) σ := rfl
@[simp] theorem om_some (v : Value) (K : Value → Prop) : om (some v) K = K v := rfl
@[simp] theorem ldI_some (k : IntKind) (n : Int) (K : Int → Prop) : ldI k (some (.int k n)) K = K n := by simp [ldI, tI]
@[simp] theorem ldB_some (b : Bool) (K : Bool → Prop) : ldB (some (.bool b)) K = K b := rfl
@[simp] theorem ldS_some (s : ByteArray) (K : ByteArray → Prop) : ldS (some (.string s)) K = K s := rfl
@[simp] theorem tI_int (k : IntKind) (n : Int) (K : Int → Prop) : tI k K (.int k n) = K n := by simp [tI]
@[simp] theorem tB_bool (b : Bool) (K : Bool → Prop) : tB K (.bool b) = K b := rfl
@[simp] theorem tS_string (s : ByteArray) (K : ByteArray → Prop) : tS K (.string s) = K s := rfl
@[simp] theorem xExt0 (a b : Value) : xExt (.tuple #[a, b]) 0 = some a := rfl
@[simp] theorem xExt1 (a b : Value) : xExt (.tuple #[a, b]) 1 = some b := rfl
@[simp] theorem If_true (A B : Prop) : If true A B = A := rfl
@[simp] theorem If_false (A B : Prop) : If false A B = B := rfl
@[congr] theorem If_congr {c d : Bool} {A B : Prop} (h : c = d) : If c A B = If d A B := by rw [h]
@[congr] theorem om_congr {o p : Option Value} {K : Value → Prop} (h : o = p) : om o K = om p K := by rw [h]
@[congr] theorem ldI_congr {k : IntKind} {o p : Option Value} {K : Int → Prop} (h : o = p) : ldI k o K = ldI k p K := by rw [h]
@[congr] theorem ldB_congr {o p : Option Value} {K : Bool → Prop} (h : o = p) : ldB o K = ldB p K := by rw [h]
@[congr] theorem ldS_congr {o p : Option Value} {K : ByteArray → Prop} (h : o = p) : ldS o K = ldS p K := by rw [h]
@[congr] theorem Bi_congr {e d : Int} {K : Int → Prop} (h : e = d) : Bi e K = Bi d K := by rw [h]
@[congr] theorem tI_congr {k : IntKind} {v u : Value} {K : Int → Prop} (h : v = u) : tI k K v = tI k K u := by rw [h]
@[congr] theorem tB_congr {v u : Value} {K : Bool → Prop} (h : v = u) : tB K v = tB K u := by rw [h]
@[congr] theorem On_congr {v u : Value} {p : Prop} (h : v = u) : On v p = On u p := by rw [h]
@[congr] theorem St_congr {b o : Nat} {v u : Value} {σ : AHeap} {K : AHeap → Prop} (h : v = u) : St b o v σ K = St b o u σ K := by rw [h]
theorem On_one {v : Value} {p : Prop} (h : one v = true) (k : p) : On v p := by
  have h : v.oneCell' = true := h
  unfold On; rw [h]; exact k
theorem If_dec {p : Prop} [Decidable p] {A B : Prop} (h1 : p → A) (h2 : ¬ p → B) : If (decide p) A B := by
  by_cases h : p
  · rw [decide_eq_true h]; exact h1 h
  · rw [decide_eq_false h]; exact h2 h
theorem If_ne {p : Prop} [Decidable p] {A B : Prop} (h1 : ¬ p → A) (h2 : p → B) : If (!decide p) A B := by
  by_cases h : p
  · rw [decide_eq_true h]; exact h2 h
  · rw [decide_eq_false h]; exact h1 h
theorem If_b {c : Bool} {A B : Prop} (h1 : c = true → A) (h2 : c = false → B) : If c A B := by cases c; exact h2 rfl; exact h1 rfl
theorem If_t {c : Bool} {A B : Prop} (h : c = true) (k : A) : If c A B := by rw [h]; exact k
theorem If_f {c : Bool} {A B : Prop} (h : c = false) (k : B) : If c A B := by rw [h]; exact k
theorem bi {e m : Int} {K : Int → Prop} (h : e = m) (k : K m) : Bi e K := by rw [h]; exact k
theorem w64_eq {n : Int} (h : -9223372036854775808 ≤ n ∧ n < 9223372036854775808) : w64 n = n := wrap_i64 h
theorem wu64_eq {n : Int} (h : 0 ≤ n ∧ n < 18446744073709551616) : wu64 n = n := wrap_u64 h
theorem wu32_eq {n : Int} (h : 0 ≤ n ∧ n < 4294967296) : wu32 n = n := wrap_u32 h
theorem wu8_eq {n : Int} (h : 0 ≤ n ∧ n < 256) : wu8 n = n := wrap_u8 h
/-- A number that fits: m is another form of it. -/
theorem b64 {e : Int} {K : Int → Prop} (m : Int) (h : e = m ∧ -9223372036854775808 ≤ m ∧ m < 9223372036854775808) (k : K m) : Bi (w64 e) K := by
  rw [h.1, w64_eq h.2]; exact k
theorem bu64 {e : Int} {K : Int → Prop} (m : Int) (h : e = m ∧ 0 ≤ m ∧ m < 18446744073709551616) (k : K m) : Bi (wu64 e) K := by
  rw [h.1, wu64_eq h.2]; exact k
theorem bu32 {e : Int} {K : Int → Prop} (m : Int) (h : e = m ∧ 0 ≤ m ∧ m < 4294967296) (k : K m) : Bi (wu32 e) K := by
  rw [h.1, wu32_eq h.2]; exact k
theorem bu8 {e : Int} {K : Int → Prop} (m : Int) (h : e = m ∧ 0 ≤ m ∧ m < 256) (k : K m) : Bi (wu8 e) K := by
  rw [h.1, wu8_eq h.2]; exact k
end

/-! ### Finding assertions -/
class GetL (l : List Value) (i : Nat) (v : outParam Value) : Prop where
  eq : l[i]? = some v
instance (v : Value) (l : List Value) : GetL (v :: l) 0 v := ⟨rfl⟩
instance (v w : Value) (l : List Value) (i : Nat) [h : GetL l i v] : GetL (w :: l) (i + 1) v := ⟨by simpa using h.eq⟩
class SetL (l : List Value) (i : Nat) (v : Value) (l' : outParam (List Value)) : Prop where
  eq : l.set i v = l'
  lt : i < l.length
instance (u v : Value) (l : List Value) : SetL (u :: l) 0 v (v :: l) := ⟨rfl, by simp⟩
instance (u v : Value) (l l' : List Value) (i : Nat) [h : SetL l i v l'] : SetL (u :: l) (i + 1) v (u :: l') := ⟨by simp [h.eq], by simpa using h.lt⟩

/-- The assertion of a block, and the others. -/
class AtB (l : List Assn) (b : Nat) (A : outParam Assn) (r : outParam (List Assn)) : Prop where
  perm : l.Perm (A :: r)
instance (b : Nat) (o : AObj) (l : List Assn) : AtB (pt b o :: l) b (pt b o) l := ⟨.refl _⟩
instance (b : Nat) (o : AObj) (l : List Assn) : AtB (ro b o :: l) b (ro b o) l := ⟨.refl _⟩
instance (priority := 100) (A B : Assn) (l r : List Assn) (b : Nat) [h : AtB l b A r] : AtB (B :: l) b A (B :: r) := ⟨(h.perm.cons B).trans (.swap _ _ _)⟩
/-- The assertion of a value, and the others. -/
class AtV (l : List Assn) (v : Value) (A : outParam Assn) (r : outParam (List Assn)) : Prop where
  perm : l.Perm (A :: r)
instance (e z n : Nat) (v : Value) (xs : List Value) (l : List Assn) : AtV (Own e z v n xs :: l) v (Own e z v n xs) l := ⟨.refl _⟩
instance (v : Value) (x : List UInt8) (l : List Assn) : AtV (RoB v x :: l) v (RoB v x) l := ⟨.refl _⟩
instance {M : Type} (z y : Nat) (A : List Value → M → Assn) (v : Value) (x : List M) (l : List Assn) : AtV (RowsA z y A v x :: l) v (RowsA z y A v x) l := ⟨.refl _⟩
instance (priority := 100) (A B : Assn) (l r : List Assn) (v : Value) [h : AtV l v A r] : AtV (B :: l) v A (B :: r) := ⟨(h.perm.cons B).trans (.swap _ _ _)⟩
/-- An assertion as it stands, and the others. -/
class Fnd (l : List Assn) (A : Assn) (r : outParam (List Assn)) : Prop where
  perm : l.Perm (A :: r)
instance (A : Assn) (l : List Assn) : Fnd (A :: l) A l := ⟨.refl _⟩
instance (priority := 100) (A B : Assn) (l r : List Assn) [h : Fnd l A r] : Fnd (B :: l) A (B :: r) := ⟨(h.perm.cons B).trans (.swap _ _ _)⟩
/-- All of m are there. -/
class Sub (l m : List Assn) : Prop where
  ex : ∃ k, l.Perm (m ++ k)
instance (l : List Assn) : Sub l [] := ⟨l, .refl _⟩
instance (A : Assn) (l m r : List Assn) [h : Fnd l A r] [k : Sub r m] : Sub l (A :: m) := ⟨by
  obtain ⟨x, hx⟩ := k.ex
  exact ⟨x, h.perm.trans (hx.cons A)⟩⟩
section
variable {l r : List Assn} {σ : AHeap}
theorem H.to {m : List Assn} (h : H l σ) [k : Sub l m] : H m σ := by
  obtain ⟨x, hx⟩ := k.ex
  exact (h.perm hx).left
theorem H.atv (v : Value) {A : Assn} (h : H l σ) [k : AtV l v A r] : H (A :: r) σ := h.perm k.perm
theorem H.atb (b : Nat) {A : Assn} (h : H l σ) [k : AtB l b A r] : H (A :: r) σ := h.perm k.perm
theorem H.fnd (A : Assn) (h : H l σ) [k : Fnd l A r] : H (A :: r) σ := h.perm k.perm

/-- Of a block that is had: its row. -/
class Row (l : List Assn) (b : Nat) (c : outParam (List Value)) : Prop where
  row : ∀ σ, H l σ → σ.row b = some c
instance (b : Nat) (c : List Value) (e : TypeId) (q : Bool) (l : List Assn) : Row (pt b (.cells c e q) :: l) b c := ⟨fun _ h => row_cells h.get0.1⟩
instance (b : Nat) (c : List Value) (e : TypeId) (q : Bool) (l : List Assn) : Row (ro b (.cells c e q) :: l) b c := ⟨fun _ h => row_cells h.rget0.1⟩
instance (b : Nat) (c : List Value) (e : TypeId) (l : List Assn) : Row (ro b (.ro c e) :: l) b c := ⟨fun _ h => row_ro h.rget0.1⟩
instance (priority := 100) (A : Assn) (b : Nat) (c : List Value) (l : List Assn) [k : Row l b c] : Row (A :: l) b c := ⟨fun σ h => k.row σ h.tail⟩

theorem L_eq {b o : Nat} {c : List Value} {v : Value} (h : H l σ) [k : Row l b c] [g : GetL c o v] : L b o σ = some v := by
  unfold L
  rw [load1 (k.row σ h), g.eq]
theorem ld {b o : Nat} {c : List Value} {v : Value} {K : Value → Prop} (h : H l σ) [Row l b c] [GetL c o v] (k : K v) : om (L b o σ) K := by rw [L_eq h]; exact k
theorem ldi {b o : Nat} {c : List Value} {ik : IntKind} {n : Int} {K : Int → Prop} (h : H l σ) [Row l b c] [GetL c o (.int ik n)] (k : K n) : ldI ik (L b o σ) K := by rw [L_eq h]; simpa using k
theorem ldb {b o : Nat} {c : List Value} {n : Bool} {K : Bool → Prop} (h : H l σ) [Row l b c] [GetL c o (.bool n)] (k : K n) : ldB (L b o σ) K := by rw [L_eq h]; exact k
theorem lds {b o : Nat} {c : List Value} {n : ByteArray} {K : ByteArray → Prop} (h : H l σ) [Row l b c] [GetL c o (.string n)] (k : K n) : ldS (L b o σ) K := by rw [L_eq h]; exact k
/-- A cell of a block that is owned is written. -/
theorem st {b o : Nat} {c c' : List Value} {e : TypeId} {q : Bool} {v : Value} {K : AHeap → Prop} (h : H l σ) [f : AtB l b (pt b (.cells c e q)) r] [g : SetL c o v c'] (hv : one v = true) (k : ∀ σ', H (pt b (.cells c' e q) :: r) σ' → K σ') : St b o v σ K := by
  unfold St
  refine store1 (h.perm f.perm) 0 rfl hv g.lt fun σ' h' => k σ' ?_
  rw [g.eq] at h'
  exact h'
theorem nw {o : AObj} {K : Nat → AHeap → Prop} (h : H l σ) (k : ∀ b σ', H (pt b o :: l) σ' → K b σ') : wNew σ o K := new_ok h fun b σ' h' => k b σ' h'.unsnoc
end
end Go.Ax
namespace Go.Ax.C
open Go.Proofs
noncomputable abbrev P : Program := Try.prog
theorem E_ex : ∃ e : EvT, e = Ev P := ⟨_, rfl⟩
/-- What is told of calls; chosen, so that nobody unfolds it. -/
noncomputable def E : EvT := Classical.choose E_ex
theorem E_eq : E = Ev P := Classical.choose_spec E_ex
theorem mixed : P.follows .mixedOrders = true := Try.checked.mixed
theorem exfn {f : FuncId} {fn : Func} (hf : P.funcs[f]? = some fn) (h : Nat → Option Hint) (kd : Nat → VT) (hc : fnChk fn h = true) {args : List Value} {σ : AHeap} {Q : RK} (hx : xfn P E fn h kd args σ Q) : E f args σ Q := by
  rw [E_eq] at hx ⊢
  exact Ev.xfn mixed hf h kd hc hx

end Go.Ax.C
namespace Go.Ax
abbrev f_bytes_Clone : FuncId := 67
abbrev f_bytes_Equal : FuncId := 23
abbrev f_bytes_Repeat : FuncId := 63
abbrev f_cache_Cache_Dirty : FuncId := 44
abbrev f_cache_Cache_Drop : FuncId := 53
abbrev f_cache_Cache_Flush : FuncId := 45
abbrev f_cache_Cache_Get : FuncId := 38
abbrev f_cache_Cache_Held : FuncId := 40
abbrev f_cache_Cache_Put : FuncId := 42
abbrev f_cache_Cache_ready : FuncId := 75
abbrev f_cache_Cache_room : FuncId := 76
abbrev f_cache_Cache_use : FuncId := 77
abbrev f_cache_Cache_write : FuncId := 79
abbrev f_cache_New : FuncId := 37
abbrev f_cache_row_Len : FuncId := 164
abbrev f_cache_row_Less : FuncId := 165
abbrev f_cache_row_Pop : FuncId := 167
abbrev f_cache_row_Push : FuncId := 168
abbrev f_cache_row_Swap : FuncId := 166
abbrev f_disk_Disk_Barrier : FuncId := 18
abbrev f_disk_Disk_Blocks : FuncId := 28
abbrev f_disk_Disk_Copy : FuncId := 34
abbrev f_disk_Disk_Crash : FuncId := 22
abbrev f_disk_Disk_Flight : FuncId := 19
abbrev f_disk_Disk_Fuse : FuncId := 25
abbrev f_disk_Disk_Off : FuncId := 24
abbrev f_disk_Disk_Read : FuncId := 20
abbrev f_disk_Disk_Write : FuncId := 15
abbrev f_disk_Disk_Write_c1 : FuncId := 66
abbrev f_disk_Disk_burn : FuncId := 65
abbrev f_disk_Disk_land : FuncId := 68
abbrev f_disk_Disk_ready : FuncId := 64
abbrev f_disk_New : FuncId := 13
abbrev f_heap_Fix : FuncId := 103
abbrev f_heap_Pop : FuncId := 101
abbrev f_heap_Push : FuncId := 102
abbrev f_heap_down : FuncId := 115
abbrev f_heap_up : FuncId := 116
abbrev f_internal_bytealg_MakeNoZero : FuncId := 100
abbrev f_law03_Full : FuncId := 26
abbrev f_law05_CacheUnseen : FuncId := 12
abbrev f_law05_CacheWrites : FuncId := 8
abbrev f_law05_block : FuncId := 39
abbrev f_law05_same : FuncId := 43
abbrev f_law05_wakes : FuncId := 41
abbrev f_law05_within : FuncId := 36
abbrev f_math_bits_Mul : FuncId := 99
abbrev f_math_bits_Mul64 : FuncId := 114
abbrev f_slices_Clone_sl_disk_flight_disk_flight : FuncId := 73
abbrev f_slices_Sort_sl_int_int : FuncId := 78
abbrev t_a20_bool : TypeId := 63
abbrev t_a24_sl_uint8 : TypeId := 104
abbrev t_cache_Cache : TypeId := 93
abbrev t_cache_item : TypeId := 123
abbrev t_disk_Disk : TypeId := 88
abbrev t_disk_flight : TypeId := 110
abbrev t_int : TypeId := 3
abbrev t_m_int_p_cache_item : TypeId := 89
abbrev t_p_cache_item : TypeId := 121
abbrev t_p_cache_row : TypeId := 160
abbrev t_p_disk_Disk : TypeId := 24
abbrev t_sl_uint8 : TypeId := 23
abbrev t_string : TypeId := 9
abbrev t_uint8 : TypeId := 5
end Go.Ax
namespace Go.Ax
def RQ (Q : WK) : RK := RP Q noP
end Go.Ax
namespace Go.Ax.O
open Go.Proofs
noncomputable abbrev P : Program := C.P
noncomputable def E (f : FuncId) (a : List Value) (σ : AHeap) (Q : WK) : Prop := C.E f a σ (RP Q noP)
theorem C_mono {f : FuncId} {args : List Value} {σ : AHeap} {Q Q' : RK} (h : C.E f args σ Q) (hq : ∀ r σ', Q r σ' → Q' r σ') : C.E f args σ Q' := by
  rw [C.E_eq] at h ⊢
  exact h.mono hq
theorem E_mono {f : FuncId} {args : List Value} {σ : AHeap} {Q Q' : WK} (h : E f args σ Q) (hq : ∀ v σ', Q v σ' → Q' v σ') : E f args σ Q' :=
  C_mono h fun r σ' hr => by
    cases r with
    | ret v => exact hq v σ' hr
    | pan v => exact hr
@[congr] theorem E_congr {f : FuncId} {a a' : List Value} {σ σ' : AHeap} {Q : WK} (h : a = a') (g : σ = σ') : E f a σ Q = E f a' σ' Q := by rw [h, g]
theorem owfn {f : FuncId} {fn : Func} (hf : P.funcs[f]? = some fn) (h : Nat → Option Hint) (hc : fnChk fn h = true) {args : List Value} {σ : AHeap} {Q : WK} (hx : wfn P C.E fn h args σ (RQ Q)) : E f args σ Q := by
  unfold E
  rw [C.E_eq] at hx ⊢
  exact Ev.fn C.mixed hf h hc hx
/-- From the first generation's to this one's. -/
theorem up {f : FuncId} {args : List Value} {σ : AHeap} {Q : RK} (h : E f args σ fun v τ => Q (.ret v) τ) : C.E f args σ Q :=
  C_mono h fun r σ' hr => by
    cases r with
    | ret v => exact hr
    | pan v => exact hr.elim
theorem down {f : FuncId} {args : List Value} {σ : AHeap} {Q : WK} (h : C.E f args σ (RP Q noP)) : E f args σ Q := h
theorem nobodyZ : NoBody P f_internal_bytealg_MakeNoZero (Extern.BytealgMakeNoZero.makeNoZero #[t_int] #[t_sl_uint8]) :=
  ⟨Try.f100, by kernel_rfl, by kernel_rfl, by kernel_rfl, by kernel_rfl, by kernel_rfl⟩
theorem E_noZero {σ : AHeap} {n : Int} {Q : WK} (hn : 0 ≤ n ∧ n ≤ 140737488355328) (h : Q (.slice (some ⟨σ.size, 0, none⟩) n.toNat (OPEN * 1 + n.toNat)) (σ.push (.cells (List.replicate n.toNat undef) t_uint8 true))) : E f_internal_bytealg_MakeNoZero [.int .i64 n] σ Q := by
  unfold E
  rw [C.E_eq]
  exact Ev.ext (x := aMakeNoZero t_uint8) (fun args σ R hx B w0 ρ w args' h ha => makeNoZero_ok (t := t_sl_uint8) nobodyZ rfl (by kernel_rfl) hx h ha) (L := [(.slice (some ⟨σ.size, 0, none⟩) n.toNat (OPEN * 1 + n.toNat), σ.push (.cells (List.replicate n.toNat undef) t_uint8 true))]) (by simp [aMakeNoZero, hn]) fun r hr => by simp at hr; subst hr; exact h
theorem noZero_ok {l : List Assn} {σ : AHeap} {n : Int} {Q : WK} (h : H l σ) (hn : 0 ≤ n ∧ n ≤ 140737488355328) (hk : ∀ b σ', H (l ++ [pt b (.cells (List.replicate n.toNat undef) t_uint8 true)]) σ' → Q (.slice (some ⟨b, 0, none⟩) n.toNat (OPEN * 1 + n.toNat)) σ') : E f_internal_bytealg_MakeNoZero [.int .i64 n] σ Q :=
  E_noZero hn (hk _ _ (h.push _))
end Go.Ax.O
set_option linter.unusedVariables false
set_option maxRecDepth 100000
namespace Go.Ax.O
open Go.Proofs
/-- bytes.Clone -/
def o_bytes_Clone (Q : WK) (x0 : Value) (σ : AHeap) : Prop :=
  pu (aBin (some (.slice t_uint8)) .eql x0 (.slice none 0 0)) fun v4_3 =>
  wC v4_3 (
  Q (.slice none 0 0) σ) (
  pu (aAppend t_uint8 1 1 (.slice (some ⟨ZB, 0, some 0⟩) 0 0) x0 σ) fun r7_8 =>
  Q r7_8.1 r7_8.2)

theorem o_bytes_Clone_eq (Q : WK) (x0 : Value) (σ : AHeap) : wfn P C.E Try.f67 (fun _ => none) [x0] σ (RQ Q) = o_bytes_Clone Q x0 σ := by kernel_rfl

theorem o_bytes_Clone_ev {Q : WK} {x0 : Value} {σ : AHeap} (h : o_bytes_Clone Q x0 σ) : E f_bytes_Clone [x0] σ Q := owfn Try.func67 _ (by kernel_rfl) (Eq.mpr (o_bytes_Clone_eq Q x0 σ) h)

/-- bytes.Equal -/
def o_bytes_Equal (Q : WK) (x0 x1 : Value) (σ : AHeap) : Prop :=
  pu (aConv P t_sl_uint8 t_string x0 σ) fun v6_3 =>
  pu (aConv P t_sl_uint8 t_string x1 σ) fun v8_5 =>
  pu (aBin (some .string) .eql v6_3 v8_5) fun v9_6 =>
  Q v9_6 σ

theorem o_bytes_Equal_eq (Q : WK) (x0 x1 : Value) (σ : AHeap) : wfn P C.E Try.f23 (fun _ => none) [x0, x1] σ (RQ Q) = o_bytes_Equal Q x0 x1 σ := by kernel_rfl

theorem o_bytes_Equal_ev {Q : WK} {x0 x1 : Value} {σ : AHeap} (h : o_bytes_Equal Q x0 x1 σ) : E f_bytes_Equal [x0, x1] σ Q := owfn Try.func23 _ (by kernel_rfl) (Eq.mpr (o_bytes_Equal_eq Q x0 x1 σ) h)

def o_bytes_Repeat_b1 (N1 : Value → Value → Value → Value → AHeap → Prop) (Q : WK) (x7_67 x8_68 x9_69 x10_70 : Value) (τ_71 : AHeap) : Prop :=
  pu (aBin (some (.int .i64)) .lss x10_70 x7_67) fun v63_72 =>
  wC v63_72 (
  pu (aMin2 x10_70 x8_68) fun v66_78 =>
  pu (aSlice 1 x9_69 (some x10_70) none none) fun v70_82 =>
  pu (aSlice 1 x9_69 none (some v66_78) none) fun v73_84 =>
  pu (aCopy 1 v70_82 v73_84 τ_71) fun r74_85 =>
  pu (aBin (some (.int .i64)) .add x10_70 r74_85.1) fun v75_86 =>
  N1 x7_67 x8_68 x9_69 v75_86 r74_85.2) (
  Q x9_69 τ_71)

def o_bytes_Repeat_k16 (Q : WK) (p7_58 p0_105 p8_106 : Value) (τ_57 : AHeap) : Prop :=
  E f_internal_bytealg_MakeNoZero [p7_58] τ_57 fun v54_59 τ_60 =>
  pu (aSlice 1 v54_59 none (some p7_58) (some p7_58)) fun v57_61 =>
  pu (aCopy 1 v57_61 p0_105 τ_60) fun r60_65 =>
  ∃ I_97 : Nat → Value → Value → Value → Value → AHeap → Prop, (∃ m, I_97 m p7_58 p8_106 v57_61 r60_65.1 r60_65.2) ∧
  ∀ m (x7_67' x8_68' x9_69' x10_70' : Value) (σ' : AHeap), I_97 m x7_67' x8_68' x9_69' x10_70' σ' → (o_bytes_Repeat_b1 (fun x7_67' x8_68' x9_69' x10_70' σ' => ∃ m', m' < m ∧ I_97 m' x7_67' x8_68' x9_69' x10_70' σ') Q x7_67' x8_68' x9_69' x10_70' σ')

def o_bytes_Repeat_k7 (Q : WK) (p32_27 p6_120 p0_121 : Value) (τ_26 : AHeap) : Prop :=
  wC p32_27 (
  pu (aIface P t_string (.string ⟨#[98, 121, 116, 101, 115, 58, 32, 82, 101, 112, 101, 97, 116, 32, 111, 117, 116, 112, 117, 116, 32, 108, 101, 110, 103, 116, 104, 32, 111, 118, 101, 114, 102, 108, 111, 119]⟩)) fun v33_28 =>
  wPan v33_28 τ_26 noP) (
  pu (convI .i64 p6_120) fun v35_31 =>
  pu (lenS p0_121) fun v37_34 =>
  pu (aBin (some (.int .i64)) .eql v37_34 (.int .i64 0)) fun v38_35 =>
  wC v38_35 (
  Q (.slice (some ⟨ZB, 0, some 0⟩) 0 0) τ_26) (
  pu (aBin (some (.int .i64)) .gtr v35_31 (.int .i64 8192)) fun v42_42 =>
  wC v42_42 (
  pu (lenS p0_121) fun v44_46 =>
  pu (aBin (some (.int .i64)) .quo (.int .i64 8192) v44_46) fun v45_47 =>
  pu (lenS p0_121) fun v47_48 =>
  pu (aBin (some (.int .i64)) .mul v45_47 v47_48) fun v48_49 =>
  pu (aBin (some (.int .i64)) .eql v48_49 (.int .i64 0)) fun v50_52 =>
  wC v50_52 (
  pu (lenS p0_121) fun v52_56 =>
  (o_bytes_Repeat_k16 Q v35_31 p0_121 v52_56 τ_26)) (
  (o_bytes_Repeat_k16 Q v35_31 p0_121 v48_49 τ_26))) (
  (o_bytes_Repeat_k16 Q v35_31 p0_121 v35_31 τ_26))))

/-- bytes.Repeat -/
def o_bytes_Repeat (Q : WK) (x0 x1 : Value) (σ : AHeap) : Prop :=
  pu (aBin (some (.int .i64)) .eql x1 (.int .i64 0)) fun v13_3 =>
  wC v13_3 (
  Q (.slice (some ⟨ZB, 0, some 0⟩) 0 0) σ) (
  pu (aBin (some (.int .i64)) .lss x1 (.int .i64 0)) fun v16_8 =>
  wC v16_8 (
  pu (aIface P t_string (.string ⟨#[98, 121, 116, 101, 115, 58, 32, 110, 101, 103, 97, 116, 105, 118, 101, 32, 82, 101, 112, 101, 97, 116, 32, 99, 111, 117, 110, 116]⟩)) fun v17_11 =>
  wPan v17_11 σ noP) (
  pu (lenS x0) fun v20_14 =>
  pu (convI .u64 v20_14) fun v21_15 =>
  pu (convI .u64 x1) fun v23_17 =>
  E f_math_bits_Mul [v21_15, v23_17] σ fun v24_18 τ_19 =>
  pu (aExtract v24_18 0) fun v25_20 =>
  pu (aExtract v24_18 1) fun v26_21 =>
  pu (aBin (some (.int .u64)) .gtr v25_20 (.int .u64 0)) fun v28_24 =>
  wG v28_24 (
  (o_bytes_Repeat_k7 Q (.bool true) v26_21 x0 τ_19)) (
  pu (aBin (some (.int .u64)) .gtr v26_21 (.int .u64 9223372036854775807)) fun v31_124 =>
  (o_bytes_Repeat_k7 Q v31_124 v26_21 x0 τ_19)) (
  wB v28_24 fun b_126 =>
  (o_bytes_Repeat_k7 Q (cond b_126 (.bool true) skipV) v26_21 x0 τ_19))))

theorem o_bytes_Repeat_eq (Q : WK) (x0 x1 : Value) (σ : AHeap) : wfn P C.E Try.f63 (hl [(7, .loopj [7, 8, 9, 10] [9] [7, 8, 9, 10]), (10, .ord [(0, []), (1, []), (2, []), (3, []), (4, []), (5, []), (6, []), (7, []), (8, []), (9, [])])]) [x0, x1] σ (RQ Q) = o_bytes_Repeat Q x0 x1 σ := by kernel_rfl

theorem o_bytes_Repeat_ev {Q : WK} {x0 x1 : Value} {σ : AHeap} (h : o_bytes_Repeat Q x0 x1 σ) : E f_bytes_Repeat [x0, x1] σ Q := owfn Try.func63 _ (by kernel_rfl) (Eq.mpr (o_bytes_Repeat_eq Q x0 x1 σ) h)

def o_cache_Cache_Get_k12 (Q : WK) (p0_57 p1_58 : Value) (τ_56 : AHeap) : Prop :=
  E f_cache_Cache_use [p0_57, p1_58] τ_56 fun v48_59 τ_60 =>
  pu (aNil v48_59) fun v49_61 =>
  pu (aFieldAddr 4 v49_61) fun v50_62 =>
  pu (aLoad false 1 v50_62 τ_60) fun v51_63 =>
  E f_bytes_Clone [v51_63] τ_60 fun v52_64 τ_65 =>
  Q (.tuple #[v52_64, (.int .i64 0)]) τ_65

/-- (*cistern/cache.Cache).Get -/
def o_cache_Cache_Get (Q : WK) (x0 x1 : Value) (σ : AHeap) : Prop :=
  E f_cache_Cache_ready [x0, x1] σ fun v12_4 τ_5 =>
  pu (aBin (some (.int .i64)) .neq v12_4 (.int .i64 0)) fun v14_8 =>
  wC v14_8 (
  Q (.tuple #[(.slice none 0 0), v12_4]) τ_5) (
  pu (aNil x0) fun v17_14 =>
  pu (aFieldAddr 3 v17_14) fun v18_15 =>
  pu (aLoad false 1 v18_15 τ_5) fun v19_16 =>
  pu (aLookup P t_m_int_p_cache_item v19_16 x1 false τ_5) fun v21_18 =>
  pu (aBin (some (.pointer t_cache_item)) .eql v21_18 (.pointer none)) fun v22_19 =>
  wC v22_19 (
  E f_cache_Cache_room [x0] τ_5 fun v24_23 τ_24 =>
  pu (aBin (some (.int .i64)) .neq v24_23 (.int .i64 0)) fun v26_27 =>
  wC v26_27 (
  Q (.tuple #[(.slice none 0 0), v24_23]) τ_24) (
  pu (aNil x0) fun v30_33 =>
  pu (aFieldAddr 0 v30_33) fun v31_34 =>
  pu (aLoad false 1 v31_34 τ_24) fun v32_35 =>
  E f_disk_Disk_Read [v32_35, x1] τ_24 fun v34_37 τ_38 =>
  pu (aExtract v34_37 0) fun v35_39 =>
  pu (aExtract v34_37 1) fun v36_40 =>
  pu (aBin (some (.int .i64)) .neq v36_40 (.int .i64 0)) fun v38_43 =>
  wC v38_43 (
  Q (.tuple #[(.slice none 0 0), v36_40]) τ_38) (
  E f_cache_Cache_use [x0, x1] τ_38 fun v42_50 τ_51 =>
  pu (aNil v42_50) fun v44_53 =>
  pu (aFieldAddr 4 v44_53) fun v45_54 =>
  pu (aStore 1 v45_54 v35_39 τ_51) fun τ_55 =>
  (o_cache_Cache_Get_k12 Q x0 x1 τ_55)))) (
  (o_cache_Cache_Get_k12 Q x0 x1 τ_5)))

theorem o_cache_Cache_Get_eq (Q : WK) (x0 x1 : Value) (σ : AHeap) : wfn P C.E Try.f38 (fun _ => none) [x0, x1] σ (RQ Q) = o_cache_Cache_Get Q x0 x1 σ := by kernel_rfl

theorem o_cache_Cache_Get_ev {Q : WK} {x0 x1 : Value} {σ : AHeap} (h : o_cache_Cache_Get Q x0 x1 σ) : E f_cache_Cache_Get [x0, x1] σ Q := owfn Try.func38 _ (by kernel_rfl) (Eq.mpr (o_cache_Cache_Get_eq Q x0 x1 σ) h)

/-- (*cistern/cache.Cache).Held -/
def o_cache_Cache_Held (Q : WK) (x0 : Value) (σ : AHeap) : Prop :=
  pu (aBin (some (.pointer t_cache_Cache)) .eql x0 (.pointer none)) fun v4_3 =>
  wC v4_3 (
  Q (.int .i64 0) σ) (
  pu (aNil x0) fun v6_8 =>
  pu (aFieldAddr 4 v6_8) fun v7_9 =>
  pu (aLoad false 1 v7_9 σ) fun v8_10 =>
  pu (lenS v8_10) fun v9_11 =>
  Q v9_11 σ)

theorem o_cache_Cache_Held_eq (Q : WK) (x0 : Value) (σ : AHeap) : wfn P C.E Try.f40 (fun _ => none) [x0] σ (RQ Q) = o_cache_Cache_Held Q x0 σ := by kernel_rfl

theorem o_cache_Cache_Held_ev {Q : WK} {x0 : Value} {σ : AHeap} (h : o_cache_Cache_Held Q x0 σ) : E f_cache_Cache_Held [x0] σ Q := owfn Try.func40 _ (by kernel_rfl) (Eq.mpr (o_cache_Cache_Held_eq Q x0 σ) h)

def o_cache_Cache_Put_k10 (Q : WK) (p0_38 p1_39 p2_54 : Value) (τ_37 : AHeap) : Prop :=
  E f_cache_Cache_use [p0_38, p1_39] τ_37 fun v33_40 τ_41 =>
  E f_bytes_Clone [p2_54] τ_41 fun v37_45 τ_46 =>
  pu (aNil v33_40) fun v38_47 =>
  pu (aFieldAddr 4 v38_47) fun v39_48 =>
  pu (aStore 1 v39_48 v37_45 τ_46) fun τ_49 =>
  pu (aNil v33_40) fun v40_50 =>
  pu (aFieldAddr 3 v40_50) fun v41_51 =>
  pu (aStore 1 v41_51 (.bool true) τ_49) fun τ_52 =>
  Q (.int .i64 0) τ_52

/-- (*cistern/cache.Cache).Put -/
def o_cache_Cache_Put (Q : WK) (x0 x1 x2 : Value) (σ : AHeap) : Prop :=
  E f_cache_Cache_ready [x0, x1] σ fun v12_4 τ_5 =>
  pu (aBin (some (.int .i64)) .neq v12_4 (.int .i64 0)) fun v14_8 =>
  wC v14_8 (
  Q v12_4 τ_5) (
  pu (lenS x2) fun v17_14 =>
  pu (aBin (some (.int .i64)) .neq v17_14 (.int .i64 256)) fun v18_15 =>
  wC v18_15 (
  Q (.int .i64 1) τ_5) (
  pu (aNil x0) fun v20_20 =>
  pu (aFieldAddr 3 v20_20) fun v21_21 =>
  pu (aLoad false 1 v21_21 τ_5) fun v22_22 =>
  pu (aLookup P t_m_int_p_cache_item v22_22 x1 false τ_5) fun v24_24 =>
  pu (aBin (some (.pointer t_cache_item)) .eql v24_24 (.pointer none)) fun v25_25 =>
  wC v25_25 (
  E f_cache_Cache_room [x0] τ_5 fun v27_29 τ_30 =>
  pu (aBin (some (.int .i64)) .neq v27_29 (.int .i64 0)) fun v29_33 =>
  wC v29_33 (
  Q v27_29 τ_30) (
  (o_cache_Cache_Put_k10 Q x0 x1 x2 τ_30))) (
  (o_cache_Cache_Put_k10 Q x0 x1 x2 τ_5))))

theorem o_cache_Cache_Put_eq (Q : WK) (x0 x1 x2 : Value) (σ : AHeap) : wfn P C.E Try.f42 (fun _ => none) [x0, x1, x2] σ (RQ Q) = o_cache_Cache_Put Q x0 x1 x2 σ := by kernel_rfl

theorem o_cache_Cache_Put_ev {Q : WK} {x0 x1 x2 : Value} {σ : AHeap} (h : o_cache_Cache_Put Q x0 x1 x2 σ) : E f_cache_Cache_Put [x0, x1, x2] σ Q := owfn Try.func42 _ (by kernel_rfl) (Eq.mpr (o_cache_Cache_Put_eq Q x0 x1 x2 σ) h)

def o_cache_Cache_ready_k4 (Q : WK) (p21_19 : Value) (τ_18 : AHeap) : Prop :=
  wC p21_19 (
  Q (.int .i64 6) τ_18) (
  Q (.int .i64 0) τ_18)

def o_cache_Cache_ready_k2 (Q : WK) (p5_6 p0_7 p1_30 : Value) (τ_5 : AHeap) : Prop :=
  wC p5_6 (
  Q (.int .i64 2) τ_5) (
  pu (aNil p0_7) fun v17_8 =>
  pu (aFieldAddr 0 v17_8) fun v18_9 =>
  pu (aLoad false 1 v18_9 τ_5) fun v19_10 =>
  E f_disk_Disk_Off [v19_10] τ_5 fun v20_11 τ_12 =>
  wC v20_11 (
  Q (.int .i64 9) τ_12) (
  pu (aBin (some (.int .i64)) .lss p1_30 (.int .i64 0)) fun v23_16 =>
  wG v23_16 (
  (o_cache_Cache_ready_k4 Q (.bool true) τ_12)) (
  pu (aNil p0_7) fun v27_22 =>
  pu (aFieldAddr 0 v27_22) fun v28_23 =>
  pu (aLoad false 1 v28_23 τ_12) fun v29_24 =>
  E f_disk_Disk_Blocks [v29_24] τ_12 fun v30_25 τ_26 =>
  pu (aBin (some (.int .i64)) .geq p1_30 v30_25) fun v31_27 =>
  (o_cache_Cache_ready_k4 Q v31_27 τ_26)) (
  wB v23_16 fun b_29 =>
  (o_cache_Cache_ready_k4 Q (cond b_29 (.bool true) skipV) τ_12))))

/-- (*cistern/cache.Cache).ready -/
def o_cache_Cache_ready (Q : WK) (x0 x1 : Value) (σ : AHeap) : Prop :=
  pu (aBin (some (.pointer t_cache_Cache)) .eql x0 (.pointer none)) fun v7_3 =>
  wG v7_3 (
  (o_cache_Cache_ready_k2 Q (.bool true) x0 x1 σ)) (
  pu (aNil x0) fun v10_32 =>
  pu (aFieldAddr 0 v10_32) fun v11_33 =>
  pu (aLoad false 1 v11_33 σ) fun v12_34 =>
  pu (aBin (some (.pointer t_disk_Disk)) .eql v12_34 (.pointer none)) fun v13_35 =>
  (o_cache_Cache_ready_k2 Q v13_35 x0 x1 σ)) (
  wB v7_3 fun b_37 =>
  (o_cache_Cache_ready_k2 Q (cond b_37 (.bool true) skipV) x0 x1 σ))

theorem o_cache_Cache_ready_eq (Q : WK) (x0 x1 : Value) (σ : AHeap) : wfn P C.E Try.f75 (fun _ => none) [x0, x1] σ (RQ Q) = o_cache_Cache_ready Q x0 x1 σ := by kernel_rfl

theorem o_cache_Cache_ready_ev {Q : WK} {x0 x1 : Value} {σ : AHeap} (h : o_cache_Cache_ready Q x0 x1 σ) : E f_cache_Cache_ready [x0, x1] σ Q := owfn Try.func75 _ (by kernel_rfl) (Eq.mpr (o_cache_Cache_ready_eq Q x0 x1 σ) h)

/-- (*cistern/cache.Cache).room -/
def o_cache_Cache_room (Q : WK) (x0 : Value) (σ : AHeap) : Prop :=
  pu (aNil x0) fun v6_3 =>
  pu (aFieldAddr 4 v6_3) fun v7_4 =>
  pu (aLoad false 1 v7_4 σ) fun v8_5 =>
  pu (lenS v8_5) fun v9_6 =>
  pu (aNil x0) fun v11_7 =>
  pu (aFieldAddr 1 v11_7) fun v12_8 =>
  pu (aLoad false 1 v12_8 σ) fun v13_9 =>
  pu (aBin (some (.int .i64)) .lss v9_6 v13_9) fun v14_10 =>
  wC v14_10 (
  Q (.int .i64 0) σ) (
  pu (aNil x0) fun v17_15 =>
  pu (aFieldAddr 4 v17_15) fun v18_16 =>
  pu (aLoad false 1 v18_16 σ) fun v19_17 =>
  pu (aIndexAddr 1 v19_17 (.int .i64 0)) fun v20_18 =>
  pu (aLoad false 1 v20_18 σ) fun v21_19 =>
  E f_cache_Cache_write [x0, v21_19] σ fun v22_20 τ_21 =>
  pu (aBin (some (.int .i64)) .neq v22_20 (.int .i64 0)) fun v24_24 =>
  wC v24_24 (
  Q v22_20 τ_21) (
  pu (aNil x0) fun v27_30 =>
  pu (aFieldAddr 4 v27_30) fun v28_31 =>
  pu (aIface P t_p_cache_row v28_31) fun v29_32 =>
  E f_heap_Pop [v29_32] τ_21 fun v30_33 τ_34 =>
  pu (aAssert P t_p_cache_item false v30_33) fun v31_35 =>
  pu (aNil x0) fun v33_38 =>
  pu (aFieldAddr 3 v33_38) fun v34_39 =>
  pu (aLoad false 1 v34_39 τ_34) fun v35_40 =>
  pu (aNil v31_35) fun v37_42 =>
  pu (aFieldAddr 0 v37_42) fun v38_43 =>
  pu (aLoad false 1 v38_43 τ_34) fun v39_44 =>
  pu (aDelete P t_m_int_p_cache_item v35_40 v39_44 τ_34) fun τ_45 =>
  Q (.int .i64 0) τ_45))

theorem o_cache_Cache_room_eq (Q : WK) (x0 : Value) (σ : AHeap) : wfn P C.E Try.f76 (hl [(0, .ord [(0, []), (1, []), (2, []), (3, []), (4, []), (5, []), (6, []), (7, []), (8, []), (9, [])]), (3, .ord [(0, []), (1, []), (2, []), (3, []), (4, []), (5, []), (6, []), (7, []), (8, [])])]) [x0] σ (RQ Q) = o_cache_Cache_room Q x0 σ := by kernel_rfl

theorem o_cache_Cache_room_ev {Q : WK} {x0 : Value} {σ : AHeap} (h : o_cache_Cache_room Q x0 σ) : E f_cache_Cache_room [x0] σ Q := owfn Try.func76 _ (by kernel_rfl) (Eq.mpr (o_cache_Cache_room_eq Q x0 σ) h)

def o_cache_Cache_use_k7 (Q : WK) (p5_50 p0_51 : Value) (τ_49 : AHeap) : Prop :=
  pu (aNil p0_51) fun v47_52 =>
  pu (aFieldAddr 2 v47_52) fun v48_53 =>
  pu (aLoad false 1 v48_53 τ_49) fun v49_54 =>
  pu (aNil p5_50) fun v50_55 =>
  pu (aFieldAddr 2 v50_55) fun v51_56 =>
  pu (aStore 1 v51_56 v49_54 τ_49) fun τ_57 =>
  pu (aNil p0_51) fun v53_60 =>
  pu (aFieldAddr 4 v53_60) fun v54_61 =>
  pu (aIface P t_p_cache_row v54_61) fun v55_62 =>
  pu (aNil p5_50) fun v57_64 =>
  pu (aFieldAddr 1 v57_64) fun v58_65 =>
  pu (aLoad false 1 v58_65 τ_57) fun v59_66 =>
  E f_heap_Fix [v55_62, v59_66] τ_57 fun v60_67 τ_68 =>
  Q p5_50 τ_68

/-- (*cistern/cache.Cache).use -/
def o_cache_Cache_use (Q : WK) (x0 x1 : Value) (σ : AHeap) : Prop :=
  pu (aNil x0) fun v8_3 =>
  pu (aFieldAddr 2 v8_3) fun v9_4 =>
  pu (aLoad false 1 v9_4 σ) fun v10_5 =>
  pu (aBin (some (.int .u64)) .add v10_5 (.int .u64 1)) fun v11_6 =>
  pu (aNil x0) fun v12_7 =>
  pu (aFieldAddr 2 v12_7) fun v13_8 =>
  pu (aStore 1 v13_8 v11_6 σ) fun τ_9 =>
  pu (aNil x0) fun v16_12 =>
  pu (aFieldAddr 3 v16_12) fun v17_13 =>
  pu (aLoad false 1 v17_13 τ_9) fun v18_14 =>
  pu (aLookup P t_m_int_p_cache_item v18_14 x1 true τ_9) fun v20_16 =>
  pu (aExtract v20_16 0) fun v21_17 =>
  pu (aExtract v20_16 1) fun v22_18 =>
  pu (aUn .not v22_18) fun v24_21 =>
  wC v24_21 (
  pu (aNil x0) fun v27_26 =>
  pu (aFieldAddr 2 v27_26) fun v28_27 =>
  pu (aLoad false 1 v28_27 τ_9) fun v29_28 =>
  pu (buildR [(0, 1), (1, 1), (2, 1), (3, 1), (4, 1)] [(.int .i64 0), (.int .i64 0), (.int .u64 0), (.bool false), (.slice none 0 0)] [(0, x1), (2, v29_28)]) fun v30_29 =>
  cond (live v30_29) (wNew τ_9 (.cells (Value.cells v30_29).toList t_cache_item false) fun b_30 τ_31 =>
  pu (aNil x0) fun v33_34 =>
  pu (aFieldAddr 3 v33_34) fun v34_35 =>
  pu (aLoad false 1 v34_35 τ_31) fun v35_36 =>
  pu (aMapUpdate P t_m_int_p_cache_item v35_36 x1 (.pointer (some ⟨b_30, 0, none⟩)) τ_31) fun τ_39 =>
  pu (aNil x0) fun v39_42 =>
  pu (aFieldAddr 4 v39_42) fun v40_43 =>
  pu (aIface P t_p_cache_row v40_43) fun v41_44 =>
  pu (aIface P t_p_cache_item (.pointer (some ⟨b_30, 0, none⟩))) fun v43_46 =>
  E f_heap_Push [v41_44, v43_46] τ_39 fun v44_47 τ_48 =>
  (o_cache_Cache_use_k7 Q (.pointer (some ⟨b_30, 0, none⟩)) x0 τ_48)) False) (
  (o_cache_Cache_use_k7 Q v21_17 x0 τ_9))

theorem o_cache_Cache_use_eq (Q : WK) (x0 x1 : Value) (σ : AHeap) : wfn P C.E Try.f77 (hl [(1, .ord [(0, []), (1, []), (2, []), (3, []), (4, []), (5, []), (6, []), (7, []), (8, [])])]) [x0, x1] σ (RQ Q) = o_cache_Cache_use Q x0 x1 σ := by kernel_rfl

theorem o_cache_Cache_use_ev {Q : WK} {x0 x1 : Value} {σ : AHeap} (h : o_cache_Cache_use Q x0 x1 σ) : E f_cache_Cache_use [x0, x1] σ Q := owfn Try.func77 _ (by kernel_rfl) (Eq.mpr (o_cache_Cache_use_eq Q x0 x1 σ) h)

/-- (*cistern/cache.Cache).write -/
def o_cache_Cache_write (Q : WK) (x0 x1 : Value) (σ : AHeap) : Prop :=
  pu (aNil x1) fun v7_3 =>
  pu (aFieldAddr 3 v7_3) fun v8_4 =>
  pu (aLoad false 1 v8_4 σ) fun v9_5 =>
  pu (aUn .not v9_5) fun v10_6 =>
  wC v10_6 (
  Q (.int .i64 0) σ) (
  pu (aNil x0) fun v12_11 =>
  pu (aFieldAddr 0 v12_11) fun v13_12 =>
  pu (aLoad false 1 v13_12 σ) fun v14_13 =>
  pu (aNil x1) fun v16_15 =>
  pu (aFieldAddr 0 v16_15) fun v17_16 =>
  pu (aLoad false 1 v17_16 σ) fun v18_17 =>
  pu (aNil x1) fun v20_18 =>
  pu (aFieldAddr 4 v20_18) fun v21_19 =>
  pu (aLoad false 1 v21_19 σ) fun v22_20 =>
  E f_disk_Disk_Write [v14_13, v18_17, v22_20] σ fun v23_21 τ_22 =>
  pu (aBin (some (.int .i64)) .neq v23_21 (.int .i64 0)) fun v26_26 =>
  pu (aNil x1) fun v27_27 =>
  pu (aFieldAddr 3 v27_27) fun v28_28 =>
  pu (aStore 1 v28_28 v26_26 τ_22) fun τ_29 =>
  Q v23_21 τ_29)

theorem o_cache_Cache_write_eq (Q : WK) (x0 x1 : Value) (σ : AHeap) : wfn P C.E Try.f79 (hl [(1, .ord [(0, []), (1, []), (2, []), (3, []), (4, []), (5, []), (6, []), (7, []), (8, []), (9, []), (10, []), (11, []), (12, []), (13, [])])]) [x0, x1] σ (RQ Q) = o_cache_Cache_write Q x0 x1 σ := by kernel_rfl

theorem o_cache_Cache_write_ev {Q : WK} {x0 x1 : Value} {σ : AHeap} (h : o_cache_Cache_write Q x0 x1 σ) : E f_cache_Cache_write [x0, x1] σ Q := owfn Try.func79 _ (by kernel_rfl) (Eq.mpr (o_cache_Cache_write_eq Q x0 x1 σ) h)

def o_cache_New_k4 (Q : WK) (p18_12 p0_20 p1_21 : Value) (τ_11 : AHeap) : Prop :=
  wC p18_12 (
  Q (.tuple #[(.pointer none), (.int .i64 1)]) τ_11) (
  pu (aMakeMap P t_m_int_p_cache_item none τ_11) fun r21_16 =>
  pu (buildR [(0, 1), (1, 1), (2, 1), (3, 1), (4, 1)] [(.pointer none), (.int .i64 0), (.int .u64 0), (.map none), (.slice none 0 0)] [(0, p0_20), (1, p1_21), (3, r21_16.1)]) fun v22_17 =>
  cond (live v22_17) (wNew r21_16.2 (.cells (Value.cells v22_17).toList t_cache_Cache false) fun b_18 τ_19 =>
  Q (.tuple #[(.pointer (some ⟨b_18, 0, none⟩)), (.int .i64 0)]) τ_19) False)

def o_cache_New_k2 (Q : WK) (p12_6 p1_26 p0_27 : Value) (τ_5 : AHeap) : Prop :=
  wC p12_6 (
  Q (.tuple #[(.pointer none), (.int .i64 2)]) τ_5) (
  pu (aBin (some (.int .i64)) .lss p1_26 (.int .i64 1)) fun v14_9 =>
  wG v14_9 (
  (o_cache_New_k4 Q (.bool true) p0_27 p1_26 τ_5)) (
  pu (aBin (some (.int .i64)) .gtr p1_26 (.int .i64 1024)) fun v17_23 =>
  (o_cache_New_k4 Q v17_23 p0_27 p1_26 τ_5)) (
  wB v14_9 fun b_25 =>
  (o_cache_New_k4 Q (cond b_25 (.bool true) skipV) p0_27 p1_26 τ_5)))

/-- cistern/cache.New -/
def o_cache_New (Q : WK) (x0 x1 : Value) (σ : AHeap) : Prop :=
  pu (aBin (some (.pointer t_disk_Disk)) .eql x0 (.pointer none)) fun v7_3 =>
  wG v7_3 (
  (o_cache_New_k2 Q (.bool true) x1 x0 σ)) (
  E f_disk_Disk_Blocks [x0] σ fun v10_29 τ_30 =>
  pu (aBin (some (.int .i64)) .eql v10_29 (.int .i64 0)) fun v11_31 =>
  (o_cache_New_k2 Q v11_31 x1 x0 τ_30)) (
  wB v7_3 fun b_33 =>
  (o_cache_New_k2 Q (cond b_33 (.bool true) skipV) x1 x0 σ))

theorem o_cache_New_eq (Q : WK) (x0 x1 : Value) (σ : AHeap) : wfn P C.E Try.f37 (fun _ => none) [x0, x1] σ (RQ Q) = o_cache_New Q x0 x1 σ := by kernel_rfl

theorem o_cache_New_ev {Q : WK} {x0 x1 : Value} {σ : AHeap} (h : o_cache_New Q x0 x1 σ) : E f_cache_New [x0, x1] σ Q := owfn Try.func37 _ (by kernel_rfl) (Eq.mpr (o_cache_New_eq Q x0 x1 σ) h)

/-- (cistern/cache.row).Len -/
def o_cache_row_Len (Q : WK) (x0 : Value) (σ : AHeap) : Prop :=
  pu (lenS x0) fun v4_3 =>
  Q v4_3 σ

theorem o_cache_row_Len_eq (Q : WK) (x0 : Value) (σ : AHeap) : wfn P C.E Try.f164 (fun _ => none) [x0] σ (RQ Q) = o_cache_row_Len Q x0 σ := by kernel_rfl

theorem o_cache_row_Len_ev {Q : WK} {x0 : Value} {σ : AHeap} (h : o_cache_row_Len Q x0 σ) : E f_cache_row_Len [x0] σ Q := owfn Try.func164 _ (by kernel_rfl) (Eq.mpr (o_cache_row_Len_eq Q x0 σ) h)

/-- (cistern/cache.row).Less -/
def o_cache_row_Less (Q : WK) (x0 x1 x2 : Value) (σ : AHeap) : Prop :=
  pu (aIndexAddr 1 x0 x1) fun v9_4 =>
  pu (aLoad false 1 v9_4 σ) fun v10_5 =>
  pu (aNil v10_5) fun v11_6 =>
  pu (aFieldAddr 2 v11_6) fun v12_7 =>
  pu (aLoad false 1 v12_7 σ) fun v13_8 =>
  pu (aIndexAddr 1 x0 x2) fun v16_10 =>
  pu (aLoad false 1 v16_10 σ) fun v17_11 =>
  pu (aNil v17_11) fun v18_12 =>
  pu (aFieldAddr 2 v18_12) fun v19_13 =>
  pu (aLoad false 1 v19_13 σ) fun v20_14 =>
  pu (aBin (some (.int .u64)) .lss v13_8 v20_14) fun v21_15 =>
  Q v21_15 σ

theorem o_cache_row_Less_eq (Q : WK) (x0 x1 x2 : Value) (σ : AHeap) : wfn P C.E Try.f165 (hl [(0, .ord [(0, []), (1, []), (2, []), (3, []), (4, []), (5, []), (6, []), (7, []), (8, []), (9, []), (10, []), (11, []), (12, []), (13, []), (14, []), (15, [])])]) [x0, x1, x2] σ (RQ Q) = o_cache_row_Less Q x0 x1 x2 σ := by kernel_rfl

theorem o_cache_row_Less_ev {Q : WK} {x0 x1 x2 : Value} {σ : AHeap} (h : o_cache_row_Less Q x0 x1 x2 σ) : E f_cache_row_Less [x0, x1, x2] σ Q := owfn Try.func165 _ (by kernel_rfl) (Eq.mpr (o_cache_row_Less_eq Q x0 x1 x2 σ) h)

/-- (*cistern/cache.row).Pop -/
def o_cache_row_Pop (Q : WK) (x0 : Value) (σ : AHeap) : Prop :=
  pu (aNil x0) fun v6_3 =>
  pu (aLoad false 1 v6_3 σ) fun v7_4 =>
  pu (lenS v7_4) fun v8_5 =>
  pu (aBin (some (.int .i64)) .sub v8_5 (.int .i64 1)) fun v9_6 =>
  pu (aNil x0) fun v11_9 =>
  pu (aLoad false 1 v11_9 σ) fun v12_10 =>
  pu (aIndexAddr 1 v12_10 v9_6) fun v14_12 =>
  pu (aLoad false 1 v14_12 σ) fun v15_13 =>
  pu (aNil x0) fun v18_16 =>
  pu (aLoad false 1 v18_16 σ) fun v19_17 =>
  pu (aSlice 1 v19_17 none (some v9_6) none) fun v21_19 =>
  pu (aNil x0) fun v22_20 =>
  pu (aStore 1 v22_20 v21_19 σ) fun τ_21 =>
  pu (aIface P t_p_cache_item v15_13) fun v24_24 =>
  Q v24_24 τ_21

theorem o_cache_row_Pop_eq (Q : WK) (x0 : Value) (σ : AHeap) : wfn P C.E Try.f167 (fun _ => none) [x0] σ (RQ Q) = o_cache_row_Pop Q x0 σ := by kernel_rfl

theorem o_cache_row_Pop_ev {Q : WK} {x0 : Value} {σ : AHeap} (h : o_cache_row_Pop Q x0 σ) : E f_cache_row_Pop [x0] σ Q := owfn Try.func167 _ (by kernel_rfl) (Eq.mpr (o_cache_row_Pop_eq Q x0 σ) h)

/-- (*cistern/cache.row).Push -/
def o_cache_row_Push (Q : WK) (x0 x1 : Value) (σ : AHeap) : Prop :=
  pu (aAssert P t_p_cache_item false x1) fun v6_1 =>
  pu (aNil x0) fun v9_5 =>
  pu (aLoad false 1 v9_5 σ) fun v10_6 =>
  pu (lenS v10_6) fun v11_7 =>
  pu (aNil v6_1) fun v12_8 =>
  pu (aFieldAddr 1 v12_8) fun v13_9 =>
  pu (aStore 1 v13_9 v11_7 σ) fun τ_10 =>
  pu (aNil x0) fun v16_13 =>
  pu (aLoad false 1 v16_13 τ_10) fun v17_14 =>
  pu (buildS t_p_cache_item 1 1 [(.pointer none)] [(0, v6_1)] τ_10) fun r19_16 =>
  pu (aAppend t_p_cache_item 1 8 v17_14 r19_16.1 r19_16.2) fun r20_17 =>
  pu (aNil x0) fun v21_18 =>
  pu (aStore 1 v21_18 r20_17.1 r20_17.2) fun τ_19 =>
  Q (.tuple #[]) τ_19

theorem o_cache_row_Push_eq (Q : WK) (x0 x1 : Value) (σ : AHeap) : wfn P C.E Try.f168 (fun _ => none) [x0, x1] σ (RQ Q) = o_cache_row_Push Q x0 x1 σ := by kernel_rfl

theorem o_cache_row_Push_ev {Q : WK} {x0 x1 : Value} {σ : AHeap} (h : o_cache_row_Push Q x0 x1 σ) : E f_cache_row_Push [x0, x1] σ Q := owfn Try.func168 _ (by kernel_rfl) (Eq.mpr (o_cache_row_Push_eq Q x0 x1 σ) h)

/-- (cistern/cache.row).Swap -/
def o_cache_row_Swap (Q : WK) (x0 x1 x2 : Value) (σ : AHeap) : Prop :=
  pu (aIndexAddr 1 x0 x2) fun v12_1 =>
  pu (aLoad false 1 v12_1 σ) fun v13_2 =>
  pu (aIndexAddr 1 x0 x1) fun v16_3 =>
  pu (aLoad false 1 v16_3 σ) fun v17_4 =>
  pu (aIndexAddr 1 x0 x1) fun v18_5 =>
  pu (aStore 1 v18_5 v13_2 σ) fun τ_6 =>
  pu (aIndexAddr 1 x0 x2) fun v19_7 =>
  pu (aStore 1 v19_7 v17_4 τ_6) fun τ_8 =>
  pu (aIndexAddr 1 x0 x1) fun v22_12 =>
  pu (aLoad false 1 v22_12 τ_8) fun v23_13 =>
  pu (aIndexAddr 1 x0 x2) fun v26_15 =>
  pu (aLoad false 1 v26_15 τ_8) fun v27_16 =>
  pu (aNil v23_13) fun v30_17 =>
  pu (aFieldAddr 1 v30_17) fun v31_18 =>
  pu (aStore 1 v31_18 x1 τ_8) fun τ_19 =>
  pu (aNil v27_16) fun v32_20 =>
  pu (aFieldAddr 1 v32_20) fun v33_21 =>
  pu (aStore 1 v33_21 x2 τ_19) fun τ_22 =>
  Q (.tuple #[]) τ_22

theorem o_cache_row_Swap_eq (Q : WK) (x0 x1 x2 : Value) (σ : AHeap) : wfn P C.E Try.f166 (hl [(0, .ord [(0, []), (1, []), (2, []), (3, []), (4, []), (5, []), (6, []), (7, []), (8, []), (9, []), (10, []), (11, []), (12, []), (13, []), (14, []), (15, [])]), (1, .ord [(0, []), (1, []), (2, []), (3, []), (4, []), (5, []), (6, []), (7, []), (8, []), (9, []), (10, []), (11, []), (12, []), (13, []), (14, []), (15, [])])]) [x0, x1, x2] σ (RQ Q) = o_cache_row_Swap Q x0 x1 x2 σ := by kernel_rfl

theorem o_cache_row_Swap_ev {Q : WK} {x0 x1 x2 : Value} {σ : AHeap} (h : o_cache_row_Swap Q x0 x1 x2 σ) : E f_cache_row_Swap [x0, x1, x2] σ Q := owfn Try.func166 _ (by kernel_rfl) (Eq.mpr (o_cache_row_Swap_eq Q x0 x1 x2 σ) h)

/-- (*cistern/disk.Disk).Barrier -/
def o_disk_Disk_Barrier (Q : WK) (x0 : Value) (σ : AHeap) : Prop :=
  E f_disk_Disk_ready [x0, (.int .i64 0)] σ fun v5_3 τ_4 =>
  pu (aBin (some (.int .i64)) .neq v5_3 (.int .i64 0)) fun v7_7 =>
  wC v7_7 (
  Q v5_3 τ_4) (
  E f_disk_Disk_burn [x0, (.func (.func f_disk_Disk_land) #[x0] #[])] τ_4 fun v12_13 τ_14 =>
  Q v12_13 τ_14)

theorem o_disk_Disk_Barrier_eq (Q : WK) (x0 : Value) (σ : AHeap) : wfn P C.E Try.f18 (fun _ => none) [x0] σ (RQ Q) = o_disk_Disk_Barrier Q x0 σ := by kernel_rfl

theorem o_disk_Disk_Barrier_ev {Q : WK} {x0 : Value} {σ : AHeap} (h : o_disk_Disk_Barrier Q x0 σ) : E f_disk_Disk_Barrier [x0] σ Q := owfn Try.func18 _ (by kernel_rfl) (Eq.mpr (o_disk_Disk_Barrier_eq Q x0 σ) h)

/-- (*cistern/disk.Disk).Blocks -/
def o_disk_Disk_Blocks (Q : WK) (x0 : Value) (σ : AHeap) : Prop :=
  pu (aBin (some (.pointer t_disk_Disk)) .eql x0 (.pointer none)) fun v4_3 =>
  wC v4_3 (
  Q (.int .i64 0) σ) (
  pu (aNil x0) fun v6_8 =>
  pu (aFieldAddr 0 v6_8) fun v7_9 =>
  pu (aLoad false 1 v7_9 σ) fun v8_10 =>
  pu (lenS v8_10) fun v9_11 =>
  pu (aBin (some (.int .i64)) .quo v9_11 (.int .i64 256)) fun v10_12 =>
  Q v10_12 σ)

theorem o_disk_Disk_Blocks_eq (Q : WK) (x0 : Value) (σ : AHeap) : wfn P C.E Try.f28 (fun _ => none) [x0] σ (RQ Q) = o_disk_Disk_Blocks Q x0 σ := by kernel_rfl

theorem o_disk_Disk_Blocks_ev {Q : WK} {x0 : Value} {σ : AHeap} (h : o_disk_Disk_Blocks Q x0 σ) : E f_disk_Disk_Blocks [x0] σ Q := owfn Try.func28 _ (by kernel_rfl) (Eq.mpr (o_disk_Disk_Blocks_eq Q x0 σ) h)

/-- (*cistern/disk.Disk).Copy -/
def o_disk_Disk_Copy (Q : WK) (x0 : Value) (σ : AHeap) : Prop :=
  pu (aBin (some (.pointer t_disk_Disk)) .eql x0 (.pointer none)) fun v5_3 =>
  wC v5_3 (
  Q (.pointer none) σ) (
  pu (aNil x0) fun v7_8 =>
  pu (aLoad true 4 v7_8 σ) fun v8_9 =>
  wNew σ (.cells [(.slice none 0 0), (.slice none 0 0), (.int .i64 0), (.bool false)] t_disk_Disk false) fun b_10 τ_11 =>
  pu (aStore 4 (.pointer (some ⟨b_10, 0, none⟩)) v8_9 τ_11) fun τ_12 =>
  pu (aNil x0) fun v10_15 =>
  pu (aFieldAddr 0 v10_15) fun v11_16 =>
  pu (aLoad false 1 v11_16 τ_12) fun v12_17 =>
  pu (aNil x0) fun v15_18 =>
  pu (aFieldAddr 1 v15_18) fun v16_19 =>
  pu (aLoad false 1 v16_19 τ_12) fun v17_20 =>
  E f_bytes_Clone [v12_17] τ_12 fun v13_21 τ_22 =>
  pu (aLoad false 1 v16_19 τ_22) fun v17_23 =>
  veq1 v17_23 v17_20 = true ∧
  E f_slices_Clone_sl_disk_flight_disk_flight [v17_20] τ_22 fun v18_24 τ_25 =>
  pu (aFieldAddr 0 (.pointer (some ⟨b_10, 0, none⟩))) fun v19_27 =>
  pu (aStore 1 v19_27 v13_21 τ_25) fun τ_28 =>
  pu (aFieldAddr 1 (.pointer (some ⟨b_10, 0, none⟩))) fun v20_29 =>
  pu (aStore 1 v20_29 v18_24 τ_28) fun τ_30 =>
  Q (.pointer (some ⟨b_10, 0, none⟩)) τ_30)

theorem o_disk_Disk_Copy_eq (Q : WK) (x0 : Value) (σ : AHeap) : wfn P C.E Try.f34 (hl [(1, .ord [(0, []), (1, []), (2, []), (3, []), (5, []), (6, []), (7, []), (8, []), (4, [8]), (9, []), (10, []), (11, []), (12, []), (13, [])])]) [x0] σ (RQ Q) = o_disk_Disk_Copy Q x0 σ := by kernel_rfl

theorem o_disk_Disk_Copy_ev {Q : WK} {x0 : Value} {σ : AHeap} (h : o_disk_Disk_Copy Q x0 σ) : E f_disk_Disk_Copy [x0] σ Q := owfn Try.func34 _ (by kernel_rfl) (Eq.mpr (o_disk_Disk_Copy_eq Q x0 σ) h)

def o_disk_Disk_Crash_k11 (N1 : Value → Value → Value → Value → Value → AHeap → Prop) (Q : WK) (p14_58 p0_60 p1_61 p12_62 p13_63 : Value) (τ_57 : AHeap) : Prop :=
  pu (aBin (some (.int .i64)) .add p14_58 (.int .i64 1)) fun v58_59 =>
  N1 p0_60 p1_61 p12_62 p13_63 v58_59 τ_57

def o_disk_Disk_Crash_k9 (N1 : Value → Value → Value → Value → Value → AHeap → Prop) (Q : WK) (p6_42 p0_91 p5_92 p14_93 p1_94 p12_95 p13_96 : Value) (τ_41 : AHeap) : Prop :=
  pu (aBin (some (.int .i64)) .eql p6_42 (.int .i64 1)) fun v30_43 =>
  wC v30_43 (
  pu (aNil p0_91) fun v32_47 =>
  pu (aFieldAddr 0 v32_47) fun v33_48 =>
  pu (aLoad false 1 v33_48 τ_41) fun v34_49 =>
  pu (aFieldAddr 0 p5_92) fun v35_51 =>
  pu (aLoad false 1 v35_51 τ_41) fun v36_52 =>
  pu (aSlice 1 v34_49 (some v36_52) none none) fun v37_53 =>
  pu (aFieldAddr 1 p5_92) fun v38_54 =>
  pu (aLoad false 1 v38_54 τ_41) fun v39_55 =>
  pu (aCopy 1 v37_53 v39_55 τ_41) fun r40_56 =>
  (o_disk_Disk_Crash_k11 N1 Q p14_93 p0_91 p1_94 p12_95 p13_96 r40_56.2)) (
  pu (aBin (some (.int .i64)) .gtr p6_42 (.int .i64 1)) fun v43_69 =>
  wC v43_69 (
  pu (aNil p0_91) fun v45_73 =>
  pu (aFieldAddr 0 v45_73) fun v46_74 =>
  pu (aLoad false 1 v46_74 τ_41) fun v47_75 =>
  pu (aFieldAddr 0 p5_92) fun v48_77 =>
  pu (aLoad false 1 v48_77 τ_41) fun v49_78 =>
  pu (aSlice 1 v47_75 (some v49_78) none none) fun v50_79 =>
  pu (aFieldAddr 1 p5_92) fun v51_80 =>
  pu (aLoad false 1 v51_80 τ_41) fun v52_81 =>
  pu (aBin (some (.int .i64)) .sub p6_42 (.int .i64 2)) fun v54_83 =>
  pu (aBin (some (.int .i64)) .rem v54_83 (.int .i64 65)) fun v55_84 =>
  pu (aSlice 1 v52_81 none (some v55_84) none) fun v56_85 =>
  pu (aCopy 1 v50_79 v56_85 τ_41) fun r57_86 =>
  (o_disk_Disk_Crash_k11 N1 Q p14_93 p0_91 p1_94 p12_95 p13_96 r57_86.2)) (
  (o_disk_Disk_Crash_k11 N1 Q p14_93 p0_91 p1_94 p12_95 p13_96 τ_41)))

def o_disk_Disk_Crash_b1 (N1 : Value → Value → Value → Value → Value → AHeap → Prop) (Q : WK) (x0_11 x1_12 x12_13 x13_14 x14_15 : Value) (τ_16 : AHeap) : Prop :=
  pu (aBin (some (.int .i64)) .lss x14_15 x13_14) fun v15_17 =>
  wC v15_17 (
  pu (aIndexAddr 2 x12_13 x14_15) fun v17_23 =>
  pu (aLoad true 2 v17_23 τ_16) fun v18_24 =>
  wNew τ_16 (.cells [(.int .i64 0), (.slice none 0 0)] t_disk_flight false) fun b_25 τ_26 =>
  pu (aStore 2 (.pointer (some ⟨b_25, 0, none⟩)) v18_24 τ_26) fun τ_27 =>
  pu (lenS x1_12) fun v21_32 =>
  pu (aBin (some (.int .i64)) .lss x14_15 v21_32) fun v22_33 =>
  wC v22_33 (
  pu (aIndexAddr 1 x1_12 x14_15) fun v25_38 =>
  pu (aLoad false 1 v25_38 τ_27) fun v26_39 =>
  pu (convI .i64 v26_39) fun v27_40 =>
  (o_disk_Disk_Crash_k9 N1 Q v27_40 x0_11 (.pointer (some ⟨b_25, 0, none⟩)) x14_15 x1_12 x12_13 x13_14 τ_27)) (
  (o_disk_Disk_Crash_k9 N1 Q (.int .i64 0) x0_11 (.pointer (some ⟨b_25, 0, none⟩)) x14_15 x1_12 x12_13 x13_14 τ_27))) (
  pu (aNil x0_11) fun v62_126 =>
  pu (aFieldAddr 1 v62_126) fun v63_127 =>
  pu (aStore 1 v63_127 (.slice none 0 0) τ_16) fun τ_128 =>
  pu (aNil x0_11) fun v64_129 =>
  pu (aFieldAddr 2 v64_129) fun v65_130 =>
  pu (aStore 1 v65_130 (.int .i64 0) τ_128) fun τ_131 =>
  pu (aNil x0_11) fun v66_132 =>
  pu (aFieldAddr 3 v66_132) fun v67_133 =>
  pu (aStore 1 v67_133 (.bool false) τ_131) fun τ_134 =>
  Q (.tuple #[]) τ_134)

/-- (*cistern/disk.Disk).Crash -/
def o_disk_Disk_Crash (Q : WK) (x0 x1 : Value) (σ : AHeap) : Prop :=
  pu (aBin (some (.pointer t_disk_Disk)) .eql x0 (.pointer none)) fun v8_1 =>
  wC v8_1 (
  Q (.tuple #[]) σ) (
  pu (aNil x0) fun v10_6 =>
  pu (aFieldAddr 1 v10_6) fun v11_7 =>
  pu (aLoad false 1 v11_7 σ) fun v12_8 =>
  pu (lenS v12_8) fun v13_9 =>
  ∃ I_135 : Nat → Value → Value → Value → Value → Value → AHeap → Prop, (∃ m, I_135 m x0 x1 v12_8 v13_9 (.int .i64 0) σ) ∧
  ∀ m (x0_11' x1_12' x12_13' x13_14' x14_15' : Value) (σ' : AHeap), I_135 m x0_11' x1_12' x12_13' x13_14' x14_15' σ' → (o_disk_Disk_Crash_b1 (fun x0_11' x1_12' x12_13' x13_14' x14_15' σ' => ∃ m', m' < m ∧ I_135 m' x0_11' x1_12' x12_13' x13_14' x14_15' σ') Q x0_11' x1_12' x12_13' x13_14' x14_15' σ'))

theorem o_disk_Disk_Crash_eq (Q : WK) (x0 x1 : Value) (σ : AHeap) : wfn P C.E Try.f22 (hl [(2, .loopj [0, 1, 12, 13, 14] [0] [0, 1, 12, 13, 14]), (8, .ord [(0, []), (1, []), (2, []), (3, []), (4, []), (5, []), (6, []), (7, []), (8, []), (9, [])]), (10, .ord [(0, []), (1, []), (2, []), (3, []), (4, []), (5, []), (6, []), (7, []), (8, []), (9, []), (10, []), (11, []), (12, []), (13, [])])]) [x0, x1] σ (RQ Q) = o_disk_Disk_Crash Q x0 x1 σ := by kernel_rfl

theorem o_disk_Disk_Crash_ev {Q : WK} {x0 x1 : Value} {σ : AHeap} (h : o_disk_Disk_Crash Q x0 x1 σ) : E f_disk_Disk_Crash [x0, x1] σ Q := owfn Try.func22 _ (by kernel_rfl) (Eq.mpr (o_disk_Disk_Crash_eq Q x0 x1 σ) h)

/-- (*cistern/disk.Disk).Flight -/
def o_disk_Disk_Flight (Q : WK) (x0 : Value) (σ : AHeap) : Prop :=
  pu (aBin (some (.pointer t_disk_Disk)) .eql x0 (.pointer none)) fun v4_3 =>
  wC v4_3 (
  Q (.int .i64 0) σ) (
  pu (aNil x0) fun v6_8 =>
  pu (aFieldAddr 1 v6_8) fun v7_9 =>
  pu (aLoad false 1 v7_9 σ) fun v8_10 =>
  pu (lenS v8_10) fun v9_11 =>
  Q v9_11 σ)

theorem o_disk_Disk_Flight_eq (Q : WK) (x0 : Value) (σ : AHeap) : wfn P C.E Try.f19 (fun _ => none) [x0] σ (RQ Q) = o_disk_Disk_Flight Q x0 σ := by kernel_rfl

theorem o_disk_Disk_Flight_ev {Q : WK} {x0 : Value} {σ : AHeap} (h : o_disk_Disk_Flight Q x0 σ) : E f_disk_Disk_Flight [x0] σ Q := owfn Try.func19 _ (by kernel_rfl) (Eq.mpr (o_disk_Disk_Flight_eq Q x0 σ) h)

/-- (*cistern/disk.Disk).Fuse -/
def o_disk_Disk_Fuse (Q : WK) (x0 x1 : Value) (σ : AHeap) : Prop :=
  pu (aBin (some (.pointer t_disk_Disk)) .neq x0 (.pointer none)) fun v5_1 =>
  wC v5_1 (
  pu (aMax2 x1 (.int .i64 0)) fun v8_6 =>
  pu (aNil x0) fun v9_7 =>
  pu (aFieldAddr 2 v9_7) fun v10_8 =>
  pu (aStore 1 v10_8 v8_6 σ) fun τ_9 =>
  Q (.tuple #[]) τ_9) (
  Q (.tuple #[]) σ)

theorem o_disk_Disk_Fuse_eq (Q : WK) (x0 x1 : Value) (σ : AHeap) : wfn P C.E Try.f25 (fun _ => none) [x0, x1] σ (RQ Q) = o_disk_Disk_Fuse Q x0 x1 σ := by kernel_rfl

theorem o_disk_Disk_Fuse_ev {Q : WK} {x0 x1 : Value} {σ : AHeap} (h : o_disk_Disk_Fuse Q x0 x1 σ) : E f_disk_Disk_Fuse [x0, x1] σ Q := owfn Try.func25 _ (by kernel_rfl) (Eq.mpr (o_disk_Disk_Fuse_eq Q x0 x1 σ) h)

/-- (*cistern/disk.Disk).Off -/
def o_disk_Disk_Off (Q : WK) (x0 : Value) (σ : AHeap) : Prop :=
  pu (aBin (some (.pointer t_disk_Disk)) .eql x0 (.pointer none)) fun v4_3 =>
  wG v4_3 (
  Q (.bool true) σ) (
  pu (aNil x0) fun v7_5 =>
  pu (aFieldAddr 3 v7_5) fun v8_6 =>
  pu (aLoad false 1 v8_6 σ) fun v9_7 =>
  Q v9_7 σ) (
  wB v4_3 fun b_9 =>
  Q (cond b_9 (.bool true) skipV) σ)

theorem o_disk_Disk_Off_eq (Q : WK) (x0 : Value) (σ : AHeap) : wfn P C.E Try.f24 (fun _ => none) [x0] σ (RQ Q) = o_disk_Disk_Off Q x0 σ := by kernel_rfl

theorem o_disk_Disk_Off_ev {Q : WK} {x0 : Value} {σ : AHeap} (h : o_disk_Disk_Off Q x0 σ) : E f_disk_Disk_Off [x0] σ Q := owfn Try.func24 _ (by kernel_rfl) (Eq.mpr (o_disk_Disk_Off_eq Q x0 σ) h)

def o_disk_Disk_Read_k12 (N1 : Value → Value → Value → Value → Value → AHeap → Prop) (Q : WK) (p33_73 p7_75 p8_76 p31_77 p32_78 : Value) (τ_72 : AHeap) : Prop :=
  pu (aBin (some (.int .i64)) .add p33_73 (.int .i64 1)) fun v57_74 =>
  N1 p7_75 p8_76 p31_77 p32_78 v57_74 τ_72

def o_disk_Disk_Read_k11 (N1 : Value → Value → Value → Value → Value → AHeap → Prop) (Q : WK) (p47_61 p8_62 p10_63 p7_66 p33_79 p31_80 p32_81 : Value) (τ_60 : AHeap) : Prop :=
  wC p47_61 (
  pu (aFieldAddr 0 p10_63) fun v49_64 =>
  pu (aLoad false 1 v49_64 τ_60) fun v50_65 =>
  pu (aBin (some (.int .i64)) .sub v50_65 p7_66) fun v52_67 =>
  pu (aSlice 1 p8_62 (some v52_67) none none) fun v53_68 =>
  pu (aFieldAddr 1 p10_63) fun v54_69 =>
  pu (aLoad false 1 v54_69 τ_60) fun v55_70 =>
  pu (aCopy 1 v53_68 v55_70 τ_60) fun r56_71 =>
  (o_disk_Disk_Read_k12 N1 Q p33_79 p7_66 p8_62 p31_80 p32_81 r56_71.2)) (
  (o_disk_Disk_Read_k12 N1 Q p33_79 p7_66 p8_62 p31_80 p32_81 τ_60))

def o_disk_Disk_Read_b1 (N1 : Value → Value → Value → Value → Value → AHeap → Prop) (Q : WK) (x7_32 x8_33 x31_34 x32_35 x33_36 : Value) (τ_37 : AHeap) : Prop :=
  pu (aBin (some (.int .i64)) .lss x33_36 x32_35) fun v34_38 =>
  wC v34_38 (
  pu (aIndexAddr 2 x31_34 x33_36) fun v35_44 =>
  pu (aLoad true 2 v35_44 τ_37) fun v36_45 =>
  wNew τ_37 (.cells [(.int .i64 0), (.slice none 0 0)] t_disk_flight false) fun b_46 τ_47 =>
  pu (aStore 2 (.pointer (some ⟨b_46, 0, none⟩)) v36_45 τ_47) fun τ_48 =>
  pu (aFieldAddr 0 (.pointer (some ⟨b_46, 0, none⟩))) fun v37_51 =>
  pu (aLoad false 1 v37_51 τ_48) fun v38_52 =>
  pu (aBin (some (.int .i64)) .geq v38_52 x7_32) fun v40_54 =>
  wG v40_54 (
  pu (aFieldAddr 0 (.pointer (some ⟨b_46, 0, none⟩))) fun v42_55 =>
  pu (aLoad false 1 v42_55 τ_48) fun v43_56 =>
  pu (aBin (some (.int .i64)) .add x7_32 (.int .i64 256)) fun v45_57 =>
  pu (aBin (some (.int .i64)) .lss v43_56 v45_57) fun v46_58 =>
  (o_disk_Disk_Read_k11 N1 Q v46_58 x8_33 (.pointer (some ⟨b_46, 0, none⟩)) x7_32 x33_36 x31_34 x32_35 τ_48)) (
  (o_disk_Disk_Read_k11 N1 Q (.bool false) x8_33 (.pointer (some ⟨b_46, 0, none⟩)) x7_32 x33_36 x31_34 x32_35 τ_48)) (
  wB v40_54 fun b_87 =>
  (o_disk_Disk_Read_k11 N1 Q (cond b_87 skipV (.bool false)) x8_33 (.pointer (some ⟨b_46, 0, none⟩)) x7_32 x33_36 x31_34 x32_35 τ_48))) (
  Q (.tuple #[x8_33, (.int .i64 0)]) τ_37)

/-- (*cistern/disk.Disk).Read -/
def o_disk_Disk_Read (Q : WK) (x0 x1 : Value) (σ : AHeap) : Prop :=
  E f_disk_Disk_ready [x0, x1] σ fun v13_4 τ_5 =>
  pu (aBin (some (.int .i64)) .neq v13_4 (.int .i64 0)) fun v15_8 =>
  wC v15_8 (
  Q (.tuple #[(.slice none 0 0), v13_4]) τ_5) (
  pu (aBin (some (.int .i64)) .mul x1 (.int .i64 256)) fun v18_14 =>
  pu (aNil x0) fun v20_17 =>
  pu (aFieldAddr 0 v20_17) fun v21_18 =>
  pu (aLoad false 1 v21_18 τ_5) fun v22_19 =>
  pu (aBin (some (.int .i64)) .add v18_14 (.int .i64 256)) fun v25_21 =>
  pu (aSlice 1 v22_19 (some v18_14) (some v25_21) none) fun v26_22 =>
  E f_bytes_Clone [v26_22] τ_5 fun v27_23 τ_24 =>
  pu (aNil x0) fun v29_27 =>
  pu (aFieldAddr 1 v29_27) fun v30_28 =>
  pu (aLoad false 1 v30_28 τ_24) fun v31_29 =>
  pu (lenS v31_29) fun v32_30 =>
  ∃ I_98 : Nat → Value → Value → Value → Value → Value → AHeap → Prop, (∃ m, I_98 m v18_14 v27_23 v31_29 v32_30 (.int .i64 0) τ_24) ∧
  ∀ m (x7_32' x8_33' x31_34' x32_35' x33_36' : Value) (σ' : AHeap), I_98 m x7_32' x8_33' x31_34' x32_35' x33_36' σ' → (o_disk_Disk_Read_b1 (fun x7_32' x8_33' x31_34' x32_35' x33_36' σ' => ∃ m', m' < m ∧ I_98 m' x7_32' x8_33' x31_34' x32_35' x33_36' σ') Q x7_32' x8_33' x31_34' x32_35' x33_36' σ'))

theorem o_disk_Disk_Read_eq (Q : WK) (x0 x1 : Value) (σ : AHeap) : wfn P C.E Try.f20 (hl [(2, .loopj [7, 8, 31, 32, 33] [8] [7, 8, 31, 32, 33]), (6, .ord [(0, []), (1, []), (2, []), (3, []), (4, []), (5, []), (6, []), (7, []), (8, [])])]) [x0, x1] σ (RQ Q) = o_disk_Disk_Read Q x0 x1 σ := by kernel_rfl

theorem o_disk_Disk_Read_ev {Q : WK} {x0 x1 : Value} {σ : AHeap} (h : o_disk_Disk_Read Q x0 x1 σ) : E f_disk_Disk_Read [x0, x1] σ Q := owfn Try.func20 _ (by kernel_rfl) (Eq.mpr (o_disk_Disk_Read_eq Q x0 x1 σ) h)

/-- (*cistern/disk.Disk).Write -/
def o_disk_Disk_Write (Q : WK) (x0 x1 x2 : Value) (σ : AHeap) : Prop :=
  cond (live x0) (wNew σ (.cells (Value.cells x0).toList t_p_disk_Disk false) fun b_1 τ_2 =>
  cond (live x1) (wNew τ_2 (.cells (Value.cells x1).toList t_int false) fun b_3 τ_4 =>
  cond (live x2) (wNew τ_4 (.cells (Value.cells x2).toList t_sl_uint8 false) fun b_5 τ_6 =>
  pu (aLoad false 1 (.pointer (some ⟨b_1, 0, none⟩)) τ_6) fun v8_9 =>
  pu (aLoad false 1 (.pointer (some ⟨b_3, 0, none⟩)) τ_6) fun v9_11 =>
  E f_disk_Disk_ready [v8_9, v9_11] τ_6 fun v10_12 τ_13 =>
  pu (aBin (some (.int .i64)) .neq v10_12 (.int .i64 0)) fun v12_16 =>
  wC v12_16 (
  Q v10_12 τ_13) (
  pu (aLoad false 1 (.pointer (some ⟨b_5, 0, none⟩)) τ_13) fun v14_22 =>
  pu (lenS v14_22) fun v15_23 =>
  pu (aBin (some (.int .i64)) .neq v15_23 (.int .i64 256)) fun v16_24 =>
  wC v16_24 (
  Q (.int .i64 1) τ_13) (
  pu (aLoad false 1 (.pointer (some ⟨b_1, 0, none⟩)) τ_13) fun v17_29 =>
  E f_disk_Disk_burn [v17_29, (.func (.func f_disk_Disk_Write_c1) #[] #[(.pointer (some ⟨b_5, 0, none⟩)), (.pointer (some ⟨b_1, 0, none⟩)), (.pointer (some ⟨b_3, 0, none⟩))])] τ_13 fun v19_32 τ_33 =>
  Q v19_32 τ_33))) False) False) False

theorem o_disk_Disk_Write_eq (Q : WK) (x0 x1 x2 : Value) (σ : AHeap) : wfn P C.E Try.f15 (fun _ => none) [x0, x1, x2] σ (RQ Q) = o_disk_Disk_Write Q x0 x1 x2 σ := by kernel_rfl

theorem o_disk_Disk_Write_ev {Q : WK} {x0 x1 x2 : Value} {σ : AHeap} (h : o_disk_Disk_Write Q x0 x1 x2 σ) : E f_disk_Disk_Write [x0, x1, x2] σ Q := owfn Try.func15 _ (by kernel_rfl) (Eq.mpr (o_disk_Disk_Write_eq Q x0 x1 x2 σ) h)

def o_disk_Disk_Write_c1_b1 (N1 : Value → Value → Value → Value → AHeap → Prop) (Q : WK) (x1_6 x2_7 x3_8 x4_9 : Value) (τ_10 : AHeap) : Prop :=
  pu (aBin (some (.int .i64)) .lss x4_9 (.int .i64 256)) fun v8_11 =>
  wC v8_11 (
  pu (aLoad false 1 x1_6 τ_10) fun v11_16 =>
  pu (aLoad false 1 x1_6 τ_10) fun v12_17 =>
  pu (aNil v12_17) fun v13_18 =>
  pu (aFieldAddr 1 v13_18) fun v14_19 =>
  pu (aLoad false 1 v14_19 τ_10) fun v15_20 =>
  pu (aLoad false 1 x2_7 τ_10) fun v16_22 =>
  pu (aBin (some (.int .i64)) .mul v16_22 (.int .i64 256)) fun v17_23 =>
  pu (aBin (some (.int .i64)) .add v17_23 x4_9) fun v19_25 =>
  pu (aBin (some (.int .i64)) .add x4_9 (.int .i64 64)) fun v23_27 =>
  pu (aBin (some (.int .i64)) .add x4_9 (.int .i64 64)) fun v25_28 =>
  pu (aSlice 1 x3_8 (some x4_9) (some v23_27) (some v25_28)) fun v26_29 =>
  pu (buildR [(0, 1), (1, 1)] [(.int .i64 0), (.slice none 0 0)] [(0, v19_25), (1, v26_29)]) fun v27_30 =>
  pu (buildS t_disk_flight 2 1 [(.int .i64 0), (.slice none 0 0)] [(0, v27_30)] τ_10) fun r28_31 =>
  pu (aLoad false 1 x1_6 r28_31.2) fun v11_32 =>
  veq1 v11_32 v11_16 = true ∧
  pu (aLoad false 1 x1_6 r28_31.2) fun v12_33 =>
  veq1 v12_33 v12_17 = true ∧
  pu (aLoad false 1 v14_19 r28_31.2) fun v15_34 =>
  veq1 v15_34 v15_20 = true ∧
  pu (aAppend t_disk_flight 2 32 v15_20 r28_31.1 r28_31.2) fun r29_35 =>
  pu (aLoad false 1 x1_6 r29_35.2) fun v11_36 =>
  veq1 v11_36 v11_16 = true ∧
  pu (aNil v11_16) fun v30_37 =>
  pu (aFieldAddr 1 v30_37) fun v31_38 =>
  pu (aStore 1 v31_38 r29_35.1 r29_35.2) fun τ_39 =>
  pu (aBin (some (.int .i64)) .add x4_9 (.int .i64 64)) fun v10_42 =>
  N1 x1_6 x2_7 x3_8 v10_42 τ_39) (
  Q (.tuple #[]) τ_10)

/-- (*cistern/disk.Disk).Write$1 -/
def o_disk_Disk_Write_c1 (Q : WK) (x0 x1 x2 : Value) (σ : AHeap) : Prop :=
  pu (aLoad false 1 x0 σ) fun v5_1 =>
  E f_bytes_Clone [v5_1] σ fun v6_2 τ_3 =>
  ∃ I_50 : Nat → Value → Value → Value → Value → AHeap → Prop, (∃ m, I_50 m x1 x2 v6_2 (.int .i64 0) τ_3) ∧
  ∀ m (x1_6' x2_7' x3_8' x4_9' : Value) (σ' : AHeap), I_50 m x1_6' x2_7' x3_8' x4_9' σ' → (o_disk_Disk_Write_c1_b1 (fun x1_6' x2_7' x3_8' x4_9' σ' => ∃ m', m' < m ∧ I_50 m' x1_6' x2_7' x3_8' x4_9' σ') Q x1_6' x2_7' x3_8' x4_9' σ')

theorem o_disk_Disk_Write_c1_eq (Q : WK) (x0 x1 x2 : Value) (σ : AHeap) : wfn P C.E Try.f66 (hl [(1, .loopj [1, 2, 3, 4] [] [1, 2, 3, 4]), (4, .ord [(0, []), (1, []), (2, []), (3, []), (4, []), (5, []), (6, []), (7, []), (8, []), (9, []), (10, []), (11, []), (12, []), (13, []), (14, []), (15, []), (16, []), (17, [0, 1, 4]), (18, [0]), (19, []), (20, []), (21, [])])]) [x0, x1, x2] σ (RQ Q) = o_disk_Disk_Write_c1 Q x0 x1 x2 σ := by kernel_rfl

theorem o_disk_Disk_Write_c1_ev {Q : WK} {x0 x1 x2 : Value} {σ : AHeap} (h : o_disk_Disk_Write_c1 Q x0 x1 x2 σ) : E f_disk_Disk_Write_c1 [x0, x1, x2] σ Q := owfn Try.func66 _ (by kernel_rfl) (Eq.mpr (o_disk_Disk_Write_c1_eq Q x0 x1 x2 σ) h)

def o_disk_Disk_burn_k6 (Q : WK) (p1_31 : Value) (τ_30 : AHeap) : Prop :=
  wF p1_31 fun g_34 a_35 c_36 => E g_34 (a_35 ++ [] ++ c_36) τ_30 fun v26_32 τ_33 =>
  Q (.int .i64 0) τ_33

/-- (*cistern/disk.Disk).burn -/
def o_disk_Disk_burn (Q : WK) (x0 x1 : Value) (σ : AHeap) : Prop :=
  pu (aNil x0) fun v6_3 =>
  pu (aFieldAddr 2 v6_3) fun v7_4 =>
  pu (aLoad false 1 v7_4 σ) fun v8_5 =>
  pu (aBin (some (.int .i64)) .gtr v8_5 (.int .i64 0)) fun v9_6 =>
  wC v9_6 (
  pu (aNil x0) fun v11_10 =>
  pu (aFieldAddr 2 v11_10) fun v12_11 =>
  pu (aLoad false 1 v12_11 σ) fun v13_12 =>
  pu (aBin (some (.int .i64)) .sub v13_12 (.int .i64 1)) fun v14_13 =>
  pu (aNil x0) fun v15_14 =>
  pu (aFieldAddr 2 v15_14) fun v16_15 =>
  pu (aStore 1 v16_15 v14_13 σ) fun τ_16 =>
  pu (aNil x0) fun v18_19 =>
  pu (aFieldAddr 2 v18_19) fun v19_20 =>
  pu (aLoad false 1 v19_20 τ_16) fun v20_21 =>
  pu (aBin (some (.int .i64)) .eql v20_21 (.int .i64 0)) fun v21_22 =>
  wC v21_22 (
  pu (aNil x0) fun v23_26 =>
  pu (aFieldAddr 3 v23_26) fun v24_27 =>
  pu (aStore 1 v24_27 (.bool true) τ_16) fun τ_28 =>
  Q (.int .i64 9) τ_28) (
  (o_disk_Disk_burn_k6 Q x1 τ_16))) (
  (o_disk_Disk_burn_k6 Q x1 σ))

theorem o_disk_Disk_burn_eq (Q : WK) (x0 x1 : Value) (σ : AHeap) : wfn P C.E Try.f65 (fun _ => none) [x0, x1] σ (RQ Q) = o_disk_Disk_burn Q x0 x1 σ := by kernel_rfl

theorem o_disk_Disk_burn_ev {Q : WK} {x0 x1 : Value} {σ : AHeap} (h : o_disk_Disk_burn Q x0 x1 σ) : E f_disk_Disk_burn [x0, x1] σ Q := owfn Try.func65 _ (by kernel_rfl) (Eq.mpr (o_disk_Disk_burn_eq Q x0 x1 σ) h)

def o_disk_Disk_land_b1 (N1 : Value → Value → Value → Value → AHeap → Prop) (Q : WK) (x0_6 x7_7 x8_8 x9_9 : Value) (τ_10 : AHeap) : Prop :=
  pu (aBin (some (.int .i64)) .lss x9_9 x8_8) fun v10_11 =>
  wC v10_11 (
  pu (aIndexAddr 2 x7_7 x9_9) fun v11_17 =>
  pu (aLoad true 2 v11_17 τ_10) fun v12_18 =>
  wNew τ_10 (.cells [(.int .i64 0), (.slice none 0 0)] t_disk_flight false) fun b_19 τ_20 =>
  pu (aStore 2 (.pointer (some ⟨b_19, 0, none⟩)) v12_18 τ_20) fun τ_21 =>
  pu (aNil x0_6) fun v14_24 =>
  pu (aFieldAddr 0 v14_24) fun v15_25 =>
  pu (aLoad false 1 v15_25 τ_21) fun v16_26 =>
  pu (aFieldAddr 0 (.pointer (some ⟨b_19, 0, none⟩))) fun v17_28 =>
  pu (aLoad false 1 v17_28 τ_21) fun v18_29 =>
  pu (aSlice 1 v16_26 (some v18_29) none none) fun v19_30 =>
  pu (aFieldAddr 1 (.pointer (some ⟨b_19, 0, none⟩))) fun v20_31 =>
  pu (aLoad false 1 v20_31 τ_21) fun v21_32 =>
  pu (aCopy 1 v19_30 v21_32 τ_21) fun r22_33 =>
  pu (aBin (some (.int .i64)) .add x9_9 (.int .i64 1)) fun v23_36 =>
  N1 x0_6 x7_7 x8_8 v23_36 r22_33.2) (
  pu (aNil x0_6) fun v25_51 =>
  pu (aFieldAddr 1 v25_51) fun v26_52 =>
  pu (aStore 1 v26_52 (.slice none 0 0) τ_10) fun τ_53 =>
  Q (.tuple #[]) τ_53)

/-- (*cistern/disk.Disk).land -/
def o_disk_Disk_land (Q : WK) (x0 : Value) (σ : AHeap) : Prop :=
  pu (aNil x0) fun v5_1 =>
  pu (aFieldAddr 1 v5_1) fun v6_2 =>
  pu (aLoad false 1 v6_2 σ) fun v7_3 =>
  pu (lenS v7_3) fun v8_4 =>
  ∃ I_54 : Nat → Value → Value → Value → Value → AHeap → Prop, (∃ m, I_54 m x0 v7_3 v8_4 (.int .i64 0) σ) ∧
  ∀ m (x0_6' x7_7' x8_8' x9_9' : Value) (σ' : AHeap), I_54 m x0_6' x7_7' x8_8' x9_9' σ' → (o_disk_Disk_land_b1 (fun x0_6' x7_7' x8_8' x9_9' σ' => ∃ m', m' < m ∧ I_54 m' x0_6' x7_7' x8_8' x9_9' σ') Q x0_6' x7_7' x8_8' x9_9' σ')

theorem o_disk_Disk_land_eq (Q : WK) (x0 : Value) (σ : AHeap) : wfn P C.E Try.f68 (hl [(1, .loopj [0, 7, 8, 9] [0] [0, 7, 8, 9]), (4, .ord [(0, []), (1, []), (2, []), (3, []), (4, []), (5, []), (6, []), (7, []), (8, []), (9, [])])]) [x0] σ (RQ Q) = o_disk_Disk_land Q x0 σ := by kernel_rfl

theorem o_disk_Disk_land_ev {Q : WK} {x0 : Value} {σ : AHeap} (h : o_disk_Disk_land Q x0 σ) : E f_disk_Disk_land [x0] σ Q := owfn Try.func68 _ (by kernel_rfl) (Eq.mpr (o_disk_Disk_land_eq Q x0 σ) h)

def o_disk_Disk_ready_k4 (Q : WK) (p21_17 : Value) (τ_16 : AHeap) : Prop :=
  wC p21_17 (
  Q (.int .i64 6) τ_16) (
  Q (.int .i64 0) τ_16)

def o_disk_Disk_ready_k2 (Q : WK) (p5_6 p0_7 p1_25 : Value) (τ_5 : AHeap) : Prop :=
  wC p5_6 (
  Q (.int .i64 2) τ_5) (
  pu (aNil p0_7) fun v18_8 =>
  pu (aFieldAddr 3 v18_8) fun v19_9 =>
  pu (aLoad false 1 v19_9 τ_5) fun v20_10 =>
  wC v20_10 (
  Q (.int .i64 9) τ_5) (
  pu (aBin (some (.int .i64)) .lss p1_25 (.int .i64 0)) fun v23_14 =>
  wG v23_14 (
  (o_disk_Disk_ready_k4 Q (.bool true) τ_5)) (
  E f_disk_Disk_Blocks [p0_7] τ_5 fun v27_20 τ_21 =>
  pu (aBin (some (.int .i64)) .geq p1_25 v27_20) fun v28_22 =>
  (o_disk_Disk_ready_k4 Q v28_22 τ_21)) (
  wB v23_14 fun b_24 =>
  (o_disk_Disk_ready_k4 Q (cond b_24 (.bool true) skipV) τ_5))))

/-- (*cistern/disk.Disk).ready -/
def o_disk_Disk_ready (Q : WK) (x0 x1 : Value) (σ : AHeap) : Prop :=
  pu (aBin (some (.pointer t_disk_Disk)) .eql x0 (.pointer none)) fun v7_3 =>
  wG v7_3 (
  (o_disk_Disk_ready_k2 Q (.bool true) x0 x1 σ)) (
  pu (aNil x0) fun v10_27 =>
  pu (aFieldAddr 0 v10_27) fun v11_28 =>
  pu (aLoad false 1 v11_28 σ) fun v12_29 =>
  pu (lenS v12_29) fun v13_30 =>
  pu (aBin (some (.int .i64)) .eql v13_30 (.int .i64 0)) fun v14_31 =>
  (o_disk_Disk_ready_k2 Q v14_31 x0 x1 σ)) (
  wB v7_3 fun b_33 =>
  (o_disk_Disk_ready_k2 Q (cond b_33 (.bool true) skipV) x0 x1 σ))

theorem o_disk_Disk_ready_eq (Q : WK) (x0 x1 : Value) (σ : AHeap) : wfn P C.E Try.f64 (fun _ => none) [x0, x1] σ (RQ Q) = o_disk_Disk_ready Q x0 x1 σ := by kernel_rfl

theorem o_disk_Disk_ready_ev {Q : WK} {x0 x1 : Value} {σ : AHeap} (h : o_disk_Disk_ready Q x0 x1 σ) : E f_disk_Disk_ready [x0, x1] σ Q := owfn Try.func64 _ (by kernel_rfl) (Eq.mpr (o_disk_Disk_ready_eq Q x0 x1 σ) h)

def o_disk_New_k2 (Q : WK) (p9_6 p0_14 : Value) (τ_5 : AHeap) : Prop :=
  wC p9_6 (
  Q (.tuple #[(.pointer none), (.int .i64 1)]) τ_5) (
  pu (aBin (some (.int .i64)) .mul p0_14 (.int .i64 256)) fun v11_9 =>
  pu (aMake t_uint8 1 [(.int .u8 0)] v11_9 v11_9 τ_5) fun r12_10 =>
  pu (buildR [(0, 1), (1, 1), (2, 1), (3, 1)] [(.slice none 0 0), (.slice none 0 0), (.int .i64 0), (.bool false)] [(0, r12_10.1)]) fun v13_11 =>
  cond (live v13_11) (wNew r12_10.2 (.cells (Value.cells v13_11).toList t_disk_Disk false) fun b_12 τ_13 =>
  Q (.tuple #[(.pointer (some ⟨b_12, 0, none⟩)), (.int .i64 0)]) τ_13) False)

/-- cistern/disk.New -/
def o_disk_New (Q : WK) (x0 : Value) (σ : AHeap) : Prop :=
  pu (aBin (some (.int .i64)) .lss x0 (.int .i64 1)) fun v5_3 =>
  wG v5_3 (
  (o_disk_New_k2 Q (.bool true) x0 σ)) (
  pu (aBin (some (.int .i64)) .gtr x0 (.int .i64 1024)) fun v8_15 =>
  (o_disk_New_k2 Q v8_15 x0 σ)) (
  wB v5_3 fun b_17 =>
  (o_disk_New_k2 Q (cond b_17 (.bool true) skipV) x0 σ))

theorem o_disk_New_eq (Q : WK) (x0 : Value) (σ : AHeap) : wfn P C.E Try.f13 (fun _ => none) [x0] σ (RQ Q) = o_disk_New Q x0 σ := by kernel_rfl

theorem o_disk_New_ev {Q : WK} {x0 : Value} {σ : AHeap} (h : o_disk_New Q x0 σ) : E f_disk_New [x0] σ Q := owfn Try.func13 _ (by kernel_rfl) (Eq.mpr (o_disk_New_eq Q x0 σ) h)

/-- container/heap.Fix -/
def o_heap_Fix (Q : WK) (x0 x1 : Value) (σ : AHeap) : Prop :=
  pu (aMethod P x0 "Len" σ) fun r_3 => E r_3.1 (r_3.2 :: []) σ fun v7_1 τ_2 =>
  E f_heap_down [x0, x1, v7_1] τ_2 fun v8_4 τ_5 =>
  pu (aUn .not v8_4) fun v9_6 =>
  wC v9_6 (
  E f_heap_up [x0, x1] τ_5 fun v12_11 τ_12 =>
  Q (.tuple #[]) τ_12) (
  Q (.tuple #[]) τ_5)

theorem o_heap_Fix_eq (Q : WK) (x0 x1 : Value) (σ : AHeap) : wfn P C.E Try.f103 (fun _ => none) [x0, x1] σ (RQ Q) = o_heap_Fix Q x0 x1 σ := by kernel_rfl

theorem o_heap_Fix_ev {Q : WK} {x0 x1 : Value} {σ : AHeap} (h : o_heap_Fix Q x0 x1 σ) : E f_heap_Fix [x0, x1] σ Q := owfn Try.func103 _ (by kernel_rfl) (Eq.mpr (o_heap_Fix_eq Q x0 x1 σ) h)

/-- container/heap.Pop -/
def o_heap_Pop (Q : WK) (x0 : Value) (σ : AHeap) : Prop :=
  pu (aMethod P x0 "Len" σ) fun r_5 => E r_5.1 (r_5.2 :: []) σ fun v5_3 τ_4 =>
  pu (aBin (some (.int .i64)) .sub v5_3 (.int .i64 1)) fun v6_6 =>
  pu (aMethod P x0 "Swap" τ_4) fun r_12 => E r_12.1 (r_12.2 :: [(.int .i64 0), v6_6]) τ_4 fun v9_10 τ_11 =>
  E f_heap_down [x0, (.int .i64 0), v6_6] τ_11 fun v12_16 τ_17 =>
  pu (aMethod P x0 "Pop" τ_17) fun r_22 => E r_22.1 (r_22.2 :: []) τ_17 fun v14_20 τ_21 =>
  Q v14_20 τ_21

theorem o_heap_Pop_eq (Q : WK) (x0 : Value) (σ : AHeap) : wfn P C.E Try.f101 (fun _ => none) [x0] σ (RQ Q) = o_heap_Pop Q x0 σ := by kernel_rfl

theorem o_heap_Pop_ev {Q : WK} {x0 : Value} {σ : AHeap} (h : o_heap_Pop Q x0 σ) : E f_heap_Pop [x0] σ Q := owfn Try.func101 _ (by kernel_rfl) (Eq.mpr (o_heap_Pop_eq Q x0 σ) h)

/-- container/heap.Push -/
def o_heap_Push (Q : WK) (x0 x1 : Value) (σ : AHeap) : Prop :=
  pu (aMethod P x0 "Push" σ) fun r_3 => E r_3.1 (r_3.2 :: [x1]) σ fun v6_1 τ_2 =>
  pu (aMethod P x0 "Len" τ_2) fun r_8 => E r_8.1 (r_8.2 :: []) τ_2 fun v9_6 τ_7 =>
  pu (aBin (some (.int .i64)) .sub v9_6 (.int .i64 1)) fun v10_9 =>
  E f_heap_up [x0, v10_9] τ_7 fun v11_10 τ_11 =>
  Q (.tuple #[]) τ_11

theorem o_heap_Push_eq (Q : WK) (x0 x1 : Value) (σ : AHeap) : wfn P C.E Try.f102 (fun _ => none) [x0, x1] σ (RQ Q) = o_heap_Push Q x0 x1 σ := by kernel_rfl

theorem o_heap_Push_ev {Q : WK} {x0 x1 : Value} {σ : AHeap} (h : o_heap_Push Q x0 x1 σ) : E f_heap_Push [x0, x1] σ Q := owfn Try.func102 _ (by kernel_rfl) (Eq.mpr (o_heap_Push_eq Q x0 x1 σ) h)

def o_heap_down_k5 (Q : WK) (p7_23 p1_24 : Value) (τ_22 : AHeap) : Prop :=
  pu (aBin (some (.int .i64)) .gtr p7_23 p1_24) fun v47_25 =>
  Q v47_25 τ_22

def o_heap_down_k10 (N1 : Value → Value → Value → Value → AHeap → Prop) (Q : WK) (p0_45 p9_46 p7_47 p1_73 p2_74 : Value) (τ_44 : AHeap) : Prop :=
  pu (aMethod P p0_45 "Less" τ_44) fun r_50 => E r_50.1 (r_50.2 :: [p9_46, p7_47]) τ_44 fun v38_48 τ_49 =>
  pu (aUn .not v38_48) fun v39_51 =>
  wC v39_51 (
  (o_heap_down_k5 Q p7_47 p1_73 τ_49)) (
  pu (aMethod P p0_45 "Swap" τ_49) fun r_64 => E r_64.1 (r_64.2 :: [p7_47, p9_46]) τ_49 fun v43_62 τ_63 =>
  N1 p0_45 p1_73 p2_74 p9_46 τ_63)

def o_heap_down_k9 (N1 : Value → Value → Value → Value → AHeap → Prop) (Q : WK) (p33_42 p10_43 p0_75 p7_76 p1_77 p2_78 p9_79 : Value) (τ_41 : AHeap) : Prop :=
  wC p33_42 (
  (o_heap_down_k10 N1 Q p0_75 p10_43 p7_76 p1_77 p2_78 τ_41)) (
  (o_heap_down_k10 N1 Q p0_75 p9_79 p7_76 p1_77 p2_78 τ_41))

def o_heap_down_k4 (N1 : Value → Value → Value → Value → AHeap → Prop) (Q : WK) (p21_17 p0_18 p1_19 p2_20 p7_21 p8_94 : Value) (τ_16 : AHeap) : Prop :=
  wC p21_17 (
  (o_heap_down_k5 Q p7_21 p1_19 τ_16)) (
  pu (aBin (some (.int .i64)) .add p8_94 (.int .i64 1)) fun v24_30 =>
  pu (aBin (some (.int .i64)) .lss v24_30 p2_20) fun v27_34 =>
  wG v27_34 (
  pu (aMethod P p0_18 "Less" τ_16) fun r_39 => E r_39.1 (r_39.2 :: [v24_30, p8_94]) τ_16 fun v32_37 τ_38 =>
  (o_heap_down_k9 N1 Q v32_37 v24_30 p0_18 p7_21 p1_19 p2_20 p8_94 τ_38)) (
  (o_heap_down_k9 N1 Q (.bool false) v24_30 p0_18 p7_21 p1_19 p2_20 p8_94 τ_16)) (
  wB v27_34 fun b_84 =>
  (o_heap_down_k9 N1 Q (cond b_84 skipV (.bool false)) v24_30 p0_18 p7_21 p1_19 p2_20 p8_94 τ_16)))

def o_heap_down_b1 (N1 : Value → Value → Value → Value → AHeap → Prop) (Q : WK) (x0_4 x1_5 x2_6 x7_7 : Value) (τ_8 : AHeap) : Prop :=
  pu (aBin (some (.int .i64)) .mul (.int .i64 2) x7_7) fun v13_9 =>
  pu (aBin (some (.int .i64)) .add v13_9 (.int .i64 1)) fun v14_10 =>
  pu (aBin (some (.int .i64)) .geq v14_10 x2_6) fun v17_14 =>
  wG v17_14 (
  (o_heap_down_k4 N1 Q (.bool true) x0_4 x1_5 x2_6 x7_7 v14_10 τ_8)) (
  pu (aBin (some (.int .i64)) .lss v14_10 (.int .i64 0)) fun v20_98 =>
  (o_heap_down_k4 N1 Q v20_98 x0_4 x1_5 x2_6 x7_7 v14_10 τ_8)) (
  wB v17_14 fun b_100 =>
  (o_heap_down_k4 N1 Q (cond b_100 (.bool true) skipV) x0_4 x1_5 x2_6 x7_7 v14_10 τ_8))

/-- container/heap.down -/
def o_heap_down (Q : WK) (x0 x1 x2 : Value) (σ : AHeap) : Prop :=
  ∃ I_101 : Nat → Value → Value → Value → Value → AHeap → Prop, (∃ m, I_101 m x0 x1 x2 x1 σ) ∧
  ∀ m (x0_4' x1_5' x2_6' x7_7' : Value) (σ' : AHeap), I_101 m x0_4' x1_5' x2_6' x7_7' σ' → (o_heap_down_b1 (fun x0_4' x1_5' x2_6' x7_7' σ' => ∃ m', m' < m ∧ I_101 m' x0_4' x1_5' x2_6' x7_7' σ') Q x0_4' x1_5' x2_6' x7_7' σ')

theorem o_heap_down_eq (Q : WK) (x0 x1 x2 : Value) (σ : AHeap) : wfn P C.E Try.f115 (hl [(1, .loopj [0, 1, 2, 7] [1, 7] [0, 1, 2, 7])]) [x0, x1, x2] σ (RQ Q) = o_heap_down Q x0 x1 x2 σ := by kernel_rfl

theorem o_heap_down_ev {Q : WK} {x0 x1 x2 : Value} {σ : AHeap} (h : o_heap_down Q x0 x1 x2 σ) : E f_heap_down [x0, x1, x2] σ Q := owfn Try.func115 _ (by kernel_rfl) (Eq.mpr (o_heap_down_eq Q x0 x1 x2 σ) h)

def o_heap_up_k2 (N1 : Value → Value → AHeap → Prop) (Q : WK) (p17_12 p0_13 p1_14 p4_25 : Value) (τ_11 : AHeap) : Prop :=
  wC p17_12 (
  Q (.tuple #[]) τ_11) (
  pu (aMethod P p0_13 "Swap" τ_11) fun r_21 => E r_21.1 (r_21.2 :: [p4_25, p1_14]) τ_11 fun v21_19 τ_20 =>
  N1 p0_13 p4_25 τ_20)

def o_heap_up_b1 (N1 : Value → Value → AHeap → Prop) (Q : WK) (x0_1 x1_2 : Value) (τ_3 : AHeap) : Prop :=
  pu (aBin (some (.int .i64)) .sub x1_2 (.int .i64 1)) fun v6_4 =>
  pu (aBin (some (.int .i64)) .quo v6_4 (.int .i64 2)) fun v7_5 =>
  pu (aBin (some (.int .i64)) .eql v7_5 x1_2) fun v10_9 =>
  wG v10_9 (
  (o_heap_up_k2 N1 Q (.bool true) x0_1 x1_2 v7_5 τ_3)) (
  pu (aMethod P x0_1 "Less" τ_3) fun r_29 => E r_29.1 (r_29.2 :: [x1_2, v7_5]) τ_3 fun v15_27 τ_28 =>
  pu (aUn .not v15_27) fun v16_30 =>
  (o_heap_up_k2 N1 Q v16_30 x0_1 x1_2 v7_5 τ_28)) (
  wB v10_9 fun b_32 =>
  (o_heap_up_k2 N1 Q (cond b_32 (.bool true) skipV) x0_1 x1_2 v7_5 τ_3))

/-- container/heap.up -/
def o_heap_up (Q : WK) (x0 x1 : Value) (σ : AHeap) : Prop :=
  ∃ I_33 : Nat → Value → Value → AHeap → Prop, (∃ m, I_33 m x0 x1 σ) ∧
  ∀ m (x0_1' x1_2' : Value) (σ' : AHeap), I_33 m x0_1' x1_2' σ' → (o_heap_up_b1 (fun x0_1' x1_2' σ' => ∃ m', m' < m ∧ I_33 m' x0_1' x1_2' σ') Q x0_1' x1_2' σ')

theorem o_heap_up_eq (Q : WK) (x0 x1 : Value) (σ : AHeap) : wfn P C.E Try.f116 (hl [(1, .loopj [0, 1] [] [0, 1])]) [x0, x1] σ (RQ Q) = o_heap_up Q x0 x1 σ := by kernel_rfl

theorem o_heap_up_ev {Q : WK} {x0 x1 : Value} {σ : AHeap} (h : o_heap_up Q x0 x1 σ) : E f_heap_up [x0, x1] σ Q := owfn Try.func116 _ (by kernel_rfl) (Eq.mpr (o_heap_up_eq Q x0 x1 σ) h)

/-- cistern/cisternlaw03.Full -/
def o_law03_Full (Q : WK) (x0 : Value) (σ : AHeap) : Prop :=
  pu (buildS t_uint8 1 1 [(.int .u8 0)] [(0, x0)] σ) fun r4_3 =>
  E f_bytes_Repeat [r4_3.1, (.int .i64 256)] r4_3.2 fun v5_4 τ_5 =>
  Q v5_4 τ_5

theorem o_law03_Full_eq (Q : WK) (x0 : Value) (σ : AHeap) : wfn P C.E Try.f26 (fun _ => none) [x0] σ (RQ Q) = o_law03_Full Q x0 σ := by kernel_rfl

theorem o_law03_Full_ev {Q : WK} {x0 : Value} {σ : AHeap} (h : o_law03_Full Q x0 σ) : E f_law03_Full [x0] σ Q := owfn Try.func26 _ (by kernel_rfl) (Eq.mpr (o_law03_Full_eq Q x0 σ) h)

def o_law05_block_b1 (N1 : Value → Value → Value → AHeap → Prop) (Q : WK) (x0_5 x3_6 x4_7 : Value) (τ_8 : AHeap) : Prop :=
  pu (lenS x3_6) fun v8_9 =>
  pu (aBin (some (.int .i64)) .lss x4_7 v8_9) fun v9_10 =>
  wC v9_10 (
  pu (aBin (some (.int .i64)) .quo x4_7 (.int .i64 64)) fun v16_17 =>
  pu (convI .u8 v16_17) fun v17_18 =>
  pu (aBin (some (.int .u8)) .add x0_5 v17_18) fun v18_19 =>
  pu (aIndexAddr 1 x3_6 x4_7) fun v19_20 =>
  pu (aStore 1 v19_20 v18_19 τ_8) fun τ_21 =>
  pu (aBin (some (.int .i64)) .add x4_7 (.int .i64 1)) fun v11_24 =>
  N1 x0_5 x3_6 v11_24 τ_21) (
  Q x3_6 τ_8)

/-- cistern/cisternlaw05.block -/
def o_law05_block (Q : WK) (x0 : Value) (σ : AHeap) : Prop :=
  pu (aMake t_uint8 1 [(.int .u8 0)] (.int .i64 256) (.int .i64 256) σ) fun r5_2 =>
  ∃ I_32 : Nat → Value → Value → Value → AHeap → Prop, (∃ m, I_32 m x0 r5_2.1 (.int .i64 0) r5_2.2) ∧
  ∀ m (x0_5' x3_6' x4_7' : Value) (σ' : AHeap), I_32 m x0_5' x3_6' x4_7' σ' → (o_law05_block_b1 (fun x0_5' x3_6' x4_7' σ' => ∃ m', m' < m ∧ I_32 m' x0_5' x3_6' x4_7' σ') Q x0_5' x3_6' x4_7' σ')

theorem o_law05_block_eq (Q : WK) (x0 : Value) (σ : AHeap) : wfn P C.E Try.f39 (hl [(1, .loopj [0, 3, 4] [3] [0, 3, 4])]) [x0] σ (RQ Q) = o_law05_block Q x0 σ := by kernel_rfl

theorem o_law05_block_ev {Q : WK} {x0 : Value} {σ : AHeap} (h : o_law05_block Q x0 σ) : E f_law05_block [x0] σ Q := owfn Try.func39 _ (by kernel_rfl) (Eq.mpr (o_law05_block_eq Q x0 σ) h)

/-- cistern/cisternlaw05.within -/
def o_law05_within (Q : WK) (x0 x1 x2 : Value) (σ : AHeap) : Prop :=
  pu (convI .u64 x0) fun v9_4 =>
  pu (aBin (some (.int .i64)) .sub x2 x1) fun v12_6 =>
  pu (aBin (some (.int .i64)) .add v12_6 (.int .i64 1)) fun v13_7 =>
  pu (convI .u64 v13_7) fun v14_8 =>
  pu (aBin (some (.int .u64)) .rem v9_4 v14_8) fun v15_9 =>
  pu (convI .i64 v15_9) fun v16_10 =>
  pu (aBin (some (.int .i64)) .add x1 v16_10) fun v17_11 =>
  Q v17_11 σ

theorem o_law05_within_eq (Q : WK) (x0 x1 x2 : Value) (σ : AHeap) : wfn P C.E Try.f36 (fun _ => none) [x0, x1, x2] σ (RQ Q) = o_law05_within Q x0 x1 x2 σ := by kernel_rfl

theorem o_law05_within_ev {Q : WK} {x0 x1 x2 : Value} {σ : AHeap} (h : o_law05_within Q x0 x1 x2 σ) : E f_law05_within [x0, x1, x2] σ Q := owfn Try.func36 _ (by kernel_rfl) (Eq.mpr (o_law05_within_eq Q x0 x1 x2 σ) h)

/-- math/bits.Mul -/
def o_math_bits_Mul (Q : WK) (x0 x1 : Value) (σ : AHeap) : Prop :=
  E f_math_bits_Mul64 [x0, x1] σ fun v25_5 τ_6 =>
  pu (aExtract v25_5 0) fun v26_7 =>
  pu (aExtract v25_5 1) fun v27_8 =>
  Q (.tuple #[v26_7, v27_8]) τ_6

theorem o_math_bits_Mul_eq (Q : WK) (x0 x1 : Value) (σ : AHeap) : wfn P C.E Try.f99 (fun _ => none) [x0, x1] σ (RQ Q) = o_math_bits_Mul Q x0 x1 σ := by kernel_rfl

theorem o_math_bits_Mul_ev {Q : WK} {x0 x1 : Value} {σ : AHeap} (h : o_math_bits_Mul Q x0 x1 σ) : E f_math_bits_Mul [x0, x1] σ Q := owfn Try.func99 _ (by kernel_rfl) (Eq.mpr (o_math_bits_Mul_eq Q x0 x1 σ) h)

/-- math/bits.Mul64 -/
def o_math_bits_Mul64 (Q : WK) (x0 x1 : Value) (σ : AHeap) : Prop :=
  pu (aBin (some (.int .u64)) .and x0 (.int .u64 4294967295)) fun v15_3 =>
  pu (aBin (some (.int .u64)) .shr x0 (.int .u64 32)) fun v17_6 =>
  pu (aBin (some (.int .u64)) .and x1 (.int .u64 4294967295)) fun v19_9 =>
  pu (aBin (some (.int .u64)) .shr x1 (.int .u64 32)) fun v21_12 =>
  pu (aBin (some (.int .u64)) .mul v15_3 v19_9) fun v24_16 =>
  pu (aBin (some (.int .u64)) .mul v17_6 v19_9) fun v27_20 =>
  pu (aBin (some (.int .u64)) .shr v24_16 (.int .u64 32)) fun v29_22 =>
  pu (aBin (some (.int .u64)) .add v27_20 v29_22) fun v30_23 =>
  pu (aBin (some (.int .u64)) .and v30_23 (.int .u64 4294967295)) fun v32_26 =>
  pu (aBin (some (.int .u64)) .shr v30_23 (.int .u64 32)) fun v34_29 =>
  pu (aBin (some (.int .u64)) .mul v15_3 v21_12) fun v38_34 =>
  pu (aBin (some (.int .u64)) .add v32_26 v38_34) fun v39_35 =>
  pu (aBin (some (.int .u64)) .mul v17_6 v21_12) fun v42_39 =>
  pu (aBin (some (.int .u64)) .add v42_39 v34_29) fun v44_41 =>
  pu (aBin (some (.int .u64)) .shr v39_35 (.int .u64 32)) fun v46_43 =>
  pu (aBin (some (.int .u64)) .add v44_41 v46_43) fun v47_44 =>
  pu (aBin (some (.int .u64)) .mul x0 x1) fun v50_48 =>
  Q (.tuple #[v47_44, v50_48]) σ

theorem o_math_bits_Mul64_eq (Q : WK) (x0 x1 : Value) (σ : AHeap) : wfn P C.E Try.f114 (fun _ => none) [x0, x1] σ (RQ Q) = o_math_bits_Mul64 Q x0 x1 σ := by kernel_rfl

theorem o_math_bits_Mul64_ev {Q : WK} {x0 x1 : Value} {σ : AHeap} (h : o_math_bits_Mul64 Q x0 x1 σ) : E f_math_bits_Mul64 [x0, x1] σ Q := owfn Try.func114 _ (by kernel_rfl) (Eq.mpr (o_math_bits_Mul64_eq Q x0 x1 σ) h)

/-- slices.Clone[[]cistern/disk.flight,cistern/disk.flight] -/
def o_slices_Clone_sl_disk_flight_disk_flight (Q : WK) (x0 : Value) (σ : AHeap) : Prop :=
  pu (aBin (some (.slice t_disk_flight)) .eql x0 (.slice none 0 0)) fun v4_3 =>
  wC v4_3 (
  Q (.slice none 0 0) σ) (
  pu (aAppend t_disk_flight 2 32 (.slice (some ⟨ZB, 0, some 0⟩) 0 0) x0 σ) fun r7_8 =>
  Q r7_8.1 r7_8.2)

theorem o_slices_Clone_sl_disk_flight_disk_flight_eq (Q : WK) (x0 : Value) (σ : AHeap) : wfn P C.E Try.f73 (fun _ => none) [x0] σ (RQ Q) = o_slices_Clone_sl_disk_flight_disk_flight Q x0 σ := by kernel_rfl

theorem o_slices_Clone_sl_disk_flight_disk_flight_ev {Q : WK} {x0 : Value} {σ : AHeap} (h : o_slices_Clone_sl_disk_flight_disk_flight Q x0 σ) : E f_slices_Clone_sl_disk_flight_disk_flight [x0] σ Q := owfn Try.func73 _ (by kernel_rfl) (Eq.mpr (o_slices_Clone_sl_disk_flight_disk_flight_eq Q x0 σ) h)

end Go.Ax.O
set_option maxRecDepth 100000
namespace Go.Ax.O
open Go.Proofs

variable {l : List Assn} {σ : AHeap} {Q : WK}

theorem clone_ok {a : Option Addr} {n c : Nat} {bs : List UInt8} (h : H l σ) (hs : srcOf 1 (.slice a n c) σ = some (n, bv bs)) (hn : n ≤ 1099511627776)
    (hk : ∀ v σ', H (l ++ [Own t_uint8 1 v n (bv bs)]) σ' → Q v σ') : E f_bytes_Clone [.slice a n c] σ Q := by
  apply o_bytes_Clone_ev; unfold o_bytes_Clone
  cases a with
  | none =>
    simp
    have : n = 0 ∧ bs = [] := by
      simp only [srcOf] at hs
      split at hs
      · rename_i e; subst e
        simp only [Option.some.injEq, Prod.mk.injEq] at hs
        exact ⟨rfl, by have := congrArg List.length hs.2; simpa using this.symm⟩
      · cases hs
    obtain ⟨rfl, rfl⟩ := this
    exact hk _ _ (h.own_nil t_uint8 1)
  | some a =>
    simp
    refine append_own (n := 0) (xs := []) (h.own_zb t_uint8 1) l.length (by simp) hs (by omega) (by omega) (bv_one _) ?_
    intro v' σ' h'
    simp at h'
    exact hk _ _ h'

theorem equal_ok {a a' : Option Addr} {n c n' c' : Nat} {x y : List UInt8} (hx : srcOf 1 (.slice a n c) σ = some (n, bv x)) (hy : srcOf 1 (.slice a' n' c') σ = some (n', bv y))
    (hk : Q (.bool (decide (x = y))) σ) : E f_bytes_Equal [.slice a n c, .slice a' n' c'] σ Q := by
  apply o_bytes_Equal_ev; unfold o_bytes_Equal
  have h1 : ∀ a n c, aConv P 23 9 (.slice a n c) σ = aBytesStr (.slice a n c) σ := fun a n c => by kernel_rfl
  rw [h1, h1, bytesStr_src hx, bytesStr_src hy]
  simp [aBin, aStr, ByteArray.toList_eq]
  have : (x == y) = decide (x = y) := by by_cases e : x = y <;> simp [e]
  rw [this]; exact hk
theorem mul_256 (hk : Q (.tuple #[.int .u64 0, .int .u64 256]) σ) : E f_math_bits_Mul [.int .u64 1, .int .u64 256] σ Q := by
  apply o_math_bits_Mul_ev; unfold o_math_bits_Mul
  apply o_math_bits_Mul64_ev; unfold o_math_bits_Mul64
  have e : ∀ (d : Option TypeDesc) (a b : Int), aBin d .shr (.int .u64 a) (.int .u64 b) = aShift .shr .u64 a b := fun _ _ _ => rfl
  simp [e, aShift, IntKind.wrap, IntKind.bits, IntKind.signed]
  exact hk

theorem rep_ok {sb e : Nat} {opn : Bool} {b : UInt8} (h : H l σ) (j : Nat) (hj : l[j]? = some (pt sb (.cells [by8 b] e opn))) (hk : ∀ v σ', H (l ++ [Own t_uint8 1 v 256 (bv (List.replicate 256 b))]) σ' → Q v σ') : E f_bytes_Repeat [.slice (some ⟨sb, 0, none⟩) 1 1, .int .i64 256] σ Q := by
  apply o_bytes_Repeat_ev; unfold o_bytes_Repeat
  simp [IntKind.wrap, IntKind.bits, IntKind.signed]
  refine mul_256 ?_
  simp
  unfold o_bytes_Repeat_k7
  simp [IntKind.wrap, IntKind.bits, IntKind.signed]
  unfold o_bytes_Repeat_k16
  refine noZero_ok (H_one.2 h) (by omega) ?_
  intro B σ1 h1
  have e1 : aSlice 1 (.slice (some ⟨B, 0, none⟩) (Int.toNat 256) (OPEN * 1 + Int.toNat 256)) none (some (.int .i64 256)) (some (.int .i64 256)) = some (.slice (some ⟨B, 0, none⟩) 256 256) := by
    simp [aSlice, bnd, bndO, known, OPEN, add_mk]
  simp only [e1, pu_some]
  have hU : (List.replicate (Int.toNat 256) undef).length = 256 := by rw [List.length_replicate]; rfl
  generalize List.replicate (Int.toNat 256) undef = U at h1 hU
  have hs : srcOf 1 (.slice (some ⟨sb, 0, none⟩) (Nat.min 1 256) 1) σ1 = some (1, bv [b]) := by
    rw [show Nat.min 1 256 = 1 from rfl, src_row ((h1.beside 0 rfl).row j hj) (by simp)]; rfl
  refine copy_ok (o := 0) h1 1 rfl hs (bv_one _) (by simp; omega) ?_
  intro σ2 h2
  refine ⟨fun m x7 x8 x9 x10 τ => ∃ k : Nat, m = 256 - k ∧ 1 ≤ k ∧ k ≤ 256 ∧ x7 = .int .i64 256 ∧ x8 = .int .i64 256 ∧ x9 = .slice (some ⟨B, 0, none⟩) 256 256 ∧ x10 = .int .i64 k ∧
    H [Star l, pt B (.cells (bv (List.replicate k b) ++ U.drop k) t_uint8 true)] τ, ⟨_, 1, rfl, by omega, by omega, rfl, rfl, rfl, rfl, ?_⟩, ?_⟩
  · exact h2
  · rintro m _ _ _ _ τ ⟨k, rfl, hk1, hk2, rfl, rfl, rfl, rfl, h⟩
    suffices hb : ∀ N : Value → Value → Value → Value → AHeap → Prop, (∀ τ' k', k < k' → k' ≤ 256 → k < 256 → H [Star l, pt B (.cells (bv (List.replicate k' b) ++ U.drop k') t_uint8 true)] τ' →
        N (.int .i64 256) (.int .i64 256) (.slice (some ⟨B, 0, none⟩) 256 256) (.int .i64 k') τ') → o_bytes_Repeat_b1 N Q (.int .i64 256) (.int .i64 256) (.slice (some ⟨B, 0, none⟩) 256 256) (.int .i64 k) τ from
      hb _ fun τ' k' hlt h256 hk' h' => ⟨_, by omega, k', rfl, by omega, h256, rfl, rfl, rfl, rfl, h'⟩
    intro N hN
    unfold o_bytes_Repeat_b1
    simp
    refine wC_dec (fun hlt => ?_) fun hlt => ?_
    · have e2 : (if (256 : Int) < k then (256 : Int) else k) = k := by rw [if_neg (by omega)]
      obtain ⟨c1, hs1, _⟩ := slice_from (z := 1) (b := B) (o := 0) (n := 256) (c := 256) (lo := (k : Int)) (k := .i64) (CapOk.exact (by unfold OPEN; omega)) (by omega)
      obtain ⟨c2, hs2, _⟩ := slice_to (z := 1) (b := B) (o := 0) (n := 256) (c := 256) (hi := (k : Int)) (k := .i64) (CapOk.exact (by unfold OPEN; omega)) (by omega) (by omega)
      simp [e2, hs1, hs2]
      have hrow := h.row 1 rfl
      generalize hmm : Nat.min k (256 - k) = mm
      have hmm1 : mm ≤ k ∧ mm ≤ 256 - k ∧ 0 < mm := by
        have h3 : Nat.min k (256 - k) = k ∨ Nat.min k (256 - k) = 256 - k := by
          rcases Nat.le_total k (256 - k) with q | q
          · left; exact Nat.min_eq_left q
          · right; exact Nat.min_eq_right q
        subst hmm
        refine ⟨Nat.min_le_left k (256 - k), Nat.min_le_right k (256 - k), by omega⟩
      have hs3 : srcOf 1 (.slice (some ⟨B, 0, none⟩) (Nat.min k (256 - k)) c2) τ = some (mm, bv (List.replicate mm b)) := by
        rw [hmm, src_row hrow (by simp; omega)]
        simp [List.take_append_of_le_length, hmm1.1]
      refine copy_ok h 1 rfl hs3 (bv_one _) (by simp; omega) ?_
      intro σ3 h3
      simp
      rw [wrap_i64 (by omega)]
      have := hN σ3 (k + mm) (by omega) (by omega) (by omega) (by
        have e4 : splice (bv (List.replicate k b) ++ U.drop k) k (bv (List.replicate mm b)) = bv (List.replicate (k + mm) b) ++ U.drop (k + mm) := by
          rw [splice_mid _ _ _ _ (by simp) (by simp; omega)]
          simp [← bv_append, List.replicate_append_replicate]
        rw [e4] at h3; exact h3)
      simpa using this
    · obtain rfl : k = 256 := by omega
      rw [List.drop_of_length_le (by omega), List.append_nil] at h
      exact hk _ _ (H_app.2 (h.to_own 1 rfl (n := 256) (z := 1) (by simp only [bv_length, List.length_replicate]) (by unfold OPEN; omega)))

theorem full_ok {b : UInt8} (h : H l σ) (hk : ∀ v σ', H (l ++ [Own t_uint8 1 v 256 (bv (List.replicate 256 b))]) σ' → Q v σ') : E f_law03_Full [by8 b] σ Q := by
  apply o_law03_Full_ev; unfold o_law03_Full
  refine buildS_ok (H_one.2 h) (by rfl) (cs := [by8 b]) (by simp [reps, splice, by8]) ?_
  intro B σ1 h1
  refine rep_ok h1 1 rfl ?_
  intro v σ2 h2
  exact hk _ _ (H_app.2 (h2.pick [0, 2] (by decide)))
end Go.Ax.O
namespace Go.Ax

def put (l : List UInt8) (a : Nat) (x : List UInt8) : List UInt8 := l.take a ++ x ++ l.drop (a + x.length)
theorem put_length (l : List UInt8) (a : Nat) (x : List UInt8) (h : a + x.length ≤ l.length) : (put l a x).length = l.length := by
  simp [put]; omega
theorem put_nil (l : List UInt8) (a : Nat) : put l a [] = l := by simp [put]
theorem splice_put (l x : List UInt8) (a : Nat) : splice (bv l) a (bv x) = bv (put l a x) := by simp [splice, put]

abbrev Flight := Nat × List UInt8
structure DM where
  last : List UInt8
  fly : List Flight
  fuse : Nat
  off : Bool

structure FlyOk (n : Nat) (f : Flight) : Prop where
  len : f.2.length = 64
  fit : f.1 + 64 ≤ 256 * n
  al : f.1 % 64 = 0
structure DM.Ok (D : DM) (n : Nat) : Prop where
  lo : 1 ≤ n
  hi : n ≤ 1024
  len : D.last.length = 256 * n
  fly : ∀ f ∈ D.fly, FlyOk n f

def laid (l : List UInt8) (fs : List Flight) : List UInt8 := fs.foldl (fun l f => put l f.1 f.2) l
/-- What is laid of a sector write at a crash. -/
def cutOf (picks : List UInt8) (k : Nat) : Nat :=
  match picks[k]? with
  | none => 0
  | some p => if p.toNat = 0 then 0 else if p.toNat = 1 then 64 else (p.toNat - 2) % 65
def crashed (picks : List UInt8) : List UInt8 → Nat → List Flight → List UInt8
  | l, _, [] => l
  | l, k, f :: fs => crashed picks (put l f.1 (f.2.take (cutOf picks k))) (k + 1) fs
/-- What is in flight over a block. -/
def over (from' : Nat) (out : List UInt8) (fs : List Flight) : List UInt8 := fs.foldl (fun out f => if from' ≤ f.1 ∧ f.1 < from' + 256 then put out (f.1 - from') f.2 else out) out
/-- A block's sector writes. -/
def parts (at' : Nat) (b : List UInt8) : List Flight := [(at' * 256, (b.drop 0).take 64), (at' * 256 + 64, (b.drop 64).take 64), (at' * 256 + 128, (b.drop 128).take 64), (at' * 256 + 192, (b.drop 192).take 64)]

namespace DM
def new (n : Nat) : DM := ⟨List.replicate (256 * n) 0, [], 0, false⟩
def ready (D : DM) (at' : Int) : Int := if D.off then 9 else if at' < 0 ∨ (D.last.length / 256 : Nat) ≤ at' then 6 else 0
/-- Behind the fuse: does the power stay? -/
def burn (D : DM) : DM × Bool := if D.fuse = 0 then (D, true) else if D.fuse = 1 then ({ D with fuse := 0, off := true }, false) else ({ D with fuse := D.fuse - 1 }, true)
def land (D : DM) : DM := { D with last := laid D.last D.fly, fly := [] }
def fling (D : DM) (at' : Nat) (b : List UInt8) : DM := { D with fly := D.fly ++ parts at' b }
def write (D : DM) (at' : Int) (b : List UInt8) : DM × Int :=
  if D.ready at' ≠ 0 then (D, D.ready at') else if b.length ≠ 256 then (D, 1) else if D.burn.2 then (D.burn.1.fling at'.toNat b, 0) else (D.burn.1, 9)
def barrier (D : DM) : DM × Int := if D.ready 0 ≠ 0 then (D, D.ready 0) else if D.burn.2 then (D.burn.1.land, 0) else (D.burn.1, 9)
def block (D : DM) (at' : Nat) : List UInt8 := over (at' * 256) ((D.last.drop (at' * 256)).take 256) D.fly
def setFuse (D : DM) (n : Int) : DM := { D with fuse := n.toNat }
def crash (D : DM) (picks : List UInt8) : DM := ⟨crashed picks D.last 0 D.fly, [], 0, false⟩
end DM

theorem laid_length {n : Nat} : ∀ (fs : List Flight) (l : List UInt8), l.length = 256 * n → (∀ f ∈ fs, FlyOk n f) → (laid l fs).length = 256 * n
  | [], l, h, _ => h
  | f :: fs, l, h, hf => laid_length fs (put l f.1 f.2) (by
      have h1 := hf f (by simp)
      rw [put_length _ _ _ (by have := h1.len; have := h1.fit; omega), h]) fun g hg => hf g (by simp [hg])
theorem laid_take (l : List UInt8) (fs : List Flight) (k : Nat) (f : Flight) (h : fs[k]? = some f) : laid l (fs.take (k + 1)) = put (laid l (fs.take k)) f.1 f.2 := by
  rw [List.take_add_one, h]; simp [laid]
theorem over_take (a : Nat) (l : List UInt8) (fs : List Flight) (k : Nat) (f : Flight) (h : fs[k]? = some f) :
    over a l (fs.take (k + 1)) = if a ≤ f.1 ∧ f.1 < a + 256 then put (over a l (fs.take k)) (f.1 - a) f.2 else over a l (fs.take k) := by
  rw [List.take_add_one, h]; simp [over]
theorem crashed_snoc (picks : List UInt8) : ∀ (fs : List Flight) (l : List UInt8) (j : Nat) (f : Flight), crashed picks l j (fs ++ [f]) = put (crashed picks l j fs) f.1 (f.2.take (cutOf picks (j + fs.length)))
  | [], l, j, f => by simp [crashed]
  | g :: fs, l, j, f => by
    simp only [List.cons_append, crashed, crashed_snoc picks fs, List.length_cons]
    rw [show j + 1 + fs.length = j + (fs.length + 1) by omega]
theorem crashed_take (picks l : List UInt8) (fs : List Flight) (k : Nat) (f : Flight) (h : fs[k]? = some f) :
    crashed picks l 0 (fs.take (k + 1)) = put (crashed picks l 0 (fs.take k)) f.1 (f.2.take (cutOf picks k)) := by
  have hk := (List.getElem?_eq_some_iff.1 h).1
  rw [List.take_add_one, h]
  simp only [Option.toList_some, crashed_snoc, List.length_take, Nat.min_eq_left (Nat.le_of_lt hk), Nat.zero_add]
theorem crashed_length {n : Nat} (picks : List UInt8) : ∀ (fs : List Flight) (l : List UInt8) (j : Nat), l.length = 256 * n → (∀ f ∈ fs, FlyOk n f) → (crashed picks l j fs).length = 256 * n
  | [], l, j, h, _ => h
  | f :: fs, l, j, h, hf => crashed_length picks fs _ (j + 1) (by
      have h1 := hf f (by simp)
      rw [put_length _ _ _ (by have := h1.len; have := h1.fit; simp; omega), h]) fun g hg => hf g (by simp [hg])
theorem over_length (a : Nat) : ∀ (fs : List Flight) (l : List UInt8), l.length = 256 → (∀ f ∈ fs, f.2.length = 64) → (∀ f ∈ fs, a ≤ f.1 → f.1 < a + 256 → f.1 + 64 ≤ a + 256) → (over a l fs).length = 256
  | [], l, h, _, _ => h
  | f :: fs, l, h, hf, hg => by
    have h1 := hf f (by simp)
    have h2 := hg f (by simp)
    have ih := over_length a fs (if a ≤ f.1 ∧ f.1 < a + 256 then put l (f.1 - a) f.2 else l) (by
      split
      · rename_i hc
        have := h2 hc.1 hc.2
        rw [put_length _ _ _ (by omega), h]
      · exact h) (fun g hh => hf g (by simp [hh])) (fun g hh => hg g (by simp [hh]))
    exact ih
end Go.Ax
set_option maxRecDepth 100000
namespace Go.Ax.O
open Go.Proofs

variable {l : List Assn} {σ : AHeap} {Q : WK}

/-- The cells of flights. -/
def flc : List Flight → List Value → List Value
  | f :: fs, s :: ss => .int .i64 (f.1 : Nat) :: s :: flc fs ss
  | _, _ => []
def FlyA : List Flight → List Value → Assn
  | f :: fs, s :: ss => sep (RoB s f.2) (FlyA fs ss)
  | _, _ => emp
theorem flc_get : ∀ (fs : List Flight) (ss : List Value) (k : Nat) (f : Flight) (s : Value), fs[k]? = some f → ss[k]? = some s → ((flc fs ss).drop (k * 2)).take 2 = [.int .i64 (f.1 : Nat), s]
  | [], _, k, f, s, h, _ => by simp at h
  | _ :: _, [], k, f, s, _, h => by simp at h
  | f :: fs, s :: ss, 0, f', s', h, h' => by simp at h h'; subst h; subst h'; simp [flc]
  | f :: fs, s :: ss, k + 1, f', s', h, h' => by
    simp at h h'
    have := flc_get fs ss k f' s' h h'
    simp only [flc]
    rw [show (k + 1) * 2 = k * 2 + 1 + 1 by omega, List.drop_succ_cons, List.drop_succ_cons]
    exact this
theorem flc_append : ∀ (fs : List Flight) (ss : List Value) (gs : List Flight) (ts : List Value), fs.length = ss.length → flc (fs ++ gs) (ss ++ ts) = flc fs ss ++ flc gs ts
  | [], [], gs, ts, _ => rfl
  | [], _ :: _, gs, ts, h => by simp at h
  | _ :: _, [], gs, ts, h => by simp at h
  | f :: fs, s :: ss, gs, ts, h => by simp [flc, flc_append fs ss gs ts (by simpa using h)]
theorem FlyA.dup : ∀ (fs : List Flight) (ss : List Value), Dup (FlyA fs ss)
  | [], _ => by simpa [FlyA] using Dup.emp
  | _ :: _, [] => by simpa [FlyA] using Dup.emp
  | f :: fs, s :: ss => Dup.sep (RoB.dup _ _) (FlyA.dup fs ss)
theorem FlyA_append : ∀ (fs : List Flight) (ss : List Value) (gs : List Flight) (ts : List Value), fs.length = ss.length → FlyA (fs ++ gs) (ss ++ ts) = sep (FlyA fs ss) (FlyA gs ts)
  | [], [], gs, ts, _ => by simp [FlyA, emp_sep]
  | [], _ :: _, gs, ts, h => by simp at h
  | _ :: _, [], gs, ts, h => by simp at h
  | f :: fs, s :: ss, gs, ts, h => by simp [FlyA, FlyA_append fs ss gs ts (by simpa using h), sep_assoc]
theorem fly0 : ∀ {fs : List Flight} {ss : List Value} {l : List Assn} {σ : AHeap} {k : Nat} {f : Flight} {s : Value}, H (FlyA fs ss :: l) σ → fs[k]? = some f → ss[k]? = some s → H (RoB s f.2 :: l) σ
  | [], _, l, σ, k, f, s, h, hf, hs => by simp at hf
  | _ :: _, [], l, σ, k, f, s, h, hf, hs => by simp at hs
  | f :: fs, s :: ss, l, σ, 0, f', s', h, hf, hs => by
    simp at hf hs; subst hf; subst hs
    simp only [FlyA, H_sep] at h
    exact h.second
  | f :: fs, s :: ss, l, σ, k + 1, f', s', h, hf, hs => by
    simp at hf hs
    simp only [FlyA, H_sep] at h
    exact fly0 h.tail hf hs
theorem fly_at {fs : List Flight} {ss : List Value} (h : H l σ) (i : Nat) (hi : l[i]? = some (FlyA fs ss)) {k : Nat} {f : Flight} {s : Value} (hf : fs[k]? = some f) (hs : ss[k]? = some s) :
    ∃ b o cap c, s = .slice (some ⟨b, o, none⟩) f.2.length cap ∧ CapOk 1 f.2.length cap ∧ σ.row b = some c ∧ (c.drop o).take f.2.length = bv f.2 ∧ o + f.2.length ≤ c.length := (fly0 (h.front i hi) hf hs).rob0

/-- A disk: its own block, what lasts, the flights. -/
def DiskP (b : Nat) (lv fv : Value) (ss : List Value) (D : DM) : List Assn :=
  [pt b (.cells [lv, fv, .int .i64 D.fuse, .bool D.off] t_disk_Disk false), Own t_uint8 1 lv D.last.length (bv D.last), Own t_disk_flight 2 fv D.fly.length (flc D.fly ss), FlyA D.fly ss]
def Disk (v : Value) (D : DM) : Assn := ex fun p : Nat × Value × Value × List Value =>
  sep (pure' (v = .pointer (some ⟨p.1, 0, none⟩) ∧ p.2.2.2.length = D.fly.length)) (Star (DiskP p.1 p.2.1 p.2.2.1 p.2.2.2 D))

theorem disk_out {v : Value} {D : DM} {m : List Assn} (h : H (Disk v D :: m) σ) : ∃ b lv fv ss, v = .pointer (some ⟨b, 0, none⟩) ∧ ss.length = D.fly.length ∧ H (DiskP b lv fv ss D ++ m) σ := by
  obtain ⟨p, h⟩ := H_ex.1 h
  rw [H_sep] at h
  obtain ⟨⟨h1, h2⟩, h⟩ := H_pure.1 h
  exact ⟨_, _, _, _, h1, h2, H_star.1 h⟩
theorem disk_in {D : DM} {b : Nat} (lv fv : Value) (ss : List Value) {m : List Assn} (hs : ss.length = D.fly.length) (h : H (DiskP b lv fv ss D ++ m) σ) : H (Disk (.pointer (some ⟨b, 0, none⟩)) D :: m) σ :=
  H_ex.2 ⟨(b, lv, fv, ss), by rw [H_sep]; exact H_pure.2 ⟨⟨rfl, hs⟩, H_star.2 h⟩⟩

theorem in_self {A : Assn} {m : List Assn} (i : Nat) (hi : l[i]? = some A) (h : H (A :: Star (l.set i emp) :: m) σ) : H (l ++ m) σ := by
  rw [H_app]
  have e : Star l = sep A (Star (l.set i emp)) := by
    conv => lhs; rw [Star_take l i]
    simp [List.getD, hi]
  rw [e, H_sep]; exact h

/-! ### New, Blocks, ready, Off, Flight, Fuse -/
theorem new_no {n : Int} (h : n < 1 ∨ 1024 < n) (hk : Q (.tuple #[.pointer none, .int .i64 1]) σ) : E f_disk_New [.int .i64 n] σ Q := by
  apply o_disk_New_ev; unfold o_disk_New
  simp
  refine wG_dec (fun h1 => ?_) fun h1 => ?_
  · unfold o_disk_New_k2; simpa using hk
  · unfold o_disk_New_k2
    have : 1024 < n := by omega
    simpa [this] using hk
theorem bv_replicate (n : Nat) (b : UInt8) : List.replicate n (by8 b) = bv (List.replicate n b) := by simp [bv]
theorem new_yes {n : Int} (h : H l σ) (hn : 1 ≤ n ∧ n ≤ 1024) (hk : ∀ v σ', H (l ++ [Disk v (.new n.toNat)]) σ' → Q (.tuple #[v, .int .i64 0]) σ') : E f_disk_New [.int .i64 n] σ Q := by
  apply o_disk_New_ev; unfold o_disk_New
  have h1 : ¬ n < 1 := by omega
  have h2 : ¬ 1024 < n := by omega
  simp [h1]
  unfold o_disk_New_k2
  simp [h2]
  rw [wrap_i64 (by omega)]
  refine make_ok (H_one.2 h) (by omega) ?_
  intro b σ1 h3
  simp [splice]
  refine new_ok h3 ?_
  intro b2 σ2 h4
  refine hk _ _ (H_app.2 ?_)
  have e1 : (n * 256).toNat = 256 * n.toNat := by omega
  rw [e1, reps_one] at h4
  have h5 := ((h4.to_own 1 rfl (n := 256 * n.toNat) (z := 1) (by simp) (by unfold OPEN; omega)).own_nil t_disk_flight 2).emp_end
  have h6 := h5.pick [2, 1, 3, 4, 0] (by decide)
  refine (disk_in (D := .new n.toNat) (.slice (some ⟨b, 0, none⟩) (256 * n.toNat) (256 * n.toNat)) (.slice none 0 0) [] rfl ?_ : H [_, _] _).pick [1, 0] (by decide)
  rw [show (Value.int .u8 0) = by8 0 from rfl, bv_replicate] at h6
  simpa [picks, DiskP, DM.new, FlyA, flc] using h6
theorem blocks_ok {v : Value} {D : DM} (h : H l σ) (i : Nat) (hi : l[i]? = some (Disk v D)) (hD : D.last.length < 1099511627776) (hk : Q (.int .i64 (D.last.length / 256 : Nat)) σ) : E f_disk_Disk_Blocks [v] σ Q := by
  obtain ⟨b, lv, fv, ss, rfl, hs, h⟩ := disk_out (h.out i hi)
  apply o_disk_Disk_Blocks_ev; unfold o_disk_Disk_Blocks
  have r0 := load1 (n := 1) (o := 0) (h.row 0 rfl)
  obtain ⟨_, _, a, c, rfl⟩ := h.own_src 1 rfl
  simp [r0]
  rw [wrap_i64 (by omega)]
  simpa using hk
theorem off_ok {v : Value} {D : DM} (h : H l σ) (i : Nat) (hi : l[i]? = some (Disk v D)) (hk : Q (.bool D.off) σ) : E f_disk_Disk_Off [v] σ Q := by
  obtain ⟨b, lv, fv, ss, rfl, hs, h⟩ := disk_out (h.out i hi)
  apply o_disk_Disk_Off_ev; unfold o_disk_Disk_Off
  have r3 := load1 (n := 1) (o := 3) (h.row 0 rfl)
  simp [r3]
  exact hk
theorem flight_ok {v : Value} {D : DM} (h : H l σ) (i : Nat) (hi : l[i]? = some (Disk v D)) (hk : Q (.int .i64 D.fly.length) σ) : E f_disk_Disk_Flight [v] σ Q := by
  obtain ⟨b, lv, fv, ss, rfl, hs, h⟩ := disk_out (h.out i hi)
  apply o_disk_Disk_Flight_ev; unfold o_disk_Disk_Flight
  have r1 := load1 (n := 1) (o := 1) (h.row 0 rfl)
  obtain ⟨_, _, a, c, rfl⟩ := h.own_src 2 rfl
  simp [r1]
  exact hk
theorem ready_ok {v : Value} {D : DM} {n : Nat} {a : Int} (h : H l σ) (i : Nat) (hi : l[i]? = some (Disk v D)) (hD : D.Ok n) (hk : Q (.int .i64 (D.ready a)) σ) : E f_disk_Disk_ready [v, .int .i64 a] σ Q := by
  have h0 := h
  have hv0 := hi
  obtain ⟨b, lv, fv, ss, rfl, hs, h⟩ := disk_out (h.out i hi)
  have hlen := hD.len
  have hn := hD.lo
  have hn2 := hD.hi
  apply o_disk_Disk_ready_ev; unfold o_disk_Disk_ready
  have r0 := load1 (n := 1) (o := 0) (h.row 0 rfl)
  have r3 := load1 (n := 1) (o := 3) (h.row 0 rfl)
  obtain ⟨_, _, x, c, rfl⟩ := h.own_src 1 rfl
  have hz : ¬ D.last.length = 0 := by omega
  simp [r0]
  unfold o_disk_Disk_ready_k2
  have hz2 : D.last ≠ [] := fun e => by rw [e] at hz; simp at hz
  simp [hz2, r3]
  unfold DM.ready at hk
  cases hoff : D.off with
  | true => simpa [hoff] using hk
  | false =>
    simp only [hoff, Bool.false_eq_true, if_false] at hk
    simp
    refine wG_dec (fun h1 => ?_) fun h1 => ?_
    · unfold o_disk_Disk_ready_k4; simpa [h1] using hk
    · refine blocks_ok h0 i hv0 (by omega) ?_
      unfold o_disk_Disk_ready_k4
      simp
      refine wC_dec (fun h2 => ?_) fun h2 => ?_
      · rw [if_pos (.inr (by omega))] at hk; exact hk
      · rw [if_neg (by omega)] at hk; exact hk
theorem fuse_ok {v : Value} {D : DM} {n : Int} (h : H l σ) (i : Nat) (hi : l[i]? = some (Disk v D)) (hk : ∀ σ', H (l.set i (Disk v (D.setFuse n))) σ' → Q (.tuple #[]) σ') : E f_disk_Disk_Fuse [v, .int .i64 n] σ Q := by
  obtain ⟨b, lv, fv, ss, rfl, hs, h⟩ := disk_out (h.out i hi)
  apply o_disk_Disk_Fuse_ev; unfold o_disk_Disk_Fuse
  simp
  have e : (if (0 : Int) > n then (0 : Int) else n) = (n.toNat : Nat) := by split <;> omega
  rw [e]
  refine store1 h 0 rfl rfl (by simp) ?_
  intro σ' h'
  refine hk _ (H.in' i hi (disk_in lv fv ss hs ?_))
  exact h'

/-! ### burn, land, Barrier -/
theorem burn_ok {v : Value} {D : DM} {g : FuncId} {a c : Array Value} (h : H l σ) (i : Nat) (hi : l[i]? = some (Disk v D)) (hf : D.fuse < 9223372036854775808)
    (hw : D.burn.2 = true → ∀ σ', H (l.set i (Disk v D.burn.1)) σ' → E g (a.toList ++ [] ++ c.toList) σ' fun _ τ => Q (.int .i64 0) τ)
    (ho : D.burn.2 = false → ∀ σ', H (l.set i (Disk v D.burn.1)) σ' → Q (.int .i64 9) σ') : E f_disk_Disk_burn [v, .func (.func g) a c] σ Q := by
  have h0 := h
  obtain ⟨b, lv, fv, ss, rfl, hs, h⟩ := disk_out (h.out i hi)
  apply o_disk_Disk_burn_ev; unfold o_disk_Disk_burn
  have r2 := load1 (n := 1) (o := 2) (h.row 0 rfl)
  simp [r2]
  refine wC_dec (fun h1 => ?_) fun h1 => ?_
  · rw [wrap_i64 (by omega)]
    refine store1 h 0 rfl rfl (by simp) ?_
    intro σ1 h2
    have r2 := load1 (n := 1) (o := 2) (h2.row 0 rfl)
    simp [r2]
    refine wC_dec (fun h3 => ?_) fun h3 => ?_
    · refine store1 h2 0 rfl rfl (by simp) ?_
      intro σ2 h4
      have h5 : D.fuse = 1 := by omega
      have hb : D.burn = ({ D with fuse := 0, off := true }, false) := by simp [DM.burn, h5]
      refine ho (by rw [hb]) _ (H.in' i hi ?_)
      rw [hb]
      refine disk_in lv fv ss hs ?_
      have e : (D.fuse : Int) - 1 = 0 := by omega
      rw [e] at h4
      exact h4
    · unfold o_disk_Disk_burn_k6
      simp
      have hb : D.burn = ({ D with fuse := D.fuse - 1 }, true) := by
        unfold DM.burn
        rw [if_neg (by omega), if_neg (by omega)]
      have := hw (by rw [hb]) σ1 (by
        refine H.in' i hi ?_
        rw [hb]
        refine disk_in lv fv ss hs ?_
        have e : (D.fuse : Int) - 1 = ((D.fuse - 1 : Nat) : Int) := by omega
        rw [e] at h2
        exact h2)
      simpa using this
  · unfold o_disk_Disk_burn_k6
    simp
    have hb : D.burn = (D, true) := by
      unfold DM.burn
      rw [if_pos (by omega)]
    have := hw (by rw [hb]) σ (by
      have : l.set i (Disk (.pointer (some ⟨b, 0, none⟩)) D) = l := by
        apply List.ext_getElem?
        intro j
        rw [List.getElem?_set]
        split
        · rename_i e; subst e; split
          · exact hi.symm
          · rename_i hh; exact absurd (List.getElem?_eq_some_iff.1 hi).1 hh
        · rfl
      rw [hb]; simp only [this]; exact h0)
    simpa using this

theorem land_ok {v : Value} {D : DM} {n : Nat} (h : H l σ) (i : Nat) (hi : l[i]? = some (Disk v D)) (hD : D.Ok n) (hm : D.fly.length < 1099511627776) (hk : ∀ σ', H (l.set i (Disk v D.land)) σ' → Q (.tuple #[]) σ') : E f_disk_Disk_land [v] σ Q := by
  obtain ⟨b, lv, fv, ss, rfl, hs, h⟩ := disk_out (h.out i hi)
  have hlen := hD.len
  have hn := hD.lo
  have hn2 := hD.hi
  apply o_disk_Disk_land_ev; unfold o_disk_Disk_land
  have r1 := load1 (n := 1) (o := 1) (h.row 0 rfl)
  obtain ⟨_, _, x, c, rfl⟩ := h.own_src 2 rfl
  obtain ⟨lb, lc, rfl, hcap, _⟩ := h.own_form 1 rfl (by omega)
  simp [r1]
  refine ⟨fun m x0 x7 x8 x9 τ => ∃ k : Nat, m = D.fly.length - k ∧ k ≤ D.fly.length ∧ x0 = .pointer (some ⟨b, 0, none⟩) ∧ x7 = .slice x D.fly.length c ∧ x8 = .int .i64 D.fly.length ∧ x9 = .int .i64 k ∧
    H (pt b (.cells [.slice (some ⟨lb, 0, none⟩) D.last.length lc, .slice x D.fly.length c, .int .i64 D.fuse, .bool D.off] t_disk_Disk false) :: Own t_uint8 1 (.slice (some ⟨lb, 0, none⟩) D.last.length lc) D.last.length (bv (laid D.last (D.fly.take k))) :: Own t_disk_flight 2 (.slice x D.fly.length c) D.fly.length (flc D.fly ss) :: FlyA D.fly ss :: [Star (l.set i emp)]) τ, ⟨_, 0, rfl, by omega, rfl, rfl, rfl, rfl, ?_⟩, ?_⟩
  · exact h
  · rintro m _ _ _ _ τ ⟨k, rfl, hkl, rfl, rfl, rfl, rfl, h⟩
    suffices hb : ∀ N : Value → Value → Value → Value → AHeap → Prop, (∀ τ', k < D.fly.length → H (pt b (.cells [.slice (some ⟨lb, 0, none⟩) D.last.length lc, .slice x D.fly.length c, .int .i64 D.fuse, .bool D.off] t_disk_Disk false) :: Own t_uint8 1 (.slice (some ⟨lb, 0, none⟩) D.last.length lc) D.last.length (bv (laid D.last (D.fly.take (k + 1)))) :: Own t_disk_flight 2 (.slice x D.fly.length c) D.fly.length (flc D.fly ss) :: FlyA D.fly ss :: [Star (l.set i emp)]) τ' →
        N (.pointer (some ⟨b, 0, none⟩)) (.slice x D.fly.length c) (.int .i64 D.fly.length) (.int .i64 (k + 1 : Nat)) τ') → o_disk_Disk_land_b1 N Q (.pointer (some ⟨b, 0, none⟩)) (.slice x D.fly.length c) (.int .i64 D.fly.length) (.int .i64 k) τ from
      hb _ fun τ' hlt h' => ⟨_, by omega, k + 1, rfl, by omega, rfl, rfl, rfl, rfl, h'⟩
    intro N hN
    unfold o_disk_Disk_land_b1
    simp
    have hok : ∀ f ∈ D.fly.take k, FlyOk n f := fun f hf => hD.fly f (List.mem_of_mem_take hf)
    have hll := laid_length (D.fly.take k) D.last hlen hok
    refine wC_dec (fun h1 => ?_) fun h1 => ?_
    · obtain ⟨b2, e1, e2, e3⟩ := h.own_elem 2 rfl (k := k) h1
      have hf := List.getElem?_eq_getElem h1
      have hsk := List.getElem?_eq_getElem (show k < ss.length by omega)
      have hfo := hD.fly _ (List.getElem_mem h1)
      rw [flc_get _ _ k _ _ hf hsk] at e2
      have hfit := hfo.fit
      have hl64 := hfo.len
      simp [e1, e2]
      refine new_ok h ?_
      intro tb σ1 h2
      obtain ⟨fb, fo, fcap, fc, hse, hfcap, hfr, hfd, hfl⟩ := fly_at h2 3 rfl hf hsk
      refine storeN h2 5 rfl (by simp) (by omega) (by simp [hse]) (by simp) ?_
      intro σ2 h3
      obtain ⟨fb, fo, fcap, fc, hse, hfcap, hfr, hfd, hfl⟩ := fly_at h3 3 rfl hf hsk
      have r0 := load1 (n := 1) (o := 0) (h3.row 0 rfl)
      have t0 := load1 (n := 1) (o := 0) (h3.row 5 rfl)
      have t1 := load1 (n := 1) (o := 1) (h3.row 5 rfl)
      obtain ⟨dc, hsl, _⟩ := slice_from (z := 1) (b := lb) (o := 0) (lo := (D.fly[k].1 : Int)) (k := .i64) hcap (by omega)
      simp [r0, t0, t1, splice, hsl, hse]
      have hmin : D.fly[k].snd.length.min (D.last.length - D.fly[k].fst) = 64 := by rw [hl64]; exact Nat.min_eq_left (by omega)
      refine copy_own (ys := bv D.fly[k].2) h3 1 rfl (by omega) (by rw [hmin, rob_src (n := 64) hfr hfd hfl (by omega), List.take_of_length_le (by omega)]) (bv_one _) (by simp; omega) ?_
      intro σ3 h4
      simp
      rw [wrap_i64 (by omega)]
      refine hN _ h1 ?_
      rw [laid_take _ _ _ _ hf, ← splice_put]
      exact h4.pick [0, 1, 2, 3, 4] (by decide)
    · have : k = D.fly.length := by omega
      subst this
      refine store1 (o := 1) (v := .slice none 0 0) (k := fun τ => Q (.tuple #[]) τ) h 0 rfl rfl (by simp) ?_
      intro σ1 h2
      refine hk _ (H.in' i hi (disk_in (.slice (some ⟨lb, 0, none⟩) D.last.length lc) (.slice none 0 0) [] rfl ?_))
      have h3 := (h2.own_nil t_disk_flight 2).emp_end.pick [0, 1, 5, 6, 4] (by decide)
      have e : (laid D.last D.fly).length = D.last.length := by rw [laid_length D.fly D.last hlen hD.fly, hlen]
      simpa [picks, DiskP, DM.land, FlyA, flc, e] using h3
end Go.Ax.O
