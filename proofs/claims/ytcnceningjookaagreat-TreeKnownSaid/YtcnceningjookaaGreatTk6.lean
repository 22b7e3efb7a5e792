/- Texts of one proof, joined. No statement of the seat is proved here. -/
import Derived.Test.YtcnceningjookaaGreatTk5
set_option linter.unusedVariables false
set_option linter.unusedSimpArgs false
set_option linter.unnecessarySimpa false
set_option linter.constructorNameAsVariable false
set_option maxRecDepth 100000
namespace Go.Ax.C
open Go.Proofs Go.RowKit
variable {l r m : List Assn} {σ : AHeap} {Q : RK}
def HeapUp (R : List Nat) (n j : Nat) : Prop := (∀ k, 0 < k → k < n → k ≠ j → KyN R ((k - 1) / 2) ≤ KyN R k) ∧ (∀ k, 0 < k → k < n → (k - 1) / 2 = j → 0 < j → KyN R ((j - 1) / 2) ≤ KyN R k)
theorem HeapUp.step {R : List Nat} {n j : Nat} (h : HeapUp R n j) (hn : n ≤ R.length) (hj : j < n) (hj0 : 0 < j) (hlt : KyN R j < KyN R ((j - 1) / 2)) : HeapUp (swp R ((j - 1) / 2) j) n ((j - 1) / 2) := by
  obtain ⟨h1, h2⟩ := h
  have hij : (j - 1) / 2 < j := by omega
  have hK : ∀ k, KyN (swp R ((j - 1) / 2) j) k = if k = j then KyN R ((j - 1) / 2) else if k = (j - 1) / 2 then KyN R j else KyN R k := fun k => Ky_swp (by omega) (by omega) k
  refine ⟨fun k h0 hk hki => ?_, fun k h0 hk hpk hi0 => ?_⟩
  · rw [hK, hK]
    by_cases e1 : k = j
    · subst e1
      rw [if_neg (by omega), if_pos rfl, if_pos rfl]; omega
    · by_cases e2 : (k - 1) / 2 = j
      · rw [if_pos e2, if_neg e1, if_neg hki]
        exact h2 k h0 hk e2 hj0
      · rw [if_neg e2, if_neg e1, if_neg hki]
        have := h1 k h0 hk e1
        split
        · rename_i e3; rw [e3] at this; omega
        · exact this
  · rw [hK, hK]
    have h3 := h1 ((j - 1) / 2) hi0 (by omega) (by omega)
    rw [if_neg (show ¬ ((j - 1) / 2 - 1) / 2 = j by omega), if_neg (show ¬ ((j - 1) / 2 - 1) / 2 = (j - 1) / 2 by omega)]
    by_cases e1 : k = j
    · rw [if_pos e1]; exact h3
    · rw [if_neg e1, if_neg (by omega)]
      have := h1 k h0 hk e1
      rw [hpk] at this
      exact Nat.le_trans h3 this
theorem HeapUp.done {R : List Nat} {n j : Nat} (h : HeapUp R n j) (hd : j = 0 ∨ KyN R ((j - 1) / 2) ≤ KyN R j) : HeapOk (id : Nat → Nat) R n := by
  intro k h0 hk
  by_cases e : k = j
  · subst e
    rcases hd with h | h
    · omega
    · exact h
  · exact h.1 k h0 hk e
theorem hup {sb j0 : Nat} {isv cnt hv q : Value} {R0 : List Nat} (h : H (SpL sb isv cnt hv q R0 l) σ) (hb : R0.length < 1099511627776) (hj0 : j0 < R0.length) (hex : HeapUp R0 R0.length j0)
    (hk : ∀ (R' : List Nat) σ', R'.Perm R0 → HeapOk (id : Nat → Nat) R' R'.length → H (SpL sb isv cnt hv q R' l) σ' → Q (.ret (.tuple #[])) σ') :
    E f_heap_up [hpV sb, .int .i64 j0] σ Q := by
  apply e_heap_up; unfold s_heap_up
  refine ⟨fun m i τ => ∃ (R : List Nat) (j : Nat), i = j ∧ m = j ∧ j < R.length ∧ R.Perm R0 ∧ HeapUp R R.length j ∧ H (SpL sb isv cnt hv q R l) τ,
    ⟨_, R0, j0, rfl, rfl, hj0, List.Perm.refl _, hex, h⟩, ?_⟩
  clear h hex
  rintro m0 _ τ ⟨R, j, rfl, hm0, hj, hp, hex, h⟩
  have hRl := hp.length_eq
  unfold s_heap_up_b1
  refine b64 ((j : Int) - 1) (by omega) ?_
  have e1 : Int.tdiv ((j : Int) - 1) 2 = ((j - 1) / 2 : Nat) := by
    rcases Nat.eq_zero_or_pos j with rfl | h0
    · rfl
    · rw [show (j : Int) - 1 = ((j - 1 : Nat) : Int) by omega]; rfl
  refine b64 (((j - 1) / 2 : Nat) : Int) ⟨e1, by omega⟩ ?_
  have fin : j = 0 ∨ KyN R ((j - 1) / 2) ≤ KyN R j → ∀ τ, H (SpL sb isv cnt hv q R l) τ → Q (.ret (.tuple #[])) τ := fun hd τ ht => hk R τ hp (hex.done hd) ht
  refine If_dec (fun g => ?_) fun g => ?_
  · unfold s_heap_up_k2
    exact fin (.inl (by omega)) τ h
  · have xj := List.getElem?_eq_getElem hj
    have xi := List.getElem?_eq_getElem (show (j - 1) / 2 < R.length by omega)
    unfold hpV
    rw [fm_less, sp_load h, Option.bind_some, pu_some]
    have h' := h.perm (.swap _ _ _)
    refine hless h' xj xi ?_
    rw [cB_ret]
    unfold s_heap_up_k2
    by_cases hl : R[j] < R[(j - 1) / 2]
    · rw [decide_eq_true hl]
      refine If_f rfl ?_
      rw [fm_swap, sp_load h, Option.bind_some, pu_some]
      refine hswap h' (by omega) (by omega) ?_
      intro τ1 h1
      rw [c0_ret]
      have hs := swp_length R ((j - 1) / 2) j
      refine ⟨(j - 1) / 2, by omega, swp R ((j - 1) / 2) j, (j - 1) / 2, rfl, rfl, by omega, (swp_perm R (by omega) (by omega)).trans hp, ?_, ?_⟩
      · rw [hs]
        exact hex.step (Nat.le_refl _) hj (by omega) (by unfold KyN; rw [KyN_some xj, KyN_some xi]; exact hl)
      · have := h1.perm (.swap _ _ _)
        rw [← hs] at this
        exact this
    · rw [decide_eq_false hl]
      refine If_t rfl ?_
      refine fin (.inr ?_) τ h
      unfold KyN; rw [KyN_some xj, KyN_some xi]; omega
theorem a_int (n : Int) : aAssert P t_int false (.iface t_int (.int .i64 n)) = some (.int .i64 n) := by kernel_rfl
theorem lpush {sb x : Nat} {isv cnt hv q : Value} {R : List Nat} (h : H (SpL sb isv cnt hv q R l) σ) (hb : R.length < 1099511627776)
    (hk : ∀ hv' σ', H (SpL sb isv cnt hv' q (R ++ [x]) l) σ' → Q (.ret (.tuple #[])) σ') : E f_free_least_Push [.pointer (some ⟨sb, 2, none⟩), .iface t_int (.int .i64 x)] σ Q := by
  apply e_free_least_Push; unfold s_free_least_Push
  obtain ⟨_, _, a, c, rfl⟩ := h.own_src 1 rfl
  rw [LV h, a_int, ldI_some]
  refine nw h ?_
  intro b σ1 h1
  rw [LV h1, veq_slice]
  have ht : srcOf 1 (.slice (some ⟨b, 0, none⟩) 1 1) σ1 = some (1, [.int .i64 (x : Nat)]) := by
    rw [src_row (h1.row 0 rfl) (by simp)]; rfl
  refine append_own h1 2 rfl ht (by omega) (by omega) (by rfl) ?_
  intro w σ2 h2
  have ho := O.own_one h2 (i := 2) rfl
  have h2' : H (pt b (.cells [.int .i64 (x : Nat)] t_int false) :: pt sb (.cells [isv, cnt, .slice a R.length c, q] t_free_Space false) :: Own t_int 1 w (R.length + 1) (nv R ++ [.int .i64 (x : Nat)]) :: l) σ2 := h2
  refine st h2' ho ?_
  intro σ3 h3
  refine hk w σ3 ?_
  have : nv R ++ [.int .i64 (x : Nat)] = nv (R ++ [x]) := by simp [nv]
  rw [this] at h3
  unfold SpL
  rw [List.length_append]
  exact h3.re
theorem lpop {sb n x : Nat} {isv cnt hv q : Value} {R : List Nat} (h : H (SpL sb isv cnt hv q R l) σ) (hb : R.length < 1099511627776) (hn : R.length = n + 1) (hx : R[n]? = some x)
    (hk : ∀ hv' σ', H (SpL sb isv cnt hv' q (R.take n) l) σ' → Q (.ret (.iface t_int (.int .i64 x))) σ') : E f_free_least_Pop [.pointer (some ⟨sb, 2, none⟩)] σ Q := by
  apply e_free_least_Pop; unfold s_free_least_Pop
  have hl := own_len h.tail
  obtain ⟨b, c, hvv, ia, la⟩ := nel h.tail hx
  rw [LV h, hl, ldI_some]
  refine b64 (n : Int) (by omega) ?_
  rw [LV h, ia, om_some, la, ldI_some, LV h]
  obtain ⟨w, e1, ho, h2⟩ := O.own_to (k := n) h (i := 1) rfl (by omega) (by omega)
  rw [e1, om_some]
  have h2' : H (pt sb (.cells [isv, cnt, hv, q] t_free_Space false) :: Own t_int 1 w n ((nv R).take (n * 1)) :: l) σ := h2
  refine st h2' ho ?_
  intro σ3 h3
  refine hk w σ3 ?_
  have e2 : (nv R).take (n * 1) = nv (R.take n) := by simp [nv, List.map_take]
  rw [e2] at h3
  unfold SpL
  rw [List.length_take, Nat.min_eq_left (by omega)]
  exact h3.re
theorem hpush {sb x : Nat} {isv cnt hv q : Value} {R : List Nat} (h : H (SpL sb isv cnt hv q R l) σ) (hb : R.length < 1099511627000) (hok : HeapOk (id : Nat → Nat) R R.length)
    (hk : ∀ (R' : List Nat) hv' σ', R'.Perm (R ++ [x]) → HeapOk (id : Nat → Nat) R' R'.length → H (SpL sb isv cnt hv' q R' l) σ' → Q (.ret (.tuple #[])) σ') : E f_heap_Push [hpV sb, .iface t_int (.int .i64 x)] σ Q := by
  apply e_heap_Push; unfold s_heap_Push
  unfold hpV
  rw [fm_push, pu_some]
  refine lpush h (by omega) ?_
  intro hv' σ1 h1
  rw [c0_ret, fm_len, sp_load h1, Option.bind_some, pu_some]
  refine flen (own_len h1.tail) ?_
  rw [cI_ret]
  refine b64 (R.length : Int) (by simp; omega) ?_
  refine hup h1 (by simp; omega) (by simp) ⟨fun k h0 hk2 hne => ?_, fun k h0 hk2 hp => ?_⟩ ?_
  · simp at hk2
    have hh := hok k h0 (by omega)
    rw [Ky_congr (S := R ++ [x]) (n := R.length) (fun i hi => (List.getElem?_append_left hi).symm) (show (k - 1) / 2 < R.length by omega),
      Ky_congr (R := R) (S := R ++ [x]) (n := R.length) (fun i hi => (List.getElem?_append_left hi).symm) (show k < R.length by omega)] at hh
    exact hh
  · simp at hk2; omega
  · intro R' σ2 hp hok2 h2
    rw [c0_ret]
    exact hk R' hv' σ2 hp hok2 h2
theorem hpop {sb x n : Nat} {isv cnt hv q : Value} {R : List Nat} (h : H (SpL sb isv cnt hv q R l) σ) (hb : R.length < 1099511627776) (hn : R.length = n + 1) (hx : R[0]? = some x) (hok : HeapOk (id : Nat → Nat) R R.length)
    (hk : ∀ (R' : List Nat) hv' σ', (R' ++ [x]).Perm R → HeapOk (id : Nat → Nat) R' R'.length → H (SpL sb isv cnt hv' q R' l) σ' → Q (.ret (.iface t_int (.int .i64 x))) σ') : E f_heap_Pop [hpV sb] σ Q := by
  apply e_heap_Pop; unfold s_heap_Pop
  unfold hpV
  rw [fm_len, sp_load h, Option.bind_some, pu_some]
  refine flen (own_len h.tail) ?_
  rw [cI_ret]
  refine b64 (n : Int) (by omega) ?_
  rw [fm_swap, sp_load h, Option.bind_some, pu_some]
  refine hswap (i := 0) (j := n) (h.perm (.swap _ _ _)) (by omega) (by omega) ?_
  intro σ1 h1
  rw [c0_ret]
  have hsl := swp_length R 0 n
  have h2 : H (SpL sb isv cnt hv q (swp R 0 n) l) σ1 := by
    have := h1.perm (.swap _ _ _)
    rw [← hsl] at this
    exact this
  rw [hn] at hok
  refine hdown (i0 := 0) h2 (n := n) (by omega) (by omega) (by omega) (hok.pop (by omega)) ?_
  intro R' c σ2 hp hok2 htl h3
  rw [cB_ret, fm_pop, pu_some]
  have hl : R'.length = n + 1 := by rw [hp.length_eq, hsl, hn]
  have hx2 : R'[n]? = some x := by rw [htl n (Nat.le_refl _), swp_get (by omega) (by omega), if_pos rfl, hx]
  refine lpop h3 (by omega) hl hx2 ?_
  intro hv' σ3 h4
  rw [cV_ret]
  refine hk (R'.take n) hv' σ3 ?_ ?_ h4
  · have e : R'.take n ++ [x] = R' := by
      have h5 : R'.take (n + 1) = R'.take n ++ [x] := by rw [List.take_add_one, hx2]; rfl
      rw [← h5, ← hl, List.take_length]
    rw [e]
    exact hp.trans (swp_perm R (by omega) (by omega))
  · rw [List.length_take, Nat.min_eq_left (by omega)]
    refine hok2.congr fun k hk => ?_
    rw [List.getElem?_take, if_pos hk]
theorem hinit {sb : Nat} {isv cnt hv q : Value} {R : List Nat} (h : H (SpL sb isv cnt hv q R l) σ) (hb : R.length < 1099511627776)
    (hk : ∀ (R' : List Nat) σ', R'.Perm R → HeapOk (id : Nat → Nat) R' R'.length → H (SpL sb isv cnt hv q R' l) σ' → Q (.ret (.tuple #[])) σ') (hok : HeapOk (id : Nat → Nat) R R.length) : E f_heap_Init [hpV sb] σ Q := by
  apply e_heap_Init; unfold s_heap_Init
  unfold hpV
  rw [fm_len, sp_load h, Option.bind_some, pu_some]
  refine flen (own_len h.tail) ?_
  rw [cI_ret]
  refine b64 ((R.length / 2 : Nat) : Int) ⟨by rfl, by omega⟩ ?_
  refine b64 ((R.length / 2 : Nat) - 1 : Int) (by omega) ?_
  refine ⟨fun m i τ => ∃ R' : List Nat, i + 1 = m ∧ i < R.length ∧ R'.Perm R ∧ HeapOk (id : Nat → Nat) R' R'.length ∧ H (SpL sb isv cnt hv q R' l) τ, ⟨R.length / 2, R, by omega, by omega, List.Perm.refl _, hok, h⟩, ?_⟩
  rintro m i τ ⟨R', hm, hi, hp, hok2, h2⟩
  have hl := hp.length_eq
  unfold s_heap_Init_b1
  refine If_dec (fun g => ?_) fun g => ?_
  · obtain ⟨k, rfl⟩ : ∃ k : Nat, i = k := ⟨i.toNat, by omega⟩
    rw [← hl]
    refine hdown h2 (n := R'.length) (Nat.le_refl _) (by omega) (by omega) ⟨fun k h0 hk _ => hok2 k h0 hk, fun k' h0 hk hp' hi0 => ?_⟩ ?_
    · have e1 := hok2 k' h0 hk
      have e2 := hok2 k hi0 (by omega)
      rw [hp'] at e1
      exact Nat.le_trans e2 e1
    · intro R2 c σ3 hp2 hok3 _ h3
      rw [cB_ret]
      refine b64 ((k : Int) - 1) (by omega) ?_
      have hl2 := hp2.length_eq
      refine ⟨k, by omega, R2, by omega, by omega, hp2.trans hp, by rw [hl2]; exact hok3, h3⟩
  · exact hk R' τ hp hok2 h2
end Go.Ax.C
set_option maxRecDepth 100000
namespace Go.Ax.C
open Go.Proofs Go.RowKit
variable {l r m : List Assn} {σ : AHeap} {Q : RK}
section
variable {α : Type} {f : α → Value}
theorem gel {e : Nat} {v : Value} {xs : List α} {i : Nat} {x : α} (h : H (Own e 1 v xs.length (xs.map f) :: l) σ) (hi : xs[i]? = some x) :
    ∃ b, (∀ kd, aIndexAddr 1 v (.int kd (i : Nat)) = some (.pointer (some ⟨b, i, none⟩))) ∧ aLoad false 1 (.pointer (some ⟨b, i, none⟩)) σ = some (f x) := by
  have hlt := (List.getElem?_eq_some_iff.1 hi).1
  rcases H_own.1 h with ⟨⟨h0, _⟩, _⟩ | ⟨b, c, opn, rest, h1, h2, h3, rfl, h4, h5⟩
  · omega
  · refine ⟨b, fun kd => by rw [idxA (by omega)]; simp, ?_⟩
    rw [load1 (h1.row 0 rfl), List.getElem?_append_left (by simpa using hlt), List.getElem?_map, hi]; rfl
theorem gst {e : Nat} {v : Value} {xs : List α} {i : Nat} {y : α} {K : AHeap → Prop} (h : H (Own e 1 v xs.length (xs.map f) :: l) σ) (hy : one (f y) = true) (hi : i < xs.length) (hK : ∀ σ', H (Own e 1 v (xs.set i y).length ((xs.set i y).map f) :: l) σ' → K σ') :
    om (aIndexAddr 1 v (.int .i64 (i : Nat))) fun p => pu (aStore 1 p (f y) σ) K := by
  rcases H_own.1 h with ⟨⟨h0, _⟩, _⟩ | ⟨b, c, opn, rest, h1, h2, h3, rfl, h4, h5⟩
  · omega
  · rw [idxA (by omega), om_some]
    have e : (⟨b, 0 + (i : Int).toNat * 1, none⟩ : Addr) = ⟨b, i, none⟩ := by simp
    rw [e]
    refine store_own h 0 rfl (by omega) hy (by simpa using hi) ?_
    intro σ' h'
    rw [List.set_cons_zero, ← List.map_set] at h'
    refine hK σ' ?_
    rw [List.length_set]; exact h'
theorem glen {e : Nat} {v : Value} {xs : List α} (h : H (Own e 1 v xs.length (xs.map f) :: l) σ) : lenS v = some (.int .i64 xs.length) := own_len h
end
structure SpOk (is : List Bool) (xs : List Nat) : Prop where
  ok : HeapOk (id : Nat → Nat) xs xs.length
  nd : xs.Nodup
  lt : ∀ x ∈ xs, x < is.length
  all : ∀ a, is[a]? = some true → a ∈ xs
theorem SpOk.len {is : List Bool} {xs : List Nat} (h : SpOk is xs) : xs.length ≤ is.length := by
  have := List.Nodup.length_le_of_subset h.nd (l₂ := List.range is.length) fun x hx => List.mem_range.2 (h.lt x hx)
  simpa using this
def cntT (is : List Bool) : Nat := is.count true
def SpA (sb : Nat) (is : List Bool) : Assn := ex fun p : Value × Value × List Nat => sep (pure' (SpOk is p.2.2)) (Star (SpL sb p.1 (.int .i64 (cntT is)) p.2.1 (.bool true) p.2.2 [Own t_bool 1 p.1 is.length (is.map .bool)]))
theorem H_sp {sb : Nat} {is : List Bool} : H (SpA sb is :: l) σ ↔ ∃ isv hv xs, SpOk is xs ∧ H (SpL sb isv (.int .i64 (cntT is)) hv (.bool true) xs (Own t_bool 1 isv is.length (is.map .bool) :: l)) σ := by
  unfold SpA
  rw [H_ex]
  constructor
  · rintro ⟨⟨isv, hv, xs⟩, h⟩
    rw [H_sep, H_pure, H_star] at h
    exact ⟨isv, hv, xs, h.1, h.2⟩
  · rintro ⟨isv, hv, xs, h1, h2⟩
    refine ⟨⟨isv, hv, xs⟩, ?_⟩
    rw [H_sep, H_pure, H_star]
    exact ⟨h1, h2⟩
theorem cnt_set {is : List Bool} {a : Nat} {b c : Bool} (h : is[a]? = some b) : cntT (is.set a c) + (if b then 1 else 0) = cntT is + if c then 1 else 0 := by
  unfold cntT
  induction is generalizing a with
  | nil => simp at h
  | cons x is ih =>
    cases a with
    | zero => simp at h; subst h; simp [List.count_cons]; cases x <;> cases c <;> simp
    | succ a => simp at h; have := ih h; simp [List.count_cons]; omega
theorem cnt_le (is : List Bool) : cntT is ≤ is.length := List.count_le_length
theorem cnt_pos {is : List Bool} {a : Nat} (h : is[a]? = some true) : 0 < cntT is := List.count_pos_iff.2 (List.mem_of_getElem? h)
theorem spright {sb : Nat} {is : List Bool} (h : H (SpA sb is :: l) σ) (hQ : Q (.ret (.bool true)) σ) : E f_free_Space_right [.pointer (some ⟨sb, 0, none⟩)] σ Q := by
  apply e_free_Space_right; unfold s_free_Space_right
  obtain ⟨isv, hv, xs, h1, h2⟩ := H_sp.1 h
  rw [LB h2]
  exact hQ
theorem sptake {sb : Nat} {is : List Bool} (h : H (SpA sb is :: l) σ) (hn : is.length ≤ 1099511627000)
    (hno : (∀ a : Nat, is[a]? ≠ some true) → ∀ σ', H (SpA sb is :: l) σ' → Q (.ret (.tuple #[.int .i64 0, .int .i64 8])) σ')
    (hyes : ∀ (a : Nat) σ', is[a]? = some true → (∀ b < a, is[b]? ≠ some true) → H (SpA sb (is.set a false) :: l) σ' → Q (.ret (.tuple #[.int .i64 a, .int .i64 0])) σ') :
    E f_free_Space_Take [.pointer (some ⟨sb, 0, none⟩)] σ Q := by
  apply e_free_Space_Take; unfold s_free_Space_Take
  refine spright h ?_
  rw [cB_ret]
  refine If_f rfl ?_
  obtain ⟨isv, hv, xs, h1, h2⟩ := H_sp.1 h
  refine ⟨fun m τ => ∃ hv xs, xs.length = m ∧ SpOk is xs ∧ H (SpL sb isv (.int .i64 (cntT is)) hv (.bool true) xs (Own t_bool 1 isv is.length (is.map .bool) :: l)) τ, ⟨_, hv, xs, rfl, h1, h2⟩, ?_⟩
  clear h h1 h2 hv xs
  rintro _ τ ⟨hv, xs, rfl, h1, h2⟩
  have hxl := h1.len
  unfold s_free_Space_Take_b1
  rw [LV h2, own_len h2.tail, ldI_some]
  refine If_dec (fun g => ?_) fun g => ?_
  · obtain ⟨x, hx⟩ : ∃ x, xs[0]? = some x := ⟨_, List.getElem?_eq_getElem (by omega)⟩
    refine hpop (n := xs.length - 1) h2 (by omega) (by omega) hx h1.ok ?_
    intro R hv' σ1 hp hok h3
    have hmem : ∀ y, y ∈ xs ↔ y ∈ R ∨ y = x := fun y => by rw [← hp.mem_iff]; simp
    have hxm : x ∈ xs := (hmem x).2 (.inr rfl)
    have hxl2 := h1.lt x hxm
    have hnd : (R ++ [x]).Nodup := hp.nodup_iff.2 h1.nd
    have hxR : x ∉ R := fun hx2 => by
      rw [List.nodup_append] at hnd
      exact hnd.2.2 x hx2 x (by simp) rfl
    have hRnd : R.Nodup := by rw [List.nodup_append] at hnd; exact hnd.1
    rw [cV_ret, a_int, ldI_some, LV h3]
    have h3' : H (Own t_bool 1 isv is.length (is.map .bool) :: SpL sb isv (.int .i64 (cntT is)) hv' (.bool true) R l) σ1 := h3.re
    obtain ⟨c, hc⟩ : ∃ c, is[x]? = some c := ⟨_, List.getElem?_eq_getElem hxl2⟩
    obtain ⟨b, ia, la⟩ := gel h3' hc
    rw [ia, om_some, la, ldB_some]
    refine If_b (fun g => ?_) fun g => ?_
    · subst g
      rw [LV h3]
      refine gst (f := Value.bool) (y := false) h3' rfl hxl2 ?_
      intro σ2 h4
      have e1 := cnt_set (c := false) hc
      have e2 := cnt_le is
      have e3 := cnt_pos hc
      simp at e1
      have h5 : H (pt sb (.cells [isv, .int .i64 (cntT is), hv', .bool true] t_free_Space false) :: Own t_int 1 hv' R.length (nv R) :: Own t_bool 1 isv (is.set x false).length ((is.set x false).map .bool) :: l) σ2 := h4.re
      rw [LI h5]
      refine b64 ((cntT (is.set x false) : Nat) : Int) (by omega) ?_
      refine st h5 rfl ?_
      intro σ3 h6
      refine hyes x σ3 hc (fun y hy hy2 => ?_) (H_sp.2 ⟨isv, hv', R, ⟨hok, hRnd, fun y hy => ?_, fun y hy => ?_⟩, h6⟩)
      · have hym := h1.all y hy2
        obtain ⟨k, hk, hky⟩ := List.getElem_of_mem hym
        have := h1.ok.top k hk
        rw [KyN_some hx, KyN_some (List.getElem?_eq_getElem hk), hky] at this
        (try simp at this)
        omega
      · rw [List.length_set]; exact h1.lt y ((hmem y).2 (.inl hy))
      · rw [List.getElem?_set] at hy
        split at hy
        · simp at hy
        · rename_i hne
          rcases (hmem y).1 (h1.all y hy) with h | h
          · exact h
          · exact absurd h.symm hne
    · subst g
      refine ⟨R.length, ?_, hv', R, rfl, ⟨hok, hRnd, fun y hy => h1.lt y ((hmem y).2 (.inl hy)), fun y hy => ?_⟩, h3⟩
      · have := hp.length_eq
        simp at this; omega
      · rcases (hmem y).1 (h1.all y hy) with h | h
        · exact h
        · subst h; rw [hc] at hy; cases hy
  · refine hno (fun a ha => ?_) τ (H_sp.2 ⟨isv, hv, xs, h1, h2⟩)
    have := h1.all a ha
    have := List.length_pos_of_mem this
    omega
theorem spdoes {sb a : Nat} {is : List Bool} {g : FuncId} (h : H (SpA sb is :: l) σ) (ha : a < is.length) (hn : is.length ≤ 1099511627000)
    (hg : E g [.pointer (some ⟨sb, 0, none⟩), .int .i64 a] σ (cI Q .i64 fun n τ => Q (.ret (.int .i64 n)) τ)) :
    E f_free_Space_does [.pointer (some ⟨sb, 0, none⟩), .int .i64 a, .func (.func g) #[] #[]] σ Q := by
  apply e_free_Space_does; unfold s_free_Space_does
  refine spright h ?_
  rw [cB_ret]
  refine If_f rfl ?_
  obtain ⟨isv, hv, xs, h1, h2⟩ := H_sp.1 h
  refine If_dec (fun g => absurd g (by omega)) fun _ => ?_
  have h3 : H (Own t_bool 1 isv is.length (is.map .bool) :: SpL sb isv (.int .i64 (cntT is)) hv (.bool true) xs l) σ := h2.re
  rw [LV h2, glen h3, ldI_some]
  unfold s_free_Space_does_k3
  refine If_f (by simp; omega) ?_
  exact hg
theorem spclaim {sb a : Nat} {is : List Bool} (h : H (SpA sb is :: l) σ) (ha : is[a]? = some true) (hn : is.length ≤ 1099511627000)
    (hQ : ∀ σ', H (SpA sb (is.set a false) :: l) σ' → Q (.ret (.int .i64 0)) σ') : E f_free_Space_Claim [.pointer (some ⟨sb, 0, none⟩), .int .i64 a] σ Q := by
  apply e_free_Space_Claim; unfold s_free_Space_Claim
  have hal := (List.getElem?_eq_some_iff.1 ha).1
  refine spdoes h hal hn ?_
  apply e_free_Space_claim; unfold s_free_Space_claim
  obtain ⟨isv, hv, xs, h1, h2⟩ := H_sp.1 h
  have h3 : H (Own t_bool 1 isv is.length (is.map .bool) :: SpL sb isv (.int .i64 (cntT is)) hv (.bool true) xs l) σ := h2.re
  obtain ⟨b, ia, la⟩ := gel h3 ha
  rw [LV h2, ia, om_some, la, ldB_some]
  refine If_f rfl ?_
  rw [LV h2]
  refine gst (f := Value.bool) (y := false) h3 rfl hal ?_
  intro σ2 h4
  have e1 := cnt_set (c := false) ha
  have e2 := cnt_le is
  have e3 := cnt_pos ha
  simp at e1
  have h5 : H (pt sb (.cells [isv, .int .i64 (cntT is), hv, .bool true] t_free_Space false) :: Own t_int 1 hv xs.length (nv xs) :: Own t_bool 1 isv (is.set a false).length ((is.set a false).map .bool) :: l) σ2 := h4.re
  rw [LI h5]
  refine b64 ((cntT (is.set a false) : Nat) : Int) (by omega) ?_
  refine st h5 rfl ?_
  intro σ3 h6
  rw [cI_ret, cI_ret]
  refine hQ σ3 (H_sp.2 ⟨isv, hv, xs, ⟨h1.ok, h1.nd, fun y hy => by rw [List.length_set]; exact h1.lt y hy, fun y hy => ?_⟩, h6⟩)
  rw [List.getElem?_set] at hy
  split at hy
  · simp at hy
  · exact h1.all y hy
theorem lindex {hv : Value} {xs : List Nat} {a : Nat} (h : H (Own t_int 1 hv xs.length (nv xs) :: l) σ) (hn : xs.length ≤ 1099511627000) (hQ : Q (.ret (.bool (decide (a ∈ xs)))) σ) : E f_slices_Contains_free_least_int [hv, .int .i64 a] σ Q := by
  apply e_slices_Contains_free_least_int; unfold s_slices_Contains_free_least_int
  apply e_slices_Index_free_least_int; unfold s_slices_Index_free_least_int
  rw [own_len h, ldI_some]
  refine ⟨fun m i τ => ∃ k : Nat, i = k ∧ m = xs.length - k ∧ k ≤ xs.length ∧ (∀ x ∈ xs.take k, x ≠ a) ∧ τ = σ, ⟨_, 0, rfl, rfl, by omega, by simp, rfl⟩, ?_⟩
  rintro m _ _ ⟨k, rfl, hm, hk, hno, rfl⟩
  unfold s_slices_Index_free_least_int_b1
  refine If_dec (fun g => ?_) fun g => ?_
  · have hkl : k < xs.length := by omega
    have hx := List.getElem?_eq_getElem hkl
    obtain ⟨b, c, hvv, ia, la⟩ := nel h hx
    rw [ia, om_some, la, ldI_some]
    refine If_dec (fun g2 => ?_) fun g2 => ?_
    · rw [cI_ret, decide_eq_true (by omega)]
      have : a ∈ xs := by rw [show a = xs[k] by omega]; exact List.getElem_mem _
      rw [decide_eq_true this] at hQ
      exact hQ
    · refine b64 ((k + 1 : Nat) : Int) (by omega) ?_
      refine ⟨xs.length - (k + 1), by omega, k + 1, rfl, rfl, by omega, fun x hx2 => ?_, rfl⟩
      rw [List.take_add_one, hx] at hx2
      rcases List.mem_append.1 hx2 with h | h
      · exact hno x h
      · simp at h; omega
  · rw [cI_ret, decide_eq_false (by omega)]
    have : a ∉ xs := fun ha => by
      have : xs.take k = xs := List.take_of_length_le (by omega)
      exact hno a (by rw [this]; exact ha) rfl
    rw [decide_eq_false this] at hQ
    exact hQ
theorem spgive {sb a : Nat} {is : List Bool} (h : H (SpA sb is :: l) σ) (ha : is[a]? = some false) (hn : is.length ≤ 1099511626000)
    (hQ : ∀ σ', H (SpA sb (is.set a true) :: l) σ' → Q (.ret (.int .i64 0)) σ') : E f_free_Space_Give [.pointer (some ⟨sb, 0, none⟩), .int .i64 a] σ Q := by
  apply e_free_Space_Give; unfold s_free_Space_Give
  have hal := (List.getElem?_eq_some_iff.1 ha).1
  refine spdoes h hal (by omega) ?_
  apply e_free_Space_give; unfold s_free_Space_give
  obtain ⟨isv, hv, xs, h1, h2⟩ := H_sp.1 h
  have hxl := h1.len
  have h3 : H (Own t_bool 1 isv is.length (is.map .bool) :: SpL sb isv (.int .i64 (cntT is)) hv (.bool true) xs l) σ := h2.re
  obtain ⟨b, ia, la⟩ := gel h3 ha
  rw [LV h2, ia, om_some, la, ldB_some]
  refine If_f rfl ?_
  rw [LV h2]
  refine gst (f := Value.bool) (y := true) h3 rfl hal ?_
  intro σ2 h4
  have e1 := cnt_set (c := true) ha
  have e2 := cnt_le (is.set a true)
  rw [List.length_set] at e2
  simp at e1
  have h5 : H (pt sb (.cells [isv, .int .i64 (cntT is), hv, .bool true] t_free_Space false) :: Own t_int 1 hv xs.length (nv xs) :: Own t_bool 1 isv (is.set a true).length ((is.set a true).map .bool) :: l) σ2 := h4.re
  rw [LI h5]
  refine b64 ((cntT (is.set a true) : Nat) : Int) (by omega) ?_
  refine st h5 rfl ?_
  intro σ3 h6
  rw [LV h6]
  refine lindex (a := a) h6.tail (by omega) ?_
  rw [cB_ret]
  have hall : ∀ y, (is.set a true)[y]? = some true → y ≠ a → y ∈ xs := by
    intro y hy hne
    rw [List.getElem?_set, if_neg (fun e => hne e.symm)] at hy
    exact h1.all y hy
  by_cases hm : a ∈ xs
  · rw [decide_eq_true hm]
    refine If_f rfl ?_
    unfold s_free_Space_give_k7
    rw [cI_ret, cI_ret]
    refine hQ σ3 (H_sp.2 ⟨isv, hv, xs, ⟨h1.ok, h1.nd, fun y hy => by rw [List.length_set]; exact h1.lt y hy, fun y hy => ?_⟩, h6⟩)
    by_cases e : y = a
    · subst e; exact hm
    · exact hall y hy e
  · rw [decide_eq_false hm]
    refine If_t rfl ?_
    refine hpush h6 (by omega) h1.ok ?_
    intro R hv' σ4 hp hok h7
    rw [c0_ret]
    unfold s_free_Space_give_k7
    rw [cI_ret, cI_ret]
    have hmem : ∀ y, y ∈ R ↔ y ∈ xs ∨ y = a := fun y => by rw [hp.mem_iff]; simp
    refine hQ σ4 (H_sp.2 ⟨isv, hv', R, ⟨hok, hp.nodup_iff.2 ?_, fun y hy => ?_, fun y hy => ?_⟩, h7⟩)
    · rw [List.nodup_append]
      exact ⟨h1.nd, by simp, fun x hx y hy e => hm (by simp at hy; subst hy; subst e; exact hx)⟩
    · rw [List.length_set]
      rcases (hmem y).1 hy with h | h
      · exact h1.lt y h
      · omega
    · by_cases e : y = a
      · exact (hmem y).2 (.inr e)
      · exact (hmem y).2 (.inl (hall y hy e))
theorem heap_range (n : Nat) : HeapOk (id : Nat → Nat) (List.range n) (List.range n).length := by
  intro k h0 hk
  simp at hk
  unfold Ky
  rw [List.getElem?_range (by omega), List.getElem?_range hk]
  simp; omega
theorem spnew {n : Nat} (h : H l σ) (hn : n ≤ 1024)
    (hQ : ∀ sb σ', H (SpA sb (List.replicate n true) :: l) σ' → Q (.ret (.tuple #[.pointer (some ⟨sb, 0, none⟩), .int .i64 0])) σ') : E f_free_New [.int .i64 n] σ Q := by
  apply e_free_New; unfold s_free_New
  refine If_dec (fun g => absurd g (by omega)) fun _ => ?_
  unfold s_free_New_k2
  refine If_f (by simp; omega) ?_
  refine make_ok h (by omega) ?_
  intro ib σ1 h1
  refine On_one rfl ?_
  have e0 : reps ((n : Int).toNat) [.bool false] = (List.replicate n false).map .bool := by rw [reps_one]; simp
  rw [e0] at h1
  have h1 := h1.unsnoc
  have h1' : H (Own t_bool 1 (.slice (some ⟨ib, 0, none⟩) n n) n ((List.replicate n false).map .bool) :: l) σ1 := h1.to_own 0 rfl (by simp) (by unfold OPEN; omega)
  simp only [Int.toNat_natCast]
  refine nw h1' ?_
  intro sb σ2 h2
  have h2' := (h2.own_nil t_int 1).unsnoc
  -- the loop
  refine ⟨fun m i τ => ∃ (k : Nat) (hv : Value) (is : List Bool), i = k ∧ m = n - k ∧ k ≤ n ∧ is = List.replicate k true ++ List.replicate (n - k) false ∧ H (SpL sb (.slice (some ⟨ib, 0, none⟩) n n) (.int .i64 n) hv (.bool true) (List.range k) (Own t_bool 1 (.slice (some ⟨ib, 0, none⟩) n n) is.length (is.map .bool) :: l)) τ,
    ⟨n, 0, .slice none 0 0, List.replicate n false, rfl, rfl, by omega, by simp, ?_⟩, ?_⟩
  · have : H (pt sb (.cells [.slice (some ⟨ib, 0, none⟩) n n, .int .i64 n, .slice none 0 0, .bool true] t_free_Space false) :: Own t_int 1 (.slice none 0 0) 0 [] :: Own t_bool 1 (.slice (some ⟨ib, 0, none⟩) n n) n ((List.replicate n false).map .bool) :: l) σ2 := h2'.re
    simpa [SpL, nv] using this
  clear h2' h2 h1' h1 h
  rintro m _ τ ⟨k, hv, is, rfl, hm, hk, his, h⟩
  have hil : is.length = n := by rw [his]; simp; omega
  unfold s_free_New_b1
  refine If_dec (fun g => ?_) fun g => ?_
  · rw [LV h]
    have h3 : H (Own t_bool 1 (.slice (some ⟨ib, 0, none⟩) n n) is.length (is.map .bool) :: SpL sb (.slice (some ⟨ib, 0, none⟩) n n) (.int .i64 n) hv (.bool true) (List.range k) l) τ := h.re
    refine gst (f := Value.bool) (y := true) h3 rfl (by omega) ?_
    intro σ2 h4
    rw [LV h4]
    refine nw h4 ?_
    intro tb σ3 h5
    have ht : srcOf 1 (.slice (some ⟨tb, 0, none⟩) 1 1) σ3 = some (1, [.int .i64 (k : Nat)]) := by
      rw [src_row (h5.row 0 rfl) (by simp)]; rfl
    refine append_own h5 3 rfl ht (by omega) (by simp; omega) (by rfl) ?_
    intro w σ4 h6
    have ho := O.own_one h6 (i := 3) rfl
    have h6' : H (pt tb (.cells [.int .i64 (k : Nat)] t_int false) :: Own t_bool 1 (.slice (some ⟨ib, 0, none⟩) n n) (is.set k true).length ((is.set k true).map .bool) :: pt sb (.cells [.slice (some ⟨ib, 0, none⟩) n n, .int .i64 n, hv, .bool true] t_free_Space false) :: Own t_int 1 w ((List.range k).length + 1) (nv (List.range k) ++ [.int .i64 (k : Nat)]) :: l) σ4 := h6
    refine st h6' ho ?_
    intro σ5 h7
    refine b64 ((k + 1 : Nat) : Int) (by omega) ?_
    refine ⟨n - (k + 1), by omega, k + 1, w, is.set k true, rfl, rfl, by omega, ?_, ?_⟩
    · rw [his]
      apply List.ext_getElem?
      intro j
      rw [List.getElem?_set]
      by_cases e : k = j
      · subst e
        rw [if_pos rfl, if_pos (by simp; omega), List.getElem?_append_left (by simp)]
        simp
      · rw [if_neg e]
        by_cases hj : j < k
        · rw [List.getElem?_append_left (by simpa using hj), List.getElem?_append_left (by simp; omega)]
          rw [List.getElem?_replicate, List.getElem?_replicate, if_pos hj, if_pos (by omega)]
        · rw [List.getElem?_append_right (by simp; omega), List.getElem?_append_right (by simp; omega)]
          simp [List.getElem?_replicate]
          by_cases hjn : j < n
          · rw [if_pos (by omega), if_pos (by omega)]
          · rw [if_neg (by omega), if_neg (by omega)]
    · have e1 : nv (List.range k) ++ [.int .i64 (k : Nat)] = nv (List.range (k + 1)) := by rw [List.range_succ]; simp [nv]
      rw [e1] at h7
      unfold SpL
      have e2 : (List.range (k + 1)).length = (List.range k).length + 1 := by simp
      rw [e2]
      exact h7.re
  · have hkn : k = n := by omega
    subst hkn
    have his2 : is = List.replicate k true := by rw [his]; simp
    refine hinit h (by simp; omega) ?_ (heap_range k)
    intro R σ5 hp hok h7
    rw [c0_ret]
    subst his2
    refine hQ sb σ5 (H_sp.2 ⟨.slice (some ⟨ib, 0, none⟩) k k, hv, R, ⟨hok, hp.nodup_iff.2 List.nodup_range, fun x hx => ?_, fun x hx => ?_⟩, ?_⟩)
    · have := hp.mem_iff.1 hx
      simpa using this
    · refine hp.mem_iff.2 ?_
      have := (List.getElem?_eq_some_iff.1 hx).1
      simpa using this
    · have : cntT (List.replicate k true) = k := by simp [cntT]
      rw [this]; exact h7
end Go.Ax.C
set_option maxRecDepth 100000
namespace Go.Ax.C
open Go.Proofs Go.RowKit
variable {l r m : List Assn} {σ : AHeap} {Q : RK}
abbrev n8 (xs : List Nat) : List Value := xs.map fun n => .int .u8 (n : Nat)
theorem n8_bv {xs : List Nat} (h : ∀ x ∈ xs, x < 256) : n8 xs = bv (xs.map UInt8.ofNat) := by
  unfold n8 bv
  rw [List.map_map]
  apply List.map_congr_left
  intro x hx
  have := h x hx
  simp only [Function.comp, by8, UInt8.toNat_ofNat']
  rw [Nat.mod_eq_of_lt (by omega)]
@[simp] theorem n8_len (xs : List Nat) : (n8 xs).length = xs.length := by simp [n8]
theorem n8_one (xs : List Nat) : (n8 xs).all one = true := by
  simp only [n8, List.all_map, List.all_eq_true]
  intro x _; rfl
def fre (now was : List Nat) : List Bool := List.zipWith (fun a b => a == 0 && b == 0) now was
def frs (now was : List Nat) : List Bool := List.zipWith (fun a b => a != 0 && b == 0) now was
structure RfOk (now was : List Nat) : Prop where
  lo : 1 ≤ now.length
  hi : now.length ≤ 1024
  eq : was.length = now.length
  now8 : ∀ x ∈ now, x < 256
  was8 : ∀ x ∈ was, x < 256
theorem fre_len {now was : List Nat} (h : was.length = now.length) : (fre now was).length = now.length := by simp [fre, h]
theorem frs_len {now was : List Nat} (h : was.length = now.length) : (frs now was).length = now.length := by simp [frs, h]
theorem fre_get {now was : List Nat} {a x y : Nat} (h1 : now[a]? = some x) (h2 : was[a]? = some y) : (fre now was)[a]? = some (x == 0 && y == 0) := by simp [fre, List.getElem?_zipWith, h1, h2]
theorem frs_get {now was : List Nat} {a x y : Nat} (h1 : now[a]? = some x) (h2 : was[a]? = some y) : (frs now was)[a]? = some (x != 0 && y == 0) := by simp [frs, List.getElem?_zipWith, h1, h2]
theorem zip_set {α β γ : Type} (f : α → β → γ) : ∀ (xs : List α) (ys : List β) (a : Nat) (x : α) (y : β), ys[a]? = some y → List.zipWith f (xs.set a x) ys = (List.zipWith f xs ys).set a (f x y)
  | [], ys, a, x, y, _ => by simp
  | _ :: _, [], a, x, y, h => by simp at h
  | u :: xs, v :: ys, 0, x, y, h => by simp at h; subst h; rfl
  | u :: xs, v :: ys, a + 1, x, y, h => by simp at h; simp [zip_set f xs ys a x y h]
theorem fre_set {now was : List Nat} {a x y : Nat} (h : was[a]? = some y) : fre (now.set a x) was = (fre now was).set a (x == 0 && y == 0) := zip_set _ _ _ _ _ _ h
theorem frs_set {now was : List Nat} {a x y : Nat} (h : was[a]? = some y) : frs (now.set a x) was = (frs now was).set a (x != 0 && y == 0) := zip_set _ _ _ _ _ _ h
theorem set_self {α : Type} {xs : List α} {a : Nat} {x : α} (h : xs[a]? = some x) : xs.set a x = xs := by
  apply List.ext_getElem?
  intro i
  rw [List.getElem?_set]
  split
  · rename_i e; subst e
    rw [if_pos (List.getElem?_eq_some_iff.1 h).1, h]
  · rfl
theorem RfOk.set {now was : List Nat} {a x : Nat} (h : RfOk now was) (hx : x < 256) : RfOk (now.set a x) was :=
  ⟨by simpa using h.lo, by simpa using h.hi, by simpa using h.eq, fun y hy => by rcases List.mem_or_eq_of_mem_set hy with h1 | h1; exact h.now8 y h1; omega, h.was8⟩
theorem RfOk.at {now was : List Nat} {a : Nat} (h : RfOk now was) (ha : a < now.length) : ∃ x y, now[a]? = some x ∧ was[a]? = some y ∧ x < 256 ∧ y < 256 := by
  have h1 := List.getElem?_eq_getElem ha
  have h2 := List.getElem?_eq_getElem (show a < was.length by rw [h.eq]; exact ha)
  exact ⟨_, _, h1, h2, h.now8 _ (List.getElem_mem _), h.was8 _ (List.getElem_mem _)⟩
abbrev RfL (rb : Nat) (nv wv fv : Value) (sb : Nat) (now was : List Nat) (l : List Assn) : List Assn :=
  pt rb (.cells [nv, wv, fv, .pointer (some ⟨sb, 0, none⟩)] t_refs_Refs false) :: Own t_uint8 1 nv now.length (n8 now) :: Own t_uint8 1 wv was.length (n8 was) :: Own t_bool 1 fv (frs now was).length ((frs now was).map .bool) :: SpA sb (fre now was) :: l
def RfA (rb : Nat) (now was : List Nat) : Assn := ex fun p : Value × Value × Value × Nat => sep (pure' (RfOk now was)) (Star (RfL rb p.1 p.2.1 p.2.2.1 p.2.2.2 now was []))
theorem H_rf {rb : Nat} {now was : List Nat} : H (RfA rb now was :: l) σ ↔ ∃ nv wv fv sb, RfOk now was ∧ H (RfL rb nv wv fv sb now was l) σ := by
  unfold RfA
  rw [H_ex]
  constructor
  · rintro ⟨⟨a, b, c, d⟩, h⟩
    rw [H_sep, H_pure, H_star] at h
    exact ⟨a, b, c, d, h.1, h.2⟩
  · rintro ⟨a, b, c, d, h1, h2⟩
    refine ⟨⟨a, b, c, d⟩, ?_⟩
    rw [H_sep, H_pure, H_star]
    exact ⟨h1, h2⟩
theorem rf_ok {rb : Nat} {now was : List Nat} (h : H (RfA rb now was :: l) σ) : RfOk now was := by
  obtain ⟨_, _, _, _, h1, _⟩ := H_rf.1 h; exact h1
theorem rright {rb : Nat} {now was : List Nat} (h : H (RfA rb now was :: l) σ) (hQ : Q (.ret (.bool true)) σ) : E f_refs_Refs_right [.pointer (some ⟨rb, 0, none⟩)] σ Q := by
  apply e_refs_Refs_right; unfold s_refs_Refs_right
  obtain ⟨nv, wv, fv, sb, h1, h2⟩ := H_rf.1 h
  have := h1.lo
  rw [LV h2, own_len h2.tail, ldI_some, decide_eq_true (by omega)]
  exact hQ
theorem ralloc {rb : Nat} {now was : List Nat} (h : H (RfA rb now was :: l) σ)
    (hno : (∀ a : Nat, (fre now was)[a]? ≠ some true) → ∀ σ', H (RfA rb now was :: l) σ' → Q (.ret (.tuple #[.int .i64 0, .int .i64 8])) σ')
    (hyes : ∀ (a : Nat) σ', now[a]? = some 0 → was[a]? = some 0 → (∀ b < a, (fre now was)[b]? ≠ some true) → H (RfA rb (now.set a 1) was :: l) σ' → Q (.ret (.tuple #[.int .i64 a, .int .i64 0])) σ') :
    E f_refs_Refs_Alloc [.pointer (some ⟨rb, 0, none⟩)] σ Q := by
  apply e_refs_Refs_Alloc; unfold s_refs_Refs_Alloc
  refine rright h ?_
  rw [cB_ret]
  refine If_f rfl ?_
  obtain ⟨nv, wv, fv, sb, h1, h2⟩ := H_rf.1 h
  have hfl := fre_len h1.eq
  have := h1.hi
  rw [LV h2]
  have h3 : H (SpA sb (fre now was) :: pt rb (.cells [nv, wv, fv, .pointer (some ⟨sb, 0, none⟩)] t_refs_Refs false) :: Own t_uint8 1 nv now.length (n8 now) :: Own t_uint8 1 wv was.length (n8 was) :: Own t_bool 1 fv (frs now was).length ((frs now was).map .bool) :: l) σ := h2.re
  refine sptake h3 (by omega) ?_ ?_
  · intro hn σ1 h4
    rw [c2_ret, tI_int, tI_int]
    refine If_ne (fun _ => ?_) fun g => absurd g (by decide)
    exact hno hn σ1 (H_rf.2 ⟨nv, wv, fv, sb, h1, h4.re⟩)
  · intro a σ1 ha hb h4
    have hal : a < now.length := by rw [← hfl]; exact (List.getElem?_eq_some_iff.1 ha).1
    obtain ⟨x, y, hx, hy, _, _⟩ := h1.at hal
    rw [fre_get hx hy] at ha
    simp at ha
    obtain ⟨rfl, rfl⟩ := ha
    rw [c2_ret, tI_int, tI_int]
    refine If_ne (fun g => absurd rfl g) fun _ => ?_
    rw [LV h4, LV h4]
    have h5 : H (Own t_uint8 1 nv now.length (n8 now) :: SpA sb ((fre now was).set a false) :: pt rb (.cells [nv, wv, fv, .pointer (some ⟨sb, 0, none⟩)] t_refs_Refs false) :: Own t_uint8 1 wv was.length (n8 was) :: Own t_bool 1 fv (frs now was).length ((frs now was).map .bool) :: l) σ1 := h4.re
    refine gst (f := fun n : Nat => Value.int .u8 (n : Nat)) (y := 1) h5 rfl hal ?_
    intro σ2 h6
    have h7 : H (Own t_bool 1 fv (frs now was).length ((frs now was).map .bool) :: Own t_uint8 1 nv (now.set a 1).length (n8 (now.set a 1)) :: SpA sb ((fre now was).set a false) :: pt rb (.cells [nv, wv, fv, .pointer (some ⟨sb, 0, none⟩)] t_refs_Refs false) :: Own t_uint8 1 wv was.length (n8 was) :: l) σ2 := h6.re
    refine gst (f := Value.bool) (y := true) h7 rfl (by rw [frs_len h1.eq]; exact hal) ?_
    intro σ3 h8
    refine hyes a σ3 hx hy hb (H_rf.2 ⟨nv, wv, fv, sb, h1.set (by omega), ?_⟩)
    have e1 : fre (now.set a 1) was = (fre now was).set a false := by rw [fre_set hy]; rfl
    have e2 : frs (now.set a 1) was = (frs now was).set a true := by rw [frs_set hy]; rfl
    unfold RfL
    rw [e1, e2]
    exact h8.re
theorem rdoes {rb a x : Nat} {now was : List Nat} {g : FuncId} (h : H (RfA rb now was :: l) σ) (ha : now[a]? = some x) (h0 : x = 0 → Q (.ret (.int .i64 6)) σ)
    (hg : x ≠ 0 → E g [.pointer (some ⟨rb, 0, none⟩), .int .i64 a] σ (cI Q .i64 fun n τ => Q (.ret (.int .i64 n)) τ)) :
    E f_refs_Refs_does [.pointer (some ⟨rb, 0, none⟩), .int .i64 a, .func (.func g) #[] #[]] σ Q := by
  apply e_refs_Refs_does; unfold s_refs_Refs_does
  refine rright h ?_
  rw [cB_ret]
  refine If_f rfl ?_
  have hal := (List.getElem?_eq_some_iff.1 ha).1
  obtain ⟨nv, wv, fv, sb, h1, h2⟩ := H_rf.1 h
  refine If_dec (fun g => absurd g (by omega)) fun _ => ?_
  rw [LV h2, own_len h2.tail, ldI_some]
  unfold s_refs_Refs_does_k3
  refine If_f (by simp; omega) ?_
  obtain ⟨b, ia, la⟩ := gel (f := fun n : Nat => Value.int .u8 (n : Nat)) h2.tail ha
  rw [LV h2, ia, om_some, la, ldI_some]
  refine If_dec (fun g => h0 (by omega)) fun g => ?_
  exact hg (by omega)
theorem rinc {rb a x : Nat} {now was : List Nat} (h : H (RfA rb now was :: l) σ) (ha : now[a]? = some x) (h0 : x = 0 → Q (.ret (.int .i64 6)) σ) (hf : x = 255 → Q (.ret (.int .i64 8)) σ)
    (hQ : x ≠ 0 → x < 255 → ∀ σ', H (RfA rb (now.set a (x + 1)) was :: l) σ' → Q (.ret (.int .i64 0)) σ') : E f_refs_Refs_Inc [.pointer (some ⟨rb, 0, none⟩), .int .i64 a] σ Q := by
  apply e_refs_Refs_Inc; unfold s_refs_Refs_Inc
  refine rdoes h ha (fun e => ?_) fun hx => ?_
  · rw [cI_ret]; exact h0 e
  apply e_refs_Refs_more; unfold s_refs_Refs_more
  have hal := (List.getElem?_eq_some_iff.1 ha).1
  obtain ⟨nv, wv, fv, sb, h1, h2⟩ := H_rf.1 h
  obtain ⟨b, ia, la⟩ := gel (f := fun n : Nat => Value.int .u8 (n : Nat)) h2.tail ha
  obtain ⟨x', y, hx', hy, hx8, _⟩ := h1.at hal
  rw [ha] at hx'; cases hx'
  rw [LV h2, ia, om_some, la, ldI_some]
  refine If_dec (fun g => ?_) fun g => ?_
  · rw [cI_ret, cI_ret]; exact hf (by omega)
  rw [LV h2, ia, om_some, la, ldI_some]
  refine bu8 ((x + 1 : Nat) : Int) (by omega) ?_
  rw [← ia .i64]
  have h3 : H (Own t_uint8 1 nv now.length (n8 now) :: pt rb (.cells [nv, wv, fv, .pointer (some ⟨sb, 0, none⟩)] t_refs_Refs false) :: Own t_uint8 1 wv was.length (n8 was) :: Own t_bool 1 fv (frs now was).length ((frs now was).map .bool) :: SpA sb (fre now was) :: l) σ := h2.re
  refine gst (f := fun n : Nat => Value.int .u8 (n : Nat)) (y := x + 1) h3 rfl hal ?_
  intro σ2 h4
  rw [cI_ret, cI_ret]
  refine hQ hx (by omega) σ2 (H_rf.2 ⟨nv, wv, fv, sb, h1.set (by omega), ?_⟩)
  have e1 : fre (now.set a (x + 1)) was = fre now was := by
    rw [fre_set hy]
    apply set_self
    rw [fre_get ha hy]
    cases x with
    | zero => exact absurd rfl hx
    | succ x => simp
  have e2 : frs (now.set a (x + 1)) was = frs now was := by
    rw [frs_set hy]
    apply set_self
    rw [frs_get ha hy]
    cases x with
    | zero => exact absurd rfl hx
    | succ x => simp
  unfold RfL
  rw [e1, e2]
  exact h4.re
theorem rdec {rb a x : Nat} {now was : List Nat} (h : H (RfA rb now was :: l) σ) (ha : now[a]? = some x) (h0 : x = 0 → Q (.ret (.tuple #[.bool false, .int .i64 6])) σ)
    (hQ : x ≠ 0 → ∀ σ', H (RfA rb (now.set a (x - 1)) was :: l) σ' → Q (.ret (.tuple #[.bool (decide (x = 1)), .int .i64 0])) σ') : E f_refs_Refs_Dec [.pointer (some ⟨rb, 0, none⟩), .int .i64 a] σ Q := by
  apply e_refs_Refs_Dec; unfold s_refs_Refs_Dec
  have hal := (List.getElem?_eq_some_iff.1 ha).1
  refine rdoes h ha (fun e => ?_) fun hx => ?_
  · rw [cI_ret]
    refine If_dec (fun g => absurd g (by decide)) fun _ => ?_
    exact h0 e
  -- behind
  have fin : ∀ σ', H (RfA rb (now.set a (x - 1)) was :: l) σ' → cI (cI Q .i64 fun n5 τ4 => If (decide (n5 = 0)) (om (L rb 0 τ4) fun v9 => om (aIndexAddr 1 v9 (.int .i64 a)) fun v11 => ldI .u8 (aLoad false 1 v11 τ4) fun n12 => Q (.ret (.tuple #[(.bool (decide (n12 = 0))), (.int .i64 n5)])) τ4) (Q (.ret (.tuple #[(.bool false), (.int .i64 n5)])) τ4)) .i64
      (fun n τ => cI Q .i64 (fun n5 τ4 => If (decide (n5 = 0)) (om (L rb 0 τ4) fun v9 => om (aIndexAddr 1 v9 (.int .i64 a)) fun v11 => ldI .u8 (aLoad false 1 v11 τ4) fun n12 => Q (.ret (.tuple #[(.bool (decide (n12 = 0))), (.int .i64 n5)])) τ4) (Q (.ret (.tuple #[(.bool false), (.int .i64 n5)])) τ4)) (.ret (.int .i64 n)) τ) (.ret (.int .i64 0)) σ' := by
    intro σ' h'
    rw [cI_ret, cI_ret]
    refine If_t rfl ?_
    obtain ⟨nv, wv, fv, sb, h1, h2⟩ := H_rf.1 h'
    have ha' : (now.set a (x - 1))[a]? = some (x - 1) := by rw [List.getElem?_set, if_pos rfl, if_pos hal]
    obtain ⟨b, ia, la⟩ := gel (f := fun n : Nat => Value.int .u8 (n : Nat)) h2.tail ha'
    rw [LV h2, ia, om_some, la, ldI_some]
    have : decide (((x - 1 : Nat) : Int) = 0) = decide (x = 1) := by by_cases e : x = 1 <;> simp [e]; omega
    rw [this]
    exact hQ hx σ' h'
  apply e_refs_Refs_less; unfold s_refs_Refs_less
  obtain ⟨nv, wv, fv, sb, h1, h2⟩ := H_rf.1 h
  obtain ⟨b, ia, la⟩ := gel (f := fun n : Nat => Value.int .u8 (n : Nat)) h2.tail ha
  obtain ⟨x', y, hx', hy, hx8, _⟩ := h1.at hal
  rw [ha] at hx'; cases hx'
  rw [LV h2, ia, om_some, la, ldI_some]
  refine bu8 ((x - 1 : Nat) : Int) (by omega) ?_
  rw [← ia .i64]
  have h3 : H (Own t_uint8 1 nv now.length (n8 now) :: pt rb (.cells [nv, wv, fv, .pointer (some ⟨sb, 0, none⟩)] t_refs_Refs false) :: Own t_uint8 1 wv was.length (n8 was) :: Own t_bool 1 fv (frs now was).length ((frs now was).map .bool) :: SpA sb (fre now was) :: l) σ := h2.re
  refine gst (f := fun n : Nat => Value.int .u8 (n : Nat)) (y := x - 1) h3 rfl hal ?_
  intro σ2 h4
  have h4 : H (Own t_uint8 1 nv (now.set a (x - 1)).length (n8 (now.set a (x - 1))) :: pt rb (.cells [nv, wv, fv, .pointer (some ⟨sb, 0, none⟩)] t_refs_Refs false) :: Own t_uint8 1 wv was.length (n8 was) :: Own t_bool 1 fv (frs now was).length ((frs now was).map .bool) :: SpA sb (fre now was) :: l) σ2 := h4
  have ha' : (now.set a (x - 1))[a]? = some (x - 1) := by rw [List.getElem?_set, if_pos rfl, if_pos hal]
  obtain ⟨b2, ia2, la2⟩ := gel (f := fun n : Nat => Value.int .u8 (n : Nat)) h4 ha'
  rw [LV h4, ia2, om_some, la2, ldI_some]
  have same : ∀ τ, (x - 1 ≠ 0 ∨ y ≠ 0) → H (Own t_uint8 1 nv (now.set a (x - 1)).length (n8 (now.set a (x - 1))) :: pt rb (.cells [nv, wv, fv, .pointer (some ⟨sb, 0, none⟩)] t_refs_Refs false) :: Own t_uint8 1 wv was.length (n8 was) :: Own t_bool 1 fv (frs now was).length ((frs now was).map .bool) :: SpA sb (fre now was) :: l) τ → H (RfA rb (now.set a (x - 1)) was :: l) τ := by
    intro τ hor ht
    have e1 : fre (now.set a (x - 1)) was = fre now was := by
      rw [fre_set hy]
      apply set_self
      rw [fre_get ha hy]
      have : (x == 0) = false := by simpa using hx
      rw [this]
      rcases hor with hor | hor
      · have : (x - 1 == 0) = false := by simpa using hor
        rw [this]
      · have : (y == 0) = false := by simpa using hor
        rw [this]; simp
    have e2 : frs (now.set a (x - 1)) was = frs now was := by
      rw [frs_set hy]
      apply set_self
      rw [frs_get ha hy]
      have h0 : (x != 0) = true := by simpa using hx
      rw [h0]
      rcases hor with hor | hor
      · have : (x - 1 != 0) = true := by simpa using hor
        rw [this]
      · have : (y == 0) = false := by simpa using hor
        rw [this]; simp
    refine H_rf.2 ⟨nv, wv, fv, sb, h1.set (by omega), ?_⟩
    unfold RfL
    rw [e1, e2]
    exact ht.re
  refine If_dec (fun g => ?_) fun g => ?_
  · have hx1 : x = 1 := by omega
    subst hx1
    have h5 : H (Own t_bool 1 fv (frs now was).length ((frs now was).map .bool) :: Own t_uint8 1 nv (now.set a (1 - 1)).length (n8 (now.set a (1 - 1))) :: pt rb (.cells [nv, wv, fv, .pointer (some ⟨sb, 0, none⟩)] t_refs_Refs false) :: Own t_uint8 1 wv was.length (n8 was) :: SpA sb (fre now was) :: l) σ2 := h4.re
    have hfr := frs_get ha hy
    obtain ⟨b3, ia3, la3⟩ := gel h5 hfr
    rw [LV h4, ia3, om_some, la3, ldB_some]
    unfold s_refs_Refs_less_k3
    refine If_b (fun g2 => ?_) fun g2 => ?_
    · have hy0 : y = 0 := by simpa using g2
      subst hy0
      rw [LV h4]
      refine gst (f := Value.bool) (y := false) h5 rfl (by rw [frs_len h1.eq]; exact hal) ?_
      intro σ3 h6
      rw [LV h6]
      have h7 : H (SpA sb (fre now was) :: Own t_bool 1 fv ((frs now was).set a false).length (((frs now was).set a false).map .bool) :: Own t_uint8 1 nv (now.set a (1 - 1)).length (n8 (now.set a (1 - 1))) :: pt rb (.cells [nv, wv, fv, .pointer (some ⟨sb, 0, none⟩)] t_refs_Refs false) :: Own t_uint8 1 wv was.length (n8 was) :: l) σ3 := h6.re
      have := h1.hi
      refine spgive h7 (by rw [fre_get ha hy]; rfl) (by rw [fre_len h1.eq]; omega) ?_
      intro σ4 h8
      rw [cI_ret]
      unfold s_refs_Refs_less_k5
      refine fin σ4 (H_rf.2 ⟨nv, wv, fv, sb, h1.set (by omega), ?_⟩)
      have e1 : fre (now.set a (1 - 1)) was = (fre now was).set a true := by rw [fre_set hy]; rfl
      have e2 : frs (now.set a (1 - 1)) was = (frs now was).set a false := by rw [frs_set hy]; rfl
      unfold RfL
      rw [e1, e2]
      exact h8.re
    · unfold s_refs_Refs_less_k5
      exact fin σ2 (same σ2 (.inr (by simpa using g2)) h4)
  · unfold s_refs_Refs_less_k3
    refine If_f rfl ?_
    unfold s_refs_Refs_less_k5
    exact fin σ2 (same σ2 (.inl (by omega)) h4)
theorem rcount {rb a x : Nat} {now was : List Nat} (h : H (RfA rb now was :: l) σ) (ha : now[a]? = some x) (hQ : Q (.ret (.int .i64 x)) σ) : E f_refs_Refs_Count [.pointer (some ⟨rb, 0, none⟩), .int .i64 a] σ Q := by
  apply e_refs_Refs_Count; unfold s_refs_Refs_Count
  refine rright h ?_
  rw [cB_ret]
  refine If_f rfl ?_
  have hal := (List.getElem?_eq_some_iff.1 ha).1
  obtain ⟨nv, wv, fv, sb, h1, h2⟩ := H_rf.1 h
  refine If_dec (fun g => absurd g (by omega)) fun _ => ?_
  rw [LV h2, own_len h2.tail, ldI_some]
  unfold s_refs_Refs_Count_k2
  refine If_f (by simp; omega) ?_
  obtain ⟨b, ia, la⟩ := gel (f := fun n : Nat => Value.int .u8 (n : Nat)) h2.tail ha
  rw [LV h2, ia, om_some, la, ldI_some]
  have := h1.now8 x (List.mem_of_getElem? ha)
  refine b64 (x : Int) (by omega) ?_
  exact hQ
theorem rfresh {rb a x y : Nat} {now was : List Nat} (h : H (RfA rb now was :: l) σ) (ha : now[a]? = some x) (hy : was[a]? = some y) (hQ : Q (.ret (.bool (x != 0 && y == 0))) σ) : E f_refs_Refs_Fresh [.pointer (some ⟨rb, 0, none⟩), .int .i64 a] σ Q := by
  apply e_refs_Refs_Fresh; unfold s_refs_Refs_Fresh
  refine rright h ?_
  rw [cB_ret]
  refine If_t rfl ?_
  have hal := (List.getElem?_eq_some_iff.1 ha).1
  obtain ⟨nv, wv, fv, sb, h1, h2⟩ := H_rf.1 h
  refine If_dec (fun _ => ?_) fun g => absurd (by omega) g
  rw [LV h2, own_len h2.tail, ldI_some]
  refine If_dec (fun _ => ?_) fun g => absurd (by omega) g
  have h3 : H (Own t_bool 1 fv (frs now was).length ((frs now was).map .bool) :: l) σ := h2.re
  obtain ⟨b, ia, la⟩ := gel h3 (frs_get ha hy)
  rw [LV h2, ia, om_some, la, ldB_some]
  exact hQ
end Go.Ax.C
set_option maxRecDepth 100000
namespace Go.Ax.C
open Go.Proofs Go.RowKit
variable {l r m : List Assn} {σ : AHeap} {Q : RK}
theorem rsettle {rb : Nat} {nv wv fv spv : Value} {now ws : List Nat} (h : H (pt rb (.cells [nv, wv, fv, spv] t_refs_Refs false) :: Own t_uint8 1 nv now.length (n8 now) :: Own t_uint8 1 wv ws.length (n8 ws) :: l) σ) (hw : ws.length = now.length) (hlo : 1 ≤ now.length) (hhi : now.length ≤ 1024) (h8 : ∀ x ∈ now, x < 256)
    (hQ : ∀ σ', H (RfA rb now now :: l) σ' → Q (.ret (.tuple #[])) σ') : E f_refs_Refs_settle [.pointer (some ⟨rb, 0, none⟩)] σ Q := by
  apply e_refs_Refs_settle; unfold s_refs_Refs_settle
  rw [LV h, LV h]
  obtain ⟨b1, c1, rfl, _, _⟩ := h.own_form 1 rfl (by omega)
  obtain ⟨b2, c2, rfl, _, _⟩ := h.own_form 2 rfl (by omega)
  have hs := (h.own_src 1 rfl).1
  have hs' : srcOf 1 (.slice (some ⟨b1, 0, none⟩) (Nat.min now.length ws.length) c1) σ = some (now.length, n8 now) := by
    rw [show Nat.min now.length ws.length = now.length by rw [hw]; exact Nat.min_self _]; exact hs
  refine copy_own h 2 rfl (by omega) hs' (n8_one _) (by simp; omega) ?_
  intro σ1 h1
  have e0 : splice (n8 ws) 0 (n8 now) = n8 now := by
    unfold splice
    rw [List.take_zero, List.nil_append, List.drop_of_length_le (by simp; omega), List.append_nil]
  rw [e0] at h1
  have h1 : H (pt rb (.cells [.slice (some ⟨b1, 0, none⟩) now.length c1, .slice (some ⟨b2, 0, none⟩) ws.length c2, fv, spv] t_refs_Refs false) :: Own t_uint8 1 (.slice (some ⟨b1, 0, none⟩) now.length c1) now.length (n8 now) :: Own t_uint8 1 (.slice (some ⟨b2, 0, none⟩) ws.length c2) now.length (n8 now) :: l) σ1 := by rw [← hw]; rw [← hw] at h1; exact h1
  rw [LV h1, lenS_slice, ldI_some]
  refine make_ok h1 (by omega) ?_
  intro fb σ2 h2
  have e0 : reps ((now.length : Int).toNat) [.bool false] = (frs now now).map .bool := by
    rw [reps_one]
    have : frs now now = List.replicate now.length false := by
      unfold frs
      apply List.ext_getElem?
      intro i
      rw [List.getElem?_zipWith, List.getElem?_replicate]
      cases hi : now[i]? with
      | none => have := List.getElem?_eq_none_iff.1 hi; simp; omega
      | some x =>
        have := (List.getElem?_eq_some_iff.1 hi).1
        simp [this]
    simp [this]
  have h2 := (h2.unsnoc.to_own (n := now.length) (z := 1) 0 rfl (by rw [e0]; simp [frs_len]) (by unfold OPEN; omega))
  rw [e0] at h2
  simp only [Int.toNat_natCast]
  have h2 : H (Own t_bool 1 (.slice (some ⟨fb, 0, none⟩) now.length now.length) (frs now now).length ((frs now now).map .bool) :: pt rb (.cells [.slice (some ⟨b1, 0, none⟩) now.length c1, .slice (some ⟨b2, 0, none⟩) ws.length c2, fv, spv] t_refs_Refs false) :: Own t_uint8 1 (.slice (some ⟨b1, 0, none⟩) now.length c1) now.length (n8 now) :: Own t_uint8 1 (.slice (some ⟨b2, 0, none⟩) ws.length c2) now.length (n8 now) :: l) σ2 := by rw [frs_len rfl]; exact h2
  refine st h2 rfl ?_
  intro σ3 h3
  rw [LV h3, lenS_slice, ldI_some]
  refine spnew h3 hhi ?_
  intro sb σ4 h4
  rw [c2_ret, tI_int]
  refine st h4 rfl ?_
  intro σ5 h5
  rw [LV h5, lenS_slice, ldI_some]
  refine ⟨fun m i τ => ∃ (k : Nat) (is : List Bool), i = k ∧ m = now.length - k ∧ k ≤ now.length ∧ is.length = now.length ∧ (∀ j, k ≤ j → j < now.length → is[j]? = some true) ∧ (∀ j < k, is[j]? = (fre now now)[j]?) ∧
      H (pt rb (.cells [.slice (some ⟨b1, 0, none⟩) now.length c1, .slice (some ⟨b2, 0, none⟩) now.length c2, .slice (some ⟨fb, 0, none⟩) now.length now.length, .pointer (some ⟨sb, 0, none⟩)] t_refs_Refs false) :: SpA sb is :: Own t_bool 1 (.slice (some ⟨fb, 0, none⟩) now.length now.length) (frs now now).length ((frs now now).map .bool) :: Own t_uint8 1 (.slice (some ⟨b1, 0, none⟩) now.length c1) now.length (n8 now) :: Own t_uint8 1 (.slice (some ⟨b2, 0, none⟩) now.length c2) now.length (n8 now) :: l) τ,
    ⟨_, 0, List.replicate now.length true, rfl, rfl, by omega, by simp, fun j _ hj => by simp [List.getElem?_replicate, hj], fun j hj => by omega, by rw [← hw]; rw [← hw] at h5; exact h5⟩, ?_⟩
  clear h h1 h2 h3 h4 h5 hs hs'
  rintro m _ τ ⟨k, is, rfl, hm, hk, hil, hge, hlt, h⟩
  unfold s_refs_Refs_settle_b1
  have hge' : ∀ j, k + 1 ≤ j → j < now.length → is[j]? = some true := fun j hj hj2 => hge j (by omega) hj2
  refine If_dec (fun g => ?_) fun g => ?_
  · have hkl : k < now.length := by omega
    have hx := List.getElem?_eq_getElem hkl
    have hh : H (Own t_uint8 1 (.slice (some ⟨b1, 0, none⟩) now.length c1) now.length (n8 now) :: l) τ := h.re
    obtain ⟨b, ia, la⟩ := gel (f := fun n : Nat => Value.int .u8 (n : Nat)) hh hx
    rw [ia, om_some, la, ldI_some]
    have hfk : (fre now now)[k]? = some (now[k] == 0) := by rw [fre_get hx hx]; simp
    refine If_dec (fun g2 => ?_) fun g2 => ?_
    · rw [LV h]
      have h6 : H (SpA sb is :: pt rb (.cells [.slice (some ⟨b1, 0, none⟩) now.length c1, .slice (some ⟨b2, 0, none⟩) now.length c2, .slice (some ⟨fb, 0, none⟩) now.length now.length, .pointer (some ⟨sb, 0, none⟩)] t_refs_Refs false) :: Own t_bool 1 (.slice (some ⟨fb, 0, none⟩) now.length now.length) (frs now now).length ((frs now now).map .bool) :: Own t_uint8 1 (.slice (some ⟨b1, 0, none⟩) now.length c1) now.length (n8 now) :: Own t_uint8 1 (.slice (some ⟨b2, 0, none⟩) now.length c2) now.length (n8 now) :: l) τ := h.re
      refine spclaim h6 (hge k (Nat.le_refl _) hkl) (by omega) ?_
      intro σ7 h7
      rw [cI_ret]
      unfold s_refs_Refs_settle_k9
      refine b64 ((k + 1 : Nat) : Int) (by omega) ?_
      refine ⟨now.length - (k + 1), by omega, k + 1, is.set k false, rfl, rfl, by omega, by simpa using hil, fun j hj hj2 => ?_, fun j hj => ?_, h7.re⟩
      · rw [List.getElem?_set, if_neg (by omega)]; exact hge' j hj hj2
      · rw [List.getElem?_set]
        by_cases e : k = j
        · subst e
          rw [if_pos rfl, if_pos (by omega), hfk]
          have : ¬ now[k] = 0 := by omega
          simp [this]
        · rw [if_neg e]; exact hlt j (by omega)
    · unfold s_refs_Refs_settle_k9
      refine b64 ((k + 1 : Nat) : Int) (by omega) ?_
      refine ⟨now.length - (k + 1), by omega, k + 1, is, rfl, rfl, by omega, hil, hge', fun j hj => ?_, h⟩
      by_cases e : k = j
      · subst e
        rw [hge k (Nat.le_refl _) hkl, hfk]
        have : now[k] = 0 := by omega
        simp [this]
      · exact hlt j (by omega)
  · have hkn : k = now.length := by omega
    have his : is = fre now now := by
      apply List.ext_getElem?
      intro j
      by_cases hj : j < k
      · exact hlt j hj
      · rw [List.getElem?_eq_none (by omega), List.getElem?_eq_none (by rw [fre_len rfl]; omega)]
    subst his
    exact hQ τ (H_rf.2 ⟨.slice (some ⟨b1, 0, none⟩) now.length c1, .slice (some ⟨b2, 0, none⟩) now.length c2, .slice (some ⟨fb, 0, none⟩) now.length now.length, sb, ⟨hlo, hhi, rfl, h8, h8⟩, h.re⟩)
theorem rnew {v : Value} {now : List Nat} (h : H (Own t_uint8 1 v now.length (n8 now) :: l) σ) (hlo : 1 ≤ now.length) (hhi : now.length ≤ 1024) (h8 : ∀ x ∈ now, x < 256)
    (hQ : ∀ rb σ', H (RfA rb now now :: Own t_uint8 1 v now.length (n8 now) :: l) σ' → Q (.ret (.tuple #[.pointer (some ⟨rb, 0, none⟩), .int .i64 0])) σ') : E f_refs_New [v] σ Q := by
  apply e_refs_New; unfold s_refs_New
  rw [own_len h, ldI_some]
  refine If_dec (fun g => absurd g (by omega)) fun _ => ?_
  rw [ldI_some]
  unfold s_refs_New_k2
  refine If_f (by simp; omega) ?_
  rw [own_len h, ldI_some]
  obtain ⟨hs, _, a, c, hv⟩ := h.own_src 0 rfl
  subst hv
  rw [n8_bv h8] at hs
  have fin : ∀ (w : Value) (mb : Nat) (τ : AHeap) (K : RK), (∀ rb σ', H (RfA rb now now :: Own t_uint8 1 (.slice a now.length c) now.length (n8 now) :: l) σ' → K (.ret (.tuple #[.pointer (some ⟨rb, 0, none⟩), .int .i64 0])) σ') →
      H (pt mb (.cells (reps ((now.length : Int).toNat) [.int .u8 0]) t_uint8 false) :: Own t_uint8 1 w now.length (n8 now) :: Own t_uint8 1 (.slice a now.length c) now.length (n8 now) :: l) τ →
      On w (On (.slice (some ⟨mb, 0, none⟩) ((now.length : Int).toNat) ((now.length : Int).toNat)) (wNew τ (.cells [w, .slice (some ⟨mb, 0, none⟩) ((now.length : Int).toNat) ((now.length : Int).toNat), .slice none 0 0, .pointer none] t_refs_Refs false) fun b14 τ15 => s_refs_New_k4 E K b14 τ15)) := by
    intro w mb τ K hK ht
    refine On_one (O.own_one ht (i := 1) rfl) (On_one rfl ?_)
    have e0 : reps ((now.length : Int).toNat) [.int .u8 0] = n8 (List.replicate now.length 0) := by rw [reps_one]; simp
    rw [e0] at ht
    have ht := ht.to_own (n := now.length) (z := 1) 0 rfl (by simp) (by unfold OPEN; omega)
    simp only [Int.toNat_natCast]
    have ht : H (Own t_uint8 1 (.slice (some ⟨mb, 0, none⟩) now.length now.length) now.length (n8 (List.replicate now.length 0)) :: Own t_uint8 1 w now.length (n8 now) :: Own t_uint8 1 (.slice a now.length c) now.length (n8 now) :: l) τ := ht
    refine nw ht ?_
    intro rb τ1 h1
    unfold s_refs_New_k4
    have h2 : H (pt rb (.cells [w, .slice (some ⟨mb, 0, none⟩) now.length now.length, .slice none 0 0, .pointer none] t_refs_Refs false) :: Own t_uint8 1 w now.length (n8 now) :: Own t_uint8 1 (.slice (some ⟨mb, 0, none⟩) now.length now.length) (List.replicate now.length 0).length (n8 (List.replicate now.length 0)) :: Own t_uint8 1 (.slice a now.length c) now.length (n8 now) :: l) τ1 := by
      have e : (List.replicate now.length 0).length = now.length := List.length_replicate
      rw [e]
      exact h1.re
    refine rsettle h2 (by simp) hlo hhi h8 ?_
    intro σ3 h3
    rw [c0_ret]
    exact hK rb σ3 h3
  constructor
  · refine O.up (O.clone_ok h hs (by omega) ?_)
    intro w σ1 h1
    rw [← n8_bv h8] at h1
    have h1 := h1.unsnoc
    rw [cV_ret, ldI_some, veq_int]
    refine make_ok h1 (by omega) ?_
    intro mb σ2 h2
    exact fin w mb σ2 Q hQ h2.unsnoc
  · refine make_ok h (by omega) ?_
    intro mb σ1 h1
    have h1 := h1.unsnoc
    refine O.up (O.clone_ok (bs := now.map UInt8.ofNat) h1 ?_ (by omega) ?_)
    · have := (h1.own_src 1 rfl).1
      rw [n8_bv h8] at this
      exact this
    intro w σ2 h2
    rw [← n8_bv h8] at h2
    have h2 := h2.unsnoc
    rw [cV_ret, ldI_some, veq_int]
    exact fin w mb σ2 Q hQ (h2.perm (.swap _ _ _))
end Go.Ax.C
set_option linter.unusedVariables false
set_option maxRecDepth 100000
namespace Go.Ax.C
open Go.Proofs
def s_tree_New (E : EvT) (Q : RK) (x0 x1 : Nat) (σ : AHeap) : Prop :=
 If false (
 Q (.ret (.pointer none)) σ) (
 wNew σ (.cells [(.pointer (some ⟨x0, 0, none⟩)), (.pointer (some ⟨x1, 0, none⟩))] t_tree_Shelf false) fun b11 τ12 =>
 Q (.ret (.pointer (some ⟨b11, 0, none⟩))) τ12)
theorem q_tree_New (E : EvT) (Q : RK) (x0 x1 : Nat) (σ : AHeap) : xfn P E Tryz.f28 (fun _ => none) (fun _ => .v) [(.pointer (some ⟨x0, 0, none⟩)), (.pointer (some ⟨x1, 0, none⟩))] σ Q = s_tree_New E Q x0 x1 σ := by kernel_rfl
theorem e_tree_New {Q : RK} {x0 x1 : Nat} {σ : AHeap} (h : s_tree_New E Q x0 x1 σ) : E f_tree_New [(.pointer (some ⟨x0, 0, none⟩)), (.pointer (some ⟨x1, 0, none⟩))] σ Q :=
  exfn Tryz.func28 _ _ (by kernel_rfl) (Eq.mpr (q_tree_New E Q x0 x1 σ) h)
def s_tree_Shelf_right_k2 (E : EvT) (Q : RK) (c6 : Bool) (n8 : Int) (τ5 : AHeap) : Prop :=
 If c6 (
 Q (.ret (.int .i64 2)) τ5) (
 If (decide (2147483647 < n8)) (
 Q (.ret (.int .i64 1)) τ5) (
 Q (.ret (.int .i64 0)) τ5))
def s_tree_Shelf_right (E : EvT) (Q : RK) (x0 : Nat) (x1 : Int) (σ : AHeap) : Prop :=
 om (L x0 0 σ) fun v3 =>
 ldB (aBin (some (.pointer t_refs_Refs)) .eql v3 (.pointer none)) fun c4 =>
 If c4 (
 (s_tree_Shelf_right_k2 E Q true x1 σ)) (
 om (L x0 1 σ) fun v12 =>
 ldB (aBin (some (.pointer t_cache_Cache)) .eql v12 (.pointer none)) fun c13 =>
 (s_tree_Shelf_right_k2 E Q c13 x1 σ))
theorem q_tree_Shelf_right (E : EvT) (Q : RK) (x0 : Nat) (x1 : Int) (σ : AHeap) : xfn P E Tryz.f63 (fun _ => none) (fun _ => .v) [(.pointer (some ⟨x0, 0, none⟩)), (.int .u64 x1)] σ Q = s_tree_Shelf_right E Q x0 x1 σ := by kernel_rfl
theorem e_tree_Shelf_right {Q : RK} {x0 : Nat} {x1 : Int} {σ : AHeap} (h : s_tree_Shelf_right E Q x0 x1 σ) : E f_tree_Shelf_right [(.pointer (some ⟨x0, 0, none⟩)), (.int .u64 x1)] σ Q :=
  exfn Tryz.func63 _ _ (by kernel_rfl) (Eq.mpr (q_tree_Shelf_right E Q x0 x1 σ) h)
def s_tree_Shelf_Load (E : EvT) (Q : RK) (x0 : Nat) (x1 : Int) (σ : AHeap) : Prop :=
 wNew σ (.cells [(.bool false), (.slice none 0 0), (.slice none 0 0)] t_api_Node false) fun b1 τ2 =>
 E f_tree_Shelf_right [(.pointer (some ⟨x0, 0, none⟩)), (.int .u64 x1)] τ2 (cI Q .i64 fun n7 τ6 =>
 If (!decide (n7 = 0)) (
 pu (aStore 3 (.pointer (some ⟨b1, 0, none⟩)) (.agg #[(.bool false), (.slice none 0 0), (.slice none 0 0)]) τ6) fun τ16 =>
 pu (aLoad true 3 (.pointer (some ⟨b1, 0, none⟩)) τ16) fun v17 =>
 Q (.ret (.tuple #[v17, (.int .i64 n7)])) τ16) (
 om (L x0 1 τ6) fun v22 =>
 Bi (w64 (x1)) fun n26 =>
 E f_cache_Cache_Get [v22, (.int .i64 n26)] τ6 (c2 Q fun v28 v29 τ27 =>
 tI .i64 (fun n30 =>
 If (!decide (n30 = 0)) (
 pu (aStore 3 (.pointer (some ⟨b1, 0, none⟩)) (.agg #[(.bool false), (.slice none 0 0), (.slice none 0 0)]) τ27) fun τ39 =>
 pu (aLoad true 3 (.pointer (some ⟨b1, 0, none⟩)) τ39) fun v40 =>
 Q (.ret (.tuple #[v40, (.int .i64 n30)])) τ39) (
 Bi (w64 (x1)) fun n48 =>
 E f_stamp_Open [v28, (.int .i64 n48), (.int .u8 1)] τ27 (c2 Q fun v50 v51 τ49 =>
 tI .i64 (fun n52 =>
 If (!decide (n52 = 0)) (
 pu (aStore 3 (.pointer (some ⟨b1, 0, none⟩)) (.agg #[(.bool false), (.slice none 0 0), (.slice none 0 0)]) τ49) fun τ61 =>
 pu (aLoad true 3 (.pointer (some ⟨b1, 0, none⟩)) τ61) fun v62 =>
 Q (.ret (.tuple #[v62, (.int .i64 n52)])) τ61) (
 E f_node_Take [v50] τ49 (c2 Q fun v68 v69 τ67 =>
 tI .i64 (fun n70 =>
 pu (aStore 3 (.pointer (some ⟨b1, 0, none⟩)) v68 τ67) fun τ72 =>
 pu (aLoad true 3 (.pointer (some ⟨b1, 0, none⟩)) τ72) fun v73 =>
 Q (.ret (.tuple #[v73, (.int .i64 n70)])) τ72) v69))) v51))) v29)))
theorem q_tree_Shelf_Load (E : EvT) (Q : RK) (x0 : Nat) (x1 : Int) (σ : AHeap) : xfn P E Tryz.f18 (fun _ => none) (fun _ => .v) [(.pointer (some ⟨x0, 0, none⟩)), (.int .u64 x1)] σ Q = s_tree_Shelf_Load E Q x0 x1 σ := by kernel_rfl
theorem e_tree_Shelf_Load {Q : RK} {x0 : Nat} {x1 : Int} {σ : AHeap} (h : s_tree_Shelf_Load E Q x0 x1 σ) : E f_tree_Shelf_Load [(.pointer (some ⟨x0, 0, none⟩)), (.int .u64 x1)] σ Q :=
  exfn Tryz.func18 _ _ (by kernel_rfl) (Eq.mpr (q_tree_Shelf_Load E Q x0 x1 σ) h)
def s_tree_Shelf_Save (E : EvT) (Q : RK) (x0 : Nat) (x1 : Int) (x2_0 : Bool) (x2_1 x2_2 : Value) (σ : AHeap) : Prop :=
 wNew σ (.cells [(.bool x2_0), x2_1, x2_2] t_api_Node false) fun b1 τ2 =>
 E f_tree_Shelf_right [(.pointer (some ⟨x0, 0, none⟩)), (.int .u64 x1)] τ2 (cI Q .i64 fun n7 τ6 =>
 If (!decide (n7 = 0)) (
 Q (.ret (.int .i64 n7)) τ6) (
 ldB (L b1 0 τ6) fun c18 =>
 om (L b1 1 τ6) fun v19 =>
 om (L b1 2 τ6) fun v20 =>
 E f_node_Put [(.agg #[(.bool c18), v19, v20])] τ6 (c2 Q fun v22 v23 τ21 =>
 tI .i64 (fun n24 =>
 If (!decide (n24 = 0)) (
 Q (.ret (.int .i64 n24)) τ21) (
 Bi (w64 (x1)) fun n40 =>
 E f_stamp_Seal [v22, (.int .i64 n40), (.int .u8 1)] τ21 (c2 Q fun v42 v43 τ41 =>
 tI .i64 (fun n44 =>
 If (!decide (n44 = 0)) (
 Q (.ret (.int .i64 n44)) τ41) (
 om (L x0 1 τ41) fun v60 =>
 Bi (w64 (x1)) fun n64 =>
 E f_cache_Cache_Put [v60, (.int .i64 n64), v42] τ41 (cI Q .i64 fun n69 τ68 =>
 Q (.ret (.int .i64 n69)) τ68))) v43))) v23)))
theorem q_tree_Shelf_Save (E : EvT) (Q : RK) (x0 : Nat) (x1 : Int) (x2_0 : Bool) (x2_1 x2_2 : Value) (σ : AHeap) : xfn P E Tryz.f17 (fun _ => none) (fun _ => .v) [(.pointer (some ⟨x0, 0, none⟩)), (.int .u64 x1), (.agg #[(.bool x2_0), x2_1, x2_2])] σ Q = s_tree_Shelf_Save E Q x0 x1 x2_0 x2_1 x2_2 σ := by kernel_rfl
theorem e_tree_Shelf_Save {Q : RK} {x0 : Nat} {x1 : Int} {x2_0 : Bool} {x2_1 x2_2 : Value} {σ : AHeap} (h : s_tree_Shelf_Save E Q x0 x1 x2_0 x2_1 x2_2 σ) : E f_tree_Shelf_Save [(.pointer (some ⟨x0, 0, none⟩)), (.int .u64 x1), (.agg #[(.bool x2_0), x2_1, x2_2])] σ Q :=
  exfn Tryz.func17 _ _ (by kernel_rfl) (Eq.mpr (q_tree_Shelf_Save E Q x0 x1 x2_0 x2_1 x2_2 σ) h)
def s_tree_Shelf_Make (E : EvT) (Q : RK) (x0 : Nat) (x1_0 : Bool) (x1_1 x1_2 : Value) (σ : AHeap) : Prop :=
 wNew σ (.cells [(.bool x1_0), x1_1, x1_2] t_api_Node false) fun b1 τ2 =>
 E f_tree_Shelf_right [(.pointer (some ⟨x0, 0, none⟩)), (.int .u64 0)] τ2 (cI Q .i64 fun n6 τ5 =>
 If (!decide (n6 = 0)) (
 Q (.ret (.tuple #[(.int .u64 0), (.int .i64 n6)])) τ5) (
 ldB (L b1 0 τ5) fun c17 =>
 om (L b1 1 τ5) fun v18 =>
 om (L b1 2 τ5) fun v19 =>
 E f_node_May [(.agg #[(.bool c17), v18, v19])] τ5 (cB Q fun c21 τ20 =>
 If (!c21) (
 Q (.ret (.tuple #[(.int .u64 0), (.int .i64 1)])) τ20) (
 om (L x0 0 τ20) fun v30 =>
 E f_refs_Refs_Alloc [v30] τ20 (c2 Q fun v32 v34 τ31 =>
 tI .i64 (fun n33 =>
 tI .i64 (fun n35 =>
 If (!decide (n35 = 0)) (
 Q (.ret (.tuple #[(.int .u64 0), (.int .i64 n35)])) τ31) (
 Bi (wu64 (n33)) fun n48 =>
 ldB (L b1 0 τ31) fun c54 =>
 om (L b1 1 τ31) fun v55 =>
 om (L b1 2 τ31) fun v56 =>
 E f_tree_Shelf_Save [(.pointer (some ⟨x0, 0, none⟩)), (.int .u64 n48), (.agg #[(.bool c54), v55, v56])] τ31 (cI Q .i64 fun n58 τ57 =>
 If (!decide (n58 = 0)) (
 Q (.ret (.tuple #[(.int .u64 0), (.int .i64 n58)])) τ57) (
 Bi (wu64 (n33)) fun n68 =>
 Q (.ret (.tuple #[(.int .u64 n68), (.int .i64 0)])) τ57)))) v34) v32)))))
theorem q_tree_Shelf_Make (E : EvT) (Q : RK) (x0 : Nat) (x1_0 : Bool) (x1_1 x1_2 : Value) (σ : AHeap) : xfn P E Tryz.f19 (fun _ => none) (fun _ => .v) [(.pointer (some ⟨x0, 0, none⟩)), (.agg #[(.bool x1_0), x1_1, x1_2])] σ Q = s_tree_Shelf_Make E Q x0 x1_0 x1_1 x1_2 σ := by kernel_rfl
theorem e_tree_Shelf_Make {Q : RK} {x0 : Nat} {x1_0 : Bool} {x1_1 x1_2 : Value} {σ : AHeap} (h : s_tree_Shelf_Make E Q x0 x1_0 x1_1 x1_2 σ) : E f_tree_Shelf_Make [(.pointer (some ⟨x0, 0, none⟩)), (.agg #[(.bool x1_0), x1_1, x1_2])] σ Q :=
  exfn Tryz.func19 _ _ (by kernel_rfl) (Eq.mpr (q_tree_Shelf_Make E Q x0 x1_0 x1_1 x1_2 σ) h)
def s_tree_Shelf_Shadow_k19 (E : EvT) (Q : RK) (b181 : Nat) (n183 : Int) (b194 : Nat) (n203 : Int) (b208 : Nat) (τ180 : AHeap) : Prop :=
 om (L b181 0 τ180) fun v182 =>
 E f_refs_Refs_Dec [v182, (.int .i64 n183)] τ180 (c2 Q fun v185 v187 τ184 =>
 tB (fun c186 =>
 tI .i64 (fun n188 =>
 If (!decide (n188 = 0)) (
 pu (aStore 3 (.pointer (some ⟨b194, 0, none⟩)) (.agg #[(.bool false), (.slice none 0 0), (.slice none 0 0)]) τ184) fun τ197 =>
 pu (aLoad true 3 (.pointer (some ⟨b194, 0, none⟩)) τ197) fun v198 =>
 Q (.ret (.tuple #[(.int .u64 0), v198, (.int .i64 n188)])) τ197) (
 Bi (wu64 (n203)) fun n207 =>
 ldB (L b208 0 τ184) fun c212 =>
 om (L b208 1 τ184) fun v213 =>
 om (L b208 2 τ184) fun v214 =>
 E f_tree_Shelf_Save [(.pointer (some ⟨b181, 0, none⟩)), (.int .u64 n207), (.agg #[(.bool c212), v213, v214])] τ184 (cI Q .i64 fun n216 τ215 =>
 If (!decide (n216 = 0)) (
 pu (aStore 3 (.pointer (some ⟨b194, 0, none⟩)) (.agg #[(.bool false), (.slice none 0 0), (.slice none 0 0)]) τ215) fun τ225 =>
 pu (aLoad true 3 (.pointer (some ⟨b194, 0, none⟩)) τ225) fun v226 =>
 Q (.ret (.tuple #[(.int .u64 0), v226, (.int .i64 n216)])) τ225) (
 Bi (wu64 (n203)) fun n231 =>
 ldB (L b208 0 τ215) fun c235 =>
 om (L b208 1 τ215) fun v236 =>
 om (L b208 2 τ215) fun v237 =>
 pu (aStore 3 (.pointer (some ⟨b194, 0, none⟩)) (.agg #[(.bool c235), v236, v237]) τ215) fun τ239 =>
 pu (aLoad true 3 (.pointer (some ⟨b194, 0, none⟩)) τ239) fun v240 =>
 Q (.ret (.tuple #[(.int .u64 n231), v240, (.int .i64 0)])) τ239)))) v187) v185)
def s_tree_Shelf_Shadow_b1 (N1 : Int → AHeap → Prop) (E : EvT) (Q : RK) (b101 b105 b107 : Nat) (n110 n116 : Int) (v118 : Value) (n120 n98 : Int) (τ121 : AHeap) : Prop :=
 If (decide (n98 < n120)) (
 om (aIndexAddr 1 v118 (.int .i64 n98)) fun v129 =>
 ldI .u64 (aLoad false 1 v129 τ121) fun n130 =>
 om (L b101 0 τ121) fun v135 =>
 Bi (w64 (n130)) fun n137 =>
 E f_refs_Refs_Inc [v135, (.int .i64 n137)] τ121 (cI Q .i64 fun n139 τ138 =>
 If (!decide (n139 = 0)) (
 pu (aStore 3 (.pointer (some ⟨b105, 0, none⟩)) (.agg #[(.bool false), (.slice none 0 0), (.slice none 0 0)]) τ138) fun τ150 =>
 pu (aLoad true 3 (.pointer (some ⟨b105, 0, none⟩)) τ150) fun v171 =>
 Q (.ret (.tuple #[(.int .u64 0), v171, (.int .i64 n139)])) τ150) (
 Bi (w64 (n98 + 1)) fun n174 =>
 N1 n174 τ138))) (
 (s_tree_Shelf_Shadow_k19 E Q b101 n110 b105 n116 b107 τ121))
def s_tree_Shelf_Shadow_k6 (E : EvT) (Q : RK) (c41 : Bool) (n43 : Int) (b48 b54 b58 : Nat) (n81 : Int) (τ40 : AHeap) : Prop :=
 If c41 (
 ldB (L b48 0 τ40) fun c49 =>
 om (L b48 1 τ40) fun v50 =>
 om (L b48 2 τ40) fun v51 =>
 pu (aStore 3 (.pointer (some ⟨b54, 0, none⟩)) (.agg #[(.bool c49), v50, v51]) τ40) fun τ55 =>
 pu (aLoad true 3 (.pointer (some ⟨b54, 0, none⟩)) τ55) fun v56 =>
 Q (.ret (.tuple #[(.int .u64 n43), v56, (.int .i64 0)])) τ55) (
 om (L b58 0 τ40) fun v60 =>
 E f_refs_Refs_Alloc [v60] τ40 (c2 Q fun v62 v64 τ61 =>
 tI .i64 (fun n63 =>
 tI .i64 (fun n65 =>
 If (!decide (n65 = 0)) (
 pu (aStore 3 (.pointer (some ⟨b54, 0, none⟩)) (.agg #[(.bool false), (.slice none 0 0), (.slice none 0 0)]) τ61) fun τ74 =>
 pu (aLoad true 3 (.pointer (some ⟨b54, 0, none⟩)) τ74) fun v75 =>
 Q (.ret (.tuple #[(.int .u64 0), v75, (.int .i64 n65)])) τ74) (
 om (L b58 0 τ61) fun v80 =>
 E f_refs_Refs_Count [v80, (.int .i64 n81)] τ61 (cI Q .i64 fun n87 τ86 =>
 If (decide (1 < n87)) (
 om (L b48 2 τ86) fun v95 =>
 ldI .i64 (lenS v95) fun n96 =>
 ∃ I241 : Nat → Int → AHeap → Prop, (∃ m, I241 m 0 τ86) ∧
 ∀ m (n98 : Int) (σ' : AHeap), I241 m n98 σ' → (s_tree_Shelf_Shadow_b1 (fun n98 σ' => ∃ m', m' < m ∧ I241 m' n98 σ') E Q b58 b54 b48 n81 n63 v95 n96 n98 σ')) (
 (s_tree_Shelf_Shadow_k19 E Q b58 n81 b54 n63 b48 τ86))))) v64) v62))
def s_tree_Shelf_Shadow (E : EvT) (Q : RK) (x0 : Nat) (x1 : Int) (σ : AHeap) : Prop :=
 wNew σ (.cells [(.bool false), (.slice none 0 0), (.slice none 0 0)] t_api_Node false) fun b1 τ2 =>
 E f_tree_Shelf_Load [(.pointer (some ⟨x0, 0, none⟩)), (.int .u64 x1)] τ2 (c2 Q fun v7 v8 τ6 =>
 tI .i64 (fun n9 =>
 wNew τ6 (.cells [(.bool false), (.slice none 0 0), (.slice none 0 0)] t_api_Node false) fun b10 τ11 =>
 pu (aStore 3 (.pointer (some ⟨b10, 0, none⟩)) v7 τ11) fun τ12 =>
 If (!decide (n9 = 0)) (
 pu (aStore 3 (.pointer (some ⟨b1, 0, none⟩)) (.agg #[(.bool false), (.slice none 0 0), (.slice none 0 0)]) τ12) fun τ21 =>
 pu (aLoad true 3 (.pointer (some ⟨b1, 0, none⟩)) τ21) fun v22 =>
 Q (.ret (.tuple #[(.int .u64 0), v22, (.int .i64 n9)])) τ21) (
 Bi (w64 (x1)) fun n27 =>
 om (L x0 0 τ12) fun v33 =>
 E f_refs_Refs_Fresh [v33, (.int .i64 n27)] τ12 (cB Q fun c36 τ35 =>
 If c36 (
 om (L x0 0 τ35) fun v37 =>
 E f_refs_Refs_Count [v37, (.int .i64 n27)] τ35 (cI Q .i64 fun n39 τ38 =>
 (s_tree_Shelf_Shadow_k6 E Q (decide (n39 = 1)) x1 b10 b1 x0 n27 τ38))) (
 (s_tree_Shelf_Shadow_k6 E Q false x1 b10 b1 x0 n27 τ35))))) v8)
theorem q_tree_Shelf_Shadow (E : EvT) (Q : RK) (x0 : Nat) (x1 : Int) (σ : AHeap) : xfn P E Tryz.f25 (hl [(2, .ord [(0, []), (1, []), (2, []), (3, []), (4, [])]), (6, .loopr [0, 5, 7, 9, 10, 66, 67] [68] [0, 4, 5, 6, 7, 9, 10] [0, 4, 5, 6, 7, 9, 10, 68]), (12, .ord [(0, []), (1, []), (2, []), (3, []), (4, []), (5, [])])]) (fun | 68 => (.i .i64) | _ => .v) [(.pointer (some ⟨x0, 0, none⟩)), (.int .u64 x1)] σ Q = s_tree_Shelf_Shadow E Q x0 x1 σ := by kernel_rfl
theorem e_tree_Shelf_Shadow {Q : RK} {x0 : Nat} {x1 : Int} {σ : AHeap} (h : s_tree_Shelf_Shadow E Q x0 x1 σ) : E f_tree_Shelf_Shadow [(.pointer (some ⟨x0, 0, none⟩)), (.int .u64 x1)] σ Q :=
  exfn Tryz.func25 _ _ (by kernel_rfl) (Eq.mpr (q_tree_Shelf_Shadow E Q x0 x1 σ) h)
def s_tree_must (E : EvT) (Q : RK) (x0 : Int) (σ : AHeap) : Prop :=
 If (!decide (x0 = 0)) (
 Q (.pan (.iface t_tree_fault (.agg #[(.int .i64 x0)]))) σ) (
 Q (.ret (.tuple #[])) σ)
theorem q_tree_must (E : EvT) (Q : RK) (x0 : Int) (σ : AHeap) : xfn P E Tryz.f85 (fun _ => none) (fun _ => .v) [(.int .i64 x0)] σ Q = s_tree_must E Q x0 σ := by kernel_rfl
theorem e_tree_must {Q : RK} {x0 : Int} {σ : AHeap} (h : s_tree_must E Q x0 σ) : E f_tree_must [(.int .i64 x0)] σ Q :=
  exfn Tryz.func85 _ _ (by kernel_rfl) (Eq.mpr (q_tree_must E Q x0 σ) h)
def s_tree_told (E : EvT) (Q : RK) (x0 : Value) (σ : AHeap) : Prop :=
 ldB (aBin (P.underlying t_if_) .eql x0 .nilIface) fun c3 =>
 If c3 (
 Q (.ret (.int .i64 0)) σ) (
 om (aAssert P t_tree_fault true x0) fun v9 =>
 om (xExt v9 0) fun v10 =>
 ldB (xExt v9 1) fun c11 =>
 wNew σ (.cells [(.int .i64 0)] t_tree_fault false) fun b12 τ13 =>
 St b12 0 v10 τ13 fun τ14 =>
 If (!c11) (
 wPan x0 τ14 (pQ Q)) (
 ldI .i64 (L b12 0 τ14) fun n25 =>
 Q (.ret (.int .i64 n25)) τ14))
theorem q_tree_told (E : EvT) (Q : RK) (x0 : Value) (σ : AHeap) : xfn P E Tryz.f73 (fun _ => none) (fun _ => .v) [x0] σ Q = s_tree_told E Q x0 σ := by kernel_rfl
theorem e_tree_told {Q : RK} {x0 : Value} {σ : AHeap} (h : s_tree_told E Q x0 σ) : E f_tree_told [x0] σ Q :=
  exfn Tryz.func73 _ _ (by kernel_rfl) (Eq.mpr (q_tree_told E Q x0 σ) h)
def s_tree_Lookup_b1 (N1 : Int → Int → AHeap → Prop) (E : EvT) (Q : RK) (b24 : Nat) (n31 n17 n18 : Int) (τ32 : AHeap) : Prop :=
 If (!decide (n17 = 0)) (
 If (decide (n18 = 12)) (
 Q (.ret (.tuple #[(.int .u64 0), (.bool false), (.int .i64 23)])) τ32) (
 E f_tree_Shelf_Load [(.pointer (some ⟨b24, 0, none⟩)), (.int .u64 n17)] τ32 (c2 Q fun v51 v52 τ50 =>
 tI .i64 (fun n53 =>
 wNew τ50 (.cells [(.bool false), (.slice none 0 0), (.slice none 0 0)] t_api_Node false) fun b54 τ55 =>
 pu (aStore 3 (.pointer (some ⟨b54, 0, none⟩)) v51 τ55) fun τ56 =>
 If (!decide (n53 = 0)) (
 Q (.ret (.tuple #[(.int .u64 0), (.bool false), (.int .i64 n53)])) τ56) (
 ldB (L b54 0 τ56) fun c71 =>
 If c71 (
 ldB (L b54 0 τ56) fun c75 =>
 om (L b54 1 τ56) fun v76 =>
 om (L b54 2 τ56) fun v77 =>
 E f_knot_Find [(.agg #[(.bool c75), v76, v77]), (.int .u64 n31)] τ56 (c2 Q fun v87 v89 τ86 =>
 tI .i64 (fun n88 =>
 tB (fun c90 =>
 If (!c90) (
 Q (.ret (.tuple #[(.int .u64 0), (.bool false), (.int .i64 0)])) τ86) (
 om (L b54 2 τ86) fun v107 =>
 om (aIndexAddr 1 v107 (.int .i64 n88)) fun v111 =>
 ldI .u64 (aLoad false 1 v111 τ86) fun n112 =>
 Q (.ret (.tuple #[(.int .u64 n112), (.bool true), (.int .i64 0)])) τ86)) v89) v87)) (
 om (L b54 2 τ56) fun v117 =>
 ldB (L b54 0 τ56) fun c118 =>
 om (L b54 1 τ56) fun v119 =>
 om (L b54 2 τ56) fun v120 =>
 E f_knot_Child [(.agg #[(.bool c118), v119, v120]), (.int .u64 n31)] τ56 (cI Q .i64 fun n123 τ122 =>
 om (L b54 2 τ122) fun v124 =>
 veq1 v124 v117 = true ∧
 om (aIndexAddr 1 v117 (.int .i64 n123)) fun v125 =>
 ldI .u64 (aLoad false 1 v125 τ122) fun n126 =>
 Bi (w64 (n18 + 1)) fun n130 =>
 N1 n126 n130 τ122)))) v52))) (
 Q (.ret (.tuple #[(.int .u64 0), (.bool false), (.int .i64 0)])) τ32)
def s_tree_Lookup (E : EvT) (Q : RK) (x0 : Nat) (x1 x2 : Int) (σ : AHeap) : Prop :=
 E f_tree_Shelf_right [(.pointer (some ⟨x0, 0, none⟩)), (.int .u64 0)] σ (cI Q .i64 fun n4 τ3 =>
 If (!decide (n4 = 0)) (
 Q (.ret (.tuple #[(.int .u64 0), (.bool false), (.int .i64 n4)])) τ3) (
 ∃ I133 : Nat → Int → Int → AHeap → Prop, (∃ m, I133 m x1 0 τ3) ∧
 ∀ m (n17 : Int) (n18 : Int) (σ' : AHeap), I133 m n17 n18 σ' → (s_tree_Lookup_b1 (fun n17 n18 σ' => ∃ m', m' < m ∧ I133 m' n17 n18 σ') E Q x0 x2 n17 n18 σ')))
theorem q_tree_Lookup (E : EvT) (Q : RK) (x0 : Nat) (x1 x2 : Int) (σ : AHeap) : xfn P E Tryz.f26 (hl [(2, .loopr [0, 2] [10, 11] [6, 7, 8] [6, 7, 8, 10, 11]), (9, .ord [(0, []), (1, []), (2, []), (3, []), (4, [1]), (5, []), (6, []), (7, [])])]) (fun | 10 => (.i .u64) | 11 => (.i .i64) | _ => .v) [(.pointer (some ⟨x0, 0, none⟩)), (.int .u64 x1), (.int .u64 x2)] σ Q = s_tree_Lookup E Q x0 x1 x2 σ := by kernel_rfl
theorem e_tree_Lookup {Q : RK} {x0 : Nat} {x1 x2 : Int} {σ : AHeap} (h : s_tree_Lookup E Q x0 x1 x2 σ) : E f_tree_Lookup [(.pointer (some ⟨x0, 0, none⟩)), (.int .u64 x1), (.int .u64 x2)] σ Q :=
  exfn Tryz.func26 _ _ (by kernel_rfl) (Eq.mpr (q_tree_Lookup E Q x0 x1 x2 σ) h)
def s_tree_down_k16 (N1 : Int → AHeap → Prop) (E : EvT) (Q : RK) (b160 : Nat) (n162 n171 : Int) (τ159 : AHeap) : Prop :=
 om (L b160 1 τ159) fun v161 =>
 om (aIndexAddr 5 v161 (.int .i64 n162)) fun v163 =>
 om (aFieldAddr 1 v163) fun v164 =>
 om (aFieldAddr 0 v164) fun v165 =>
 ldB (aLoad false 1 v165 τ159) fun c166 =>
 om (aFieldAddr 1 v164) fun v167 =>
 om (aLoad false 1 v167 τ159) fun v168 =>
 om (aFieldAddr 2 v164) fun v169 =>
 om (aLoad false 1 v169 τ159) fun v170 =>
 E f_knot_Child [(.agg #[(.bool c166), v168, v170]), (.int .u64 n171)] τ159 (cI Q .i64 fun n173 τ172 =>
 om (L b160 1 τ172) fun v176 =>
 om (aIndexAddr 5 v176 (.int .i64 n162)) fun v179 =>
 om (aFieldAddr 4 v179) fun v180 =>
 pu (aStore 1 v180 (.int .i64 n173) τ172) fun τ181 =>
 om (L b160 1 τ181) fun v184 =>
 om (aIndexAddr 5 v184 (.int .i64 n162)) fun v186 =>
 om (aFieldAddr 1 v186) fun v187 =>
 om (aFieldAddr 2 v187) fun v188 =>
 om (aLoad false 1 v188 τ181) fun v189 =>
 om (aIndexAddr 1 v189 (.int .i64 n173)) fun v191 =>
 ldI .u64 (aLoad false 1 v191 τ181) fun n192 =>
 N1 n192 τ181)
def s_tree_down_k15 (N1 : Int → AHeap → Prop) (E : EvT) (Q : RK) (c148 : Bool) (b150 : Nat) (n152 n153 : Int) (b154 : Nat) (τ147 : AHeap) : Prop :=
 If c148 (
 om (L b154 2 τ147) fun v155 =>
 om (aIndexAddr 1 v155 (.int .i64 0)) fun v156 =>
 ldI .u64 (aLoad false 1 v156 τ147) fun n157 =>
 E f_tree_way_set [(.pointer (some ⟨b150, 0, none⟩)), (.int .i64 n152), (.int .i64 0), (.int .u64 n153), (.int .u64 n157)] τ147 (c0 Q fun τ158 =>
 (s_tree_down_k16 N1 E Q b150 n152 n153 τ158))) (
 (s_tree_down_k16 N1 E Q b150 n152 n153 τ147))
def s_tree_down_k10 (N1 : Int → AHeap → Prop) (E : EvT) (Q : RK) (b86 : Nat) (n88 : Int) (b93 : Nat) (n110 : Int) (c125 : Bool) (n136 : Int) (τ85 : AHeap) : Prop :=
 om (L b86 1 τ85) fun v87 =>
 ldB (L b93 0 τ85) fun c94 =>
 om (L b93 1 τ85) fun v95 =>
 om (L b93 2 τ85) fun v96 =>
 wNew τ85 (.cells [(.int .u64 n88), (.bool c94), v95, v96, (.int .i64 0)] t_tree_step false) fun b97 τ98 =>
 om (L b86 1 τ98) fun v99 =>
 veq1 v99 v87 = true ∧
 pu (aAppend t_tree_step 5 72 v87 (.slice (some ⟨b97, 0, none⟩) 1 1) τ98) fun r100 =>
 St b86 1 r100.1 r100.2 fun τ101 =>
 ldB (L b93 0 τ101) fun c104 =>
 If c104 (
 Q (.ret (.pointer (some ⟨b86, 0, none⟩))) τ101) (
 om (L b86 1 τ101) fun v115 =>
 ldI .i64 (lenS v115) fun n116 =>
 Bi (w64 (n116 - 1)) fun n117 =>
 If c125 (
 om (L b93 1 τ101) fun v144 =>
 om (aIndexAddr 1 v144 (.int .i64 0)) fun v145 =>
 ldI .u64 (aLoad false 1 v145 τ101) fun n146 =>
 (s_tree_down_k15 N1 E Q (decide (n136 < n146)) b86 n117 n136 b93 τ101)) (
 (s_tree_down_k15 N1 E Q false b86 n117 n136 b93 τ101)))
def s_tree_down_k9 (N1 : Int → AHeap → Prop) (E : EvT) (Q : RK) (c64 : Bool) (b66 : Nat) (n67 n83 : Int) (b92 : Nat) (n109 : Int) (c124 : Bool) (n135 : Int) (τ63 : AHeap) : Prop :=
 If c64 (
 om (L b66 1 τ63) fun v68 =>
 om (aIndexAddr 5 v68 (.int .i64 n67)) fun v69 =>
 om (aFieldAddr 4 v69) fun v70 =>
 ldI .i64 (aLoad false 1 v70 τ63) fun n71 =>
 om (L b66 1 τ63) fun v72 =>
 om (aIndexAddr 5 v72 (.int .i64 n67)) fun v73 =>
 om (aFieldAddr 1 v73) fun v74 =>
 om (aFieldAddr 1 v74) fun v75 =>
 om (aLoad false 1 v75 τ63) fun v76 =>
 om (L b66 1 τ63) fun v77 =>
 om (aIndexAddr 5 v77 (.int .i64 n67)) fun v78 =>
 om (aFieldAddr 4 v78) fun v79 =>
 ldI .i64 (aLoad false 1 v79 τ63) fun n80 =>
 om (aIndexAddr 1 v76 (.int .i64 n80)) fun v81 =>
 ldI .u64 (aLoad false 1 v81 τ63) fun n82 =>
 E f_tree_way_set [(.pointer (some ⟨b66, 0, none⟩)), (.int .i64 n67), (.int .i64 n71), (.int .u64 n82), (.int .u64 n83)] τ63 (c0 Q fun τ84 =>
 (s_tree_down_k10 N1 E Q b66 n83 b92 n109 c124 n135 τ84))) (
 (s_tree_down_k10 N1 E Q b66 n83 b92 n109 c124 n135 τ63))
def s_tree_down_k5 (N1 : Int → AHeap → Prop) (E : EvT) (Q : RK) (b32 : Nat) (n34 : Int) (b49 : Nat) (c120 : Bool) (n131 : Int) (τ30 : AHeap) : Prop :=
 E f_tree_Shelf_Shadow [(.pointer (some ⟨b32, 0, none⟩)), (.int .u64 n34)] τ30 (c3 Q fun v36 v38 v39 τ35 =>
 tI .u64 (fun n37 =>
 tI .i64 (fun n40 =>
 wNew τ35 (.cells [(.bool false), (.slice none 0 0), (.slice none 0 0)] t_api_Node false) fun b41 τ42 =>
 pu (aStore 3 (.pointer (some ⟨b41, 0, none⟩)) v38 τ42) fun τ43 =>
 E f_tree_must [(.int .i64 n40)] τ43 (c0 Q fun τ46 =>
 om (L b49 1 τ46) fun v52 =>
 ldI .i64 (lenS v52) fun n53 =>
 Bi (w64 (n53 - 1)) fun n54 =>
 If (decide (0 ≤ n54)) (
 (s_tree_down_k9 N1 E Q (!decide (n37 = n34)) b49 n54 n37 b41 n34 c120 n131 τ46)) (
 (s_tree_down_k9 N1 E Q false b49 n54 n37 b41 n34 c120 n131 τ46)))) v39) v36)
def s_tree_down_b1 (N1 : Int → AHeap → Prop) (E : EvT) (Q : RK) (b12 : Nat) (n16 : Int) (c20 : Bool) (b23 : Nat) (n9 : Int) (τ24 : AHeap) : Prop :=
 om (L b23 1 τ24) fun v25 =>
 ldI .i64 (lenS v25) fun n26 =>
 If (decide (n26 = 12)) (
 E f_tree_must [(.int .i64 23)] τ24 (c0 Q fun τ29 =>
 (s_tree_down_k5 N1 E Q b12 n9 b23 c20 n16 τ29))) (
 (s_tree_down_k5 N1 E Q b12 n9 b23 c20 n16 τ24))
def s_tree_down (E : EvT) (Q : RK) (x0 : Nat) (x1 x2 : Int) (x3 : Bool) (σ : AHeap) : Prop :=
 wNew σ (.cells [(.pointer (some ⟨x0, 0, none⟩)), (.slice none 0 0)] t_tree_way false) fun b3 τ4 =>
 ∃ I193 : Nat → Int → AHeap → Prop, (∃ m, I193 m x1 τ4) ∧
 ∀ m (n9 : Int) (σ' : AHeap), I193 m n9 σ' → (s_tree_down_b1 (fun n9 σ' => ∃ m', m' < m ∧ I193 m' n9 σ') E Q x0 x2 x3 b3 n9 σ')
theorem q_tree_down (E : EvT) (Q : RK) (x0 : Nat) (x1 x2 : Int) (x3 : Bool) (σ : AHeap) : xfn P E Tryz.f74 (hl [(1, .loopr [0, 2, 3, 9] [10] [8] [8, 10]), (5, .ord [(0, []), (1, []), (2, []), (3, []), (4, []), (5, []), (6, []), (7, []), (8, []), (9, []), (10, []), (11, []), (12, []), (13, []), (14, []), (15, []), (16, []), (17, []), (18, []), (19, []), (20, []), (21, []), (22, []), (23, []), (24, []), (25, []), (26, []), (27, []), (28, []), (29, []), (30, [])]), (6, .ord [(0, []), (1, []), (2, []), (3, []), (4, []), (5, []), (6, []), (7, []), (8, [4]), (9, []), (10, []), (11, []), (12, [])])]) (fun | 10 => (.i .u64) | _ => .v) [(.pointer (some ⟨x0, 0, none⟩)), (.int .u64 x1), (.int .u64 x2), (.bool x3)] σ Q = s_tree_down E Q x0 x1 x2 x3 σ := by kernel_rfl
theorem e_tree_down {Q : RK} {x0 : Nat} {x1 x2 : Int} {x3 : Bool} {σ : AHeap} (h : s_tree_down E Q x0 x1 x2 x3 σ) : E f_tree_down [(.pointer (some ⟨x0, 0, none⟩)), (.int .u64 x1), (.int .u64 x2), (.bool x3)] σ Q :=
  exfn Tryz.func74 _ _ (by kernel_rfl) (Eq.mpr (q_tree_down E Q x0 x1 x2 x3 σ) h)
def s_tree_way_set (E : EvT) (Q : RK) (x0 : Nat) (x1 x2 x3 x4 : Int) (σ : AHeap) : Prop :=
 om (L x0 1 σ) fun v1 =>
 om (aIndexAddr 5 v1 (.int .i64 x1)) fun v2 =>
 om (aFieldAddr 1 v2) fun v3 =>
 om (aFieldAddr 0 v3) fun v4 =>
 ldB (aLoad false 1 v4 σ) fun c5 =>
 om (aFieldAddr 1 v3) fun v6 =>
 om (aLoad false 1 v6 σ) fun v7 =>
 om (aFieldAddr 2 v3) fun v8 =>
 om (aLoad false 1 v8 σ) fun v9 =>
 E f_knot_Set [(.agg #[(.bool c5), v7, v9]), (.int .i64 x2), (.int .u64 x3), (.int .u64 x4)] σ (cV Q fun v11 τ10 =>
 E f_tree_way_save [(.pointer (some ⟨x0, 0, none⟩)), (.int .i64 x1), v11] τ10 (c0 Q fun τ12 =>
 Q (.ret (.tuple #[])) τ12))
theorem q_tree_way_set (E : EvT) (Q : RK) (x0 : Nat) (x1 x2 x3 x4 : Int) (σ : AHeap) : xfn P E Tryz.f76 (fun _ => none) (fun _ => .v) [(.pointer (some ⟨x0, 0, none⟩)), (.int .i64 x1), (.int .i64 x2), (.int .u64 x3), (.int .u64 x4)] σ Q = s_tree_way_set E Q x0 x1 x2 x3 x4 σ := by kernel_rfl
theorem e_tree_way_set {Q : RK} {x0 : Nat} {x1 x2 x3 x4 : Int} {σ : AHeap} (h : s_tree_way_set E Q x0 x1 x2 x3 x4 σ) : E f_tree_way_set [(.pointer (some ⟨x0, 0, none⟩)), (.int .i64 x1), (.int .i64 x2), (.int .u64 x3), (.int .u64 x4)] σ Q :=
  exfn Tryz.func76 _ _ (by kernel_rfl) (Eq.mpr (q_tree_way_set E Q x0 x1 x2 x3 x4 σ) h)
def s_tree_way_save_k3 (E : EvT) (Q : RK) (c21 : Bool) (b23 : Nat) (n27 : Int) (b31 : Nat) (τ20 : AHeap) : Prop :=
 If c21 (
 om (L b23 0 τ20) fun v24 =>
 om (L b23 1 τ20) fun v25 =>
 om (aIndexAddr 5 v25 (.int .i64 n27)) fun v28 =>
 om (aFieldAddr 0 v28) fun v29 =>
 ldI .u64 (aLoad false 1 v29 τ20) fun n30 =>
 ldB (L b31 0 τ20) fun c32 =>
 om (L b31 1 τ20) fun v33 =>
 om (L b31 2 τ20) fun v34 =>
 E f_tree_Shelf_Save [v24, (.int .u64 n30), (.agg #[(.bool c32), v33, v34])] τ20 (cI Q .i64 fun n36 τ35 =>
 E f_tree_must [(.int .i64 n36)] τ35 (c0 Q fun τ37 =>
 Q (.ret (.tuple #[])) τ37))) (
 Q (.ret (.tuple #[])) τ20)
def s_tree_way_save (E : EvT) (Q : RK) (x0 : Nat) (x1 : Int) (x2_0 : Bool) (x2_1 x2_2 : Value) (σ : AHeap) : Prop :=
 wNew σ (.cells [(.bool x2_0), x2_1, x2_2] t_api_Node false) fun b1 τ2 =>
 om (L x0 1 τ2) fun v5 =>
 ldB (L b1 0 τ2) fun c8 =>
 om (L b1 1 τ2) fun v9 =>
 om (L b1 2 τ2) fun v10 =>
 om (aIndexAddr 5 v5 (.int .i64 x1)) fun v11 =>
 om (aFieldAddr 1 v11) fun v12 =>
 pu (aStore 3 v12 (.agg #[(.bool c8), v9, v10]) τ2) fun τ13 =>
 om (L b1 1 τ13) fun v16 =>
 ldI .i64 (lenS v16) fun n17 =>
 If (decide (0 < n17)) (
 om (L b1 1 τ13) fun v18 =>
 ldI .i64 (lenS v18) fun n19 =>
 (s_tree_way_save_k3 E Q (decide (n19 ≤ 8)) x0 x1 b1 τ13)) (
 (s_tree_way_save_k3 E Q false x0 x1 b1 τ13))
theorem q_tree_way_save (E : EvT) (Q : RK) (x0 : Nat) (x1 : Int) (x2_0 : Bool) (x2_1 x2_2 : Value) (σ : AHeap) : xfn P E Tryz.f77 (hl [(0, .ord [(0, []), (1, []), (2, []), (3, []), (4, []), (5, []), (6, []), (7, []), (8, [])]), (2, .ord [(0, []), (1, []), (2, []), (3, []), (4, []), (5, []), (6, []), (7, []), (8, []), (9, []), (10, []), (11, []), (12, []), (13, []), (14, [])])]) (fun _ => .v) [(.pointer (some ⟨x0, 0, none⟩)), (.int .i64 x1), (.agg #[(.bool x2_0), x2_1, x2_2])] σ Q = s_tree_way_save E Q x0 x1 x2_0 x2_1 x2_2 σ := by kernel_rfl
theorem e_tree_way_save {Q : RK} {x0 : Nat} {x1 : Int} {x2_0 : Bool} {x2_1 x2_2 : Value} {σ : AHeap} (h : s_tree_way_save E Q x0 x1 x2_0 x2_1 x2_2 σ) : E f_tree_way_save [(.pointer (some ⟨x0, 0, none⟩)), (.int .i64 x1), (.agg #[(.bool x2_0), x2_1, x2_2])] σ Q :=
  exfn Tryz.func77 _ _ (by kernel_rfl) (Eq.mpr (q_tree_way_save E Q x0 x1 x2_0 x2_1 x2_2 σ) h)
def s_tree_way_up_b1 (N1 : Int → AHeap → Prop) (E : EvT) (Q : RK) (v7 : Value) (n5 : Int) (τ8 : AHeap) : Prop :=
 If (decide (0 ≤ n5)) (
 wF v7 fun g20 a21 c22 =>
 E g20 (a21 ++ [(.int .i64 n5)] ++ c22) τ8 (c0 Q fun τ16 =>
 Bi (w64 (n5 - 1)) fun n19 =>
 N1 n19 τ16)) (
 Q (.ret (.tuple #[])) τ8)
def s_tree_way_up (E : EvT) (Q : RK) (x0 : Nat) (x1 : Value) (σ : AHeap) : Prop :=
 om (L x0 1 σ) fun v1 =>
 ldI .i64 (lenS v1) fun n2 =>
 Bi (w64 (n2 - 1)) fun n3 =>
 ∃ I23 : Nat → Int → AHeap → Prop, (∃ m, I23 m n3 σ) ∧
 ∀ m (n5 : Int) (σ' : AHeap), I23 m n5 σ' → (s_tree_way_up_b1 (fun n5 σ' => ∃ m', m' < m ∧ I23 m' n5 σ') E Q x1 n5 σ')
theorem q_tree_way_up (E : EvT) (Q : RK) (x0 : Nat) (x1 : Value) (σ : AHeap) : xfn P E Tryz.f79 (hl [(1, .loopr [1] [4] [] [4])]) (fun | 4 => (.i .i64) | _ => .v) [(.pointer (some ⟨x0, 0, none⟩)), x1] σ Q = s_tree_way_up E Q x0 x1 σ := by kernel_rfl
theorem e_tree_way_up {Q : RK} {x0 : Nat} {x1 : Value} {σ : AHeap} (h : s_tree_way_up E Q x0 x1 σ) : E f_tree_way_up [(.pointer (some ⟨x0, 0, none⟩)), x1] σ Q :=
  exfn Tryz.func79 _ _ (by kernel_rfl) (Eq.mpr (q_tree_way_up E Q x0 x1 σ) h)
def s_tree_way_split_k11 (E : EvT) (Q : RK) (b157 b159 : Nat) (τ155 : AHeap) : Prop :=
 om (L b157 0 τ155) fun v158 =>
 ldB (L b159 0 τ155) fun c160 =>
 om (L b159 1 τ155) fun v161 =>
 om (L b159 2 τ155) fun v162 =>
 E f_tree_Shelf_Make [v158, (.agg #[(.bool c160), v161, v162])] τ155 (c2 Q fun v164 v166 τ163 =>
 tI .u64 (fun n165 =>
 tI .i64 (fun n167 =>
 E f_tree_must [(.int .i64 n167)] τ163 (c0 Q fun τ170 =>
 ldB (L b159 0 τ170) fun c178 =>
 om (L b159 1 τ170) fun v179 =>
 om (L b159 2 τ170) fun v180 =>
 om (L b157 1 τ170) fun v181 =>
 wNew τ170 (.cells [(.int .u64 n165), (.bool c178), v179, v180, (.int .i64 0)] t_tree_step false) fun b182 τ183 =>
 om (L b157 1 τ183) fun v184 =>
 veq1 v184 v181 = true ∧
 pu (aAppend t_tree_step 5 72 (.slice (some ⟨b182, 0, none⟩) 1 1) v181 τ183) fun r185 =>
 St b157 1 r185.1 r185.2 fun τ186 =>
 Q (.ret (.tuple #[])) τ186)) v166) v164)
def s_tree_way_split (E : EvT) (Q : RK) (x0 : Nat) (x1 : Int) (σ : AHeap) : Prop :=
 om (L x0 1 σ) fun v1 =>
 om (aIndexAddr 5 v1 (.int .i64 x1)) fun v2 =>
 om (aFieldAddr 0 v2) fun v3 =>
 ldI .u64 (aLoad false 1 v3 σ) fun n4 =>
 om (aFieldAddr 1 v2) fun v5 =>
 ldB (aLoad false 1 v5 σ) fun c6 =>
 om (aFieldAddr 2 v2) fun v7 =>
 om (aLoad false 1 v7 σ) fun v8 =>
 om (aFieldAddr 3 v2) fun v9 =>
 om (aLoad false 1 v9 σ) fun v10 =>
 om (aFieldAddr 4 v2) fun v11 =>
 ldI .i64 (aLoad false 1 v11 σ) fun n12 =>
 wNew σ (.cells [(.int .u64 0), (.bool false), (.slice none 0 0), (.slice none 0 0), (.int .i64 0)] t_tree_step false) fun b13 τ14 =>
 pu (aStore 5 (.pointer (some ⟨b13, 0, none⟩)) (.agg #[(.int .u64 n4), (.bool c6), v8, v10, (.int .i64 n12)]) τ14) fun τ15 =>
 om (L b13 2 τ15) fun v18 =>
 ldI .i64 (lenS v18) fun n19 =>
 If (decide (n19 ≤ 8)) (
 Q (.ret (.tuple #[])) τ15) (
 ldB (L b13 1 τ15) fun c25 =>
 om (L b13 2 τ15) fun v26 =>
 om (L b13 3 τ15) fun v27 =>
 E f_knot_Split [(.agg #[(.bool c25), v26, v27])] τ15 (c2 Q fun v29 v30 τ28 =>
 wNew τ28 (.cells [(.bool false), (.slice none 0 0), (.slice none 0 0)] t_api_Node false) fun b31 τ32 =>
 wNew τ32 (.cells [(.bool false), (.slice none 0 0), (.slice none 0 0)] t_api_Node false) fun b33 τ34 =>
 pu (aStore 3 (.pointer (some ⟨b31, 0, none⟩)) v29 τ34) fun τ35 =>
 pu (aStore 3 (.pointer (some ⟨b33, 0, none⟩)) v30 τ35) fun τ36 =>
 ldB (L b31 0 τ36) fun c47 =>
 om (L b31 1 τ36) fun v48 =>
 om (L b31 2 τ36) fun v49 =>
 E f_tree_way_save [(.pointer (some ⟨x0, 0, none⟩)), (.int .i64 x1), (.agg #[(.bool c47), v48, v49])] τ36 (c0 Q fun τ50 =>
 om (L x0 0 τ50) fun v53 =>
 ldB (L b33 0 τ50) fun c56 =>
 om (L b33 1 τ50) fun v57 =>
 om (L b33 2 τ50) fun v58 =>
 E f_tree_Shelf_Make [v53, (.agg #[(.bool c56), v57, v58])] τ50 (c2 Q fun v60 v62 τ59 =>
 tI .u64 (fun n61 =>
 tI .i64 (fun n63 =>
 E f_tree_must [(.int .i64 n63)] τ59 (c0 Q fun τ66 =>
 If (decide (0 < x1)) (
 om (L x0 1 τ66) fun v76 =>
 Bi (w64 (x1 - 1)) fun n78 =>
 om (aIndexAddr 5 v76 (.int .i64 n78)) fun v79 =>
 om (aFieldAddr 0 v79) fun v80 =>
 ldI .u64 (aLoad false 1 v80 τ66) fun n81 =>
 om (aFieldAddr 1 v79) fun v82 =>
 ldB (aLoad false 1 v82 τ66) fun c83 =>
 om (aFieldAddr 2 v79) fun v84 =>
 om (aLoad false 1 v84 τ66) fun v85 =>
 om (aFieldAddr 3 v79) fun v86 =>
 om (aLoad false 1 v86 τ66) fun v87 =>
 om (aFieldAddr 4 v79) fun v88 =>
 ldI .i64 (aLoad false 1 v88 τ66) fun n89 =>
 wNew τ66 (.cells [(.int .u64 0), (.bool false), (.slice none 0 0), (.slice none 0 0), (.int .i64 0)] t_tree_step false) fun b90 τ91 =>
 pu (aStore 5 (.pointer (some ⟨b90, 0, none⟩)) (.agg #[(.int .u64 n81), (.bool c83), v85, v87, (.int .i64 n89)]) τ91) fun τ92 =>
 Bi (w64 (x1 - 1)) fun n96 =>
 ldB (L b90 1 τ92) fun c98 =>
 om (L b90 2 τ92) fun v99 =>
 om (L b90 3 τ92) fun v100 =>
 ldI .i64 (L b90 4 τ92) fun n101 =>
 Bi (w64 (n101 + 1)) fun n102 =>
 om (L b33 1 τ92) fun v107 =>
 om (aIndexAddr 1 v107 (.int .i64 0)) fun v108 =>
 ldI .u64 (aLoad false 1 v108 τ92) fun n109 =>
 E f_knot_Insert [(.agg #[(.bool c98), v99, v100]), (.int .i64 n102), (.int .u64 n109), (.int .u64 n61)] τ92 (cV Q fun v115 τ114 =>
 E f_tree_way_save [(.pointer (some ⟨x0, 0, none⟩)), (.int .i64 n96), v115] τ114 (c0 Q fun τ116 =>
 Q (.ret (.tuple #[])) τ116))) (
 om (L b31 1 τ66) fun v123 =>
 om (aIndexAddr 1 v123 (.int .i64 0)) fun v124 =>
 ldI .u64 (aLoad false 1 v124 τ66) fun n125 =>
 om (L b33 1 τ66) fun v127 =>
 om (aIndexAddr 1 v127 (.int .i64 0)) fun v128 =>
 ldI .u64 (aLoad false 1 v128 τ66) fun n129 =>
 ldI .u64 (L b13 0 τ66) fun n136 =>
 (
 wNew τ66 (.cells [(.int .u64 n125), (.int .u64 n129)] t_uint64 false) fun b138 τ139 =>
 ldI .u64 (L b13 0 τ139) fun n140 =>
 veq1 (.int .u64 n140) (.int .u64 n136) = true ∧
 (
 wNew τ139 (.cells [(.int .u64 n136), (.int .u64 n61)] t_uint64 false) fun b141 τ142 =>
 om (L b31 1 τ142) fun v143 =>
 veq1 v143 v123 = true ∧
 ldI .u64 (aLoad false 1 v124 τ142) fun n144 =>
 veq1 (.int .u64 n144) (.int .u64 n125) = true ∧
 om (L b33 1 τ142) fun v145 =>
 veq1 v145 v127 = true ∧
 ldI .u64 (aLoad false 1 v128 τ142) fun n146 =>
 veq1 (.int .u64 n146) (.int .u64 n129) = true ∧
 On (.slice (some ⟨b138, 0, none⟩) 2 2) (
 On (.slice (some ⟨b141, 0, none⟩) 2 2) (
 wNew τ142 (.cells [(.bool false), (.slice none 0 0), (.slice none 0 0)] t_api_Node false) fun b147 τ148 =>
 om (L b31 1 τ148) fun v149 =>
 veq1 v149 v123 = true ∧
 ldI .u64 (aLoad false 1 v124 τ148) fun n150 =>
 veq1 (.int .u64 n150) (.int .u64 n125) = true ∧
 om (L b33 1 τ148) fun v151 =>
 veq1 v151 v127 = true ∧
 ldI .u64 (aLoad false 1 v128 τ148) fun n152 =>
 veq1 (.int .u64 n152) (.int .u64 n129) = true ∧
 ldI .u64 (L b13 0 τ148) fun n153 =>
 veq1 (.int .u64 n153) (.int .u64 n136) = true ∧
 pu (aStore 3 (.pointer (some ⟨b147, 0, none⟩)) (.agg #[(.bool false), (.slice (some ⟨b138, 0, none⟩) 2 2), (.slice (some ⟨b141, 0, none⟩) 2 2)]) τ148) fun τ154 =>
 (s_tree_way_split_k11 E Q x0 b147 τ154)))) ∧ (
 wNew τ139 (.cells [(.bool false), (.slice none 0 0), (.slice none 0 0)] t_api_Node false) fun b187 τ188 =>
 om (L b31 1 τ188) fun v189 =>
 veq1 v189 v123 = true ∧
 ldI .u64 (aLoad false 1 v124 τ188) fun n190 =>
 veq1 (.int .u64 n190) (.int .u64 n125) = true ∧
 om (L b33 1 τ188) fun v191 =>
 veq1 v191 v127 = true ∧
 ldI .u64 (aLoad false 1 v128 τ188) fun n192 =>
 veq1 (.int .u64 n192) (.int .u64 n129) = true ∧
 ldI .u64 (L b13 0 τ188) fun n193 =>
 veq1 (.int .u64 n193) (.int .u64 n136) = true ∧
 wNew τ188 (.cells [(.int .u64 n136), (.int .u64 n61)] t_uint64 false) fun b194 τ195 =>
 om (L b31 1 τ195) fun v196 =>
 veq1 v196 v123 = true ∧
 ldI .u64 (aLoad false 1 v124 τ195) fun n197 =>
 veq1 (.int .u64 n197) (.int .u64 n125) = true ∧
 om (L b33 1 τ195) fun v198 =>
 veq1 v198 v127 = true ∧
 ldI .u64 (aLoad false 1 v128 τ195) fun n199 =>
 veq1 (.int .u64 n199) (.int .u64 n129) = true ∧
 On (.slice (some ⟨b138, 0, none⟩) 2 2) (
 On (.slice (some ⟨b194, 0, none⟩) 2 2) (
 pu (aStore 3 (.pointer (some ⟨b187, 0, none⟩)) (.agg #[(.bool false), (.slice (some ⟨b138, 0, none⟩) 2 2), (.slice (some ⟨b194, 0, none⟩) 2 2)]) τ195) fun τ200 =>
 (s_tree_way_split_k11 E Q x0 b187 τ200))))) ∧ (
 (
 wNew τ66 (.cells [(.int .u64 n136), (.int .u64 n61)] t_uint64 false) fun b201 τ202 =>
 om (L b31 1 τ202) fun v203 =>
 veq1 v203 v123 = true ∧
 ldI .u64 (aLoad false 1 v124 τ202) fun n204 =>
 veq1 (.int .u64 n204) (.int .u64 n125) = true ∧
 om (L b33 1 τ202) fun v205 =>
 veq1 v205 v127 = true ∧
 ldI .u64 (aLoad false 1 v128 τ202) fun n206 =>
 veq1 (.int .u64 n206) (.int .u64 n129) = true ∧
 (
 wNew τ202 (.cells [(.int .u64 n125), (.int .u64 n129)] t_uint64 false) fun b207 τ208 =>
 ldI .u64 (L b13 0 τ208) fun n209 =>
 veq1 (.int .u64 n209) (.int .u64 n136) = true ∧
 On (.slice (some ⟨b207, 0, none⟩) 2 2) (
 On (.slice (some ⟨b201, 0, none⟩) 2 2) (
 wNew τ208 (.cells [(.bool false), (.slice none 0 0), (.slice none 0 0)] t_api_Node false) fun b210 τ211 =>
 om (L b31 1 τ211) fun v212 =>
 veq1 v212 v123 = true ∧
 ldI .u64 (aLoad false 1 v124 τ211) fun n213 =>
 veq1 (.int .u64 n213) (.int .u64 n125) = true ∧
 om (L b33 1 τ211) fun v214 =>
 veq1 v214 v127 = true ∧
 ldI .u64 (aLoad false 1 v128 τ211) fun n215 =>
 veq1 (.int .u64 n215) (.int .u64 n129) = true ∧
 ldI .u64 (L b13 0 τ211) fun n216 =>
 veq1 (.int .u64 n216) (.int .u64 n136) = true ∧
 pu (aStore 3 (.pointer (some ⟨b210, 0, none⟩)) (.agg #[(.bool false), (.slice (some ⟨b207, 0, none⟩) 2 2), (.slice (some ⟨b201, 0, none⟩) 2 2)]) τ211) fun τ217 =>
 (s_tree_way_split_k11 E Q x0 b210 τ217)))) ∧ (
 wNew τ202 (.cells [(.bool false), (.slice none 0 0), (.slice none 0 0)] t_api_Node false) fun b218 τ219 =>
 om (L b31 1 τ219) fun v220 =>
 veq1 v220 v123 = true ∧
 ldI .u64 (aLoad false 1 v124 τ219) fun n221 =>
 veq1 (.int .u64 n221) (.int .u64 n125) = true ∧
 om (L b33 1 τ219) fun v222 =>
 veq1 v222 v127 = true ∧
 ldI .u64 (aLoad false 1 v128 τ219) fun n223 =>
 veq1 (.int .u64 n223) (.int .u64 n129) = true ∧
 ldI .u64 (L b13 0 τ219) fun n224 =>
 veq1 (.int .u64 n224) (.int .u64 n136) = true ∧
 wNew τ219 (.cells [(.int .u64 n125), (.int .u64 n129)] t_uint64 false) fun b225 τ226 =>
 ldI .u64 (L b13 0 τ226) fun n227 =>
 veq1 (.int .u64 n227) (.int .u64 n136) = true ∧
 On (.slice (some ⟨b225, 0, none⟩) 2 2) (
 On (.slice (some ⟨b201, 0, none⟩) 2 2) (
 pu (aStore 3 (.pointer (some ⟨b218, 0, none⟩)) (.agg #[(.bool false), (.slice (some ⟨b225, 0, none⟩) 2 2), (.slice (some ⟨b201, 0, none⟩) 2 2)]) τ226) fun τ228 =>
 (s_tree_way_split_k11 E Q x0 b218 τ228))))) ∧ (
 wNew τ66 (.cells [(.bool false), (.slice none 0 0), (.slice none 0 0)] t_api_Node false) fun b229 τ230 =>
 om (L b31 1 τ230) fun v231 =>
 veq1 v231 v123 = true ∧
 ldI .u64 (aLoad false 1 v124 τ230) fun n232 =>
 veq1 (.int .u64 n232) (.int .u64 n125) = true ∧
 om (L b33 1 τ230) fun v233 =>
 veq1 v233 v127 = true ∧
 ldI .u64 (aLoad false 1 v128 τ230) fun n234 =>
 veq1 (.int .u64 n234) (.int .u64 n129) = true ∧
 ldI .u64 (L b13 0 τ230) fun n235 =>
 veq1 (.int .u64 n235) (.int .u64 n136) = true ∧
 (
 wNew τ230 (.cells [(.int .u64 n125), (.int .u64 n129)] t_uint64 false) fun b236 τ237 =>
 ldI .u64 (L b13 0 τ237) fun n238 =>
 veq1 (.int .u64 n238) (.int .u64 n136) = true ∧
 wNew τ237 (.cells [(.int .u64 n136), (.int .u64 n61)] t_uint64 false) fun b239 τ240 =>
 om (L b31 1 τ240) fun v241 =>
 veq1 v241 v123 = true ∧
 ldI .u64 (aLoad false 1 v124 τ240) fun n242 =>
 veq1 (.int .u64 n242) (.int .u64 n125) = true ∧
 om (L b33 1 τ240) fun v243 =>
 veq1 v243 v127 = true ∧
 ldI .u64 (aLoad false 1 v128 τ240) fun n244 =>
 veq1 (.int .u64 n244) (.int .u64 n129) = true ∧
 On (.slice (some ⟨b236, 0, none⟩) 2 2) (
 On (.slice (some ⟨b239, 0, none⟩) 2 2) (
 pu (aStore 3 (.pointer (some ⟨b229, 0, none⟩)) (.agg #[(.bool false), (.slice (some ⟨b236, 0, none⟩) 2 2), (.slice (some ⟨b239, 0, none⟩) 2 2)]) τ240) fun τ245 =>
 (s_tree_way_split_k11 E Q x0 b229 τ245)))) ∧ (
 wNew τ230 (.cells [(.int .u64 n136), (.int .u64 n61)] t_uint64 false) fun b246 τ247 =>
 om (L b31 1 τ247) fun v248 =>
 veq1 v248 v123 = true ∧
 ldI .u64 (aLoad false 1 v124 τ247) fun n249 =>
 veq1 (.int .u64 n249) (.int .u64 n125) = true ∧
 om (L b33 1 τ247) fun v250 =>
 veq1 v250 v127 = true ∧
 ldI .u64 (aLoad false 1 v128 τ247) fun n251 =>
 veq1 (.int .u64 n251) (.int .u64 n129) = true ∧
 wNew τ247 (.cells [(.int .u64 n125), (.int .u64 n129)] t_uint64 false) fun b252 τ253 =>
 ldI .u64 (L b13 0 τ253) fun n254 =>
 veq1 (.int .u64 n254) (.int .u64 n136) = true ∧
 On (.slice (some ⟨b252, 0, none⟩) 2 2) (
 On (.slice (some ⟨b246, 0, none⟩) 2 2) (
 pu (aStore 3 (.pointer (some ⟨b229, 0, none⟩)) (.agg #[(.bool false), (.slice (some ⟨b252, 0, none⟩) 2 2), (.slice (some ⟨b246, 0, none⟩) 2 2)]) τ253) fun τ255 =>
 (s_tree_way_split_k11 E Q x0 b229 τ255))))))))) v62) v60))))
theorem q_tree_way_split (E : EvT) (Q : RK) (x0 : Nat) (x1 : Int) (σ : AHeap) : xfn P E Tryz.f80 (hl [(1, .ord [(0, []), (1, []), (2, []), (3, []), (4, []), (5, []), (6, []), (7, []), (8, []), (9, []), (10, [])]), (3, .ord [(0, []), (1, []), (2, []), (3, []), (4, []), (5, []), (6, []), (7, []), (8, []), (9, []), (10, []), (11, []), (12, []), (13, []), (14, [])]), (4, .tree (.step 0 [] (.step 1 [] (.step 2 [] (.step 3 [] (.step 4 [] (.step 5 [] (.step 6 [] (.step 7 [] (.step 9 [] (.step 10 [] (.step 11 [] (.alt (.step 8 [10] (.alt (.step 12 [1, 3, 5, 7] (.step 13 [] (.step 14 [1, 3, 5, 7, 10] (.step 15 [] .nil)))) (.step 14 [1, 3, 5, 7, 10] (.step 12 [1, 3, 5, 7] (.step 13 [] (.step 15 [] .nil)))))) (.alt (.step 12 [1, 3, 5, 7] (.alt (.step 8 [10] (.step 13 [] (.step 14 [1, 3, 5, 7, 10] (.step 15 [] .nil)))) (.step 14 [1, 3, 5, 7, 10] (.step 8 [10] (.step 13 [] (.step 15 [] .nil)))))) (.step 14 [1, 3, 5, 7, 10] (.alt (.step 8 [10] (.step 12 [1, 3, 5, 7] (.step 13 [] (.step 15 [] .nil)))) (.step 12 [1, 3, 5, 7] (.step 8 [10] (.step 13 [] (.step 15 [] .nil)))))))))))))))))))), (5, .ord [(0, []), (1, []), (2, []), (3, []), (4, []), (5, []), (6, []), (7, []), (8, []), (9, []), (10, [])]), (6, .ord [(0, []), (1, []), (2, []), (3, []), (5, []), (6, []), (7, []), (8, []), (4, [8]), (9, []), (10, []), (11, []), (12, [])])]) (fun _ => .v) [(.pointer (some ⟨x0, 0, none⟩)), (.int .i64 x1)] σ Q = s_tree_way_split E Q x0 x1 σ := by kernel_rfl
theorem e_tree_way_split {Q : RK} {x0 : Nat} {x1 : Int} {σ : AHeap} (h : s_tree_way_split E Q x0 x1 σ) : E f_tree_way_split [(.pointer (some ⟨x0, 0, none⟩)), (.int .i64 x1)] σ Q :=
  exfn Tryz.func80 _ _ (by kernel_rfl) (Eq.mpr (q_tree_way_split E Q x0 x1 σ) h)
def s_tree_Insert_k17 (E : EvT) (Q : RK) (v217 : Value) (b228 : Nat) (c233 : Bool) (b242 b254 b264 : Nat) (τ216 : AHeap) : Prop :=
 E f_tree_way_up [v217, (.func (.func f_tree_way_split) #[v217] #[])] τ216 (c0 Q fun τ218 =>
 om (aNil v217) fun v221 =>
 om (aFieldAddr 1 v221) fun v222 =>
 om (aLoad false 1 v222 τ218) fun v223 =>
 om (aIndexAddr 5 v223 (.int .i64 0)) fun v224 =>
 om (aFieldAddr 0 v224) fun v225 =>
 ldI .u64 (aLoad false 1 v225 τ218) fun n226 =>
 ldI .u64 (L b228 0 τ218) fun n230 =>
 St b242 0 (.int .u64 n226) τ218 fun τ244 =>
 ldI .u64 (L b228 0 τ244) fun n245 =>
 veq1 (.int .u64 n245) (.int .u64 n230) = true ∧
 St b228 0 (.int .u64 n230) τ244 fun τ246 =>
 St b254 0 (.bool c233) τ246 fun τ256 =>
 St b264 0 (.int .i64 0) τ256 fun τ266 =>
 Q (.ret (.tuple #[])) τ266)
def s_tree_Insert_k7 (E : EvT) (Q : RK) (n78 : Int) (b86 : Nat) (n94 n100 : Int) (b109 b112 b122 b127 : Nat) (τ71 : AHeap) : Prop :=
 If (decide (n78 = 0)) (
 wNew τ71 (.cells [(.int .u64 n94)] t_uint64 false) fun b96 τ97 =>
 wNew τ97 (.cells [(.int .u64 n100)] t_uint64 false) fun b102 τ103 =>
 On (.slice (some ⟨b96, 0, none⟩) 1 1) (
 On (.slice (some ⟨b102, 0, none⟩) 1 1) (
 E f_tree_Shelf_Make [(.pointer (some ⟨b86, 0, none⟩)), (.agg #[(.bool true), (.slice (some ⟨b96, 0, none⟩) 1 1), (.slice (some ⟨b102, 0, none⟩) 1 1)])] τ103 (c2 Q fun v105 v107 τ104 =>
 tI .u64 (fun n106 =>
 tI .i64 (fun n108 =>
 St b109 0 (.int .u64 n106) τ104 fun τ111 =>
 St b112 0 (.int .i64 n108) τ111 fun τ114 =>
 ldI .u64 (L b109 0 τ114) fun n117 =>
 ldI .i64 (L b112 0 τ114) fun n119 =>
 St b109 0 (.int .u64 n117) τ114 fun τ120 =>
 ldI .i64 (L b112 0 τ120) fun n121 =>
 veq1 (.int .i64 n121) (.int .i64 n119) = true ∧
 St b122 0 (.int .u64 0) τ120 fun τ125 =>
 ldI .i64 (L b112 0 τ125) fun n126 =>
 veq1 (.int .i64 n126) (.int .i64 n119) = true ∧
 St b127 0 (.bool false) τ125 fun τ130 =>
 ldI .i64 (L b112 0 τ130) fun n131 =>
 veq1 (.int .i64 n131) (.int .i64 n119) = true ∧
 St b112 0 (.int .i64 n119) τ130 fun τ132 =>
 Q (.ret (.tuple #[])) τ132) v107) v105)))) (
 E f_tree_down [(.pointer (some ⟨b86, 0, none⟩)), (.int .u64 n78), (.int .u64 n94), (.bool true)] τ71 (cV Q fun v139 τ138 =>
 om (aNil v139) fun v142 =>
 om (aFieldAddr 1 v142) fun v143 =>
 om (aLoad false 1 v143 τ138) fun v144 =>
 ldI .i64 (lenS v144) fun n145 =>
 Bi (w64 (n145 - 1)) fun n146 =>
 om (aNil v139) fun v149 =>
 om (aFieldAddr 1 v149) fun v150 =>
 om (aLoad false 1 v150 τ138) fun v151 =>
 om (aIndexAddr 5 v151 (.int .i64 n146)) fun v153 =>
 om (aFieldAddr 1 v153) fun v154 =>
 om (aFieldAddr 0 v154) fun v155 =>
 ldB (aLoad false 1 v155 τ138) fun c156 =>
 om (aFieldAddr 1 v154) fun v157 =>
 om (aLoad false 1 v157 τ138) fun v158 =>
 om (aFieldAddr 2 v154) fun v159 =>
 om (aLoad false 1 v159 τ138) fun v160 =>
 wNew τ138 (.cells [(.bool false), (.slice none 0 0), (.slice none 0 0)] t_api_Node false) fun b161 τ162 =>
 pu (aStore 3 (.pointer (some ⟨b161, 0, none⟩)) (.agg #[(.bool c156), v158, v160]) τ162) fun τ163 =>
 ldB (L b161 0 τ163) fun c166 =>
 om (L b161 1 τ163) fun v167 =>
 om (L b161 2 τ163) fun v168 =>
 E f_knot_Find [(.agg #[(.bool c166), v167, v168]), (.int .u64 n94)] τ163 (c2 Q fun v173 v175 τ172 =>
 tI .i64 (fun n174 =>
 tB (fun c176 =>
 If c176 (
 om (L b161 2 τ172) fun v183 =>
 om (aIndexAddr 1 v183 (.int .i64 n174)) fun v186 =>
 ldI .u64 (aLoad false 1 v186 τ172) fun n187 =>
 St b122 0 (.int .u64 n187) τ172 fun τ194 =>
 E f_tree_way_set [v139, (.int .i64 n146), (.int .i64 n174), (.int .u64 n94), (.int .u64 n100)] τ194 (c0 Q fun τ215 =>
 (s_tree_Insert_k17 E Q v139 b122 c176 b109 b127 b112 τ215))) (
 ldB (L b161 0 τ172) fun c267 =>
 om (L b161 1 τ172) fun v268 =>
 om (L b161 2 τ172) fun v269 =>
 E f_knot_Insert [(.agg #[(.bool c267), v268, v269]), (.int .i64 n174), (.int .u64 n94), (.int .u64 n100)] τ172 (cV Q fun v271 τ270 =>
 E f_tree_way_save [v139, (.int .i64 n146), v271] τ270 (c0 Q fun τ272 =>
 (s_tree_Insert_k17 E Q v139 b122 c176 b109 b127 b112 τ272))))) v175) v173)))
def s_tree_Insert (E : EvT) (Q : RK) (x0 : Nat) (x1 x2 x3 : Int) (σ : AHeap) : Prop :=
 wNew σ (.cells [(.int .u64 0)] t_uint64 false) fun b1 τ2 =>
 wNew τ2 (.cells [(.int .u64 0)] t_uint64 false) fun b3 τ4 =>
 wNew τ4 (.cells [(.bool false)] t_bool false) fun b5 τ6 =>
 wNew τ6 (.cells [(.int .i64 0)] t_api_Errno false) fun b7 τ8 =>
 E f_tree_Shelf_right [(.pointer (some ⟨x0, 0, none⟩)), (.int .u64 0)] τ8 (cI Q .i64 fun n12 τ11 =>
 If (!decide (n12 = 0)) (
 St b1 0 (.int .u64 0) τ11 fun τ21 =>
 St b3 0 (.int .u64 0) τ21 fun τ25 =>
 St b5 0 (.bool false) τ25 fun τ29 =>
 St b7 0 (.int .i64 n12) τ29 fun τ33 =>
 pu (aLoad false 1 (.pointer (some ⟨b1, 0, none⟩)) τ33) fun v34 =>
 pu (aLoad false 1 (.pointer (some ⟨b3, 0, none⟩)) τ33) fun v35 =>
 pu (aLoad false 1 (.pointer (some ⟨b5, 0, none⟩)) τ33) fun v36 =>
 pu (aLoad false 1 (.pointer (some ⟨b7, 0, none⟩)) τ33) fun v37 =>
 Q (.ret (.tuple #[v34, v35, v36, v37])) τ33) (
 If (decide (x3 = 0)) (
 St b1 0 (.int .u64 0) τ11 fun τ47 =>
 St b3 0 (.int .u64 0) τ47 fun τ50 =>
 St b5 0 (.bool false) τ50 fun τ53 =>
 St b7 0 (.int .i64 1) τ53 fun τ56 =>
 pu (aLoad false 1 (.pointer (some ⟨b1, 0, none⟩)) τ56) fun v57 =>
 pu (aLoad false 1 (.pointer (some ⟨b3, 0, none⟩)) τ56) fun v58 =>
 pu (aLoad false 1 (.pointer (some ⟨b5, 0, none⟩)) τ56) fun v59 =>
 pu (aLoad false 1 (.pointer (some ⟨b7, 0, none⟩)) τ56) fun v60 =>
 Q (.ret (.tuple #[v57, v58, v59, v60])) τ56) (
 (s_tree_Insert_k7 E (qd P f_tree_Insert_c1 [(.pointer (some ⟨b1, 0, none⟩)), (.pointer (some ⟨b3, 0, none⟩)), (.pointer (some ⟨b5, 0, none⟩)), (.pointer (some ⟨b7, 0, none⟩))] fun τ66 =>
 pu (aLoad false 1 (.pointer (some ⟨b1, 0, none⟩)) τ66) fun v67 =>
 pu (aLoad false 1 (.pointer (some ⟨b3, 0, none⟩)) τ66) fun v68 =>
 pu (aLoad false 1 (.pointer (some ⟨b5, 0, none⟩)) τ66) fun v69 =>
 pu (aLoad false 1 (.pointer (some ⟨b7, 0, none⟩)) τ66) fun v70 =>
 Q (.ret (.tuple #[v67, v68, v69, v70])) τ66) x1 x0 x2 x3 b1 b7 b3 b5 τ11))))
theorem q_tree_Insert (E : EvT) (Q : RK) (x0 : Nat) (x1 x2 x3 : Int) (σ : AHeap) : xfnD P E Tryz.f24 (hl [(3, .ord [(0, []), (1, []), (2, [1]), (3, [1]), (4, [1]), (5, [])]), (5, .ord [(0, []), (1, []), (2, []), (3, []), (4, []), (5, []), (6, []), (7, []), (8, []), (9, [7]), (10, []), (11, []), (12, [])])]) (fun _ => .v) [(.pointer (some ⟨x0, 0, none⟩)), (.int .u64 x1), (.int .u64 x2), (.int .u64 x3)] σ Q = s_tree_Insert E Q x0 x1 x2 x3 σ := by kernel_rfl
theorem e_tree_Insert {Q : RK} {x0 : Nat} {x1 x2 x3 : Int} {σ : AHeap} (h : s_tree_Insert E Q x0 x1 x2 x3 σ) : E f_tree_Insert [(.pointer (some ⟨x0, 0, none⟩)), (.int .u64 x1), (.int .u64 x2), (.int .u64 x3)] σ Q :=
  exfnD Tryz.func24 _ _ (by kernel_rfl) (Eq.mpr (q_tree_Insert E Q x0 x1 x2 x3 σ) h)
def s_tree_Insert_c1 (E : EvT) (Q : RK) (x0 x1 x2 x3 : Nat) (rv : Option Value) (σ : AHeap) : Prop :=
 E f_tree_told [(rv.getD .nilIface)] σ (cI Q .i64 fun n2 τ1 =>
 If (!decide (n2 = 0)) (
 St x0 0 (.int .u64 0) τ1 fun τ7 =>
 St x1 0 (.int .u64 0) τ7 fun τ9 =>
 St x2 0 (.bool false) τ9 fun τ11 =>
 St x3 0 (.int .i64 n2) τ11 fun τ13 =>
 Q (.ret (.tuple #[])) τ13) (
 Q (.ret (.tuple #[])) τ1))
theorem q_tree_Insert_c1 (E : EvT) (K : AHeap → Prop) (x0 x1 x2 x3 : Nat) (rv : Option Value) (σ : AHeap) : xclo P E Tryz.f72 (fun _ => none) (fun _ => .v) [(.pointer (some ⟨x0, 0, none⟩)), (.pointer (some ⟨x1, 0, none⟩)), (.pointer (some ⟨x2, 0, none⟩)), (.pointer (some ⟨x3, 0, none⟩))] rv σ K = s_tree_Insert_c1 E (kq K) x0 x1 x2 x3 rv σ := by kernel_rfl
theorem e_tree_Insert_c1 {K : AHeap → Prop} {x0 x1 x2 x3 : Nat} {rv : Option Value} {σ : AHeap} (h : s_tree_Insert_c1 E (kq K) x0 x1 x2 x3 rv σ) : Dv P f_tree_Insert_c1 [(.pointer (some ⟨x0, 0, none⟩)), (.pointer (some ⟨x1, 0, none⟩)), (.pointer (some ⟨x2, 0, none⟩)), (.pointer (some ⟨x3, 0, none⟩))] rv σ K :=
  exclo Tryz.func72 _ _ (by kernel_rfl) (Eq.mpr (q_tree_Insert_c1 E K x0 x1 x2 x3 rv σ) h)
def s_tree_way_fill_k18 (E : EvT) (Q : RK) (b281 b284 b308 : Nat) (n352 : Int) (b363 : Nat) (n373 n394 : Int) (τ280 : AHeap) : Prop :=
 om (L b281 2 τ280) fun v282 =>
 ldI .i64 (lenS v282) fun n283 =>
 om (L b284 2 τ280) fun v285 =>
 ldI .i64 (lenS v285) fun n286 =>
 Bi (w64 (n283 + n286)) fun n287 =>
 If (decide (n287 ≤ 8)) (
 ldB (L b281 1 τ280) fun c291 =>
 om (L b281 2 τ280) fun v292 =>
 om (L b281 3 τ280) fun v293 =>
 ldB (L b284 1 τ280) fun c295 =>
 om (L b284 2 τ280) fun v296 =>
 om (L b284 3 τ280) fun v297 =>
 E f_knot_Join [(.agg #[(.bool c291), v292, v293]), (.agg #[(.bool c295), v296, v297])] τ280 (cV Q fun v299 τ298 =>
 wNew τ298 (.cells [(.bool false), (.slice none 0 0), (.slice none 0 0)] t_api_Node false) fun b300 τ301 =>
 pu (aStore 3 (.pointer (some ⟨b300, 0, none⟩)) v299 τ301) fun τ302 =>
 om (L b308 0 τ302) fun v311 =>
 ldI .u64 (L b281 0 τ302) fun n313 =>
 ldB (L b300 0 τ302) fun c315 =>
 om (L b300 1 τ302) fun v316 =>
 om (L b300 2 τ302) fun v317 =>
 E f_tree_Shelf_Save [v311, (.int .u64 n313), (.agg #[(.bool c315), v316, v317])] τ302 (cI Q .i64 fun n319 τ318 =>
 E f_tree_must [(.int .i64 n319)] τ318 (c0 Q fun τ320 =>
 om (L b308 0 τ320) fun v323 =>
 om (aNil v323) fun v324 =>
 om (aFieldAddr 0 v324) fun v325 =>
 om (aLoad false 1 v325 τ320) fun v326 =>
 ldI .u64 (L b284 0 τ320) fun n329 =>
 Bi (w64 (n329)) fun n330 =>
 E f_refs_Refs_Dec [v326, (.int .i64 n330)] τ320 (c2 Q fun v332 v334 τ331 =>
 tB (fun c333 =>
 tI .i64 (fun n335 =>
 E f_tree_must [(.int .i64 n335)] τ331 (c0 Q fun τ338 =>
 Bi (w64 (n352 - 1)) fun n358 =>
 ldB (L b363 1 τ338) fun c369 =>
 om (L b363 2 τ338) fun v370 =>
 om (L b363 3 τ338) fun v371 =>
 om (L b300 1 τ338) fun v382 =>
 om (aIndexAddr 1 v382 (.int .i64 0)) fun v383 =>
 ldI .u64 (aLoad false 1 v383 τ338) fun n384 =>
 ldI .u64 (L b281 0 τ338) fun n388 =>
 E f_knot_Set [(.agg #[(.bool c369), v370, v371]), (.int .i64 n373), (.int .u64 n384), (.int .u64 n388)] τ338 (cV Q fun v401 τ400 =>
 E f_knot_Remove [v401, (.int .i64 n394)] τ400 (cV Q fun v403 τ402 =>
 E f_tree_way_save [(.pointer (some ⟨b308, 0, none⟩)), (.int .i64 n358), v403] τ402 (c0 Q fun τ404 =>
 Q (.ret (.tuple #[])) τ404))))) v334) v332))))) (
 ldB (L b281 1 τ280) fun c407 =>
 om (L b281 2 τ280) fun v408 =>
 om (L b281 3 τ280) fun v409 =>
 ldB (L b284 1 τ280) fun c411 =>
 om (L b284 2 τ280) fun v412 =>
 om (L b284 3 τ280) fun v413 =>
 E f_knot_Even [(.agg #[(.bool c407), v408, v409]), (.agg #[(.bool c411), v412, v413])] τ280 (c2 Q fun v415 v416 τ414 =>
 wNew τ414 (.cells [(.bool false), (.slice none 0 0), (.slice none 0 0)] t_api_Node false) fun b417 τ418 =>
 wNew τ418 (.cells [(.bool false), (.slice none 0 0), (.slice none 0 0)] t_api_Node false) fun b419 τ420 =>
 pu (aStore 3 (.pointer (some ⟨b417, 0, none⟩)) v415 τ420) fun τ421 =>
 pu (aStore 3 (.pointer (some ⟨b419, 0, none⟩)) v416 τ421) fun τ422 =>
 om (L b308 0 τ422) fun v426 =>
 ldI .u64 (L b281 0 τ422) fun n428 =>
 ldB (L b417 0 τ422) fun c430 =>
 om (L b417 1 τ422) fun v431 =>
 om (L b417 2 τ422) fun v432 =>
 E f_tree_Shelf_Save [v426, (.int .u64 n428), (.agg #[(.bool c430), v431, v432])] τ422 (cI Q .i64 fun n434 τ433 =>
 E f_tree_must [(.int .i64 n434)] τ433 (c0 Q fun τ435 =>
 om (L b308 0 τ435) fun v438 =>
 ldI .u64 (L b284 0 τ435) fun n441 =>
 ldB (L b419 0 τ435) fun c444 =>
 om (L b419 1 τ435) fun v445 =>
 om (L b419 2 τ435) fun v446 =>
 E f_tree_Shelf_Save [v438, (.int .u64 n441), (.agg #[(.bool c444), v445, v446])] τ435 (cI Q .i64 fun n448 τ447 =>
 E f_tree_must [(.int .i64 n448)] τ447 (c0 Q fun τ449 =>
 Bi (w64 (n352 - 1)) fun n456 =>
 ldB (L b363 1 τ449) fun c461 =>
 om (L b363 2 τ449) fun v462 =>
 om (L b363 3 τ449) fun v463 =>
 om (L b417 1 τ449) fun v470 =>
 om (aIndexAddr 1 v470 (.int .i64 0)) fun v471 =>
 ldI .u64 (aLoad false 1 v471 τ449) fun n472 =>
 ldI .u64 (L b281 0 τ449) fun n475 =>
 om (L b419 1 τ449) fun v481 =>
 om (aIndexAddr 1 v481 (.int .i64 0)) fun v482 =>
 ldI .u64 (aLoad false 1 v482 τ449) fun n483 =>
 ldI .u64 (L b284 0 τ449) fun n485 =>
 E f_knot_Set [(.agg #[(.bool c461), v462, v463]), (.int .i64 n373), (.int .u64 n472), (.int .u64 n475)] τ449 (cV Q fun v487 τ486 =>
 om (L b419 1 τ486) fun v488 =>
 veq1 v488 v481 = true ∧
 ldI .u64 (aLoad false 1 v482 τ486) fun n489 =>
 veq1 (.int .u64 n489) (.int .u64 n483) = true ∧
 ldI .u64 (L b284 0 τ486) fun n490 =>
 veq1 (.int .u64 n490) (.int .u64 n485) = true ∧
 E f_knot_Set [v487, (.int .i64 n394), (.int .u64 n483), (.int .u64 n485)] τ486 (cV Q fun v492 τ491 =>
 E f_tree_way_save [(.pointer (some ⟨b308, 0, none⟩)), (.int .i64 n456), v492] τ491 (c0 Q fun τ493 =>
 Q (.ret (.tuple #[])) τ493)))))))))
def s_tree_way_fill_k16 (E : EvT) (Q : RK) (n257 n261 : Int) (b264 b271 b306 : Nat) (n350 : Int) (b361 : Nat) (n392 : Int) (τ254 : AHeap) : Prop :=
 If (decide (n257 = n261)) (
 ldI .u64 (L b264 0 τ254) fun n266 =>
 ldB (L b264 1 τ254) fun c267 =>
 om (L b264 2 τ254) fun v268 =>
 om (L b264 3 τ254) fun v269 =>
 ldI .i64 (L b264 4 τ254) fun n270 =>
 ldI .u64 (L b271 0 τ254) fun n273 =>
 ldB (L b271 1 τ254) fun c274 =>
 om (L b271 2 τ254) fun v275 =>
 om (L b271 3 τ254) fun v276 =>
 ldI .i64 (L b271 4 τ254) fun n277 =>
 pu (aStore 5 (.pointer (some ⟨b271, 0, none⟩)) (.agg #[(.int .u64 n266), (.bool c267), v268, v269, (.int .i64 n270)]) τ254) fun τ278 =>
 pu (aStore 5 (.pointer (some ⟨b264, 0, none⟩)) (.agg #[(.int .u64 n273), (.bool c274), v275, v276, (.int .i64 n277)]) τ278) fun τ279 =>
 (s_tree_way_fill_k18 E Q b271 b264 b306 n350 b361 n261 n392 τ279)) (
 (s_tree_way_fill_k18 E Q b271 b264 b306 n350 b361 n261 n392 τ254))
def s_tree_way_fill_k14 (E : EvT) (Q : RK) (n207 : Int) (b218 : Nat) (n224 : Int) (b226 : Nat) (n255 n259 : Int) (b304 : Nat) (n348 : Int) (b359 : Nat) (n390 : Int) (τ206 : AHeap) : Prop :=
 E f_tree_must [(.int .i64 n207)] τ206 (c0 Q fun τ208 =>
 ldI .u64 (L b218 0 τ208) fun n220 =>
 ldB (L b218 1 τ208) fun c221 =>
 om (L b218 2 τ208) fun v222 =>
 om (L b218 3 τ208) fun v223 =>
 ldB (L b226 0 τ208) fun c228 =>
 om (L b226 1 τ208) fun v229 =>
 om (L b226 2 τ208) fun v230 =>
 (
 wNew τ208 (.cells [(.int .u64 0), (.bool false), (.slice none 0 0), (.slice none 0 0), (.int .i64 0)] t_tree_step false) fun b231 τ232 =>
 ldI .u64 (L b218 0 τ232) fun n233 =>
 veq1 (.int .u64 n233) (.int .u64 n220) = true ∧
 ldB (L b218 1 τ232) fun c234 =>
 om (L b218 2 τ232) fun v235 =>
 om (L b218 3 τ232) fun v236 =>
 veq1 (.agg #[(.bool c234), v235, v236]) (.agg #[(.bool c221), v222, v223]) = true ∧
 ldB (L b226 0 τ232) fun c237 =>
 om (L b226 1 τ232) fun v238 =>
 om (L b226 2 τ232) fun v239 =>
 veq1 (.agg #[(.bool c237), v238, v239]) (.agg #[(.bool c228), v229, v230]) = true ∧
 wNew τ232 (.cells [(.int .u64 0), (.bool false), (.slice none 0 0), (.slice none 0 0), (.int .i64 0)] t_tree_step false) fun b240 τ241 =>
 ldI .u64 (L b218 0 τ241) fun n242 =>
 veq1 (.int .u64 n242) (.int .u64 n220) = true ∧
 ldB (L b218 1 τ241) fun c243 =>
 om (L b218 2 τ241) fun v244 =>
 om (L b218 3 τ241) fun v245 =>
 veq1 (.agg #[(.bool c243), v244, v245]) (.agg #[(.bool c221), v222, v223]) = true ∧
 ldB (L b226 0 τ241) fun c246 =>
 om (L b226 1 τ241) fun v247 =>
 om (L b226 2 τ241) fun v248 =>
 veq1 (.agg #[(.bool c246), v247, v248]) (.agg #[(.bool c228), v229, v230]) = true ∧
 pu (aStore 5 (.pointer (some ⟨b231, 0, none⟩)) (.agg #[(.int .u64 n220), (.bool c221), v222, v223, (.int .i64 0)]) τ241) fun τ249 =>
 ldB (L b226 0 τ249) fun c250 =>
 om (L b226 1 τ249) fun v251 =>
 om (L b226 2 τ249) fun v252 =>
 veq1 (.agg #[(.bool c250), v251, v252]) (.agg #[(.bool c228), v229, v230]) = true ∧
 pu (aStore 5 (.pointer (some ⟨b240, 0, none⟩)) (.agg #[(.int .u64 n224), (.bool c228), v229, v230, (.int .i64 0)]) τ249) fun τ253 =>
 (s_tree_way_fill_k16 E Q n255 n259 b240 b231 b304 n348 b359 n390 τ253)) ∧ (
 wNew τ208 (.cells [(.int .u64 0), (.bool false), (.slice none 0 0), (.slice none 0 0), (.int .i64 0)] t_tree_step false) fun b494 τ495 =>
 ldI .u64 (L b218 0 τ495) fun n496 =>
 veq1 (.int .u64 n496) (.int .u64 n220) = true ∧
 ldB (L b218 1 τ495) fun c497 =>
 om (L b218 2 τ495) fun v498 =>
 om (L b218 3 τ495) fun v499 =>
 veq1 (.agg #[(.bool c497), v498, v499]) (.agg #[(.bool c221), v222, v223]) = true ∧
 ldB (L b226 0 τ495) fun c500 =>
 om (L b226 1 τ495) fun v501 =>
 om (L b226 2 τ495) fun v502 =>
 veq1 (.agg #[(.bool c500), v501, v502]) (.agg #[(.bool c228), v229, v230]) = true ∧
 wNew τ495 (.cells [(.int .u64 0), (.bool false), (.slice none 0 0), (.slice none 0 0), (.int .i64 0)] t_tree_step false) fun b503 τ504 =>
 ldI .u64 (L b218 0 τ504) fun n505 =>
 veq1 (.int .u64 n505) (.int .u64 n220) = true ∧
 ldB (L b218 1 τ504) fun c506 =>
 om (L b218 2 τ504) fun v507 =>
 om (L b218 3 τ504) fun v508 =>
 veq1 (.agg #[(.bool c506), v507, v508]) (.agg #[(.bool c221), v222, v223]) = true ∧
 ldB (L b226 0 τ504) fun c509 =>
 om (L b226 1 τ504) fun v510 =>
 om (L b226 2 τ504) fun v511 =>
 veq1 (.agg #[(.bool c509), v510, v511]) (.agg #[(.bool c228), v229, v230]) = true ∧
 pu (aStore 5 (.pointer (some ⟨b503, 0, none⟩)) (.agg #[(.int .u64 n220), (.bool c221), v222, v223, (.int .i64 0)]) τ504) fun τ512 =>
 ldB (L b226 0 τ512) fun c513 =>
 om (L b226 1 τ512) fun v514 =>
 om (L b226 2 τ512) fun v515 =>
 veq1 (.agg #[(.bool c513), v514, v515]) (.agg #[(.bool c228), v229, v230]) = true ∧
 pu (aStore 5 (.pointer (some ⟨b494, 0, none⟩)) (.agg #[(.int .u64 n224), (.bool c228), v229, v230, (.int .i64 0)]) τ512) fun τ516 =>
 (s_tree_way_fill_k16 E Q n255 n259 b494 b503 b304 n348 b359 n390 τ516)))
def s_tree_way_fill_k11 (E : EvT) (Q : RK) (b170 : Nat) (n171 n177 : Int) (b181 b215 : Nat) (n345 : Int) (τ166 : AHeap) : Prop :=
 E f_tree_way_pair [(.pointer (some ⟨b170, 0, none⟩)), (.int .i64 n171)] τ166 (cI Q .i64 fun n173 τ172 =>
 E f_tree_must [(.int .i64 n173)] τ172 (c0 Q fun τ174 =>
 Bi (w64 (n171 + n177)) fun n179 =>
 ldI .i64 (L b181 4 τ174) fun n183 =>
 Bi (w64 (n179 - n183)) fun n184 =>
 om (L b170 0 τ174) fun v188 =>
 om (L b181 3 τ174) fun v190 =>
 om (aIndexAddr 1 v190 (.int .i64 n184)) fun v192 =>
 ldI .u64 (aLoad false 1 v192 τ174) fun n193 =>
 (
 E f_tree_Shelf_Shadow [v188, (.int .u64 n193)] τ174 (c3 Q fun v195 v197 v198 τ194 =>
 tI .u64 (fun n196 =>
 tI .i64 (fun n199 =>
 wNew τ194 (.cells [(.bool false), (.slice none 0 0), (.slice none 0 0)] t_api_Node false) fun b200 τ201 =>
 om (L b170 0 τ201) fun v202 =>
 veq1 v202 v188 = true ∧
 om (L b181 3 τ201) fun v203 =>
 veq1 v203 v190 = true ∧
 ldI .u64 (aLoad false 1 v192 τ201) fun n204 =>
 veq1 (.int .u64 n204) (.int .u64 n193) = true ∧
 pu (aStore 3 (.pointer (some ⟨b200, 0, none⟩)) v197 τ201) fun τ205 =>
 (s_tree_way_fill_k14 E Q n199 b215 n196 b200 n184 n171 b170 n345 b181 n177 τ205)) v198) v195)) ∧ (
 wNew τ174 (.cells [(.bool false), (.slice none 0 0), (.slice none 0 0)] t_api_Node false) fun b517 τ518 =>
 om (L b170 0 τ518) fun v519 =>
 veq1 v519 v188 = true ∧
 om (L b181 3 τ518) fun v520 =>
 veq1 v520 v190 = true ∧
 ldI .u64 (aLoad false 1 v192 τ518) fun n521 =>
 veq1 (.int .u64 n521) (.int .u64 n193) = true ∧
 E f_tree_Shelf_Shadow [v188, (.int .u64 n193)] τ518 (c3 Q fun v523 v525 v526 τ522 =>
 tI .u64 (fun n524 =>
 tI .i64 (fun n527 =>
 pu (aStore 3 (.pointer (some ⟨b517, 0, none⟩)) v525 τ522) fun τ528 =>
 (s_tree_way_fill_k14 E Q n527 b215 n524 b517 n184 n171 b170 n345 b181 n177 τ528)) v526) v523))))
def s_tree_way_fill_k5 (E : EvT) (Q : RK) (b122 b128 : Nat) (n132 : Int) (b147 : Nat) (τ121 : AHeap) : Prop :=
 om (L b122 2 τ121) fun v123 =>
 ldI .i64 (lenS v123) fun n124 =>
 If (decide (4 ≤ n124)) (
 Q (.ret (.tuple #[])) τ121) (
 om (L b128 1 τ121) fun v131 =>
 Bi (w64 (n132 - 1)) fun n135 =>
 om (aIndexAddr 5 v131 (.int .i64 n135)) fun v136 =>
 om (aFieldAddr 0 v136) fun v137 =>
 ldI .u64 (aLoad false 1 v137 τ121) fun n138 =>
 om (aFieldAddr 1 v136) fun v139 =>
 ldB (aLoad false 1 v139 τ121) fun c140 =>
 om (aFieldAddr 2 v136) fun v141 =>
 om (aLoad false 1 v141 τ121) fun v142 =>
 om (aFieldAddr 3 v136) fun v143 =>
 om (aLoad false 1 v143 τ121) fun v144 =>
 om (aFieldAddr 4 v136) fun v145 =>
 ldI .i64 (aLoad false 1 v145 τ121) fun n146 =>
 pu (aStore 5 (.pointer (some ⟨b147, 0, none⟩)) (.agg #[(.int .u64 n138), (.bool c140), v142, v144, (.int .i64 n146)]) τ121) fun τ150 =>
 ldI .i64 (L b147 4 τ150) fun n153 =>
 ldI .i64 (L b147 4 τ150) fun n154 =>
 Bi (w64 (n154 + 1)) fun n155 =>
 om (L b147 2 τ150) fun v159 =>
 ldI .i64 (lenS v159) fun n160 =>
 If (decide (n155 = n160)) (
 Bi (w64 (n153 - 1)) fun n165 =>
 (s_tree_way_fill_k11 E Q b128 n165 n153 b147 b122 n132 τ150)) (
 (s_tree_way_fill_k11 E Q b128 n153 n155 b147 b122 n132 τ150)))
def s_tree_way_fill_k4 (E : EvT) (Q : RK) (c107 : Bool) (b109 : Nat) (n111 : Int) (b113 b115 : Nat) (τ106 : AHeap) : Prop :=
 If c107 (
 Bi (w64 (n111 - 1)) fun n112 =>
 ldI .i64 (L b113 4 τ106) fun n114 =>
 om (L b115 2 τ106) fun v116 =>
 om (aIndexAddr 1 v116 (.int .i64 0)) fun v117 =>
 ldI .u64 (aLoad false 1 v117 τ106) fun n118 =>
 ldI .u64 (L b115 0 τ106) fun n119 =>
 E f_tree_way_set [(.pointer (some ⟨b109, 0, none⟩)), (.int .i64 n112), (.int .i64 n114), (.int .u64 n118), (.int .u64 n119)] τ106 (c0 Q fun τ120 =>
 (s_tree_way_fill_k5 E Q b115 b109 n111 b113 τ120))) (
 (s_tree_way_fill_k5 E Q b115 b109 n111 b113 τ106))
def s_tree_way_fill_k3 (E : EvT) (Q : RK) (b95 b98 b108 : Nat) (n110 : Int) (τ94 : AHeap) : Prop :=
 om (L b95 2 τ94) fun v96 =>
 ldI .i64 (lenS v96) fun n97 =>
 If (decide (0 < n97)) (
 om (L b98 2 τ94) fun v99 =>
 ldI .i64 (L b98 4 τ94) fun n100 =>
 om (aIndexAddr 1 v99 (.int .i64 n100)) fun v101 =>
 ldI .u64 (aLoad false 1 v101 τ94) fun n102 =>
 om (L b95 2 τ94) fun v103 =>
 om (aIndexAddr 1 v103 (.int .i64 0)) fun v104 =>
 ldI .u64 (aLoad false 1 v104 τ94) fun n105 =>
 (s_tree_way_fill_k4 E Q (!decide (n102 = n105)) b108 n110 b98 b95 τ94)) (
 (s_tree_way_fill_k4 E Q false b108 n110 b98 b95 τ94))
def s_tree_way_fill (E : EvT) (Q : RK) (x0 : Nat) (x1 : Int) (σ : AHeap) : Prop :=
 If (decide (x1 = 0)) (
 Q (.ret (.tuple #[])) σ) (
 om (L x0 1 σ) fun v6 =>
 om (aIndexAddr 5 v6 (.int .i64 x1)) fun v9 =>
 om (aFieldAddr 0 v9) fun v10 =>
 ldI .u64 (aLoad false 1 v10 σ) fun n11 =>
 om (aFieldAddr 1 v9) fun v12 =>
 ldB (aLoad false 1 v12 σ) fun c13 =>
 om (aFieldAddr 2 v9) fun v14 =>
 om (aLoad false 1 v14 σ) fun v15 =>
 om (aFieldAddr 3 v9) fun v16 =>
 om (aLoad false 1 v16 σ) fun v17 =>
 om (aFieldAddr 4 v9) fun v18 =>
 ldI .i64 (aLoad false 1 v18 σ) fun n19 =>
 om (L x0 1 σ) fun v20 =>
 Bi (w64 (x1 - 1)) fun n21 =>
 om (aIndexAddr 5 v20 (.int .i64 n21)) fun v22 =>
 om (aFieldAddr 0 v22) fun v23 =>
 ldI .u64 (aLoad false 1 v23 σ) fun n24 =>
 om (aFieldAddr 1 v22) fun v25 =>
 ldB (aLoad false 1 v25 σ) fun c26 =>
 om (aFieldAddr 2 v22) fun v27 =>
 om (aLoad false 1 v27 σ) fun v28 =>
 om (aFieldAddr 3 v22) fun v29 =>
 om (aLoad false 1 v29 σ) fun v30 =>
 om (aFieldAddr 4 v22) fun v31 =>
 ldI .i64 (aLoad false 1 v31 σ) fun n32 =>
 (
 wNew σ (.cells [(.int .u64 0), (.bool false), (.slice none 0 0), (.slice none 0 0), (.int .i64 0)] t_tree_step false) fun b33 τ34 =>
 om (L x0 1 τ34) fun v35 =>
 veq1 v35 v6 = true ∧
 om (aFieldAddr 0 v9) fun v36 =>
 ldI .u64 (aLoad false 1 v36 τ34) fun n37 =>
 om (aFieldAddr 1 v9) fun v38 =>
 ldB (aLoad false 1 v38 τ34) fun c39 =>
 om (aFieldAddr 2 v9) fun v40 =>
 om (aLoad false 1 v40 τ34) fun v41 =>
 om (aFieldAddr 3 v9) fun v42 =>
 om (aLoad false 1 v42 τ34) fun v43 =>
 om (aFieldAddr 4 v9) fun v44 =>
 ldI .i64 (aLoad false 1 v44 τ34) fun n45 =>
 veq1 (.agg #[(.int .u64 n37), (.bool c39), v41, v43, (.int .i64 n45)]) (.agg #[(.int .u64 n11), (.bool c13), v15, v17, (.int .i64 n19)]) = true ∧
 om (L x0 1 τ34) fun v46 =>
 veq1 v46 v20 = true ∧
 om (aFieldAddr 0 v22) fun v47 =>
 ldI .u64 (aLoad false 1 v47 τ34) fun n48 =>
 om (aFieldAddr 1 v22) fun v49 =>
 ldB (aLoad false 1 v49 τ34) fun c50 =>
 om (aFieldAddr 2 v22) fun v51 =>
 om (aLoad false 1 v51 τ34) fun v52 =>
 om (aFieldAddr 3 v22) fun v53 =>
 om (aLoad false 1 v53 τ34) fun v54 =>
 om (aFieldAddr 4 v22) fun v55 =>
 ldI .i64 (aLoad false 1 v55 τ34) fun n56 =>
 veq1 (.agg #[(.int .u64 n48), (.bool c50), v52, v54, (.int .i64 n56)]) (.agg #[(.int .u64 n24), (.bool c26), v28, v30, (.int .i64 n32)]) = true ∧
 wNew τ34 (.cells [(.int .u64 0), (.bool false), (.slice none 0 0), (.slice none 0 0), (.int .i64 0)] t_tree_step false) fun b57 τ58 =>
 om (L x0 1 τ58) fun v59 =>
 veq1 v59 v6 = true ∧
 om (aFieldAddr 0 v9) fun v60 =>
 ldI .u64 (aLoad false 1 v60 τ58) fun n61 =>
 om (aFieldAddr 1 v9) fun v62 =>
 ldB (aLoad false 1 v62 τ58) fun c63 =>
 om (aFieldAddr 2 v9) fun v64 =>
 om (aLoad false 1 v64 τ58) fun v65 =>
 om (aFieldAddr 3 v9) fun v66 =>
 om (aLoad false 1 v66 τ58) fun v67 =>
 om (aFieldAddr 4 v9) fun v68 =>
 ldI .i64 (aLoad false 1 v68 τ58) fun n69 =>
 veq1 (.agg #[(.int .u64 n61), (.bool c63), v65, v67, (.int .i64 n69)]) (.agg #[(.int .u64 n11), (.bool c13), v15, v17, (.int .i64 n19)]) = true ∧
 om (L x0 1 τ58) fun v70 =>
 veq1 v70 v20 = true ∧
 om (aFieldAddr 0 v22) fun v71 =>
 ldI .u64 (aLoad false 1 v71 τ58) fun n72 =>
 om (aFieldAddr 1 v22) fun v73 =>
 ldB (aLoad false 1 v73 τ58) fun c74 =>
 om (aFieldAddr 2 v22) fun v75 =>
 om (aLoad false 1 v75 τ58) fun v76 =>
 om (aFieldAddr 3 v22) fun v77 =>
 om (aLoad false 1 v77 τ58) fun v78 =>
 om (aFieldAddr 4 v22) fun v79 =>
 ldI .i64 (aLoad false 1 v79 τ58) fun n80 =>
 veq1 (.agg #[(.int .u64 n72), (.bool c74), v76, v78, (.int .i64 n80)]) (.agg #[(.int .u64 n24), (.bool c26), v28, v30, (.int .i64 n32)]) = true ∧
 pu (aStore 5 (.pointer (some ⟨b33, 0, none⟩)) (.agg #[(.int .u64 n11), (.bool c13), v15, v17, (.int .i64 n19)]) τ58) fun τ81 =>
 om (L x0 1 τ81) fun v82 =>
 veq1 v82 v20 = true ∧
 om (aFieldAddr 0 v22) fun v83 =>
 ldI .u64 (aLoad false 1 v83 τ81) fun n84 =>
 om (aFieldAddr 1 v22) fun v85 =>
 ldB (aLoad false 1 v85 τ81) fun c86 =>
 om (aFieldAddr 2 v22) fun v87 =>
 om (aLoad false 1 v87 τ81) fun v88 =>
 om (aFieldAddr 3 v22) fun v89 =>
 om (aLoad false 1 v89 τ81) fun v90 =>
 om (aFieldAddr 4 v22) fun v91 =>
 ldI .i64 (aLoad false 1 v91 τ81) fun n92 =>
 veq1 (.agg #[(.int .u64 n84), (.bool c86), v88, v90, (.int .i64 n92)]) (.agg #[(.int .u64 n24), (.bool c26), v28, v30, (.int .i64 n32)]) = true ∧
 pu (aStore 5 (.pointer (some ⟨b57, 0, none⟩)) (.agg #[(.int .u64 n24), (.bool c26), v28, v30, (.int .i64 n32)]) τ81) fun τ93 =>
 (s_tree_way_fill_k3 E Q b33 b57 x0 x1 τ93)) ∧ (
 wNew σ (.cells [(.int .u64 0), (.bool false), (.slice none 0 0), (.slice none 0 0), (.int .i64 0)] t_tree_step false) fun b530 τ531 =>
 om (L x0 1 τ531) fun v532 =>
 veq1 v532 v6 = true ∧
 om (aFieldAddr 0 v9) fun v533 =>
 ldI .u64 (aLoad false 1 v533 τ531) fun n534 =>
 om (aFieldAddr 1 v9) fun v535 =>
 ldB (aLoad false 1 v535 τ531) fun c536 =>
 om (aFieldAddr 2 v9) fun v537 =>
 om (aLoad false 1 v537 τ531) fun v538 =>
 om (aFieldAddr 3 v9) fun v539 =>
 om (aLoad false 1 v539 τ531) fun v540 =>
 om (aFieldAddr 4 v9) fun v541 =>
 ldI .i64 (aLoad false 1 v541 τ531) fun n542 =>
 veq1 (.agg #[(.int .u64 n534), (.bool c536), v538, v540, (.int .i64 n542)]) (.agg #[(.int .u64 n11), (.bool c13), v15, v17, (.int .i64 n19)]) = true ∧
 om (L x0 1 τ531) fun v543 =>
 veq1 v543 v20 = true ∧
 om (aFieldAddr 0 v22) fun v544 =>
 ldI .u64 (aLoad false 1 v544 τ531) fun n545 =>
 om (aFieldAddr 1 v22) fun v546 =>
 ldB (aLoad false 1 v546 τ531) fun c547 =>
 om (aFieldAddr 2 v22) fun v548 =>
 om (aLoad false 1 v548 τ531) fun v549 =>
 om (aFieldAddr 3 v22) fun v550 =>
 om (aLoad false 1 v550 τ531) fun v551 =>
 om (aFieldAddr 4 v22) fun v552 =>
 ldI .i64 (aLoad false 1 v552 τ531) fun n553 =>
 veq1 (.agg #[(.int .u64 n545), (.bool c547), v549, v551, (.int .i64 n553)]) (.agg #[(.int .u64 n24), (.bool c26), v28, v30, (.int .i64 n32)]) = true ∧
 wNew τ531 (.cells [(.int .u64 0), (.bool false), (.slice none 0 0), (.slice none 0 0), (.int .i64 0)] t_tree_step false) fun b554 τ555 =>
 om (L x0 1 τ555) fun v556 =>
 veq1 v556 v6 = true ∧
 om (aFieldAddr 0 v9) fun v557 =>
 ldI .u64 (aLoad false 1 v557 τ555) fun n558 =>
 om (aFieldAddr 1 v9) fun v559 =>
 ldB (aLoad false 1 v559 τ555) fun c560 =>
 om (aFieldAddr 2 v9) fun v561 =>
 om (aLoad false 1 v561 τ555) fun v562 =>
 om (aFieldAddr 3 v9) fun v563 =>
 om (aLoad false 1 v563 τ555) fun v564 =>
 om (aFieldAddr 4 v9) fun v565 =>
 ldI .i64 (aLoad false 1 v565 τ555) fun n566 =>
 veq1 (.agg #[(.int .u64 n558), (.bool c560), v562, v564, (.int .i64 n566)]) (.agg #[(.int .u64 n11), (.bool c13), v15, v17, (.int .i64 n19)]) = true ∧
 om (L x0 1 τ555) fun v567 =>
 veq1 v567 v20 = true ∧
 om (aFieldAddr 0 v22) fun v568 =>
 ldI .u64 (aLoad false 1 v568 τ555) fun n569 =>
 om (aFieldAddr 1 v22) fun v570 =>
 ldB (aLoad false 1 v570 τ555) fun c571 =>
 om (aFieldAddr 2 v22) fun v572 =>
 om (aLoad false 1 v572 τ555) fun v573 =>
 om (aFieldAddr 3 v22) fun v574 =>
 om (aLoad false 1 v574 τ555) fun v575 =>
 om (aFieldAddr 4 v22) fun v576 =>
 ldI .i64 (aLoad false 1 v576 τ555) fun n577 =>
 veq1 (.agg #[(.int .u64 n569), (.bool c571), v573, v575, (.int .i64 n577)]) (.agg #[(.int .u64 n24), (.bool c26), v28, v30, (.int .i64 n32)]) = true ∧
 pu (aStore 5 (.pointer (some ⟨b554, 0, none⟩)) (.agg #[(.int .u64 n11), (.bool c13), v15, v17, (.int .i64 n19)]) τ555) fun τ578 =>
 om (L x0 1 τ578) fun v579 =>
 veq1 v579 v20 = true ∧
 om (aFieldAddr 0 v22) fun v580 =>
 ldI .u64 (aLoad false 1 v580 τ578) fun n581 =>
 om (aFieldAddr 1 v22) fun v582 =>
 ldB (aLoad false 1 v582 τ578) fun c583 =>
 om (aFieldAddr 2 v22) fun v584 =>
 om (aLoad false 1 v584 τ578) fun v585 =>
 om (aFieldAddr 3 v22) fun v586 =>
 om (aLoad false 1 v586 τ578) fun v587 =>
 om (aFieldAddr 4 v22) fun v588 =>
 ldI .i64 (aLoad false 1 v588 τ578) fun n589 =>
 veq1 (.agg #[(.int .u64 n581), (.bool c583), v585, v587, (.int .i64 n589)]) (.agg #[(.int .u64 n24), (.bool c26), v28, v30, (.int .i64 n32)]) = true ∧
 pu (aStore 5 (.pointer (some ⟨b530, 0, none⟩)) (.agg #[(.int .u64 n24), (.bool c26), v28, v30, (.int .i64 n32)]) τ578) fun τ590 =>
 (s_tree_way_fill_k3 E Q b554 b530 x0 x1 τ590)))
theorem q_tree_way_fill (E : EvT) (Q : RK) (x0 : Nat) (x1 : Int) (σ : AHeap) : xfn P E Tryz.f84 (hl [(1, .tree (.step 0 [] (.step 1 [] (.step 2 [] (.step 3 [] (.step 4 [] (.step 5 [] (.step 6 [] (.step 7 [] (.step 8 [] (.step 9 [] (.step 10 [] (.step 11 [] (.step 12 [] (.step 13 [] (.step 14 [] (.alt (.step 15 [3, 6, 10, 14] (.step 16 [3, 6, 10, 14] (.step 17 [10, 14] (.step 18 [] .nil)))) (.step 16 [3, 6, 10, 14] (.step 15 [3, 6, 10, 14] (.step 17 [10, 14] (.step 18 [] .nil))))))))))))))))))))), (2, .ord [(0, []), (1, []), (2, []), (3, []), (4, []), (5, []), (6, []), (7, []), (8, []), (9, []), (10, []), (11, []), (12, []), (13, []), (14, []), (15, []), (16, []), (17, []), (18, []), (19, [])]), (4, .ord [(0, []), (1, []), (2, []), (3, []), (4, []), (5, []), (6, []), (7, []), (8, []), (9, []), (10, []), (11, []), (12, [])]), (6, .ord [(0, []), (1, []), (2, []), (3, []), (4, []), (5, []), (6, [])]), (8, .tree (.step 0 [] (.step 1 [] (.step 2 [] (.step 3 [] (.step 4 [] (.step 5 [] (.step 6 [] (.step 7 [] (.step 8 [] (.step 9 [] (.alt (.step 10 [] (.step 11 [] (.step 12 [] (.step 13 [] (.step 14 [] (.step 15 [3, 6, 9] (.step 16 [] (.step 17 [] (.step 18 [] .nil))))))))) (.step 15 [3, 6, 9] (.step 10 [] (.step 11 [] (.step 12 [] (.step 13 [] (.step 14 [] (.step 16 [] (.step 17 [] (.step 18 [] .nil))))))))))))))))))))), (9, .tree (.step 0 [] (.step 1 [] (.step 2 [] (.step 3 [] (.step 4 [] (.step 5 [] (.step 6 [] (.step 7 [] (.alt (.step 8 [1, 3, 6] (.step 9 [1, 3, 6] (.step 10 [6] (.step 11 [] .nil)))) (.step 9 [1, 3, 6] (.step 8 [1, 3, 6] (.step 10 [6] (.step 11 [] .nil)))))))))))))), (12, .ord [(0, []), (1, []), (2, []), (3, []), (4, []), (5, []), (6, []), (7, []), (8, [])]), (13, .ord [(0, []), (1, []), (2, []), (3, []), (4, []), (5, []), (6, []), (7, []), (8, []), (9, []), (10, []), (11, []), (12, []), (13, []), (14, []), (15, [])]), (14, .ord [(0, []), (1, []), (2, []), (3, []), (4, []), (5, []), (6, []), (7, []), (8, []), (9, []), (10, []), (11, []), (13, []), (12, []), (14, []), (15, [])]), (15, .ord [(0, []), (1, []), (2, []), (3, []), (4, []), (5, []), (6, []), (7, []), (8, [])]), (16, .ord [(0, []), (1, []), (2, []), (3, []), (4, []), (5, []), (6, []), (7, []), (8, [])]), (17, .ord [(0, []), (1, []), (2, []), (3, []), (4, []), (5, []), (6, []), (7, []), (8, []), (9, []), (10, []), (11, []), (13, []), (14, []), (15, []), (16, []), (17, []), (18, []), (19, []), (12, [15, 17, 19]), (20, []), (21, [])])]) (fun _ => .v) [(.pointer (some ⟨x0, 0, none⟩)), (.int .i64 x1)] σ Q = s_tree_way_fill E Q x0 x1 σ := by kernel_rfl
theorem e_tree_way_fill {Q : RK} {x0 : Nat} {x1 : Int} {σ : AHeap} (h : s_tree_way_fill E Q x0 x1 σ) : E f_tree_way_fill [(.pointer (some ⟨x0, 0, none⟩)), (.int .i64 x1)] σ Q :=
  exfn Tryz.func84 _ _ (by kernel_rfl) (Eq.mpr (q_tree_way_fill E Q x0 x1 σ) h)
def s_tree_way_pair (E : EvT) (Q : RK) (x0 : Nat) (x1 : Int) (σ : AHeap) : Prop :=
 If (decide (x1 < 0)) (
 Q (.ret (.int .i64 23)) σ) (
 Q (.ret (.int .i64 0)) σ)
theorem q_tree_way_pair (E : EvT) (Q : RK) (x0 : Nat) (x1 : Int) (σ : AHeap) : xfn P E Tryz.f139 (fun _ => none) (fun _ => .v) [(.pointer (some ⟨x0, 0, none⟩)), (.int .i64 x1)] σ Q = s_tree_way_pair E Q x0 x1 σ := by kernel_rfl
theorem e_tree_way_pair {Q : RK} {x0 : Nat} {x1 : Int} {σ : AHeap} (h : s_tree_way_pair E Q x0 x1 σ) : E f_tree_way_pair [(.pointer (some ⟨x0, 0, none⟩)), (.int .i64 x1)] σ Q :=
  exfn Tryz.func139 _ _ (by kernel_rfl) (Eq.mpr (q_tree_way_pair E Q x0 x1 σ) h)
def s_tree_Remove_k20 (E : EvT) (Q : RK) (b231 b246 b264 b279 : Nat) (τ228 : AHeap) : Prop :=
 ldI .u64 (L b231 0 τ228) fun n232 =>
 ldI .u64 (L b246 0 τ228) fun n247 =>
 St b231 0 (.int .u64 n232) τ228 fun τ248 =>
 ldI .u64 (L b246 0 τ248) fun n249 =>
 veq1 (.int .u64 n249) (.int .u64 n247) = true ∧
 St b246 0 (.int .u64 n247) τ248 fun τ250 =>
 St b264 0 (.bool true) τ250 fun τ265 =>
 St b279 0 (.int .i64 0) τ265 fun τ280 =>
 Q (.ret (.tuple #[])) τ280
def s_tree_Remove_k18 (E : EvT) (Q : RK) (b215 b217 b229 b244 b262 b277 : Nat) (τ204 : AHeap) : Prop :=
 om (L b215 0 τ204) fun v216 =>
 ldI .u64 (L b217 0 τ204) fun n218 =>
 Bi (w64 (n218)) fun n219 =>
 E f_refs_Refs_Dec [v216, (.int .i64 n219)] τ204 (c2 Q fun v221 v223 τ220 =>
 tB (fun c222 =>
 tI .i64 (fun n224 =>
 E f_tree_must [(.int .i64 n224)] τ220 (c0 Q fun τ227 =>
 (s_tree_Remove_k20 E Q b229 b244 b262 b277 τ227))) v223) v221)
def s_tree_Remove_k15 (E : EvT) (Q : RK) (c186 : Bool) (b188 b191 b212 b241 b259 b274 : Nat) (τ185 : AHeap) : Prop :=
 If c186 (
 St b188 0 (.int .u64 0) τ185 fun τ189 =>
 om (L b191 2 τ189) fun v193 =>
 ldI .i64 (lenS v193) fun n194 =>
 If (decide (n194 = 1)) (
 om (L b191 3 τ189) fun v198 =>
 om (aIndexAddr 1 v198 (.int .i64 0)) fun v199 =>
 ldI .u64 (aLoad false 1 v199 τ189) fun n200 =>
 St b188 0 (.int .u64 n200) τ189 fun τ203 =>
 (s_tree_Remove_k18 E Q b212 b191 b188 b241 b259 b274 τ203)) (
 (s_tree_Remove_k18 E Q b212 b191 b188 b241 b259 b274 τ189))) (
 (s_tree_Remove_k20 E Q b188 b241 b259 b274 τ185))
def s_tree_Remove_k7 (E : EvT) (Q : RK) (b91 : Nat) (n93 n99 : Int) (b173 b233 b251 b266 : Nat) (τ85 : AHeap) : Prop :=
 E f_tree_down [(.pointer (some ⟨b91, 0, none⟩)), (.int .u64 n93), (.int .u64 n99), (.bool false)] τ85 (cV Q fun v101 τ100 =>
 om (aNil v101) fun v104 =>
 om (aFieldAddr 1 v104) fun v105 =>
 om (aLoad false 1 v105 τ100) fun v106 =>
 ldI .i64 (lenS v106) fun n107 =>
 Bi (w64 (n107 - 1)) fun n108 =>
 om (aNil v101) fun v111 =>
 om (aFieldAddr 1 v111) fun v112 =>
 om (aLoad false 1 v112 τ100) fun v113 =>
 om (aIndexAddr 5 v113 (.int .i64 n108)) fun v115 =>
 om (aFieldAddr 1 v115) fun v116 =>
 om (aFieldAddr 0 v116) fun v117 =>
 ldB (aLoad false 1 v117 τ100) fun c118 =>
 om (aFieldAddr 1 v116) fun v119 =>
 om (aLoad false 1 v119 τ100) fun v120 =>
 om (aFieldAddr 2 v116) fun v121 =>
 om (aLoad false 1 v121 τ100) fun v122 =>
 E f_knot_Find [(.agg #[(.bool c118), v120, v122]), (.int .u64 n99)] τ100 (c2 Q fun v126 v128 τ125 =>
 tI .i64 (fun n127 =>
 tB (fun c129 =>
 om (aNil v101) fun v133 =>
 om (aFieldAddr 1 v133) fun v134 =>
 om (aLoad false 1 v134 τ125) fun v135 =>
 om (aIndexAddr 5 v135 (.int .i64 n108)) fun v136 =>
 om (aFieldAddr 1 v136) fun v137 =>
 om (aFieldAddr 0 v137) fun v138 =>
 ldB (aLoad false 1 v138 τ125) fun c139 =>
 om (aFieldAddr 1 v137) fun v140 =>
 om (aLoad false 1 v140 τ125) fun v141 =>
 om (aFieldAddr 2 v137) fun v142 =>
 om (aLoad false 1 v142 τ125) fun v143 =>
 E f_knot_Remove [(.agg #[(.bool c139), v141, v143]), (.int .i64 n127)] τ125 (cV Q fun v146 τ145 =>
 E f_tree_way_save [v101, (.int .i64 n108), v146] τ145 (c0 Q fun τ147 =>
 E f_tree_way_up [v101, (.func (.func f_tree_way_fill) #[v101] #[])] τ147 (c0 Q fun τ150 =>
 om (aNil v101) fun v153 =>
 om (aFieldAddr 1 v153) fun v154 =>
 om (aLoad false 1 v154 τ150) fun v155 =>
 om (aIndexAddr 5 v155 (.int .i64 0)) fun v156 =>
 om (aFieldAddr 0 v156) fun v157 =>
 ldI .u64 (aLoad false 1 v157 τ150) fun n158 =>
 om (aFieldAddr 1 v156) fun v159 =>
 ldB (aLoad false 1 v159 τ150) fun c160 =>
 om (aFieldAddr 2 v156) fun v161 =>
 om (aLoad false 1 v161 τ150) fun v162 =>
 om (aFieldAddr 3 v156) fun v163 =>
 om (aLoad false 1 v163 τ150) fun v164 =>
 om (aFieldAddr 4 v156) fun v165 =>
 ldI .i64 (aLoad false 1 v165 τ150) fun n166 =>
 wNew τ150 (.cells [(.int .u64 0), (.bool false), (.slice none 0 0), (.slice none 0 0), (.int .i64 0)] t_tree_step false) fun b167 τ168 =>
 pu (aStore 5 (.pointer (some ⟨b167, 0, none⟩)) (.agg #[(.int .u64 n158), (.bool c160), v162, v164, (.int .i64 n166)]) τ168) fun τ169 =>
 ldI .u64 (L b167 0 τ169) fun n172 =>
 St b173 0 (.int .u64 n172) τ169 fun τ180 =>
 om (L b167 2 τ180) fun v183 =>
 ldI .i64 (lenS v183) fun n184 =>
 If (decide (n184 = 0)) (
 isSkip skipV = true ∧
 (s_tree_Remove_k15 E Q true b173 b167 b91 b233 b251 b266 τ180)) (
 ldB (L b167 1 τ180) fun c281 =>
 If (!c281) (
 om (L b167 2 τ180) fun v282 =>
 ldI .i64 (lenS v282) fun n283 =>
 (s_tree_Remove_k15 E Q (decide (n283 = 1)) b173 b167 b91 b233 b251 b266 τ180)) (
 (s_tree_Remove_k15 E Q false b173 b167 b91 b233 b251 b266 τ180))))))) v128) v126))
def s_tree_Remove (E : EvT) (Q : RK) (x0 : Nat) (x1 x2 : Int) (σ : AHeap) : Prop :=
 wNew σ (.cells [(.int .u64 0)] t_uint64 false) fun b1 τ2 =>
 wNew τ2 (.cells [(.int .u64 0)] t_uint64 false) fun b3 τ4 =>
 wNew τ4 (.cells [(.bool false)] t_bool false) fun b5 τ6 =>
 wNew τ6 (.cells [(.int .i64 0)] t_api_Errno false) fun b7 τ8 =>
 E f_tree_Lookup [(.pointer (some ⟨x0, 0, none⟩)), (.int .u64 x1), (.int .u64 x2)] τ8 (c3 Q fun v14 v16 v18 τ13 =>
 tI .u64 (fun n15 =>
 tB (fun c17 =>
 tI .i64 (fun n19 =>
 St b3 0 (.int .u64 n15) τ13 fun τ21 =>
 St b5 0 (.bool c17) τ21 fun τ23 =>
 St b7 0 (.int .i64 n19) τ23 fun τ25 =>
 ldI .i64 (L b7 0 τ25) fun n28 =>
 If (!decide (n28 = 0)) (
 ldI .i64 (L b7 0 τ25) fun n32 =>
 St b1 0 (.int .u64 0) τ25 fun τ36 =>
 ldI .i64 (L b7 0 τ36) fun n37 =>
 veq1 (.int .i64 n37) (.int .i64 n32) = true ∧
 St b3 0 (.int .u64 0) τ36 fun τ40 =>
 ldI .i64 (L b7 0 τ40) fun n41 =>
 veq1 (.int .i64 n41) (.int .i64 n32) = true ∧
 St b5 0 (.bool false) τ40 fun τ44 =>
 ldI .i64 (L b7 0 τ44) fun n45 =>
 veq1 (.int .i64 n45) (.int .i64 n32) = true ∧
 St b7 0 (.int .i64 n32) τ44 fun τ46 =>
 pu (aLoad false 1 (.pointer (some ⟨b1, 0, none⟩)) τ46) fun v47 =>
 pu (aLoad false 1 (.pointer (some ⟨b3, 0, none⟩)) τ46) fun v48 =>
 pu (aLoad false 1 (.pointer (some ⟨b5, 0, none⟩)) τ46) fun v49 =>
 pu (aLoad false 1 (.pointer (some ⟨b7, 0, none⟩)) τ46) fun v50 =>
 Q (.ret (.tuple #[v47, v48, v49, v50])) τ46) (
 ldB (L b5 0 τ25) fun c53 =>
 If (!c53) (
 St b1 0 (.int .u64 x1) τ25 fun τ62 =>
 St b3 0 (.int .u64 0) τ62 fun τ65 =>
 St b5 0 (.bool false) τ65 fun τ67 =>
 St b7 0 (.int .i64 0) τ67 fun τ70 =>
 pu (aLoad false 1 (.pointer (some ⟨b1, 0, none⟩)) τ70) fun v71 =>
 pu (aLoad false 1 (.pointer (some ⟨b3, 0, none⟩)) τ70) fun v72 =>
 pu (aLoad false 1 (.pointer (some ⟨b5, 0, none⟩)) τ70) fun v73 =>
 pu (aLoad false 1 (.pointer (some ⟨b7, 0, none⟩)) τ70) fun v74 =>
 Q (.ret (.tuple #[v71, v72, v73, v74])) τ70) (
 (s_tree_Remove_k7 E (qd P f_tree_Remove_c1 [(.pointer (some ⟨b1, 0, none⟩)), (.pointer (some ⟨b3, 0, none⟩)), (.pointer (some ⟨b5, 0, none⟩)), (.pointer (some ⟨b7, 0, none⟩))] fun τ80 =>
 pu (aLoad false 1 (.pointer (some ⟨b1, 0, none⟩)) τ80) fun v81 =>
 pu (aLoad false 1 (.pointer (some ⟨b3, 0, none⟩)) τ80) fun v82 =>
 pu (aLoad false 1 (.pointer (some ⟨b5, 0, none⟩)) τ80) fun v83 =>
 pu (aLoad false 1 (.pointer (some ⟨b7, 0, none⟩)) τ80) fun v84 =>
 Q (.ret (.tuple #[v81, v82, v83, v84])) τ80) x0 x1 x2 b1 b3 b5 b7 τ25)))) v18) v16) v14)
theorem q_tree_Remove (E : EvT) (Q : RK) (x0 : Nat) (x1 x2 : Int) (σ : AHeap) : xfnD P E Tryz.f27 (hl [(1, .ord [(0, []), (1, [0]), (2, [0]), (3, [0]), (4, [])]), (5, .ord [(0, []), (1, []), (2, []), (3, []), (4, []), (5, []), (6, []), (7, []), (8, []), (9, []), (10, []), (11, []), (12, [])]), (6, .ord [(0, []), (1, []), (2, [1]), (3, []), (4, []), (5, [])])]) (fun _ => .v) [(.pointer (some ⟨x0, 0, none⟩)), (.int .u64 x1), (.int .u64 x2)] σ Q = s_tree_Remove E Q x0 x1 x2 σ := by kernel_rfl
theorem e_tree_Remove {Q : RK} {x0 : Nat} {x1 x2 : Int} {σ : AHeap} (h : s_tree_Remove E Q x0 x1 x2 σ) : E f_tree_Remove [(.pointer (some ⟨x0, 0, none⟩)), (.int .u64 x1), (.int .u64 x2)] σ Q :=
  exfnD Tryz.func27 _ _ (by kernel_rfl) (Eq.mpr (q_tree_Remove E Q x0 x1 x2 σ) h)
def s_tree_Remove_c1 (E : EvT) (Q : RK) (x0 x1 x2 x3 : Nat) (rv : Option Value) (σ : AHeap) : Prop :=
 E f_tree_told [(rv.getD .nilIface)] σ (cI Q .i64 fun n2 τ1 =>
 If (!decide (n2 = 0)) (
 St x0 0 (.int .u64 0) τ1 fun τ7 =>
 St x1 0 (.int .u64 0) τ7 fun τ9 =>
 St x2 0 (.bool false) τ9 fun τ11 =>
 St x3 0 (.int .i64 n2) τ11 fun τ13 =>
 Q (.ret (.tuple #[])) τ13) (
 Q (.ret (.tuple #[])) τ1))
theorem q_tree_Remove_c1 (E : EvT) (K : AHeap → Prop) (x0 x1 x2 x3 : Nat) (rv : Option Value) (σ : AHeap) : xclo P E Tryz.f82 (fun _ => none) (fun _ => .v) [(.pointer (some ⟨x0, 0, none⟩)), (.pointer (some ⟨x1, 0, none⟩)), (.pointer (some ⟨x2, 0, none⟩)), (.pointer (some ⟨x3, 0, none⟩))] rv σ K = s_tree_Remove_c1 E (kq K) x0 x1 x2 x3 rv σ := by kernel_rfl
theorem e_tree_Remove_c1 {K : AHeap → Prop} {x0 x1 x2 x3 : Nat} {rv : Option Value} {σ : AHeap} (h : s_tree_Remove_c1 E (kq K) x0 x1 x2 x3 rv σ) : Dv P f_tree_Remove_c1 [(.pointer (some ⟨x0, 0, none⟩)), (.pointer (some ⟨x1, 0, none⟩)), (.pointer (some ⟨x2, 0, none⟩)), (.pointer (some ⟨x3, 0, none⟩))] rv σ K :=
  exclo Tryz.func82 _ _ (by kernel_rfl) (Eq.mpr (q_tree_Remove_c1 E K x0 x1 x2 x3 rv σ) h)
def s_law11_Made_k10 (E : EvT) (Q : RK) (c59 : Bool) (v62 v65 : Value) (τ58 : AHeap) : Prop :=
 If c59 (
 Q (.ret (.pointer none)) τ58) (
 On v62 (
 On v65 (
 wNew τ58 (.cells [v62, v65] t_law11_Bench false) fun b67 τ68 =>
 Q (.ret (.pointer (some ⟨b67, 0, none⟩))) τ68)))
def s_law11_Made_k6 (E : EvT) (Q : RK) (c28 : Bool) (v34 : Value) (n41 : Int) (v49 : Value) (τ27 : AHeap) : Prop :=
 If c28 (
 Q (.ret (.pointer none)) τ27) (
 E f_cache_New [v34, (.int .i64 n41)] τ27 (c2 Q fun v44 v45 τ43 =>
 tI .i64 (fun n46 =>
 E f_tree_New [v49, v44] τ43 (cV Q fun v54 τ53 =>
 If (!decide (n46 = 0)) (
 (s_law11_Made_k10 E Q true v49 v54 τ53)) (
 ldB (aBin (some (.pointer t_tree_Shelf)) .eql v54 (.pointer none)) fun c69 =>
 (s_law11_Made_k10 E Q c69 v49 v54 τ53)))) v45))
def s_law11_Made (E : EvT) (Q : RK) (x0 x1 : Int) (σ : AHeap) : Prop :=
 E f_disk_New [(.int .i64 x0)] σ (c2 Q fun v4 v5 τ3 =>
 tI .i64 (fun n6 =>
 pu (aMake t_uint8 1 [(.int .u8 0)] (.int .i64 x0) (.int .i64 x0) τ3) fun r9 =>
 om (aIndexAddr 1 r9.1 (.int .i64 0)) fun v12 =>
 pu (aStore 1 v12 (.int .u8 1) r9.2) fun τ13 =>
 om (aIndexAddr 1 r9.1 (.int .i64 1)) fun v14 =>
 pu (aStore 1 v14 (.int .u8 1) τ13) fun τ15 =>
 E f_refs_New [r9.1] τ15 (c2 Q fun v19 v20 τ18 =>
 tI .i64 (fun n21 =>
 If (!decide (n6 = 0)) (
 (s_law11_Made_k6 E Q true v4 x1 v19 τ18)) (
 (s_law11_Made_k6 E Q (!decide (n21 = 0)) v4 x1 v19 τ18))) v20)) v5)
theorem q_law11_Made (E : EvT) (Q : RK) (x0 x1 : Int) (σ : AHeap) : xfn P E Tryz.f15 (fun _ => none) (fun _ => .v) [(.int .i64 x0), (.int .i64 x1)] σ Q = s_law11_Made E Q x0 x1 σ := by kernel_rfl
theorem e_law11_Made {Q : RK} {x0 x1 : Int} {σ : AHeap} (h : s_law11_Made E Q x0 x1 σ) : E f_law11_Made [(.int .i64 x0), (.int .i64 x1)] σ Q :=
  exfn Tryz.func15 _ _ (by kernel_rfl) (Eq.mpr (q_law11_Made E Q x0 x1 σ) h)
def s_law11_awake_k6 (E : EvT) (Q : RK) (c27 : Bool) (v30 : Value) (n36 : Int) (τ26 : AHeap) : Prop :=
 If c27 (
 Q (.ret (.bool false)) τ26) (
 om (aNil v30) fun v32 =>
 om (aFieldAddr 1 v32) fun v33 =>
 om (aLoad false 1 v33 τ26) fun v34 =>
 E f_tree_Insert [v34, (.int .u64 n36), (.int .u64 5), (.int .u64 1)] τ26 (c4 Q fun v39 v41 v43 v45 τ38 =>
 tI .u64 (fun n40 =>
 tI .u64 (fun n42 =>
 tB (fun c44 =>
 tI .i64 (fun n46 =>
 om (aNil v30) fun v49 =>
 om (aFieldAddr 1 v49) fun v50 =>
 om (aLoad false 1 v50 τ38) fun v51 =>
 E f_tree_Lookup [v51, (.int .u64 n36), (.int .u64 5)] τ38 (c3 Q fun v54 v56 v58 τ53 =>
 tI .u64 (fun n55 =>
 tB (fun c57 =>
 tI .i64 (fun n59 =>
 om (aNil v30) fun v62 =>
 om (aFieldAddr 1 v62) fun v63 =>
 om (aLoad false 1 v63 τ53) fun v64 =>
 E f_tree_Lookup [v64, (.int .u64 n40), (.int .u64 6)] τ53 (c3 Q fun v68 v70 v72 τ67 =>
 tI .u64 (fun n69 =>
 tB (fun c71 =>
 tI .i64 (fun n73 =>
 If (decide (n46 = 0)) (
 If c44 (
 If (decide (n42 = 1)) (
 If (!decide (n40 = n36)) (
 If (decide (n59 = 0)) (
 If (decide (n55 = 1)) (
 If c57 (
 If (decide (n73 = 0)) (
 Q (.ret (.bool (!c71))) τ67) (
 Q (.ret (.bool false)) τ67)) (
 Q (.ret (.bool false)) τ67)) (
 Q (.ret (.bool false)) τ67)) (
 Q (.ret (.bool false)) τ67)) (
 Q (.ret (.bool false)) τ67)) (
 Q (.ret (.bool false)) τ67)) (
 Q (.ret (.bool false)) τ67)) (
 Q (.ret (.bool false)) τ67)) v72) v70) v68)) v58) v56) v54)) v45) v43) v41) v39))
def s_law11_awake (E : EvT) (Q : RK) (σ : AHeap) : Prop :=
 E f_law11_Made [(.int .i64 40), (.int .i64 4)] σ (cV Q fun v3 τ2 =>
 ldB (aBin (some (.pointer t_law11_Bench)) .eql v3 (.pointer none)) fun c6 =>
 If c6 (
 Q (.ret (.bool false)) τ2) (
 om (aNil v3) fun v12 =>
 om (aFieldAddr 1 v12) fun v13 =>
 om (aLoad false 1 v13 τ2) fun v14 =>
 E f_tree_Insert [v14, (.int .u64 0), (.int .u64 5), (.int .u64 1)] τ2 (c4 Q fun v16 v18 v20 v22 τ15 =>
 tI .u64 (fun n17 =>
 tI .u64 (fun n19 =>
 tB (fun c21 =>
 tI .i64 (fun n23 =>
 If (!decide (n23 = 0)) (
 (s_law11_awake_k6 E Q true v3 n17 τ15)) (
 If c21 (
 (s_law11_awake_k6 E Q true v3 n17 τ15)) (
 If (!decide (n19 = 0)) (
 (s_law11_awake_k6 E Q true v3 n17 τ15)) (
 If (decide (n17 = 0)) (
 (s_law11_awake_k6 E Q true v3 n17 τ15)) (
 om (aNil v3) fun v97 =>
 om (aFieldAddr 0 v97) fun v98 =>
 om (aLoad false 1 v98 τ15) fun v99 =>
 Bi (w64 (n17)) fun n100 =>
 E f_refs_Refs_Inc [v99, (.int .i64 n100)] τ15 (cI Q .i64 fun n102 τ101 =>
 If (!decide (n102 = 0)) (
 (s_law11_awake_k6 E Q true v3 n17 τ101)) (
 om (aNil v3) fun v103 =>
 om (aFieldAddr 0 v103) fun v104 =>
 om (aLoad false 1 v104 τ101) fun v105 =>
 E f_refs_Refs_Inc [v105, (.int .i64 1)] τ101 (cI Q .i64 fun n107 τ106 =>
 (s_law11_awake_k6 E Q (!decide (n107 = 0)) v3 n17 τ106))))))))) v22) v20) v18) v16)))
theorem q_law11_awake (E : EvT) (Q : RK) (σ : AHeap) : xfn P E Tryz.f14 (fun _ => none) (fun _ => .v) [] σ Q = s_law11_awake E Q σ := by kernel_rfl
theorem e_law11_awake {Q : RK} {σ : AHeap} (h : s_law11_awake E Q σ) : E f_law11_awake [] σ Q :=
  exfn Tryz.func14 _ _ (by kernel_rfl) (Eq.mpr (q_law11_awake E Q σ) h)
def s_law11_TreeKnown_k12 (N1 : Int → Int → AHeap → Prop) (E : EvT) (Q : RK) (c64 : Bool) (v66 : Value) (n68 n72 n75 : Int) (τ63 : AHeap) : Prop :=
 If c64 (
 Q (.ret (.bool false)) τ63) (
 Bi (wu64 (n72 + 1)) fun n80 =>
 N1 n75 n80 τ63)
def s_law11_TreeKnown_k17 (E : EvT) (Q : RK) (c101 : Bool) (v104 : Value) (n110 : Int) (b142 : Nat) (τ100 : AHeap) : Prop :=
 If c101 (
 Q (.ret (.bool false)) τ100) (
 om (aNil v104) fun v106 =>
 om (aFieldAddr 1 v106) fun v107 =>
 om (aLoad false 1 v107 τ100) fun v108 =>
 E f_tree_Insert [v108, (.int .u64 n110), (.int .u64 1), (.int .u64 0)] τ100 (c4 Q fun v113 v115 v117 v119 τ112 =>
 tI .u64 (fun n114 =>
 tI .u64 (fun n116 =>
 tB (fun c118 =>
 tI .i64 (fun n120 =>
 E f_tree_Shelf_Load [(.pointer none), (.int .u64 2)] τ112 (c2 Q fun v124 v125 τ123 =>
 tI .i64 (fun n126 =>
 wNew τ123 (.cells [(.bool false), (.slice none 0 0), (.slice none 0 0)] t_api_Node false) fun b127 τ128 =>
 pu (aStore 3 (.pointer (some ⟨b127, 0, none⟩)) v124 τ128) fun τ129 =>
 E f_tree_Shelf_Shadow [(.pointer none), (.int .u64 2)] τ129 (c3 Q fun v132 v134 v135 τ131 =>
 tI .u64 (fun n133 =>
 tI .i64 (fun n136 =>
 wNew τ131 (.cells [(.bool false), (.slice none 0 0), (.slice none 0 0)] t_api_Node false) fun b137 τ138 =>
 pu (aStore 3 (.pointer (some ⟨b137, 0, none⟩)) v134 τ138) fun τ139 =>
 ldB (L b142 0 τ139) fun c148 =>
 om (L b142 1 τ139) fun v149 =>
 om (L b142 2 τ139) fun v150 =>
 E f_tree_Shelf_Make [(.pointer none), (.agg #[(.bool c148), v149, v150])] τ139 (c2 Q fun v152 v154 τ151 =>
 tI .u64 (fun n153 =>
 tI .i64 (fun n155 =>
 E f_tree_Lookup [(.pointer none), (.int .u64 0), (.int .u64 1)] τ151 (c3 Q fun v158 v160 v162 τ157 =>
 tI .u64 (fun n159 =>
 tB (fun c161 =>
 tI .i64 (fun n163 =>
 E f_tree_Insert [(.pointer none), (.int .u64 0), (.int .u64 1), (.int .u64 1)] τ157 (c4 Q fun v166 v168 v170 v172 τ165 =>
 tI .u64 (fun n167 =>
 tI .u64 (fun n169 =>
 tB (fun c171 =>
 tI .i64 (fun n173 =>
 E f_tree_Remove [(.pointer none), (.int .u64 0), (.int .u64 1)] τ165 (c4 Q fun v176 v178 v180 v182 τ175 =>
 tI .u64 (fun n177 =>
 tI .u64 (fun n179 =>
 tB (fun c181 =>
 tI .i64 (fun n183 =>
 om (aNil v104) fun v193 =>
 om (aFieldAddr 1 v193) fun v194 =>
 om (aLoad false 1 v194 τ175) fun v195 =>
 E f_tree_Remove [v195, (.int .u64 n110), (.int .u64 5)] τ175 (c4 Q fun v205 v207 v209 v211 τ204 =>
 tI .u64 (fun n206 =>
 tI .u64 (fun n208 =>
 tB (fun c210 =>
 tI .i64 (fun n212 =>
 If (decide (n120 = 1)) (
 If (decide (n126 = 2)) (
 If (decide (n136 = 2)) (
 If (decide (n155 = 2)) (
 ldB (L b142 0 τ204) fun c246 =>
 om (L b142 1 τ204) fun v247 =>
 om (L b142 2 τ204) fun v248 =>
 E f_tree_Shelf_Save [(.pointer none), (.int .u64 2), (.agg #[(.bool c246), v247, v248])] τ204 (cI Q .i64 fun n250 τ249 =>
 If (decide (n250 = 2)) (
 If (decide (n163 = 2)) (
 If (decide (n173 = 2)) (
 If (decide (n183 = 2)) (
 If (decide (n206 = n110)) (
 If (!c210) (
 If (decide (n212 = 0)) (
 E f_tree_New [(.pointer none), (.pointer none)] τ249 (cV Q fun v265 τ264 =>
 ldB (aBin (some (.pointer t_tree_Shelf)) .eql v265 (.pointer none)) fun c266 =>
 Q (.ret (.bool c266)) τ264)) (
 Q (.ret (.bool false)) τ249)) (
 Q (.ret (.bool false)) τ249)) (
 Q (.ret (.bool false)) τ249)) (
 Q (.ret (.bool false)) τ249)) (
 Q (.ret (.bool false)) τ249)) (
 Q (.ret (.bool false)) τ249)) (
 Q (.ret (.bool false)) τ249))) (
 Q (.ret (.bool false)) τ204)) (
 Q (.ret (.bool false)) τ204)) (
 Q (.ret (.bool false)) τ204)) (
 Q (.ret (.bool false)) τ204)) v211) v209) v207) v205)) v182) v180) v178) v176)) v172) v170) v168) v166)) v162) v160) v158)) v154) v152)) v135) v132)) v125)) v119) v117) v115) v113))
def s_law11_TreeKnown_b1 (N1 : Int → Int → AHeap → Prop) (E : EvT) (Q : RK) (v19 : Value) (n12 n13 : Int) (τ20 : AHeap) : Prop :=
 If (decide (n13 < 9)) (
 om (aNil v19) fun v30 =>
 om (aFieldAddr 0 v30) fun v31 =>
 om (aLoad false 1 v31 τ20) fun v32 =>
 E f_refs_Refs_Alloc [v32] τ20 (c2 Q fun v34 v36 τ33 =>
 tI .i64 (fun n35 =>
 tI .i64 (fun n37 =>
 om (aNil v19) fun v40 =>
 om (aFieldAddr 1 v40) fun v41 =>
 om (aLoad false 1 v41 τ33) fun v42 =>
 Bi (wu64 (10 * n13)) fun n49 =>
 Bi (wu64 (n35)) fun n51 =>
 E f_tree_Insert [v42, (.int .u64 n12), (.int .u64 n49), (.int .u64 n51)] τ33 (c4 Q fun v53 v55 v57 v59 τ52 =>
 tI .u64 (fun n54 =>
 tI .u64 (fun n56 =>
 tB (fun c58 =>
 tI .i64 (fun n60 =>
 If (!decide (n60 = 0)) (
 isSkip skipV = true ∧
 (s_law11_TreeKnown_k12 N1 E Q true v19 n12 n13 n54 τ52)) (
 If (!((decide (n13 < 8)) == (decide (n54 = n12)))) (
 (s_law11_TreeKnown_k12 N1 E Q (decide (0 < n13)) v19 n12 n13 n54 τ52)) (
 (s_law11_TreeKnown_k12 N1 E Q false v19 n12 n13 n54 τ52)))) v59) v57) v55) v53)) v36) v34)) (
 om (aNil v19) fun v87 =>
 om (aFieldAddr 1 v87) fun v88 =>
 om (aLoad false 1 v88 τ20) fun v89 =>
 E f_tree_Shelf_Load [v89, (.int .u64 n12)] τ20 (c2 Q fun v92 v93 τ91 =>
 tI .i64 (fun n94 =>
 wNew τ91 (.cells [(.bool false), (.slice none 0 0), (.slice none 0 0)] t_api_Node false) fun b95 τ96 =>
 pu (aStore 3 (.pointer (some ⟨b95, 0, none⟩)) v92 τ96) fun τ97 =>
 If (!decide (n94 = 0)) (
 (s_law11_TreeKnown_k17 E Q true v19 n12 b95 τ97)) (
 ldB (L b95 0 τ97) fun c267 =>
 If c267 (
 (s_law11_TreeKnown_k17 E Q true v19 n12 b95 τ97)) (
 om (L b95 1 τ97) fun v268 =>
 ldI .i64 (lenS v268) fun n269 =>
 If (!decide (n269 = 2)) (
 (s_law11_TreeKnown_k17 E Q true v19 n12 b95 τ97)) (
 om (L b95 1 τ97) fun v270 =>
 om (aIndexAddr 1 v270 (.int .i64 0)) fun v271 =>
 ldI .u64 (aLoad false 1 v271 τ97) fun n272 =>
 If (!decide (n272 = 0)) (
 (s_law11_TreeKnown_k17 E Q true v19 n12 b95 τ97)) (
 om (L b95 1 τ97) fun v273 =>
 om (aIndexAddr 1 v273 (.int .i64 1)) fun v274 =>
 ldI .u64 (aLoad false 1 v274 τ97) fun n275 =>
 (s_law11_TreeKnown_k17 E Q (!decide (n275 = 50)) v19 n12 b95 τ97)))))) v93))
def s_law11_TreeKnown_k3 (E : EvT) (Q : RK) (c8 : Bool) (v15 : Value) (τ7 : AHeap) : Prop :=
 If c8 (
 Q (.ret (.bool false)) τ7) (
 ∃ I276 : Nat → Int → Int → AHeap → Prop, (∃ m, I276 m 0 0 τ7) ∧
 ∀ m (n12 : Int) (n13 : Int) (σ' : AHeap), I276 m n12 n13 σ' → (s_law11_TreeKnown_b1 (fun n12 n13 σ' => ∃ m', m' < m ∧ I276 m' n12 n13 σ') E Q v15 n12 n13 σ'))
def s_law11_TreeKnown (E : EvT) (Q : RK) (σ : AHeap) : Prop :=
 E f_law11_Made [(.int .i64 60), (.int .i64 3)] σ (cV Q fun v3 τ2 =>
 E f_law11_awake [] τ2 (cB Q fun c6 τ5 =>
 If (!c6) (
 (s_law11_TreeKnown_k3 E Q true v3 τ5)) (
 ldB (aBin (some (.pointer t_law11_Bench)) .eql v3 (.pointer none)) fun c280 =>
 (s_law11_TreeKnown_k3 E Q c280 v3 τ5))))
theorem q_law11_TreeKnown (E : EvT) (Q : RK) (σ : AHeap) : xfn P E Tryz.f4 (hl [(2, .loopr [1] [2, 48] [0, 1, 2] [0, 1, 2, 48])]) (fun | 2 => (.i .u64) | 48 => (.i .u64) | _ => .v) [] σ Q = s_law11_TreeKnown E Q σ := by kernel_rfl
theorem e_law11_TreeKnown {Q : RK} {σ : AHeap} (h : s_law11_TreeKnown E Q σ) : E f_law11_TreeKnown [] σ Q :=
  exfn Tryz.func4 _ _ (by kernel_rfl) (Eq.mpr (q_law11_TreeKnown E Q σ) h)
end Go.Ax.C
set_option maxRecDepth 100000
namespace Go.Ax.C
open Go.Proofs Go.RowKit
open O (CacheA Disk It DPlain)
variable {l r r2 m : List Assn} {σ : AHeap} {Q : RK}
theorem cready_none {v dv : Value} {K n a : Nat} {C : O.CM} {D : DM} {Q : WK} (h : H (CacheA v dv K C :: Disk dv D :: l) σ) (hD : DPlain D n) (ha : n ≤ a) (hQ : Q (.int .i64 6) σ) : O.E f_cache_Cache_ready [v, .int .i64 a] σ Q := by
  have h' := H_two.1 h
  obtain ⟨cb, mb, now, rowv, R, M, rfl, hc, hM, hnow, h1⟩ := O.cache_out h'
  have h1 := O.co_disk.1 h1
  obtain ⟨db, hdb⟩ := O.disk_ptr h1 4 rfl
  have hlen := hD.ok.len
  have hn2 := hD.ok.hi
  apply O.o_cache_Cache_ready_ev; unfold O.o_cache_Cache_ready
  have c0 := load1 (n := 1) (o := 0) (h1.row 0 rfl)
  simp [c0]
  rw [hdb]
  simp
  unfold O.o_cache_Cache_ready_k2
  simp [c0]
  refine O.off_ok h1 4 rfl ?_
  rw [hD.off]
  have hna : ¬ (a : Int) < 0 := by omega
  simp [hna, c0]
  refine O.blocks_ok h1 4 rfl (by omega) ?_
  have : D.last.length / 256 = n := by omega
  rw [this]
  unfold O.o_cache_Cache_ready_k4
  simpa [ha] using hQ
theorem cput_none {v dv w : Value} {K n a : Nat} {C : O.CM} {D : DM} (h : H l σ) [k1 : AtV l v (CacheA v dv K C) r] [k2 : AtV r dv (Disk dv D) r2] (hD : DPlain D n) (ha : n ≤ a) (hQ : Q (.ret (.int .i64 6)) σ) : E f_cache_Cache_Put [v, .int .i64 a, w] σ Q := by
  have h1 := (h.atv v).perm (k2.perm.cons _)
  refine O.up ?_
  apply O.o_cache_Cache_Put_ev; unfold O.o_cache_Cache_Put
  refine cready_none h1 hD ha ?_
  simp
  exact hQ
theorem put3' {b : Nat} {q : Bool} {c : List Value} {e : TypeId} {lf : Bool} {x y : Value} {K : Value → AHeap → Prop} (h : H l σ) [f : AtB l b (pt b (.cells c e q)) r] (hc : c.length = 3) (hx : one x = true) (hy : one y = true) (hK : ∀ σ', H r σ' → K (.agg #[.bool lf, x, y]) σ') :
    pu (aStore 3 (.pointer (some ⟨b, 0, none⟩)) (.agg #[.bool lf, x, y]) σ) fun τ => pu (aLoad true 3 (.pointer (some ⟨b, 0, none⟩)) τ) fun v => K v τ :=
  put3 (h.atb b) hc hx hy hK
inductive Bk where
  | raw (x : List UInt8)
  | nd (n : Nd)
structure TS where
  now : List Nat
  was : List Nat
  g : Nat → Bk
def Nd.fits (n : Nd) : Prop := 1 ≤ n.keys.length ∧ n.keys.length ≤ 8
def BkOk (a : Nat) (b : Bk) (x : List UInt8) : Prop :=
  match b with
  | .raw y => x = y
  | .nd n => n.fits → n.May ∧ n.small ∧ x = sealB n.form a 1
structure StOk (T : TS) (K : Nat) (C : O.CM) (D : DM) (M : Nat) : Prop where
  inv : CInv C D T.now.length
  fly : D.fly.length ≤ 4 * M
  k : K ≤ 2 * M
  bk : ∀ a < T.now.length, BkOk a (T.g a) (content C D a)
abbrev StL (sb rb cb : Nat) (dv : Value) (K : Nat) (C : O.CM) (D : DM) (T : TS) (l : List Assn) : List Assn :=
  pt sb (.cells [.pointer (some ⟨rb, 0, none⟩), .pointer (some ⟨cb, 0, none⟩)] t_tree_Shelf false) :: RfA rb T.now T.was :: CacheA (.pointer (some ⟨cb, 0, none⟩)) dv K C :: Disk dv D :: l
def StA (sb rb : Nat) (T : TS) (M : Nat) : Assn := ex fun p : (Nat × Value × Nat) × O.CM × DM => sep (pure' (StOk T p.1.2.2 p.2.1 p.2.2 M)) (Star (StL sb rb p.1.1 p.1.2.1 p.1.2.2 p.2.1 p.2.2 T []))
theorem H_st {sb rb : Nat} {T : TS} {M : Nat} : H (StA sb rb T M :: l) σ ↔ ∃ cb dv K C D, StOk T K C D M ∧ H (StL sb rb cb dv K C D T l) σ := by
  unfold StA
  rw [H_ex]
  constructor
  · rintro ⟨⟨⟨a, b, c⟩, d, e⟩, h⟩
    rw [H_sep, H_pure, H_star] at h
    exact ⟨a, b, c, d, e, h.1, h.2⟩
  · rintro ⟨a, b, c, d, e, h1, h2⟩
    refine ⟨⟨⟨a, b, c⟩, d, e⟩, ?_⟩
    rw [H_sep, H_pure, H_star]
    exact ⟨h1, h2⟩
theorem st_le {sb rb : Nat} {T : TS} {M N : Nat} (hM : M ≤ N) (h : H (StA sb rb T M :: l) σ) : H (StA sb rb T N :: l) σ := by
  obtain ⟨cb, dv, K, C, D, h1, h2⟩ := H_st.1 h
  exact H_st.2 ⟨cb, dv, K, C, D, ⟨h1.inv, by have := h1.fly; omega, by have := h1.k; omega, h1.bk⟩, h2⟩
theorem sright {sb rb : Nat} {T : TS} {M : Nat} {a : Int} (h : H (StA sb rb T M :: l) σ) (hQ : Q (.ret (.int .i64 (if 2147483647 < a then 1 else 0))) σ) : E f_tree_Shelf_right [.pointer (some ⟨sb, 0, none⟩), .int .u64 a] σ Q := by
  obtain ⟨cb, dv, K, C, D, h1, h2⟩ := H_st.1 h
  apply e_tree_Shelf_right; unfold s_tree_Shelf_right
  rw [LV h2, bin_peq1, ldB_some]
  refine If_f rfl ?_
  rw [LV h2, bin_peq1, ldB_some]
  unfold s_tree_Shelf_right_k2
  refine If_f rfl ?_
  refine If_dec (fun g => ?_) fun g => ?_
  · rw [if_pos g] at hQ; exact hQ
  · rw [if_neg g] at hQ; exact hQ
theorem sload' {sb rb a : Nat} {T : TS} {M : Nat} (h : H (StA sb rb T M :: l) σ) (hM : M ≤ 100000000000) (ha : a < T.now.length)
    (hno : ∀ (x : List UInt8) (e : Int) σ', BkOk a (T.g a) x → x.length = 256 → e ≠ 0 → (openE x a 1 = 0 → NoForm (x.take 240)) → (openE x a 1 ≠ 0 → e = openE x a 1) → H (StA sb rb T (M + 1) :: l) σ' → Q (.ret (.tuple #[noNode, .int .i64 e])) σ')
    (hyes : ∀ (x : List UInt8) (n : Nd) kv vv σ', BkOk a (T.g a) x → n.May → n.small → openE x a 1 = 0 → x.take 240 = pad240 n.form → H (RoU kv n.keys :: RoU vv n.vals :: StA sb rb T (M + 1) :: l) σ' → Q (.ret (.tuple #[.agg #[.bool n.leaf, kv, vv], .int .i64 0])) σ') :
    E f_tree_Shelf_Load [.pointer (some ⟨sb, 0, none⟩), .int .u64 a] σ Q := by
  apply e_tree_Shelf_Load; unfold s_tree_Shelf_Load
  refine nw h ?_
  intro b1 σ1 h1
  have hN := (rf_ok (H_st.1 h).choose_spec.choose_spec.choose_spec.choose_spec.choose_spec.2.tail).hi
  refine sright (h1.perm (.swap _ _ _)) ?_
  rw [if_neg (by omega), cI_ret]
  refine If_ne (fun g => absurd rfl g) fun _ => ?_
  obtain ⟨cb, dv, K, C, D, hok, h2⟩ := H_st.1 (h1.perm (.swap _ _ _))
  rw [LV h2]
  refine b64 (a : Int) (by omega) ?_
  have hf := hok.fly
  have hk := hok.k
  refine cget h2 hok.inv ha (by omega) (by omega) ?_
  intro w σ2 C' D' hI' hn' hc' hf' _ _ h3
  have hbk : BkOk a (T.g a) (content C D a) := hok.bk a ha
  have hxl : (content C D a).length = 256 := content_len hok.inv ha
  have hst : ∀ {m : List Assn} {τ : AHeap}, H (CacheA (.pointer (some ⟨cb, 0, none⟩)) dv (K + 2) C' :: Disk dv D' :: pt sb (.cells [.pointer (some ⟨rb, 0, none⟩), .pointer (some ⟨cb, 0, none⟩)] t_tree_Shelf false) :: RfA rb T.now T.was :: m) τ → H (StA sb rb T (M + 1) :: m) τ := by
    intro m τ ht
    refine H_st.2 ⟨cb, dv, K + 2, C', D', ⟨hI', by omega, by omega, fun x hx => by rw [hc' x hx]; exact hok.bk x hx⟩, ht.re⟩
  rw [c2_ret, tI_int]
  refine If_ne (fun g => absurd rfl g) fun _ => ?_
  refine b64 (a : Int) (by omega) ?_
  have h3 : H (Own t_uint8 1 w 256 (bv (content C D a)) :: CacheA (.pointer (some ⟨cb, 0, none⟩)) dv (K + 2) C' :: Disk dv D' :: pt sb (.cells [.pointer (some ⟨rb, 0, none⟩), .pointer (some ⟨cb, 0, none⟩)] t_tree_Shelf false) :: RfA rb T.now T.was :: pt b1 (.cells [.bool false, .slice none 0 0, .slice none 0 0] t_api_Node false) :: l) σ2 := h3.re
  refine sopen (kind := 1) h3 (fun τ ht => own_bts ht) hxl (by omega) (by omega) ?_ ?_
  · intro ho σ3 h4
    rw [c2_ret, tI_int]
    refine If_ne (fun _ => ?_) fun g => absurd g (by omega)
    refine put3' (K := fun v τ => Q (.ret (.tuple #[v, .int .i64 (openE (content C D a) a 1 : Nat)])) τ) h4 rfl rfl rfl ?_
    intro σ4 h5
    exact hno (content C D a) (openE (content C D a) a 1 : Nat) σ4 hbk hxl (by omega) (fun e => absurd e ho) (fun _ => rfl) (hst h5.tail)
  · intro ho w2 σ3 h4
    rw [c2_ret, tI_int]
    refine If_ne (fun g => absurd rfl g) fun _ => ?_
    refine ntake h4 (fun τ ht => own_bts ht) (by simp; omega) ?_ ?_
    · intro e he hnf σ4 h5
      rw [c2_ret, tI_int]
      refine put3' (K := fun v τ => Q (.ret (.tuple #[v, .int .i64 e])) τ) h5 rfl rfl rfl ?_
      intro σ5 h6
      exact hno _ e σ5 hbk hxl he (fun _ => hnf) (fun g => absurd ho g) (hst h6.tail.tail)
    · intro n kv vv σ4 hm hs hx h5
      rw [c2_ret, tI_int]
      obtain ⟨a1, c1, hkv⟩ := rou_form h5
      obtain ⟨a2, c2, hvv⟩ := rou_form h5.tail
      refine put3' (K := fun v τ => Q (.ret (.tuple #[v, .int .i64 0])) τ) h5 rfl (by rw [hkv]; rfl) (by rw [hvv]; rfl) ?_
      intro σ5 h6
      refine hyes _ n kv vv σ5 hbk hm hs ho hx ?_
      have h7 : H (CacheA (.pointer (some ⟨cb, 0, none⟩)) dv (K + 2) C' :: Disk dv D' :: pt sb (.cells [.pointer (some ⟨rb, 0, none⟩), .pointer (some ⟨cb, 0, none⟩)] t_tree_Shelf false) :: RfA rb T.now T.was :: RoU kv n.keys :: RoU vv n.vals :: l) σ5 := h6.re
      exact (hst h7).re
theorem sload {sb rb a : Nat} {T : TS} {M : Nat} {n : Nd} (h : H (StA sb rb T M :: l) σ) (hM : M ≤ 100000000000) (ha : a < T.now.length) (hg : T.g a = .nd n) (hf : n.fits)
    (hQ : ∀ kv vv σ', n.May → n.small → H (RoU kv n.keys :: RoU vv n.vals :: StA sb rb T (M + 1) :: l) σ' → Q (.ret (.tuple #[.agg #[.bool n.leaf, kv, vv], .int .i64 0])) σ') :
    E f_tree_Shelf_Load [.pointer (some ⟨sb, 0, none⟩), .int .u64 a] σ Q := by
  have hN := (rf_ok (H_st.1 h).choose_spec.choose_spec.choose_spec.choose_spec.choose_spec.2.tail).hi
  have key : ∀ x, BkOk a (T.g a) x → n.May ∧ n.small ∧ openE x a 1 = 0 ∧ x.take 240 = pad240 n.form := by
    intro x hx
    rw [hg] at hx
    obtain ⟨h1, h2, rfl⟩ := hx hf
    have hl := form_len n h1.1.2.2
    have := h1.1.2.1
    obtain ⟨e1, e2⟩ := open_seal (p := n.form) (a := a) (kind := 1) (by omega) (by omega) (by omega)
    exact ⟨h1, h2, e1, e2⟩
  refine sload' h hM ha ?_ ?_
  · intro x e σ' hx _ _ hnf _ _
    obtain ⟨h1, h2, h3, h4⟩ := key x hx
    exact absurd h4 (hnf h3 n h1 h2)
  · intro x p kv vv σ' hx hm hs _ he h1
    obtain ⟨h2, h3, _, h5⟩ := key x hx
    have := form_inj hm h2 hs h3 (he.symm.trans h5)
    subst this
    exact hQ kv vv σ' hm hs h1
end Go.Ax.C
set_option maxRecDepth 100000
namespace Go.Ax.C
open Go.Proofs Go.RowKit
open O (CacheA Disk It DPlain)
variable {l r r2 m : List Assn} {σ : AHeap} {Q : RK}
inductive R (α : Type) where
  | ok (a : α) (T : TS)
  | err (e : Nat) (T : TS)
  | stuck
def R.bind {α β : Type} (r : R α) (k : α → TS → R β) : R β :=
  match r with
  | .ok a T => k a T
  | .err e T => .err e T
  | .stuck => .stuck
@[simp] theorem R.bind_ok {α β : Type} (a : α) (T : TS) (k : α → TS → R β) : (R.ok a T).bind k = k a T := rfl
@[simp] theorem R.bind_err {α β : Type} (e : Nat) (T : TS) (k : α → TS → R β) : (R.err e T : R α).bind k = .err e T := rfl
@[simp] theorem R.bind_stuck {α β : Type} (k : α → TS → R β) : (R.stuck : R α).bind k = .stuck := rfl
instance (n : Nd) : Decidable n.fits := by unfold Nd.fits; exact inferInstance
def TS.put (T : TS) (a : Nat) (n : Nd) : TS := { T with g := fun x => if x = a then .nd n else T.g x }
def TS.node (T : TS) (a : Nat) : Option Nd :=
  match T.g a with
  | .nd n => if n.fits then some n else none
  | .raw _ => none
def least (now was : List Nat) : Option Nat := (fre now was).findIdx? id
def TS.alloc (T : TS) : R Nat :=
  match least T.now T.was with
  | none => .err 8 T
  | some a => .ok a { T with now := T.now.set a 1 }
def TS.inc (T : TS) (a : Nat) : R Unit :=
  match T.now[a]? with
  | none => .stuck
  | some x => if x = 0 then .err 6 T else if x = 255 then .err 8 T else .ok () { T with now := T.now.set a (x + 1) }
def TS.dec (T : TS) (a : Nat) : R Bool :=
  match T.now[a]? with
  | none => .stuck
  | some x => if x = 0 then .err 6 T else .ok (decide (x = 1)) { T with now := T.now.set a (x - 1) }
def incs : List Nat → TS → R Unit
  | [], T => .ok () T
  | v :: vs, T => (T.inc v).bind fun _ T => incs vs T
def TS.make (T : TS) (n : Nd) : R Nat := if n.May then T.alloc.bind fun a T => .ok a (T.put a n) else .err 1 T
def TS.shadow (T : TS) (a : Nat) : R (Nat × Nd) :=
  match T.node a, T.now[a]?, T.was[a]? with
  | some n, some x, some y =>
    if x = 1 ∧ y = 0 then .ok (a, n) T
    else if x = 0 then .stuck
    else T.alloc.bind fun own T => (if 1 < x then incs n.vals T else .ok () T).bind fun _ T => (T.dec a).bind fun _ T => .ok (own, n) (T.put own n)
  | _, _, _ => .stuck
theorem node_some {T : TS} {a : Nat} {n : Nd} (h : T.node a = some n) : T.g a = .nd n ∧ n.fits := by
  unfold TS.node at h
  split at h
  · rename_i p hp
    split at h
    · rename_i hf; cases h; exact ⟨hp, hf⟩
    · cases h
  · cases h
theorem least_none {now was : List Nat} (h : ∀ a : Nat, (fre now was)[a]? ≠ some true) : least now was = none := by
  unfold least
  rw [List.findIdx?_eq_none_iff]
  intro x hx
  obtain ⟨i, hi, rfl⟩ := List.getElem_of_mem hx
  have := h i
  rw [List.getElem?_eq_getElem hi] at this
  simpa using this
theorem least_some {now was : List Nat} {a : Nat} (ha : (fre now was)[a]? = some true) (h : ∀ b < a, (fre now was)[b]? ≠ some true) : least now was = some a := by
  unfold least
  rw [List.findIdx?_eq_some_iff_getElem]
  obtain ⟨hl, he⟩ := List.getElem?_eq_some_iff.1 ha
  refine ⟨hl, he, fun j hj => ?_⟩
  have := h j hj
  rw [List.getElem?_eq_getElem (by omega)] at this
  simpa using this
theorem st_ok {sb rb : Nat} {T : TS} {M : Nat} (h : H (StA sb rb T M :: l) σ) : RfOk T.now T.was := by
  obtain ⟨_, _, _, _, _, _, h2⟩ := H_st.1 h
  exact rf_ok h2.tail
theorem bk_put {T : TS} {a x : Nat} {n : Nd} {c : Nat → List UInt8} (h : BkOk x (T.g x) (c x)) (hn : n.May → n.fits → n.small) (hm : n.fits → n.May) : BkOk x ((T.put a n).g x) (if x = a then sealB n.form a 1 else c x) := by
  unfold TS.put
  simp only
  by_cases e : x = a
  · subst e
    rw [if_pos rfl, if_pos rfl]
    intro hf
    exact ⟨hm hf, hn (hm hf) hf, rfl⟩
  · rw [if_neg e, if_neg e]; exact h
theorem ssave {sb rb a : Nat} {T : TS} {M : Nat} {n : Nd} {kv vv : Value} (h : H (StA sb rb T M :: l) σ) (hM : M ≤ 100000000000) (hn : NdS l kv vv n) (hs : n.small) (hk9 : n.keys.length < 9223372036854775808) (hv9 : n.vals.length < 9223372036854775808)
    (hno : 2147483647 < a ∨ ¬ n.May → ∀ σ', H (StA sb rb T M :: l) σ' → Q (.ret (.int .i64 1)) σ')
    (hnone : a ≤ 2147483647 → n.May → T.now.length ≤ a → ∀ σ', H (StA sb rb T M :: l) σ' → Q (.ret (.int .i64 6)) σ')
    (hyes : n.May → a < T.now.length → ∀ σ', H (StA sb rb (T.put a n) (M + 1) :: l) σ' → Q (.ret (.int .i64 0)) σ') :
    E f_tree_Shelf_Save [.pointer (some ⟨sb, 0, none⟩), .int .u64 a, .agg #[.bool n.leaf, kv, vv]] σ Q := by
  apply e_tree_Shelf_Save; unfold s_tree_Shelf_Save
  refine nw h ?_
  intro b1 σ1 h1
  refine sright (h1.perm (.swap _ _ _)) ?_
  rw [cI_ret]
  by_cases hb : (2147483647 : Int) < (a : Int)
  · rw [if_pos hb]
    refine If_ne (fun _ => ?_) fun g => absurd g (by omega)
    exact hno (.inl (by omega)) σ1 h1.tail
  rw [if_neg hb]
  refine If_ne (fun g => absurd rfl g) fun _ => ?_
  rw [LB h1, LV h1, LV h1]
  refine nput (l := pt b1 (.cells [.bool n.leaf, kv, vv] t_api_Node false) :: StA sb rb T M :: l) h1 ((hn.cons).cons) hk9 hv9 ?_ ?_
  · intro hm σ2 h2
    rw [c2_ret, tI_int]
    refine If_ne (fun _ => ?_) fun g => absurd g (by decide)
    exact hno (.inr hm) σ2 h2.tail
  · intro hm w σ2 h2
    rw [c2_ret, tI_int]
    refine If_ne (fun g => absurd rfl g) fun _ => ?_
    refine b64 (a : Int) (by omega) ?_
    have hfl := form_len n hm.1.2.2
    have := hm.1.2.1
    refine sseal (kind := 1) h2 (fun τ ht => rob_bts ht) (by omega) (by omega) (by omega) ?_
    intro w2 σ3 h3
    rw [c2_ret, tI_int]
    refine If_ne (fun g => absurd rfl g) fun _ => ?_
    have h3 : H (StA sb rb T M :: Own t_uint8 1 w2 256 (bv (sealB n.form a 1)) :: RoB w n.form :: pt b1 (.cells [.bool n.leaf, kv, vv] t_api_Node false) :: l) σ3 := h3.re
    obtain ⟨cb, dv, K, C, D, hok, h4⟩ := H_st.1 h3
    rw [LV h4]
    refine b64 (a : Int) (by omega) ?_
    have hf := hok.fly
    have hk := hok.k
    by_cases ha : a < T.now.length
    · refine cput h4 hok.inv ha (sealB_len (by omega)) (by omega) (by omega) ?_
      intro σ5 C' D' hI' hn' hc' hf' _ _ _ h5
      rw [cI_ret]
      refine hyes hm ha σ5 ?_
      have h6 : H (StL sb rb cb dv (K + 2) C' D' T l) σ5 := h5.re
      refine H_st.2 ⟨cb, dv, K + 2, C', D', ⟨hI', by omega, by omega, fun x hx => ?_⟩, h6⟩
      have e : content C' D' x = if x = a then sealB n.form a 1 else content C D x := hc' x hx
      rw [e]
      exact bk_put (c := content C D) (hok.bk x hx) (fun _ _ => hs) (fun _ => hm)
    · refine cput_none h4 hok.inv.dp (by omega) ?_
      rw [cI_ret]
      exact hnone (by omega) hm (by omega) σ3 (h3.re : H (StA sb rb T M :: l) σ3)
theorem stalloc {sb rb : Nat} {T : TS} {M : Nat} (h : H (StA sb rb T M :: l) σ) {v : Value} (hv : v = .pointer (some ⟨rb, 0, none⟩))
    (hno : T.alloc = .err 8 T → ∀ σ', H (StA sb rb T M :: l) σ' → Q (.ret (.tuple #[.int .i64 0, .int .i64 8])) σ')
    (hyes : ∀ (a : Nat) σ', T.alloc = .ok a { T with now := T.now.set a 1 } → T.now[a]? = some 0 → T.was[a]? = some 0 → H (StA sb rb { T with now := T.now.set a 1 } M :: l) σ' → Q (.ret (.tuple #[.int .i64 a, .int .i64 0])) σ') :
    E f_refs_Refs_Alloc [v] σ Q := by
  subst hv
  obtain ⟨cb, dv, K, C, D, hok, h2⟩ := H_st.1 h
  have h3 : H (RfA rb T.now T.was :: pt sb (.cells [.pointer (some ⟨rb, 0, none⟩), .pointer (some ⟨cb, 0, none⟩)] t_tree_Shelf false) :: CacheA (.pointer (some ⟨cb, 0, none⟩)) dv K C :: Disk dv D :: l) σ := h2.re
  refine ralloc h3 ?_ ?_
  · intro hn σ1 h4
    exact hno (by unfold TS.alloc; rw [least_none hn]) σ1 (H_st.2 ⟨cb, dv, K, C, D, hok, h4.re⟩)
  · intro a σ1 ha hw hb h4
    refine hyes a σ1 (by unfold TS.alloc; rw [least_some (by rw [fre_get ha hw]; rfl) hb]) ha hw (H_st.2 ⟨cb, dv, K, C, D, ⟨by simpa using hok.inv, hok.fly, hok.k, fun x hx => hok.bk x (by simpa using hx)⟩, h4.re⟩)
theorem st_now {sb rb : Nat} {T : TS} {M : Nat} (h : H (StA sb rb T M :: l) σ) : ∃ l0, H (RfA rb T.now T.was :: l0) σ ∧ ∀ now' σ', now'.length = T.now.length → H (RfA rb now' T.was :: l0) σ' → H (StA sb rb { T with now := now' } M :: l) σ' := by
  obtain ⟨cb, dv, K, C, D, hok, h2⟩ := H_st.1 h
  refine ⟨pt sb (.cells [.pointer (some ⟨rb, 0, none⟩), .pointer (some ⟨cb, 0, none⟩)] t_tree_Shelf false) :: CacheA (.pointer (some ⟨cb, 0, none⟩)) dv K C :: Disk dv D :: l, h2.re, fun now' σ' hl h3 => ?_⟩
  exact H_st.2 ⟨cb, dv, K, C, D, ⟨by simp only [hl]; exact hok.inv, hok.fly, hok.k, fun x hx => hok.bk x (by simpa [hl] using hx)⟩, h3.re⟩
theorem stinc {sb rb a : Nat} {T : TS} {M : Nat} (h : H (StA sb rb T M :: l) σ) {v : Value} (hv : v = .pointer (some ⟨rb, 0, none⟩)) (hst : T.inc a ≠ .stuck)
    (hno : ∀ (e : Nat) σ', e ≠ 0 → T.inc a = .err e T → H (StA sb rb T M :: l) σ' → Q (.ret (.int .i64 e)) σ')
    (hyes : ∀ T' σ', T.inc a = .ok () T' → H (StA sb rb T' M :: l) σ' → Q (.ret (.int .i64 0)) σ') :
    E f_refs_Refs_Inc [v, .int .i64 a] σ Q := by
  subst hv
  obtain ⟨l0, h1, h2⟩ := st_now h
  unfold TS.inc at hst hno hyes
  cases hx : T.now[a]? with
  | none => rw [hx] at hst; exact absurd rfl hst
  | some x =>
    rw [hx] at hno hyes
    simp only at hno hyes
    refine rinc h1 hx (fun e => hno 6 σ (by decide) (by rw [if_pos e]) h) (fun e => hno 8 σ (by decide) (by rw [if_neg (by omega), if_pos e]) h) fun h0 h255 σ' h3 => ?_
    exact hyes _ σ' (by rw [if_neg h0, if_neg (by omega)]) (h2 _ σ' (by simp) h3)
theorem stdec {sb rb a : Nat} {T : TS} {M : Nat} (h : H (StA sb rb T M :: l) σ) {v : Value} (hv : v = .pointer (some ⟨rb, 0, none⟩)) (hst : T.dec a ≠ .stuck)
    (hno : ∀ (e : Nat) σ', e ≠ 0 → T.dec a = .err e T → H (StA sb rb T M :: l) σ' → Q (.ret (.tuple #[.bool false, .int .i64 e])) σ')
    (hyes : ∀ b T' σ', T.dec a = .ok b T' → H (StA sb rb T' M :: l) σ' → Q (.ret (.tuple #[.bool b, .int .i64 0])) σ') :
    E f_refs_Refs_Dec [v, .int .i64 a] σ Q := by
  subst hv
  obtain ⟨l0, h1, h2⟩ := st_now h
  unfold TS.dec at hst hno hyes
  cases hx : T.now[a]? with
  | none => rw [hx] at hst; exact absurd rfl hst
  | some x =>
    rw [hx] at hno hyes
    simp only at hno hyes
    refine rdec h1 hx (fun e => hno 6 σ (by decide) (by rw [if_pos e]) h) fun h0 σ' h3 => ?_
    exact hyes _ _ σ' (by rw [if_neg h0]) (h2 _ σ' (by simp) h3)
theorem smake {sb rb : Nat} {T : TS} {M : Nat} {n : Nd} {kv vv : Value} (h : H (StA sb rb T M :: l) σ) (hM : M ≤ 100000000000) (hn : NdS l kv vv n) (hs : n.small) (hk9 : n.keys.length < 9223372036854775808) (hv9 : n.vals.length < 9223372036854775808)
    (hno : ∀ (e : Nat) σ', e ≠ 0 → T.make n = .err e T → H (StA sb rb T M :: l) σ' → Q (.ret (.tuple #[.int .u64 0, .int .i64 e])) σ')
    (hyes : ∀ (a : Nat) T' σ', T.make n = .ok a T' → H (StA sb rb T' (M + 1) :: l) σ' → Q (.ret (.tuple #[.int .u64 a, .int .i64 0])) σ') :
    E f_tree_Shelf_Make [.pointer (some ⟨sb, 0, none⟩), .agg #[.bool n.leaf, kv, vv]] σ Q := by
  apply e_tree_Shelf_Make; unfold s_tree_Shelf_Make
  refine nw h ?_
  intro b1 σ1 h1
  refine sright (h1.perm (.swap _ _ _)) ?_
  rw [cI_ret, if_neg (by omega)]
  refine If_ne (fun g => absurd rfl g) fun _ => ?_
  rw [LB h1, LV h1, LV h1]
  refine nmay h1 ((hn.cons).cons) hk9 hv9 ?_
  intro σ2 h2
  rw [cB_ret]
  unfold TS.make at hno hyes
  by_cases hm : n.May
  · rw [if_pos hm] at hno hyes
    rw [decide_eq_true hm]
    refine If_f rfl ?_
    have h2 : H (StA sb rb T M :: pt b1 (.cells [.bool n.leaf, kv, vv] t_api_Node false) :: l) σ2 := h2.re
    obtain ⟨cb, dv, K, C, D, hok, h3⟩ := H_st.1 h2
    rw [LV h3]
    refine stalloc h2 rfl ?_ ?_
    · intro ha σ3 h4
      rw [c2_ret, tI_int, tI_int]
      refine If_ne (fun _ => ?_) fun g => absurd g (by decide)
      refine hno 8 σ3 (by decide) (by rw [ha]; rfl) (h4.re : H (StA sb rb T M :: l) σ3)
    · intro a σ3 ha hx hy h4
      rw [c2_ret, tI_int, tI_int]
      refine If_ne (fun g => absurd rfl g) fun _ => ?_
      have hal := (List.getElem?_eq_some_iff.1 hx).1
      have := (st_ok h).hi
      refine bu64 (a : Int) (by omega) ?_
      rw [LB h4, LV h4, LV h4]
      refine ssave h4 hM hn.cons hs hk9 hv9 (fun g => ?_) (fun _ _ g => ?_) ?_
      · rcases g with g | g
        · omega
        · exact absurd hm g
      · simp at g; omega
      · intro _ _ σ4 h5
        rw [cI_ret]
        refine If_ne (fun g => absurd rfl g) fun _ => ?_
        refine bu64 (a : Int) (by omega) ?_
        exact hyes a _ σ4 (by rw [ha]; rfl) (h5.re : H (StA sb rb _ (M + 1) :: l) σ4)
  · rw [if_neg hm] at hno
    rw [decide_eq_false hm]
    refine If_t rfl ?_
    exact hno 1 σ2 (by decide) rfl (h2.re : H (StA sb rb T M :: l) σ2)
end Go.Ax.C
set_option maxRecDepth 100000
namespace Go.Ax.C
open Go.Proofs Go.RowKit
variable {l r r2 m : List Assn} {σ : AHeap} {Q : RK}
theorem us_get {v : Value} {xs : List Nat} (h : Us σ v xs) {k x : Nat} (hk : xs[k]? = some x) : ∃ p, aIndexAddr 1 v (.int .i64 k) = some (.pointer (some p)) ∧ aLoad false 1 (.pointer (some p)) σ = some (.int .u64 x) := by
  obtain ⟨p, h1, h2⟩ := us_elem h hk
  exact ⟨p, h1 _, h2 _⟩
theorem inc_lt {T T' : TS} {a : Nat} (h : T.inc a = .ok () T') : a < T.now.length ∧ T'.now.length = T.now.length ∧ T'.was = T.was ∧ T'.g = T.g := by
  unfold TS.inc at h
  split at h
  · cases h
  · rename_i x hx
    split at h
    · cases h
    · split at h
      · cases h
      · cases h; exact ⟨(List.getElem?_eq_some_iff.1 hx).1, by simp, rfl, rfl⟩
theorem inc_ne {T : TS} {a : Nat} (h : T.inc a ≠ .stuck) : a < T.now.length := by
  unfold TS.inc at h
  split at h
  · exact absurd rfl h
  · rename_i x hx; exact (List.getElem?_eq_some_iff.1 hx).1
theorem incs_nil (T : TS) : incs [] T = .ok () T := rfl
theorem incs_cons (v : Nat) (vs : List Nat) (T : TS) : incs (v :: vs) T = (T.inc v).bind fun _ T => incs vs T := rfl
theorem sshadow {sb rb a : Nat} {T : TS} {M : Nat} (h : H (StA sb rb T M :: l) σ) (hM : M ≤ 99999999999) (hst : T.shadow a ≠ .stuck)
    (hno : ∀ (e : Nat) T' σ', e ≠ 0 → T.shadow a = .err e T' → H (StA sb rb T' (M + 2) :: l) σ' → Q (.ret (.tuple #[.int .u64 0, noNode, .int .i64 e])) σ')
    (hyes : ∀ (own : Nat) n T' kv vv σ', T.shadow a = .ok (own, n) T' → n.May → n.small → own < T.now.length → H (RoU kv n.keys :: RoU vv n.vals :: StA sb rb T' (M + 2) :: l) σ' → Q (.ret (.tuple #[.int .u64 own, .agg #[.bool n.leaf, kv, vv], .int .i64 0])) σ') :
    E f_tree_Shelf_Shadow [.pointer (some ⟨sb, 0, none⟩), .int .u64 a] σ Q := by
  have hN := st_ok h
  unfold TS.shadow at hst hno hyes
  cases hnd : T.node a with
  | none => rw [hnd] at hst; exact absurd rfl hst
  | some n =>
  cases hx : T.now[a]? with
  | none => rw [hnd, hx] at hst; exact absurd rfl hst
  | some x =>
  cases hy : T.was[a]? with
  | none => rw [hnd, hx, hy] at hst; exact absurd rfl hst
  | some y =>
  simp only [hnd, hx, hy] at hst hno hyes
  obtain ⟨hg, hf⟩ := node_some hnd
  have ha := (List.getElem?_eq_some_iff.1 hx).1
  have hx8 := hN.now8 x (List.mem_of_getElem? hx)
  have hhi := hN.hi
  apply e_tree_Shelf_Shadow; unfold s_tree_Shelf_Shadow
  refine nw h ?_
  intro b1 σ1 h1
  refine sload (h1.perm (.swap _ _ _)) (by omega) ha hg hf ?_
  intro kv vv σ2 hm hs h2
  have hkf := (⟨hm.1.1, hm.1.2.1⟩ : 1 ≤ n.keys.length ∧ n.keys.length ≤ 8)
  have hvl := hm.1.2.2
  obtain ⟨a1, c1, hkv⟩ := rou_form h2
  obtain ⟨a2, c2, hvv⟩ := rou_form h2.tail
  have ok1 : one kv = true := by rw [hkv]; rfl
  have ok2 : one vv = true := by rw [hvv]; rfl
  rw [c2_ret, tI_int]
  refine nw h2 ?_
  intro b10 σ3 h3
  refine st3 h3 rfl ok1 ok2 ?_
  intro σ4 h4
  refine If_ne (fun g => absurd rfl g) fun _ => ?_
  refine b64 (a : Int) (by omega) ?_
  have h4 : H (StA sb rb T (M + 1) :: pt b10 (.cells [.bool n.leaf, kv, vv] t_api_Node false) :: pt b1 (.cells [.bool false, .slice none 0 0, .slice none 0 0] t_api_Node false) :: RoU kv n.keys :: RoU vv n.vals :: l) σ4 := h4.re
  -- the nodes' memory, whatever comes
  have hns : NdS (pt b10 (.cells [.bool n.leaf, kv, vv] t_api_Node false) :: pt b1 (.cells [.bool false, .slice none 0 0, .slice none 0 0] t_api_Node false) :: RoU kv n.keys :: RoU vv n.vals :: l) kv vv n := NdS.two.cons.cons
  have cold : ∀ {τ : AHeap} {T1 : TS} {N : Nat}, H (StA sb rb T1 N :: l) τ → True := fun _ => trivial
  -- the shelf's pointers
  have ptrs : ∀ {τ : AHeap} {T1 : TS} {N : Nat} {l1 : List Assn}, H (StA sb rb T1 N :: l1) τ → L sb 0 τ = some (.pointer (some ⟨rb, 0, none⟩)) := by
    intro τ T1 N l1 ht
    obtain ⟨cb, dv, K, C, D, _, h6⟩ := H_st.1 ht
    exact L_eq h6
  rw [ptrs h4, om_some]
  obtain ⟨l0, h5, h5'⟩ := st_now h4
  refine rfresh h5 hx hy ?_
  rw [cB_ret]
  -- to the end, with whatever the counts are
  have k19 : ∀ (own : Nat) (T2 : TS) (τ : AHeap), own < T.now.length → T2.now.length = T.now.length → T2.was = T.was → T2.g = T.g → (T2.dec a).bind (fun _ T3 => R.ok (own, n) (T3.put own n)) ≠ .stuck →
      (∀ (e : Nat) T' σ', e ≠ 0 → (T2.dec a).bind (fun _ T3 => R.ok (own, n) (T3.put own n)) = .err e T' → H (StA sb rb T' (M + 2) :: l) σ' → Q (.ret (.tuple #[.int .u64 0, noNode, .int .i64 e])) σ') →
      (∀ own' n' T' kv vv σ', (T2.dec a).bind (fun _ T3 => R.ok (own, n) (T3.put own n)) = .ok (own', n') T' → n'.May → n'.small → own' < T.now.length → H (RoU kv n'.keys :: RoU vv n'.vals :: StA sb rb T' (M + 2) :: l) σ' → Q (.ret (.tuple #[.int .u64 own', .agg #[.bool n'.leaf, kv, vv], .int .i64 0])) σ') →
      H (StA sb rb T2 (M + 1) :: pt b10 (.cells [.bool n.leaf, kv, vv] t_api_Node false) :: pt b1 (.cells [.bool false, .slice none 0 0, .slice none 0 0] t_api_Node false) :: RoU kv n.keys :: RoU vv n.vals :: l) τ →
      s_tree_Shelf_Shadow_k19 E Q sb a b1 own b10 τ := by
    intro own T2 τ hown hl2 hw2 hg2 hst2 hno2 hyes2 ht
    unfold s_tree_Shelf_Shadow_k19
    rw [ptrs ht, om_some]
    have hds : T2.dec a ≠ .stuck := fun e => hst2 (by rw [e]; rfl)
    refine stdec ht rfl hds ?_ ?_
    · intro e τ1 he hde h6
      rw [c2_ret, tB_bool, tI_int]
      refine If_ne (fun _ => ?_) fun g => absurd g (by omega)
      refine put3' (K := fun v τ => Q (.ret (.tuple #[.int .u64 0, v, .int .i64 e])) τ) h6 rfl rfl rfl ?_
      intro τ2 h7
      exact hno2 e T2 τ2 he (by rw [hde]; rfl) (st_le (by omega) (h7.re : H (StA sb rb T2 (M + 1) :: l) τ2))
    · intro b T3 τ1 hde h6
      rw [c2_ret, tB_bool, tI_int]
      refine If_ne (fun g => absurd rfl g) fun _ => ?_
      refine bu64 (own : Int) (by omega) ?_
      rw [LB h6, LV h6, LV h6]
      have hl3 : T3.now.length = T.now.length := by
        unfold TS.dec at hde
        split at hde
        · cases hde
        · split at hde
          · cases hde
          · cases hde; simpa using hl2
      refine ssave h6 (by omega) hns hs (by omega) (by omega) (fun g => ?_) (fun _ _ g => ?_) ?_
      · rcases g with g | g
        · omega
        · exact absurd hm g
      · omega
      · intro _ _ τ2 h7
        rw [cI_ret]
        refine If_ne (fun g => absurd rfl g) fun _ => ?_
        refine bu64 (own : Int) (by omega) ?_
        rw [LB h7, LV h7, LV h7]
        refine put3' (K := fun v τ => Q (.ret (.tuple #[.int .u64 own, v, .int .i64 0])) τ) h7 rfl ok1 ok2 ?_
        intro τ3 h8
        exact hyes2 own n _ kv vv τ3 (by rw [hde]; rfl) hm hs hown (h8.re : H (RoU kv n.keys :: RoU vv n.vals :: StA sb rb (T3.put own n) (M + 2) :: l) τ3)
  by_cases hfr : x = 1 ∧ y = 0
  · rw [if_pos hfr] at hyes
    obtain ⟨rfl, rfl⟩ := hfr
    refine If_t rfl ?_
    rw [ptrs h4, om_some]
    refine rcount h5 hx ?_
    rw [cI_ret]
    unfold s_tree_Shelf_Shadow_k6
    refine If_t rfl ?_
    rw [LB h4, LV h4, LV h4]
    refine put3' (K := fun v τ => Q (.ret (.tuple #[.int .u64 a, v, .int .i64 0])) τ) h4 rfl ok1 ok2 ?_
    intro σ5 h6
    have h7 := st_le (N := M + 2) (by omega) (h6.re : H (StA sb rb T (M + 1) :: RoU kv n.keys :: RoU vv n.vals :: l) σ5)
    exact hyes a n T kv vv σ5 rfl hm hs ha h7.re
  rw [if_neg hfr] at hst hno hyes
  by_cases hx0 : x = 0
  · rw [if_pos hx0] at hst; exact absurd rfl hst
  rw [if_neg hx0] at hst hno hyes
  have k6 : s_tree_Shelf_Shadow_k6 E Q false a b10 b1 sb a σ4 := by
    unfold s_tree_Shelf_Shadow_k6
    refine If_f rfl ?_
    rw [ptrs h4, om_some]
    refine stalloc h4 rfl ?_ ?_
    · intro hal σ5 h6
      rw [c2_ret, tI_int, tI_int]
      refine If_ne (fun _ => ?_) fun g => absurd g (by decide)
      refine put3' (K := fun v τ => Q (.ret (.tuple #[.int .u64 0, v, .int .i64 8])) τ) h6 rfl rfl rfl ?_
      intro σ6 h7
      exact hno 8 T σ6 (by decide) (by rw [hal]; rfl) (st_le (by omega) (h7.re : H (StA sb rb T (M + 1) :: l) σ6))
    · intro own σ5 hal hox hoy h6
      have hol := (List.getElem?_eq_some_iff.1 hox).1
      have hne : own ≠ a := fun e => by subst e; rw [hx] at hox; cases hox; exact hx0 rfl
      rw [hal] at hst hno hyes
      simp only [R.bind_ok] at hst hno hyes
      rw [c2_ret, tI_int, tI_int]
      refine If_ne (fun g => absurd rfl g) fun _ => ?_
      rw [ptrs h6, om_some]
      obtain ⟨l1, h7, _⟩ := st_now h6
      have hx' : (T.now.set own 1)[a]? = some x := by rw [List.getElem?_set, if_neg hne]; exact hx
      refine rcount h7 hx' ?_
      rw [cI_ret]
      refine If_dec (fun g => ?_) fun g => ?_
      · rw [if_pos (by omega)] at hst hno hyes
        have hus := (hns σ5 h6.tail).2
        rw [LV h6, us_len hus, ldI_some]
        refine ⟨fun m i τ => ∃ (k : Nat) (T1 : TS), i = k ∧ m = n.vals.length - k ∧ k ≤ n.vals.length ∧ T1.now.length = T.now.length ∧ T1.was = T.was ∧ T1.g = T.g ∧ incs n.vals { T with now := T.now.set own 1 } = incs (n.vals.drop k) T1 ∧
          H (StA sb rb T1 (M + 1) :: pt b10 (.cells [.bool n.leaf, kv, vv] t_api_Node false) :: pt b1 (.cells [.bool false, .slice none 0 0, .slice none 0 0] t_api_Node false) :: RoU kv n.keys :: RoU vv n.vals :: l) τ,
          ⟨_, 0, { T with now := T.now.set own 1 }, rfl, rfl, by omega, by simp, rfl, rfl, by simp, h6⟩, ?_⟩
        rintro m _ τ ⟨k, T1, rfl, hmk, hk, hl1, hw1, hg1, hin, ht⟩
        unfold s_tree_Shelf_Shadow_b1
        refine If_dec (fun g2 => ?_) fun g2 => ?_
        · have hkl : k < n.vals.length := by omega
          have hv := List.getElem?_eq_getElem hkl
          obtain ⟨p, ia, la⟩ := us_get (hns τ ht.tail).2 hv
          rw [ia, om_some, la, ldI_some, ptrs ht, om_some]
          have hd : n.vals.drop k = n.vals[k] :: n.vals.drop (k + 1) := List.drop_eq_getElem_cons hkl
          rw [hd, incs_cons] at hin
          rw [hin] at hst hno hyes
          have his : T1.inc n.vals[k] ≠ .stuck := fun e => hst (by rw [e]; rfl)
          have hvlt := inc_ne his
          refine b64 ((n.vals[k] : Nat) : Int) (by omega) ?_
          refine stinc ht rfl his ?_ ?_
          · intro e τ1 he hie h8
            rw [cI_ret]
            refine If_ne (fun _ => ?_) fun g => absurd g (by omega)
            refine put3' (K := fun v τ => Q (.ret (.tuple #[.int .u64 0, v, .int .i64 e])) τ) h8 rfl rfl rfl ?_
            intro τ2 h9
            exact hno e T1 τ2 he (by rw [hie]; rfl) (st_le (by omega) (h9.re : H (StA sb rb T1 (M + 1) :: l) τ2))
          · intro T2 τ1 hie h8
            rw [cI_ret]
            refine If_ne (fun g => absurd rfl g) fun _ => ?_
            refine b64 ((k + 1 : Nat) : Int) (by omega) ?_
            have hk2 := inc_lt hie
            refine ⟨n.vals.length - (k + 1), by omega, k + 1, T2, rfl, rfl, by omega, by omega, by rw [hk2.2.2.1, hw1], by rw [hk2.2.2.2, hg1], ?_, h8⟩
            rw [hin, hie]; rfl
        · have hkn : k = n.vals.length := by omega
          subst hkn
          rw [List.drop_length, incs_nil] at hin
          rw [hin] at hst hno hyes
          exact k19 own T1 τ hol hl1 hw1 hg1 hst (fun e T' σ' he h => hno e T' σ' he h) (fun o' n' T' kv vv σ' h => hyes o' n' T' kv vv σ' h) ht
      · rw [if_neg (by omega)] at hst hno hyes
        exact k19 own { T with now := T.now.set own 1 } σ5 hol (by simp) rfl rfl hst (fun e T' σ' he h => hno e T' σ' he h) (fun o' n' T' kv vv σ' h => hyes o' n' T' kv vv σ' h) h6
  refine If_b (fun g => ?_) fun g => ?_
  · rw [ptrs h4, om_some]
    refine rcount h5 hx ?_
    rw [cI_ret]
    have : decide ((x : Int) = 1) = false := decide_eq_false (fun e => hfr ⟨by omega, by simpa using (Bool.and_eq_true_iff.1 g).2⟩)
    rw [this]
    exact k6
  · exact k6
end Go.Ax.C
