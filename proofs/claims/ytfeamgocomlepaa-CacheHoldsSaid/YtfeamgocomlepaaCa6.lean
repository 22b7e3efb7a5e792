/- Proved: 'CacheHolds' returns true, for every input; no condition. By a calculus of weakest preconditions over an abstract heap, which is sound for the machine. -/
import Derived.Test.YtfeamgocomlepaaCa5
import Derived.Test.YtfeamgocomlepaaRows
import Derived.WalkKit
import Derived.ProofKit
import Derived.OpenShut
import Derived.SizedLaws
/- Contracts of the cache's Get, Put, New, Held, over a disk whose power stays. No statement of the seat is proved here. -/
set_option maxRecDepth 100000
namespace Go.Ax.YtfeamgocomlepaaC
open Go.Proofs Go.RowKit

variable {l m : List Assn} {σ : AHeap} {Q : WK}

section
variable {cb nn now mb n : Nat} {dv rowv : Value} {R M A B : List Rec} {I0 : Assn} {D : DM}

/-- The disk beside, flat. -/
theorem co_disk : H (CO cb dv nn now mb rowv R M (Star [Disk dv D, I0])) σ ↔ H [pt cb (.cells [dv, .int .i64 nn, .int .u64 now, .map (some mb), rowv] 93 false), Own 121 1 rowv R.length (ptrs R), Star (itemsL 0 R), MapA mb (pairs M), Disk dv D, I0] σ := by
  constructor
  · intro h
    exact ((H_star (l := [Disk dv D, I0])).1 (h.pick [4, 0, 1, 2, 3] (by decide) : H [Star [Disk dv D, I0], _, _, _, _] σ)).pick [2, 3, 4, 5, 0, 1] (by decide)
  · intro h
    have h1 : H [Disk dv D, I0, pt cb (.cells [dv, .int .i64 nn, .int .u64 now, .map (some mb), rowv] 93 false), Own 121 1 rowv R.length (ptrs R), Star (itemsL 0 R), MapA mb (pairs M)] σ := h.pick [4, 5, 0, 1, 2, 3] (by decide)
    exact ((H_star (l := [Disk dv D, I0])).2 h1).pick [1, 2, 3, 4, 0] (by decide)
theorem disk_ptr (h : H l σ) (i : Nat) (hi : l[i]? = some (Disk dv D)) : ∃ b, dv = .pointer (some ⟨b, 0, none⟩) := by
  obtain ⟨b, _, _, _, e, _⟩ := disk_out (h.out i hi); exact ⟨b, e⟩
theorem cready_ok {a : Nat} (h : H (CO cb dv nn now mb rowv R M (Star [Disk dv D, I0])) σ) (hD : DPlain D n) (ha : a < n) (hQ : Q (.int .i64 0) σ) : E 75 [.pointer (some ⟨cb, 0, none⟩), .int .i64 a] σ Q := by
  have h1 := co_disk.1 h
  obtain ⟨db, hdb⟩ := disk_ptr h1 4 rfl
  have hlen := hD.ok.len
  have hn2 := hD.ok.hi
  apply s75_ev; unfold s75
  have c0 := load1 (n := 1) (o := 0) (h1.row 0 rfl)
  simp [c0]
  rw [hdb]
  simp
  unfold s75k2
  simp [c0]
  refine off_ok h1 4 rfl ?_
  rw [hD.off]
  have hna : ¬ (a : Int) < 0 := by omega
  simp [hna, c0]
  refine blocks_ok h1 4 rfl (by omega) ?_
  have : D.last.length / 256 = n := by omega
  rw [this]
  have hnn : ¬ n ≤ a := by omega
  unfold s75k4
  simpa [hnn] using hQ

/-- The end of Get: it is used, and told. -/
theorem get_k12 {x : Rec} (h : H (CO cb dv nn now mb rowv R (A ++ x :: B) I0) σ) (hc : COk R (A ++ x :: B) now) (hnow : now + 1 < 18446744073709551616) (hb : R.length < 1099511627776) (hxb : x.b.length = 256)
    (hQ : ∀ R' w σ', COk R' (A ++ B ++ [{ x with used := now + 1 }]) (now + 1) → H (CO cb dv nn (now + 1) mb rowv R' (A ++ B ++ [{ x with used := now + 1 }]) (Star [I0, Own 5 1 w 256 (bv x.b)])) σ' → Q (.tuple #[w, .int .i64 0]) σ') :
    s38k12 Q (.pointer (some ⟨cb, 0, none⟩)) (.int .i64 x.pl) σ := by
  unfold s38k12
  refine use_yes h hc hnow hb ?_
  intro R' σ1 hc1 h1
  have hm : { x with used := now + 1 } ∈ R' := hc1.perm.mem_iff.2 (by simp)
  obtain ⟨k, hk, hkx⟩ := List.getElem_of_mem hm
  have hk' : R'[k]? = some { x with used := now + 1 } := by rw [List.getElem?_eq_getElem hk, hkx]
  have h2 := item_out (h1.pick [2, 0, 1, 3, 4] (by decide)) hk'
  unfold ItemA at h2
  rw [H_sep, bytesV_rob (by intro e; simp only at e; rw [e] at hxb; simp at hxb)] at h2
  have r4 := load1 (n := 1) (o := 4) (h2.row 0 rfl)
  simp [r4]
  obtain ⟨sb, so, sc, cc, hsv, _⟩ := h2.rob 1 rfl
  simp only at hsv
  have hs := (h2.rob_rd 1 rfl).src
  simp only at hs
  rw [hsv] at hs ⊢
  rw [hxb] at hs ⊢
  refine clone_ok h1 hs (by omega) ?_
  intro w σ2 h3
  try simp
  refine hQ R' w σ2 hc1 ?_
  have h4 := (H_star (l := [I0, Own 5 1 w 256 (bv x.b)])).2 (h3.pick [4, 5, 0, 1, 2, 3] (by decide))
  exact h4.pick [1, 2, 3, 4, 0] (by decide)
end

/-! ### The cache, shut -/
structure It where
  pl : Nat
  dirty : Bool
  b : List UInt8
structure CM where
  n : Nat
  its : List It
def toIt (r : Rec) : It := ⟨r.pl, r.dirty, r.b⟩
def CacheA (v dv : Value) (K : Nat) (C : CM) : Assn := ex fun p : (Nat × Nat × Nat) × Value × List Rec × List Rec =>
  sep (pure' (v = .pointer (some ⟨p.1.1, 0, none⟩) ∧ COk p.2.2.1 p.2.2.2 p.1.2.2 ∧ p.2.2.2.map toIt = C.its ∧ p.1.2.2 ≤ K))
    (Star [pt p.1.1 (.cells [dv, .int .i64 C.n, .int .u64 p.1.2.2, .map (some p.1.2.1), p.2.1] 93 false), Own 121 1 p.2.1 p.2.2.1.length (ptrs p.2.2.1), Star (itemsL 0 p.2.2.1), MapA p.1.2.1 (pairs p.2.2.2)])
theorem cache_out {v dv : Value} {K : Nat} {C : CM} (h : H (CacheA v dv K C :: m) σ) : ∃ cb mb now rowv R M, v = .pointer (some ⟨cb, 0, none⟩) ∧ COk R M now ∧ M.map toIt = C.its ∧ now ≤ K ∧ H (CO cb dv C.n now mb rowv R M (Star m)) σ := by
  obtain ⟨⟨⟨cb, mb, now⟩, rowv, R, M⟩, h⟩ := H_ex.1 h
  rw [H_sep] at h
  obtain ⟨⟨h1, h2, h3, h4⟩, h⟩ := H_pure.1 h
  refine ⟨cb, mb, now, rowv, R, M, h1, h2, h3, h4, ?_⟩
  have h5 := (H_star.1 h).perm List.perm_append_comm
  exact (H_app.1 h5).pick [1, 2, 3, 4, 0] (by decide)
theorem cache_in {dv rowv : Value} {K cb mb now : Nat} {C : CM} {R M : List Rec} (h2 : COk R M now) (h3 : M.map toIt = C.its) (h4 : now ≤ K) (h : H (CO cb dv C.n now mb rowv R M (Star m)) σ) : H (CacheA (.pointer (some ⟨cb, 0, none⟩)) dv K C :: m) σ := by
  refine H_ex.2 ⟨((cb, mb, now), rowv, R, M), ?_⟩
  rw [H_sep]
  refine H_pure.2 ⟨⟨rfl, h2, h3, h4⟩, ?_⟩
  rw [H_star]
  have h5 : H [Star m, pt cb (.cells [dv, .int .i64 C.n, .int .u64 now, .map (some mb), rowv] 93 false), Own 121 1 rowv R.length (ptrs R), Star (itemsL 0 R), MapA mb (pairs M)] σ := h.pick [4, 0, 1, 2, 3] (by decide)
  exact (H_star.1 h5).perm List.perm_append_comm
end Go.Ax.YtfeamgocomlepaaC
/- Contracts of the cache's Get, Put, New, Held. No statement of the seat is proved here. -/
set_option maxRecDepth 100000
namespace Go.Ax.YtfeamgocomlepaaC
open Go.Proofs Go.RowKit

variable {l m : List Assn} {σ : AHeap} {Q : WK}

structure CM.Ok (C : CM) (n : Nat) : Prop where
  lo : 1 ≤ C.n
  hi : C.n ≤ 1024
  len : C.its.length ≤ C.n
  it : ∀ x ∈ C.its, x.pl < n ∧ x.b.length = 256
  nd : (C.its.map (·.pl)).Nodup
def wroteI (D : DM) (x : It) : DM := if x.dirty then D.fling x.pl x.b else D
/-- Room for a block: who goes, what is written. -/
def CM.room (C : CM) (D : DM) : List It × DM := if C.its.length < C.n then (C.its, D) else match C.its with
  | [] => ([], D)
  | x :: l => (l, wroteI D x)

theorem its_split {M : List Rec} {A B : List It} {it : It} (h : M.map toIt = A ++ it :: B) : ∃ A' x B', M = A' ++ x :: B' ∧ A'.map toIt = A ∧ toIt x = it ∧ B'.map toIt = B := by
  obtain ⟨A', T, rfl, h1, h2⟩ := List.map_eq_append_iff.1 h
  obtain ⟨x, B', rfl, h3, h4⟩ := List.map_eq_cons_iff.1 h2
  exact ⟨A', x, B', rfl, h1, h3, h4⟩
theorem get_hit {v dv : Value} {K n : Nat} {C : CM} {D : DM} {I0 : Assn} {A B : List It} {it : It} (h : H [CacheA v dv K C, Disk dv D, I0] σ) (hC : C.Ok n) (hits : C.its = A ++ it :: B) (hD : DPlain D n) (hK : K + 1 < 18446744073709551616)
    (hQ : ∀ w σ', H [CacheA v dv (K + 1) { C with its := A ++ B ++ [it] }, Disk dv D, I0, Own 5 1 w 256 (bv it.b)] σ' → Q (.tuple #[w, .int .i64 0]) σ') : E 38 [v, .int .i64 it.pl] σ Q := by
  obtain ⟨cb, mb, now, rowv, R, M, rfl, hc, hM, hnow, h1⟩ := cache_out h
  rw [hits] at hM
  obtain ⟨A', x, B', rfl, hA', hx, hB'⟩ := its_split hM
  obtain ⟨hpl, hxb⟩ := hC.it it (by rw [hits]; simp)
  have hl := hc.perm.length_eq
  have hl2 : (A' ++ x :: B').length = C.its.length := by rw [hits, ← hM, List.length_map]
  have hlen := hC.len
  have hhi := hC.hi
  have e1 : it.pl = x.pl := by rw [← hx]; rfl
  have e2 : it.b = x.b := by rw [← hx]; rfl
  rw [e1] at hpl ⊢
  apply s38_ev; unfold s38
  refine cready_ok h1 hD hpl ?_
  simp
  have r3 := load1 (n := 1) (o := 3) (h1.row 0 rfl)
  simp [r3]
  have hlk := lookup_yes (p := (x.pl, x.ib)) false h1 (i := 3) rfl (by simp [pairs])
  simp only at hlk
  rw [hlk]
  simp [okV]
  refine get_k12 h1 hc (by omega) (by omega) (by rw [← e2]; exact hxb) ?_
  intro R' w σ1 hc1 h2
  refine hQ w σ1 ?_
  have h3 : H [CacheA (.pointer (some ⟨cb, 0, none⟩)) dv (K + 1) { C with its := A ++ B ++ [it] }, Star [Disk dv D, I0], Own 5 1 w 256 (bv x.b)] σ1 := by
    refine cache_in hc1 ?_ (by omega) h2
    simp only [List.map_append, hA', hB', List.map_cons, List.map_nil]
    rw [← hx]; rfl
  rw [e2]
  exact ((H_star (l := [Disk dv D, I0])).1 (h3.pick [1, 0, 2] (by decide) : H (Star [Disk dv D, I0] :: [CacheA (.pointer (some ⟨cb, 0, none⟩)) dv (K + 1) { C with its := A ++ B ++ [it] }, Own 5 1 w 256 (bv x.b)]) σ1)).pick [2, 0, 1, 3] (by decide)

/-- Room, with the cache open. -/
theorem room_ok {cb mb now n : Nat} {dv rowv : Value} {R M : List Rec} {I0 : Assn} {D : DM} {C : CM} (h : H (CO cb dv C.n now mb rowv R M (Star [Disk dv D, I0])) σ) (hc : COk R M now) (hM : M.map toIt = C.its) (hC : C.Ok n) (hD : DPlain D n) (hm : D.fly.length < 1099511627776)
    (hQ : ∀ rowv' R' M' σ', COk R' M' now → M'.map toIt = (C.room D).1 → H (CO cb dv C.n now mb rowv' R' M' (Star [Disk dv (C.room D).2, I0])) σ' → Q (.int .i64 0) σ') : E 76 [.pointer (some ⟨cb, 0, none⟩)] σ Q := by
  have hl := hc.perm.length_eq
  have hl2 : M.length = C.its.length := by rw [← hM, List.length_map]
  have hlen := hC.len
  have hhi := hC.hi
  have hlo := hC.lo
  by_cases hlt : C.its.length < C.n
  · have e : C.room D = (C.its, D) := by simp [CM.room, hlt]
    rw [e] at hQ
    refine room_no h (by omega) ?_
    exact hQ rowv R M σ hc hM h
  · cases M with
    | nil => simp at hl2; omega
    | cons x M0 =>
      have hM' := hM
      simp only [List.map_cons] at hM'
      have e : C.room D = (M0.map toIt, wrote D x) := by
        unfold CM.room
        rw [if_neg hlt, ← hM']
        rfl
      rw [e] at hQ
      obtain ⟨hpl, hxb⟩ := hC.it (toIt x) (by rw [← hM']; simp)
      refine room_yes h hc (by omega) (by omega) hD hpl hxb hm ?_
      intro rowv' R' σ1 hc1 h1
      exact hQ rowv' R' M0 σ1 hc1 rfl h1
theorem room_plain {n : Nat} {D : DM} {C : CM} (hC : C.Ok n) (hD : DPlain D n) : DPlain (C.room D).2 n ∧ (C.room D).2.fly.length ≤ D.fly.length + 4 ∧ (C.room D).1.length < C.n ∧ (∀ x ∈ (C.room D).1, x ∈ C.its) ∧ ((C.room D).1.map (·.pl)).Nodup := by
  have hlo := hC.lo
  have hlen := hC.len
  unfold CM.room
  split
  · rename_i h
    exact ⟨hD, by simp, h, fun x hx => hx, hC.nd⟩
  · rename_i h
    split
    · rename_i e; rw [e] at h; simp at h; omega
    · rename_i x l e
      have hx := hC.it x (by rw [e]; simp)
      have hnd := hC.nd
      rw [e] at hlen hnd ⊢
      simp only [List.length_cons] at hlen
      simp only [List.map_cons, List.nodup_cons] at hnd
      refine ⟨?_, ?_, by show l.length < C.n; omega, fun y hy => List.mem_cons_of_mem _ hy, hnd.2⟩
      · unfold wroteI; split
        · exact hD.fling hx.1 hx.2
        · exact hD
      · unfold wroteI; split
        · simp [DM.fling, parts]
        · simp

theorem get_miss {v dv : Value} {K n a : Nat} {C : CM} {D : DM} {I0 : Assn} (h : H [CacheA v dv K C, Disk dv D, I0] σ) (hC : C.Ok n) (hno : ∀ x ∈ C.its, x.pl ≠ a) (ha : a < n) (hD : DPlain D n) (hm : D.fly.length < 1099511627000) (hK : K + 2 < 18446744073709551616)
    (hQ : ∀ w σ', H [CacheA v dv (K + 2) { C with its := (C.room D).1 ++ [⟨a, false, (C.room D).2.block a⟩] }, Disk dv (C.room D).2, I0, Own 5 1 w 256 (bv ((C.room D).2.block a))] σ' → Q (.tuple #[w, .int .i64 0]) σ') : E 38 [v, .int .i64 a] σ Q := by
  obtain ⟨cb, mb, now, rowv, R, M, rfl, hc, hM, hnow, h1⟩ := cache_out h
  have hhi := hC.hi
  have hnoM : ∀ p ∈ pairs M, p.1 ≠ a := by
    intro p hp
    obtain ⟨r, hr, rfl⟩ := List.mem_map.1 hp
    exact hno (toIt r) (by rw [← hM]; exact List.mem_map_of_mem hr)
  obtain ⟨hD1, hf1, hl1, hsub, hnd1⟩ := room_plain hC hD
  apply s38_ev; unfold s38
  refine cready_ok h1 hD ha ?_
  simp
  have r3 := load1 (n := 1) (o := 3) (h1.row 0 rfl)
  simp [r3]
  have hlk := lookup_no (a := a) false h1 (i := 3) rfl hnoM
  rw [hlk]
  simp [okV]
  refine room_ok h1 hc hM hC hD (by omega) ?_
  intro rowv1 R1 M1 σ1 hc1 hM1 h2
  simp
  generalize (C.room D).2 = D1 at hD1 hf1 h2 hQ
  generalize (C.room D).1 = its1 at hl1 hsub hnd1 hM1 hQ
  have h3 := co_disk.1 h2
  have c0 := load1 (n := 1) (o := 0) (h3.row 0 rfl)
  simp [c0]
  have hr := ready_in hD1.ok ha
  rw [hD1.off] at hr
  simp only [Bool.false_eq_true, if_false] at hr
  refine read_yes h3 4 rfl hD1.ok (by omega) hr ?_
  intro w0 σ2 h4
  simp
  simp only [Int.toNat_natCast] at h4
  have hbl := block_len hD1.ok ha
  have hl2 := hc1.perm.length_eq
  have hl3 : M1.length = its1.length := by rw [← hM1, List.length_map]
  have h5 : H (CO cb dv C.n now mb rowv1 R1 M1 (Star [Disk dv D1, Star [I0, Own 5 1 w0 256 (bv (D1.block a))]])) σ2 := by
    refine co_disk.2 ?_
    have := (H_star (l := [I0, Own 5 1 w0 256 (bv (D1.block a))])).2 (h4.pick [5, 6, 0, 1, 2, 3, 4] (by decide))
    exact this.pick [1, 2, 3, 4, 5, 0] (by decide)
  refine use_no h5 hc1 ?_ (by omega) (by omega) ?_
  · intro r hr
    exact hno (toIt r) (hsub _ (by rw [← hM1]; exact List.mem_map_of_mem hr))
  intro rowv2 R2 ib σ3 hc2 h6
  simp
  -- the block's bytes go into the item
  have h7 : H [Star [Disk dv D1, Star [I0, Own 5 1 w0 256 (bv (D1.block a))]], pt cb (.cells [dv, .int .i64 C.n, .int .u64 (now + 1 : Nat), .map (some mb), rowv2] 93 false), Own 121 1 rowv2 R2.length (ptrs R2), Star (itemsL 0 R2), MapA mb (pairs (M1 ++ [⟨ib, a, now + 1, false, .slice none 0 0, []⟩]))] σ3 := h6.pick [4, 0, 1, 2, 3] (by decide)
  have h8 := ((H_star (l := [Disk dv D1, Star [I0, Own 5 1 w0 256 (bv (D1.block a))]])).1 h7).pick [1, 0, 2, 3, 4, 5] (by decide)
  have h9 : H [Own 5 1 w0 256 (bv (D1.block a)), I0, Disk dv D1, pt cb (.cells [dv, .int .i64 C.n, .int .u64 (now + 1 : Nat), .map (some mb), rowv2] 93 false), Own 121 1 rowv2 R2.length (ptrs R2), Star (itemsL 0 R2), MapA mb (pairs (M1 ++ [⟨ib, a, now + 1, false, .slice none 0 0, []⟩]))] σ3 :=
    ((H_star (l := [I0, Own 5 1 w0 256 (bv (D1.block a))])).1 h8).pick [1, 0, 2, 3, 4, 5, 6] (by decide)
  obtain ⟨wb, wc, rfl, hwc, hro⟩ := own_freeze (by omega) h9
  have h10 := hro 0 256 wc hwc (by omega)
  rw [show (((D1.block a).drop 0).take 256) = D1.block a by rw [List.drop_zero, List.take_of_length_le (by omega)]] at h10
  have hm2 : (⟨ib, a, now + 1, false, .slice none 0 0, []⟩ : Rec) ∈ R2 := hc2.perm.mem_iff.2 (by simp)
  obtain ⟨k, hk, hkx⟩ := List.getElem_of_mem hm2
  have hk' : R2[k]? = some ⟨ib, a, now + 1, false, .slice none 0 0, []⟩ := by rw [List.getElem?_eq_getElem hk, hkx]
  have h11 := item_out (h10.pick [5, 0, 1, 2, 3, 4, 6] (by decide)) hk'
  unfold ItemA at h11
  rw [H_sep] at h11
  refine store1 h11 0 rfl rfl (by simp) ?_
  intro σ4 h12
  let x3 : Rec := ⟨ib, a, now + 1, false, .slice (some ⟨wb, 0, none⟩) 256 wc, D1.block a⟩
  have h13 : H [pt ib (.cells [.int .i64 a, .int .i64 k, .int .u64 (now + 1 : Nat), .bool false, .slice (some ⟨wb, 0, none⟩) 256 wc] 123 false), RoB (.slice (some ⟨wb, 0, none⟩) 256 wc) (D1.block a), Star ((itemsL 0 R2).set k emp), I0, Disk dv D1, pt cb (.cells [dv, .int .i64 C.n, .int .u64 (now + 1 : Nat), .map (some mb), rowv2] 93 false), Own 121 1 rowv2 R2.length (ptrs R2), MapA mb (pairs (M1 ++ [⟨ib, a, now + 1, false, .slice none 0 0, []⟩]))] σ4 := h12.pick [0, 3, 2, 4, 5, 6, 7, 8] (by decide)
  rw [← bytesV_rob (by intro e; rw [e] at hbl; simp at hbl)] at h13
  have h14 := item_in (r := x3) hk (H_sep.2 h13)
  have e3 : ptrs (R2.set k x3) = ptrs R2 := ptrs_set hk' rfl
  have e4 : pairs (M1 ++ [x3]) = pairs (M1 ++ [⟨ib, a, now + 1, false, .slice none 0 0, []⟩]) := by simp [pairs, x3]
  have h15 : H (CO cb dv C.n (now + 1) mb rowv2 (R2.set k x3) (M1 ++ [x3]) (Star [Disk dv D1, I0])) σ4 := by
    refine co_disk.2 ?_
    rw [e3, e4, List.length_set]
    exact h14.pick [3, 4, 0, 5, 2, 1] (by decide)
  have hc3 : COk (R2.set k x3) (M1 ++ [x3]) (now + 1) := COk.mod (B := []) hc2 hk' rfl rfl
  have hl4 := hc2.perm.length_eq
  simp only [List.length_append, List.length_cons, List.length_nil] at hl4
  refine get_k12 (A := M1) (B := []) (x := x3) h15 hc3 (by omega) (by simp; omega) hbl ?_
  intro R3 w σ5 hc4 h16
  refine hQ w σ5 ?_
  have h17 : H [CacheA (.pointer (some ⟨cb, 0, none⟩)) dv (K + 2) { C with its := its1 ++ [⟨a, false, D1.block a⟩] }, Star [Disk dv D1, I0], Own 5 1 w 256 (bv (D1.block a))] σ5 := by
    refine cache_in hc4 ?_ (by omega) h16
    simp only [List.map_append, hM1, List.map_cons, List.map_nil, List.append_nil]
    rfl
  exact ((H_star (l := [Disk dv D1, I0])).1 (h17.pick [1, 0, 2] (by decide) : H (Star [Disk dv D1, I0] :: [CacheA (.pointer (some ⟨cb, 0, none⟩)) dv (K + 2) { C with its := its1 ++ [⟨a, false, D1.block a⟩] }, Own 5 1 w 256 (bv (D1.block a))]) σ5)).pick [2, 0, 1, 3] (by decide)
end Go.Ax.YtfeamgocomlepaaC
/- Contracts of the cache's Put, New, Held. No statement of the seat is proved here. -/
set_option maxRecDepth 100000
namespace Go.Ax.YtfeamgocomlepaaC
open Go.Proofs Go.RowKit

variable {l m : List Assn} {σ : AHeap} {Q : WK}

/-- Bytes go into the item that was used last. -/
theorem put_store {cb nn now mb : Nat} {dv rowv w : Value} {R A : List Rec} {x : Rec} {bs : List UInt8} {I0 : Assn} {K : WK} (h : H (CO cb dv nn now mb rowv R (A ++ [x]) (Star [Own 5 1 w 256 (bv bs), I0])) σ) (hc : COk R (A ++ [x]) now)
    (hQ : ∀ sv R' σ', COk R' (A ++ [{ x with dirty := true, sv := sv, b := bs }]) now → H (CO cb dv nn now mb rowv R' (A ++ [{ x with dirty := true, sv := sv, b := bs }]) (Star [Own 5 1 w 256 (bv bs), I0])) σ' → K (.int .i64 0) σ') :
    E 67 [w] σ fun v37 τ => pu (aStore 1 (.pointer (some ⟨x.ib, 4, none⟩)) v37 τ) fun τ => pu (aStore 1 (.pointer (some ⟨x.ib, 3, none⟩)) (.bool true) τ) fun τ => K (.int .i64 0) τ := by
  have h0 : H [Own 5 1 w 256 (bv bs), I0, pt cb (.cells [dv, .int .i64 nn, .int .u64 now, .map (some mb), rowv] 93 false), Own 121 1 rowv R.length (ptrs R), Star (itemsL 0 R), MapA mb (pairs (A ++ [x]))] σ :=
    (H_star (l := [Own 5 1 w 256 (bv bs), I0])).1 (h.pick [4, 0, 1, 2, 3] (by decide))
  obtain ⟨hs, hbl, wa, wc, rfl⟩ := h0.own_src 0 rfl
  simp only [Nat.mul_one, bv_length] at hbl
  refine clone_ok h0 hs (by omega) ?_
  intro c σ1 h1
  obtain ⟨fb, fc, rfl, hfc, hro⟩ := own_freeze (by omega) (h1.pick [6, 0, 1, 2, 3, 4, 5] (by decide))
  have h2 := hro 0 256 fc hfc (by omega)
  rw [show ((bs.drop 0).take 256) = bs by rw [List.drop_zero, List.take_of_length_le (by omega)]] at h2
  have hm : x ∈ R := hc.perm.mem_iff.2 (by simp)
  obtain ⟨k, hk, hkx⟩ := List.getElem_of_mem hm
  have hk' : R[k]? = some x := by rw [List.getElem?_eq_getElem hk, hkx]
  have h3 := item_out (h2.pick [5, 0, 1, 2, 3, 4, 6] (by decide)) hk'
  unfold ItemA at h3
  rw [H_sep] at h3
  refine store1 h3 0 rfl rfl (by simp) ?_
  intro σ2 h4
  refine store1 h4 0 rfl rfl (by simp) ?_
  intro σ3 h5
  let y : Rec := { x with dirty := true, sv := .slice (some ⟨fb, 0, none⟩) 256 fc, b := bs }
  have h6 : H [pt x.ib (.cells [.int .i64 x.pl, .int .i64 k, .int .u64 x.used, .bool true, .slice (some ⟨fb, 0, none⟩) 256 fc] 123 false), RoB (.slice (some ⟨fb, 0, none⟩) 256 fc) bs, Star ((itemsL 0 R).set k emp), Own 5 1 (.slice wa 256 wc) 256 (bv bs), I0, pt cb (.cells [dv, .int .i64 nn, .int .u64 now, .map (some mb), rowv] 93 false), Own 121 1 rowv R.length (ptrs R), MapA mb (pairs (A ++ [x]))] σ3 := h5.pick [0, 3, 2, 4, 5, 6, 7, 8] (by decide)
  rw [← bytesV_rob (by intro e; rw [e] at hbl; simp at hbl)] at h6
  have h7 := item_in (r := y) hk (H_sep.2 h6)
  have hc3 : COk (R.set k y) (A ++ [y]) now := COk.mod (B := []) hc hk' rfl rfl
  refine hQ (.slice (some ⟨fb, 0, none⟩) 256 fc) (R.set k y) σ3 hc3 ?_
  have e3 : ptrs (R.set k y) = ptrs R := ptrs_set hk' rfl
  have e4 : pairs (A ++ [y]) = pairs (A ++ [x]) := by simp [pairs, y]
  have h8 := (H_star (l := [Own 5 1 (.slice wa 256 wc) 256 (bv bs), I0])).2 (h7.pick [1, 2, 0, 3, 4, 5] (by decide))
  show H (CO cb dv nn now mb rowv (R.set k y) (A ++ [y]) _) σ3
  unfold CO
  rw [e3, e4, List.length_set]
  exact h8.pick [2, 3, 1, 4, 0] (by decide)

theorem put_hit {v dv w : Value} {K n : Nat} {C : CM} {D : DM} {I0 : Assn} {A B : List It} {it : It} {bs : List UInt8} (h : H [CacheA v dv K C, Disk dv D, Own 5 1 w 256 (bv bs), I0] σ) (hC : C.Ok n) (hits : C.its = A ++ it :: B) (hD : DPlain D n) (hK : K + 1 < 18446744073709551616)
    (hQ : ∀ σ', H [CacheA v dv (K + 1) { C with its := A ++ B ++ [⟨it.pl, true, bs⟩] }, Disk dv D, Own 5 1 w 256 (bv bs), I0] σ' → Q (.int .i64 0) σ') : E 42 [v, .int .i64 it.pl, w] σ Q := by
  obtain ⟨cb, mb, now, rowv, R, M, rfl, hc, hM, hnow, h1⟩ := cache_out h
  rw [hits] at hM
  obtain ⟨A', x, B', rfl, hA', hx, hB'⟩ := its_split hM
  obtain ⟨hpl, hxb⟩ := hC.it it (by rw [hits]; simp)
  have hl := hc.perm.length_eq
  have hl2 : (A' ++ x :: B').length = C.its.length := by rw [hits, ← hM, List.length_map]
  have hlen := hC.len
  have hhi := hC.hi
  have e1 : it.pl = x.pl := by rw [← hx]; rfl
  rw [e1] at hpl hQ ⊢
  obtain ⟨hs, hbl, wa, wc, hw⟩ := h.own_src 2 rfl
  have h1 : H (CO cb dv C.n now mb rowv R (A' ++ x :: B') (Star [Disk dv D, Star [Own 5 1 w 256 (bv bs), I0]])) σ := by
    have h2 : H (Star [Disk dv D, Own 5 1 w 256 (bv bs), I0] :: [pt cb (.cells [dv, .int .i64 C.n, .int .u64 now, .map (some mb), rowv] 93 false), Own 121 1 rowv R.length (ptrs R), Star (itemsL 0 R), MapA mb (pairs (A' ++ x :: B'))]) σ := h1.pick [4, 0, 1, 2, 3] (by decide)
    refine co_disk.2 ?_
    have h3 := ((H_star (l := [Disk dv D, Own 5 1 w 256 (bv bs), I0])).1 h2).pick [1, 2, 0, 3, 4, 5, 6] (by decide)
    exact ((H_star (l := [Own 5 1 w 256 (bv bs), I0])).2 h3).pick [2, 3, 4, 5, 1, 0] (by decide)
  apply s42_ev; unfold s42
  refine cready_ok h1 hD hpl ?_
  simp only [bin_neq, pu_some, hw, lenS_slice]
  rw [← hw]
  have r3 := load1 (n := 1) (o := 3) (h1.row 0 rfl)
  simp [r3]
  have hlk := lookup_yes (p := (x.pl, x.ib)) false h1 (i := 3) rfl (by simp [pairs])
  simp only at hlk
  rw [hlk]
  simp [okV]
  unfold s42k10
  refine use_yes h1 hc (by omega) (by omega) ?_
  intro R' σ1 hc1 h2
  have h3 : H (CO cb dv C.n (now + 1) mb rowv R' (A' ++ B' ++ [{ x with used := now + 1 }]) (Star [Own 5 1 w 256 (bv bs), Star [Disk dv D, I0]])) σ1 := by
    have h4 := ((H_star (l := [Own 5 1 w 256 (bv bs), I0])).1 ((co_disk.1 h2).pick [5, 0, 1, 2, 3, 4] (by decide))).pick [6, 1, 0, 2, 3, 4, 5] (by decide)
    have h5 := ((H_star (l := [Disk dv D, I0])).2 h4).pick [1, 0, 2, 3, 4, 5] (by decide)
    exact ((H_star (l := [Own 5 1 w 256 (bv bs), Star [Disk dv D, I0]])).2 h5).pick [1, 2, 3, 4, 0] (by decide)
  simp
  refine put_store (A := A' ++ B') (x := { x with used := now + 1 }) h3 hc1 ?_
  intro sv R2 σ2 hc2 h4
  refine hQ σ2 ?_
  have h5 : H [CacheA (.pointer (some ⟨cb, 0, none⟩)) dv (K + 1) { C with its := A ++ B ++ [⟨x.pl, true, bs⟩] }, Own 5 1 w 256 (bv bs), Star [Disk dv D, I0]] σ2 := by
    refine cache_in hc2 ?_ (by omega) h4
    simp only [List.map_append, hA', hB', List.map_cons, List.map_nil]
    rfl
  exact ((H_star (l := [Disk dv D, I0])).1 (h5.pick [2, 0, 1] (by decide) : H (Star [Disk dv D, I0] :: [CacheA (.pointer (some ⟨cb, 0, none⟩)) dv (K + 1) { C with its := A ++ B ++ [⟨x.pl, true, bs⟩] }, Own 5 1 w 256 (bv bs)]) σ2)).pick [2, 0, 3, 1] (by decide)

theorem put_miss {v dv w : Value} {K n a : Nat} {C : CM} {D : DM} {I0 : Assn} {bs : List UInt8} (h : H [CacheA v dv K C, Disk dv D, Own 5 1 w 256 (bv bs), I0] σ) (hC : C.Ok n) (hno : ∀ x ∈ C.its, x.pl ≠ a) (ha : a < n) (hD : DPlain D n) (hm : D.fly.length < 1099511627000) (hK : K + 1 < 18446744073709551616)
    (hQ : ∀ σ', H [CacheA v dv (K + 1) { C with its := (C.room D).1 ++ [⟨a, true, bs⟩] }, Disk dv (C.room D).2, Own 5 1 w 256 (bv bs), I0] σ' → Q (.int .i64 0) σ') : E 42 [v, .int .i64 a, w] σ Q := by
  obtain ⟨cb, mb, now, rowv, R, M, rfl, hc, hM, hnow, h1⟩ := cache_out h
  have hhi := hC.hi
  have hnoM : ∀ p ∈ pairs M, p.1 ≠ a := by
    intro p hp
    obtain ⟨r, hr, rfl⟩ := List.mem_map.1 hp
    exact hno (toIt r) (by rw [← hM]; exact List.mem_map_of_mem hr)
  obtain ⟨hD1, hf1, hl1, hsub, hnd1⟩ := room_plain hC hD
  obtain ⟨hs, hbl, wa, wc, hw⟩ := h.own_src 2 rfl
  have h1 : H (CO cb dv C.n now mb rowv R M (Star [Disk dv D, Star [Own 5 1 w 256 (bv bs), I0]])) σ := by
    have h2 : H (Star [Disk dv D, Own 5 1 w 256 (bv bs), I0] :: [pt cb (.cells [dv, .int .i64 C.n, .int .u64 now, .map (some mb), rowv] 93 false), Own 121 1 rowv R.length (ptrs R), Star (itemsL 0 R), MapA mb (pairs M)]) σ := h1.pick [4, 0, 1, 2, 3] (by decide)
    refine co_disk.2 ?_
    have h3 := ((H_star (l := [Disk dv D, Own 5 1 w 256 (bv bs), I0])).1 h2).pick [1, 2, 0, 3, 4, 5, 6] (by decide)
    exact ((H_star (l := [Own 5 1 w 256 (bv bs), I0])).2 h3).pick [2, 3, 4, 5, 1, 0] (by decide)
  apply s42_ev; unfold s42
  refine cready_ok h1 hD ha ?_
  simp only [bin_neq, pu_some, hw, lenS_slice]
  rw [← hw]
  have r3 := load1 (n := 1) (o := 3) (h1.row 0 rfl)
  simp [r3]
  have hlk := lookup_no (a := a) false h1 (i := 3) rfl hnoM
  rw [hlk]
  simp [okV]
  refine room_ok h1 hc hM hC hD (by omega) ?_
  intro rowv1 R1 M1 σ1 hc1 hM1 h2
  simp
  generalize (C.room D).2 = D1 at hD1 hf1 h2 hQ
  generalize (C.room D).1 = its1 at hl1 hsub hnd1 hM1 hQ
  have hl2 := hc1.perm.length_eq
  have hl3 : M1.length = its1.length := by rw [← hM1, List.length_map]
  unfold s42k10
  refine use_no h2 hc1 ?_ (by omega) (by omega) ?_
  · intro r hr
    exact hno (toIt r) (hsub _ (by rw [← hM1]; exact List.mem_map_of_mem hr))
  intro rowv2 R2 ib σ3 hc2 h6
  have h3 : H (CO cb dv C.n (now + 1) mb rowv2 R2 (M1 ++ [⟨ib, a, now + 1, false, .slice none 0 0, []⟩]) (Star [Own 5 1 w 256 (bv bs), Star [Disk dv D1, I0]])) σ3 := by
    have h4 := ((H_star (l := [Own 5 1 w 256 (bv bs), I0])).1 ((co_disk.1 h6).pick [5, 0, 1, 2, 3, 4] (by decide))).pick [6, 1, 0, 2, 3, 4, 5] (by decide)
    have h5 := ((H_star (l := [Disk dv D1, I0])).2 h4).pick [1, 0, 2, 3, 4, 5] (by decide)
    exact ((H_star (l := [Own 5 1 w 256 (bv bs), Star [Disk dv D1, I0]])).2 h5).pick [1, 2, 3, 4, 0] (by decide)
  simp
  refine put_store (A := M1) (x := ⟨ib, a, now + 1, false, .slice none 0 0, []⟩) h3 hc2 ?_
  intro sv R3 σ4 hc3 h4
  refine hQ σ4 ?_
  have h5 : H [CacheA (.pointer (some ⟨cb, 0, none⟩)) dv (K + 1) { C with its := its1 ++ [⟨a, true, bs⟩] }, Own 5 1 w 256 (bv bs), Star [Disk dv D1, I0]] σ4 := by
    refine cache_in hc3 ?_ (by omega) h4
    simp only [List.map_append, hM1, List.map_cons, List.map_nil]
    rfl
  exact ((H_star (l := [Disk dv D1, I0])).1 (h5.pick [2, 0, 1] (by decide) : H (Star [Disk dv D1, I0] :: [CacheA (.pointer (some ⟨cb, 0, none⟩)) dv (K + 1) { C with its := its1 ++ [⟨a, true, bs⟩] }, Own 5 1 w 256 (bv bs)]) σ4)).pick [2, 0, 3, 1] (by decide)

theorem held_ok {v dv : Value} {K : Nat} {C : CM} (h : H (CacheA v dv K C :: m) σ) (hQ : Q (.int .i64 C.its.length) σ) : E 40 [v] σ Q := by
  obtain ⟨cb, mb, now, rowv, R, M, rfl, hc, hM, hnow, h1⟩ := cache_out h
  have hl := hc.perm.length_eq
  have hl2 : M.length = C.its.length := by rw [← hM, List.length_map]
  apply s40_ev; unfold s40
  have r4 := load1 (n := 1) (o := 4) (h1.row 0 rfl)
  obtain ⟨_, _, a, c, rfl⟩ := h1.own_src 1 rfl
  simp [r4]
  rw [hl, hl2]
  exact hQ

/-! ### New -/
theorem mkMap_eq (σ : AHeap) : aMakeMap P 89 none σ = some (.map (some σ.size), σ.push (.map [] 0)) := rfl
theorem cnew_ok {dv : Value} {D : DM} {n k : Nat} {I0 : Assn} (h : H [Disk dv D, I0] σ) (hD : D.Ok n) (hk : 1 ≤ k ∧ k ≤ 1024) (hQ : ∀ v σ', H [CacheA v dv 0 ⟨k, []⟩, Disk dv D, I0] σ' → Q (.tuple #[v, .int .i64 0]) σ') : E 37 [dv, .int .i64 k] σ Q := by
  obtain ⟨db, rfl⟩ := disk_ptr h 0 rfl
  have hlen := hD.len
  have hn := hD.lo
  have hn2 := hD.hi
  apply s37_ev; unfold s37
  simp
  refine blocks_ok h 0 rfl (by omega) ?_
  have : D.last.length / 256 = n := by omega
  rw [this]
  have hnz : ¬ n = 0 := by omega
  have h1 : ¬ k < 1 := by omega
  have h2 : ¬ 1024 < k := by omega
  unfold s37k2 s37k4
  have h3 : ¬ (k : Int) < 1 := by omega
  have h4 : ¬ 1024 < (k : Int) := by omega
  simp [hnz, h3, h4, mkMap_eq, splice]
  have hp := h.push (.map [] 0)
  refine new_ok hp ?_
  intro b σ1 h5
  have h6 := h5.own_nil 121 1
  refine hQ _ σ1 ?_
  have hc : COk [] [] 0 := ⟨List.Perm.refl _, List.Pairwise.nil, fun r hr => by simp at hr, fun k h0 hk => by simp at hk, by simp⟩
  refine cache_in (cb := b) (rowv := .slice none 0 0) (mb := σ.size) (now := 0) hc rfl (Nat.le_refl _) ?_
  have h7 : H [MapA σ.size [], pt b (.cells [.pointer (some ⟨db, 0, none⟩), .int .i64 k, .int .u64 0, .map (some σ.size), .slice none 0 0] 93 false), Own 121 1 (.slice none 0 0) 0 [], Disk (.pointer (some ⟨db, 0, none⟩)) D, I0] σ1 := by
    refine H_ex.2 ⟨([], 0), ?_⟩
    rw [H_sep]
    refine H_pure.2 ⟨⟨by simp, fun e he => by simp at he, fun e he => by simp at he⟩, ?_⟩
    exact h6.pick [2, 3, 4, 0, 1] (by decide)
  have h8 := (H_star (l := [Disk (.pointer (some ⟨db, 0, none⟩)) D, I0])).2 (h7.emp_end.pick [3, 4, 0, 1, 2, 5] (by decide))
  exact h8.pick [2, 3, 4, 1, 0] (by decide)
end Go.Ax.YtfeamgocomlepaaC
/- Contracts of the tests' own functions on the cache. No statement of the seat is proved here. -/
set_option maxRecDepth 100000
namespace Go.Ax.YtfeamgocomlepaaC
open Go.Proofs Go.RowKit

variable {l m : List Assn} {σ : AHeap} {Q : WK}

theorem within3_ok {k : Int} {lo hi : Nat} (hn : lo ≤ hi ∧ hi ≤ 1000) (hk : ∀ a : Nat, lo ≤ a → a ≤ hi → Q (.int .i64 a) σ) : E 36 [.int .i64 k, .int .i64 lo, .int .i64 hi] σ Q := by
  apply s36_ev; unfold s36
  have h0 : IntKind.i64.wrap ((hi : Int) - (lo : Int)) = ((hi - lo : Nat) : Int) := by rw [wrap_i64 (by omega)]; omega
  have h00 : IntKind.i64.wrap (((hi - lo : Nat) : Int) + 1) = ((hi - lo + 1 : Nat) : Int) := by rw [wrap_i64 (by omega)]; omega
  have h1 : IntKind.u64.wrap ((hi - lo + 1 : Nat) : Int) = ((hi - lo + 1 : Nat) : Int) := wrap_u64 (by omega)
  have h2 : 0 ≤ IntKind.u64.wrap k := by
    simp [IntKind.wrap, IntKind.bits, IntKind.signed]; omega
  obtain ⟨m, hm⟩ : ∃ m : Nat, IntKind.u64.wrap k = m := ⟨(IntKind.u64.wrap k).toNat, by omega⟩
  have h3 : ¬ ((hi - lo + 1 : Nat) : Int) = 0 := by omega
  have h4 : ((m : Nat) : Int).tmod ((hi - lo + 1 : Nat) : Int) = ((m % (hi - lo + 1) : Nat) : Int) := rfl
  have h5 : m % (hi - lo + 1) < hi - lo + 1 := Nat.mod_lt _ (by omega)
  have h6 : IntKind.i64.wrap ((m % (hi - lo + 1) : Nat) : Int) = ((m % (hi - lo + 1) : Nat) : Int) := wrap_i64 (by omega)
  have h7 : IntKind.i64.wrap ((lo : Int) + ((m % (hi - lo + 1) : Nat) : Int)) = ((lo + m % (hi - lo + 1) : Nat) : Int) := by rw [wrap_i64 (by omega)]; omega
  simp only [conv_int, bin_sub, bin_add, h0, h00, h1, hm, pu_some, bin_rem, if_neg h3, h4, h6, h7]
  exact hk _ (by omega) (by omega)

/-- What a block of the tests is. -/
def blk5 (x : UInt8) (n : Nat) : List UInt8 := (List.range n).map fun i => x + UInt8.ofNat (i / 64)
theorem blk5_len (x : UInt8) (n : Nat) : (blk5 x n).length = n := by simp [blk5]
theorem blk5_snoc (x : UInt8) (n : Nat) : blk5 x (n + 1) = blk5 x n ++ [x + UInt8.ofNat (n / 64)] := by simp [blk5, List.range_succ]
theorem add_u8 (x : UInt8) (q : Nat) (hq : q < 256) : Value.int .u8 (IntKind.u8.wrap ((x.toNat : Int) + (q : Int))) = by8 (x + UInt8.ofNat q) := by
  simp only [by8, UInt8.toNat_add, UInt8.toNat_ofNat']
  congr 1
  simp [IntKind.wrap, IntKind.bits, IntKind.signed]
theorem block5_ok {x : UInt8} (h : H l σ) (hk : ∀ w σ', H (l ++ [Own 5 1 w 256 (bv (blk5 x 256))]) σ' → Q w σ') : E 39 [by8 x] σ Q := by
  apply s39_ev; unfold s39
  refine make_ok (H_one.2 h) (by omega) ?_
  intro b σ1 h1
  have e64 : reps (Int.toNat 256) [Value.int .u8 0] = bv (List.replicate 256 0) := by rw [reps_one, show (Value.int .u8 0) = by8 0 from rfl, bv_replicate]; rfl
  rw [e64] at h1
  have h2 := h1.to_own 1 rfl (n := 256) (z := 1) (by simp) (by unfold OPEN; omega)
  simp
  refine ⟨fun m x0 x3 x4 τ => ∃ (k : Nat), m = 256 - k ∧ k ≤ 256 ∧ x0 = by8 x ∧ x3 = .slice (some ⟨b, 0, none⟩) 256 256 ∧ x4 = .int .i64 k ∧ H [Star l, Own 5 1 (.slice (some ⟨b, 0, none⟩) 256 256) 256 (bv (blk5 x k ++ List.replicate (256 - k) 0))] τ, ⟨_, 0, rfl, by omega, rfl, rfl, rfl, by rw [show blk5 x 0 ++ List.replicate (256 - 0) 0 = List.replicate 256 0 by simp [blk5]]; exact h2⟩, ?_⟩
  clear h1 h2
  rintro m _ _ _ τ ⟨k, rfl, hk2, rfl, rfl, rfl, h3⟩
  suffices hb : ∀ N : Value → Value → Value → AHeap → Prop, (∀ τ', k < 256 → H [Star l, Own 5 1 (.slice (some ⟨b, 0, none⟩) 256 256) 256 (bv (blk5 x (k + 1) ++ List.replicate (256 - (k + 1)) 0))] τ' → N (by8 x) (.slice (some ⟨b, 0, none⟩) 256 256) (.int .i64 (k + 1 : Nat)) τ') →
      s39b1 N Q (by8 x) (.slice (some ⟨b, 0, none⟩) 256 256) (.int .i64 k) τ from
    hb _ fun τ' hlt h' => ⟨_, by omega, k + 1, rfl, by omega, rfl, rfl, rfl, h'⟩
  intro N hN
  unfold s39b1
  simp only [lenS_slice, pu_some, bin_lss]
  refine wC_dec (fun g1 => ?_) fun g1 => ?_
  · have g1 : k < 256 := by omega
    have w1 : IntKind.i64.wrap (((k : Nat) : Int).tdiv 64) = ((k / 64 : Nat) : Int) := by
      rw [show ((k : Nat) : Int).tdiv 64 = ((k / 64 : Nat) : Int) from rfl, wrap_i64 (by omega)]
    have w2 : IntKind.u8.wrap ((k / 64 : Nat) : Int) = ((k / 64 : Nat) : Int) := wrap_u8 (by omega)
    simp only [bin_quo, show ¬ (64 : Int) = 0 by decide, if_false, w1, pu_some, conv_int, w2]
    rw [show by8 x = .int .u8 (x.toNat : Int) from rfl]
    simp only [bin_add, pu_some]
    rw [add_u8 _ _ (by omega), idxA (by omega)]
    simp only [pu_some, Int.toNat_natCast, Nat.mul_one, Nat.zero_add]
    refine store_own h3 1 rfl (by omega) rfl (by simp [blk5_len]; omega) ?_
    intro τ1 h4
    rw [wrap_i64 (by omega)]
    refine hN τ1 g1 ?_
    have e : (bv (blk5 x k ++ List.replicate (256 - k) 0)).set k (by8 (x + UInt8.ofNat (k / 64))) = bv (blk5 x (k + 1) ++ List.replicate (256 - (k + 1)) 0) := by
      rw [bv_set, List.set_append_right _ _ (by rw [blk5_len]; omega), blk5_len, Nat.sub_self, show 256 - k = (256 - (k + 1)) + 1 by omega, List.replicate_succ, List.set_cons_zero, blk5_snoc]
      simp
    rw [e] at h4
    exact h4
  · have : k = 256 := by omega
    subst this
    refine hk _ τ (H_app.2 ?_)
    simpa using h3
end Go.Ax.YtfeamgocomlepaaC
/- What is read behind writes; the cache's row by its places. No program here. No statement of the seat is proved here. -/
set_option maxRecDepth 100000
namespace Go.Ax.YtfeamgocomlepaaC

theorem over_append (a : Nat) (L : List UInt8) (fs gs : List Flight) : over a L (fs ++ gs) = over a (over a L fs) gs := by simp [over]
theorem over_other {a c : Nat} (h : a ≠ c) (L b : List UInt8) (hb : b.length = 256) : over (a * 256) L (parts c b) = L := by
  simp only [over, parts, List.foldl_cons, List.foldl_nil]
  rw [if_neg (by omega), if_neg (by omega), if_neg (by omega), if_neg (by omega)]
theorem over_same {a : Nat} {L b : List UInt8} (hL : L.length = 256) (hb : b.length = 256) : over (a * 256) L (parts a b) = b := by
  simp only [over, parts, List.foldl_cons, List.foldl_nil]
  rw [if_pos (by omega), if_pos (by omega), if_pos (by omega), if_pos (by omega)]
  rw [show a * 256 - a * 256 = 0 by omega, show a * 256 + 64 - a * 256 = 64 by omega, show a * 256 + 128 - a * 256 = 128 by omega, show a * 256 + 192 - a * 256 = 192 by omega]
  have l0 : ((b.drop 0).take 64).length = 64 := by simp; omega
  have l1 : ((b.drop 64).take 64).length = 64 := by simp; omega
  have l2 : ((b.drop 128).take 64).length = 64 := by simp; omega
  have l3 : ((b.drop 192).take 64).length = 64 := by simp; omega
  have p0 : (put L 0 ((b.drop 0).take 64)).length = 256 := by rw [put_length _ _ _ (by omega), hL]
  have p1 : (put (put L 0 ((b.drop 0).take 64)) 64 ((b.drop 64).take 64)).length = 256 := by rw [put_length _ _ _ (by omega), p0]
  have p2 : (put (put (put L 0 ((b.drop 0).take 64)) 64 ((b.drop 64).take 64)) 128 ((b.drop 128).take 64)).length = 256 := by rw [put_length _ _ _ (by omega), p1]
  apply List.ext_getElem?
  intro i
  rw [put_get _ _ _ (by omega), put_get _ _ _ (by omega), put_get _ _ _ (by omega), put_get _ _ _ (by omega)]
  rw [l0, l1, l2, l3]
  simp only [List.getElem?_take, List.getElem?_drop]
  by_cases h3 : 192 ≤ i ∧ i < 192 + 64
  · rw [if_pos h3, if_pos (by omega)]; congr 1; omega
  · rw [if_neg h3]
    by_cases h2 : 128 ≤ i ∧ i < 128 + 64
    · rw [if_pos h2, if_pos (by omega)]; congr 1; omega
    · rw [if_neg h2]
      by_cases h1 : 64 ≤ i ∧ i < 64 + 64
      · rw [if_pos h1, if_pos (by omega)]; congr 1; omega
      · rw [if_neg h1]
        by_cases h0 : 0 ≤ i ∧ i < 0 + 64
        · rw [if_pos h0, if_pos (by omega)]; congr 1; omega
        · rw [if_neg h0, List.getElem?_eq_none (by omega), List.getElem?_eq_none (by omega)]
/-- What is read behind a write. -/
theorem block_fling {D : DM} {n a c : Nat} {b : List UInt8} (hD : D.Ok n) (ha : a < n) (hb : b.length = 256) : (D.fling c b).block a = if a = c then b else D.block a := by
  have h1 : (D.fling c b).block a = over (a * 256) (D.block a) (parts c b) := by
    unfold DM.block DM.fling
    simp only [over_append]
  rw [h1]
  split
  · rename_i e; subst e
    exact over_same (block_len hD ha) hb
  · rename_i e
    exact over_other e _ _ hb
theorem block_new {n a : Nat} (ha : a < n) : (DM.new n).block a = List.replicate 256 0 := by
  rw [block_still _ rfl]
  simp only [DM.new, List.drop_replicate, List.take_replicate]
  congr 1; omega
end Go.Ax.YtfeamgocomlepaaC
/- Rows of numbers that stay as they are. No statement of the seat is proved here. -/
set_option maxRecDepth 100000
namespace Go.Ax.YtfeamgocomlepaaC
open Go.Proofs Go.RowKit

variable {l m : List Assn} {σ : AHeap} {Q : WK}

def iv (xs : List Nat) : List Value := xs.map fun x => .int .i64 (x : Nat)
theorem iv_len (xs : List Nat) : (iv xs).length = xs.length := by simp [iv]
theorem iv_one (xs : List Nat) : (iv xs).all one = true := by simp [iv, one, Value.oneCell']
def IntsA (v : Value) (xs : List Nat) : Assn := fun r => pure' (v = .slice none 0 0 ∧ xs = []) r ∨
  ∃ (b o cap : Nat) (c : List Value) (e : Nat) (opn : Bool), ro b (.cells c e opn) r ∧ v = .slice (some ⟨b, o, none⟩) xs.length cap ∧ CapOk 1 xs.length cap ∧ (c.drop o).take xs.length = iv xs ∧ o + xs.length ≤ c.length
theorem IntsA.dup (v : Value) (xs : List Nat) : Dup (IntsA v xs) := by
  rintro r (h | ⟨b, o, cap, c, e, opn, h, k⟩)
  · obtain ⟨a, b, j, p, q⟩ := Dup.pure _ r h
    exact ⟨a, b, j, .inl p, .inl q⟩
  · obtain ⟨a, d, j, p, q⟩ := Dup.ro _ _ r h
    exact ⟨a, d, j, .inr ⟨b, o, cap, c, e, opn, p, k⟩, .inr ⟨b, o, cap, c, e, opn, q, k⟩⟩
theorem H_ints {v : Value} {xs : List Nat} : H (IntsA v xs :: l) σ ↔ ((v = .slice none 0 0 ∧ xs = []) ∧ H l σ) ∨
    ∃ (b o cap : Nat) (c : List Value) (e : Nat) (opn : Bool), H (ro b (.cells c e opn) :: l) σ ∧ v = .slice (some ⟨b, o, none⟩) xs.length cap ∧ CapOk 1 xs.length cap ∧ (c.drop o).take xs.length = iv xs ∧ o + xs.length ≤ c.length := by
  constructor
  · rintro ⟨r, h, a, k, j, x | ⟨b, o, cap, c, e, opn, x, y⟩, hk⟩
    · obtain ⟨rfl, x⟩ := x
      exact .inl ⟨x, r, h, by rw [j.emp_eq]; exact hk⟩
    · exact .inr ⟨b, o, cap, c, e, opn, ⟨r, h, a, k, j, x, hk⟩, y⟩
  · rintro (⟨x, r, h, hk⟩ | ⟨b, o, cap, c, e, opn, ⟨r, h, a, k, j, x, hk⟩, y⟩)
    · exact ⟨r, h, _, r, Res.Join.emp_left r, .inl ⟨rfl, x⟩, hk⟩
    · exact ⟨r, h, a, k, j, .inr ⟨b, o, cap, c, e, opn, x, y⟩, hk⟩
theorem ints_form {v : Value} {xs : List Nat} (h : H l σ) (i : Nat) (hi : l[i]? = some (IntsA v xs)) : ∃ a c, v = .slice a xs.length c := by
  rcases H_ints.1 (h.front i hi) with ⟨⟨rfl, rfl⟩, _⟩ | ⟨b, o, cap, c, e, opn, _, rfl, _⟩
  · exact ⟨_, _, rfl⟩
  · exact ⟨_, _, rfl⟩
theorem ints_elem {v : Value} {xs : List Nat} {k x : Nat} (h : H l σ) (i : Nat) (hi : l[i]? = some (IntsA v xs)) (hx : xs[k]? = some x) :
    ∃ b o, (∀ kd, aIndexAddr 1 v (.int kd k) = some (.pointer (some ⟨b, o, none⟩))) ∧ aLoad false 1 (.pointer (some ⟨b, o, none⟩)) σ = some (.int .i64 x) := by
  have hlt := (List.getElem?_eq_some_iff.1 hx).1
  rcases H_ints.1 (h.front i hi) with ⟨⟨rfl, rfl⟩, _⟩ | ⟨b, o, cap, c, e, opn, h1, rfl, hc, hd, hl⟩
  · simp at hx
  · refine ⟨b, o + k, fun kd => by rw [idxA (by omega)]; simp, ?_⟩
    rw [load1 (row_cells h1.rget0.1)]
    have : ((c.drop o).take xs.length)[k]? = (iv xs)[k]? := by rw [hd]
    rw [List.getElem?_take, if_pos hlt, List.getElem?_drop] at this
    rw [this]; simp [iv, hx]
theorem ints_in {v : Value} {n : Nat} {xs : List Nat} (hn : 0 < n) (h : H (Own 3 1 v n (iv xs) :: l) σ) : H (IntsA v xs :: l) σ := by
  rcases H_own.1 h with ⟨⟨rfl, _⟩, _⟩ | ⟨b, c, opn, rest, hp, hx, hr, rfl, hn2, ho⟩
  · omega
  · have hxl : xs.length = n := by simpa [iv_len] using hx
    refine H_ints.2 (.inr ⟨b, 0, c, iv xs ++ rest, 3, opn, hp.freeze0, by rw [hxl], ⟨by omega, ?_⟩, ?_, by simp [iv_len]⟩)
    · rcases ho with ⟨_, _, q⟩ | q
      · exact .inr q
      · exact .inl q
    · rw [List.drop_zero, List.take_append_of_le_length (by rw [iv_len]; omega), List.take_of_length_le (by rw [iv_len]; omega)]
/-- All but the first. -/
theorem ints_tail {v : Value} {xs : List Nat} (h : H (IntsA v xs :: l) σ) (h2 : 2 ≤ xs.length) : ∃ v', (∀ kd, aSlice 1 v (some (.int kd 1)) none none = some v') ∧ H (IntsA v' xs.tail :: l) σ := by
  rcases H_ints.1 h with ⟨⟨rfl, rfl⟩, _⟩ | ⟨b, o, cap, c, e, opn, h1, rfl, hc, hd, hl⟩
  · simp at h2
  · obtain ⟨c', e1, hc'⟩ := slice_from (z := 1) (b := b) (o := o) (lo := 1) (k := .i64) hc (by omega)
    refine ⟨_, fun kd => e1, H_ints.2 (.inr ⟨b, o + 1, c', c, e, opn, h1, by simp, by simpa using hc', ?_, by simp; omega⟩)⟩
    have : iv xs.tail = (iv xs).drop 1 := by simp [iv]
    rw [this, ← hd, List.drop_take, List.drop_drop]
    simp
end Go.Ax.YtfeamgocomlepaaC
/- CacheHolds on the abstract heap: its end. No statement of the seat is proved here. -/
set_option maxRecDepth 100000
namespace Go.Ax.YtfeamgocomlepaaC
open Go.Proofs Go.RowKit

variable {l m : List Assn} {σ : AHeap} {Q : WK}

theorem conv_str {a : Option Addr} {n c : Nat} {x : List UInt8} (hs : srcOf 1 (.slice a n c) σ = some (n, bv x)) : aConv P 23 9 (.slice a n c) σ = some (.string ⟨x.toArray⟩) := by
  have h1 : aConv P 23 9 (.slice a n c) σ = aBytesStr (.slice a n c) σ := by kernel_rfl
  rw [h1, bytesStr_src hs]
theorem str_eql (x y : List UInt8) : aBin (some .string) .eql (.string ⟨x.toArray⟩) (.string ⟨y.toArray⟩) = some (.bool (decide (x = y))) := by
  simp [aBin, aStr, ByteArray.toList_eq]
  by_cases e : x = y <;> simp [e]
theorem str_neq (x y : List UInt8) : aBin (some .string) .neq (.string ⟨x.toArray⟩) (.string ⟨y.toArray⟩) = some (.bool (!decide (x = y))) := by
  simp [aBin, aStr, ByteArray.toList_eq]
  by_cases e : x = y <;> simp [e]
abbrev QT' : WK := fun r _ => r = .bool true

theorem room_clean {C : CM} {D : DM} (hcl : ∀ x ∈ C.its, x.dirty = false) : (C.room D).2 = D := by
  unfold CM.room
  split
  · rfl
  · split
    · rfl
    · rename_i x l e
      have := hcl x (by rw [e]; simp)
      simp [wroteI, this]

theorem holds_last {v dv hv : Value} {K : Nat} {C : CM} {D : DM} {held : List Nat} (h : H [CacheA v dv K C, Disk dv D, IntsA hv held] σ) (hC : C.Ok 16) (hcl : ∀ x ∈ C.its, x.dirty = false) (hheld : ∀ a, a ∈ held ↔ a ∈ C.its.map (·.pl)) (hD : DPlain D 16)
    (hblk : ∀ a, a < 16 → D.block a = blk5 9 256) (hm : D.fly.length < 1000) (hK : K + 2 < 18446744073709551616) (hhl : held.length ≤ 1024) :
    ∃ I : Nat → Value → Value → Value → AHeap → Prop, (∃ m, I m v hv (.int .i64 0) σ) ∧ ∀ m (x7 x9 x20 : Value) (σ' : AHeap), I m x7 x9 x20 σ' → s7b5 (fun x7 x9 x20 σ' => ∃ m', m' < m ∧ I m' x7 x9 x20 σ') QT' x7 x9 x20 σ' := by
  refine ⟨fun m x7 x9 x20 τ => ∃ a : Nat, m = 16 - a ∧ a ≤ 16 ∧ v = x7 ∧ hv = x9 ∧ x20 = .int .i64 a ∧ H [CacheA v dv K C, Disk dv D, IntsA hv held] τ, ⟨_, 0, rfl, by omega, rfl, rfl, rfl, h⟩, ?_⟩
  clear h
  rintro m _ _ _ τ ⟨a, rfl, ha, rfl, rfl, rfl, h⟩
  suffices hb : ∀ N5 : Value → Value → Value → AHeap → Prop, (∀ τ', a < 16 → H [CacheA v dv K C, Disk dv D, IntsA hv held] τ' → N5 v hv (.int .i64 (a + 1 : Nat)) τ') → s7b5 N5 QT' v hv (.int .i64 a) τ from
    hb _ fun τ' hlt h' => ⟨_, by omega, a + 1, rfl, by omega, rfl, rfl, rfl, h'⟩
  intro N5 hN5
  unfold s7b5
  simp only [bin_lss, pu_some]
  refine wC_dec (fun g => ?_) fun g => E_true rfl rfl
  have g : a < 16 := by omega
  refine ⟨fun m x7 x9 x20 x21 x22 τ => ∃ k : Nat, m = held.length - k ∧ k ≤ held.length ∧ v = x7 ∧ hv = x9 ∧ x20 = .int .i64 a ∧ x21 = .bool ((held.take k).any (· == a)) ∧ x22 = .int .i64 k ∧ H [CacheA v dv K C, Disk dv D, IntsA hv held] τ, ⟨_, 0, rfl, by omega, rfl, rfl, rfl, rfl, rfl, h⟩, ?_⟩
  clear h
  rintro m _ _ _ _ _ τ ⟨k, rfl, hk, rfl, rfl, rfl, rfl, rfl, h⟩
  suffices hb : ∀ N6 : Value → Value → Value → Value → Value → AHeap → Prop, (∀ τ', k < held.length → H [CacheA v dv K C, Disk dv D, IntsA hv held] τ' → N6 v hv (.int .i64 a) (.bool ((held.take (k + 1)).any (· == a))) (.int .i64 (k + 1 : Nat)) τ') →
      s7b6 N5 N6 QT' v hv (.int .i64 a) (.bool ((held.take k).any (· == a))) (.int .i64 k) τ from
    hb _ fun τ' hlt h' => ⟨_, by omega, k + 1, rfl, by omega, rfl, rfl, rfl, rfl, rfl, h'⟩
  intro N6 hN6
  obtain ⟨ia, ic, he⟩ := ints_form h 2 rfl
  unfold s7b6
  simp only [he, lenS_slice, pu_some, bin_lss]
  rw [← he]
  refine wC_dec (fun g1 => ?_) fun g1 => ?_
  · have g1 : k < held.length := by omega
    have hx := List.getElem?_eq_getElem g1
    have ht : (held.take (k + 1)).any (· == a) = ((held.take k).any (· == a) || held[k] == a) := by
      rw [List.take_add_one, hx]; simp only [List.any_append, Option.toList_some, List.any_cons, List.any_nil, Bool.or_false]
    have k50 : ∀ b, b = (held.take (k + 1)).any (· == a) → s7k50 N6 QT' (.int .i64 k) v hv (.int .i64 a) (.bool b) τ := by
      intro b hb
      unfold s7k50
      simp only [bin_add, pu_some]
      rw [wrap_i64 (by omega), hb]
      exact hN6 τ g1 h
    refine wG_iff (fun g2 => ?_) fun g2 => ?_
    · exact k50 true (by rw [ht, g2]; rfl)
    · obtain ⟨b, o, e1, e2⟩ := ints_elem h 2 rfl hx
      simp only [e1, e2, pu_some, bin_eql]
      refine k50 _ ?_
      rw [ht, g2]
      simp only [Bool.false_or]
      by_cases e : held[k] = a
      · simp [e]
      · have : ¬ (held[k] : Int) = (a : Int) := by omega
        simp [e, this]
  · have : k = held.length := by omega
    subst this
    rw [List.take_length]
    simp only [un_not, pu_some]
    refine wC_iff (fun g2 => ?_) fun g2 => ?_
    · have hno : ∀ x ∈ C.its, x.pl ≠ a := by
        intro x hx e
        have h1 : a ∈ held := (hheld a).2 (List.mem_map.2 ⟨x, hx, e⟩)
        have h2 : held.any (· == a) = true := List.any_eq_true.2 ⟨a, h1, by simp⟩
        rw [h2] at g2; simp at g2
      refine get_miss h hC hno g hD (by omega) hK ?_
      intro w τ1 h1
      rw [room_clean hcl, hblk a g] at h1
      simp only [extract0, extract1, pu_some, bin_eql, decide_true, wG_true]
      obtain ⟨s1, _, wa, wc, rfl⟩ := h1.own_src 3 rfl
      rw [conv_str s1]
      simp only [pu_some]
      refine block5_ok (x := 9) h1 ?_
      intro w2 τ2 h2
      obtain ⟨s1, _, _⟩ := h2.own_src 3 rfl
      obtain ⟨s2, _, wa2, wc2, rfl⟩ := h2.own_src 4 rfl
      rw [conv_str s1, conv_str s2]
      simp only [pu_some, str_eql, decide_true, wG_true]
      refine ⟨by simp [veq1, veq, veq0], ?_⟩
      exact E_true rfl rfl
    · simp only [bin_add, pu_some]
      rw [wrap_i64 (by omega)]
      exact hN5 τ g h
end Go.Ax.YtfeamgocomlepaaC
/- CacheHolds on the abstract heap: what is held is not read anew. No statement of the seat is proved here. -/
set_option maxRecDepth 100000
namespace Go.Ax.YtfeamgocomlepaaC
open Go.Proofs Go.RowKit

variable {l m : List Assn} {σ : AHeap} {Q : WK}

theorem CM.Ok.perm {C : CM} {n : Nat} {its : List It} (h : C.Ok n) (hp : its.Perm C.its) : ({ C with its := its } : CM).Ok n :=
  ⟨h.lo, h.hi, by rw [show ({ C with its := its } : CM).its = its from rfl, hp.length_eq]; exact h.len, fun x hx => h.it x (hp.mem_iff.1 hx), ((hp.map (·.pl)).nodup_iff).2 h.nd⟩
theorem hit_perm {α : Type} (A B : List α) (x : α) : (A ++ B ++ [x]).Perm (A ++ x :: B) := by
  rw [List.append_assoc]
  exact List.Perm.append_left A (List.perm_append_singleton x B)

theorem holds_gets {v dv hv : Value} {K : Nat} {C : CM} {D : DM} {held : List Nat} (h : H [CacheA v dv K C, Disk dv D, IntsA hv held] σ) (hC : C.Ok 16) (hcl : ∀ x ∈ C.its, x.dirty = false ∧ x.b = List.replicate 256 0) (hheld : ∀ a, a ∈ held ↔ a ∈ C.its.map (·.pl)) (hD : DPlain D 16)
    (hblk : ∀ a, a < 16 → D.block a = blk5 9 256) (hm : D.fly.length < 1000) (hK : K + 2000 < 18446744073709551616) (hhl : held.length ≤ 1024) :
    ∃ I : Nat → Value → Value → Value → AHeap → Prop, (∃ m, I m v hv (.int .i64 0) σ) ∧ ∀ m (x7 x9 x17 : Value) (σ' : AHeap), I m x7 x9 x17 σ' → s7b4 (fun x7 x9 x17 σ' => ∃ m', m' < m ∧ I m' x7 x9 x17 σ') QT' x7 x9 x17 σ' := by
  refine ⟨fun m x7 x9 x17 τ => ∃ (k : Nat) (C' : CM), m = held.length - k ∧ k ≤ held.length ∧ v = x7 ∧ hv = x9 ∧ x17 = .int .i64 k ∧ C'.Ok 16 ∧ (∀ x ∈ C'.its, x.dirty = false ∧ x.b = List.replicate 256 0) ∧ (∀ a, a ∈ held ↔ a ∈ C'.its.map (·.pl)) ∧ H [CacheA v dv (K + k) C', Disk dv D, IntsA hv held] τ,
    ⟨_, 0, C, rfl, by omega, rfl, rfl, rfl, hC, hcl, hheld, h⟩, ?_⟩
  clear h hC hcl hheld
  rintro m _ _ _ τ ⟨k, C', rfl, hk, rfl, rfl, rfl, hC, hcl, hheld, h⟩
  suffices hb : ∀ N4 : Value → Value → Value → AHeap → Prop, (∀ (C2 : CM) τ', k < held.length → C2.Ok 16 → (∀ x ∈ C2.its, x.dirty = false ∧ x.b = List.replicate 256 0) → (∀ a, a ∈ held ↔ a ∈ C2.its.map (·.pl)) → H [CacheA v dv (K + (k + 1)) C2, Disk dv D, IntsA hv held] τ' → N4 v hv (.int .i64 (k + 1 : Nat)) τ') → s7b4 N4 QT' v hv (.int .i64 k) τ from
    hb _ fun C2 τ' hlt a b c h' => ⟨_, by omega, k + 1, C2, rfl, by omega, rfl, rfl, rfl, a, b, c, h'⟩
  intro N4 hN4
  obtain ⟨ia, ic, he⟩ := ints_form h 2 rfl
  unfold s7b4
  simp only [he, lenS_slice, pu_some, bin_lss]
  rw [← he]
  refine wC_dec (fun g1 => ?_) fun g1 => ?_
  · have g1 : k < held.length := by omega
    have hx := List.getElem?_eq_getElem g1
    obtain ⟨b, o, e1, e2⟩ := ints_elem h 2 rfl hx
    simp only [e1, e2, pu_some]
    obtain ⟨it, hit, hpl⟩ := List.mem_map.1 ((hheld held[k]).1 (List.getElem_mem g1))
    obtain ⟨A, B, hits⟩ := List.append_of_mem hit
    rw [← hpl]
    refine get_hit h hC hits hD (by omega) ?_
    intro w τ1 h1
    have hpm : (A ++ B ++ [it]).Perm C'.its := by rw [hits]; exact hit_perm A B it
    simp only [extract0, extract1, pu_some, bin_neq, ne_eq, not_true, decide_false, wG_false]
    obtain ⟨hd0, hb0⟩ := hcl it hit
    rw [hb0] at h1
    obtain ⟨s1, _, wa, wc, rfl⟩ := h1.own_src 3 rfl
    rw [conv_str s1]
    simp only [pu_some]
    refine make_ok h1 (by omega) ?_
    intro nb τ2 h2
    have e64 : reps (Int.toNat 256) [Value.int .u8 0] = bv (List.replicate 256 0) := by rw [reps_one, show (Value.int .u8 0) = by8 0 from rfl, bv_replicate]; rfl
    rw [e64] at h2
    have h3 := h2.to_own 4 rfl (n := 256) (z := 1) (by simp) (by unfold OPEN; omega)
    obtain ⟨s1, _, _⟩ := h3.own_src 3 rfl
    obtain ⟨s2, _, _⟩ := h3.own_src 4 rfl
    rw [conv_str s1]
    rw [show Int.toNat 256 = 256 from rfl, conv_str s2]
    simp only [pu_some, str_neq, decide_true, Bool.not_true]
    refine ⟨by simp [veq1, veq, veq0], ?_⟩
    unfold s7k40
    simp only [wC_false, bin_add, pu_some]
    rw [wrap_i64 (by omega)]
    refine hN4 { C' with its := A ++ B ++ [it] } τ2 g1 (hC.perm hpm) (fun x hx => hcl x (hpm.mem_iff.1 hx)) (fun a => ?_) ?_
    · rw [hheld a]
      exact ((hpm.map (·.pl)).mem_iff).symm
    · exact h3.pick [0, 1, 2] (by decide) |> fun h4 => by
        have h5 : H [CacheA v dv (K + k + 1) { C' with its := A ++ B ++ [it] }, Disk dv D, IntsA hv held] τ2 := h4
        rw [show K + (k + 1) = K + k + 1 by omega]
        exact h5
  · exact holds_last h hC (fun x hx => (hcl x hx).1) hheld hD hblk hm (by omega) hhl
end Go.Ax.YtfeamgocomlepaaC
/- CacheHolds on the abstract heap: other blocks on the disk. No statement of the seat is proved here. -/
set_option maxRecDepth 100000
namespace Go.Ax.YtfeamgocomlepaaC
open Go.Proofs Go.RowKit

variable {l m : List Assn} {σ : AHeap} {Q : WK}

theorem holds_writes {v dv hv : Value} {K : Nat} {C : CM} {D : DM} {held : List Nat} (h : H [CacheA v dv K C, Disk dv D, IntsA hv held] σ) (hC : C.Ok 16) (hcl : ∀ x ∈ C.its, x.dirty = false ∧ x.b = List.replicate 256 0) (hheld : ∀ a, a ∈ held ↔ a ∈ C.its.map (·.pl)) (hll : C.its.length = held.length) (hD : DPlain D 16)
    (hf : D.fly = []) (hK : K + 2000 < 18446744073709551616) :
    ∃ I : Nat → Value → Value → Value → Value → AHeap → Prop, (∃ m, I m dv v hv (.int .i64 0) σ) ∧ ∀ m (x5 x7 x9 x16 : Value) (σ' : AHeap), I m x5 x7 x9 x16 σ' → s7b3 (fun x5 x7 x9 x16 σ' => ∃ m', m' < m ∧ I m' x5 x7 x9 x16 σ') QT' x5 x7 x9 x16 σ' := by
  refine ⟨fun m x5 x7 x9 x16 τ => ∃ (k : Nat) (D' : DM), m = 16 - k ∧ k ≤ 16 ∧ dv = x5 ∧ v = x7 ∧ hv = x9 ∧ x16 = .int .i64 k ∧ DPlain D' 16 ∧ D'.fly.length = 4 * k ∧ (∀ a, a < k → D'.block a = blk5 9 256) ∧ H [CacheA v dv K C, Disk dv D', IntsA hv held] τ,
    ⟨_, 0, D, rfl, by omega, rfl, rfl, rfl, rfl, hD, by simp [hf], fun a ha => by omega, h⟩, ?_⟩
  clear h hD hf
  rintro m _ _ _ _ τ ⟨k, D', rfl, hk, rfl, rfl, rfl, rfl, hD, hf, hblk, h⟩
  suffices hb : ∀ N3 : Value → Value → Value → Value → AHeap → Prop, (∀ (D2 : DM) τ', k < 16 → DPlain D2 16 → D2.fly.length = 4 * (k + 1) → (∀ a, a < k + 1 → D2.block a = blk5 9 256) → H [CacheA v dv K C, Disk dv D2, IntsA hv held] τ' → N3 dv v hv (.int .i64 (k + 1 : Nat)) τ') → s7b3 N3 QT' dv v hv (.int .i64 k) τ from
    hb _ fun D2 τ' hlt a b c h' => ⟨_, by omega, k + 1, D2, rfl, by omega, rfl, rfl, rfl, rfl, a, b, c, h'⟩
  intro N3 hN3
  unfold s7b3
  simp only [bin_lss, pu_some]
  have hhi := hC.hi
  have hle := hC.len
  refine wC_dec (fun g1 => ?_) fun g1 => ?_
  · have g1 : k < 16 := by omega
    refine block5_ok (x := 9) h ?_
    intro w τ1 h1
    have hl5 := blk5_len 9 256
    refine write_ok (bs := blk5 9 256) h1 1 rfl hD.ok (by rw [hD.fuse]; omega) (by omega) (by omega) (fun τ hτ => hτ.own_rd 3 rfl) ?_
    rw [write_plain hD.ok hD.off hD.fuse g1 hl5]
    intro τ2 h2
    simp only [bin_neq, pu_some, ne_eq, not_true, decide_false, wC_false, bin_add]
    rw [wrap_i64 (by omega)]
    refine hN3 (D'.fling k (blk5 9 256)) τ2 g1 (hD.fling g1 hl5) (by simp [DM.fling, parts, hf]; omega) (fun a ha => ?_) (h2.pick [0, 1, 2] (by decide))
    rw [block_fling hD.ok (by omega) hl5]
    split
    · rfl
    · exact hblk a (by omega)
  · have : k = 16 := by omega
    subst this
    refine held_ok h ?_
    obtain ⟨ia, ic, he⟩ := ints_form h 2 rfl
    simp only [he, lenS_slice, pu_some, bin_neq]
    rw [← he, hll]
    simp only [ne_eq, not_true, decide_false, wC_false]
    exact holds_gets h hC hcl hheld hD hblk (by omega) hK (by omega)
end Go.Ax.YtfeamgocomlepaaC
/- CacheHolds on the abstract heap. No statement of the seat is proved here. -/
set_option maxRecDepth 100000
namespace Go.Ax.YtfeamgocomlepaaC
open Go.Proofs Go.RowKit

variable {l m : List Assn} {σ : AHeap} {Q : WK}

/-- The places after one was used: what the test keeps. -/
def lru (n : Nat) (held : List Nat) (a : Nat) : List Nat :=
  let next := held.filter (· ≠ a) ++ [a]
  if n < next.length then next.tail else next
theorem filter_hit {A B : List It} {it : It} (h : ((A ++ it :: B).map (·.pl)).Nodup) : ((A ++ it :: B).map (·.pl)).filter (· ≠ it.pl) = (A ++ B).map (·.pl) := by
  simp only [List.map_append, List.map_cons] at h ⊢
  rw [List.filter_append, List.filter_cons_of_neg (by simp)]
  have hd := (List.nodup_append.1 h)
  congr 1
  · rw [List.filter_eq_self]
    intro x hx
    have := hd.2.2 x hx it.pl (by simp)
    simpa using this
  · rw [List.filter_eq_self]
    intro x hx
    have h2 := (List.nodup_cons.1 hd.2.1).1
    simp
    intro e
    subst e
    exact h2 hx

theorem holds_next {N1 : Value → Value → Value → Value → Value → Value → AHeap → Prop} {v dv hv lv : Value} {K n i a : Nat} {C : CM} {D : DM} {held : List Nat} {L : List UInt8} (h : H [CacheA v dv K C, Disk dv D, IntsA hv held, BytesA lv L] σ) (hh : held.length ≤ 1024) (hn : 1 ≤ n) (hi : i < 9223372036854775807)
    (hN : ∀ hv' τ', H [CacheA v dv K C, Disk dv D, IntsA hv' (lru n held a), BytesA lv L] τ' → N1 (.int .i64 n) lv dv v hv' (.int .i64 (i + 1 : Nat)) τ') :
    ∃ I : Nat → Value → Value → Value → Value → Value → Value → Value → Value → Value → AHeap → Prop, (∃ m, I m (.int .i64 n) lv dv v hv (.int .i64 i) (.int .i64 a) (.slice none 0 0) (.int .i64 0) σ) ∧
    ∀ m (x0 x1 x5 x7 x9 x10 x11 x14 x15 : Value) (σ' : AHeap), I m x0 x1 x5 x7 x9 x10 x11 x14 x15 σ' → s7b2 N1 (fun x0 x1 x5 x7 x9 x10 x11 x14 x15 σ' => ∃ m', m' < m ∧ I m' x0 x1 x5 x7 x9 x10 x11 x14 x15 σ') QT' x0 x1 x5 x7 x9 x10 x11 x14 x15 σ' := by
  let ys : Nat → List Nat := fun k => (held.take k).filter (· ≠ a)
  have hys : ∀ k, (ys k).length ≤ k := fun k => Nat.le_trans (List.length_filter_le _ _) (by simp; omega)
  refine ⟨fun m x0 x1 x5 x7 x9 x10 x11 x14 x15 τ => ∃ k : Nat, m = held.length - k ∧ k ≤ held.length ∧ x0 = .int .i64 n ∧ lv = x1 ∧ dv = x5 ∧ v = x7 ∧ hv = x9 ∧ x10 = .int .i64 i ∧ x11 = .int .i64 a ∧ x15 = .int .i64 k ∧ H [CacheA v dv K C, Disk dv D, IntsA hv held, BytesA lv L, Own 3 1 x14 (ys k).length (iv (ys k))] τ, ⟨_, 0, rfl, by omega, rfl, rfl, rfl, rfl, rfl, rfl, rfl, rfl, h.own_nil 3 1⟩, ?_⟩
  clear h
  rintro m _ _ _ _ _ _ _ nx _ τ ⟨k, rfl, hk, rfl, rfl, rfl, rfl, rfl, rfl, rfl, rfl, h⟩
  suffices hb : ∀ N2 : Value → Value → Value → Value → Value → Value → Value → Value → Value → AHeap → Prop, (∀ nx' τ', k < held.length → H [CacheA v dv K C, Disk dv D, IntsA hv held, BytesA lv L, Own 3 1 nx' (ys (k + 1)).length (iv (ys (k + 1)))] τ' → N2 (.int .i64 n) lv dv v hv (.int .i64 i) (.int .i64 a) nx' (.int .i64 (k + 1 : Nat)) τ') →
      s7b2 N1 N2 QT' (.int .i64 n) lv dv v hv (.int .i64 i) (.int .i64 a) nx (.int .i64 k) τ from
    hb _ fun nx' τ' hlt h' => ⟨_, by omega, k + 1, rfl, by omega, rfl, rfl, rfl, rfl, rfl, rfl, rfl, rfl, h'⟩
  intro N2 hN2
  obtain ⟨ia, ic, he⟩ := ints_form h 2 rfl
  have hk1 := hys k
  unfold s7b2
  simp only [he, lenS_slice, pu_some, bin_lss]
  rw [← he]
  refine wC_dec (fun g1 => ?_) fun g1 => ?_
  · have g1 : k < held.length := by omega
    have hx := List.getElem?_eq_getElem g1
    obtain ⟨b, o, e1, e2⟩ := ints_elem h 2 rfl hx
    have hy : ys (k + 1) = ys k ++ (if held[k] ≠ a then [held[k]] else []) := by
      simp only [ys]
      rw [List.take_add_one, hx, List.filter_append]
      congr 1
      simp only [Option.toList_some]
      by_cases e : held[k] = a
      · simp [e]
      · simp [e]
    simp only [e1, e2, pu_some, bin_neq]
    refine wC_dec (fun g2 => ?_) fun g2 => ?_
    · have g2 : held[k] ≠ a := fun e => g2 (by omega)
      refine buildS_ok (cs := [.int .i64 (held[k] : Nat)]) h (by decide) (by rfl) ?_
      intro tb τ1 h1
      have ht : srcOf 1 (.slice (some ⟨tb, 0, none⟩) 1 1) τ1 = some (1, [.int .i64 (held[k] : Nat)]) := by
        rw [src_row (h1.row 5 rfl) (by simp)]; rfl
      refine append_own h1 4 rfl ht (by omega) (by omega) (by rfl) ?_
      intro nx' τ2 h2
      unfold s7k22
      simp only [bin_add, pu_some]
      rw [wrap_i64 (by omega)]
      refine hN2 nx' τ2 g1 ?_
      rw [hy, if_pos g2]
      simp only [iv, List.map_append, List.length_append, List.map_cons, List.map_nil, List.length_cons, List.length_nil]
      exact h2.pick [0, 1, 2, 3, 4] (by decide)
    · have g2 : held[k] = a := by omega
      unfold s7k22
      simp only [bin_add, pu_some]
      rw [wrap_i64 (by omega)]
      refine hN2 nx τ g1 ?_
      rw [hy, if_neg (by simp [g2]), List.append_nil]
      exact h
  · have : k = held.length := by omega
    subst this
    refine buildS_ok (cs := [.int .i64 (a : Nat)]) h (by decide) (by rfl) ?_
    intro tb τ1 h1
    have ht : srcOf 1 (.slice (some ⟨tb, 0, none⟩) 1 1) τ1 = some (1, [.int .i64 (a : Nat)]) := by
      rw [src_row (h1.row 5 rfl) (by simp)]; rfl
    refine append_own h1 4 rfl ht (by omega) (by omega) (by rfl) ?_
    intro nx' τ2 h2
    have e5 : ys held.length = held.filter (· ≠ a) := by simp only [ys, List.take_length]
    have h3 : H [Own 3 1 nx' ((ys held.length).length + 1) (iv (held.filter (· ≠ a) ++ [a])), CacheA v dv K C, Disk dv D, BytesA lv L] τ2 := by
      have h4 := h2.pick [4, 0, 1, 3] (by decide)
      rw [← e5]
      simp only [iv, List.map_append, List.map_cons, List.map_nil]
      exact h4
    have h4 := ints_in (by omega) h3
    obtain ⟨na, nc, hne⟩ := ints_form h4 0 rfl
    simp only [hne, lenS_slice, pu_some, bin_gtr]
    rw [← hne]
    refine wC_dec (fun g2 => ?_) fun g2 => ?_
    · have g2 : n < (held.filter (· ≠ a) ++ [a]).length := by omega
      obtain ⟨v', e6, h5⟩ := ints_tail h4 (by omega)
      rw [e6]
      simp only [pu_some]
      unfold s7k26
      simp only [bin_add, pu_some]
      rw [wrap_i64 (by omega)]
      refine hN v' τ2 ?_
      have : lru n held a = (held.filter (· ≠ a) ++ [a]).tail := by unfold lru; simp only; rw [if_pos g2]
      rw [this]
      exact h5.pick [1, 2, 0, 3] (by decide)
    · unfold s7k26
      simp only [bin_add, pu_some]
      rw [wrap_i64 (by omega)]
      refine hN nx' τ2 ?_
      have : lru n held a = held.filter (· ≠ a) ++ [a] := by unfold lru; simp only; rw [if_neg (by omega)]
      rw [this]
      exact h4.pick [1, 2, 0, 3] (by decide)
end Go.Ax.YtfeamgocomlepaaC
/- CacheHolds on the abstract heap, from its beginning. No statement of the seat is proved here. -/
set_option maxRecDepth 100000
namespace Go.Ax.YtfeamgocomlepaaC
open Go.Proofs Go.RowKit

variable {l m : List Assn} {σ : AHeap} {Q : WK}

theorem lru_hit {C : CM} {n : Nat} {A B : List It} {it : It} (hC : C.Ok n) (h : C.its = A ++ it :: B) : lru C.n (C.its.map (·.pl)) it.pl = (A ++ B ++ [it]).map (·.pl) := by
  have hl := hC.len
  have hnd := hC.nd
  rw [h] at hl hnd ⊢
  unfold lru
  simp only
  rw [filter_hit hnd, if_neg (by simp at hl ⊢; omega)]
  simp
theorem lru_miss {C : CM} {n a : Nat} {D : DM} (b : List UInt8) (hC : C.Ok n) (h : ∀ x ∈ C.its, x.pl ≠ a) : lru C.n (C.its.map (·.pl)) a = ((C.room D).1 ++ [(⟨a, false, b⟩ : It)]).map (·.pl) := by
  have hl := hC.len
  have hlo := hC.lo
  have hf : (C.its.map (·.pl)).filter (· ≠ a) = C.its.map (·.pl) := by
    rw [List.filter_eq_self]
    intro x hx
    obtain ⟨y, hy, rfl⟩ := List.mem_map.1 hx
    simpa using h y hy
  unfold lru CM.room
  simp only
  rw [hf]
  by_cases hlt : C.its.length < C.n
  · rw [if_neg (by simp; omega), if_pos hlt]
    simp
  · rw [if_pos (by simp; omega), if_neg hlt]
    cases e : C.its with
    | nil => rw [e] at hlt; simp at hlt; omega
    | cons x t => simp
theorem miss_Ok {C : CM} {n a : Nat} {D : DM} {b : List UInt8} {dd : Bool} (hC : C.Ok n) (hD : DPlain D n) (h : ∀ x ∈ C.its, x.pl ≠ a) (ha : a < n) (hb : b.length = 256) : ({ C with its := (C.room D).1 ++ [⟨a, dd, b⟩] } : CM).Ok n := by
  obtain ⟨_, _, hl, hsub, hnd⟩ := room_plain hC hD
  refine ⟨hC.lo, hC.hi, by simp; omega, fun x hx => ?_, ?_⟩
  · rcases List.mem_append.1 hx with hx | hx
    · exact hC.it x (hsub x hx)
    · simp at hx; subst hx; exact ⟨ha, hb⟩
  · simp only [List.map_append, List.map_cons, List.map_nil]
    rw [List.nodup_append]
    refine ⟨hnd, by simp, ?_⟩
    intro x hx y hy
    simp at hy; subst hy
    obtain ⟨z, hz, rfl⟩ := List.mem_map.1 hx
    exact h z (hsub z hz)

theorem cacheHolds_ev {b : Int} {lv : Value} {L : List UInt8} (h : H [BytesA lv L] σ) : E 7 [.int .i64 b, lv] σ QT' := by
  obtain ⟨la, lc, hlv⟩ := h.rows_form 0 rfl
  have hll := (H.bytes_rd h 0 rfl).2
  unfold reachBytes at hll
  apply s7_ev; unfold s7
  refine within3_ok (lo := 1) (hi := 9) (by omega) ?_
  intro n hn1 hn9
  refine new_yes (n := 16) h (by omega) ?_
  intro dv σ1 h1
  simp only [extract0, extract1, pu_some, bin_neq, ne_eq, not_true, decide_false, wC_false]
  have hD : DPlain (DM.new 16) 16 := ⟨new_Ok 16 (by omega), rfl, rfl⟩
  refine cnew_ok (h1.pick [1, 0] (by decide)) hD.ok (by omega) ?_
  intro v σ2 h2
  simp only [extract0, extract1, pu_some, bin_neq, ne_eq, not_true, decide_false, wC_false]
  refine ⟨fun m x0 x1 x5 x7 hv x10 τ => ∃ (i : Nat) (C : CM), m = L.length - i ∧ i ≤ L.length ∧ x0 = .int .i64 n ∧ lv = x1 ∧ dv = x5 ∧ v = x7 ∧ x10 = .int .i64 i ∧ C.n = n ∧ C.Ok 16 ∧ (∀ x ∈ C.its, x.dirty = false ∧ x.b = List.replicate 256 0) ∧ H [CacheA v dv (2 * i) C, Disk dv (DM.new 16), IntsA hv (C.its.map (·.pl)), BytesA lv L] τ,
    ⟨_, 0, ⟨n, []⟩, rfl, by omega, rfl, rfl, rfl, rfl, rfl, rfl, ⟨hn1, by show n ≤ 1024; omega, by simp, fun x hx => by simp at hx, by simp⟩, fun x hx => by simp at hx, ?_⟩, ?_⟩
  · have : H (IntsA (.slice none 0 0) [] :: [CacheA v dv 0 ⟨n, []⟩, Disk dv (DM.new 16), BytesA lv L]) σ2 := H_ints.2 (.inl ⟨⟨rfl, rfl⟩, h2⟩)
    exact this.pick [1, 2, 0, 3] (by decide)
  clear h h1 h2
  rintro m _ _ _ _ hv _ τ ⟨i, C, rfl, hi, rfl, rfl, rfl, rfl, rfl, hCn, hC, hcl, h⟩
  suffices hb : ∀ N1 : Value → Value → Value → Value → Value → Value → AHeap → Prop, (∀ (C' : CM) hv' τ', i < L.length → C'.n = n → C'.Ok 16 → (∀ x ∈ C'.its, x.dirty = false ∧ x.b = List.replicate 256 0) → H [CacheA v dv (2 * (i + 1)) C', Disk dv (DM.new 16), IntsA hv' (C'.its.map (·.pl)), BytesA lv L] τ' →
      N1 (.int .i64 n) lv dv v hv' (.int .i64 (i + 1 : Nat)) τ') → s7b1 N1 QT' (.int .i64 n) lv dv v hv (.int .i64 i) τ from
    hb _ fun C' hv' τ' hlt a b c h' => ⟨_, by omega, i + 1, C', rfl, by omega, rfl, rfl, rfl, rfl, rfl, a, b, c, h'⟩
  intro N1 hN1
  have hhi := hC.hi
  have hle := hC.len
  unfold s7b1
  simp only [hlv, lenS_slice, pu_some, bin_lss]
  rw [← hlv]
  refine wC_dec (fun g1 => ?_) fun g1 => ?_
  · have g1 : i < L.length := by omega
    have hx := List.getElem?_eq_getElem g1
    obtain ⟨pp, p1, p2⟩ := (H.bytes_rd h 3 rfl).1.elem _ _ hx
    have hb8 := by8_lt L[i]
    simp only [p1, p2, pu_some, by8, bin_rem, show ¬ (16 : Int) = 0 by decide, if_false, conv_int]
    rw [show ((L[i].toNat : Nat) : Int).tmod 16 = ((L[i].toNat % 16 : Nat) : Int) from rfl, wrap_i64 (by omega)]
    obtain ⟨a, ha⟩ : ∃ a, a = L[i].toNat % 16 := ⟨_, rfl⟩
    rw [← ha]
    have ha16 : a < 16 := by omega
    have hplay : List Nat := C.its.map fun x : It => x.pl
    have h0 : H [CacheA v dv (2 * i) C, Disk dv (DM.new 16), Star [IntsA hv (C.its.map fun x : It => x.pl), BytesA lv L]] τ := by
      have h1 : H ([IntsA hv (C.its.map fun x : It => x.pl), BytesA lv L] ++ [CacheA v dv (2 * i) C, Disk dv (DM.new 16)]) τ := h.pick [2, 3, 0, 1] (by decide)
      exact (H_star.2 h1).pick [1, 2, 0] (by decide)
    -- what follows either
    have go : ∀ (C' : CM) (K' : Nat) (w : Value) (bs : List UInt8) τ1, K' ≤ 2 * (i + 1) → C'.n = n → C'.Ok 16 → (∀ x ∈ C'.its, x.dirty = false ∧ x.b = List.replicate 256 0) → lru n (C.its.map fun x : It => x.pl) a = C'.its.map (fun x : It => x.pl) →
        H [CacheA v dv K' C', Disk dv (DM.new 16), Star [IntsA hv (C.its.map fun x : It => x.pl), BytesA lv L], Own 5 1 w 256 (bv bs)] τ1 →
        ∃ I : Nat → Value → Value → Value → Value → Value → Value → Value → Value → Value → AHeap → Prop, (∃ m, I m (.int .i64 n) lv dv v hv (.int .i64 i) (.int .i64 a) (.slice none 0 0) (.int .i64 0) τ1) ∧
          ∀ m (x0 x1 x5 x7 x9 x10 x11 x14 x15 : Value) (σ' : AHeap), I m x0 x1 x5 x7 x9 x10 x11 x14 x15 σ' → s7b2 N1 (fun x0 x1 x5 x7 x9 x10 x11 x14 x15 σ' => ∃ m', m' < m ∧ I m' x0 x1 x5 x7 x9 x10 x11 x14 x15 σ') QT' x0 x1 x5 x7 x9 x10 x11 x14 x15 σ' := by
      intro C' K' w bs τ1 hK hn' hok hcl' hlru h1
      have h2 : H (Star [IntsA hv (C.its.map fun x : It => x.pl), BytesA lv L] :: [CacheA v dv K' C', Disk dv (DM.new 16)]) τ1 := h1.pick [2, 0, 1] (by decide)
      have h3 : H [CacheA v dv K' C', Disk dv (DM.new 16), IntsA hv (C.its.map fun x : It => x.pl), BytesA lv L] τ1 := (H_star.1 h2).pick [2, 3, 0, 1] (by decide)
      have h4 : H [CacheA v dv (2 * (i + 1)) C', Disk dv (DM.new 16), IntsA hv (C.its.map fun x : It => x.pl), BytesA lv L] τ1 := h3.map0 fun r hr => by
        obtain ⟨p, a1, a2, j, ⟨rfl, q1, q2, q3, q4⟩, y⟩ := hr
        exact ⟨p, _, a2, j, ⟨rfl, q1, q2, q3, by omega⟩, y⟩
      refine holds_next (n := n) h4 (by simp; omega) hn1 (by omega) ?_
      intro hv' τ' h5
      rw [hlru] at h5
      exact hN1 C' hv' τ' g1 hn' hok hcl' h5
    by_cases hin : ∃ it ∈ C.its, it.pl = a
    · obtain ⟨it, hit, hpl⟩ := hin
      obtain ⟨A, B, hits⟩ := List.append_of_mem hit
      subst hpl
      refine get_hit h0 hC hits hD (by omega) ?_
      intro w τ1 h1
      simp only [extract0, extract1, pu_some, bin_neq, ne_eq, not_true, decide_false, wC_false]
      have hpm : (A ++ B ++ [it]).Perm C.its := by rw [hits]; exact hit_perm A B it
      exact go { C with its := A ++ B ++ [it] } (2 * i + 1) w it.b τ1 (by omega) hCn (hC.perm hpm) (fun x hx => hcl x (hpm.mem_iff.1 hx)) (by rw [← hCn]; exact lru_hit hC hits) h1
    · have hno : ∀ x ∈ C.its, x.pl ≠ a := fun x hx e => hin ⟨x, hx, e⟩
      refine get_miss h0 hC hno ha16 hD (by simp [DM.new]) (by omega) ?_
      intro w τ1 h1
      rw [room_clean fun x hx => (hcl x hx).1, block_new ha16] at h1
      simp only [extract0, extract1, pu_some, bin_neq, ne_eq, not_true, decide_false, wC_false]
      obtain ⟨_, _, _, hsub, _⟩ := room_plain hC hD
      refine go { C with its := (C.room (DM.new 16)).1 ++ [⟨a, false, List.replicate 256 0⟩] } (2 * i + 2) w _ τ1 (by omega) hCn (miss_Ok hC hD hno ha16 (by simp)) (fun x hx => ?_) (by rw [← hCn]; exact lru_miss _ hC hno) h1
      rcases List.mem_append.1 hx with hx | hx
      · exact hcl x (hsub x hx)
      · simp at hx; subst hx; exact ⟨rfl, rfl⟩
  · refine holds_writes (h.pick [0, 1, 2] (by decide)) hC hcl (fun a => Iff.rfl) (by simp) hD rfl (by omega)
end Go.Ax.YtfeamgocomlepaaC
/- The closed tests that the statements on the disk and the cache begin or end with are run, once, by the kernel. No statement of the seat is proved here. -/
set_option maxRecDepth 100000
namespace Go.Ax.YtfeamgocomlepaaC
open Go.Proofs

theorem run14 : allTrue (acall Try.prog F X 40 14 [] ⟨0, .leaf⟩) = true := by kernel_rfl
theorem run41 : allTrue (ccall Try.prog F X 9000 41 [] ⟨0, .leaf⟩) = true := by kernel_rfl

theorem hX : CallOk Try.prog fun f args σ => match XT f with | some x => x args σ | none => none := by
  intro g args σ R hx
  by_cases hg : g = 14
  · subst hg
    exact sub_ok (call_ok 40) Try.func14 (by kernel_rfl) (by kernel_rfl) run14 args σ R hx
  · by_cases hg1 : g = 41
    · subst hg1
      exact sub_ok (call_ok 9000) Try.func41 (by kernel_rfl) (by kernel_rfl) (by rw [← ccall_eq]; exact run41) args σ R hx
    · have : XT g = X g := by simp [XT, hg, hg1]
      simp only [this] at hx
      exact xok g args σ R hx

end Go.Ax.YtfeamgocomlepaaC
/- Proved: 'CacheHolds' returns true, for every input; no condition. By a calculus of weakest preconditions over an abstract heap, which is sound for the machine. -/
namespace Go.Proofs.Ytfeamgocomlepaa.cacheHolds
open Go.ChangeShapes Go.WideShapes Go.ChangeAt Go.RowKit
set_option linter.unusedVariables false
set_option maxRecDepth 100000

theorem own : ownKnob Try.prog.godebug = none := by kernel_rfl

theorem walk {H : Type} {enc : TypeId × Value → H} {W : World} {base : Nat} {v0 v1 : Value} {x0 x1 : DataW H} {p0 p1 : List MemPlace} (o0 : Value.okWide Try.prog W .any base 3 v0) (o1 : ∃ a l c, v1 = .slice a l c)
    (h0 : DataW.Trod enc Try.prog W 0 (fun _ => true) true 3 v0 x0 p0) (h1 : DataW.Trod enc Try.prog W 0 (fun _ => true) true 23 v1 x1 p1) (hw : (DataW.weightsEach Try.prog [3, 23] [x0, x1]).all (· ≤ reachBytes) = true) :
    Calls Try.prog 7 #[v0, v1] W fun e w' => e = .returned (.bool true) ∧ Below W.heap.size W w' := by
  obtain ⟨n0, h0⟩ := h0
  obtain ⟨n1, h1⟩ := h1
  obtain ⟨a, c, c', rfl⟩ := o1
  obtain ⟨k, rfl⟩ := okWide_int (show Try.prog.underlying 3 = some (.int .i64) by kernel_rfl) o0
  simp only [List.all_eq_true, DataW.weightsEach, List.mem_append, List.append_nil, decide_eq_true_eq] at hw
  obtain ⟨ρ1, σ1, c1, m1, q1, q2, q3, q4, q5⟩ := Ax.YtfeamgocomlepaaC.intT (Ax.Rel.start W) h0 fun w hm => hw w (.inl hm)
  obtain ⟨ρ2, σ2, c2, L, r1, r2, r3, r4, r5⟩ := Ax.YtfeamgocomlepaaC.bytesT q2 h1 fun w hm => hw w (.inr hm)
  have hh := r5 _ (q5 [] (Ax.H.nil _))
  obtain ⟨v, hv1⟩ := Ax.H_ex.1 hh
  rw [Ax.H_sep] at hv1
  obtain ⟨e1, hv2⟩ := Ax.H_pure.1 hv1
  subst e1
  have hv3 := hv2.perm (List.Perm.swap _ _ _)
  obtain ⟨⟨e2, hi⟩, hh3⟩ := Ax.H_pure.1 hv3
  subst e2
  have ha : Ax.LR ρ2 [.int .i64 m1, v] [.int .i64 k, .slice a c c'] := (q3.mono r1).append r3
  have := Ax.YtfeamgocomlepaaC.law_call Ax.YtfeamgocomlepaaC.hX Try.func7 (by kernel_rfl) r2 ha (Ax.YtfeamgocomlepaaC.cacheHolds_ev hh3)
  exact this

theorem lifted (os : Os) (started : os.Started) (H : Type) (enc : TypeId × Value → H) :
    ReturnsInHanded {} Try.checked os 7 .any (Rows.cacheHoldsSpec.pre6 enc Try.prog Try.f7 Rows.cacheHoldsRow.domain false) (Rows.cacheHoldsSpec.post enc Try.prog Try.f7 false true false false) := by
  refine returnsInHanded_of_change_sized (C := Try.checked) own started (by kernel_rfl) Try.func7
    (ChangeSpec.witness6 (enc := enc) (C := Try.checked) false ⟨#[], #[.int .i64 0, .slice none 0 0], []⟩ 8 (by kernel_rfl) (by kernel_rfl) (by kernel_rfl) (by kernel_rfl)) ?_
  intro W base args ds gs before hval0 hW hcnd hwt _
  have hW' := hW
  obtain ⟨p, q, hA0, hV, rfl, hfz, hnd⟩ := hW
  have hA : DataW.TrodAll enc Try.prog W 0 (fun _ => true) true Try.f7.params.toList args.toList ds p := hA0
  have hval : ∀ (j : Nat) t v, Try.f7.params[j]? = some t → args[j]? = some v → Value.okWide Try.prog W .any base t v := hval0
  have hA1 := hA
  rw [Try.params7] at hA1 hval
  obtain ⟨v0, vs0, d0, ds0, p0, q0, hargs, rfl, rfl, h0, r0⟩ := trodAll_cons hA1
  obtain ⟨v1, vs1, d1, ds1, p1, q1, rfl, rfl, rfl, h1, r1⟩ := trodAll_cons r0
  obtain ⟨rfl, rfl, rfl⟩ := trodAll_nil r1
  obtain rfl : args = #[v0, v1] := by cases args; simp_all
  obtain ⟨rfl, rfl⟩ := trodVars_none hV
  clear hA0 hval0
  refine (walk (hval 0 3 v0 rfl rfl) (okWide_slice (show Try.prog.underlying 23 = some (.slice 5) by kernel_rfl) (hval 1 23 v1 rfl rfl)) h0 h1 (by
    have e : Try.f7.params.toList ++ Rows.cacheHoldsSpec.plain.varTypes Try.checked.prog = [3, 23] := by rw [Try.params7]; rfl
    rw [e] at hwt
    exact hwt)).mono fun e W' ⟨he, hb⟩ => ?_
  subst he
  refine ⟨_, rfl, ⟨_, [], _, [], (p0 ++ (p1 ++ [])), [], hW', trodAll_cons_mk (shut_bool Try.underlying4 _) trodAll_mk0, ?_, rfl, hb.frame _, fun h => by cases h⟩⟩
  refine Ax.trodAll_below (by kernel_rfl) (by kernel_rfl) (by kernel_rfl) hb (fun t ht => of_decide_eq_true (List.all_eq_true.1 (show (Try.f7.params.toList.all fun t => decide (t < Try.checked.prog.types.size)) = true by kernel_rfl) t ht)) hA ?_
  intro x hx
  simpa using hA.lt x hx

theorem over : Rows.cacheHoldsRow.holds Try.pinned (OpenSpec.ofChange Rows.cacheHoldsSpec) :=
  OpenClaim.holds_of_wide 7 Try.f7 rfl rfl rfl rfl rfl rfl rfl ⟨rfl, rfl, rfl, rfl, rfl⟩ rfl rfl rfl rfl rfl (by kernel_rfl) Try.func7 (by kernel_rfl)
    (of_decide_eq_true (by kernel_rfl)) (by unfold Func.isWrapper; first | (rw [if_pos (by decide +kernel)]; kernel_rfl) | (rw [if_neg (by decide +kernel)]; exact ⟨rfl, rfl⟩))
    (fun os started H enc _ => lifted os started H enc)

theorem proved : Rows.CacheHoldsSaid := over
#print axioms proved
end Go.Proofs.Ytfeamgocomlepaa.cacheHolds
