/- Texts of one proof, joined. No statement of the seat is proved here. -/
import Derived.Test.YtfeamgocomlepaaMy4
import Derived.Shelf.SlSortCmp.WholeK
import Derived.Shelf.SlSortCmp.NoneTotal
import Derived.Lib.Bytealg
import Derived.Lib.Walk
set_option linter.unusedVariables false
set_option linter.unusedSimpArgs false
set_option linter.unnecessarySimpa false
set_option linter.constructorNameAsVariable false
set_option maxRecDepth 100000
namespace Go.Ax.C
open Go.Proofs Go.RowKit

variable {l r m : List Assn} {σ : AHeap} {Q : RK}

theorem readL_snoc (bl : Blks) (L : List Pc) (p : Pc) : readL bl (L ++ [p]) = readL bl L ++ ((bget bl p.blk).drop p.from').take (p.to - p.from') := by simp [readL]
theorem readL_len {bl : Blks} (hb : ∀ p ∈ bl, p.2.length = 256) : ∀ (L : List Pc), (readL bl L).length ≤ L.length * 256
  | [] => by simp [readL]
  | p :: L => by
    have := readL_len hb L
    have h2 := bget_len (k := p.blk) hb
    simp only [readL, List.flatMap_cons, List.length_append, List.length_take, List.length_drop, List.length_cons] at this ⊢
    omega
theorem cutE_len (off n : Nat) : (cutE off n).length ≤ n := by
  unfold cutE cut
  split
  · exact cutL_len _ _ _ _
  · simp

theorem mread {x mb : Nat} {M : MM} {W : List WRow} {id off n : Nat} (h : H (MO x mb M.next W l) σ) (hW : W.map (fun w => (w.1, w.2.2)) = M.by') (hM : M.Ok)
    (hno : M.at' id = none → ∀ σ', H (MO x mb M.next W l) σ' → Q (.ret (.tuple #[.slice none 0 0, .int .i64 6])) σ')
    (hbad : ∀ h0 σ', M.at' id = some h0 → askE h0 off n false true ≠ 0 → H (MO x mb M.next W l) σ' → Q (.ret (.tuple #[.slice none 0 0, .int .i64 (askE h0 off n false true)])) σ')
    (hyes : ∀ h0 v σ', M.at' id = some h0 → askE h0 off n false true = 0 → H (Own t_uint8 1 v (readL h0.bl (cutE off n)).length (bv (readL h0.bl (cutE off n))) :: MO x mb M.next W l) σ' → Q (.ret (.tuple #[v, .int .i64 0])) σ') :
    E f_model_Model_Read [.pointer (some ⟨x, 0, none⟩), .int .u64 id, .int .u64 off, .int .u64 n] σ Q := by
  apply e_model_Model_Read; unfold s_model_Model_Read
  refine masked h hW hM ?_ ?_ ?_
  · intro hx σ1 h1
    rw [c2_ret, tI_int]
    refine If_ne (fun _ => ?_) fun g => absurd g (by decide)
    exact hno (at_none hW hx) σ1 h1
  · rintro w σ1 hw rfl hask h1
    rw [c2_ret, tI_int]
    refine If_ne (fun _ => ?_) fun g => absurd g (by omega)
    exact hbad w.2.2 σ1 (at_some hW hM.nd hw) hask h1
  · rintro k w σ1 hk rfl hask h1
    have hw := List.mem_of_getElem? hk
    have hat := at_some hW hM.nd hw
    have hbl : ∀ p ∈ w.2.2.bl, p.2.length = 256 := fun p hp => ((hM.bl (w.1, w.2.2) (by rw [← hW]; exact List.mem_map.2 ⟨w, hw, rfl⟩)).2 p hp).1
    have hn : n ≤ 4096 := by
      unfold askE at hask
      rcases Nat.lt_or_ge 4096 n with q | q
      · exfalso
        simp only [Bool.false_and, Bool.false_eq_true, if_false] at hask
        split at hask
        · omega
        · simp [q] at hask
      · exact q
    rw [c2_ret, tI_int]
    refine If_ne (fun g => absurd rfl g) fun _ => ?_
    refine pcut h1 ?_
    intro pv σ2 h2
    rw [cV_ret]
    have hy := fun v σ' => hyes w.2.2 v σ' hat hask
    clear hno hbad hyes hask
    have hlen := cutE_len off n
    have hok := cutE_ok off n
    generalize cutE off n = L at h2 hy hlen hok
    obtain ⟨pa, pc, hpv⟩ := pcs_form h2
    rw [hpv, lenS_slice, ldI_some, ← hpv]
    -- the volume opened
    have h2' : H (MO x mb M.next W (PcsA pv L :: l)) σ2 := by
      unfold MO at h2 ⊢
      refine h2.perm ?_
      exact (List.Perm.swap _ _ _).trans (((List.Perm.swap _ _ _).cons _).trans (((List.Perm.swap _ _ _).cons _).cons _))
    obtain ⟨bm, h3⟩ := mo_out h2' hk
    have h4 := H_star.1 (h3.pick [5, 0, 1, 2, 3, 4] (by decide) : H (Star (PcsA pv L :: l) :: [pt w.2.1 (.cells (w.2.2.vol.cells ++ [.map (some bm)]) t_model_held false), UMap .u64 bm (bkv w.2.2.bl), Star ((W.map hdW).set k emp), pt x (.cells [.int .u64 M.next, .map (some mb)] t_model_Model false), UMap .u64 mb (W.map kvW)]) σ2)
    have h5 : H (PcsA pv L :: pt w.2.1 (.cells (w.2.2.vol.cells ++ [.map (some bm)]) t_model_held false) :: UMap .u64 bm (bkv w.2.2.bl) :: Star ((W.map hdW).set k emp) :: pt x (.cells [.int .u64 M.next, .map (some mb)] t_model_Model false) :: UMap .u64 mb (W.map kvW) :: l) σ2 := h4.perm ((List.perm_append_comm (l₁ := l)).cons _)
    have h6 := (H_tl [_, _, _, _, _, _]).1 h5
    refine ⟨fun m v i τ => ∃ j : Nat, m = L.length - j ∧ i = (j : Int) ∧ j ≤ L.length ∧ H [Own t_uint8 1 v (readL w.2.2.bl (L.take j)).length (bv (readL w.2.2.bl (L.take j))), PcsA pv L, pt w.2.1 (.cells (w.2.2.vol.cells ++ [.map (some bm)]) t_model_held false), UMap .u64 bm (bkv w.2.2.bl), Star ((W.map hdW).set k emp), pt x (.cells [.int .u64 M.next, .map (some mb)] t_model_Model false), UMap .u64 mb (W.map kvW), Star l] τ,
      ⟨_, 0, rfl, rfl, by omega, ?_⟩, ?_⟩
    · have := (h6.own_nil t_uint8 1).unsnoc
      exact this
    rintro m v _ τ ⟨j, rfl, rfl, hj, h7⟩
    unfold s_model_Model_Read_b1
    refine If_dec (fun g => ?_) fun g => ?_
    · have hj' : j < L.length := by omega
      obtain ⟨p, hp⟩ : ∃ p, L[j]? = some p := ⟨_, List.getElem?_eq_getElem hj'⟩
      obtain ⟨pb, e1, e2⟩ := pcs_get (h7.pick [1, 0, 2, 3, 4, 5, 6, 7] (by decide)) hp
      have hpo := hok p (List.mem_of_getElem? hp)
      have f0 := e2 0 (by omega)
      have f1 := e2 1 (by omega)
      have f2 := e2 2 (by omega)
      have f3 := e2 3 (by omega)
      simp only [Pc.cells, List.getElem?_cons_zero, List.getElem?_cons_succ] at f0 f1 f2 f3
      rw [e1]
      simp only [om_some, fieldAddr_ptr]
      rw [f0, ldI_some, f1, ldI_some, f2, ldI_some, f3, ldI_some]
      refine nw h7 ?_
      intro b1 τ1 h8
      refine storeN (vs := p.cells) h8 0 rfl rfl (by omega) rfl (by simp) ?_
      intro τ2 h9
      have h9 : H (pt b1 (.cells [.int .u64 p.blk, .int .i64 p.from', .int .i64 p.to, .int .i64 p.at'] t_api_Piece false) :: [Own t_uint8 1 v (readL w.2.2.bl (L.take j)).length (bv (readL w.2.2.bl (L.take j))), PcsA pv L, pt w.2.1 (.cells (w.2.2.vol.cells ++ [.map (some bm)]) t_model_held false), UMap .u64 bm (bkv w.2.2.bl), Star ((W.map hdW).set k emp), pt x (.cells [.int .u64 M.next, .map (some mb)] t_model_Model false), UMap .u64 mb (W.map kvW), Star l]) τ2 := h9
      have hrow := h9.row 3 rfl
      simp only [nil_ptr, om_some, fieldAddr_ptr, Nat.zero_add]
      have c6 : aLoad false 1 (.pointer (some ⟨w.2.1, 6, none⟩)) τ2 = some (.map (some bm)) := by rw [load1 hrow]; rfl
      rw [c6, om_some]
      refine ldi h9 ?_
      rw [blk_lookup (h9.pick [4, 0] (by decide)), om_some]
      refine nw h9 ?_
      intro b2 τ3 h10
      have hrow3 := h10.row 4 rfl
      have c6' : aLoad false 1 (.pointer (some ⟨w.2.1, 6, none⟩)) τ3 = some (.map (some bm)) := by rw [load1 hrow3]; rfl
      rw [c6', om_some]
      refine ⟨by simp [veq1, veq, veq0], ?_⟩
      refine ldi h10 ?_
      refine ⟨by simp [veq1, veq, veq0], ?_⟩
      rw [blk_lookup (h10.pick [5, 0] (by decide)), om_some]
      refine ⟨by simp only [blkV, veq1]; exact veqs_bytes _, ?_⟩
      have hbg := bget_len (k := p.blk) hbl
      refine storeN (vs := bv (bget w.2.2.bl p.blk)) h10 0 rfl (by simpa using hbg) (by omega) (bv_one _) (by simp) ?_
      intro τ4 h11
      have hsp : splice (List.replicate 256 (Value.int .u8 0)) 0 (bv (bget w.2.2.bl p.blk)) = bv (bget w.2.2.bl p.blk) := by
        unfold splice
        rw [List.take_zero, List.nil_append, Nat.zero_add, List.drop_of_length_le (by simp [hbg]), List.append_nil]
      have h12 : H (pt b2 (.cells (bv (bget w.2.2.bl p.blk)) t_model_block false) :: pt b1 (.cells [.int .u64 p.blk, .int .i64 p.from', .int .i64 p.to, .int .i64 p.at'] t_api_Piece false) :: [Own t_uint8 1 v (readL w.2.2.bl (L.take j)).length (bv (readL w.2.2.bl (L.take j))), PcsA pv L, pt w.2.1 (.cells (w.2.2.vol.cells ++ [.map (some bm)]) t_model_held false), UMap .u64 bm (bkv w.2.2.bl), Star ((W.map hdW).set k emp), pt x (.cells [.int .u64 M.next, .map (some mb)] t_model_Model false), UMap .u64 mb (W.map kvW), Star l]) τ4 := by
        rw [← hsp]; exact h11
      refine ldi h12 ?_
      refine ldi h12 ?_
      obtain ⟨q1, q2⟩ := hpo
      have hsl : ∃ o' c', aSliceArr 256 1 (.pointer (some ⟨b2, 0, none⟩)) (some (.int .i64 p.from')) (some (.int .i64 p.to)) none = some (.slice (some ⟨b2, o', none⟩) (p.to - p.from') c') ∧ (o' = p.from' ∨ p.to - p.from' = 0 ∧ o' = 0) := by
        have b1' : bnd (.int .i64 (p.to : Nat)) 256 = some p.to := by unfold bnd; simp; omega
        have b2' : bnd (.int .i64 (p.from' : Nat)) p.to = some p.from' := by unfold bnd; simp; omega
        unfold aSliceArr
        have hb : Nat.blt 256 OPEN = true := by decide
        simp only [hb, bndO, b1', b2', Option.bind_some]
        by_cases e : 256 = p.from'
        · rw [if_pos e]
          exact ⟨0, _, rfl, .inr ⟨by omega, rfl⟩⟩
        · rw [if_neg e]
          refine ⟨p.from', 256 - p.from', ?_, .inl rfl⟩
          simp [Addr.add]
          omega
      obtain ⟨o', c', hs1, hs2⟩ := hsl
      rw [hs1, om_some]
      have hsrc : srcOf 1 (.slice (some ⟨b2, o', none⟩) (p.to - p.from') c') τ4 = some (p.to - p.from', bv (((bget w.2.2.bl p.blk).drop p.from').take (p.to - p.from'))) := by
        rw [src_row (h12.row 0 rfl) (by simp [hbg]; omega)]
        rcases hs2 with rfl | ⟨e, rfl⟩
        · simp [bv, List.map_take, List.map_drop]
        · rw [e]; simp [bv]
      have hrl := readL_len hbl (L.take j)
      rw [List.length_take] at hrl
      refine append_own (h12.pick [2, 0, 1, 3, 4, 5, 6, 7, 8, 9] (by decide)) 0 rfl hsrc (by omega) (by omega) (bv_one _) ?_
      intro nv τ5 h13
      refine b64 ((j + 1 : Nat) : Int) (by omega) ?_
      have htk : L.take (j + 1) = L.take j ++ [p] := by rw [List.take_add_one, hp]; rfl
      refine ⟨_, by omega, j + 1, rfl, rfl, by omega, ?_⟩
      rw [htk, readL_snoc]
      have h14 := h13.pick [0, 3, 4, 5, 6, 7, 8, 9] (by decide)
      have e3 : (readL w.2.2.bl (L.take j) ++ ((bget w.2.2.bl p.blk).drop p.from').take (p.to - p.from')).length = (readL w.2.2.bl (L.take j)).length + (p.to - p.from') := by
        rw [List.length_append, List.length_take, List.length_drop, hbg]; omega
      rw [e3]
      have e4 : bv (readL w.2.2.bl (L.take j) ++ ((bget w.2.2.bl p.blk).drop p.from').take (p.to - p.from')) = bv (readL w.2.2.bl (L.take j)) ++ bv (((bget w.2.2.bl p.blk).drop p.from').take (p.to - p.from')) := by simp [bv]
      rw [e4]
      exact h14
    · have : j = L.length := by omega
      subst this
      rw [List.take_length] at h7
      refine hy v τ ?_
      have hkl := (List.getElem?_eq_some_iff.1 hk).1
      have h8 := H_star.1 (h7.pick [7, 0, 2, 3, 4, 5, 6] (by decide) : H (Star l :: [Own t_uint8 1 v (readL w.2.2.bl L).length (bv (readL w.2.2.bl L)), pt w.2.1 (.cells (w.2.2.vol.cells ++ [.map (some bm)]) t_model_held false), UMap .u64 bm (bkv w.2.2.bl), Star ((W.map hdW).set k emp), pt x (.cells [.int .u64 M.next, .map (some mb)] t_model_Model false), UMap .u64 mb (W.map kvW)]) τ)
      have h9 : H ((Own t_uint8 1 v (readL w.2.2.bl L).length (bv (readL w.2.2.bl L)) :: l) ++ [pt w.2.1 (.cells (w.2.2.vol.cells ++ [.map (some bm)]) t_model_held false), UMap .u64 bm (bkv w.2.2.bl), Star ((W.map hdW).set k emp), pt x (.cells [.int .u64 M.next, .map (some mb)] t_model_Model false), UMap .u64 mb (W.map kvW)]) τ := h8.perm List.perm_middle
      have h10 := mo_in hkl ((H_star.2 h9).pick [1, 2, 3, 4, 5, 0] (by decide)) (by rw [set_get_same hk])
      rw [set_get_same hk] at h10
      unfold MO at h10 ⊢
      refine h10.perm ?_
      exact (((List.Perm.swap _ _ _).cons _).cons _).trans (((List.Perm.swap _ _ _).cons _).trans (.swap _ _ _))
end Go.Ax.C
set_option maxRecDepth 100000
namespace Go.Ax.C
open Go.Proofs Go.RowKit

variable {l r m : List Assn} {σ : AHeap} {Q : RK}

/-- A block put: noughts alone are not kept. -/
def bput (bl : Blks) (k : Nat) (x : List UInt8) : Blks :=
  if x = List.replicate 256 0 then bl.filter (fun p => p.1 ≠ k) else if k ∈ bl.map (·.1) then bl.map (fun p => if p.1 = k then (k, x) else p) else bl ++ [(k, x)]
theorem bkv_put (bl : Blks) (k : Nat) (x : List UInt8) (hx : x ≠ List.replicate 256 0) : mset (bkv bl) k (blkV x) = bkv (bput bl k x) := by
  unfold mset bput bkv
  rw [if_neg hx]
  have e : (List.map (fun p : Nat × Value => p.1) (List.map (fun p : Nat × List UInt8 => (p.1, blkV p.2)) bl)) = bl.map (·.1) := by rw [List.map_map]; rfl
  rw [e]
  split
  · rw [List.map_map, List.map_map]
    apply List.map_congr_left
    intro p _
    simp only [Function.comp]
    split <;> rfl
  · simp
theorem bkv_del (bl : Blks) (k : Nat) : mdel (bkv bl) k = bkv (bl.filter fun p => p.1 ≠ k) := by
  unfold mdel bkv
  rw [List.filter_map]; rfl
theorem mdel_mset (L : KVs) (k : Nat) (v : Value) : mdel (mset L k v) k = mdel L k := by
  unfold mset
  split
  · unfold mdel
    rw [List.filter_map]
    have : (L.filter ((fun p => decide (p.1 ≠ k)) ∘ fun p => if p.1 = k then (k, v) else p)) = L.filter fun p => decide (p.1 ≠ k) := by
      apply List.filter_congr
      intro p _
      simp only [Function.comp]
      by_cases h : p.1 = k <;> simp [h]
    rw [this]
    conv => rhs; rw [← List.map_id (L.filter _)]
    apply List.map_congr_left
    intro p hp
    have := (List.mem_filter.1 hp).2
    simp at this
    simp [this]
  · unfold mdel; simp
end Go.Ax.C
set_option maxRecDepth 100000
namespace Go.Ax.C
open Go.Proofs Go.RowKit

variable {l r m : List Assn} {σ : AHeap} {Q : RK}

theorem eqInts_bv : ∀ (x y : List UInt8), x.length = y.length → eqInts (bv x) (bv y) = some (decide (x = y))
  | [], [], _ => rfl
  | [], _ :: _, h => by simp at h
  | _ :: _, [], h => by simp at h
  | a :: x, b :: y, h => by
    have ih := eqInts_bv x y (by simpa using h)
    simp only [bv, List.map_cons] at ih ⊢
    unfold eqInts
    simp only [by8, if_true] at ih ⊢
    by_cases hab : a = b
    · subst hab
      rw [show ((a.toNat : Int) == (a.toNat : Int)) = true by simp, cond_true, ih]
      simp
    · have h2 : ((a.toNat : Int) == (b.toNat : Int)) = false := by
        simp
        intro e
        exact hab (UInt8.toNat_inj.1 (by omega))
      rw [h2, cond_false]
      simp [hab]
theorem binp_blk (a b : Array Value) : aBinP P t_model_block .eql (.agg a) (.agg b) = (cond (true && Nat.beq a.toList.length 256 && Nat.beq b.toList.length 256 && true) (eqInts a.toList b.toList) none).map .bool := by kernel_rfl
theorem blk_eql {x y : List UInt8} (hx : x.length = 256) (hy : y.length = 256) : aBinP P t_model_block .eql (blkV x) (blkV y) = some (.bool (decide (x = y))) := by
  unfold blkV
  rw [binp_blk]
  have h1 : (bv x).toArray.toList.length = 256 := by simp [hx]
  have h2 : (bv y).toArray.toList.length = 256 := by simp [hy]
  rw [h1, h2]
  show (eqInts (bv x) (bv y)).map Value.bool = _
  rw [eqInts_bv x y (by omega)]; rfl
theorem hput {hb bm k : Nat} {vol : Vol} {bl : Blks} {x : List UInt8} (h : H (pt hb (.cells (vol.cells ++ [.map (some bm)]) t_model_held false) :: UMap .u64 bm (bkv bl) :: l) σ) (hx : x.length = 256)
    (hQ : ∀ σ', H (pt hb (.cells (vol.cells ++ [.map (some bm)]) t_model_held false) :: UMap .u64 bm (bkv (bput bl k x)) :: l) σ' → Q (.ret (.tuple #[])) σ') : E f_model_held_put [.pointer (some ⟨hb, 0, none⟩), .int .u64 (k : Nat), blkV x] σ Q := by
  apply e_model_held_put; unfold s_model_held_put
  have hl : live (blkV x) = true := by simp [blkV, live, undef]
  have hcl : (Value.cells (blkV x)).toList = bv x := by simp [blkV, Value.cells]
  rw [hl, cond_true, hcl]
  refine nw h ?_
  intro b1 σ1 h1
  have h1 : H (pt b1 (.cells (bv x) t_model_block false) :: pt hb (.cells [.int .u64 vol.id, .string vol.name, .int .u64 vol.size, .int .u64 vol.root, .bool vol.fixed, .int .u64 vol.origin, .map (some bm)] t_model_held false) :: UMap .u64 bm (bkv bl) :: l) σ1 := h1
  refine ld h1 ?_
  have hbx : ((bv x).drop 0).take 256 = bv x := by rw [List.drop_zero, List.take_of_length_le (by simp [hx])]
  rw [loadN (h1.row 0 rfl) (by simp [hx]), om_some, hbx]
  refine umap_update (P := P) (e := t_model_block) (h1.perm (((List.Perm.swap _ _ _).cons _).trans (.swap _ _ _))) (by kernel_rfl) ?_
  intro σ2 h2
  rw [loadN (h2.row 1 rfl) (by simp [hx]), om_some, hbx]
  have e : aBinP P t_model_block .eql (.agg (bv x).toArray) (.agg (List.replicate 256 (.int .u8 0)).toArray) = some (.bool (decide (x = List.replicate 256 0))) := by
    have h3 := blk_eql (y := List.replicate 256 0) hx (by simp)
    unfold blkV at h3
    have h4 : bv (List.replicate 256 0) = List.replicate 256 (.int .u8 0) := by unfold bv; rw [List.map_replicate]; rfl
    rw [h4] at h3; exact h3
  rw [e, ldB_some]
  refine If_dec (fun g => ?_) fun g => ?_
  · refine ld h2 ?_
    refine umap_delete (P := P) (e := t_model_block) h2 (by kernel_rfl) ?_
    intro σ3 h3
    refine hQ σ3 ?_
    have e2 : mdel (mset (bkv bl) k (.agg (bv x).toArray)) k = bkv (bput bl k x) := by
      rw [mdel_mset, bkv_del]; unfold bput; rw [if_pos g]
    rw [e2] at h3
    exact (((H_tl [_, _, _]).1 h3).pick [2, 0, 3] (by decide) |> (H_tl [_, _]).2)
  · refine hQ σ2 ?_
    have e2 : mset (bkv bl) k (.agg (bv x).toArray) = bkv (bput bl k x) := bkv_put bl k x g
    rw [e2] at h2
    exact (((H_tl [_, _, _]).1 h2).pick [2, 0, 3] (by decide) |> (H_tl [_, _]).2)
end Go.Ax.C
set_option maxRecDepth 100000
namespace Go.Ax.C
open Go.Proofs Go.RowKit

variable {l r m : List Assn} {σ : AHeap} {Q : RK}

theorem mgetv {x mb : Nat} {M : MM} {W : List WRow} {s : ByteArray} (h : H (MO x mb M.next W l) σ) (hW : W.map (fun w => (w.1, w.2.2)) = M.by') (hM : M.Ok)
    (hno : M.named s = none → ∀ σ', H (MO x mb M.next W l) σ' → Q (.ret (.tuple #[volV .none, .int .i64 6])) σ')
    (hyes : ∀ h0 σ', M.named s = some h0 → H (MO x mb M.next W l) σ' → Q (.ret (.tuple #[volV h0.vol, .int .i64 0])) σ') : E f_model_Model_Get [.pointer (some ⟨x, 0, none⟩), .string s] σ Q := by
  apply e_model_Model_Get; unfold s_model_Model_Get
  refine nw h ?_
  intro b σ1 h1
  have hm : H (MO x mb M.next W (pt b (.cells Vol.none.cells t_api_Volume false) :: l)) σ1 := by
    unfold MO at h1 ⊢
    refine h1.perm ?_
    exact (List.Perm.swap _ _ _).trans (((List.Perm.swap _ _ _).cons _).trans (((List.Perm.swap _ _ _).cons _).cons _))
  have back : ∀ τ, H (MO x mb M.next W (pt b (.cells Vol.none.cells t_api_Volume false) :: l)) τ → H (pt b (.cells Vol.none.cells t_api_Volume false) :: MO x mb M.next W l) τ := by
    intro τ h
    unfold MO at h ⊢
    refine h.perm ?_
    exact (((List.Perm.swap _ _ _).cons _).cons _).trans (((List.Perm.swap _ _ _).cons _).trans (.swap _ _ _))
  refine mnone hm ?_
  rw [cB_ret]
  refine If_f rfl ?_
  refine mnamed hm ?_ ?_
  · intro k w σ2 hk hws h2
    rw [c2_ret, tI_int]
    refine If_ne (fun g => absurd rfl g) fun _ => ?_
    obtain ⟨bm, h3⟩ := mo_out h2 hk
    have hrow := h3.row 0 rfl
    simp only [nil_ptr, om_some, fieldAddr_ptr, Nat.zero_add, Nat.add_zero]
    have c0 : aLoad false 1 (.pointer (some ⟨w.2.1, 0, none⟩)) σ2 = some (.int .u64 w.2.2.vol.id) := by rw [load1 hrow]; rfl
    have c1 : aLoad false 1 (.pointer (some ⟨w.2.1, 1, none⟩)) σ2 = some (.string w.2.2.vol.name) := by rw [load1 hrow]; rfl
    have c2' : aLoad false 1 (.pointer (some ⟨w.2.1, 2, none⟩)) σ2 = some (.int .u64 w.2.2.vol.size) := by rw [load1 hrow]; rfl
    have c3' : aLoad false 1 (.pointer (some ⟨w.2.1, 3, none⟩)) σ2 = some (.int .u64 w.2.2.vol.root) := by rw [load1 hrow]; rfl
    have c4' : aLoad false 1 (.pointer (some ⟨w.2.1, 4, none⟩)) σ2 = some (.bool w.2.2.vol.fixed) := by rw [load1 hrow]; rfl
    have c5 : aLoad false 1 (.pointer (some ⟨w.2.1, 5, none⟩)) σ2 = some (.int .u64 w.2.2.vol.origin) := by rw [load1 hrow]; rfl
    rw [c0, ldI_some, c1, ldS_some, c2', ldI_some, c3', ldI_some, c4', ldB_some, c5, ldI_some]
    refine put6 (vs := w.2.2.vol.cells) (K := fun v τ => Q (.ret (.tuple #[v, .int .i64 0])) τ) (back _ h2) rfl rfl rfl ?_
    intro σ3 h4
    exact hyes w.2.2 σ3 (named_some hW hM.nm (List.mem_of_getElem? hk) hws) h4
  · intro hx σ2 h2
    rw [c2_ret, tI_int]
    refine If_ne (fun _ => ?_) fun g => absurd g (by decide)
    refine put6 (vs := Vol.none.cells) (K := fun v τ => Q (.ret (.tuple #[v, .int .i64 6])) τ) (back _ h2) rfl rfl rfl ?_
    intro σ3 h4
    exact hno (named_none hW hx) σ3 h4
end Go.Ax.C
namespace Go.Ax
open Go.RowKit

/-- A tail of assertions. -/
class Tl (l m : List Assn) : Prop where
  ex : ∃ k, l.Perm (m ++ k)
instance (priority := 1000) Tl.refl (l : List Assn) : Tl l l := ⟨[], by simp⟩
instance (priority := 900) Tl.nil (l : List Assn) : Tl l [] := ⟨l, .refl _⟩
instance (priority := 100) Tl.drop (A : Assn) (l m : List Assn) [h : Tl l m] : Tl (A :: l) m := ⟨by
  obtain ⟨k, hk⟩ := h.ex
  exact ⟨A :: k, (hk.cons A).trans List.perm_middle.symm⟩⟩
/-- All of m are there, in whatever order. -/
class Sb (l m : List Assn) : Prop where
  ex : ∃ k, l.Perm (m ++ k)
instance (priority := 1000) Sb.step (A : Assn) (l m r : List Assn) [h : Fnd l A r] [k : Sb r m] : Sb l (A :: m) := ⟨by
  obtain ⟨x, hx⟩ := k.ex
  exact ⟨x, h.perm.trans (hx.cons A)⟩⟩
instance (priority := 100) Sb.tl (l m : List Assn) [h : Tl l m] : Sb l m := ⟨h.ex⟩
theorem H.re {l m : List Assn} {σ : AHeap} (h : H l σ) [k : Sb l m] : H m σ := by
  obtain ⟨x, hx⟩ := k.ex
  exact (h.perm hx).left
example (A B C D : Assn) (l : List Assn) (σ : AHeap) (h : H (A :: B :: C :: D :: l) σ) : H (C :: A :: l) σ := h.re
example (A B C D : Assn) (l : List Assn) (σ : AHeap) (h : H [A, B, C, D, Star l] σ) : H [Star l, B] σ := h.re
/-- A struct or row that is read through a pointer whose place is not printed. -/
theorem ldp {l : List Assn} {σ : AHeap} {b o : Nat} {c : List Value} {v : Value} {K : Value → Prop} (h : H l σ) [k : Row l b c] [g : GetL c o v] (q : K v) : om (aLoad false 1 (.pointer (some ⟨b, o, none⟩)) σ) K := by
  rw [load1 (k.row σ h), g.eq]; exact q
theorem Ld {l : List Assn} {σ : AHeap} {b o : Nat} {c : List Value} {v : Value} (h : H l σ) [k : Row l b c] [g : GetL c o v] : aLoad false 1 (.pointer (some ⟨b, o, none⟩)) σ = some v := by
  rw [load1 (k.row σ h), g.eq]
section
variable {l : List Assn} {σ : AHeap} {b o : Nat} {c : List Value}
theorem LI {ik : IntKind} {n : Int} {K : Int → Prop} (h : H l σ) [Row l b c] [GetL c o (.int ik n)] : ldI ik (L b o σ) K = K n := by rw [L_eq h, ldI_some]
theorem LB {n : Bool} {K : Bool → Prop} (h : H l σ) [Row l b c] [GetL c o (.bool n)] : ldB (L b o σ) K = K n := by rw [L_eq h, ldB_some]
theorem LS {n : ByteArray} {K : ByteArray → Prop} (h : H l σ) [Row l b c] [GetL c o (.string n)] : ldS (L b o σ) K = K n := by rw [L_eq h, ldS_some]
theorem LV {v : Value} {K : Value → Prop} (h : H l σ) [Row l b c] [GetL c o v] : om (L b o σ) K = K v := by rw [L_eq h, om_some]
theorem AI {ik : IntKind} {n : Int} {K : Int → Prop} (h : H l σ) [Row l b c] [GetL c o (.int ik n)] : ldI ik (aLoad false 1 (.pointer (some ⟨b, o, none⟩)) σ) K = K n := by rw [Ld h, ldI_some]
theorem AB {n : Bool} {K : Bool → Prop} (h : H l σ) [Row l b c] [GetL c o (.bool n)] : ldB (aLoad false 1 (.pointer (some ⟨b, o, none⟩)) σ) K = K n := by rw [Ld h, ldB_some]
theorem AS {n : ByteArray} {K : ByteArray → Prop} (h : H l σ) [Row l b c] [GetL c o (.string n)] : ldS (aLoad false 1 (.pointer (some ⟨b, o, none⟩)) σ) K = K n := by rw [Ld h, ldS_some]
theorem AV {v : Value} {K : Value → Prop} (h : H l σ) [Row l b c] [GetL c o v] : om (aLoad false 1 (.pointer (some ⟨b, o, none⟩)) σ) K = K v := by rw [Ld h, om_some]
theorem veq_int {k : IntKind} {n : Int} {p : Prop} : (veq1 (.int k n) (.int k n) = true ∧ p) = p := by simp [veq1, veq, veq0]
theorem veq_bool {n : Bool} {p : Prop} : (veq1 (.bool n) (.bool n) = true ∧ p) = p := by simp [veq1, veq, veq0]
end
end Go.Ax
set_option maxRecDepth 100000
namespace Go.Ax.C
open Go.Proofs Go.RowKit

variable {l r m : List Assn} {σ : AHeap} {Q : RK}

def z256 : List UInt8 := List.replicate 256 0
/-- A block's bytes from one on ahead of another one made noughts: the first j of them were looked at. -/
def zrp (j k from' to : Nat) (x : List UInt8) : List UInt8 := x.mapIdx fun i b => if i < j ∧ from' ≤ k * 256 + i ∧ k * 256 + i < to then 0 else b
def zr (k from' to : Nat) (x : List UInt8) : List UInt8 := zrp 256 k from' to x
theorem zrp_len (j k from' to : Nat) (x : List UInt8) : (zrp j k from' to x).length = x.length := by simp [zrp]
theorem zrp_0 (k from' to : Nat) (x : List UInt8) : zrp 0 k from' to x = x := by
  apply List.ext_getElem?; intro i
  unfold zrp
  rw [List.getElem?_mapIdx]
  cases x[i]? <;> simp
theorem zrp_yes {j k from' to : Nat} {x : List UInt8} (h : from' ≤ k * 256 + j ∧ k * 256 + j < to) : zrp (j + 1) k from' to x = (zrp j k from' to x).set j 0 := by
  apply List.ext_getElem?; intro i
  rw [List.getElem?_set]
  unfold zrp
  rw [List.getElem?_mapIdx, List.getElem?_mapIdx, List.length_mapIdx]
  by_cases e : j = i
  · subst e
    rw [if_pos rfl]
    by_cases hj : j < x.length
    · rw [if_pos hj, List.getElem?_eq_getElem hj, Option.map_some, if_pos (by omega)]
    · rw [if_neg hj, List.getElem?_eq_none (by omega)]; rfl
  · rw [if_neg e]
    cases x[i]? with
    | none => rfl
    | some b =>
      simp only [Option.map_some]
      by_cases c1 : i < j ∧ from' ≤ k * 256 + i ∧ k * 256 + i < to
      · rw [if_pos c1, if_pos (by omega)]
      · rw [if_neg c1, if_neg (by omega)]
theorem zrp_no {j k from' to : Nat} {x : List UInt8} (h : ¬ (from' ≤ k * 256 + j ∧ k * 256 + j < to)) : zrp (j + 1) k from' to x = zrp j k from' to x := by
  apply List.ext_getElem?; intro i
  unfold zrp
  rw [List.getElem?_mapIdx, List.getElem?_mapIdx]
  cases x[i]? with
  | none => rfl
  | some b =>
    simp only [Option.map_some]
    by_cases c1 : i < j ∧ from' ≤ k * 256 + i ∧ k * 256 + i < to
    · rw [if_pos c1, if_pos (by omega)]
    · rw [if_neg c1, if_neg]
      intro c2
      apply c1
      refine ⟨?_, c2.2⟩
      rcases Nat.lt_or_ge i j with q | q
      · exact q
      · have : i = j := by omega
        subst this; exact absurd c2.2 h

theorem filterMap_congr' {α β : Type} {f g : α → Option β} : ∀ {l : List α}, (∀ x ∈ l, f x = g x) → l.filterMap f = l.filterMap g
  | [], _ => rfl
  | x :: l, h => by
    have ih := filterMap_congr' (f := f) (g := g) (l := l) fun y hy => h y (by simp [hy])
    simp only [List.filterMap_cons, h x (by simp), ih]
/-- All blocks but those of S made so. -/
def clr (S : Nat → Bool) (from' to : Nat) (bl : Blks) : Blks := bl.filterMap fun p => if S p.1 then some p else if zr p.1 from' to p.2 = z256 then none else some (p.1, zr p.1 from' to p.2)
def bclr (bl : Blks) (from' to : Nat) : Blks := clr (fun _ => false) from' to bl
theorem clr_all {S : Nat → Bool} {from' to : Nat} {bl : Blks} (h : ∀ p ∈ bl, S p.1 = true) : clr S from' to bl = bl := by
  unfold clr
  have e : (bl.filterMap fun p => if S p.1 then some p else if zr p.1 from' to p.2 = z256 then none else some (p.1, zr p.1 from' to p.2)) = bl.filterMap some := by
    apply filterMap_congr'
    intro p hp
    rw [if_pos (h p hp)]
  rw [e, List.filterMap_some]
theorem clr_congr {S T : Nat → Bool} {from' to : Nat} {bl : Blks} (h : ∀ p ∈ bl, S p.1 = T p.1) : clr S from' to bl = clr T from' to bl := by
  unfold clr
  apply filterMap_congr'
  intro p hp
  rw [h p hp]
theorem clr_keys {S : Nat → Bool} {from' to : Nat} {bl : Blks} {p : Nat × List UInt8} (hp : p ∈ bl) (hS : S p.1 = true) : p.1 ∈ (clr S from' to bl).map (·.1) := by
  refine List.mem_map.2 ⟨p, ?_, rfl⟩
  unfold clr
  exact List.mem_filterMap.2 ⟨p, hp, by rw [if_pos hS]⟩
theorem fst_eq {bl : Blks} (hn : (bl.map (·.1)).Nodup) {p q : Nat × List UInt8} (hp : p ∈ bl) (hq : q ∈ bl) (e : p.1 = q.1) : p = q := by
  obtain ⟨i, hi, rfl⟩ := List.getElem_of_mem hp
  obtain ⟨j, hj, rfl⟩ := List.getElem_of_mem hq
  have := (List.getElem_inj (i := i) (j := j) (h₀ := by simpa using hi) (h₁ := by simpa using hj) hn).1 (by simpa using e)
  subst this; rfl
theorem clr_step {S : Nat → Bool} {from' to : Nat} {bl : Blks} {p : Nat × List UInt8} (hn : (bl.map (·.1)).Nodup) (hp : p ∈ bl) (hS : S p.1 = true) :
    bput (clr S from' to bl) p.1 (zr p.1 from' to p.2) = clr (fun k => S k && !decide (k = p.1)) from' to bl := by
  unfold bput
  split
  · rename_i e0
    have e : zr p.1 from' to p.2 = z256 := e0
    unfold clr
    rw [List.filter_filterMap]
    apply filterMap_congr'
    intro q hq
    by_cases c : q.1 = p.1
    · have := fst_eq hn hq hp c
      subst this
      simp [hS, e, Option.filter]
    · by_cases s : S q.1 = true
      · simp [s, c, Option.filter]
      · by_cases z : zr q.1 from' to q.2 = z256
        · simp [s, z, Option.filter]
        · simp [s, z, c, Option.filter]
  · rename_i e0
    have e : ¬ zr p.1 from' to p.2 = z256 := e0
    rw [if_pos (clr_keys hp hS)]
    unfold clr
    rw [List.map_filterMap]
    apply filterMap_congr'
    intro q hq
    by_cases c : q.1 = p.1
    · have := fst_eq hn hq hp c
      subst this
      simp only [hS, if_true, Option.map_some, decide_true, Bool.not_true, Bool.and_false, Bool.false_eq_true, if_false]
      rw [if_neg e]
    · by_cases s : S q.1 = true
      · simp [s, c]
      · by_cases z : zr q.1 from' to q.2 = z256
        · simp [s, z]
        · simp [s, z, c]

theorem mem_bkv {bl : Blks} {p : Nat × Value} (h : p ∈ bkv bl) : ∃ q ∈ bl, p = (q.1, blkV q.2) := by
  obtain ⟨q, hq, rfl⟩ := List.mem_map.1 h
  exact ⟨q, hq, rfl⟩
theorem bkv_fst (bl : Blks) : (bkv bl).map (·.1) = bl.map (·.1) := by unfold bkv; rw [List.map_map]; rfl
/-- A volume's cells and its map's place. -/
abbrev hcs (vol : Vol) (bm : Nat) : List Value := [.int .u64 vol.id, .string vol.name, .int .u64 vol.size, .int .u64 vol.root, .bool vol.fixed, .int .u64 vol.origin, .map (some bm)]

theorem hput' {hb bm k : Nat} {vol : Vol} {bl : Blks} {x : List UInt8} (h : H (pt hb (.cells (hcs vol bm) t_model_held false) :: UMap .u64 bm (bkv bl) :: l) σ) (hx : x.length = 256)
    (hQ : ∀ σ', H (pt hb (.cells (hcs vol bm) t_model_held false) :: UMap .u64 bm (bkv (bput bl k x)) :: l) σ' → Q (.ret (.tuple #[])) σ') : E f_model_held_put [.pointer (some ⟨hb, 0, none⟩), .int .u64 (k : Nat), blkV x] σ Q := hput h hx hQ
theorem hclear {hb bm from' to : Nat} {vol : Vol} {bl : Blks} (h : H (pt hb (.cells (hcs vol bm) t_model_held false) :: UMap .u64 bm (bkv bl) :: l) σ) (hn : (bl.map (·.1)).Nodup) (hbl : ∀ p ∈ bl, p.2.length = 256 ∧ p.1 < 16777216)
    (hQ : ∀ σ', H (pt hb (.cells (hcs vol bm) t_model_held false) :: UMap .u64 bm (bkv (bclr bl from' to)) :: l) σ' → Q (.ret (.tuple #[])) σ') : E f_model_held_clear [.pointer (some ⟨hb, 0, none⟩), .int .u64 (from' : Nat), .int .u64 (to : Nat)] σ Q := by
  apply e_model_held_clear; unfold s_model_held_clear
  rw [LV h]
  refine mclone (h.re : H (UMap .u64 bm (bkv bl) :: pt hb (.cells (hcs vol bm) t_model_held false) :: l) σ) ?_
  intro mb' σ1 h1
  rw [cV_ret]
  refine umap_range (P := P) (e := t_uint64) (u := t_model_block) h1 (by kernel_rfl) ?_
  intro it σ2 h2
  refine ⟨fun m τ => ∃ R : KVs, m = R.length ∧ (∀ p ∈ R, p ∈ bkv bl) ∧ (R.map (·.1)).Nodup ∧ H (MIter .u64 it mb' (bkv bl) R :: UMap .u64 bm (bkv (clr (fun k => decide (k ∈ R.map (·.1))) from' to bl)) :: pt hb (.cells (hcs vol bm) t_model_held false) :: l) τ,
    ⟨_, bkv bl, rfl, fun p hp => hp, by rw [bkv_fst]; exact hn, ?_⟩, ?_⟩
  · rw [clr_all]
    · exact h2
    · intro p hp; rw [bkv_fst]; simpa using ⟨_, hp⟩
  rintro m τ ⟨R, rfl, hR, hRn, h3⟩
  unfold s_model_held_clear_b1
  refine miter_next h3 ?_ ?_
  · rintro rfl
    simp only
    have x0 : xExt (.tuple #[.bool false]) 0 = some (.bool false) := rfl
    rw [x0, ldB_some]
    refine If_f rfl ?_
    refine hQ τ ?_
    have : clr (fun k => decide (k ∈ List.map (·.1) ([] : KVs))) from' to bl = bclr bl from' to := clr_congr (by simp)
    rw [this] at h3
    exact h3.re
  · rintro R1 p R2 τ1 rfl h4 he
    simp only
    have x0 : xExt (.tuple #[.bool true, .int .u64 p.1, p.2]) 0 = some (.bool true) := rfl
    rw [x0, ldB_some]
    refine If_t rfl ?_
    rw [he, om_some]
    obtain ⟨⟨k, x⟩, hq, rfl⟩ := mem_bkv (hR p (by simp))
    obtain ⟨hx, hk⟩ := hbl _ hq
    simp only at hx hk
    rw [xExt0, ldI_some, xExt1, om_some]
    refine nw h4 ?_
    intro b τ2 h5
    refine storeN (vs := bv x) h5 0 rfl (by simpa using hx) (by omega) (bv_one _) (by simp) ?_
    intro τ3 h6
    have hsp : splice (List.replicate 256 (Value.int .u8 0)) 0 (bv x) = bv x := by
      unfold splice
      rw [List.take_zero, List.nil_append, Nat.zero_add, List.drop_of_length_le (by simp [hx]), List.append_nil]
    rw [hsp] at h6
    refine ⟨fun m n τ => ∃ j : Nat, m = 256 - j ∧ n = (j : Int) ∧ j ≤ 256 ∧ H (pt b (.cells (bv (zrp j k from' to x)) t_model_block false) :: MIter .u64 it mb' (bkv bl) (R1 ++ R2) :: UMap .u64 bm (bkv (clr (fun a => decide (a ∈ List.map (·.1) (R1 ++ (k, blkV x) :: R2))) from' to bl)) :: pt hb (.cells (hcs vol bm) t_model_held false) :: l) τ,
      ⟨_, 0, rfl, rfl, by omega, by rw [zrp_0]; exact h6⟩, ?_⟩
    rintro m _ τ4 ⟨j, rfl, rfl, hj, h7⟩
    unfold s_model_held_clear_b2
    refine If_dec (fun g => ?_) fun g => ?_
    · refine bu64 ((k * 256 : Nat) : Int) (by omega) ?_
      refine bu64 ((j : Nat) : Int) (by omega) ?_
      refine bu64 ((k * 256 + j : Nat) : Int) (by omega) ?_
      have hl : (zrp j k from' to x).length = 256 := by rw [zrp_len, hx]
      have hi : aIndexAddrArr 256 1 (.pointer (some ⟨b, 0, none⟩)) (.int .i64 (j : Nat)) = some (.pointer (some ⟨b, j, none⟩)) := by rw [idxAA (by omega)]; simp
      have yes : ∀ N2 : Int → AHeap → Prop, (∀ τ5, H (pt b (.cells (bv ((zrp j k from' to x).set j 0)) t_model_block false) :: MIter .u64 it mb' (bkv bl) (R1 ++ R2) :: UMap .u64 bm (bkv (clr (fun a => decide (a ∈ List.map (·.1) (R1 ++ (k, blkV x) :: R2))) from' to bl)) :: pt hb (.cells (hcs vol bm) t_model_held false) :: l) τ5 → N2 ((j + 1 : Nat) : Int) τ5) →
          ∀ c b102 n104 n106 n109 v116, c = true → s_model_held_clear_k10 N2 E Q c (j : Int) b (j : Int) b102 n104 n106 n109 v116 τ4 := by
        intro N2 hN c b102 n104 n106 n109 v116 hc
        unfold s_model_held_clear_k10 s_model_held_clear_k11
        refine If_t hc ?_
        rw [hi, om_some]
        refine store1 h7 0 rfl rfl (by simp [hl]; omega) ?_
        intro τ5 h8
        have e0 : (Value.int .u8 0) = by8 0 := rfl
        rw [e0, bv_set] at h8
        exact b64 ((j + 1 : Nat) : Int) (by omega) (hN τ5 h8)
      have no : ∀ N2 : Int → AHeap → Prop, N2 ((j + 1 : Nat) : Int) τ4 → ∀ c b102 n104 n106 n109 v116, c = false → s_model_held_clear_k10 N2 E Q c (j : Int) b (j : Int) b102 n104 n106 n109 v116 τ4 := by
        intro N2 hN c b102 n104 n106 n109 v116 hc
        unfold s_model_held_clear_k10 s_model_held_clear_k11
        refine If_f hc ?_
        exact b64 ((j + 1 : Nat) : Int) (by omega) hN
      have yes' : from' ≤ k * 256 + j ∧ k * 256 + j < to → ∀ c b102 n104 n106 n109 v116, c = true → s_model_held_clear_k10 (fun n31 σ' => ∃ m' < 256 - j, ∃ j' : Nat, m' = 256 - j' ∧ n31 = (j' : Int) ∧ j' ≤ 256 ∧ H (pt b (.cells (bv (zrp j' k from' to x)) t_model_block false) :: MIter .u64 it mb' (bkv bl) (R1 ++ R2) :: UMap .u64 bm (bkv (clr (fun a => decide (a ∈ List.map (·.1) (R1 ++ (k, blkV x) :: R2))) from' to bl)) :: pt hb (.cells (hcs vol bm) t_model_held false) :: l) σ') E Q c (j : Int) b (j : Int) b102 n104 n106 n109 v116 τ4 := by
        intro c1 c b102 n104 n106 n109 v116 hc
        refine yes _ (fun τ5 h8 => ⟨_, by omega, j + 1, rfl, rfl, by omega, ?_⟩) c b102 n104 n106 n109 v116 hc
        rw [zrp_yes c1]; exact h8
      have no' : ¬ (from' ≤ k * 256 + j ∧ k * 256 + j < to) → ∀ c b102 n104 n106 n109 v116, c = false → s_model_held_clear_k10 (fun n31 σ' => ∃ m' < 256 - j, ∃ j' : Nat, m' = 256 - j' ∧ n31 = (j' : Int) ∧ j' ≤ 256 ∧ H (pt b (.cells (bv (zrp j' k from' to x)) t_model_block false) :: MIter .u64 it mb' (bkv bl) (R1 ++ R2) :: UMap .u64 bm (bkv (clr (fun a => decide (a ∈ List.map (·.1) (R1 ++ (k, blkV x) :: R2))) from' to bl)) :: pt hb (.cells (hcs vol bm) t_model_held false) :: l) σ') E Q c (j : Int) b (j : Int) b102 n104 n106 n109 v116 τ4 := by
        intro c1 c b102 n104 n106 n109 v116 hc
        refine no _ ⟨_, by omega, j + 1, rfl, rfl, by omega, ?_⟩ c b102 n104 n106 n109 v116 hc
        rw [zrp_no c1]; exact h7
      refine If_dec (fun g1 => ?_) fun g1 => ?_
      · by_cases g2 : k * 256 + j < to
        · exact yes' ⟨by omega, g2⟩ _ _ _ _ _ _ (by simp; omega)
        · exact no' (by omega) _ _ _ _ _ _ (by simp; omega)
      · exact no' (by omega) _ _ _ _ _ _ rfl
    · have : j = 256 := by omega
      subst this
      have hl : (zrp 256 k from' to x).length = 256 := by rw [zrp_len, hx]
      rw [loadN (h7.row 0 rfl) (by simp [hl]), om_some, List.drop_zero, List.take_of_length_le (by simp [hl])]
      refine hput' (vol := vol) (k := k) (x := zrp 256 k from' to x) (h7.re : H (pt hb (.cells (hcs vol bm) t_model_held false) :: UMap .u64 bm (bkv (clr (fun a => decide (a ∈ List.map (·.1) (R1 ++ (k, blkV x) :: R2))) from' to bl)) :: MIter .u64 it mb' (bkv bl) (R1 ++ R2) :: l) τ4) hl ?_
      intro τ5 h8
      rw [c0_ret]
      have e1 := clr_step (S := fun a => decide (a ∈ List.map (·.1) (R1 ++ (k, blkV x) :: R2))) (from' := from') (to := to) hn hq (by simp)
      simp only [zr] at e1
      rw [e1] at h8
      rw [List.map_append, List.map_cons, List.nodup_append] at hRn
      have e2 : clr (fun a => decide (a ∈ List.map (·.1) (R1 ++ (k, blkV x) :: R2)) && !decide (a = k)) from' to bl = clr (fun a => decide (a ∈ List.map (·.1) (R1 ++ R2))) from' to bl := by
        apply clr_congr
        intro q _
        have n1 := hRn.2.2
        have n2 := (List.nodup_cons.1 hRn.2.1).1
        rw [Bool.eq_iff_iff]
        simp only [List.map_append, List.map_cons, Bool.and_eq_true, decide_eq_true_eq, Bool.not_eq_true', decide_eq_false_iff_not, List.mem_append, List.mem_cons]
        constructor
        · rintro ⟨a | a | a, b⟩
          · exact .inl a
          · exact absurd a b
          · exact .inr a
        · rintro (a | a)
          · exact ⟨.inl a, fun e => n1 _ a k (by simp) (by simpa using e)⟩
          · exact ⟨.inr (.inr a), fun e => n2 (by rw [← e]; exact a)⟩
      rw [e2] at h8
      refine ⟨(R1 ++ R2).length, by simp, R1 ++ R2, rfl, fun q hq => hR q ?_, ?_, h8.re⟩
      · simp only [List.mem_append, List.mem_cons] at hq ⊢
        exact hq.elim .inl fun h => .inr (.inr h)
      · rw [List.map_append, List.nodup_append]
        exact ⟨hRn.1, (List.nodup_cons.1 hRn.2.1).2, fun a ha b hb => hRn.2.2 a ha b (by simp [hb])⟩
end Go.Ax.C
set_option maxRecDepth 100000
namespace Go.Ax.C
open Go.Proofs Go.RowKit

variable {l r m : List Assn} {σ : AHeap} {Q : RK}

def MM.upd (M : MM) (id : Nat) (f : Hd → Hd) : MM := { M with by' := M.by'.map fun w => if w.1 = id then (w.1, f w.2) else w }
theorem upd_W {M : MM} {W : List WRow} {k : Nat} {w : WRow} (hW : W.map (fun w => (w.1, w.2.2)) = M.by') (hn : (M.by'.map (·.1)).Nodup) (hk : W[k]? = some w) (f : Hd → Hd) :
    (W.set k (w.1, w.2.1, f w.2.2)).map (fun w => (w.1, w.2.2)) = (M.upd w.1 f).by' := by
  unfold MM.upd
  simp only
  rw [← hW, List.map_set, List.map_map]
  have hnd := keys_nd hW hn
  apply List.ext_getElem?
  intro i
  rw [List.getElem?_set, List.getElem?_map]
  by_cases e : k = i
  · subst e
    rw [if_pos rfl, List.length_map, if_pos (List.getElem?_eq_some_iff.1 hk).1, List.getElem?_map, hk]
    simp
  · rw [if_neg e, List.getElem?_map]
    cases hi : W[i]? with
    | none => rfl
    | some u =>
      simp only [Option.map_some, Function.comp]
      rw [if_neg]
      intro e2
      have h1 := (List.getElem?_eq_some_iff.1 hk)
      have h2 := (List.getElem?_eq_some_iff.1 hi)
      obtain ⟨h1, h1'⟩ := h1
      obtain ⟨h2, h2'⟩ := h2
      have := (List.getElem_inj (i := i) (j := k) (h₀ := by simpa using h2) (h₁ := by simpa using h1) hnd).1 (by simp [h1', h2', e2])
      exact e this.symm
/-- A volume opened and shut again, turned. -/
theorem mo_out' {x mb nx k : Nat} {W : List WRow} {w : WRow} (h : H (MO x mb nx W l) σ) (hk : W[k]? = some w) : ∃ bm, H [pt w.2.1 (.cells (hcs w.2.2.vol bm) t_model_held false), UMap .u64 bm (bkv w.2.2.bl), Star ((W.map hdW).set k emp), pt x (.cells [.int .u64 nx, .map (some mb)] t_model_Model false), UMap .u64 mb (W.map kvW), Star l] σ := mo_out h hk
theorem mo_turn {x mb nx k bm : Nat} {W : List WRow} {w : WRow} {vol : Vol} {bl : Blks} (hk : W[k]? = some w) (h : H [pt w.2.1 (.cells (hcs vol bm) t_model_held false), UMap .u64 bm (bkv bl), Star ((W.map hdW).set k emp), pt x (.cells [.int .u64 nx, .map (some mb)] t_model_Model false), UMap .u64 mb (W.map kvW), Star l] σ) :
    H (MO x mb nx (W.set k (w.1, w.2.1, ⟨vol, bl⟩)) l) σ := by
  refine mo_in (w := (w.1, w.2.1, ⟨vol, bl⟩)) (List.getElem?_eq_some_iff.1 hk).1 h ?_
  rw [List.map_set]
  apply set_get_same
  rw [List.getElem?_map, hk]; rfl

theorem ok_mem {M : MM} {W : List WRow} {w : WRow} (hW : W.map (fun w => (w.1, w.2.2)) = M.by') (hw : w ∈ W) : (w.1, w.2.2) ∈ M.by' := by rw [← hW]; exact List.mem_map.2 ⟨w, hw, rfl⟩

def rszH (n : Nat) (h : Hd) : Hd := ⟨{ h.vol with size := n }, bclr h.bl n 4294967296⟩
def rszE (M : MM) (s : ByteArray) (n : Nat) (short : Bool) : Nat :=
  if ¬ (1 ≤ n ∧ n ≤ 4294967296) then 1 else match M.named s with | none => 6 | some h => if h.vol.fixed then 30 else if short then 8 else 0
theorem mresize {x mb : Nat} {M : MM} {W : List WRow} {s : ByteArray} {n : Nat} {short : Bool} (h : H (MO x mb M.next W l) σ) (hW : W.map (fun w => (w.1, w.2.2)) = M.by') (hM : M.Ok)
    (hno : rszE M s n short ≠ 0 → ∀ σ', H (MO x mb M.next W l) σ' → Q (.ret (.int .i64 (rszE M s n short))) σ')
    (hyes : rszE M s n short = 0 → ∀ h0 W' σ', M.named s = some h0 → W'.map (fun w => (w.1, w.2.2)) = (M.upd h0.vol.id (rszH n)).by' → H (MO x mb M.next W' l) σ' → Q (.ret (.int .i64 0)) σ') :
    E f_model_Model_Resize [.pointer (some ⟨x, 0, none⟩), .string s, .int .u64 n, .bool short] σ Q := by
  apply e_model_Model_Resize; unfold s_model_Model_Resize
  refine mnone h ?_
  rw [cB_ret]
  refine If_f rfl ?_
  refine msize ?_
  rw [cB_ret]
  unfold rszE at hno hyes
  refine If_b (fun g => ?_) fun g => ?_
  · rw [if_pos (by simp at g; omega)] at hno
    exact hno (by omega) σ h
  · rw [if_neg (by simp at g; omega)] at hno hyes
    refine mnamed h ?_ ?_
    · intro k w σ1 hk hws h1
      have hw := List.mem_of_getElem? hk
      have hnm := named_some hW hM.nm hw hws
      rw [hnm] at hno hyes
      simp only at hno hyes
      have hmem := ok_mem hW hw
      have hid : w.2.2.vol.id = w.1 := ((hM.id (w.1, w.2.2) hmem).1).symm
      rw [c2_ret, tI_int]
      refine If_ne (fun g => absurd rfl g) fun _ => ?_
      obtain ⟨bm, h3⟩ := mo_out' h1 hk
      simp only [nil_ptr, om_some, fieldAddr_ptr, Nat.zero_add, Nat.add_zero]
      rw [AB h3]
      refine If_b (fun g1 => ?_) fun g1 => ?_
      · rw [if_pos g1] at hno
        exact hno (by decide) σ1 h1
      · rw [if_neg (by simp [g1])] at hno hyes
        refine If_b (fun g2 => ?_) fun g2 => ?_
        · rw [if_pos g2] at hno
          exact hno (by decide) σ1 h1
        · rw [if_neg (by simp [g2])] at hyes
          refine store1 h3 0 rfl rfl (by simp) ?_
          intro σ2 h4
          have hb := hM.bl _ hmem
          refine hclear (from' := n) (to := 4294967296) (vol := { w.2.2.vol with size := n }) (h4 : H (pt w.2.1 (.cells (hcs { w.2.2.vol with size := n } bm) t_model_held false) :: _) σ2) hb.1 hb.2 ?_
          intro σ3 h5
          rw [c0_ret]
          refine hyes rfl _ _ σ3 rfl ?_ (mo_turn hk h5)
          rw [hid]
          exact upd_W hW hM.nd hk (rszH n)
    · intro hnone σ1 h1
      rw [named_none hW hnone] at hno
      simp only at hno
      rw [c2_ret, tI_int]
      refine If_ne (fun _ => ?_) fun g => absurd g (by decide)
      exact hno (by decide) σ1 h1

/-- The blocks that lie wholly in a range. -/
def innE (off n : Nat) : Nat × Nat := if ¬ (off ≤ 4294967296 ∧ n ≤ 4294967296 - off) then (0, 0) else if (off + n) / 256 ≤ (off + 255) / 256 then (0, 0) else ((off + 255) / 256, (off + n) / 256)
theorem pinner {off n : Nat} (hQ : Q (.ret (.tuple #[.int .u64 (innE off n).1, .int .u64 (innE off n).2])) σ) : E f_pieces_Inner [.int .u64 off, .int .u64 n] σ Q := by
  apply e_pieces_Inner; unfold s_pieces_Inner
  refine pwithin (c := 4294967296) (by omega) ?_
  rw [cB_ret]
  unfold innE at hQ
  refine If_b (fun g => ?_) fun g => ?_
  · rw [if_pos (by simp at g; omega)] at hQ
    exact hQ
  · rw [if_neg (by simp at g; omega)] at hQ
    simp at g
    refine bu64 ((off + 256 : Nat) : Int) (by omega) ?_
    refine bu64 ((off + 255 : Nat) : Int) (by omega) ?_
    refine bu64 (((off + 255) / 256 : Nat) : Int) (by refine ⟨rfl, ?_⟩; omega) ?_
    refine bu64 ((off + n : Nat) : Int) (by omega) ?_
    refine bu64 (((off + n) / 256 : Nat) : Int) (by refine ⟨rfl, ?_⟩; omega) ?_
    refine If_dec (fun g1 => ?_) fun g1 => ?_
    · rw [if_pos (by omega)] at hQ; exact hQ
    · rw [if_neg (by omega)] at hQ; exact hQ

/-- What changes a range, of a volume's number. -/
def chgE (M : MM) (id off n : Nat) (wire short : Bool) : Nat := match M.at' id with | none => 6 | some h => if askE h off n true wire ≠ 0 then askE h off n true wire else if short then 8 else 0
theorem chg_bad {M : MM} {id off n : Nat} {wire short : Bool} {h : Hd} (ha : M.at' id = some h) (hb : askE h off n true wire ≠ 0) : chgE M id off n wire short = askE h off n true wire := by
  unfold chgE; rw [ha]; simp only; rw [if_pos hb]
theorem chg_ok {M : MM} {id off n : Nat} {wire short : Bool} {h : Hd} (ha : M.at' id = some h) (hb : askE h off n true wire = 0) : chgE M id off n wire short = if short then 8 else 0 := by
  unfold chgE; rw [ha]; simp only; rw [if_neg (by simp [hb])]
theorem ask_in {h : Hd} {off n : Nat} {c w : Bool} (hk : askE h off n c w = 0) : off ≤ h.vol.size ∧ n ≤ h.vol.size - off := by
  unfold askE at hk
  split at hk
  · omega
  · split at hk
    · omega
    · rename_i g; simpa using g
theorem ask_fix {h : Hd} {off n : Nat} {w : Bool} (hk : askE h off n true w = 0) : h.vol.fixed = false := by
  unfold askE at hk
  split at hk
  · omega
  · rename_i g; simpa using g
def trimH (off n : Nat) (h : Hd) : Hd := ⟨h.vol, bclr h.bl ((innE off n).1 * 256) ((innE off n).2 * 256)⟩
theorem innE_le (off n : Nat) : (innE off n).1 ≤ 16777216 ∧ (innE off n).2 ≤ 16777216 := by
  unfold innE
  split
  · simp
  · rename_i g
    split
    · simp
    · simp only; omega
theorem mtrim {x mb : Nat} {M : MM} {W : List WRow} {id off n : Nat} {short : Bool} (h : H (MO x mb M.next W l) σ) (hW : W.map (fun w => (w.1, w.2.2)) = M.by') (hM : M.Ok)
    (hno : chgE M id off n false short ≠ 0 → ∀ σ', H (MO x mb M.next W l) σ' → Q (.ret (.int .i64 (chgE M id off n false short))) σ')
    (hyes : chgE M id off n false short = 0 → ∀ W' σ', W'.map (fun w => (w.1, w.2.2)) = (M.upd id (trimH off n)).by' → H (MO x mb M.next W' l) σ' → Q (.ret (.int .i64 0)) σ') :
    E f_model_Model_Trim [.pointer (some ⟨x, 0, none⟩), .int .u64 id, .int .u64 off, .int .u64 n, .bool short] σ Q := by
  apply e_model_Model_Trim; unfold s_model_Model_Trim
  refine masked h hW hM ?_ ?_ ?_
  · intro hx σ1 h1
    rw [c2_ret, tI_int]
    have e : chgE M id off n false short = 6 := by unfold chgE; rw [at_none hW hx]
    rw [e] at hno
    refine If_dec (fun g => absurd g (by decide)) fun _ => ?_
    unfold s_model_Model_Trim_k4 s_model_Model_Trim_k7
    refine If_dec (fun g => absurd g (by decide)) fun _ => ?_
    exact hno (by decide) σ1 h1
  · rintro w σ1 hw rfl hask h1
    rw [c2_ret, tI_int]
    rw [chg_bad (at_some hW hM.nd hw) hask] at hno
    refine If_dec (fun g => absurd g (by omega)) fun _ => ?_
    unfold s_model_Model_Trim_k4 s_model_Model_Trim_k7
    refine If_dec (fun g => absurd g (by omega)) fun _ => ?_
    exact hno hask σ1 h1
  · rintro k w σ1 hk rfl hask h1
    have hw := List.mem_of_getElem? hk
    have hmem := ok_mem hW hw
    rw [chg_ok (at_some hW hM.nd hw) hask] at hno hyes
    rw [c2_ret, tI_int]
    refine If_dec (fun _ => ?_) fun g => absurd rfl g
    refine mfull ?_
    rw [cI_ret]
    unfold s_model_Model_Trim_k4 s_model_Model_Trim_k7
    cases short with
    | true =>
      refine If_dec (fun g => absurd g (by decide)) fun _ => ?_
      exact hno (by decide) σ1 h1
    | false =>
      refine If_dec (fun _ => ?_) fun g => absurd rfl g
      refine pinner ?_
      have hle := innE_le off n
      rw [c2_ret, tI_int, tI_int]
      refine bu64 (((innE off n).1 * 256 : Nat) : Int) (by omega) ?_
      refine bu64 (((innE off n).2 * 256 : Nat) : Int) (by omega) ?_
      obtain ⟨bm, h3⟩ := mo_out' h1 hk
      have hb := hM.bl _ hmem
      refine hclear h3 hb.1 hb.2 ?_
      intro σ3 h5
      rw [c0_ret]
      exact hyes rfl _ σ3 (upd_W hW hM.nd hk (trimH off n)) (mo_turn hk h5)
def zeroH (off n : Nat) (h : Hd) : Hd := ⟨h.vol, bclr h.bl off (off + n)⟩
theorem mzero {x mb : Nat} {M : MM} {W : List WRow} {id off n : Nat} {short : Bool} (h : H (MO x mb M.next W l) σ) (hW : W.map (fun w => (w.1, w.2.2)) = M.by') (hM : M.Ok)
    (hno : chgE M id off n false short ≠ 0 → ∀ σ', H (MO x mb M.next W l) σ' → Q (.ret (.int .i64 (chgE M id off n false short))) σ')
    (hyes : chgE M id off n false short = 0 → ∀ W' σ', W'.map (fun w => (w.1, w.2.2)) = (M.upd id (zeroH off n)).by' → H (MO x mb M.next W' l) σ' → Q (.ret (.int .i64 0)) σ') :
    E f_model_Model_Zero [.pointer (some ⟨x, 0, none⟩), .int .u64 id, .int .u64 off, .int .u64 n, .bool short] σ Q := by
  apply e_model_Model_Zero; unfold s_model_Model_Zero
  refine masked h hW hM ?_ ?_ ?_
  · intro hx σ1 h1
    rw [c2_ret, tI_int]
    have e : chgE M id off n false short = 6 := by unfold chgE; rw [at_none hW hx]
    rw [e] at hno
    refine If_dec (fun g => absurd g (by decide)) fun _ => ?_
    unfold s_model_Model_Zero_k4 s_model_Model_Zero_k6
    refine If_dec (fun g => absurd g (by decide)) fun _ => ?_
    exact hno (by decide) σ1 h1
  · rintro w σ1 hw rfl hask h1
    rw [c2_ret, tI_int]
    rw [chg_bad (at_some hW hM.nd hw) hask] at hno
    refine If_dec (fun g => absurd g (by omega)) fun _ => ?_
    unfold s_model_Model_Zero_k4 s_model_Model_Zero_k6
    refine If_dec (fun g => absurd g (by omega)) fun _ => ?_
    exact hno hask σ1 h1
  · rintro k w σ1 hk rfl hask h1
    have hw := List.mem_of_getElem? hk
    have hmem := ok_mem hW hw
    rw [chg_ok (at_some hW hM.nd hw) hask] at hno hyes
    have hsz := hM.sz _ hmem
    have hin := ask_in hask
    simp only at hsz
    rw [c2_ret, tI_int]
    refine If_dec (fun _ => ?_) fun g => absurd rfl g
    refine mfull ?_
    rw [cI_ret]
    unfold s_model_Model_Zero_k4 s_model_Model_Zero_k6
    cases short with
    | true =>
      refine If_dec (fun g => absurd g (by decide)) fun _ => ?_
      exact hno (by decide) σ1 h1
    | false =>
      refine If_dec (fun _ => ?_) fun g => absurd rfl g
      refine bu64 ((off + n : Nat) : Int) (by omega) ?_
      obtain ⟨bm, h3⟩ := mo_out' h1 hk
      have hb := hM.bl _ hmem
      refine hclear h3 hb.1 hb.2 ?_
      intro σ3 h5
      rw [c0_ret]
      exact hyes rfl _ σ3 (upd_W hW hM.nd hk (zeroH off n)) (mo_turn hk h5)
end Go.Ax.C
set_option maxRecDepth 100000
namespace Go.Ax.C
open Go.Proofs Go.RowKit

variable {l r m : List Assn} {σ : AHeap} {Q : RK}

/-- Bytes that can be read, and cut. -/
def Bts (σ : AHeap) (v : Value) (x : List UInt8) : Prop := (x = [] ∧ ∃ a c, v = .slice a 0 c) ∨
  ∃ b o c row, v = .slice (some ⟨b, o, none⟩) x.length c ∧ CapOk 1 x.length c ∧ σ.row b = some row ∧ (row.drop o).take x.length = bv x ∧ o + x.length ≤ row.length
theorem own_bts {e n : Nat} {v : Value} {x : List UInt8} (h : H (Own e 1 v n (bv x) :: l) σ) : Bts σ v x := by
  rcases H_own.1 h with ⟨⟨_, e1, h2⟩, _⟩ | ⟨b, c, opn, rest, h1, h2, h3, rfl, h4, h5⟩
  · have : x = [] := by cases x <;> simp_all
    refine .inl ⟨this, ?_⟩
    rcases h2 with rfl | rfl <;> exact ⟨_, _, rfl⟩
  · have hn : x.length = n := by simpa using h2
    subst hn
    refine .inr ⟨b, 0, c, _, rfl, ⟨h4, ?_⟩, h1.row 0 rfl, ?_, by simp⟩
    · rcases h5 with h5 | h5
      · exact .inr h5.2.2
      · exact .inl h5
    · rw [List.drop_zero, List.take_append_of_le_length (by simp), List.take_of_length_le (by simp)]
theorem bts_form {v : Value} {x : List UInt8} (h : Bts σ v x) : ∃ a c, v = .slice a x.length c := by
  rcases h with ⟨rfl, a, c, rfl⟩ | ⟨b, o, c, row, rfl, _⟩
  · exact ⟨a, c, rfl⟩
  · exact ⟨_, _, rfl⟩
theorem bts_from {v : Value} {x : List UInt8} {a : Nat} {k : IntKind} (h : Bts σ v x) (ha : a < x.length) :
    ∃ b o c row, aSlice 1 v (some (.int k (a : Nat))) none none = some (.slice (some ⟨b, o, none⟩) (x.length - a) c) ∧ σ.row b = some row ∧ (row.drop o).take (x.length - a) = bv (x.drop a) ∧ o + (x.length - a) ≤ row.length := by
  rcases h with ⟨rfl, _⟩ | ⟨b, o, c, row, rfl, hc, h1, h2, h3⟩
  · simp at ha
  · obtain ⟨c', e, _⟩ := slice_from (b := b) (o := o) (k := k) (lo := (a : Nat)) hc (by omega)
    refine ⟨b, o + a, c', row, ?_, h1, ?_, by omega⟩
    · rw [e]; simp
    · have : (row.drop (o + a)).take (x.length - a) = ((row.drop o).take x.length).drop a := by
        rw [List.drop_take, List.drop_drop]
      rw [this, h2, bv_drop]

/-- A block with bytes laid over it. -/
def patch (x d : List UInt8) (o : Nat) : List UInt8 := x.take o ++ d ++ x.drop (o + d.length)
def pdata (d : List UInt8) (p : Pc) : List UInt8 := (d.drop p.at').take (p.to - p.from')
def wrL (d : List UInt8) (bl : Blks) (L : List Pc) : Blks := L.foldl (fun bl p => bput bl p.blk (patch (bget bl p.blk) (pdata d p) p.from')) bl
theorem patch_len {x d : List UInt8} {o : Nat} (h : o + d.length ≤ x.length) : (patch x d o).length = x.length := by unfold patch; simp; omega
theorem bput_keys {bl : Blks} {k : Nat} {x : List UInt8} (hn : (bl.map (·.1)).Nodup) : ((bput bl k x).map (·.1)).Nodup := by
  unfold bput
  split
  · exact hn.sublist (List.filter_sublist.map _)
  · split
    · rw [List.map_map]
      have : ((fun x => x.fst) ∘ fun p : Nat × List UInt8 => if p.fst = k then (k, x) else p) = fun p => p.1 := by
        funext p; simp only [Function.comp]; split
        · rename_i e; rw [e]
        · rfl
      rw [this]; exact hn
    · rename_i e
      rw [List.map_append, List.nodup_append]
      refine ⟨hn, by simp, fun a ha b hb => ?_⟩
      simp at hb; subst hb
      intro e2; subst e2; exact e ha
theorem bput_ok {bl : Blks} {k : Nat} {x : List UInt8} (hb : ∀ p ∈ bl, p.2.length = 256 ∧ p.1 < 16777216) (hx : x.length = 256) (hk : k < 16777216) : ∀ p ∈ bput bl k x, p.2.length = 256 ∧ p.1 < 16777216 := by
  unfold bput
  split
  · exact fun p hp => hb p (List.mem_filter.1 hp).1
  · split
    · intro p hp
      obtain ⟨q, hq, rfl⟩ := List.mem_map.1 hp
      split
      · exact ⟨hx, hk⟩
      · exact hb q hq
    · intro p hp
      rcases List.mem_append.1 hp with h | h
      · exact hb p h
      · simp at h; subst h; exact ⟨hx, hk⟩
/-- How a piece lies, in the whole. -/
structure PcIn (n : Nat) (p : Pc) : Prop where
  lt : p.from' < p.to
  le : p.to ≤ 256
  at' : p.at' + (p.to - p.from') ≤ n
  blk : p.blk < 16777216
theorem cutL_in : ∀ (f off n a t : Nat), a + n ≤ t → off + n ≤ 4294967296 → ∀ p ∈ cutL f off n a, PcIn t p
  | 0, _, _, _, _, _, _, p, hp => by simp [cutL] at hp
  | f + 1, off, n, a, t, ht, ho, p, hp => by
    rw [cutL] at hp
    split at hp
    · simp at hp
    · have hpos := pcn_pos (off := off) (n := n) (by omega)
      rcases List.mem_cons.1 hp with rfl | hp
      · have : pcn off n ≤ 256 - off % 256 := by unfold pcn; omega
        refine ⟨?_, ?_, ?_, ?_⟩ <;> simp only [pc1] <;> omega
      · exact cutL_in f _ _ _ t (by omega) (by omega) p hp
theorem cutE_in (off n : Nat) : ∀ p ∈ cutE off n, PcIn n p := by
  unfold cutE cut
  split
  · exact cutL_in _ _ _ _ n (by omega) (by omega)
  · intro p hp; simp at hp
theorem wrL_ok {d : List UInt8} : ∀ {L : List Pc} {bl : Blks}, (∀ p ∈ L, PcIn d.length p) → (bl.map (·.1)).Nodup → (∀ p ∈ bl, p.2.length = 256 ∧ p.1 < 16777216) → ((wrL d bl L).map (·.1)).Nodup ∧ ∀ p ∈ wrL d bl L, p.2.length = 256 ∧ p.1 < 16777216
  | [], bl, _, hn, hb => ⟨hn, hb⟩
  | p :: L, bl, hL, hn, hb => by
    have hp := hL p (by simp)
    obtain ⟨p1, p2, p3, p4⟩ := hp
    refine wrL_ok (L := L) (bl := bput bl p.blk (patch (bget bl p.blk) (pdata d p) p.from')) (fun q hq => hL q (by simp [hq])) (bput_keys hn) (bput_ok hb ?_ p4)
    have := bget_len (k := p.blk) fun q hq => (hb q hq).1
    rw [patch_len, this]
    unfold pdata; simp; omega
theorem wrL_snoc (d : List UInt8) (bl : Blks) (L : List Pc) (p : Pc) : wrL d bl (L ++ [p]) = bput (wrL d bl L) p.blk (patch (bget (wrL d bl L) p.blk) (pdata d p) p.from') := by unfold wrL; rw [List.foldl_append]; rfl
def wrH (off : Nat) (d : List UInt8) (h : Hd) : Hd := ⟨h.vol, wrL d h.bl (cutE off d.length)⟩

theorem mwrite {x mb : Nat} {M : MM} {W : List WRow} {id off : Nat} {d : List UInt8} {dv : Value} {short : Bool} (h : H (MO x mb M.next W l) σ) (hW : W.map (fun w => (w.1, w.2.2)) = M.by') (hM : M.Ok) (hd : ∀ τ, H l τ → Bts τ dv d) (hdl : d.length < 4294967296)
    (hno : chgE M id off d.length true short ≠ 0 → ∀ σ', H (MO x mb M.next W l) σ' → Q (.ret (.int .i64 (chgE M id off d.length true short))) σ')
    (hyes : chgE M id off d.length true short = 0 → ∀ W' σ', W'.map (fun w => (w.1, w.2.2)) = (M.upd id (wrH off d)).by' → H (MO x mb M.next W' l) σ' → Q (.ret (.int .i64 0)) σ') :
    E f_model_Model_Write [.pointer (some ⟨x, 0, none⟩), .int .u64 id, .int .u64 off, dv, .bool short] σ Q := by
  apply e_model_Model_Write; unfold s_model_Model_Write
  have hl0 : H l σ := by unfold MO at h; exact h.tail.tail.tail
  obtain ⟨da, dc, hdv⟩ := bts_form (hd σ hl0)
  have hlen : lenS dv = some (.int .i64 d.length) := by rw [hdv]; rfl
  rw [hlen, ldI_some]
  refine bu64 ((d.length : Nat) : Int) (by omega) ?_
  refine masked h hW hM ?_ ?_ ?_
  · intro hx σ1 h1
    rw [c2_ret, tI_int]
    have e : chgE M id off d.length true short = 6 := by unfold chgE; rw [at_none hW hx]
    rw [e] at hno
    refine If_dec (fun g => absurd g (by decide)) fun _ => ?_
    unfold s_model_Model_Write_k4
    refine If_ne (fun _ => ?_) fun g => absurd g (by decide)
    exact hno (by decide) σ1 h1
  · rintro w σ1 hw rfl hask h1
    rw [c2_ret, tI_int]
    rw [chg_bad (at_some hW hM.nd hw) hask] at hno
    refine If_dec (fun g => absurd g (by omega)) fun _ => ?_
    unfold s_model_Model_Write_k4
    refine If_ne (fun _ => ?_) fun g => absurd g (by omega)
    exact hno hask σ1 h1
  · rintro k w σ1 hk rfl hask h1
    have hw := List.mem_of_getElem? hk
    have hmem := ok_mem hW hw
    rw [chg_ok (at_some hW hM.nd hw) hask] at hno hyes
    rw [c2_ret, tI_int]
    refine If_dec (fun _ => ?_) fun g => absurd rfl g
    refine mfull ?_
    rw [cI_ret]
    unfold s_model_Model_Write_k4
    cases short with
    | true =>
      refine If_ne (fun _ => ?_) fun g => absurd g (by decide)
      exact hno (by decide) σ1 h1
    | false =>
    refine If_ne (fun g => absurd rfl g) fun _ => ?_
    rw [hlen, ldI_some]
    refine bu64 ((d.length : Nat) : Int) (by omega) ?_
    refine pcut h1 ?_
    intro pv σ2 h2
    rw [cV_ret]
    have hy := hyes rfl
    have hin := cutE_in off d.length
    have hLn := cutE_len off d.length
    have hb := hM.bl _ hmem
    have hup : ∀ f, _ := upd_W hW hM.nd hk
    have hup := hup (wrH off d)
    unfold wrH at hup hy
    clear hno hyes hask
    generalize cutE off d.length = L at h2 hy hin hup hLn
    obtain ⟨pa, pc, hpv⟩ := pcs_form h2
    rw [hpv, lenS_slice, ldI_some, ← hpv]
    have h2' : H (MO x mb M.next W (PcsA pv L :: l)) σ2 := by
      unfold MO at h2 ⊢
      exact h2.re
    obtain ⟨bm, h3⟩ := mo_out' h2' hk
    have h4 := H_star.1 (h3.pick [5, 0, 1, 2, 3, 4] (by decide) : H (Star (PcsA pv L :: l) :: [pt w.2.1 (.cells (hcs w.2.2.vol bm) t_model_held false), UMap .u64 bm (bkv w.2.2.bl), Star ((W.map hdW).set k emp), pt x (.cells [.int .u64 M.next, .map (some mb)] t_model_Model false), UMap .u64 mb (W.map kvW)]) σ2)
    have h5 : H (PcsA pv L :: Star l :: [pt w.2.1 (.cells (hcs w.2.2.vol bm) t_model_held false), UMap .u64 bm (bkv w.2.2.bl), Star ((W.map hdW).set k emp), pt x (.cells [.int .u64 M.next, .map (some mb)] t_model_Model false), UMap .u64 mb (W.map kvW)]) σ2 := by
      have h6 : H (l ++ PcsA pv L :: [pt w.2.1 (.cells (hcs w.2.2.vol bm) t_model_held false), UMap .u64 bm (bkv w.2.2.bl), Star ((W.map hdW).set k emp), pt x (.cells [.int .u64 M.next, .map (some mb)] t_model_Model false), UMap .u64 mb (W.map kvW)]) σ2 := h4.perm List.perm_middle.symm
      exact (H_star.2 h6).re
    refine ⟨fun m i τ => ∃ j : Nat, m = L.length - j ∧ i = (j : Int) ∧ j ≤ L.length ∧ H [PcsA pv L, pt w.2.1 (.cells (hcs w.2.2.vol bm) t_model_held false), UMap .u64 bm (bkv (wrL d w.2.2.bl (L.take j))), Star ((W.map hdW).set k emp), pt x (.cells [.int .u64 M.next, .map (some mb)] t_model_Model false), UMap .u64 mb (W.map kvW), Star l] τ,
      ⟨_, 0, rfl, rfl, by omega, by rw [List.take_zero]; show H [PcsA pv L, _, UMap .u64 bm (bkv w.2.2.bl), _, _, _, _] _; exact h5.re⟩, ?_⟩
    rintro m _ τ ⟨j, rfl, rfl, hj, h7⟩
    unfold s_model_Model_Write_b1
    refine If_dec (fun g => ?_) fun g => ?_
    · have hj' : j < L.length := by omega
      obtain ⟨p, hp⟩ : ∃ p, L[j]? = some p := ⟨_, List.getElem?_eq_getElem hj'⟩
      obtain ⟨pb, e1, e2⟩ := pcs_get h7 hp
      obtain ⟨q1, q2, q3, q4⟩ := hin p (List.mem_of_getElem? hp)
      have f0 := e2 0 (by omega)
      have f1 := e2 1 (by omega)
      have f2 := e2 2 (by omega)
      have f3 := e2 3 (by omega)
      simp only [Pc.cells, List.getElem?_cons_zero, List.getElem?_cons_succ] at f0 f1 f2 f3
      rw [e1]
      simp only [om_some, fieldAddr_ptr]
      rw [f0, ldI_some, f1, ldI_some, f2, ldI_some, f3, ldI_some]
      refine nw h7 ?_
      intro b1 τ1 h8
      refine storeN (vs := p.cells) h8 0 rfl rfl (by omega) rfl (by simp) ?_
      intro τ2 h9
      generalize hBe : wrL d w.2.2.bl (L.take j) = B at h9
      have hBok := wrL_ok (L := L.take j) (fun q hq => hin q (List.mem_of_mem_take hq)) hb.1 hb.2
      rw [hBe] at hBok
      have h9 : H (pt b1 (.cells [.int .u64 p.blk, .int .i64 p.from', .int .i64 p.to, .int .i64 p.at'] t_api_Piece false) :: [PcsA pv L, pt w.2.1 (.cells (hcs w.2.2.vol bm) t_model_held false), UMap .u64 bm (bkv B), Star ((W.map hdW).set k emp), pt x (.cells [.int .u64 M.next, .map (some mb)] t_model_Model false), UMap .u64 mb (W.map kvW), Star l]) τ2 := h9
      simp only [nil_ptr, om_some, fieldAddr_ptr, Nat.zero_add]
      rw [AV h9, LI h9]
      rw [blk_lookup (h9.re : H (UMap .u64 bm (bkv B) :: []) τ2), om_some]
      refine nw h9 ?_
      intro b2 τ3 h10
      rw [AV h10]
      refine ⟨by simp [veq1, veq, veq0], ?_⟩
      rw [LI h10]
      refine ⟨by simp [veq1, veq, veq0], ?_⟩
      rw [blk_lookup (h10.re : H (UMap .u64 bm (bkv B) :: []) τ3), om_some]
      refine ⟨by simp only [blkV, veq1]; exact veqs_bytes _, ?_⟩
      have hbg := bget_len (k := p.blk) fun q hq => (hBok.2 q hq).1
      refine storeN (vs := bv (bget B p.blk)) h10 0 rfl (by simpa using hbg) (by omega) (bv_one _) (by simp) ?_
      intro τ4 h11
      have hsp : splice (List.replicate 256 (Value.int .u8 0)) 0 (bv (bget B p.blk)) = bv (bget B p.blk) := by
        unfold splice
        rw [List.take_zero, List.nil_append, Nat.zero_add, List.drop_of_length_le (by simp [hbg]), List.append_nil]
      rw [hsp] at h11
      have h12 : H (pt b2 (.cells (bv (bget B p.blk)) t_model_block false) :: pt b1 (.cells [.int .u64 p.blk, .int .i64 p.from', .int .i64 p.to, .int .i64 p.at'] t_api_Piece false) :: [PcsA pv L, pt w.2.1 (.cells (hcs w.2.2.vol bm) t_model_held false), UMap .u64 bm (bkv B), Star ((W.map hdW).set k emp), pt x (.cells [.int .u64 M.next, .map (some mb)] t_model_Model false), UMap .u64 mb (W.map kvW), Star l]) τ4 := h11
      rw [LI h12, LI h12]
      have hsl : ∃ c', aSliceArr 256 1 (.pointer (some ⟨b2, 0, none⟩)) (some (.int .i64 p.from')) (some (.int .i64 p.to)) none = some (.slice (some ⟨b2, p.from', none⟩) (p.to - p.from') c') := by
        have b1' : bnd (.int .i64 (p.to : Nat)) 256 = some p.to := by unfold bnd; simp; omega
        have b2' : bnd (.int .i64 (p.from' : Nat)) p.to = some p.from' := by unfold bnd; simp; omega
        unfold aSliceArr
        have hb : Nat.blt 256 OPEN = true := by decide
        simp only [hb, bndO, b1', b2', Option.bind_some]
        rw [if_neg (by omega)]
        refine ⟨256 - p.from', ?_⟩
        simp [Addr.add]
        omega
      obtain ⟨c', hs1⟩ := hsl
      rw [hs1, om_some, LI h12]
      have hBd := hd τ4 (H_one.1 (h12.re : H [Star l] τ4))
      obtain ⟨sb, so, sc, srow, s1, s2, s3, s4⟩ := bts_from (k := .i64) hBd (a := p.at') (by omega)
      rw [s1, om_some]
      have hpl : (pdata d p).length = p.to - p.from' := by unfold pdata; simp; omega
      have hsrc : srcOf 1 (.slice (some ⟨sb, so, none⟩) (Nat.min (d.length - p.at') (p.to - p.from')) sc) τ4 = some (p.to - p.from', bv (pdata d p)) := by
        have hm : Nat.min (d.length - p.at') (p.to - p.from') = p.to - p.from' := Nat.min_eq_right (by omega)
        rw [hm, src_row s2 (by omega), Nat.mul_one]
        have : (srow.drop so).take (p.to - p.from') = ((srow.drop so).take (d.length - p.at')).take (p.to - p.from') := by rw [List.take_take, Nat.min_eq_left (by omega)]
        rw [this, s3, bv_take]; rfl
      refine copy_ok h12 0 rfl hsrc (bv_one _) (by simp [hpl, hbg]; omega) ?_
      intro τ5 h13
      rw [splice_bv] at h13
      have h13 : H (pt b2 (.cells (bv (patch (bget B p.blk) (pdata d p) p.from')) t_model_block false) :: pt b1 (.cells [.int .u64 p.blk, .int .i64 p.from', .int .i64 p.to, .int .i64 p.at'] t_api_Piece false) :: [PcsA pv L, pt w.2.1 (.cells (hcs w.2.2.vol bm) t_model_held false), UMap .u64 bm (bkv B), Star ((W.map hdW).set k emp), pt x (.cells [.int .u64 M.next, .map (some mb)] t_model_Model false), UMap .u64 mb (W.map kvW), Star l]) τ5 := h13
      have hpt : (patch (bget B p.blk) (pdata d p) p.from').length = 256 := by rw [patch_len (by omega), hbg]
      simp only
      rw [LI h13, loadN (h13.row 0 rfl) (by simp [hpt]), om_some, List.drop_zero, List.take_of_length_le (by simp [hpt])]
      refine hput' (vol := w.2.2.vol) (k := p.blk) (x := patch (bget B p.blk) (pdata d p) p.from') (h13.re : H (pt w.2.1 (.cells (hcs w.2.2.vol bm) t_model_held false) :: UMap .u64 bm (bkv B) :: [PcsA pv L, Star ((W.map hdW).set k emp), pt x (.cells [.int .u64 M.next, .map (some mb)] t_model_Model false), UMap .u64 mb (W.map kvW), Star l]) τ5) hpt ?_
      intro τ6 h14
      rw [c0_ret]
      refine b64 ((j + 1 : Nat) : Int) (by omega) ?_
      have htk : L.take (j + 1) = L.take j ++ [p] := by rw [List.take_add_one, hp]; rfl
      refine ⟨_, by omega, j + 1, rfl, rfl, by omega, ?_⟩
      rw [htk, wrL_snoc, hBe]
      exact h14.re
    · have : j = L.length := by omega
      subst this
      rw [List.take_length] at h7
      exact hy _ τ hup (mo_turn (bm := bm) hk h7.re)
end Go.Ax.C
set_option maxRecDepth 100000
namespace Go.Ax.C
open Go.Proofs Go.RowKit

variable {l r m : List Assn} {σ : AHeap} {Q : RK}

theorem ma_in {x mb : Nat} {M : MM} {W : List WRow} (hW : W.map (fun w => (w.1, w.2.2)) = M.by') (h : H (MO x mb M.next W l) σ) : H (ModelA x M :: l) σ := model_in hW h
def MM.createR (M : MM) (s : ByteArray) (n : Nat) (short : Bool) : MM := if volE M s n short = 0 then M.add ⟨⟨0, s, n, 0, false, 0⟩, []⟩ else M
def MM.snapR (M : MM) (s as' : ByteArray) (fixed short : Bool) : MM := if snapE M s as' short = 0 then (match M.named s with | some h0 => M.add (snapH h0 as' fixed) | none => M) else M
def MM.delR (M : MM) (s : ByteArray) (short : Bool) : MM := if delE M s short = 0 then (match M.named s with | some h0 => M.del h0.vol.id | none => M) else M
def MM.rszR (M : MM) (s : ByteArray) (n : Nat) (short : Bool) : MM := if rszE M s n short = 0 then (match M.named s with | some h0 => M.upd h0.vol.id (rszH n) | none => M) else M
def MM.wrR (M : MM) (id off : Nat) (d : List UInt8) (short : Bool) : MM := if chgE M id off d.length true short = 0 then M.upd id (wrH off d) else M
def MM.trimR (M : MM) (id off n : Nat) (short : Bool) : MM := if chgE M id off n false short = 0 then M.upd id (trimH off n) else M
def MM.zeroR (M : MM) (id off n : Nat) (short : Bool) : MM := if chgE M id off n false short = 0 then M.upd id (zeroH off n) else M
def idR (e next : Nat) : Nat := if e = 0 then next else 0

theorem mcreateA {x : Nat} {M : MM} {s : ByteArray} {n : Nat} {short : Bool} (h : H (ModelA x M :: l) σ) (hM : M.Ok)
    (hQ : ∀ σ', H (ModelA x (M.createR s n short) :: l) σ' → Q (.ret (.tuple #[.int .u64 (idR (volE M s n short) M.next : Nat), .int .i64 (volE M s n short : Nat)])) σ') :
    E f_model_Model_Create [.pointer (some ⟨x, 0, none⟩), .string s, .int .u64 n, .bool short] σ Q := by
  obtain ⟨mb, W, hW, h⟩ := model_out h
  unfold MM.createR idR at hQ
  refine mcreate h hW hM (fun g σ' h' => ?_) fun g W' σ' hW' h' => ?_
  · rw [if_neg g, if_neg g] at hQ; exact hQ σ' (ma_in hW h')
  · rw [if_pos g, if_pos g, g] at hQ
    exact hQ σ' (ma_in (M := M.add _) hW' h')
theorem msnapshotA {x : Nat} {M : MM} {s as' : ByteArray} {fixed short : Bool} (h : H (ModelA x M :: l) σ) (hM : M.Ok)
    (hQ : ∀ σ', H (ModelA x (M.snapR s as' fixed short) :: l) σ' → Q (.ret (.tuple #[.int .u64 (idR (snapE M s as' short) M.next : Nat), .int .i64 (snapE M s as' short : Nat)])) σ') :
    E f_model_Model_Snapshot [.pointer (some ⟨x, 0, none⟩), .string s, .string as', .bool fixed, .bool short] σ Q := by
  obtain ⟨mb, W, hW, h⟩ := model_out h
  unfold MM.snapR idR at hQ
  refine msnapshot h hW hM (fun g σ' h' => ?_) fun g h0 W' σ' hn hW' h' => ?_
  · rw [if_neg g, if_neg g] at hQ; exact hQ σ' (ma_in hW h')
  · rw [if_pos g, if_pos g, g, hn] at hQ
    exact hQ σ' (ma_in (M := M.add _) hW' h')
theorem mdeleteA {x : Nat} {M : MM} {s : ByteArray} {short : Bool} (h : H (ModelA x M :: l) σ) (hM : M.Ok)
    (hQ : ∀ σ', H (ModelA x (M.delR s short) :: l) σ' → Q (.ret (.int .i64 (delE M s short : Nat))) σ') :
    E f_model_Model_Delete [.pointer (some ⟨x, 0, none⟩), .string s, .bool short] σ Q := by
  obtain ⟨mb, W, hW, h⟩ := model_out h
  unfold MM.delR at hQ
  refine mdelete h hW hM (fun g σ' h' => ?_) fun g h0 W' σ' hn hW' h' => ?_
  · rw [if_neg g] at hQ; exact hQ σ' (ma_in hW h')
  · rw [if_pos g, g, hn] at hQ
    exact hQ σ' (ma_in (M := M.del _) hW' h')
theorem mresizeA {x : Nat} {M : MM} {s : ByteArray} {n : Nat} {short : Bool} (h : H (ModelA x M :: l) σ) (hM : M.Ok)
    (hQ : ∀ σ', H (ModelA x (M.rszR s n short) :: l) σ' → Q (.ret (.int .i64 (rszE M s n short : Nat))) σ') :
    E f_model_Model_Resize [.pointer (some ⟨x, 0, none⟩), .string s, .int .u64 n, .bool short] σ Q := by
  obtain ⟨mb, W, hW, h⟩ := model_out h
  unfold MM.rszR at hQ
  refine mresize h hW hM (fun g σ' h' => ?_) fun g h0 W' σ' hn hW' h' => ?_
  · rw [if_neg g] at hQ; exact hQ σ' (ma_in hW h')
  · rw [if_pos g, g, hn] at hQ
    exact hQ σ' (ma_in (M := M.upd _ _) hW' h')
theorem mtrimA {x : Nat} {M : MM} {id off n : Nat} {short : Bool} (h : H (ModelA x M :: l) σ) (hM : M.Ok)
    (hQ : ∀ σ', H (ModelA x (M.trimR id off n short) :: l) σ' → Q (.ret (.int .i64 (chgE M id off n false short : Nat))) σ') :
    E f_model_Model_Trim [.pointer (some ⟨x, 0, none⟩), .int .u64 id, .int .u64 off, .int .u64 n, .bool short] σ Q := by
  obtain ⟨mb, W, hW, h⟩ := model_out h
  unfold MM.trimR at hQ
  refine mtrim h hW hM (fun g σ' h' => ?_) fun g W' σ' hW' h' => ?_
  · rw [if_neg g] at hQ; exact hQ σ' (ma_in hW h')
  · rw [if_pos g, g] at hQ
    exact hQ σ' (ma_in (M := M.upd _ _) hW' h')
theorem mzeroA {x : Nat} {M : MM} {id off n : Nat} {short : Bool} (h : H (ModelA x M :: l) σ) (hM : M.Ok)
    (hQ : ∀ σ', H (ModelA x (M.zeroR id off n short) :: l) σ' → Q (.ret (.int .i64 (chgE M id off n false short : Nat))) σ') :
    E f_model_Model_Zero [.pointer (some ⟨x, 0, none⟩), .int .u64 id, .int .u64 off, .int .u64 n, .bool short] σ Q := by
  obtain ⟨mb, W, hW, h⟩ := model_out h
  unfold MM.zeroR at hQ
  refine mzero h hW hM (fun g σ' h' => ?_) fun g W' σ' hW' h' => ?_
  · rw [if_neg g] at hQ; exact hQ σ' (ma_in hW h')
  · rw [if_pos g, g] at hQ
    exact hQ σ' (ma_in (M := M.upd _ _) hW' h')
theorem mwriteA {x : Nat} {M : MM} {id off : Nat} {d : List UInt8} {dv : Value} {short : Bool} (h : H (ModelA x M :: l) σ) (hM : M.Ok) (hd : ∀ τ, H l τ → Bts τ dv d) (hdl : d.length < 4294967296)
    (hQ : ∀ σ', H (ModelA x (M.wrR id off d short) :: l) σ' → Q (.ret (.int .i64 (chgE M id off d.length true short : Nat))) σ') :
    E f_model_Model_Write [.pointer (some ⟨x, 0, none⟩), .int .u64 id, .int .u64 off, dv, .bool short] σ Q := by
  obtain ⟨mb, W, hW, h⟩ := model_out h
  unfold MM.wrR at hQ
  refine mwrite h hW hM hd hdl (fun g σ' h' => ?_) fun g W' σ' hW' h' => ?_
  · rw [if_neg g] at hQ; exact hQ σ' (ma_in hW h')
  · rw [if_pos g, g] at hQ
    exact hQ σ' (ma_in (M := M.upd _ _) hW' h')
def readE (M : MM) (id off n : Nat) : Nat := match M.at' id with | none => 6 | some h => askE h off n false true
def readR (M : MM) (id off n : Nat) : List UInt8 := match M.at' id with | none => [] | some h => if askE h off n false true = 0 then readL h.bl (cutE off n) else []
theorem mreadA {x : Nat} {M : MM} {id off n : Nat} (h : H (ModelA x M :: l) σ) (hM : M.Ok)
    (hQ : ∀ v σ', H (Own t_uint8 1 v (readR M id off n).length (bv (readR M id off n)) :: ModelA x M :: l) σ' → Q (.ret (.tuple #[v, .int .i64 (readE M id off n : Nat)])) σ') :
    E f_model_Model_Read [.pointer (some ⟨x, 0, none⟩), .int .u64 id, .int .u64 off, .int .u64 n] σ Q := by
  obtain ⟨mb, W, hW, h⟩ := model_out h
  unfold readR readE at hQ
  refine mread h hW hM (fun g σ' h' => ?_) (fun h0 σ' ha g h' => ?_) fun h0 v σ' ha g h' => ?_
  · rw [g] at hQ; exact hQ _ σ' ((ma_in hW h').own_nil t_uint8 1).unsnoc
  · simp only [ha] at hQ
    rw [if_neg g] at hQ
    exact hQ _ σ' ((ma_in hW h').own_nil t_uint8 1).unsnoc
  · simp only [ha] at hQ
    rw [if_pos g] at hQ
    have h2 : H (MO x mb M.next W (Own t_uint8 1 v (readL h0.bl (cutE off n)).length (bv (readL h0.bl (cutE off n))) :: l)) σ' := by
      unfold MO at h' ⊢
      exact h'.re
    rw [g] at hQ
    exact hQ v σ' ((ma_in hW h2).perm (.swap _ _ _))
def byidV (M : MM) (id : Nat) : Vol := match M.at' id with | none => .none | some h => h.vol
def byidE (M : MM) (id : Nat) : Nat := match M.at' id with | none => 6 | some _ => 0
theorem mbyidA {x : Nat} {M : MM} {id : Nat} (h : H (ModelA x M :: l) σ) (hM : M.Ok)
    (hQ : ∀ σ', H (ModelA x M :: l) σ' → Q (.ret (.tuple #[volV (byidV M id), .int .i64 (byidE M id : Nat)])) σ') : E f_model_Model_ById [.pointer (some ⟨x, 0, none⟩), .int .u64 id] σ Q := by
  obtain ⟨mb, W, hW, h⟩ := model_out h
  unfold byidV byidE at hQ
  refine mbyid h hW hM (fun g σ' h' => ?_) fun k w σ' hk hid h' => ?_
  · rw [at_none hW g] at hQ; exact hQ σ' (ma_in hW h')
  · subst hid
    rw [at_some hW hM.nd (List.mem_of_getElem? hk)] at hQ; exact hQ σ' (ma_in hW h')
def getV (M : MM) (s : ByteArray) : Vol := match M.named s with | none => .none | some h => h.vol
def getE (M : MM) (s : ByteArray) : Nat := match M.named s with | none => 6 | some _ => 0
theorem mgetA {x : Nat} {M : MM} {s : ByteArray} (h : H (ModelA x M :: l) σ) (hM : M.Ok)
    (hQ : ∀ σ', H (ModelA x M :: l) σ' → Q (.ret (.tuple #[volV (getV M s), .int .i64 (getE M s : Nat)])) σ') : E f_model_Model_Get [.pointer (some ⟨x, 0, none⟩), .string s] σ Q := by
  obtain ⟨mb, W, hW, h⟩ := model_out h
  unfold getV getE at hQ
  refine mgetv h hW hM (fun g σ' h' => ?_) fun h0 σ' hk h' => ?_
  · rw [g] at hQ; exact hQ σ' (ma_in hW h')
  · rw [hk] at hQ; exact hQ σ' (ma_in hW h')

/-! ### What may be of a model stays so -/
theorem named_mem {M : MM} {s : ByteArray} {h : Hd} (e : M.named s = some h) : ∃ id, (id, h) ∈ M.by' ∧ h.vol.name = s := by
  unfold MM.named at e
  cases hf : M.by'.find? fun w => decide (w.2.vol.name = s) with
  | none => rw [hf] at e; simp at e
  | some p =>
    rw [hf] at e
    simp at e
    have h1 := List.mem_of_find?_eq_some hf
    have h2 := List.find?_some hf
    subst e
    exact ⟨p.1, h1, by simpa using h2⟩
theorem at_mem {M : MM} {id : Nat} {h : Hd} (e : M.at' id = some h) : (id, h) ∈ M.by' := by
  unfold MM.at' at e
  cases hf : M.by'.find? fun w => w.1 == id with
  | none => rw [hf] at e; simp at e
  | some p =>
    rw [hf] at e
    simp at e
    have h1 := List.mem_of_find?_eq_some hf
    have h2 := List.find?_some hf
    subst e
    simp at h2
    subst h2
    exact h1
theorem named_no {M : MM} {s : ByteArray} (e : M.named s = none) : ∀ w ∈ M.by', w.2.vol.name ≠ s := by
  intro w hw h2
  unfold MM.named at e
  cases hf : M.by'.find? fun w => decide (w.2.vol.name = s) with
  | none => exact (List.find?_eq_none.1 hf) w hw (by simpa using h2)
  | some p => rw [hf] at e; simp at e
theorem room_ok {M : MM} {s : ByteArray} {short : Bool} (h : roomE M s short = 0) : M.named s = none ∧ M.by'.length < 16 := by
  unfold roomE at h
  split at h
  · omega
  · split at h
    · omega
    · split at h
      · omega
      · rename_i h1 h2
        simp at h1 h2
        exact ⟨h1, by omega⟩
theorem MM.Ok.new : (⟨1, []⟩ : MM).Ok := ⟨by decide, by decide, by simp, by simp, by simp, by simp, by simp, by simp⟩
theorem MM.Ok.add {M : MM} (hM : M.Ok) {h : Hd} (hn : M.next + 1 < 9223372036854775808) (h1 : M.named h.vol.name = none) (h2 : M.by'.length < 16) (h3 : 1 ≤ h.vol.size ∧ h.vol.size ≤ 4294967296) (h4 : (h.bl.map (·.1)).Nodup ∧ ∀ p ∈ h.bl, p.2.length = 256 ∧ p.1 < 16777216) : (M.add h).Ok := by
  have hlo := hM.lo
  refine ⟨by show 1 ≤ M.next + 1; omega, hn, ?_, ?_, ?_, ?_, ?_, ?_⟩
  · intro w hw
    rcases List.mem_append.1 hw with hw | hw
    · have := hM.id w hw
      exact ⟨this.1, by show w.1 < M.next + 1; omega, this.2.2⟩
    · simp at hw; subst hw
      exact ⟨rfl, by show M.next < M.next + 1; omega, hM.lo⟩
  · show ((M.by' ++ [_]).map _).Nodup
    rw [List.map_append, List.nodup_append]
    refine ⟨hM.nd, by simp, fun a ha b hb => ?_⟩
    simp at hb; subst hb
    obtain ⟨w, hw, rfl⟩ := List.mem_map.1 ha
    have := (hM.id w hw).2.1
    omega
  · show ((M.by' ++ [_]).map _).Nodup
    rw [List.map_append, List.nodup_append]
    refine ⟨hM.nm, by simp, fun a ha b hb => ?_⟩
    simp at hb; subst hb
    obtain ⟨w, hw, rfl⟩ := List.mem_map.1 ha
    exact named_no h1 w hw
  · show (M.by' ++ [_]).length ≤ 16
    simp; omega
  · intro w hw
    rcases List.mem_append.1 hw with hw | hw
    · exact hM.sz w hw
    · simp at hw; subst hw; exact h3
  · intro w hw
    rcases List.mem_append.1 hw with hw | hw
    · exact hM.bl w hw
    · simp at hw; subst hw; exact h4
theorem MM.Ok.del {M : MM} (hM : M.Ok) (id : Nat) : (M.del id).Ok := by
  refine ⟨hM.lo, hM.hi, fun w hw => hM.id w (List.mem_filter.1 hw).1, hM.nd.sublist (List.filter_sublist.map _), hM.nm.sublist (List.filter_sublist.map _), Nat.le_trans (List.length_filter_le _ _) hM.len, fun w hw => hM.sz w (List.mem_filter.1 hw).1, fun w hw => hM.bl w (List.mem_filter.1 hw).1⟩
theorem MM.Ok.upd {M : MM} (hM : M.Ok) (id : Nat) {f : Hd → Hd} (h1 : ∀ h, (f h).vol.id = h.vol.id ∧ (f h).vol.name = h.vol.name) (h2 : ∀ h, (id, h) ∈ M.by' → 1 ≤ (f h).vol.size ∧ (f h).vol.size ≤ 4294967296)
    (h3 : ∀ h, (id, h) ∈ M.by' → ((f h).bl.map (·.1)).Nodup ∧ ∀ p ∈ (f h).bl, p.2.length = 256 ∧ p.1 < 16777216) : (M.upd id f).Ok := by
  have key : ∀ {w}, w ∈ (M.upd id f).by' → ∃ u ∈ M.by', w = if u.1 = id then (u.1, f u.2) else u := by
    intro w hw
    obtain ⟨u, hu, rfl⟩ := List.mem_map.1 hw
    exact ⟨u, hu, rfl⟩
  refine ⟨hM.lo, hM.hi, ?_, ?_, ?_, ?_, ?_, ?_⟩
  · intro w hw
    obtain ⟨u, hu, rfl⟩ := key hw
    have := hM.id u hu
    split
    · exact ⟨by rw [(h1 u.2).1]; exact this.1, this.2⟩
    · exact this
  · have : (M.upd id f).by'.map (·.1) = M.by'.map (·.1) := by
      unfold MM.upd; simp only; rw [List.map_map]
      apply List.map_congr_left
      intro u _
      simp only [Function.comp]; split <;> rfl
    rw [this]; exact hM.nd
  · have : (M.upd id f).by'.map (fun w => w.2.vol.name) = M.by'.map (fun w => w.2.vol.name) := by
      unfold MM.upd; simp only; rw [List.map_map]
      apply List.map_congr_left
      intro u _
      simp only [Function.comp]; split
      · exact (h1 u.2).2
      · rfl
    rw [this]; exact hM.nm
  · show (M.by'.map _).length ≤ 16
    rw [List.length_map]; exact hM.len
  · intro w hw
    obtain ⟨u, hu, rfl⟩ := key hw
    split
    · rename_i e; exact h2 u.2 (by rw [← e]; exact hu)
    · exact hM.sz u hu
  · intro w hw
    obtain ⟨u, hu, rfl⟩ := key hw
    split
    · rename_i e; exact h3 u.2 (by rw [← e]; exact hu)
    · exact hM.bl u hu
theorem bclr_ok {bl : Blks} (from' to : Nat) (h : (bl.map (·.1)).Nodup ∧ ∀ p ∈ bl, p.2.length = 256 ∧ p.1 < 16777216) : ((bclr bl from' to).map (·.1)).Nodup ∧ ∀ p ∈ bclr bl from' to, p.2.length = 256 ∧ p.1 < 16777216 := by
  constructor
  · have : ∀ bl : Blks, ((bclr bl from' to).map (·.1)).Sublist (bl.map (·.1)) := by
      intro bl
      induction bl with
      | nil => exact List.Sublist.slnil
      | cons p bl ih =>
        unfold bclr clr at ih ⊢
        rw [List.filterMap_cons]
        split
        · exact ih.cons _
        · rename_i y hy
          simp at hy
          have : y.1 = p.1 := by rw [← hy.2]
          rw [List.map_cons, List.map_cons, this]
          exact ih.cons_cons _
    exact h.1.sublist (this bl)
  · intro p hp
    obtain ⟨q, hq, e⟩ := List.mem_filterMap.1 hp
    simp at e
    have := h.2 q hq
    rw [← e.2]
    exact ⟨by simp [zr, zrp_len]; exact this.1, this.2⟩
theorem MM.Ok.createR {M : MM} (hM : M.Ok) (s : ByteArray) (n : Nat) (short : Bool) (hn : M.next + 1 < 9223372036854775808) : (M.createR s n short).Ok := by
  unfold MM.createR
  split
  · rename_i h
    unfold volE at h
    split at h
    · omega
    · have := room_ok h
      rename_i g
      exact hM.add hn this.1 this.2 (by simp only; omega) ⟨by simp, by simp⟩
  · exact hM
theorem MM.Ok.snapR {M : MM} (hM : M.Ok) (s as' : ByteArray) (fixed short : Bool) (hn : M.next + 1 < 9223372036854775808) : (M.snapR s as' fixed short).Ok := by
  unfold MM.snapR
  split
  · rename_i h
    unfold snapE at h
    cases hn2 : M.named s with
    | none => exact hM
    | some h0 =>
      rw [hn2] at h
      have := room_ok h
      obtain ⟨id, hm, _⟩ := named_mem hn2
      exact hM.add hn this.1 this.2 (hM.sz _ hm) (hM.bl _ hm)
  · exact hM
theorem MM.Ok.delR {M : MM} (hM : M.Ok) (s : ByteArray) (short : Bool) : (M.delR s short).Ok := by
  unfold MM.delR
  split
  · split
    · exact hM.del _
    · exact hM
  · exact hM
theorem MM.Ok.rszR {M : MM} (hM : M.Ok) (s : ByteArray) (n : Nat) (short : Bool) : (M.rszR s n short).Ok := by
  unfold MM.rszR
  split
  · rename_i h
    unfold rszE at h
    split at h
    · omega
    · split
      · exact hM.upd _ (fun h => ⟨rfl, rfl⟩) (fun h hm => by simp only [rszH]; omega) fun h hm => bclr_ok _ _ (hM.bl _ hm)
      · exact hM
  · exact hM
theorem MM.Ok.wrR {M : MM} (hM : M.Ok) (id off : Nat) (d : List UInt8) (short : Bool) : (M.wrR id off d short).Ok := by
  unfold MM.wrR
  split
  · exact hM.upd _ (fun h => ⟨rfl, rfl⟩) (fun h hm => hM.sz _ hm) fun h hm => wrL_ok (cutE_in off d.length) (hM.bl _ hm).1 (hM.bl _ hm).2
  · exact hM
theorem MM.Ok.trimR {M : MM} (hM : M.Ok) (id off n : Nat) (short : Bool) : (M.trimR id off n short).Ok := by
  unfold MM.trimR
  split
  · exact hM.upd _ (fun h => ⟨rfl, rfl⟩) (fun h hm => hM.sz _ hm) fun h hm => bclr_ok _ _ (hM.bl _ hm)
  · exact hM
theorem MM.Ok.zeroR {M : MM} (hM : M.Ok) (id off n : Nat) (short : Bool) : (M.zeroR id off n short).Ok := by
  unfold MM.zeroR
  split
  · exact hM.upd _ (fun h => ⟨rfl, rfl⟩) (fun h hm => hM.sz _ hm) fun h hm => bclr_ok _ _ (hM.bl _ hm)
  · exact hM
/-- The next number grows by one at most. -/
theorem next_le {M : MM} : (∀ s n short, (M.createR s n short).next ≤ M.next + 1) ∧ (∀ s a f b, (M.snapR s a f b).next ≤ M.next + 1) ∧ (∀ s b, (M.delR s b).next = M.next) ∧ (∀ s n b, (M.rszR s n b).next = M.next) ∧ (∀ i o d b, (M.wrR i o d b).next = M.next) ∧ (∀ i o n b, (M.trimR i o n b).next = M.next) ∧ ∀ i o n b, (M.zeroR i o n b).next = M.next := by
  refine ⟨?_, ?_, ?_, ?_, ?_, ?_, ?_⟩ <;> intros
  · unfold MM.createR; split <;> simp [MM.add]
  · unfold MM.snapR; split
    · split <;> simp [MM.add]
    · simp
  · unfold MM.delR; split
    · split <;> rfl
    · rfl
  · unfold MM.rszR; split
    · split <;> rfl
    · rfl
  · unfold MM.wrR; split <;> rfl
  · unfold MM.trimR; split <;> rfl
  · unfold MM.zeroR; split <;> rfl

/-! ### Acts -/
structure Act20 where
  what : Int
  name : ByteArray
  as' : ByteArray
  id : Nat
  off : Nat
  n : Nat
  x : UInt8
  flag : Bool
  short : Bool
def Act20.cells (a : Act20) (pv : Value) : List Value := [.int .i64 a.what, .string a.name, .string a.as', .int .u64 a.id, .int .u64 a.off, .int .u64 a.n, by8 a.x, .bool a.flag, .bool a.short, pv]
def dataL (n : Nat) (x : UInt8) : List UInt8 := (List.range (n % 5000)).map fun i => UInt8.ofNat (x.toNat + i % 7)
def dataP (j n : Nat) (x : UInt8) : List UInt8 := (List.range (n % 5000)).map fun i => if i < j then UInt8.ofNat (x.toNat + i % 7) else 0
theorem wu8_nat (m : Nat) : wu8 (m : Int) = ((UInt8.ofNat m).toNat : Int) := by
  simp [wu8, IntKind.wrap, IntKind.bits, IntKind.signed]
theorem dataP_0 (n : Nat) (x : UInt8) : dataP 0 n x = List.replicate (n % 5000) 0 := by
  unfold dataP
  apply List.ext_getElem?
  intro i
  rw [List.getElem?_map, List.getElem?_replicate]
  by_cases h : i < n % 5000
  · rw [List.getElem?_range h, if_pos h]; simp
  · rw [List.getElem?_eq_none (by simpa using h), if_neg h]; rfl
theorem dataP_all (n : Nat) (x : UInt8) : dataP (n % 5000) n x = dataL n x := by
  unfold dataP dataL
  apply List.map_congr_left
  intro i hi
  rw [if_pos (by simpa using hi)]
theorem dataP_step {j n : Nat} {x : UInt8} (h : j < n % 5000) : dataP (j + 1) n x = (dataP j n x).set j (UInt8.ofNat (x.toNat + j % 7)) := by
  unfold dataP
  apply List.ext_getElem?
  intro i
  rw [List.getElem?_set, List.getElem?_map, List.getElem?_map]
  by_cases e : j = i
  · subst e
    rw [if_pos rfl, List.getElem?_range h]
    simp [h]
  · rw [if_neg e]
    by_cases hi : i < n % 5000
    · rw [List.getElem?_range hi]
      simp only [Option.map_some]
      by_cases c : i < j
      · rw [if_pos c, if_pos (by omega)]
      · rw [if_neg c, if_neg (by omega)]
    · rw [List.getElem?_eq_none (by simpa using hi)]; rfl
theorem adata {a : Act20} {pv : Value} (h : H l σ) (hQ : ∀ v σ', H (Own t_uint8 1 v (dataL a.n a.x).length (bv (dataL a.n a.x)) :: l) σ' → Q (.ret v) σ') : E f_law20_Act_data [.agg (a.cells pv).toArray] σ Q := by
  apply e_law20_Act_data; unfold s_law20_Act_data
  refine nw h ?_
  intro b σ1 h1
  rw [LI h1]
  refine bi (m := ((a.n % 5000 : Nat) : Int)) (by rfl) ?_
  refine make_ok h1 (by omega) ?_
  intro b2 σ2 h2
  have h2 := h2.unsnoc
  rw [reps_one] at h2
  have e0 : List.replicate ((a.n % 5000 : Nat) : Int).toNat (Value.int .u8 0) = bv (dataP 0 a.n a.x) := by
    rw [dataP_0, Int.toNat_natCast]; unfold bv; rw [List.map_replicate]; rfl
  rw [e0] at h2
  have hnn : ((a.n % 5000 : Nat) : Int).toNat = a.n % 5000 := Int.toNat_natCast _
  rw [hnn]
  have hl : ∀ j, (dataP j a.n a.x).length = a.n % 5000 := by intro j; simp [dataP]
  refine ⟨fun m n τ => ∃ j : Nat, m = a.n % 5000 - j ∧ n = (j : Int) ∧ j ≤ a.n % 5000 ∧ H (pt b2 (.cells (bv (dataP j a.n a.x)) t_uint8 false) :: pt b (.cells [.int .i64 a.what, .string a.name, .string a.as', .int .u64 a.id, .int .u64 a.off, .int .u64 a.n, .int .u8 a.x.toNat, .bool a.flag, .bool a.short, pv] t_law20_Act false) :: l) τ, ⟨_, 0, rfl, rfl, by omega, h2⟩, ?_⟩
  rintro m _ τ ⟨j, rfl, rfl, hj, h3⟩
  unfold s_law20_Act_data_b1
  rw [lenS_slice, ldI_some]
  refine If_dec (fun g => ?_) fun g => ?_
  · rw [LI h3]
    refine bi (m := ((j % 7 : Nat) : Int)) (by rfl) ?_
    refine bu8 ((j % 7 : Nat) : Int) (by omega) ?_
    refine bi (m := ((UInt8.ofNat (a.x.toNat + j % 7)).toNat : Int)) (by rw [← wu8_nat]; simp) ?_
    rw [idxA (by omega), om_some]
    have e1 : (0 + ((j : Nat) : Int).toNat * 1) = j := by simp
    rw [e1]
    refine store1 h3 0 rfl rfl (by simp [hl]; omega) ?_
    intro τ2 h4
    refine b64 ((j + 1 : Nat) : Int) (by omega) ?_
    refine ⟨_, by omega, j + 1, rfl, rfl, by omega, ?_⟩
    rw [dataP_step (by omega), ← bv_set]
    exact h4
  · have : j = a.n % 5000 := by omega
    subst this
    rw [dataP_all] at h3
    have hll : (dataL a.n a.x).length = a.n % 5000 := by simp [dataL]
    have h5 := h3.to_own 0 (n := a.n % 5000) (z := 1) rfl (by simp [hll]) (by unfold OPEN; omega)
    simp only [List.set_cons_zero] at h5
    exact hQ (.slice (some ⟨b2, 0, none⟩) (a.n % 5000) (a.n % 5000)) τ (by rw [hll]; exact h5.re)
end Go.Ax.C
namespace Go.Ax
open Go.RowKit Go.Proofs

def flat0 : Value → Bool
  | .int _ _ | .bool _ | .string _ => true
  | _ => false
theorem VR.flat0_inv {ρ : List RB} {v v' : Value} (h : VR ρ v v') (hf : flat0 v = true) : v' = v := by
  cases v <;> simp [flat0] at hf
  · exact h.bool_inv
  · exact h.int_inv
  · exact h.string_inv
theorem VR.flat0 {ρ : List RB} {v : Value} (hf : flat0 v = true) : VR ρ v v := by
  cases v <;> simp [Go.Ax.flat0] at hf
  · exact .bool _
  · exact .int _ _
  · exact .string _
theorem VR.func0_inv {ρ : List RB} {fn : Fn} {v' : Value} (h : VR ρ (.func fn #[] #[]) v') : v' = .func fn #[] #[] := by
  cases h with
  | func fn f f' c c' h1 h2 h3 h4 =>
    have e1 : f' = #[] := Array.eq_empty_of_size_eq_zero (by simpa using h1.symm)
    have e2 : c' = #[] := Array.eq_empty_of_size_eq_zero (by simpa using h2.symm)
    rw [e1, e2]

/-- A function of the library's that lays a row anew in its place; the row holds n * k plain cells. -/
theorem rowTurn_ev {P : Program} {g c n : FuncId} {F : List Value} (hbody : ∃ fn, P.funcs[g]? = some fn ∧ (fn.name == "runtime.NumGoroutine") = false ∧ fn.body.isNone = false) {R : List Value → Prop}
    (hS : ∀ (blk off cap : Nat) (w : World), Sort.Holds id w blk off F.toArray → blk < w.heap.size →
      Calls P g #[.slice (some ⟨blk, off, none⟩) n cap, .func (.func c) #[] #[]] w fun e w' => e = .returned (.tuple #[]) ∧ ∃ F' m os, R F' ∧ w' = Sort.grow (Sort.putRow id (Sort.ahead w m) blk off F'.toArray) os)
    (hR : ∀ F', R F' → F'.length = F.length ∧ F'.all flat0 = true) (hF : F.all flat0 = true)
    {σ : AHeap} {b cap : Nat} {rest : List Value} {e : TypeId} {opn : Bool} {Q : RK} (hg : σ.get b = some (.cells (F ++ rest) e opn))
    (hQ : ∀ F', R F' → Q (.ret (.tuple #[])) (σ.set b (.cells (F' ++ rest) e opn))) : Ev P g [.slice (some ⟨b, 0, none⟩) n cap, .func (.func c) #[] #[]] σ Q := by
  intro B w0 ρ w args' hr ha
  obtain ⟨fn, f1, f2, f3⟩ := hbody
  refine ⟨fn, f1, f2, .inl ⟨f3, ?_⟩⟩
  obtain ⟨v', l2, rfl, hv, ha2⟩ := ha.cons_inv
  obtain ⟨u', l3, rfl, hu, hnil⟩ := ha2.cons_inv
  rw [hnil.nil_inv, hu.func0_inv]
  obtain ⟨a', c', rfl, _, _, hor⟩ := hv.slice_inv
  rcases hor with ⟨h, _⟩ | ⟨x, x', r, hx, rfl, hr2, rfl, _⟩ | ⟨x', h, _⟩ | ⟨o, x', h, _⟩
  · cases h
  · cases hx
    obtain ⟨r0, hr0, ⟨cc, fz, hh, hfz, hsz, hop, hle, hlr⟩, hB, hB2⟩ := hr.obj b _ hg
    rw [hr2] at hr0; cases hr0
    have hL : (F ++ rest).length = F.length + rest.length := by simp
    rw [hL] at hle hop
    have hcell : ∀ j z, F[j]? = some z → cc[r.s + j]? = some z := by
      intro j z hz
      have hj := (List.getElem?_eq_some_iff.1 hz).1
      have h1 : (F ++ rest)[j]? = some z := by rw [List.getElem?_append_left hj, hz]
      have h2 : ((cc.toList.drop r.s).take (F ++ rest).length)[j]? = cc[r.s + j]? := by
        rw [List.getElem?_take, if_pos (by rw [hL]; omega), List.getElem?_drop]; simp
      cases hc : cc[r.s + j]? with
      | none =>
        have := Array.getElem?_eq_none_iff.1 hc
        omega
      | some u =>
        have := hlr.2 j _ u h1 (by rw [h2, hc])
        rw [this.flat0_inv (List.all_eq_true.1 hF z (List.mem_of_getElem? hz))]
    have hblk : r.b < w.heap.size := (Array.getElem?_eq_some_iff.1 hh).1
    have hH : Sort.Holds id w r.b (r.s + 0) F.toArray := by
      intro j hj
      have hj : j < F.length := by simpa using hj
      have hc := hcell j F[j] (List.getElem?_eq_getElem hj)
      have hlt : r.s + j < cc.size := (Array.getElem?_eq_some_iff.1 hc).1
      refine ⟨?_, ?_⟩
      · simp only [World.cell?, hh, Nat.add_zero, hc]
        simp [hj]
      · have := hfz.at (r.s + j) hlt
        simp only [World.frozen?, hh, Nat.add_zero]
        simpa using this
    refine (hS r.b (r.s + 0) c' w hH hblk).mono fun e w' ⟨he, ss, m, os, hRs, hw⟩ => ?_
    subst he; subst hw
    obtain ⟨hsl, hsf⟩ := hR ss hRs
    refine ⟨.ret (.tuple #[]), ρ, _, hQ ss hRs, ⟨_, rfl, VR.tuple' (by simpa using LR.nil ρ)⟩, Ext.refl _, ?_⟩
    have hfin := Rel.grow os.toList (w := Sort.putRow id (Sort.ahead w m) r.b (r.s + 0) ss.toArray) (ρ := ρ) (B := B) (w0 := w0) (σ := σ.set b (.cells (ss ++ rest) e opn)) ?_
    · simpa using hfin
    refine (hr.ahead m).update hg rfl rfl hr2 ?_ ?_ rfl rfl rfl (by simp)
    · refine ⟨Sort.putCells id (r.s + 0) ss.toArray cc, fz, ?_, ?_, ?_, ?_, ?_, ?_⟩
      · simp only [Sort.putRow, Sort.mapBlock, Sort.heap_ahead, Array.getElem?_modify, if_true, hh, Option.map_some, Sort.onCells]
      · have : (Sort.putCells id (r.s + 0) ss.toArray cc).size = cc.size := by simp [Sort.putCells]
        rw [this]; exact hfz
      · simp [Sort.putCells, hsz]
      · intro ho
        have := hop ho
        simp only [List.length_append, hsl]
        exact this
      · simp only [List.length_append, hsl]; exact hle
      · refine ⟨by simp [Sort.putCells, hsl]; omega, fun i v v' h1 h2 => ?_⟩
        rw [List.getElem?_take] at h2
        split at h2
        · rename_i hi
          simp only [List.length_append, hsl] at hi
          rw [List.getElem?_drop] at h2
          simp only [Sort.putCells, Array.getElem?_toList, Array.getElem?_mapIdx, Nat.add_zero, List.size_toArray] at h2
          cases hc : cc[r.s + i]? with
          | none => rw [hc] at h2; cases h2
          | some u =>
            rw [hc] at h2
            simp only [Option.map_some, Option.some.injEq] at h2
            by_cases hlt : i < ss.length
            · rw [if_pos (by omega)] at h2
              rw [List.getElem?_append_left hlt, List.getElem?_eq_getElem hlt] at h1
              simp only [Option.some.injEq] at h1
              rw [← h1, ← h2]
              have : r.s + i - r.s = i := by omega
              rw [this]
              have e1 : id (ss.toArray[i]!) = ss[i] := by simp [hlt]
              rw [e1]
              exact VR.flat0 (List.all_eq_true.1 hsf _ (List.getElem_mem hlt))
            · rw [if_neg (by omega)] at h2
              subst h2
              rw [List.getElem?_append_right (by omega)] at h1
              refine hlr.2 i v u ?_ ?_
              · rw [List.getElem?_append_right (by omega), ← hsl]; exact h1
              · rw [List.getElem?_take, if_pos (by rw [hL]; omega), List.getElem?_drop]; simpa using hc
        · cases h2
    · intro k hk
      simp only [Sort.putRow, Sort.mapBlock, Sort.heap_ahead, Array.getElem?_modify, if_neg (Ne.symm hk)]
  · cases h
  · cases h
theorem rowNone_ev {P : Program} {g c : FuncId} (hbody : ∃ fn, P.funcs[g]? = some fn ∧ (fn.name == "runtime.NumGoroutine") = false ∧ fn.body.isNone = false)
    (hS : ∀ (p : Option Addr) (cap : Nat) (w : World), Calls P g #[.slice p 0 cap, .func (.func c) #[] #[]] w fun e w' => e = .returned (.tuple #[]) ∧ w' = w)
    {σ : AHeap} {a : Option Addr} {cap : Nat} {Q : RK} (hQ : Q (.ret (.tuple #[])) σ) : Ev P g [.slice a 0 cap, .func (.func c) #[] #[]] σ Q := by
  intro B w0 ρ w args' hr ha
  obtain ⟨fn, f1, f2, f3⟩ := hbody
  refine ⟨fn, f1, f2, .inl ⟨f3, ?_⟩⟩
  obtain ⟨v', l2, rfl, hv, ha2⟩ := ha.cons_inv
  obtain ⟨u', l3, rfl, hu, hnil⟩ := ha2.cons_inv
  rw [hnil.nil_inv, hu.func0_inv]
  obtain ⟨a', c', rfl, _⟩ := hv.slice_inv
  refine (hS a' c' w).mono fun e w' ⟨he, hw⟩ => ?_
  subst he; subst hw
  exact ⟨.ret (.tuple #[]), ρ, σ, hQ, ⟨_, rfl, VR.tuple' (by simpa using LR.nil ρ)⟩, Ext.refl _, hr⟩
end Go.Ax
set_option maxRecDepth 100000
namespace Go.Proofs
open Go.Shelf
def Try.sortVol_ren : Go.Shelf.Ren := ⟨fun | 6 => 82 | 15 => 105 | 14 => 106 | 28 => 126 | 29 => 127 | 20 => 128 | 21 => 129 | 22 => 130 | 23 => 131 | 24 => 132 | 25 => 133 | 26 => 134 | 27 => 135 | 46 => 143 | 47 => 138 | 48 => 139 | 49 => 144 | 50 => 145 | 57 => 147 | n => n, fun | 22 => 76 | 24 => 79 | 25 => 134 | 3 => 3 | 39 => 111 | 0 => 0 | 53 => 176 | 55 => 70 | 4 => 4 | 46 => 187 | 45 => 186 | 50 => 192 | 5 => 5 | 9 => 9 | 66 => 202 | 70 => 206 | 76 => 211 | 77 => 212 | n => n, fun | n => n⟩
theorem Try.sortVol : Go.Proofs.SlLaysF0.n6 Try.prog Try.sortVol_ren where
  mixed := by kernel_rfl
  f6 := ⟨"slices.SortFunc[[]cistern/api.Volume,cistern/api.Volume]", by decide, Try.func82.trans (congrArg some (by kernel_rfl))⟩
  f14 := ⟨"slices.pdqsortCmpFunc[cistern/api.Volume]", by decide, Try.func106.trans (congrArg some (by kernel_rfl))⟩
  f15 := Try.func105.trans (congrArg some (by kernel_rfl))
  f20 := ⟨"slices.insertionSortCmpFunc[cistern/api.Volume]", by decide, Try.func128.trans (congrArg some (by kernel_rfl))⟩
  f21 := ⟨"slices.heapSortCmpFunc[cistern/api.Volume]", by decide, Try.func129.trans (congrArg some (by kernel_rfl))⟩
  f22 := ⟨"slices.breakPatternsCmpFunc[cistern/api.Volume]", by decide, Try.func130.trans (congrArg some (by kernel_rfl))⟩
  f23 := ⟨"slices.choosePivotCmpFunc[cistern/api.Volume]", by decide, Try.func131.trans (congrArg some (by kernel_rfl))⟩
  f24 := ⟨"slices.reverseRangeCmpFunc[cistern/api.Volume]", by decide, Try.func132.trans (congrArg some (by kernel_rfl))⟩
  f25 := ⟨"slices.partialInsertionSortCmpFunc[cistern/api.Volume]", by decide, Try.func133.trans (congrArg some (by kernel_rfl))⟩
  f26 := ⟨"slices.partitionEqualCmpFunc[cistern/api.Volume]", by decide, Try.func134.trans (congrArg some (by kernel_rfl))⟩
  f27 := ⟨"slices.partitionCmpFunc[cistern/api.Volume]", by decide, Try.func135.trans (congrArg some (by kernel_rfl))⟩
  f28 := Try.func126.trans (congrArg some (by kernel_rfl))
  f29 := Try.func127.trans (congrArg some (by kernel_rfl))
  f46 := ⟨"slices.siftDownCmpFunc[cistern/api.Volume]", by decide, Try.func143.trans (congrArg some (by kernel_rfl))⟩
  f47 := Try.func138.trans (congrArg some (by kernel_rfl))
  f48 := Try.func139.trans (congrArg some (by kernel_rfl))
  f49 := ⟨"slices.medianAdjacentCmpFunc[cistern/api.Volume]", by decide, Try.func144.trans (congrArg some (by kernel_rfl))⟩
  f50 := ⟨"slices.medianCmpFunc[cistern/api.Volume]", by decide, Try.func145.trans (congrArg some (by kernel_rfl))⟩
  f57 := ⟨"slices.order2CmpFunc[cistern/api.Volume]", by decide, Try.func147.trans (congrArg some (by kernel_rfl))⟩
  t0 := Try.underlying0
  a0 := Try.isAgg0
  z0 := Try.sizeOf0
  v0 := Try.zeroValue0
  t3 := Try.underlying3
  a3 := Try.isAgg3
  z3 := Try.sizeOf3
  v3 := Try.zeroValue3
  t4 := Try.underlying4
  a4 := Try.isAgg4
  z4 := Try.sizeOf4
  v4 := Try.zeroValue4
  t5 := Try.underlying5
  a5 := Try.isAgg5
  z5 := Try.sizeOf5
  v5 := Try.zeroValue5
  t9 := Try.underlying9
  a9 := Try.isAgg9
  z9 := Try.sizeOf9
  v9 := Try.zeroValue9
  t22 := Try.underlying76
  a22 := Try.isAgg76
  z22 := Try.sizeOf76
  v22 := Try.zeroValue76
  t25 := Try.underlying134
  a25 := Try.isAgg134
  z25 := Try.sizeOf134
  v25 := Try.zeroValue134
  t39 := Try.underlying111
  a39 := Try.isAgg111
  z39 := Try.sizeOf111
  v39 := Try.zeroValue111
  t45 := Try.underlying186
  a45 := Try.isAgg186
  z45 := Try.sizeOf186
  v45 := Try.zeroValue186
  t46 := Try.underlying187
  a46 := Try.isAgg187
  z46 := Try.sizeOf187
  v46 := Try.zeroValue187
  t50 := Try.underlying192
  a50 := Try.isAgg192
  z50 := Try.sizeOf192
  v50 := Try.zeroValue192
  t53 := Try.underlying176
  a53 := Try.isAgg176
  z53 := Try.sizeOf176
  v53 := Try.zeroValue176
  t55 := Try.underlying70
  a55 := Try.isAgg70
  z55 := Try.sizeOf70
  v55 := Try.zeroValue70
  t66 := Try.underlying202
  a66 := Try.isAgg202
  z66 := Try.sizeOf202
  v66 := Try.zeroValue202
  t70 := Try.underlying206
  a70 := Try.isAgg206
  z70 := Try.sizeOf206
  v70 := Try.zeroValue206
  t76 := Try.underlying211
  a76 := Try.isAgg211
  z76 := Try.sizeOf211
  v76 := Try.zeroValue211
  t77 := Try.underlying212
  a77 := Try.isAgg212
  z77 := Try.sizeOf212
  v77 := Try.zeroValue212
end Go.Proofs
namespace Go.Ax.C
open Go.Proofs Go.RowKit Go.Sort
def volCmp (x y : Vol) : Int := Lib.compareBytes x.name.data.toList y.name.data.toList
theorem cb_flip : ∀ (a b : List UInt8), Lib.compareBytes b a = - Lib.compareBytes a b
  | [], [] => rfl
  | [], _ :: _ => rfl
  | _ :: _, [] => rfl
  | x :: a, y :: b => by
    have ih := cb_flip a b
    unfold Lib.compareBytes
    by_cases h1 : x < y
    · have h2 : ¬ y < x := fun h => UInt8.lt_irrefl x (UInt8.lt_trans h1 h)
      simp [h1, h2]
    · by_cases h2 : y < x
      · simp [h1, h2]
      · simp [h1, h2, ih]
theorem cb_eq : ∀ (a b : List UInt8), Lib.compareBytes a b = 0 → a = b
  | [], [], _ => rfl
  | [], _ :: _, h => by simp [Lib.compareBytes] at h
  | _ :: _, [], h => by simp [Lib.compareBytes] at h
  | x :: a, y :: b, h => by
    unfold Lib.compareBytes at h
    by_cases h1 : x < y
    · simp [h1] at h
    · by_cases h2 : y < x
      · simp [h1, h2] at h
      · simp [h1, h2] at h
        have : x = y := UInt8.le_antisymm (UInt8.not_lt.1 h2) (UInt8.not_lt.1 h1)
        rw [this, cb_eq a b h]
theorem cb_self (a : List UInt8) : Lib.compareBytes a a = 0 := by have := cb_flip a a; omega
theorem cb_trans : ∀ (a b c : List UInt8), Lib.compareBytes a b < 0 → Lib.compareBytes b c < 0 → Lib.compareBytes a c < 0
  | [], [], _, h, _ => by simp [Lib.compareBytes] at h
  | [], _ :: _, [], _, h => by simp [Lib.compareBytes] at h
  | [], _ :: _, _ :: _, _, _ => by simp [Lib.compareBytes]
  | _ :: _, [], _, h, _ => by simp [Lib.compareBytes] at h
  | _ :: _, _ :: _, [], _, h => by simp [Lib.compareBytes] at h
  | x :: a, y :: b, z :: c, h, k => by
    have ih := cb_trans a b c
    unfold Lib.compareBytes at h k ⊢
    by_cases h1 : x < y
    · by_cases k1 : y < z
      · simp [UInt8.lt_trans h1 k1]
      · by_cases k2 : z < y
        · simp [k1, k2] at k
        · have : y = z := UInt8.le_antisymm (UInt8.not_lt.1 k2) (UInt8.not_lt.1 k1)
          subst this; simp [h1]
    · by_cases h2 : y < x
      · simp [h1, h2] at h
      · have : x = y := UInt8.le_antisymm (UInt8.not_lt.1 h2) (UInt8.not_lt.1 h1)
        subst this
        simp only [h1, if_false] at h
        by_cases k1 : x < z
        · simp [k1]
        · by_cases k2 : z < x
          · simp [k1, k2] at k
          · simp only [k1, k2, if_false] at k ⊢
            exact ih h k
theorem lt_vol (x y : Vol) : ltOf volCmp x y = decide (Lib.compareBytes x.name.data.toList y.name.data.toList < 0) := rfl
theorem volSWO : Go.Sort.SWO (ltOf volCmp) where
  irrefl x := by rw [lt_vol, cb_self]; rfl
  trans x y z h1 h2 := by
    rw [lt_vol] at *
    exact decide_eq_true (cb_trans _ _ _ (of_decide_eq_true h1) (of_decide_eq_true h2))
  ntrans x y z h1 h2 := by
    rw [lt_vol] at *
    have h1 := of_decide_eq_false h1
    have h2 := of_decide_eq_false h2
    refine decide_eq_false fun h3 => ?_
    have f1 := cb_flip x.name.data.toList y.name.data.toList
    have f2 := cb_flip y.name.data.toList z.name.data.toList
    by_cases e1 : Lib.compareBytes x.name.data.toList y.name.data.toList = 0
    · rw [cb_eq _ _ e1] at h3; exact h2 h3
    · by_cases e2 : Lib.compareBytes y.name.data.toList z.name.data.toList = 0
      · rw [← cb_eq _ _ e2] at h3; exact h1 h3
      · have := cb_trans z.name.data.toList y.name.data.toList x.name.data.toList (by omega) (by omega)
        have f3 := cb_flip x.name.data.toList z.name.data.toList
        omega
instance : Inhabited Vol := ⟨.none⟩
def volsV (L : List Vol) : List Value := (L.map Vol.cells).flatten
theorem volsV_len (L : List Vol) : (volsV L).length = L.length * 6 := by
  induction L with
  | nil => rfl
  | cons v L ih => simp only [volsV, List.map_cons, List.flatten_cons, List.length_append, List.length_cons] at ih ⊢; rw [ih]; simp [Vol.cells]; omega
theorem volsV_flat (L : List Vol) : (volsV L).all flat0 = true := by
  induction L with
  | nil => rfl
  | cons v L ih =>
    have e : volsV (v :: L) = v.cells ++ volsV L := rfl
    rw [e, List.all_append, ih]; rfl
theorem volsV_get : ∀ (L : List Vol) (t : Nat), t < L.length * 6 → (volsV L)[t]? = (L[t / 6]?.bind fun v => v.cells[t % 6]?)
  | [], t, h => by simp at h
  | v :: L, t, h => by
    have ih := volsV_get L (t - 6)
    have e : volsV (v :: L) = v.cells ++ volsV L := rfl
    rw [e]
    have hl : v.cells.length = 6 := rfl
    by_cases ht : t < 6
    · rw [List.getElem?_append_left (by omega), Nat.div_eq_of_lt ht, Nat.mod_eq_of_lt ht]; rfl
    · rw [List.getElem?_append_right (by omega), hl, ih (by simp at h; omega)]
      have e1 : t / 6 = (t - 6) / 6 + 1 := by omega
      have e2 : t % 6 = (t - 6) % 6 := by omega
      rw [e1, e2, List.getElem?_cons_succ]
theorem flatK_vols (L : List Vol) : flatK Vol.cells 6 L.toArray = (volsV L).toArray := by
  apply Array.ext
  · rw [size_flatK]; simp [volsV_len]
  · intro t h1 h2
    rw [size_flatK] at h1
    simp only [List.size_toArray] at h1
    have g1 : (flatK Vol.cells 6 L.toArray)[t]! = _ := get_flatK Vol.cells 6 L.toArray t (by simpa using h1)
    rw [getElem!_pos _ _ (by rw [size_flatK]; simpa using h1)] at g1
    rw [g1]
    have hd : t / 6 < L.length := by omega
    have g2 := volsV_get L t h1
    rw [List.getElem?_eq_getElem hd, Option.bind_some] at g2
    have hm : t % 6 < L[t / 6].cells.length := by simp [Vol.cells]; omega
    rw [List.getElem?_eq_getElem hm] at g2
    have g3 : (volsV L)[t]? = some (volsV L)[t] := List.getElem?_eq_getElem (by rw [volsV_len]; exact h1)
    rw [g3] at g2
    simp only [Option.some.injEq] at g2
    simp only [List.getElem_toArray, g2]
    rw [getElem!_pos L.toArray (t / 6) (by simpa using hd)]
    simp only [List.getElem_toArray]
    rw [getElem!_pos L[t / 6].cells (t % 6) hm]
end Go.Ax.C
namespace Go.Proofs
open Go.Shelf Go.RowKit Go.Lib Go.Sort
set_option maxHeartbeats 1000000 in
theorem Try.cmpString (a b : ByteArray) (w : World) :
    Calls Try.prog 107 #[.string a, .string b] w fun e w' => e = .returned (.int .i64 (Lib.compareBytes a.data.toList b.data.toList)) ∧ w' = w := by
  go_enter Try.func107, Try.ntmps107
  go_wp2
  rw [run_callFunc_extern Try.func136 (by kernel_rfl) (by kernel_rfl) (by kernel_rfl) (e := Extern.BytealgCompare.compare) (by kernel_rfl), Lib.run_compareString]
  simp only [Result.andThen]
  rw [Oper.upon_value]
  go_wp2
  go_ret
  exact ⟨rfl, rfl⟩
set_option maxHeartbeats 1000000 in
theorem Try.strCompare (a b : ByteArray) (w : World) :
    Calls Try.prog 84 #[.string a, .string b] w fun e w' => e = .returned (.int .i64 (Lib.compareBytes a.data.toList b.data.toList)) ∧ w' = w := by
  go_enter Try.func84, Try.ntmps84
  go_wp2_with (go_at_call 107; refine (Try.cmpString _ _ _).mono ?_; rintro e w' ⟨rfl, rfl⟩)
  go_ret
  exact ⟨rfl, rfl⟩
set_option maxHeartbeats 1000000 in
theorem Try.closVol (x y : Go.Ax.C.Vol) (W : World) : Calls Try.prog 83 #[.agg x.cells.toArray, .agg y.cells.toArray] W fun e w' => e = .returned (.int .i64 (Go.Ax.C.volCmp x y)) ∧ ∃ q os', w' = grow (W.drewN q) os' := by
  have hcon := fun W' => Try.strCompare x.name y.name W'
  unfold Go.Ax.C.volCmp
  generalize Lib.compareBytes x.name.data.toList y.name.data.toList = r at hcon ⊢
  unfold Go.Ax.C.Vol.cells
  go_enter Try.func83, Try.ntmps83
  go_wp2_with (go_at_call 84; refine (hcon _).mono ?_; rintro e w' ⟨rfl, rfl⟩)
  go_ret
  exact ⟨rfl, 0, _, by rw [alloc_eq_grow, alloc_eq_grow, grow_grow]; rfl⟩
end Go.Proofs
namespace Go.Ax.C
open Go.Proofs Go.RowKit Go.Sort
theorem sortV_body : ∃ fn, P.funcs[f_slices_SortFunc_sl_api_Volume_api_Volume]? = some fn ∧ (fn.name == "runtime.NumGoroutine") = false ∧ fn.body.isNone = false := ⟨Try.f82, by kernel_rfl, by kernel_rfl, by kernel_rfl⟩
def NameLt (a b : Vol) : Prop := Lib.compareBytes a.name.data.toList b.name.data.toList < 0
theorem sortV_ok {l : List Assn} {σ : AHeap} {v : Value} {L : List Vol} {Q : RK} (h : H (Own t_api_Volume 6 v L.length (volsV L) :: l) σ) (hn : L.length < 4611686018427387904) (hd : (L.map (·.name)).Nodup)
    (hQ : ∀ L' σ', L'.Perm L → L'.Pairwise NameLt → H (Own t_api_Volume 6 v L'.length (volsV L') :: l) σ' → Q (.ret (.tuple #[])) σ') : E f_slices_SortFunc_sl_api_Volume_api_Volume [v, .func (.func f_model_Model_List_c1) #[] #[]] σ Q := by
  rw [E_eq]
  rcases H_own.1 h with ⟨⟨h1, h2, hv⟩, h3⟩ | ⟨b, c, opn, rest, h1, h2, h3, rfl, h5, h6⟩
  · have hz : L = [] := List.length_eq_zero_iff.1 h1
    subst hz
    have hQ' : Q (.ret (.tuple #[])) σ := hQ [] σ (.refl _) .nil h
    rcases hv with rfl | rfl
    · exact rowNone_ev sortV_body (fun p cap w => AnyF.slices_SortFunc_none Try.sortVol p cap _ w) hQ'
    · exact rowNone_ev sortV_body (fun p cap w => AnyF.slices_SortFunc_none Try.sortVol p cap _ w) hQ'
  · refine rowTurn_ev (F := volsV L) (R := fun F' => ∃ L', L'.Perm L ∧ L'.Pairwise NameLt ∧ F' = volsV L') sortV_body ?_ ?_ (volsV_flat L) h1.get0.1 ?_
    · intro blk off cap w hH hblk
      have eg : ∀ args w, (callFunc f_model_Model_List_c1 args).run P w = .ok (.enter f_model_Model_List_c1 args) w := enters_of Try.func83 (by kernel_rfl) rfl
      have hK : HoldsK Vol.cells 6 w blk off L.toArray := by unfold HoldsK; rw [flatK_vols]; exact hH
      have hcon := AnyQ.slices_SortFunc Try.sortVol 6 Try.isAgg79 Try.sizeOf79 Vol.cells (fun _ => rfl) (fun x v hv => by
        simp only [Vol.cells, List.mem_cons, List.not_mem_nil, or_false] at hv
        rcases hv with rfl | rfl | rfl | rfl | rfl | rfl <;> rfl) volCmp volSWO f_model_Model_List_c1 #[] blk off cap L.toArray w eg (fun _ _ _ _ x y => Try.closVol x y _) hK hblk (by simpa using hn)
      simp only [List.size_toArray] at hcon
      refine hcon.mono ?_
      rintro e w' ⟨he, d', m, os, hp, hs, hw⟩
      have hds : d'.size = L.length := by simpa using hp.1
      have hperm : d'.toList.Perm L := by
        have := hp.2.2
        simp only [← hds, Array.extract_size] at this
        have e2 : L.toArray.extract 0 d'.size = L.toArray := by rw [hds]; simp
        rw [e2] at this
        simpa using this
      refine ⟨he, volsV d'.toList, m, os, ⟨d'.toList, hperm, ?_, rfl⟩, ?_⟩
      · rw [List.pairwise_iff_getElem]
        intro i j hi hj hij
        have h8 := hs i j (Nat.zero_le _) hij (by simpa [hds] using hj)
        have hi' : i < d'.size := by simpa using hi
        have hj' : j < d'.size := by simpa using hj
        rw [getElem!_pos d' j hj', getElem!_pos d' i hi'] at h8
        rw [lt_vol] at h8
        have h8 := of_decide_eq_false h8
        unfold NameLt
        have hne : Lib.compareBytes d'[i].name.data.toList d'[j].name.data.toList ≠ 0 := by
          intro e0
          have e1 := cb_eq _ _ e0
          have hnd : (d'.toList.map (·.name)).Nodup := (hperm.map _).nodup_iff.2 hd
          have e3 : d'[i].name = d'[j].name := by
            cases hx : d'[i].name with
            | mk a =>
              cases hy : d'[j].name with
              | mk b =>
                rw [hx, hy] at e1
                congr 1
                exact Array.toList_inj.1 e1
          have := (List.getElem_inj (i := i) (j := j) (h₀ := by simpa using hi) (h₁ := by simpa using hj) hnd).1 (by simpa using e3)
          omega
        have f := cb_flip d'[i].name.data.toList d'[j].name.data.toList
        simp only [Array.getElem_toList]
        omega
      · rw [hw]
        unfold sortWorldK putRowK
        have : d' = d'.toList.toArray := by simp
        rw [this, flatK_vols]
    · rintro F' ⟨L', hp, _, rfl⟩
      exact ⟨by rw [volsV_len, volsV_len, hp.length_eq], volsV_flat L'⟩
    · rintro F' ⟨L', hp, hs, rfl⟩
      refine hQ L' _ hp hs ?_
      have h7 := h1.set0 (.cells (volsV L' ++ rest) t_api_Volume opn)
      exact H_own.2 (.inr ⟨b, c, opn, rest, h7, volsV_len L', by rw [hp.length_eq]; exact h3, by rw [hp.length_eq], by rw [hp.length_eq]; exact h5, h6⟩)
end Go.Ax.C
set_option maxRecDepth 100000
namespace Go.Ax.C
open Go.Proofs Go.RowKit

variable {l r m : List Assn} {σ : AHeap} {Q : RK}

def MM.alone (M : MM) (a : Act20) : MM :=
  if a.what = 0 then M.createR a.name a.n a.short else if a.what = 1 then M.snapR a.name a.as' a.flag a.short else if a.what = 2 then M.delR a.name a.short else if a.what = 3 then M.rszR a.name a.n a.short
  else if a.what = 5 then M.wrR a.id a.off (dataL a.n a.x) a.short else if a.what = 6 then M.trimR a.id a.off a.n a.short else if a.what = 7 then M.zeroR a.id a.off a.n a.short else M
theorem dataL_len (n : Nat) (x : UInt8) : (dataL n x).length = n % 5000 := by simp [dataL]
theorem malone {x : Nat} {M : MM} {a : Act20} {pv : Value} (h : H (ModelA x M :: l) σ) (hM : M.Ok) (hQ : ∀ σ', H (ModelA x (M.alone a) :: l) σ' → Q (.ret (.tuple #[])) σ') :
    E f_law20_alone [.pointer (some ⟨x, 0, none⟩), .agg (a.cells pv).toArray] σ Q := by
  apply e_law20_alone; unfold s_law20_alone
  refine nw h ?_
  intro b σ1 h1
  unfold MM.alone at hQ
  have h2 : H (ModelA x M :: pt b (.cells [.int .i64 a.what, .string a.name, .string a.as', .int .u64 a.id, .int .u64 a.off, .int .u64 a.n, .int .u8 a.x.toNat, .bool a.flag, .bool a.short, pv] t_law20_Act false) :: l) σ1 := h1.perm (.swap _ _ _)
  rw [LI h2]
  refine If_dec (fun g => ?_) fun g => ?_
  · rw [if_pos g] at hQ
    rw [LS h2, LI h2, LB h2]
    refine mcreateA h2 hM ?_
    intro σ2 h3
    rw [c2_ret, tI_int, tI_int]
    exact hQ σ2 h3.re
  rw [if_neg g] at hQ
  refine If_dec (fun g => ?_) fun g => ?_
  · rw [if_pos g] at hQ
    rw [LS h2, LS h2, LB h2, LB h2]
    refine msnapshotA h2 hM ?_
    intro σ2 h3
    rw [c2_ret, tI_int, tI_int]
    exact hQ σ2 h3.re
  rw [if_neg g] at hQ
  refine If_dec (fun g => ?_) fun g => ?_
  · rw [if_pos g] at hQ
    rw [LS h2, LB h2]
    refine mdeleteA h2 hM ?_
    intro σ2 h3
    rw [cI_ret]
    exact hQ σ2 h3.re
  rw [if_neg g] at hQ
  refine If_dec (fun g => ?_) fun g => ?_
  · rw [if_pos g] at hQ
    rw [LS h2, LI h2, LB h2]
    refine mresizeA h2 hM ?_
    intro σ2 h3
    rw [cI_ret]
    exact hQ σ2 h3.re
  rw [if_neg g] at hQ
  refine If_dec (fun g => ?_) fun g => ?_
  · rw [if_pos g] at hQ
    rw [LI h2, LI h2, LI h2, LS h2, LS h2, LI h2, LI h2, LI h2, LI h2, LB h2, LB h2, LV h2, LB h2]
    refine adata (a := a) (pv := pv) h2 ?_
    intro v σ2 h3
    rw [cV_ret, LI h3, veq_int, LI h3, veq_int, LB h3, veq_bool]
    refine mwriteA (h3.perm (.swap _ _ _)) hM (fun τ h4 => own_bts h4) (by rw [dataL_len]; omega) ?_
    intro σ3 h4
    rw [cI_ret]
    exact hQ σ3 h4.re
  rw [if_neg g] at hQ
  refine If_dec (fun g => ?_) fun g => ?_
  · rw [if_pos g] at hQ
    rw [LI h2, LI h2, LI h2, LB h2]
    refine mtrimA h2 hM ?_
    intro σ2 h3
    rw [cI_ret]
    exact hQ σ2 h3.re
  rw [if_neg g] at hQ
  refine If_dec (fun g => ?_) fun g => ?_
  · rw [if_pos g] at hQ
    rw [LI h2, LI h2, LI h2, LB h2]
    refine mzeroA h2 hM ?_
    intro σ2 h3
    rw [cI_ret]
    exact hQ σ2 h3.re
  rw [if_neg g] at hQ
  exact hQ σ1 h2.re
theorem MM.Ok.alone {M : MM} (hM : M.Ok) (a : Act20) (hn : M.next + 1 < 9223372036854775808) : (M.alone a).Ok := by
  unfold MM.alone
  repeat' split
  · exact hM.createR _ _ _ hn
  · exact hM.snapR _ _ _ _ hn
  · exact hM.delR _ _
  · exact hM.rszR _ _ _
  · exact hM.wrR _ _ _ _
  · exact hM.trimR _ _ _ _
  · exact hM.zeroR _ _ _ _
  · exact hM
theorem alone_next (M : MM) (a : Act20) : (M.alone a).next ≤ M.next + 1 := by
  obtain ⟨n1, n2, n3, n4, n5, n6, n7⟩ := next_le (M := M)
  unfold MM.alone
  repeat' split
  · exact n1 _ _ _
  · exact n2 _ _ _ _
  · rw [n3]; omega
  · rw [n4]; omega
  · rw [n5]; omega
  · rw [n6]; omega
  · rw [n7]; omega
  · omega

theorem mlist {x : Nat} {M : MM} (h : H (ModelA x M :: l) σ) (hM : M.Ok)
    (hQ : ∀ v L σ', L.Perm (M.by'.map fun w => w.2.vol) → L.Pairwise NameLt → H (Own t_api_Volume 6 v L.length (volsV L) :: ModelA x M :: l) σ' → Q (.ret v) σ') : E f_model_Model_List [.pointer (some ⟨x, 0, none⟩)] σ Q := by
  obtain ⟨mb, W, hW, h⟩ := model_out h
  apply e_model_Model_List; unfold s_model_Model_List
  refine mnone h ?_
  rw [cB_ret]
  refine If_f rfl ?_
  unfold MO at h
  rw [LV h]
  have hWl : W.length ≤ 16 := by have := hM.len; rw [← hW, List.length_map] at this; exact this
  refine umap_range (P := P) (e := t_uint64) (u := t_p_model_held) (h.perm (.swap _ _ _)) (by kernel_rfl) ?_
  intro it σ1 h2
  have h2 := (H_tl [_, _, _]).1 h2
  refine ⟨fun m v τ => ∃ RW V : List WRow, m = RW.length ∧ (V ++ RW).Perm W ∧ H [Own t_api_Volume 6 v (V.map fun w => w.2.2.vol).length (volsV (V.map fun w => w.2.2.vol)), MIter .u64 it mb (W.map kvW) (RW.map kvW), pt x (.cells [.int .u64 M.next, .map (some mb)] t_model_Model false), Star (W.map hdW), Star l] τ,
    ⟨_, W, [], rfl, by simp, ?_⟩, ?_⟩
  · exact ((h2.own_nil t_api_Volume 6).unsnoc : H [Own t_api_Volume 6 (.slice none 0 0) 0 [], MIter .u64 it mb (W.map kvW) (W.map kvW), pt x (.cells [.int .u64 M.next, .map (some mb)] t_model_Model false), Star (W.map hdW), Star l] σ1)
  rintro m v τ ⟨RW, V, rfl, hP, h3⟩
  unfold s_model_Model_List_b1
  refine miter_next (h3.re : H (MIter .u64 it mb (W.map kvW) (RW.map kvW) :: [Own t_api_Volume 6 v (V.map fun w => w.2.2.vol).length (volsV (V.map fun w => w.2.2.vol)), pt x (.cells [.int .u64 M.next, .map (some mb)] t_model_Model false), Star (W.map hdW), Star l]) τ) ?_ ?_
  · intro hnil
    have hRW : RW = [] := by simpa using hnil
    subst hRW
    simp only
    have x0 : xExt (.tuple #[.bool false]) 0 = some (.bool false) := rfl
    rw [x0, ldB_some]
    refine If_f rfl ?_
    have hP' : V.Perm W := by simpa using hP
    have hPV : (V.map fun w => w.2.2.vol).Perm (M.by'.map fun w => w.2.vol) := by
      rw [← hW, List.map_map]; exact hP'.map _
    refine sortV_ok h3 ?_ ?_ ?_
    · rw [hPV.length_eq, List.length_map]; have := hM.len; omega
    · have := (hPV.map (·.name)).nodup_iff.2 (by rw [List.map_map]; exact hM.nm)
      exact this
    · intro L' σ2 hp hs h4
      rw [c0_ret]
      refine hQ v L' σ2 (hp.trans hPV) hs ?_
      have h5 := miter_map (h4.re : H (MIter .u64 it mb (W.map kvW) (([] : List WRow).map kvW) :: [Own t_api_Volume 6 v L'.length (volsV L'), pt x (.cells [.int .u64 M.next, .map (some mb)] t_model_Model false), Star (W.map hdW), Star l]) σ2)
      have h6 : H (MO x mb M.next W (Own t_api_Volume 6 v L'.length (volsV L') :: l)) σ2 := by
        unfold MO
        exact ((H_tl [_, _, _, _]).2 (h5.re : H [pt x (.cells [.int .u64 M.next, .map (some mb)] t_model_Model false), UMap .u64 mb (W.map kvW), Star (W.map hdW), Own t_api_Volume 6 v L'.length (volsV L'), Star l] σ2))
      exact (ma_in hW h6).perm (.swap _ _ _)
  · intro R1 p R2 τ1 hR h4 he
    obtain ⟨A, T, rfl, rfl, hT⟩ := List.map_eq_append_iff.1 hR
    obtain ⟨w, B, rfl, rfl, rfl⟩ := List.map_eq_cons_iff.1 hT
    simp only
    have x0 : xExt (.tuple #[.bool true, .int .u64 (kvW w).1, (kvW w).2]) 0 = some (.bool true) := rfl
    rw [x0, ldB_some]
    refine If_t rfl ?_
    rw [he, om_some, xExt1, om_some]
    have hw : w ∈ W := hP.subset (by simp)
    obtain ⟨k, hk, hkw⟩ := List.getElem_of_mem hw
    have hk' : W[k]? = some w := by rw [List.getElem?_eq_getElem hk, hkw]
    obtain ⟨wb, hrow⟩ := hd_row (h4.re : H (Star (W.map hdW) :: []) τ1) hk'
    have e2 : (kvW w).2 = .pointer (some ⟨w.2.1, 0, none⟩) := rfl
    rw [e2]
    simp only [nil_ptr, om_some, fieldAddr_ptr, Nat.zero_add, Nat.add_zero]
    have c0 : aLoad false 1 (.pointer (some ⟨w.2.1, 0, none⟩)) τ1 = some (.int .u64 w.2.2.vol.id) := by rw [load1 hrow]; rfl
    have c1 : aLoad false 1 (.pointer (some ⟨w.2.1, 1, none⟩)) τ1 = some (.string w.2.2.vol.name) := by rw [load1 hrow]; rfl
    have c2' : aLoad false 1 (.pointer (some ⟨w.2.1, 2, none⟩)) τ1 = some (.int .u64 w.2.2.vol.size) := by rw [load1 hrow]; rfl
    have c3' : aLoad false 1 (.pointer (some ⟨w.2.1, 3, none⟩)) τ1 = some (.int .u64 w.2.2.vol.root) := by rw [load1 hrow]; rfl
    have c4' : aLoad false 1 (.pointer (some ⟨w.2.1, 4, none⟩)) τ1 = some (.bool w.2.2.vol.fixed) := by rw [load1 hrow]; rfl
    have c5 : aLoad false 1 (.pointer (some ⟨w.2.1, 5, none⟩)) τ1 = some (.int .u64 w.2.2.vol.origin) := by rw [load1 hrow]; rfl
    rw [c0, ldI_some, c1, ldS_some, c2', ldI_some, c3', ldI_some, c4', ldB_some, c5, ldI_some]
    refine nw h4 ?_
    intro b τ2 h5
    have hsrc : srcOf 6 (.slice (some ⟨b, 0, none⟩) 1 1) τ2 = some (1, w.2.2.vol.cells) := by
      rw [src_row (h5.row 0 rfl) (by simp)]; rfl
    have hVl : V.length ≤ 16 := by have := hP.length_eq; simp at this; omega
    refine append_own (h5.re : H (Own t_api_Volume 6 v (V.map fun w => w.2.2.vol).length (volsV (V.map fun w => w.2.2.vol)) :: [MIter .u64 it mb (W.map kvW) (A.map kvW ++ B.map kvW), pt x (.cells [.int .u64 M.next, .map (some mb)] t_model_Model false), Star (W.map hdW), Star l]) τ2) 0 rfl hsrc (by omega) (by simp; omega) rfl ?_
    intro nv τ3 h6
    refine ⟨(A ++ B).length, by simp, A ++ B, V ++ [w], rfl, ?_, ?_⟩
    · refine List.Perm.trans ?_ hP
      simp only [List.append_assoc]
      refine List.Perm.append_left V ?_
      simpa using (List.perm_middle (a := w) (l₁ := A) (l₂ := B)).symm
    · have e3 : (V ++ [w]).map (fun w => w.2.2.vol) = V.map (fun w => w.2.2.vol) ++ [w.2.2.vol] := by simp
      have e4 : volsV (V.map (fun w => w.2.2.vol) ++ [w.2.2.vol]) = volsV (V.map fun w => w.2.2.vol) ++ w.2.2.vol.cells := by simp [volsV]
      rw [e3, e4, List.length_append, List.map_append]
      exact h6
end Go.Ax.C
set_option maxRecDepth 100000
namespace Go.Ax.C
open Go.Proofs Go.RowKit

variable {l r m : List Assn} {σ : AHeap} {Q : RK}

theorem mnew (h : H l σ) (hQ : ∀ x σ', H (ModelA x ⟨1, []⟩ :: l) σ' → Q (.ret (.pointer (some ⟨x, 0, none⟩))) σ') : E f_model_New [] σ Q := by
  apply e_model_New; unfold s_model_New
  refine umap_new (k := .u64) h (by rfl) ?_
  intro mb σ1 h1
  refine On_one rfl ?_
  refine nw h1 ?_
  intro b σ2 h2
  refine hQ b σ2 (ma_in (M := ⟨1, []⟩) (mb := mb) (W := []) rfl ?_)
  unfold MO
  have h3 : H (pt b (.cells [.int .u64 1, .map (some mb)] t_model_Model false) :: UMap .u64 mb [] :: l) σ2 := h2
  have h4 : H (emp :: pt b (.cells [.int .u64 1, .map (some mb)] t_model_Model false) :: UMap .u64 mb [] :: l) σ2 := H_emp.2 h3
  show H (pt b (.cells [.int .u64 1, .map (some mb)] t_model_Model false) :: UMap .u64 mb [] :: emp :: l) σ2
  exact h4.re

theorem hd_open {W : List WRow} {k : Nat} {w : WRow} (h : H (Star (W.map hdW) :: m) σ) (hk : W[k]? = some w) : ∃ bm, H (pt w.2.1 (.cells (hcs w.2.2.vol bm) t_model_held false) :: UMap .u64 bm (bkv w.2.2.bl) :: Star ((W.map hdW).set k emp) :: m) σ := by
  obtain ⟨bm, h1⟩ := H_ex.1 (hd_out h hk)
  rw [H_sep] at h1
  exact ⟨bm, h1⟩
theorem hd_shut {W : List WRow} {k bm : Nat} {w : WRow} (hk : W[k]? = some w) (h : H (pt w.2.1 (.cells (hcs w.2.2.vol bm) t_model_held false) :: UMap .u64 bm (bkv w.2.2.bl) :: Star ((W.map hdW).set k emp) :: m) σ) : H (Star (W.map hdW) :: m) σ := by
  have h1 : H (hdW w :: Star ((W.map hdW).set k emp) :: m) σ := H_ex.2 ⟨bm, by rw [H_sep]; exact h⟩
  have h2 := hd_in (List.getElem?_eq_some_iff.1 hk).1 h1
  rwa [set_get_same hk] at h2

/-! ### Same -/
def okP (b : Blks) (p : Nat × List UInt8) : Bool := match b.find? fun q => q.1 == p.1 with | none => false | some q => decide (p.2 = q.2)
def blEq (a b : Blks) : Bool := decide (a.length = b.length) && a.all (okP b)
theorem blk_neq {x y : List UInt8} (hx : x.length = 256) (hy : y.length = 256) : aBinP P t_model_block .neq (blkV x) (blkV y) = some (.bool (!decide (x = y))) := by
  have h0 : ∀ a b : Array Value, aBinP P t_model_block .neq (.agg a) (.agg b) = (cond (true && Nat.beq a.toList.length 256 && Nat.beq b.toList.length 256 && true) (eqInts a.toList b.toList) none).map fun r => .bool !r := fun a b => by kernel_rfl
  unfold blkV
  rw [h0]
  have h1 : (bv x).toArray.toList.length = 256 := by simp [hx]
  have h2 : (bv y).toArray.toList.length = 256 := by simp [hy]
  rw [h1, h2]
  show (eqInts (bv x) (bv y)).map _ = _
  rw [eqInts_bv x y (by omega)]; rfl
theorem all_perm {α : Type} {f : α → Bool} {a b : List α} (h : a.Perm b) : a.all f = b.all f := by
  rw [Bool.eq_iff_iff, List.all_eq_true, List.all_eq_true]
  exact ⟨fun g x hx => g x (h.mem_iff.2 hx), fun g x hx => g x (h.mem_iff.1 hx)⟩
theorem splice_all {c ys : List Value} (h : ys.length = c.length) : splice c 0 ys = ys := by
  unfold splice
  rw [List.take_zero, List.nil_append, Nat.zero_add, List.drop_of_length_le (by omega), List.append_nil]
theorem mequal {ma mb : Nat} {a b : Blks} (h : H (UMap .u64 ma (bkv a) :: UMap .u64 mb (bkv b) :: l) σ) (ha : ∀ p ∈ a, p.2.length = 256) (hb : ∀ p ∈ b, p.2.length = 256)
    (hQ : ∀ σ', H (UMap .u64 ma (bkv a) :: UMap .u64 mb (bkv b) :: l) σ' → Q (.ret (.bool (blEq a b))) σ') : E f_maps_Equal_map_uint64_model_block_map_uint64_model_block_uint64_model_block [.map (some ma), .map (some mb)] σ Q := by
  apply e_maps_Equal_map_uint64_model_block_map_uint64_model_block_uint64_model_block; unfold s_maps_Equal_map_uint64_model_block_map_uint64_model_block_uint64_model_block
  rw [umap_len h, ldI_some, umap_len (h.perm (.swap _ _ _)), ldI_some]
  unfold blEq at hQ
  have hla : (bkv a).length = a.length := by simp [bkv]
  have hlb : (bkv b).length = b.length := by simp [bkv]
  rw [hla, hlb]
  refine If_ne (fun g => ?_) fun g => ?_
  · rw [decide_eq_false (by omega)] at hQ
    exact hQ σ h
  · rw [decide_eq_true (by omega), Bool.true_and] at hQ
    refine umap_range (P := P) (e := t_uint64) (u := t_model_block) h (by kernel_rfl) ?_
    intro it σ1 h1
    refine ⟨fun m τ => ∃ R V : Blks, m = R.length ∧ (V ++ R).Perm a ∧ V.all (okP b) = true ∧ H (MIter .u64 it ma (bkv a) (bkv R) :: UMap .u64 mb (bkv b) :: l) τ, ⟨_, a, [], rfl, by simp, rfl, h1⟩, ?_⟩
    rintro m τ ⟨R, V, rfl, hP, hV, h2⟩
    unfold s_maps_Equal_map_uint64_model_block_map_uint64_model_block_uint64_model_block_b1
    refine miter_next h2 ?_ ?_
    · intro hnil
      have hR : R = [] := by unfold bkv at hnil; simpa using hnil
      subst hR
      simp only
      have x0 : xExt (.tuple #[.bool false]) 0 = some (.bool false) := rfl
      rw [x0, ldB_some]
      refine If_f rfl ?_
      have : a.all (okP b) = true := by rw [← all_perm hP]; simpa using hV
      rw [this] at hQ
      exact hQ τ ((miter_map h2).re)
    · intro R1 p R2 τ1 hR h3 he
      obtain ⟨A, T, rfl, rfl, hT⟩ := List.map_eq_append_iff.1 hR
      obtain ⟨⟨k, x⟩, B, rfl, rfl, rfl⟩ := List.map_eq_cons_iff.1 hT
      simp only
      have x0 : xExt (.tuple #[.bool true, .int .u64 (k : Nat), blkV x]) 0 = some (.bool true) := rfl
      rw [x0, ldB_some]
      refine If_t rfl ?_
      rw [he, om_some, xExt0, ldI_some, xExt1, om_some]
      have hmem : (k, x) ∈ a := hP.subset (by simp)
      have hx : x.length = 256 := ha _ hmem
      refine nw h3 ?_
      intro b1 τ2 h4
      refine storeN (vs := bv x) h4 0 rfl (by simpa using hx) (by omega) (bv_one _) (by simp) ?_
      intro τ3 h5
      rw [splice_all (by simp only [bv_length, List.length_replicate]; exact hx)] at h5
      have h5 : H (pt b1 (.cells (bv x) t_model_block false) :: MIter .u64 it ma (bkv a) (bkv A ++ bkv B) :: UMap .u64 mb (bkv b) :: l) τ3 := h5
      rw [umap_lookup (P := P) (e := t_model_block) (z := blkV (List.replicate 256 0)) (h5.re : H (UMap .u64 mb (bkv b) :: []) τ3) (by kernel_rfl) zero_blk, mget_bkv]
      have fin : ∀ y c τ4, y.length = 256 → okP b (k, x) = (c && decide (x = y)) → H (pt b1 (.cells (bv x) t_model_block false) :: MIter .u64 it ma (bkv a) (bkv A ++ bkv B) :: UMap .u64 mb (bkv b) :: l) τ4 →
          wNew τ4 (.cells (List.replicate 256 (.int .u8 0)) t_model_block false) fun b42 τ43 =>
            pu (aStore 256 (.pointer (some ⟨b42, 0, none⟩)) (blkV y) τ43) fun τ44 =>
            If (!c) (s_maps_Equal_map_uint64_model_block_map_uint64_model_block_uint64_model_block_k9 (fun σ' => ∃ m' < (A ++ (k, x) :: B).length, ∃ R V : Blks, m' = R.length ∧ (V ++ R).Perm a ∧ V.all (okP b) = true ∧ H (MIter .u64 it ma (bkv a) (bkv R) :: UMap .u64 mb (bkv b) :: l) σ') E Q true τ44)
              (om (aLoad true 256 (.pointer (some ⟨b1, 0, none⟩)) τ44) fun v51 => om (aLoad true 256 (.pointer (some ⟨b42, 0, none⟩)) τ44) fun v53 =>
                ldB (aBinP P t_model_block .neq v51 v53) fun c54 => s_maps_Equal_map_uint64_model_block_map_uint64_model_block_uint64_model_block_k9 (fun σ' => ∃ m' < (A ++ (k, x) :: B).length, ∃ R V : Blks, m' = R.length ∧ (V ++ R).Perm a ∧ V.all (okP b) = true ∧ H (MIter .u64 it ma (bkv a) (bkv R) :: UMap .u64 mb (bkv b) :: l) σ') E Q c54 τ44) := by
        intro y c τ4 hy hok h6
        refine nw h6 ?_
        intro b2 τ5 h7
        refine storeN (vs := bv y) h7 0 rfl (by simpa using hy) (by omega) (bv_one _) (by simp) ?_
        intro τ6 h8
        rw [splice_all (by simp only [bv_length, List.length_replicate]; exact hy)] at h8
        have h8 : H (pt b2 (.cells (bv y) t_model_block false) :: pt b1 (.cells (bv x) t_model_block false) :: MIter .u64 it ma (bkv a) (bkv A ++ bkv B) :: UMap .u64 mb (bkv b) :: l) τ6 := h8
        have no : okP b (k, x) = false → s_maps_Equal_map_uint64_model_block_map_uint64_model_block_uint64_model_block_k9 (fun σ' => ∃ m' < (A ++ (k, x) :: B).length, ∃ R V : Blks, m' = R.length ∧ (V ++ R).Perm a ∧ V.all (okP b) = true ∧ H (MIter .u64 it ma (bkv a) (bkv R) :: UMap .u64 mb (bkv b) :: l) σ') E Q true τ6 := by
          intro hf
          unfold s_maps_Equal_map_uint64_model_block_map_uint64_model_block_uint64_model_block_k9
          refine If_t rfl ?_
          have : a.all (okP b) = false := by
            rw [List.all_eq_false]; exact ⟨_, hmem, by rw [hf]; decide⟩
          rw [this] at hQ
          exact hQ τ6 ((miter_map (h8.re : H (MIter .u64 it ma (bkv a) (bkv A ++ bkv B) :: UMap .u64 mb (bkv b) :: l) τ6)).re)
        refine If_b (fun g => ?_) fun g => ?_
        · have : c = false := by simpa using g
          subst this
          exact no (by rw [hok, Bool.false_and])
        · have : c = true := by simpa using g
          subst this
          rw [Bool.true_and] at hok
          have l1 : aLoad true 256 (.pointer (some ⟨b1, 0, none⟩)) τ6 = some (blkV x) := by rw [loadN (h8.row 1 rfl) (by simp [hx]), List.drop_zero, List.take_of_length_le (by simp [hx])]; rfl
          have l2 : aLoad true 256 (.pointer (some ⟨b2, 0, none⟩)) τ6 = some (blkV y) := by rw [loadN (h8.row 0 rfl) (by simp [hy]), List.drop_zero, List.take_of_length_le (by simp [hy])]; rfl
          rw [l1, om_some, l2, om_some, blk_neq hx hy, ldB_some]
          by_cases e : x = y
          · rw [decide_eq_true e]
            unfold s_maps_Equal_map_uint64_model_block_map_uint64_model_block_uint64_model_block_k9
            refine If_f rfl ?_
            refine ⟨(A ++ B).length, by simp, A ++ B, V ++ [(k, x)], rfl, ?_, ?_, ?_⟩
            · refine List.Perm.trans ?_ hP
              simp only [List.append_assoc]
              refine List.Perm.append_left V ?_
              simpa using (List.perm_middle (a := (k, x)) (l₁ := A) (l₂ := B)).symm
            · rw [List.all_append, hV, List.all_cons, hok, decide_eq_true e]; rfl
            · have e5 : bkv (A ++ B) = bkv A ++ bkv B := by simp [bkv]
              rw [e5]; exact h8.re
          · rw [decide_eq_false e]
            exact no (by rw [hok, decide_eq_false e])
      unfold okP at fin
      cases hf : b.find? fun q => q.1 == k with
      | none =>
        simp only [hf] at fin
        simp only [Option.map_none, okV, cond_true, om_some, xExt0, xExt1, ldB_some]
        exact fin (List.replicate 256 0) false τ3 (by simp) rfl h5
      | some q =>
        simp only [hf] at fin
        simp only [Option.map_some, okV, cond_true, om_some, xExt0, xExt1, ldB_some]
        exact fin q.2 true τ3 (hb q (List.mem_of_find?_eq_some hf)) rfl h5

def volEqb (a b : Vol) : Bool := decide (a.id = b.id) && (decide (a.name = b.name) && (decide (a.size = b.size) && (decide (a.root = b.root) && ((a.fixed == b.fixed) && decide (a.origin = b.origin)))))
theorem volEqb_iff (a b : Vol) : volEqb a b = true ↔ a = b := by
  cases a; cases b
  simp [volEqb]
theorem vol_eql (a b : Vol) : aBinP P t_api_Volume .eql (volV a) (volV b) = some (.bool (volEqb a b)) := by
  have h0 : ∀ (a0 : Int) (a1 : ByteArray) (a2 a3 : Int) (a4 : Bool) (a5 b0 : Int) (b1 : ByteArray) (b2 b3 : Int) (b4 : Bool) (b5 : Int),
      aBinP P t_api_Volume .eql (.agg #[.int .u64 a0, .string a1, .int .u64 a2, .int .u64 a3, .bool a4, .int .u64 a5]) (.agg #[.int .u64 b0, .string b1, .int .u64 b2, .int .u64 b3, .bool b4, .int .u64 b5]) =
        (cond (a0 == b0) (cond (a1.toList == b1.toList) (cond (a2 == b2) (cond (a3 == b3) (cond (a4 == b4) (cond (a5 == b5) (some true) (some false)) (some false)) (some false)) (some false)) (some false)) (some false)).map .bool := fun a0 a1 a2 a3 a4 a5 b0 b1 b2 b3 b4 b5 => by kernel_rfl
  unfold volV Vol.cells
  rw [h0]
  have n1 : ∀ x y : Nat, ((x : Int) == (y : Int)) = decide (x = y) := fun x y => by rw [Bool.eq_iff_iff]; simp; omega
  have n2 : (a.name.toList == b.name.toList) = decide (a.name = b.name) := by
    simp only [ByteArray.toList_eq]
    rw [Bool.eq_iff_iff, beq_iff_eq, decide_eq_true_eq, Array.toList_inj]
    constructor
    · intro h; cases hx : a.name; cases hy : b.name; rw [hx, hy] at h; simp at h; rw [h]
    · intro h; rw [h]
  rw [n1, n1, n1, n1, n2]
  unfold volEqb
  cases decide (a.id = b.id) <;> cases decide (a.name = b.name) <;> cases decide (a.size = b.size) <;> cases decide (a.root = b.root) <;> cases (a.fixed == b.fixed) <;> cases decide (a.origin = b.origin) <;> rfl
def hdEq (a b : Hd) : Bool := volEqb a.vol b.vol && blEq a.bl b.bl
theorem msamec {ha hb ma mb : Nat} {x y : Hd} (h : H (pt ha (.cells (hcs x.vol ma) t_model_held false) :: UMap .u64 ma (bkv x.bl) :: pt hb (.cells (hcs y.vol mb) t_model_held false) :: UMap .u64 mb (bkv y.bl) :: l) σ) (hx : ∀ p ∈ x.bl, p.2.length = 256) (hy : ∀ p ∈ y.bl, p.2.length = 256)
    (hQ : ∀ σ', H (pt ha (.cells (hcs x.vol ma) t_model_held false) :: UMap .u64 ma (bkv x.bl) :: pt hb (.cells (hcs y.vol mb) t_model_held false) :: UMap .u64 mb (bkv y.bl) :: l) σ' → Q (.ret (.bool (hdEq x y))) σ') : E f_model_Model_Same_c1 [.pointer (some ⟨ha, 0, none⟩), .pointer (some ⟨hb, 0, none⟩)] σ Q := by
  apply e_model_Model_Same_c1; unfold s_model_Model_Same_c1
  rw [LI h, LS h, LI h, LI h, LB h, LI h, LI h, LS h, LI h, LI h, LB h, LI h]
  have e := vol_eql x.vol y.vol
  unfold volV Vol.cells at e
  rw [e, ldB_some]
  unfold hdEq at hQ
  refine If_b (fun g => ?_) fun g => ?_
  · rw [LV h, LV h]
    refine mequal (h.re : H (UMap .u64 ma (bkv x.bl) :: UMap .u64 mb (bkv y.bl) :: pt ha (.cells (hcs x.vol ma) t_model_held false) :: pt hb (.cells (hcs y.vol mb) t_model_held false) :: l) σ) hx hy ?_
    intro σ1 h1
    rw [cB_ret]
    rw [g, Bool.true_and] at hQ
    exact hQ σ1 h1.re
  · rw [g, Bool.false_and] at hQ
    exact hQ σ h
def okW (X : MM) (w : Nat × Hd) : Bool := match X.at' w.1 with | none => false | some h => hdEq w.2 h
def sameB (M X : MM) : Bool := decide (M.next = X.next) && (decide (M.by'.length = X.by'.length) && M.by'.all (okW X))
theorem zero_ptr : zeroOf P t_p_model_held = some (.pointer none) := by kernel_rfl
theorem msame {x y : Nat} {M X : MM} (h : H (ModelA x M :: ModelA y X :: l) σ) (hM : M.Ok) (hX : X.Ok) (hQ : ∀ σ', H (ModelA x M :: ModelA y X :: l) σ' → Q (.ret (.bool (sameB M X))) σ') : E f_model_Model_Same [.pointer (some ⟨x, 0, none⟩), .pointer (some ⟨y, 0, none⟩)] σ Q := by
  obtain ⟨ma, W, hW, h⟩ := model_out h
  have h0 : H (ModelA y X :: MO x ma M.next W l) σ := by unfold MO at h ⊢; exact h.re
  obtain ⟨mb, Y, hY, h⟩ := model_out h0
  apply e_model_Model_Same; unfold s_model_Model_Same
  have h1 : H (MO x ma M.next W (MO y mb X.next Y l)) σ := by unfold MO at h ⊢; exact h.re
  have back : ∀ σ', H [pt x (.cells [.int .u64 M.next, .map (some ma)] t_model_Model false), UMap .u64 ma (W.map kvW), Star (W.map hdW), pt y (.cells [.int .u64 X.next, .map (some mb)] t_model_Model false), UMap .u64 mb (Y.map kvW), Star (Y.map hdW), Star l] σ' → H (ModelA x M :: ModelA y X :: l) σ' := by
    intro σ' h
    have h2 : H (MO y mb X.next Y (Star (MO x ma M.next W []) :: l)) σ' := by
      unfold MO
      have h3 : H [pt y (.cells [.int .u64 X.next, .map (some mb)] t_model_Model false), UMap .u64 mb (Y.map kvW), Star (Y.map hdW), Star (pt x (.cells [.int .u64 M.next, .map (some ma)] t_model_Model false) :: UMap .u64 ma (W.map kvW) :: [Star (W.map hdW)]), Star l] σ' := by
        have h4 : H (Star (pt x (.cells [.int .u64 M.next, .map (some ma)] t_model_Model false) :: UMap .u64 ma (W.map kvW) :: [Star (W.map hdW)]) :: [pt y (.cells [.int .u64 X.next, .map (some mb)] t_model_Model false), UMap .u64 mb (Y.map kvW), Star (Y.map hdW), Star l]) σ' := H_star.2 h
        exact h4.re
      exact (H_tl [_, _, _, _]).2 h3
    have h5 := ma_in hY h2
    have h6 : H (MO x ma M.next W (ModelA y X :: l)) σ' := H_star.1 (h5.re : H (Star (MO x ma M.next W []) :: ModelA y X :: l) σ')
    exact ma_in hW h6
  refine mnone h1 ?_
  rw [cB_ret]
  refine If_t rfl ?_
  refine mnone h ?_
  rw [cB_ret]
  refine If_t rfl ?_
  unfold MO at h1
  have h2 := (H_tl [_, _, _, _, _, _]).1 h1
  simp only [List.cons_append, List.nil_append] at h2
  rw [LI h2, LI h2]
  unfold sameB at hQ
  refine If_dec (fun g => ?_) fun g => ?_
  · rw [decide_eq_true (by omega), Bool.true_and] at hQ
    rw [LV h2, LV h2]
    -- the maps gone round
    have go : E f_maps_EqualFunc_map_uint64_model_held_map_uint64_model_held_uint64_model_held_model_held [.map (some ma), .map (some mb), .func (.func f_model_Model_Same_c1) #[] #[]] σ fun r σ' => r = .ret (.bool (decide (M.by'.length = X.by'.length) && M.by'.all (okW X))) ∧ H (ModelA x M :: ModelA y X :: l) σ' := by
      apply e_maps_EqualFunc_map_uint64_model_held_map_uint64_model_held_uint64_model_held_model_held; unfold s_maps_EqualFunc_map_uint64_model_held_map_uint64_model_held_uint64_model_held_model_held
      rw [umap_len (h2.re : H (UMap .u64 ma (W.map kvW) :: []) σ), ldI_some, umap_len (h2.re : H (UMap .u64 mb (Y.map kvW) :: []) σ), ldI_some]
      have l1 : M.by'.length = W.length := by rw [← hW, List.length_map]
      have l2 : X.by'.length = Y.length := by rw [← hY, List.length_map]
      rw [List.length_map, List.length_map, l1, l2]
      refine If_ne (fun g2 => ?_) fun g2 => ?_
      · rw [decide_eq_false (by omega)]
        exact ⟨rfl, back σ h2⟩
      · rw [decide_eq_true (by omega), Bool.true_and]
        refine umap_range (P := P) (e := t_uint64) (u := t_p_model_held) (h2.re : H (UMap .u64 ma (W.map kvW) :: [pt x (.cells [.int .u64 M.next, .map (some ma)] t_model_Model false), Star (W.map hdW), pt y (.cells [.int .u64 X.next, .map (some mb)] t_model_Model false), UMap .u64 mb (Y.map kvW), Star (Y.map hdW), Star l]) σ) (by kernel_rfl) ?_
        intro it σ1 h3
        refine ⟨fun m τ => ∃ R V : List WRow, m = R.length ∧ (V ++ R).Perm W ∧ (V.all fun w => okW X (w.1, w.2.2)) = true ∧ H [MIter .u64 it ma (W.map kvW) (R.map kvW), pt x (.cells [.int .u64 M.next, .map (some ma)] t_model_Model false), Star (W.map hdW), pt y (.cells [.int .u64 X.next, .map (some mb)] t_model_Model false), UMap .u64 mb (Y.map kvW), Star (Y.map hdW), Star l] τ, ⟨_, W, [], rfl, by simp, rfl, h3⟩, ?_⟩
        rintro m τ ⟨R, V, rfl, hP, hV, h4⟩
        unfold s_maps_EqualFunc_map_uint64_model_held_map_uint64_model_held_uint64_model_held_model_held_b1
        have hall : M.by'.all (okW X) = W.all fun w => okW X (w.1, w.2.2) := by rw [← hW, List.all_map]; rfl
        refine miter_next h4 ?_ ?_
        · intro hnil
          have hR : R = [] := by simpa using hnil
          subst hR
          simp only
          have x0 : xExt (.tuple #[.bool false]) 0 = some (.bool false) := rfl
          rw [x0, ldB_some]
          refine If_f rfl ?_
          rw [hall, ← all_perm hP, List.append_nil, hV]
          exact ⟨rfl, back τ ((miter_map h4).re)⟩
        · intro R1 p R2 τ1 hR h5 he
          obtain ⟨A, T, rfl, rfl, hT⟩ := List.map_eq_append_iff.1 hR
          obtain ⟨w, B, rfl, rfl, rfl⟩ := List.map_eq_cons_iff.1 hT
          simp only
          have x0 : xExt (.tuple #[.bool true, .int .u64 (kvW w).1, (kvW w).2]) 0 = some (.bool true) := rfl
          rw [x0, ldB_some]
          refine If_t rfl ?_
          rw [he, om_some, xExt0, ldI_some, xExt1, om_some]
          have hw : w ∈ W := hP.subset (by simp)
          have e0 : ((kvW w).1 : Int) = (w.1 : Int) := rfl
          rw [e0, umap_lookup (P := P) (e := t_p_model_held) (z := .pointer none) (h5.re : H (UMap .u64 mb (Y.map kvW) :: []) τ1) (by kernel_rfl) zero_ptr]
          have no : ∀ τ2, okW X (w.1, w.2.2) = false → H [MIter .u64 it ma (W.map kvW) (A.map kvW ++ B.map kvW), pt x (.cells [.int .u64 M.next, .map (some ma)] t_model_Model false), Star (W.map hdW), pt y (.cells [.int .u64 X.next, .map (some mb)] t_model_Model false), UMap .u64 mb (Y.map kvW), Star (Y.map hdW), Star l] τ2 →
              Out.ret (.bool false) = Out.ret (.bool (M.by'.all (okW X))) ∧ H (ModelA x M :: ModelA y X :: l) τ2 := by
            intro τ2 hf h6
            have : (W.all fun w => okW X (w.1, w.2.2)) = false := by
              rw [List.all_eq_false]; exact ⟨w, hw, by rw [hf]; decide⟩
            rw [hall, this]
            exact ⟨rfl, back τ2 ((miter_map h6).re)⟩
          by_cases hy : ∃ u ∈ Y, u.1 = w.1
          · obtain ⟨u, hu, hid⟩ := hy
            have hk1 := kv_some (keys_nd hY hX.nd) hu
            rw [hid] at hk1
            rw [hk1]
            have hat := at_some hY hX.nd hu
            rw [hid] at hat
            have hok : okW X (w.1, w.2.2) = hdEq w.2.2 u.2.2 := by unfold okW; simp only; rw [hat]
            simp only [okV, cond_true, om_some, xExt0, xExt1, ldB_some]
            refine If_f rfl ?_
            have e2 : (kvW w).2 = .pointer (some ⟨w.2.1, 0, none⟩) := rfl
            rw [e2]
            show E f_model_Model_Same_c1 [.pointer (some ⟨w.2.1, 0, none⟩), .pointer (some ⟨u.2.1, 0, none⟩)] τ1 _
            obtain ⟨k, hk, hkw⟩ := List.getElem_of_mem hw
            have hk' : W[k]? = some w := by rw [List.getElem?_eq_getElem hk, hkw]
            obtain ⟨j, hj, hju⟩ := List.getElem_of_mem hu
            have hj' : Y[j]? = some u := by rw [List.getElem?_eq_getElem hj, hju]
            obtain ⟨b1, h6⟩ := hd_open (h5.re : H (Star (W.map hdW) :: [Star (Y.map hdW), MIter .u64 it ma (W.map kvW) (A.map kvW ++ B.map kvW), pt x (.cells [.int .u64 M.next, .map (some ma)] t_model_Model false), pt y (.cells [.int .u64 X.next, .map (some mb)] t_model_Model false), UMap .u64 mb (Y.map kvW), Star l]) τ1) hk'
            obtain ⟨b2, h7⟩ := hd_open (h6.re : H (Star (Y.map hdW) :: [pt w.2.1 (.cells (hcs w.2.2.vol b1) t_model_held false), UMap .u64 b1 (bkv w.2.2.bl), Star ((W.map hdW).set k emp), MIter .u64 it ma (W.map kvW) (A.map kvW ++ B.map kvW), pt x (.cells [.int .u64 M.next, .map (some ma)] t_model_Model false), pt y (.cells [.int .u64 X.next, .map (some mb)] t_model_Model false), UMap .u64 mb (Y.map kvW), Star l]) τ1) hj'
            refine msamec (h7.re : H (pt w.2.1 (.cells (hcs w.2.2.vol b1) t_model_held false) :: UMap .u64 b1 (bkv w.2.2.bl) :: pt u.2.1 (.cells (hcs u.2.2.vol b2) t_model_held false) :: UMap .u64 b2 (bkv u.2.2.bl) :: [Star ((Y.map hdW).set j emp), Star ((W.map hdW).set k emp), MIter .u64 it ma (W.map kvW) (A.map kvW ++ B.map kvW), pt x (.cells [.int .u64 M.next, .map (some ma)] t_model_Model false), pt y (.cells [.int .u64 X.next, .map (some mb)] t_model_Model false), UMap .u64 mb (Y.map kvW), Star l]) τ1)
              (fun p hp => ((hM.bl _ (ok_mem hW hw)).2 p hp).1) (fun p hp => ((hX.bl _ (ok_mem hY hu)).2 p hp).1) ?_
            intro τ2 h8
            rw [cB_ret]
            have h9 := hd_shut hj' (h8.re : H (pt u.2.1 (.cells (hcs u.2.2.vol b2) t_model_held false) :: UMap .u64 b2 (bkv u.2.2.bl) :: Star ((Y.map hdW).set j emp) :: [pt w.2.1 (.cells (hcs w.2.2.vol b1) t_model_held false), UMap .u64 b1 (bkv w.2.2.bl), Star ((W.map hdW).set k emp), MIter .u64 it ma (W.map kvW) (A.map kvW ++ B.map kvW), pt x (.cells [.int .u64 M.next, .map (some ma)] t_model_Model false), pt y (.cells [.int .u64 X.next, .map (some mb)] t_model_Model false), UMap .u64 mb (Y.map kvW), Star l]) τ2)
            have h10 := hd_shut hk' (h9.re : H (pt w.2.1 (.cells (hcs w.2.2.vol b1) t_model_held false) :: UMap .u64 b1 (bkv w.2.2.bl) :: Star ((W.map hdW).set k emp) :: [Star (Y.map hdW), MIter .u64 it ma (W.map kvW) (A.map kvW ++ B.map kvW), pt x (.cells [.int .u64 M.next, .map (some ma)] t_model_Model false), pt y (.cells [.int .u64 X.next, .map (some mb)] t_model_Model false), UMap .u64 mb (Y.map kvW), Star l]) τ2)
            unfold s_maps_EqualFunc_map_uint64_model_held_map_uint64_model_held_uint64_model_held_model_held_k9
            cases hq : hdEq w.2.2 u.2.2 with
            | true =>
              refine If_f rfl ?_
              refine ⟨(A ++ B).length, by simp, A ++ B, V ++ [w], rfl, ?_, ?_, ?_⟩
              · refine List.Perm.trans ?_ hP
                simp only [List.append_assoc]
                refine List.Perm.append_left V ?_
                simpa using (List.perm_middle (a := w) (l₁ := A) (l₂ := B)).symm
              · rw [List.all_append, hV, List.all_cons, hok, hq]; rfl
              · rw [List.map_append]; exact h10.re
            | false =>
              refine If_t rfl ?_
              exact no τ2 (by rw [hok, hq]) h10.re
          · have hno : ∀ u ∈ Y, u.1 ≠ w.1 := fun u hu e => hy ⟨u, hu, e⟩
            rw [kv_none hno]
            simp only [okV, cond_true, om_some, xExt0, xExt1, ldB_some]
            refine If_t rfl ?_
            unfold s_maps_EqualFunc_map_uint64_model_held_map_uint64_model_held_uint64_model_held_model_held_k9
            refine If_t rfl ?_
            refine no τ1 ?_ h5
            unfold okW; simp only; rw [at_none hY hno]
    have hmono : EMono E := by rw [E_eq]; exact EMono.ev
    refine hmono _ _ _ _ _ ?_ go
    rintro r σ' ⟨rfl, h3⟩
    rw [cB_ret]
    exact hQ σ' h3
  · rw [decide_eq_false (by omega), Bool.false_and] at hQ
    exact hQ σ (back σ h2)
end Go.Ax.C
set_option maxRecDepth 100000
namespace Go.Ax.C
open Go.Proofs Go.RowKit

variable {l r m : List Assn} {σ : AHeap} {Q : RK}

theorem veq_map {mb : Nat} {p : Prop} : (veq1 (.map (some mb)) (.map (some mb)) = true ∧ p) = p := by simp [veq1, veq, veq0]
theorem veq_vol {a0 : Int} {a1 : ByteArray} {a2 a3 : Int} {a4 : Bool} {a5 : Int} {p : Prop} : (veq1 (.agg #[.int .u64 a0, .string a1, .int .u64 a2, .int .u64 a3, .bool a4, .int .u64 a5]) (.agg #[.int .u64 a0, .string a1, .int .u64 a2, .int .u64 a3, .bool a4, .int .u64 a5]) = true ∧ p) = p := by simp [veq1, veq, veqs, veq0]
theorem mcopy {x : Nat} {M : MM} (h : H (ModelA x M :: l) σ) (hM : M.Ok) (hQ : ∀ y M' σ', M'.next = M.next → M'.by'.Perm M.by' → H (ModelA y M' :: ModelA x M :: l) σ' → Q (.ret (.pointer (some ⟨y, 0, none⟩))) σ') : E f_model_Model_Copy [.pointer (some ⟨x, 0, none⟩)] σ Q := by
  obtain ⟨ma, W, hW, h⟩ := model_out h
  apply e_model_Model_Copy; unfold s_model_Model_Copy
  refine mnone h ?_
  rw [cB_ret]
  refine If_f rfl ?_
  unfold MO at h
  rw [LI h]
  refine umap_new (k := .u64) h (by rfl) ?_
  intro mc σ1 h1
  refine On_one rfl ?_
  refine nw h1 ?_
  intro y σ2 h2
  have h2 := (H_tl [_, _, _, _, _]).1 h2
  simp only [List.cons_append, List.nil_append] at h2
  rw [LV h2]
  refine umap_range (P := P) (e := t_uint64) (u := t_p_model_held) (h2.re : H (UMap .u64 ma (W.map kvW) :: [pt y (.cells [.int .u64 M.next, .map (some mc)] t_model_Model false), UMap .u64 mc [], pt x (.cells [.int .u64 M.next, .map (some ma)] t_model_Model false), Star (W.map hdW), Star l]) σ2) (by kernel_rfl) ?_
  intro it σ3 h3
  refine ⟨fun m τ => ∃ R V U : List WRow, m = R.length ∧ (V ++ R).Perm W ∧ U.map (fun w => (w.1, w.2.2)) = V.map (fun w => (w.1, w.2.2)) ∧ H [MIter .u64 it ma (W.map kvW) (R.map kvW), pt y (.cells [.int .u64 M.next, .map (some mc)] t_model_Model false), UMap .u64 mc (U.map kvW), Star (U.map hdW), pt x (.cells [.int .u64 M.next, .map (some ma)] t_model_Model false), Star (W.map hdW), Star l] τ,
    ⟨_, W, [], [], rfl, by simp, rfl, ?_⟩, ?_⟩
  · have h4 : H (emp :: MIter .u64 it ma (W.map kvW) (W.map kvW) :: [pt y (.cells [.int .u64 M.next, .map (some mc)] t_model_Model false), UMap .u64 mc [], pt x (.cells [.int .u64 M.next, .map (some ma)] t_model_Model false), Star (W.map hdW), Star l]) σ3 := H_emp.2 h3
    show H [MIter .u64 it ma (W.map kvW) (W.map kvW), pt y (.cells [.int .u64 M.next, .map (some mc)] t_model_Model false), UMap .u64 mc [], emp, pt x (.cells [.int .u64 M.next, .map (some ma)] t_model_Model false), Star (W.map hdW), Star l] σ3
    exact h4.re
  rintro m τ ⟨R, V, U, rfl, hP, hU, h4⟩
  unfold s_model_Model_Copy_b1
  refine miter_next h4 ?_ ?_
  · intro hnil
    have hR : R = [] := by simpa using hnil
    subst hR
    simp only
    have x0 : xExt (.tuple #[.bool false]) 0 = some (.bool false) := rfl
    rw [x0, ldB_some]
    refine If_f rfl ?_
    refine hQ y ⟨M.next, U.map fun w => (w.1, w.2.2)⟩ τ rfl ?_ ?_
    · show (U.map fun w => (w.1, w.2.2)).Perm M.by'
      rw [hU, ← hW]
      have : V.Perm W := by simpa using hP
      exact this.map _
    · have h5 := miter_map h4
      have h6 : H (MO x ma M.next W (Star [pt y (.cells [.int .u64 M.next, .map (some mc)] t_model_Model false), UMap .u64 mc (U.map kvW), Star (U.map hdW)] :: l)) τ := by
        unfold MO
        have h7 : H (Star [pt y (.cells [.int .u64 M.next, .map (some mc)] t_model_Model false), UMap .u64 mc (U.map kvW), Star (U.map hdW)] :: [UMap .u64 ma (W.map kvW), pt x (.cells [.int .u64 M.next, .map (some ma)] t_model_Model false), Star (W.map hdW), Star l]) τ := H_star.2 (h5.re : H [pt y (.cells [.int .u64 M.next, .map (some mc)] t_model_Model false), UMap .u64 mc (U.map kvW), Star (U.map hdW), UMap .u64 ma (W.map kvW), pt x (.cells [.int .u64 M.next, .map (some ma)] t_model_Model false), Star (W.map hdW), Star l] τ)
        exact (H_tl [_, _, _, _]).2 (h7.re : H [pt x (.cells [.int .u64 M.next, .map (some ma)] t_model_Model false), UMap .u64 ma (W.map kvW), Star (W.map hdW), Star [pt y (.cells [.int .u64 M.next, .map (some mc)] t_model_Model false), UMap .u64 mc (U.map kvW), Star (U.map hdW)], Star l] τ)
      have h8 := ma_in hW h6
      have h9 : H (MO y mc M.next U (ModelA x M :: l)) τ := H_star.1 (h8.perm (.swap _ _ _))
      exact ma_in (M := ⟨M.next, U.map fun w => (w.1, w.2.2)⟩) rfl h9
  · intro R1 p R2 τ1 hR h5 he
    obtain ⟨A, T, rfl, rfl, hT⟩ := List.map_eq_append_iff.1 hR
    obtain ⟨w, B, rfl, rfl, rfl⟩ := List.map_eq_cons_iff.1 hT
    simp only
    have x0 : xExt (.tuple #[.bool true, .int .u64 (kvW w).1, (kvW w).2]) 0 = some (.bool true) := rfl
    rw [x0, ldB_some]
    refine If_t rfl ?_
    rw [he, om_some, xExt0, ldI_some, xExt1, om_some]
    have hw : w ∈ W := hP.subset (by simp)
    obtain ⟨k, hk, hkw⟩ := List.getElem_of_mem hw
    have hk' : W[k]? = some w := by rw [List.getElem?_eq_getElem hk, hkw]
    have e2 : (kvW w).2 = .pointer (some ⟨w.2.1, 0, none⟩) := rfl
    have e1 : ((kvW w).1 : Int) = (w.1 : Int) := rfl
    rw [e2, e1]
    obtain ⟨bm, h6⟩ := hd_open (h5.re : H (Star (W.map hdW) :: [MIter .u64 it ma (W.map kvW) (A.map kvW ++ B.map kvW), pt y (.cells [.int .u64 M.next, .map (some mc)] t_model_Model false), UMap .u64 mc (U.map kvW), Star (U.map hdW), pt x (.cells [.int .u64 M.next, .map (some ma)] t_model_Model false), Star l]) τ1) hk'
    rw [LV h6]
    simp only [nil_ptr, om_some, fieldAddr_ptr, Nat.zero_add, Nat.add_zero]
    rw [AI h6, AS h6, AI h6, AI h6, AB h6, AI h6, AV h6]
    refine mclone (h6.re : H (UMap .u64 bm (bkv w.2.2.bl) :: [pt w.2.1 (.cells (hcs w.2.2.vol bm) t_model_held false), Star ((W.map hdW).set k emp), MIter .u64 it ma (W.map kvW) (A.map kvW ++ B.map kvW), pt y (.cells [.int .u64 M.next, .map (some mc)] t_model_Model false), UMap .u64 mc (U.map kvW), Star (U.map hdW), pt x (.cells [.int .u64 M.next, .map (some ma)] t_model_Model false), Star l]) τ1) ?_
    intro bm' τ2 h7
    rw [cV_ret, LV h7, veq_map, AI h7, AS h7, AI h7, AI h7, AB h7, AI h7, veq_vol]
    refine On_one rfl ?_
    refine nw h7 ?_
    intro hb τ3 h8
    rw [LV h8, veq_map]
    refine umap_update (P := P) (e := t_p_model_held) (h8.re : H (UMap .u64 mc (U.map kvW) :: [pt hb (.cells (hcs w.2.2.vol bm') t_model_held false), UMap .u64 bm' (bkv w.2.2.bl), pt w.2.1 (.cells (hcs w.2.2.vol bm) t_model_held false), UMap .u64 bm (bkv w.2.2.bl), Star ((W.map hdW).set k emp), MIter .u64 it ma (W.map kvW) (A.map kvW ++ B.map kvW), pt y (.cells [.int .u64 M.next, .map (some mc)] t_model_Model false), Star (U.map hdW), pt x (.cells [.int .u64 M.next, .map (some ma)] t_model_Model false), Star l]) τ3) (by kernel_rfl) ?_
    intro τ4 h9
    have hWn := keys_nd hW hM.nd
    have hno : mget (U.map kvW) w.1 = none := by
      refine mget_none fun q hq e => ?_
      obtain ⟨u, hu, rfl⟩ := List.mem_map.1 hq
      have hm : (u.1, u.2.2) ∈ V.map fun w => (w.1, w.2.2) := by rw [← hU]; exact List.mem_map.2 ⟨u, hu, rfl⟩
      obtain ⟨v, hv, hve⟩ := List.mem_map.1 hm
      have h10 : ((V ++ (A ++ w :: B)).map (·.1)).Nodup := (hP.map _).nodup_iff.2 hWn
      rw [List.map_append, List.nodup_append] at h10
      refine h10.2.2 v.1 (List.mem_map_of_mem hv) w.1 (by simp) ?_
      simp only [Prod.mk.injEq] at hve
      rw [hve.1]; exact e
    rw [mset_new hno] at h9
    have h10 := hd_shut hk' (h9.re : H (pt w.2.1 (.cells (hcs w.2.2.vol bm) t_model_held false) :: UMap .u64 bm (bkv w.2.2.bl) :: Star ((W.map hdW).set k emp) :: [UMap .u64 mc (U.map kvW ++ [(w.1, .pointer (some ⟨hb, 0, none⟩))]), pt hb (.cells (hcs w.2.2.vol bm') t_model_held false), UMap .u64 bm' (bkv w.2.2.bl), MIter .u64 it ma (W.map kvW) (A.map kvW ++ B.map kvW), pt y (.cells [.int .u64 M.next, .map (some mc)] t_model_Model false), Star (U.map hdW), pt x (.cells [.int .u64 M.next, .map (some ma)] t_model_Model false), Star l]) τ4)
    have h11 : H (hdW (w.1, hb, w.2.2) :: Star (U.map hdW) :: [UMap .u64 mc (U.map kvW ++ [(w.1, .pointer (some ⟨hb, 0, none⟩))]), Star (W.map hdW), MIter .u64 it ma (W.map kvW) (A.map kvW ++ B.map kvW), pt y (.cells [.int .u64 M.next, .map (some mc)] t_model_Model false), pt x (.cells [.int .u64 M.next, .map (some ma)] t_model_Model false), Star l]) τ4 :=
      H_ex.2 ⟨bm', by rw [H_sep]; exact (h10.re : H (pt hb (.cells (hcs w.2.2.vol bm') t_model_held false) :: UMap .u64 bm' (bkv w.2.2.bl) :: Star (U.map hdW) :: [UMap .u64 mc (U.map kvW ++ [(w.1, .pointer (some ⟨hb, 0, none⟩))]), Star (W.map hdW), MIter .u64 it ma (W.map kvW) (A.map kvW ++ B.map kvW), pt y (.cells [.int .u64 M.next, .map (some mc)] t_model_Model false), pt x (.cells [.int .u64 M.next, .map (some ma)] t_model_Model false), Star l]) τ4)⟩
    have h12 : H (Star ((U ++ [(w.1, hb, w.2.2)]).map hdW) :: [UMap .u64 mc (U.map kvW ++ [(w.1, .pointer (some ⟨hb, 0, none⟩))]), Star (W.map hdW), MIter .u64 it ma (W.map kvW) (A.map kvW ++ B.map kvW), pt y (.cells [.int .u64 M.next, .map (some mc)] t_model_Model false), pt x (.cells [.int .u64 M.next, .map (some ma)] t_model_Model false), Star l]) τ4 := by
      rw [List.map_append]
      refine H_star.2 ?_
      rw [List.append_assoc]
      have h13 := H_star.1 (h11.perm (.swap _ _ _))
      exact h13
    refine ⟨(A ++ B).length, by simp, A ++ B, V ++ [w], U ++ [(w.1, hb, w.2.2)], rfl, ?_, ?_, ?_⟩
    · refine List.Perm.trans ?_ hP
      simp only [List.append_assoc]
      refine List.Perm.append_left V ?_
      simpa using (List.perm_middle (a := w) (l₁ := A) (l₂ := B)).symm
    · rw [List.map_append, List.map_append, hU]; rfl
    · rw [List.map_append, List.map_append]
      have e9 : List.map kvW [(w.1, hb, w.2.2)] = [(w.1, .pointer (some ⟨hb, 0, none⟩))] := rfl
      rw [e9]
      exact h12.re

/-! ### Models in whatever order -/
def Like (M M' : MM) : Prop := M'.next = M.next ∧ M'.by'.Perm M.by'
theorem Like.refl (M : MM) : Like M M := ⟨rfl, .refl _⟩
theorem Like.ok {M M' : MM} (h : Like M M') (hM : M.Ok) : M'.Ok := by
  obtain ⟨h1, h2⟩ := h
  refine ⟨by rw [h1]; exact hM.lo, by rw [h1]; exact hM.hi, fun w hw => by rw [h1]; exact hM.id w (h2.mem_iff.1 hw), (h2.map _).nodup_iff.2 hM.nd, (h2.map _).nodup_iff.2 hM.nm, by rw [h2.length_eq]; exact hM.len, fun w hw => hM.sz w (h2.mem_iff.1 hw), fun w hw => hM.bl w (h2.mem_iff.1 hw)⟩
theorem at_of_mem {M : MM} (hn : (M.by'.map (·.1)).Nodup) {w : Nat × Hd} (hw : w ∈ M.by') : M.at' w.1 = some w.2 := by
  unfold MM.at'
  obtain ⟨A, B, e2⟩ := List.append_of_mem hw
  rw [e2] at hn ⊢
  simp only [List.map_append, List.map_cons, List.nodup_append] at hn
  rw [List.find?_append, List.find?_eq_none.2]
  · simp
  · intro y hy
    have := hn.2.2 y.1 (List.mem_map_of_mem (f := fun w : Nat × Hd => w.1) hy) w.1 (by simp)
    simpa using this
theorem okP_self {a : Blks} (hn : (a.map (·.1)).Nodup) {p : Nat × List UInt8} (hp : p ∈ a) : okP a p = true := by
  unfold okP
  obtain ⟨A, B, e2⟩ := List.append_of_mem hp
  rw [e2] at hn ⊢
  simp only [List.map_append, List.map_cons, List.nodup_append] at hn
  rw [List.find?_append, List.find?_eq_none.2]
  · simp
  · intro y hy
    have := hn.2.2 y.1 (List.mem_map_of_mem (f := fun w : Nat × List UInt8 => w.1) hy) p.1 (by simp)
    simpa using this
theorem blEq_self {a : Blks} (hn : (a.map (·.1)).Nodup) : blEq a a = true := by
  unfold blEq
  rw [decide_eq_true rfl, Bool.true_and, List.all_eq_true]
  exact fun p hp => okP_self hn hp
theorem hdEq_self {h : Hd} (hn : (h.bl.map (·.1)).Nodup) : hdEq h h = true := by
  unfold hdEq
  rw [(volEqb_iff _ _).2 rfl, blEq_self hn]; rfl
theorem same_like {M M' : MM} (h : Like M M') (hM : M.Ok) : sameB M M' = true := by
  have hM' := h.ok hM
  unfold sameB
  rw [decide_eq_true h.1.symm, decide_eq_true h.2.length_eq.symm, Bool.true_and, Bool.true_and, List.all_eq_true]
  intro w hw
  unfold okW
  rw [at_of_mem hM'.nd (h.2.mem_iff.2 hw)]
  exact hdEq_self (hM.bl w hw).1
end Go.Ax.C
set_option maxRecDepth 100000
namespace Go.Ax.C
open Go.Proofs Go.RowKit

variable {l r m : List Assn} {σ : AHeap} {Q : RK}

theorem pt_bts {b e : Nat} {q : Bool} {x : List UInt8} (h : H (pt b (.cells (bv x) e q) :: l) σ) (hx : x.length < OPEN) : Bts σ (.slice (some ⟨b, 0, none⟩) x.length x.length) x := by
  refine .inr ⟨b, 0, x.length, bv x, rfl, CapOk.exact hx, h.row 0 rfl, ?_, by simp⟩
  rw [List.drop_zero, List.take_of_length_le (by simp)]
theorem conv_sl {b n c e : Nat} {q : Bool} {x : List Value} (h : H (pt b (.cells x e q) :: l) σ) : aConv P t_sl_uint8 t_sl_uint8 (.slice (some ⟨b, 0, none⟩) n c) σ = some (.slice (some ⟨b, 0, none⟩) n c) := by
  have e1 : P.underlying t_sl_uint8 = some (.slice t_uint8) := by kernel_rfl
  have e2 : P.underlying t_uint8 = some (.int .u8) := by kernel_rfl
  have e3 := h.get0.1
  have e4 : Nat.beq t_sl_uint8 t_sl_uint8 = true := by kernel_rfl
  simp only [aConv, e1, e2, e3, e4, Option.isNone_none, Bool.and_self, cond_true]
def strB (x : List UInt8) : ByteArray := ⟨x.toArray⟩
theorem conv_strB {e n : Nat} {w : Value} {x : List UInt8} (h : H (Own e 1 w n (bv x) :: l) σ) : aConv P t_sl_uint8 t_string w σ = some (.string (strB x)) := by
  obtain ⟨hs, hn, a, c, rfl⟩ := h.own_src 0 rfl
  have h1 : ∀ a n c, aConv P t_sl_uint8 t_string (.slice a n c) σ = aBytesStr (.slice a n c) σ := fun a n c => by kernel_rfl
  rw [h1, bytesStr_src hs]; rfl
theorem strB_inj {x y : List UInt8} : strB x = strB y ↔ x = y := by
  constructor
  · intro h; unfold strB at h
    have := congrArg (·.data.toList) h
    simpa using this
  · rintro rfl; rfl
theorem bne_ba (a b : ByteArray) : aBin (some .string) .neq (.string a) (.string b) = some (.bool (!decide (a = b))) := by
  simp only [aBin, aStr, ByteArray.toList_eq]
  by_cases e : a = b
  · simp [e]
  · have : ¬ a.data = b.data := fun h => e (by cases a; cases b; simp at h; rw [h])
    simp [e, this]
theorem eq_str {x y : ByteArray} : aBin (some .string) .eql (.string x) (.string y) = some (.bool (decide (x = y))) := beq_ba x y
def nA : ByteArray := ⟨#[97]⟩
def nB : ByteArray := ⟨#[98]⟩
def nS : ByteArray := ⟨#[115]⟩
def digits : List UInt8 := [48, 49, 50, 51, 52, 53, 54, 55, 56, 57]
def wk1 : MM := MM.createR ⟨1, []⟩ nA 1000 false
def wk2 : MM := wk1.wrR 1 250 digits false
def wk3 : MM := wk2.snapR nA nS true false
def wk4 : MM := wk3.zeroR 1 252 4 false
def wk5 : MM := wk4.trimR 1 1 510 false
def wk6 : MM := wk5.rszR nA 251 false
def wk7 : MM := wk6.rszR nA 300 false
theorem wok1 : wk1.Ok := MM.Ok.new.createR _ _ _ (by decide)
theorem wok2 : wk2.Ok := wok1.wrR _ _ _ _
theorem wok3 : wk3.Ok := wok2.snapR _ _ _ _ (of_decide_eq_true (by kernel_rfl))
theorem wok4 : wk4.Ok := wok3.zeroR _ _ _ _
theorem wok5 : wk5.Ok := wok4.trimR _ _ _ _
theorem wok6 : wk6.Ok := wok5.rszR _ _ _
theorem wok7 : wk7.Ok := wok6.rszR _ _ _
theorem createR_no {M : MM} {s : ByteArray} {n : Nat} {b : Bool} (h : volE M s n b ≠ 0) : M.createR s n b = M := by unfold MM.createR; rw [if_neg h]
theorem wrR_no {M : MM} {id off : Nat} {d : List UInt8} {b : Bool} (h : chgE M id off d.length true b ≠ 0) : M.wrR id off d b = M := by unfold MM.wrR; rw [if_neg h]

theorem mwakes (h : H l σ) (hQ : ∀ σ', H l σ' → Q (.ret (.bool true)) σ') : E f_law20_wakes [] σ Q := by
  apply e_law20_wakes; unfold s_law20_wakes
  refine mnew h ?_
  intro x σ1 h1
  rw [cV_ret]
  refine mcreateA (s := nA) (n := 1000) h1 .new ?_
  intro σ2 h2
  rw [c2_ret, tI_int, tI_int]
  refine mcreateA (s := nA) (n := 5) h2 wok1 ?_
  intro σ3 h3
  have e1 : wk1.createR nA 5 true = wk1 := createR_no (of_decide_eq_true (by kernel_rfl))
  have h3 : H (ModelA x wk1 :: l) σ3 := by rw [← e1]; exact h3
  rw [c2_ret, tI_int, tI_int]
  refine mcreateA (s := nB) (n := 5) h3 wok1 ?_
  intro σ4 h4
  have e2 : wk1.createR nB 5 true = wk1 := createR_no (of_decide_eq_true (by kernel_rfl))
  rw [e2] at h4
  rw [c2_ret, tI_int, tI_int]
  refine If_f (by kernel_rfl) ?_
  refine If_f (by kernel_rfl) ?_
  refine If_f (by kernel_rfl) ?_
  refine If_f (by kernel_rfl) ?_
  refine nw h4 ?_
  intro b1 σ5 h5
  have h5 : H (pt b1 (.cells (bv digits) t_uint8 false) :: ModelA x wk1 :: l) σ5 := h5
  rw [conv_sl h5, om_some]
  refine mwriteA (d := digits) (h5.perm (.swap _ _ _)) wok1 (fun τ h => pt_bts h (by decide)) (by decide) ?_
  intro σ6 h6
  have h6 : H (ModelA x wk2 :: pt b1 (.cells (bv digits) t_uint8 false) :: l) σ6 := h6
  have h6 : H (ModelA x wk2 :: l) σ6 := h6.re
  rw [cI_ret]
  unfold s_law20_wakes_k6
  refine If_f (by kernel_rfl) ?_
  refine msnapshotA (s := nA) (as' := nS) h6 wok2 ?_
  intro σ7 h7
  have h7 : H (ModelA x wk3 :: l) σ7 := h7
  rw [c2_ret, tI_int, tI_int]
  refine If_f (by kernel_rfl) ?_
  refine If_f (by kernel_rfl) ?_
  refine mzeroA (id := 1) (off := 252) (n := 4) h7 wok3 ?_
  intro σ8 h8
  have h8 : H (ModelA x wk4 :: l) σ8 := h8
  rw [cI_ret]
  refine If_f (by kernel_rfl) ?_
  refine nw h8 ?_
  intro b2 σ9 h9
  have h9 : H (pt b2 (.cells (bv [120]) t_uint8 false) :: ModelA x wk4 :: l) σ9 := h9
  rw [conv_sl h9, om_some]
  refine mwriteA (id := 2) (off := 0) (d := [120]) (h9.perm (.swap _ _ _)) wok4 (fun τ h => pt_bts h (by decide)) (by decide) ?_
  intro σ10 h10
  rw [wrR_no (of_decide_eq_true (by kernel_rfl))] at h10
  have h10 : H (ModelA x wk4 :: l) σ10 := h10.re
  rw [cI_ret]
  refine If_f (by kernel_rfl) ?_
  refine nw h10 ?_
  intro b3 σ11 h11
  have h11 : H (pt b3 (.cells (bv [120, 121]) t_uint8 false) :: ModelA x wk4 :: l) σ11 := h11
  rw [conv_sl h11, om_some]
  refine mwriteA (id := 1) (off := 999) (d := [120, 121]) (h11.perm (.swap _ _ _)) wok4 (fun τ h => pt_bts h (by decide)) (by decide) ?_
  intro σ12 h12
  rw [wrR_no (of_decide_eq_true (by kernel_rfl))] at h12
  have h12 : H (ModelA x wk4 :: l) σ12 := h12.re
  rw [cI_ret]
  refine If_f (by kernel_rfl) ?_
  refine mtrimA (id := 1) (off := 1) (n := 510) h12 wok4 ?_
  intro σ13 h13
  have h13 : H (ModelA x wk5 :: l) σ13 := h13
  rw [cI_ret]
  unfold s_law20_wakes_k9
  refine If_f (by kernel_rfl) ?_
  refine mreadA (id := 2) (off := 250) (n := 4) h13 wok5 ?_
  intro v1 σ14 h14
  rw [c2_ret, tI_int]
  refine mreadA (id := 1) (off := 250) (n := 8) (h14.perm (.swap _ _ _)) wok5 ?_
  intro v2 σ15 h15
  rw [c2_ret, tI_int]
  refine If_f (by kernel_rfl) ?_
  refine If_f (by kernel_rfl) ?_
  rw [conv_strB (w := v1) (h15.re : H (Own t_uint8 1 v1 (readR wk5 2 250 4).length (bv (readR wk5 2 250 4)) :: ModelA x wk5 :: l) σ15), ldS_some, bne_ba, ldB_some]
  refine If_f (by kernel_rfl) ?_
  rw [conv_strB (w := v2) (h15.re : H (Own t_uint8 1 v2 (readR wk5 1 250 8).length (bv (readR wk5 1 250 8)) :: ModelA x wk5 :: l) σ15), ldS_some, bne_ba, ldB_some]
  refine If_f (by kernel_rfl) ?_
  refine mresizeA (s := nA) (n := 251) (h15.re : H (ModelA x wk5 :: l) σ15) wok5 ?_
  intro σ16 h16
  have h16 : H (ModelA x wk6 :: l) σ16 := h16
  rw [cI_ret]
  refine If_f (by kernel_rfl) ?_
  refine mresizeA (s := nA) (n := 300) h16 wok6 ?_
  intro σ17 h17
  have h17 : H (ModelA x wk7 :: l) σ17 := h17
  rw [cI_ret]
  unfold s_law20_wakes_k13
  refine If_f (by kernel_rfl) ?_
  refine mreadA (id := 1) (off := 250) (n := 2) h17 wok7 ?_
  intro v3 σ18 h18
  rw [c2_ret, tI_int]
  refine If_t (by kernel_rfl) ?_
  rw [conv_strB (w := v3) h18, ldS_some, eq_str, ldB_some]
  refine If_t (by kernel_rfl) ?_
  refine mlist (h18.perm (.swap _ _ _)) wok7 ?_
  intro v4 L σ19 hp _ h19
  rw [cV_ret]
  obtain ⟨_, _, a, c, hv4⟩ := h19.own_src 0 rfl
  rw [hv4, lenS_slice, ldI_some]
  have hl : L.length = 2 := by rw [hp.length_eq]; kernel_rfl
  refine If_t (by rw [hl]; rfl) ?_
  refine mcopy (h19.re : H (ModelA x wk7 :: l) σ19) wok7 ?_
  intro y M' σ20 hn hP h20
  rw [cV_ret]
  have hL : Like wk7 M' := ⟨hn, hP⟩
  refine msame (h20.perm (.swap _ _ _)) wok7 (hL.ok wok7) ?_
  intro σ21 h21
  rw [cB_ret, same_like hL wok7]
  exact hQ σ21 h21.re
end Go.Ax.C
set_option linter.unusedVariables false
set_option maxRecDepth 100000
namespace Go.Ax.C
open Go.Proofs
/-- (*cistern/model.Model).none -/
def s_model_Model_none_nil (E : EvT) (Q : RK) (σ : AHeap) : Prop :=
 Q (.ret (.bool true)) σ
theorem q_model_Model_none_nil (E : EvT) (Q : RK) (σ : AHeap) : xfn P E Try.f81 (fun _ => none) (fun _ => .v) [(.pointer none)] σ Q = s_model_Model_none_nil E Q σ := by kernel_rfl
theorem e_model_Model_none_nil {Q : RK} {σ : AHeap} (h : s_model_Model_none_nil E Q σ) : E f_model_Model_none [(.pointer none)] σ Q :=
  exfn Try.func81 _ _ (by kernel_rfl) (Eq.mpr (q_model_Model_none_nil E Q σ) h)

/-- (*cistern/model.Model).Create -/
def s_model_Model_Create_nil (E : EvT) (Q : RK) (x1 : ByteArray) (x2 : Int) (x3 : Bool) (σ : AHeap) : Prop :=
 E f_model_Model_none [(.pointer none)] σ (cB Q fun c3 τ2 =>
 If c3 (
 Q (.ret (.tuple #[(.int .u64 0), (.int .i64 2)])) τ2) (
 E f_model_size [(.int .u64 x2)] τ2 (cB Q fun c11 τ10 =>
 If (!c11) (
 Q (.ret (.tuple #[(.int .u64 0), (.int .i64 1)])) τ10) (
 E f_model_Model_room [(.pointer none), (.string x1), (.bool x3)] τ10 (cI Q .i64 fun n26 τ25 =>
 If (!decide (n26 = 0)) (
 Q (.ret (.tuple #[(.int .u64 0), (.int .i64 n26)])) τ25) (
 pu (aMakeMap P t_m_uint64_model_block none τ25) fun r41 =>
 On r41.1 (
 wNew r41.2 (.cells [(.int .u64 0), (.string x1), (.int .u64 x2), (.int .u64 0), (.bool false), (.int .u64 0), r41.1] t_model_held false) fun b42 τ43 =>
 E f_model_Model_add [(.pointer none), (.pointer (some ⟨b42, 0, none⟩))] τ43 (c2 Q fun v45 v47 τ44 =>
 tI .u64 (fun n46 =>
 tI .i64 (fun n48 =>
 Q (.ret (.tuple #[(.int .u64 n46), (.int .i64 n48)])) τ44) v47) v45))))))))
theorem q_model_Model_Create_nil (E : EvT) (Q : RK) (x1 : ByteArray) (x2 : Int) (x3 : Bool) (σ : AHeap) : xfn P E Try.f54 (fun _ => none) (fun _ => .v) [(.pointer none), (.string x1), (.int .u64 x2), (.bool x3)] σ Q = s_model_Model_Create_nil E Q x1 x2 x3 σ := by kernel_rfl
theorem e_model_Model_Create_nil {Q : RK} {x1 : ByteArray} {x2 : Int} {x3 : Bool} {σ : AHeap} (h : s_model_Model_Create_nil E Q x1 x2 x3 σ) : E f_model_Model_Create [(.pointer none), (.string x1), (.int .u64 x2), (.bool x3)] σ Q :=
  exfn Try.func54 _ _ (by kernel_rfl) (Eq.mpr (q_model_Model_Create_nil E Q x1 x2 x3 σ) h)

/-- (*cistern/model.Model).ById -/
def s_model_Model_ById_nil (E : EvT) (Q : RK) (x1 : Int) (σ : AHeap) : Prop :=
 wNew σ (.cells [(.int .u64 0), (.string ((⟨#[]⟩ : ByteArray))), (.int .u64 0), (.int .u64 0), (.bool false), (.int .u64 0)] t_api_Volume false) fun b1 τ2 =>
 E f_model_Model_none [(.pointer none)] τ2 (cB Q fun c5 τ4 =>
 If c5 (
 pu (aStore 6 (.pointer (some ⟨b1, 0, none⟩)) (.agg #[(.int .u64 0), (.string ((⟨#[]⟩ : ByteArray))), (.int .u64 0), (.int .u64 0), (.bool false), (.int .u64 0)]) τ4) fun τ10 =>
 pu (aLoad true 6 (.pointer (some ⟨b1, 0, none⟩)) τ10) fun v11 =>
 Q (.ret (.tuple #[v11, (.int .i64 2)])) τ10) (
 om (aNil (.pointer none)) fun v13 =>
 om (aFieldAddr 1 v13) fun v14 =>
 om (aLoad false 1 v14 τ4) fun v15 =>
 om (aLookup P t_m_uint64_p_model_held v15 (.int .u64 x1) true τ4) fun v19 =>
 om (xExt v19 0) fun v20 =>
 ldB (xExt v19 1) fun c21 =>
 If (!c21) (
 pu (aStore 6 (.pointer (some ⟨b1, 0, none⟩)) (.agg #[(.int .u64 0), (.string ((⟨#[]⟩ : ByteArray))), (.int .u64 0), (.int .u64 0), (.bool false), (.int .u64 0)]) τ4) fun τ29 =>
 pu (aLoad true 6 (.pointer (some ⟨b1, 0, none⟩)) τ29) fun v30 =>
 Q (.ret (.tuple #[v30, (.int .i64 6)])) τ29) (
 om (aNil v20) fun v35 =>
 om (aFieldAddr 0 v35) fun v36 =>
 om (aFieldAddr 0 v36) fun v37 =>
 ldI .u64 (aLoad false 1 v37 τ4) fun n38 =>
 om (aFieldAddr 1 v36) fun v39 =>
 ldS (aLoad false 1 v39 τ4) fun s40 =>
 om (aFieldAddr 2 v36) fun v41 =>
 ldI .u64 (aLoad false 1 v41 τ4) fun n42 =>
 om (aFieldAddr 3 v36) fun v43 =>
 ldI .u64 (aLoad false 1 v43 τ4) fun n44 =>
 om (aFieldAddr 4 v36) fun v45 =>
 ldB (aLoad false 1 v45 τ4) fun c46 =>
 om (aFieldAddr 5 v36) fun v47 =>
 ldI .u64 (aLoad false 1 v47 τ4) fun n48 =>
 pu (aStore 6 (.pointer (some ⟨b1, 0, none⟩)) (.agg #[(.int .u64 n38), (.string s40), (.int .u64 n42), (.int .u64 n44), (.bool c46), (.int .u64 n48)]) τ4) fun τ50 =>
 pu (aLoad true 6 (.pointer (some ⟨b1, 0, none⟩)) τ50) fun v51 =>
 Q (.ret (.tuple #[v51, (.int .i64 0)])) τ50)))
theorem q_model_Model_ById_nil (E : EvT) (Q : RK) (x1 : Int) (σ : AHeap) : xfn P E Try.f52 (fun _ => none) (fun _ => .v) [(.pointer none), (.int .u64 x1)] σ Q = s_model_Model_ById_nil E Q x1 σ := by kernel_rfl
theorem e_model_Model_ById_nil {Q : RK} {x1 : Int} {σ : AHeap} (h : s_model_Model_ById_nil E Q x1 σ) : E f_model_Model_ById [(.pointer none), (.int .u64 x1)] σ Q :=
  exfn Try.func52 _ _ (by kernel_rfl) (Eq.mpr (q_model_Model_ById_nil E Q x1 σ) h)

def s_model_Model_asked_nil_k6 (E : EvT) (Q : RK) (c44 : Bool) (n53 : Int) (τ43 : AHeap) : Prop :=
 If c44 (
 Q (.ret (.tuple #[(.pointer none), (.int .i64 3)])) τ43) (
 om (aNil (.pointer none)) fun v46 =>
 om (aFieldAddr 1 v46) fun v47 =>
 om (aLoad false 1 v47 τ43) fun v48 =>
 om (aLookup P t_m_uint64_p_model_held v48 (.int .u64 n53) false τ43) fun v55 =>
 Q (.ret (.tuple #[v55, (.int .i64 0)])) τ43)
def s_model_Model_asked_nil_k4 (E : EvT) (Q : RK) (c22 : Bool) (n26 n30 : Int) (b31 : Nat) (c40 : Bool) (n51 : Int) (τ21 : AHeap) : Prop :=
 If c22 (
 Q (.ret (.tuple #[(.pointer none), (.int .i64 30)])) τ21) (
 ldI .u64 (L b31 2 τ21) fun n32 =>
 E f_pieces_Within [(.int .u64 n26), (.int .u64 n30), (.int .u64 n32)] τ21 (cB Q fun c34 τ33 =>
 If (!c34) (
 Q (.ret (.tuple #[(.pointer none), (.int .i64 31)])) τ33) (
 If c40 (
 (s_model_Model_asked_nil_k6 E Q (decide (4096 < n30)) n51 τ33)) (
 (s_model_Model_asked_nil_k6 E Q false n51 τ33)))))
/-- (*cistern/model.Model).asked -/
def s_model_Model_asked_nil (E : EvT) (Q : RK) (x1 x2 x3 : Int) (x4 x5 : Bool) (σ : AHeap) : Prop :=
 E f_model_Model_ById [(.pointer none), (.int .u64 x1)] σ (c2 Q fun v4 v5 τ3 =>
 tI .i64 (fun n6 =>
 wNew τ3 (.cells [(.int .u64 0), (.string ((⟨#[]⟩ : ByteArray))), (.int .u64 0), (.int .u64 0), (.bool false), (.int .u64 0)] t_api_Volume false) fun b7 τ8 =>
 pu (aStore 6 (.pointer (some ⟨b7, 0, none⟩)) v4 τ8) fun τ9 =>
 If (!decide (n6 = 0)) (
 Q (.ret (.tuple #[(.pointer none), (.int .i64 n6)])) τ9) (
 If x4 (
 ldB (L b7 4 τ9) fun c20 =>
 (s_model_Model_asked_nil_k4 E Q c20 x2 x3 b7 x5 x1 τ9)) (
 (s_model_Model_asked_nil_k4 E Q false x2 x3 b7 x5 x1 τ9)))) v5)
theorem q_model_Model_asked_nil (E : EvT) (Q : RK) (x1 x2 x3 : Int) (x4 x5 : Bool) (σ : AHeap) : xfn P E Try.f89 (fun _ => none) (fun _ => .v) [(.pointer none), (.int .u64 x1), (.int .u64 x2), (.int .u64 x3), (.bool x4), (.bool x5)] σ Q = s_model_Model_asked_nil E Q x1 x2 x3 x4 x5 σ := by kernel_rfl
theorem e_model_Model_asked_nil {Q : RK} {x1 x2 x3 : Int} {x4 x5 : Bool} {σ : AHeap} (h : s_model_Model_asked_nil E Q x1 x2 x3 x4 x5 σ) : E f_model_Model_asked [(.pointer none), (.int .u64 x1), (.int .u64 x2), (.int .u64 x3), (.bool x4), (.bool x5)] σ Q :=
  exfn Try.func89 _ _ (by kernel_rfl) (Eq.mpr (q_model_Model_asked_nil E Q x1 x2 x3 x4 x5 σ) h)

def s_model_Model_Read_nil_b1 (N1 : Value → Int → AHeap → Prop) (E : EvT) (Q : RK) (v35 v37 : Value) (n39 : Int) (v28 : Value) (n29 : Int) (τ40 : AHeap) : Prop :=
 If (decide (n29 < n39)) (
 om (aIndexAddr 4 v37 (.int .i64 n29)) fun v48 =>
 om (aFieldAddr 0 v48) fun v49 =>
 ldI .u64 (aLoad false 1 v49 τ40) fun n50 =>
 om (aFieldAddr 1 v48) fun v51 =>
 ldI .i64 (aLoad false 1 v51 τ40) fun n52 =>
 om (aFieldAddr 2 v48) fun v53 =>
 ldI .i64 (aLoad false 1 v53 τ40) fun n54 =>
 om (aFieldAddr 3 v48) fun v55 =>
 ldI .i64 (aLoad false 1 v55 τ40) fun n56 =>
 wNew τ40 (.cells [(.int .u64 0), (.int .i64 0), (.int .i64 0), (.int .i64 0)] t_api_Piece false) fun b57 τ58 =>
 pu (aStore 4 (.pointer (some ⟨b57, 0, none⟩)) (.agg #[(.int .u64 n50), (.int .i64 n52), (.int .i64 n54), (.int .i64 n56)]) τ58) fun τ59 =>
 om (aNil v35) fun v64 =>
 om (aFieldAddr 6 v64) fun v65 =>
 om (aLoad false 1 v65 τ59) fun v66 =>
 ldI .u64 (L b57 0 τ59) fun n68 =>
 om (aLookup P t_m_uint64_model_block v66 (.int .u64 n68) false τ59) fun v69 =>
 wNew τ59 (.cells (List.replicate 256 (.int .u8 0)) t_model_block false) fun b70 τ71 =>
 om (aLoad false 1 v65 τ71) fun v72 =>
 veq1 v72 v66 = true ∧
 ldI .u64 (L b57 0 τ71) fun n73 =>
 veq1 (.int .u64 n73) (.int .u64 n68) = true ∧
 om (aLookup P t_m_uint64_model_block v66 (.int .u64 n68) false τ71) fun v74 =>
 veq1 v74 v69 = true ∧
 pu (aStore 256 (.pointer (some ⟨b70, 0, none⟩)) v69 τ71) fun τ75 =>
 ldI .i64 (L b57 1 τ75) fun n82 =>
 ldI .i64 (L b57 2 τ75) fun n83 =>
 om (aSliceArr 256 1 (.pointer (some ⟨b70, 0, none⟩)) (some (.int .i64 n82)) (some (.int .i64 n83)) none) fun v85 =>
 pu (aAppend t_uint8 1 1 v28 v85 τ75) fun r86 =>
 Bi (w64 (n29 + 1)) fun n91 =>
 N1 r86.1 n91 r86.2) (
 Q (.ret (.tuple #[v28, (.int .i64 0)])) τ40)
/-- (*cistern/model.Model).Read -/
def s_model_Model_Read_nil (E : EvT) (Q : RK) (x1 x2 x3 : Int) (σ : AHeap) : Prop :=
 E f_model_Model_asked [(.pointer none), (.int .u64 x1), (.int .u64 x2), (.int .u64 x3), (.bool false), (.bool true)] σ (c2 Q fun v6 v7 τ5 =>
 tI .i64 (fun n8 =>
 If (!decide (n8 = 0)) (
 Q (.ret (.tuple #[(.slice none 0 0), (.int .i64 n8)])) τ5) (
 E f_pieces_Cut [(.int .u64 x2), (.int .u64 x3)] τ5 (cV Q fun v25 τ24 =>
 ldI .i64 (lenS v25) fun n26 =>
 ∃ I95 : Nat → Value → Int → AHeap → Prop, (∃ m, I95 m (.slice none 0 0) 0 τ24) ∧
 ∀ m (v28 : Value) (n29 : Int) (σ' : AHeap), I95 m v28 n29 σ' → (s_model_Model_Read_nil_b1 (fun v28 n29 σ' => ∃ m', m' < m ∧ I95 m' v28 n29 σ') E Q v6 v25 n26 v28 n29 σ')))) v7)
theorem q_model_Model_Read_nil (E : EvT) (Q : RK) (x1 x2 x3 : Int) (σ : AHeap) : xfn P E Try.f51 (hl [(2, .loopr [10, 29, 30] [12, 31] [12] [12, 31]), (5, .ord [(0, []), (1, []), (2, []), (3, []), (4, []), (5, []), (6, []), (7, [3, 5, 6]), (8, [])])]) (fun | 31 => (.i .i64) | _ => .v) [(.pointer none), (.int .u64 x1), (.int .u64 x2), (.int .u64 x3)] σ Q = s_model_Model_Read_nil E Q x1 x2 x3 σ := by kernel_rfl
theorem e_model_Model_Read_nil {Q : RK} {x1 x2 x3 : Int} {σ : AHeap} (h : s_model_Model_Read_nil E Q x1 x2 x3 σ) : E f_model_Model_Read [(.pointer none), (.int .u64 x1), (.int .u64 x2), (.int .u64 x3)] σ Q :=
  exfn Try.func51 _ _ (by kernel_rfl) (Eq.mpr (q_model_Model_Read_nil E Q x1 x2 x3 σ) h)

/-- (*cistern/model.Model).Resize -/
def s_model_Model_Resize_nil (E : EvT) (Q : RK) (x1 : ByteArray) (x2 : Int) (x3 : Bool) (σ : AHeap) : Prop :=
 E f_model_Model_none [(.pointer none)] σ (cB Q fun c3 τ2 =>
 If c3 (
 Q (.ret (.int .i64 2)) τ2) (
 E f_model_size [(.int .u64 x2)] τ2 (cB Q fun c11 τ10 =>
 If (!c11) (
 Q (.ret (.int .i64 1)) τ10) (
 E f_model_Model_named [(.pointer none), (.string x1)] τ10 (c2 Q fun v21 v22 τ20 =>
 tI .i64 (fun n23 =>
 If (!decide (n23 = 0)) (
 Q (.ret (.int .i64 n23)) τ20) (
 om (aNil v21) fun v31 =>
 om (aFieldAddr 0 v31) fun v32 =>
 om (aFieldAddr 4 v32) fun v33 =>
 ldB (aLoad false 1 v33 τ20) fun c34 =>
 If c34 (
 Q (.ret (.int .i64 30)) τ20) (
 If x3 (
 Q (.ret (.int .i64 8)) τ20) (
 om (aNil v21) fun v58 =>
 om (aFieldAddr 0 v58) fun v59 =>
 om (aFieldAddr 2 v59) fun v60 =>
 pu (aStore 1 v60 (.int .u64 x2) τ20) fun τ61 =>
 E f_model_held_clear [v21, (.int .u64 x2), (.int .u64 4294967296)] τ61 (c0 Q fun τ65 =>
 Q (.ret (.int .i64 0)) τ65))))) v22)))))
theorem q_model_Model_Resize_nil (E : EvT) (Q : RK) (x1 : ByteArray) (x2 : Int) (x3 : Bool) (σ : AHeap) : xfn P E Try.f57 (fun _ => none) (fun _ => .v) [(.pointer none), (.string x1), (.int .u64 x2), (.bool x3)] σ Q = s_model_Model_Resize_nil E Q x1 x2 x3 σ := by kernel_rfl
theorem e_model_Model_Resize_nil {Q : RK} {x1 : ByteArray} {x2 : Int} {x3 : Bool} {σ : AHeap} (h : s_model_Model_Resize_nil E Q x1 x2 x3 σ) : E f_model_Model_Resize [(.pointer none), (.string x1), (.int .u64 x2), (.bool x3)] σ Q :=
  exfn Try.func57 _ _ (by kernel_rfl) (Eq.mpr (q_model_Model_Resize_nil E Q x1 x2 x3 σ) h)

def s_model_Model_Trim_nil_k7 (E : EvT) (Q : RK) (n49 : Int) (τ46 : AHeap) : Prop :=
 Q (.ret (.int .i64 n49)) τ46
def s_model_Model_Trim_nil_k4 (E : EvT) (Q : RK) (n19 n24 n28 : Int) (v38 : Value) (τ18 : AHeap) : Prop :=
 If (decide (n19 = 0)) (
 E f_pieces_Inner [(.int .u64 n24), (.int .u64 n28)] τ18 (c2 Q fun v31 v33 τ30 =>
 tI .u64 (fun n32 =>
 tI .u64 (fun n34 =>
 Bi (wu64 (n32 * 256)) fun n42 =>
 Bi (wu64 (n34 * 256)) fun n44 =>
 E f_model_held_clear [v38, (.int .u64 n42), (.int .u64 n44)] τ30 (c0 Q fun τ45 =>
 (s_model_Model_Trim_nil_k7 E Q n19 τ45))) v33) v31)) (
 (s_model_Model_Trim_nil_k7 E Q n19 τ18))
/-- (*cistern/model.Model).Trim -/
def s_model_Model_Trim_nil (E : EvT) (Q : RK) (x1 x2 x3 : Int) (x4 : Bool) (σ : AHeap) : Prop :=
 E f_model_Model_asked [(.pointer none), (.int .u64 x1), (.int .u64 x2), (.int .u64 x3), (.bool true), (.bool false)] σ (c2 Q fun v6 v7 τ5 =>
 tI .i64 (fun n8 =>
 If (decide (n8 = 0)) (
 E f_model_full [(.bool x4)] τ5 (cI Q .i64 fun n17 τ16 =>
 (s_model_Model_Trim_nil_k4 E Q n17 x2 x3 v6 τ16))) (
 (s_model_Model_Trim_nil_k4 E Q n8 x2 x3 v6 τ5))) v7)
theorem q_model_Model_Trim_nil (E : EvT) (Q : RK) (x1 x2 x3 : Int) (x4 : Bool) (σ : AHeap) : xfn P E Try.f59 (fun _ => none) (fun _ => .v) [(.pointer none), (.int .u64 x1), (.int .u64 x2), (.int .u64 x3), (.bool x4)] σ Q = s_model_Model_Trim_nil E Q x1 x2 x3 x4 σ := by kernel_rfl
theorem e_model_Model_Trim_nil {Q : RK} {x1 x2 x3 : Int} {x4 : Bool} {σ : AHeap} (h : s_model_Model_Trim_nil E Q x1 x2 x3 x4 σ) : E f_model_Model_Trim [(.pointer none), (.int .u64 x1), (.int .u64 x2), (.int .u64 x3), (.bool x4)] σ Q :=
  exfn Try.func59 _ _ (by kernel_rfl) (Eq.mpr (q_model_Model_Trim_nil E Q x1 x2 x3 x4 σ) h)

/-- (*cistern/model.Model).Same -/
def s_model_Model_Same_nn (E : EvT) (Q : RK) (σ : AHeap) : Prop :=
 E f_model_Model_none [(.pointer none)] σ (cB Q fun c3 τ2 =>
 If (!c3) (
 E f_model_Model_none [(.pointer none)] τ2 (cB Q fun c5 τ4 =>
 If (!c5) (
 om (aNil (.pointer none)) fun v6 =>
 om (aFieldAddr 0 v6) fun v7 =>
 ldI .u64 (aLoad false 1 v7 τ4) fun n8 =>
 om (aNil (.pointer none)) fun v9 =>
 om (aFieldAddr 0 v9) fun v10 =>
 ldI .u64 (aLoad false 1 v10 τ4) fun n11 =>
 If (decide (n8 = n11)) (
 om (aNil (.pointer none)) fun v12 =>
 om (aFieldAddr 1 v12) fun v13 =>
 om (aLoad false 1 v13 τ4) fun v14 =>
 om (aNil (.pointer none)) fun v15 =>
 om (aFieldAddr 1 v15) fun v16 =>
 om (aLoad false 1 v16 τ4) fun v17 =>
 E f_maps_EqualFunc_map_uint64_model_held_map_uint64_model_held_uint64_model_held_model_held [v14, v17, (.func (.func f_model_Model_Same_c1) #[] #[])] τ4 (cB Q fun c19 τ18 =>
 Q (.ret (.bool c19)) τ18)) (
 Q (.ret (.bool false)) τ4)) (
 Q (.ret (.bool false)) τ4))) (
 Q (.ret (.bool false)) τ2))
theorem q_model_Model_Same_nn (E : EvT) (Q : RK) (σ : AHeap) : xfn P E Try.f61 (hl [(0, .ord [(0, []), (1, []), (2, []), (3, []), (4, []), (5, []), (6, []), (7, []), (8, []), (9, []), (10, []), (11, []), (12, []), (13, []), (14, []), (15, []), (16, []), (17, []), (18, []), (19, []), (20, []), (21, []), (22, []), (23, []), (24, []), (25, []), (26, []), (27, []), (28, []), (29, []), (30, [])])]) (fun _ => .v) [(.pointer none), (.pointer none)] σ Q = s_model_Model_Same_nn E Q σ := by kernel_rfl
theorem e_model_Model_Same_nn {Q : RK} {σ : AHeap} (h : s_model_Model_Same_nn E Q σ) : E f_model_Model_Same [(.pointer none), (.pointer none)] σ Q :=
  exfn Try.func61 _ _ (by kernel_rfl) (Eq.mpr (q_model_Model_Same_nn E Q σ) h)

/-- (*cistern/model.Model).Same -/
def s_model_Model_Same_n (E : EvT) (Q : RK) (x0 : Nat) (σ : AHeap) : Prop :=
 E f_model_Model_none [(.pointer (some ⟨x0, 0, none⟩))] σ (cB Q fun c4 τ3 =>
 If (!c4) (
 E f_model_Model_none [(.pointer none)] τ3 (cB Q fun c6 τ5 =>
 If (!c6) (
 ldI .u64 (L x0 0 τ5) fun n7 =>
 om (aNil (.pointer none)) fun v8 =>
 om (aFieldAddr 0 v8) fun v9 =>
 ldI .u64 (aLoad false 1 v9 τ5) fun n10 =>
 If (decide (n7 = n10)) (
 om (L x0 1 τ5) fun v11 =>
 om (aNil (.pointer none)) fun v12 =>
 om (aFieldAddr 1 v12) fun v13 =>
 om (aLoad false 1 v13 τ5) fun v14 =>
 E f_maps_EqualFunc_map_uint64_model_held_map_uint64_model_held_uint64_model_held_model_held [v11, v14, (.func (.func f_model_Model_Same_c1) #[] #[])] τ5 (cB Q fun c16 τ15 =>
 Q (.ret (.bool c16)) τ15)) (
 Q (.ret (.bool false)) τ5)) (
 Q (.ret (.bool false)) τ5))) (
 Q (.ret (.bool false)) τ3))
theorem q_model_Model_Same_n (E : EvT) (Q : RK) (x0 : Nat) (σ : AHeap) : xfn P E Try.f61 (hl [(0, .ord [(0, []), (1, []), (2, []), (3, []), (4, []), (5, []), (6, []), (7, []), (8, []), (9, []), (10, []), (11, []), (12, []), (13, []), (14, []), (15, []), (16, []), (17, []), (18, []), (19, []), (20, []), (21, []), (22, []), (23, []), (24, []), (25, []), (26, []), (27, []), (28, []), (29, []), (30, [])])]) (fun _ => .v) [(.pointer (some ⟨x0, 0, none⟩)), (.pointer none)] σ Q = s_model_Model_Same_n E Q x0 σ := by kernel_rfl
theorem e_model_Model_Same_n {Q : RK} {x0 : Nat} {σ : AHeap} (h : s_model_Model_Same_n E Q x0 σ) : E f_model_Model_Same [(.pointer (some ⟨x0, 0, none⟩)), (.pointer none)] σ Q :=
  exfn Try.func61 _ _ (by kernel_rfl) (Eq.mpr (q_model_Model_Same_n E Q x0 σ) h)

def s_model_Model_Copy_nil_b1 (N1 : AHeap → Prop) (E : EvT) (Q : RK) (b21 : Nat) (v23 : Value) (τ24 : AHeap) : Prop :=
 pu (aNextMap v23 τ24) fun l25 =>
 ∀ r26 ∈ l25,
 ldB (xExt r26.1 0) fun c27 =>
 If c27 (
 om (aEntry v23 r26.2) fun v33 =>
 ldI .u64 (xExt v33 0) fun n34 =>
 om (xExt v33 1) fun v35 =>
 om (L b21 1 r26.2) fun v40 =>
 om (aNil v35) fun v43 =>
 om (aFieldAddr 0 v43) fun v44 =>
 om (aFieldAddr 0 v44) fun v45 =>
 ldI .u64 (aLoad false 1 v45 r26.2) fun n46 =>
 om (aFieldAddr 1 v44) fun v47 =>
 ldS (aLoad false 1 v47 r26.2) fun s48 =>
 om (aFieldAddr 2 v44) fun v49 =>
 ldI .u64 (aLoad false 1 v49 r26.2) fun n50 =>
 om (aFieldAddr 3 v44) fun v51 =>
 ldI .u64 (aLoad false 1 v51 r26.2) fun n52 =>
 om (aFieldAddr 4 v44) fun v53 =>
 ldB (aLoad false 1 v53 r26.2) fun c54 =>
 om (aFieldAddr 5 v44) fun v55 =>
 ldI .u64 (aLoad false 1 v55 r26.2) fun n56 =>
 om (aNil v35) fun v57 =>
 om (aFieldAddr 6 v57) fun v58 =>
 om (aLoad false 1 v58 r26.2) fun v59 =>
 E f_maps_Clone_map_uint64_model_block_uint64_model_block [v59] r26.2 (cV Q fun v61 τ60 =>
 om (L b21 1 τ60) fun v62 =>
 veq1 v62 v40 = true ∧
 om (aFieldAddr 0 v44) fun v63 =>
 ldI .u64 (aLoad false 1 v63 τ60) fun n64 =>
 om (aFieldAddr 1 v44) fun v65 =>
 ldS (aLoad false 1 v65 τ60) fun s66 =>
 om (aFieldAddr 2 v44) fun v67 =>
 ldI .u64 (aLoad false 1 v67 τ60) fun n68 =>
 om (aFieldAddr 3 v44) fun v69 =>
 ldI .u64 (aLoad false 1 v69 τ60) fun n70 =>
 om (aFieldAddr 4 v44) fun v71 =>
 ldB (aLoad false 1 v71 τ60) fun c72 =>
 om (aFieldAddr 5 v44) fun v73 =>
 ldI .u64 (aLoad false 1 v73 τ60) fun n74 =>
 veq1 (.agg #[(.int .u64 n64), (.string s66), (.int .u64 n68), (.int .u64 n70), (.bool c72), (.int .u64 n74)]) (.agg #[(.int .u64 n46), (.string s48), (.int .u64 n50), (.int .u64 n52), (.bool c54), (.int .u64 n56)]) = true ∧
 On v61 (
 wNew τ60 (.cells [(.int .u64 n46), (.string s48), (.int .u64 n50), (.int .u64 n52), (.bool c54), (.int .u64 n56), v61] t_model_held false) fun b75 τ76 =>
 om (L b21 1 τ76) fun v77 =>
 veq1 v77 v40 = true ∧
 pu (aMapUpdate P t_m_uint64_p_model_held v40 (.int .u64 n34) (.pointer (some ⟨b75, 0, none⟩)) τ76) fun τ78 =>
 N1 τ78))) (
 Q (.ret (.pointer (some ⟨b21, 0, none⟩))) r26.2)
/-- (*cistern/model.Model).Copy -/
def s_model_Model_Copy_nil (E : EvT) (Q : RK) (σ : AHeap) : Prop :=
 E f_model_Model_none [(.pointer none)] σ (cB Q fun c3 τ2 =>
 If c3 (
 Q (.ret (.pointer none)) τ2) (
 om (aNil (.pointer none)) fun v7 =>
 om (aFieldAddr 0 v7) fun v8 =>
 ldI .u64 (aLoad false 1 v8 τ2) fun n9 =>
 pu (aMakeMap P t_m_uint64_p_model_held none τ2) fun r10 =>
 On r10.1 (
 wNew r10.2 (.cells [(.int .u64 n9), r10.1] t_model_Model false) fun b11 τ12 =>
 om (aNil (.pointer none)) fun v14 =>
 om (aFieldAddr 1 v14) fun v15 =>
 om (aLoad false 1 v15 τ12) fun v16 =>
 pu (aRange P t_m_uint64_p_model_held v16 τ12) fun r17 =>
 ∃ I81 : Nat → AHeap → Prop, (∃ m, I81 m r17.2) ∧
 ∀ m (σ' : AHeap), I81 m  σ' → (s_model_Model_Copy_nil_b1 (fun  σ' => ∃ m', m' < m ∧ I81 m'  σ') E Q b11 r17.1  σ'))))
theorem q_model_Model_Copy_nil (E : EvT) (Q : RK) (σ : AHeap) : xfn P E Try.f62 (hl [(2, .loopr [3, 19] [] [3] [3]), (5, .ord [(0, []), (1, []), (2, []), (3, []), (4, []), (5, []), (6, []), (7, []), (8, []), (9, []), (10, []), (11, []), (12, []), (13, [3, 8]), (14, []), (15, [3]), (16, [])])]) (fun _ => .v) [(.pointer none)] σ Q = s_model_Model_Copy_nil E Q σ := by kernel_rfl
theorem e_model_Model_Copy_nil {Q : RK} {σ : AHeap} (h : s_model_Model_Copy_nil E Q σ) : E f_model_Model_Copy [(.pointer none)] σ Q :=
  exfn Try.func62 _ _ (by kernel_rfl) (Eq.mpr (q_model_Model_Copy_nil E Q σ) h)

def s_model_Model_List_nil_b1 (N1 : Value → AHeap → Prop) (E : EvT) (Q : RK) (v15 v13 : Value) (τ16 : AHeap) : Prop :=
 pu (aNextMap v15 τ16) fun l17 =>
 ∀ r18 ∈ l17,
 ldB (xExt r18.1 0) fun c19 =>
 If c19 (
 om (aEntry v15 r18.2) fun v25 =>
 om (xExt v25 1) fun v26 =>
 om (aNil v26) fun v32 =>
 om (aFieldAddr 0 v32) fun v33 =>
 om (aFieldAddr 0 v33) fun v34 =>
 ldI .u64 (aLoad false 1 v34 r18.2) fun n35 =>
 om (aFieldAddr 1 v33) fun v36 =>
 ldS (aLoad false 1 v36 r18.2) fun s37 =>
 om (aFieldAddr 2 v33) fun v38 =>
 ldI .u64 (aLoad false 1 v38 r18.2) fun n39 =>
 om (aFieldAddr 3 v33) fun v40 =>
 ldI .u64 (aLoad false 1 v40 r18.2) fun n41 =>
 om (aFieldAddr 4 v33) fun v42 =>
 ldB (aLoad false 1 v42 r18.2) fun c43 =>
 om (aFieldAddr 5 v33) fun v44 =>
 ldI .u64 (aLoad false 1 v44 r18.2) fun n45 =>
 wNew r18.2 (.cells [(.int .u64 n35), (.string s37), (.int .u64 n39), (.int .u64 n41), (.bool c43), (.int .u64 n45)] t_api_Volume false) fun b46 τ47 =>
 pu (aAppend t_api_Volume 6 56 v13 (.slice (some ⟨b46, 0, none⟩) 1 1) τ47) fun r48 =>
 N1 r48.1 r48.2) (
 E f_slices_SortFunc_sl_api_Volume_api_Volume [v13, (.func (.func f_model_Model_List_c1) #[] #[])] r18.2 (c0 Q fun τ51 =>
 Q (.ret v13) τ51))
/-- (*cistern/model.Model).List -/
def s_model_Model_List_nil (E : EvT) (Q : RK) (σ : AHeap) : Prop :=
 E f_model_Model_none [(.pointer none)] σ (cB Q fun c3 τ2 =>
 If c3 (
 Q (.ret (.slice none 0 0)) τ2) (
 om (aNil (.pointer none)) fun v8 =>
 om (aFieldAddr 1 v8) fun v9 =>
 om (aLoad false 1 v9 τ2) fun v10 =>
 pu (aRange P t_m_uint64_p_model_held v10 τ2) fun r11 =>
 ∃ I54 : Nat → Value → AHeap → Prop, (∃ m, I54 m (.slice none 0 0) r11.2) ∧
 ∀ m (v13 : Value) (σ' : AHeap), I54 m v13 σ' → (s_model_Model_List_nil_b1 (fun v13 σ' => ∃ m', m' < m ∧ I54 m' v13 σ') E Q r11.1 v13 σ')))
theorem q_model_Model_List_nil (E : EvT) (Q : RK) (σ : AHeap) : xfn P E Try.f49 (hl [(2, .loopr [12] [3] [3] [3])]) (fun _ => .v) [(.pointer none)] σ Q = s_model_Model_List_nil E Q σ := by kernel_rfl
theorem e_model_Model_List_nil {Q : RK} {σ : AHeap} (h : s_model_Model_List_nil E Q σ) : E f_model_Model_List [(.pointer none)] σ Q :=
  exfn Try.func49 _ _ (by kernel_rfl) (Eq.mpr (q_model_Model_List_nil E Q σ) h)

end Go.Ax.C
set_option maxRecDepth 100000
namespace Go.Ax.C
open Go.Proofs Go.RowKit

variable {l r m : List Assn} {σ : AHeap} {Q : RK}

/-! ### No model -/
theorem nn_none (hQ : Q (.ret (.bool true)) σ) : E f_model_Model_none [.pointer none] σ Q := by
  apply e_model_Model_none_nil; unfold s_model_Model_none_nil; exact hQ
theorem nn_create {s : ByteArray} {n : Nat} {b : Bool} (hQ : Q (.ret (.tuple #[.int .u64 0, .int .i64 2])) σ) : E f_model_Model_Create [.pointer none, .string s, .int .u64 n, .bool b] σ Q := by
  apply e_model_Model_Create_nil; unfold s_model_Model_Create_nil
  refine nn_none ?_
  rw [cB_ret]
  exact If_t rfl hQ
theorem nn_byid {n : Nat} (h : H l σ) (hQ : ∀ σ', H l σ' → Q (.ret (.tuple #[volV .none, .int .i64 2])) σ') : E f_model_Model_ById [.pointer none, .int .u64 n] σ Q := by
  apply e_model_Model_ById_nil; unfold s_model_Model_ById_nil
  refine nw h ?_
  intro b σ1 h1
  refine nn_none ?_
  rw [cB_ret]
  refine If_t rfl ?_
  exact put6 (vs := Vol.none.cells) (K := fun v τ => Q (.ret (.tuple #[v, .int .i64 2])) τ) h1 rfl rfl rfl hQ
theorem nn_asked {id off n : Nat} {c w : Bool} (h : H l σ) (hQ : ∀ σ', H l σ' → Q (.ret (.tuple #[.pointer none, .int .i64 2])) σ') : E f_model_Model_asked [.pointer none, .int .u64 id, .int .u64 off, .int .u64 n, .bool c, .bool w] σ Q := by
  apply e_model_Model_asked_nil; unfold s_model_Model_asked_nil
  refine nn_byid h ?_
  intro σ1 h1
  rw [c2_ret, tI_int]
  refine nw h1 ?_
  intro b σ2 h2
  refine storeN (vs := Vol.none.cells) h2 0 rfl rfl (by omega) rfl (by simp) ?_
  intro σ3 h3
  refine If_ne (fun _ => hQ σ3 h3.tail) fun g => absurd g (by decide)
theorem nn_read {id off n : Nat} (h : H l σ) (hQ : ∀ σ', H l σ' → Q (.ret (.tuple #[.slice none 0 0, .int .i64 2])) σ') : E f_model_Model_Read [.pointer none, .int .u64 id, .int .u64 off, .int .u64 n] σ Q := by
  apply e_model_Model_Read_nil; unfold s_model_Model_Read_nil
  refine nn_asked h ?_
  intro σ1 h1
  rw [c2_ret, tI_int]
  exact If_ne (fun _ => hQ σ1 h1) fun g => absurd g (by decide)
theorem nn_resize {s : ByteArray} {n : Nat} {b : Bool} (hQ : Q (.ret (.int .i64 2)) σ) : E f_model_Model_Resize [.pointer none, .string s, .int .u64 n, .bool b] σ Q := by
  apply e_model_Model_Resize_nil; unfold s_model_Model_Resize_nil
  refine nn_none ?_
  rw [cB_ret]
  exact If_t rfl hQ
theorem nn_trim {id off n : Nat} {b : Bool} (h : H l σ) (hQ : ∀ σ', H l σ' → Q (.ret (.int .i64 2)) σ') : E f_model_Model_Trim [.pointer none, .int .u64 id, .int .u64 off, .int .u64 n, .bool b] σ Q := by
  apply e_model_Model_Trim_nil; unfold s_model_Model_Trim_nil
  refine nn_asked h ?_
  intro σ1 h1
  rw [c2_ret, tI_int]
  refine If_dec (fun g => absurd g (by decide)) fun _ => ?_
  unfold s_model_Model_Trim_nil_k4 s_model_Model_Trim_nil_k7
  exact If_dec (fun g => absurd g (by decide)) fun _ => hQ σ1 h1
theorem nn_same (hQ : Q (.ret (.bool false)) σ) : E f_model_Model_Same [.pointer none, .pointer none] σ Q := by
  apply e_model_Model_Same_nn; unfold s_model_Model_Same_nn
  refine nn_none ?_
  rw [cB_ret]
  exact If_f rfl hQ
theorem nn_copy (hQ : Q (.ret (.pointer none)) σ) : E f_model_Model_Copy [.pointer none] σ Q := by
  apply e_model_Model_Copy_nil; unfold s_model_Model_Copy_nil
  refine nn_none ?_
  rw [cB_ret]
  exact If_t rfl hQ
theorem nn_list (hQ : Q (.ret (.slice none 0 0)) σ) : E f_model_Model_List [.pointer none] σ Q := by
  apply e_model_Model_List_nil; unfold s_model_Model_List_nil
  refine nn_none ?_
  rw [cB_ret]
  exact If_t rfl hQ

/-! ### A model that no call made -/
def ZM (b : Nat) : Assn := pt b (.cells [.int .u64 0, .map none] t_model_Model false)
theorem zm_none {b : Nat} (h : H (ZM b :: l) σ) (hQ : Q (.ret (.bool true)) σ) : E f_model_Model_none [.pointer (some ⟨b, 0, none⟩)] σ Q := by
  apply e_model_Model_none; unfold s_model_Model_none
  unfold ZM at h
  rw [LV h]
  exact hQ
theorem zm_snap {b : Nat} {s t : ByteArray} {c d : Bool} (h : H (ZM b :: l) σ) (hQ : Q (.ret (.tuple #[.int .u64 0, .int .i64 2])) σ) : E f_model_Model_Snapshot [.pointer (some ⟨b, 0, none⟩), .string s, .string t, .bool c, .bool d] σ Q := by
  apply e_model_Model_Snapshot; unfold s_model_Model_Snapshot
  refine zm_none h ?_
  rw [cB_ret]
  exact If_t rfl hQ
theorem zm_get {b : Nat} {s : ByteArray} (h : H (ZM b :: l) σ) (hQ : ∀ σ', H (ZM b :: l) σ' → Q (.ret (.tuple #[volV .none, .int .i64 2])) σ') : E f_model_Model_Get [.pointer (some ⟨b, 0, none⟩), .string s] σ Q := by
  apply e_model_Model_Get; unfold s_model_Model_Get
  refine nw h ?_
  intro c σ1 h1
  refine zm_none (h1.perm (.swap _ _ _)) ?_
  rw [cB_ret]
  refine If_t rfl ?_
  exact put6 (vs := Vol.none.cells) (K := fun v τ => Q (.ret (.tuple #[v, .int .i64 2])) τ) h1 rfl rfl rfl hQ
theorem zm_byid {b n : Nat} (h : H (ZM b :: l) σ) (hQ : ∀ σ', H (ZM b :: l) σ' → Q (.ret (.tuple #[volV .none, .int .i64 2])) σ') : E f_model_Model_ById [.pointer (some ⟨b, 0, none⟩), .int .u64 n] σ Q := by
  apply e_model_Model_ById; unfold s_model_Model_ById
  refine nw h ?_
  intro c σ1 h1
  refine zm_none (h1.perm (.swap _ _ _)) ?_
  rw [cB_ret]
  refine If_t rfl ?_
  exact put6 (vs := Vol.none.cells) (K := fun v τ => Q (.ret (.tuple #[v, .int .i64 2])) τ) h1 rfl rfl rfl hQ
theorem zm_asked {b id off n : Nat} {c w : Bool} (h : H (ZM b :: l) σ) (hQ : ∀ σ', H (ZM b :: l) σ' → Q (.ret (.tuple #[.pointer none, .int .i64 2])) σ') : E f_model_Model_asked [.pointer (some ⟨b, 0, none⟩), .int .u64 id, .int .u64 off, .int .u64 n, .bool c, .bool w] σ Q := by
  apply e_model_Model_asked; unfold s_model_Model_asked
  refine zm_byid h ?_
  intro σ1 h1
  rw [c2_ret, tI_int]
  refine nw h1 ?_
  intro b σ2 h2
  refine storeN (vs := Vol.none.cells) h2 0 rfl rfl (by omega) rfl (by simp) ?_
  intro σ3 h3
  refine If_ne (fun _ => hQ σ3 h3.tail) fun g => absurd g (by decide)
theorem zm_delete {b : Nat} {s : ByteArray} {c : Bool} (h : H (ZM b :: l) σ) (hQ : Q (.ret (.int .i64 2)) σ) : E f_model_Model_Delete [.pointer (some ⟨b, 0, none⟩), .string s, .bool c] σ Q := by
  apply e_model_Model_Delete; unfold s_model_Model_Delete
  refine zm_none h ?_
  rw [cB_ret]
  exact If_t rfl hQ
theorem zm_write {b id off : Nat} {c : Bool} (h : H (ZM b :: l) σ) (hQ : ∀ σ', H (ZM b :: l) σ' → Q (.ret (.int .i64 2)) σ') : E f_model_Model_Write [.pointer (some ⟨b, 0, none⟩), .int .u64 id, .int .u64 off, .slice none 0 0, .bool c] σ Q := by
  apply e_model_Model_Write; unfold s_model_Model_Write
  rw [lenS_slice, ldI_some]
  refine bu64 ((0 : Nat) : Int) (by omega) ?_
  refine zm_asked h ?_
  intro σ1 h1
  rw [c2_ret, tI_int]
  refine If_dec (fun g => absurd g (by decide)) fun _ => ?_
  unfold s_model_Model_Write_k4
  exact If_ne (fun _ => hQ σ1 h1) fun g => absurd g (by decide)
theorem zm_zero {b id off n : Nat} {c : Bool} (h : H (ZM b :: l) σ) (hQ : ∀ σ', H (ZM b :: l) σ' → Q (.ret (.int .i64 2)) σ') : E f_model_Model_Zero [.pointer (some ⟨b, 0, none⟩), .int .u64 id, .int .u64 off, .int .u64 n, .bool c] σ Q := by
  apply e_model_Model_Zero; unfold s_model_Model_Zero
  refine zm_asked h ?_
  intro σ1 h1
  rw [c2_ret, tI_int]
  refine If_dec (fun g => absurd g (by decide)) fun _ => ?_
  unfold s_model_Model_Zero_k4 s_model_Model_Zero_k6
  exact If_dec (fun g => absurd g (by decide)) fun _ => hQ σ1 h1
theorem zm_same {b x : Nat} (h : H (ZM b :: l) σ) (hQ : Q (.ret (.bool false)) σ) : E f_model_Model_Same [.pointer (some ⟨b, 0, none⟩), .pointer (some ⟨x, 0, none⟩)] σ Q := by
  apply e_model_Model_Same; unfold s_model_Model_Same
  refine zm_none h ?_
  rw [cB_ret]
  exact If_f rfl hQ
theorem zm_copy {b : Nat} (h : H (ZM b :: l) σ) (hQ : Q (.ret (.pointer none)) σ) : E f_model_Model_Copy [.pointer (some ⟨b, 0, none⟩)] σ Q := by
  apply e_model_Model_Copy; unfold s_model_Model_Copy
  refine zm_none h ?_
  rw [cB_ret]
  exact If_t rfl hQ
theorem same_zm {b x : Nat} {M : MM} (h : H (ModelA x M :: ZM b :: l) σ) (hQ : Q (.ret (.bool false)) σ) : E f_model_Model_Same [.pointer (some ⟨x, 0, none⟩), .pointer (some ⟨b, 0, none⟩)] σ Q := by
  apply e_model_Model_Same; unfold s_model_Model_Same
  obtain ⟨mb, W, hW, h1⟩ := model_out h
  refine mnone h1 ?_
  rw [cB_ret]
  refine If_t rfl ?_
  refine zm_none (h.perm (.swap _ _ _)) ?_
  rw [cB_ret]
  exact If_f rfl hQ
theorem same_nn {x : Nat} {M : MM} (h : H (ModelA x M :: l) σ) (hQ : Q (.ret (.bool false)) σ) : E f_model_Model_Same [.pointer (some ⟨x, 0, none⟩), .pointer none] σ Q := by
  apply e_model_Model_Same_n; unfold s_model_Model_Same_n
  obtain ⟨mb, W, hW, h1⟩ := model_out h
  refine mnone h1 ?_
  rw [cB_ret]
  refine If_t rfl ?_
  refine nn_none ?_
  rw [cB_ret]
  exact If_f rfl hQ
end Go.Ax.C
