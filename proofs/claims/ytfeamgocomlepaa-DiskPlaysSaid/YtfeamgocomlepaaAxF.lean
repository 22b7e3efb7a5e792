/- Regions whose order Go leaves open: joined. No statement of the seat is proved here. -/
import Derived.Test.YtfeamgocomlepaaAxE
namespace Go.Ax
open Go.RowKit

section
variable {P : Program} {B : Nat} {w0 : World} {N : Nat} {all : List Oper} {call : CallF}

def unl (n : Nat) (listed : Array Bool) : Nat := ((List.range n).filter fun i => !listed.getD i false).length

theorem getD_true_of_false {listed : Array Bool} {i : Nat} (hi : i < listed.size) : listed.getD i true = listed.getD i false := by
  simp [Array.getD_eq_getD_getElem?, hi]

theorem unl_lt {n : Nat} {listed : Array Bool} {i : Nat} (hn : listed.size = n) (hi : i < n) (hl : listed.getD i false = false) : unl n (listed.setIfInBounds i true) < unl n listed := by
  unfold unl
  have hsub : ∀ l : List Nat, l.Nodup → i ∈ l → (l.filter fun j => !(listed.setIfInBounds i true).getD j false).length < (l.filter fun j => !listed.getD j false).length := by
    intro l
    induction l with
    | nil => intro _ h; simp at h
    | cons x l ih =>
      intro hnd hm
      rw [List.nodup_cons] at hnd
      simp only [List.filter_cons]
      by_cases hx : x = i
      · subst hx
        have h1 : (listed.setIfInBounds x true).getD x false = true := by
          have hx' : x < listed.size := by omega
          simp [Array.getD_eq_getD_getElem?, hx']
        have hrest : (l.filter fun j => !(listed.setIfInBounds x true).getD j false) = l.filter fun j => !listed.getD j false := by
          apply List.filter_congr
          intro j hj
          have hne : x ≠ j := fun e => hnd.1 (e ▸ hj)
          rw [getD_set_ne false hne]
        rw [h1, hl, hrest]
        simp
      · have hm' : i ∈ l := by
          rcases List.mem_cons.1 hm with h | h
          · exact absurd h.symm hx
          · exact h
        have h1 : (listed.setIfInBounds i true).getD x false = listed.getD x false := getD_set_ne false (fun e => hx e.symm)
        rw [h1]
        have := ih hnd.2 hm'
        split
        · rw [List.length_cons, List.length_cons]; omega
        · exact this
  exact hsub _ List.nodup_range (List.mem_range.2 hi)

theorem dregEnd (hE : edgesOk all = true) {β : Type} {kn : K β} {R : List β} {Q : Exit → Act → World → Prop} {fr0 : Fr} {ρ0 : List RB} (hkn : KS B w0 N ρ0 R kn (Q .normal))
    (listed : Array Bool) (a : Act) (w : World) (pre : List Nat) (post : List (Nat × List Nat)) (fr : Fr) (σ : AHeap) (ρ : List RB) (R' : List β)
    (hls : listed.size = all.length) (hext : Ext ρ0 ρ) (h : DInv P N all pre fr0 fr σ ρ (fun i => listed.getD i false = true) a) (hr : Rel B w0 ρ σ w)
    (hc : dChk N all (befs all []) pre post = true) (hs : headSpine all post) (hcov : ∀ j, j < all.length → (j ∈ pre ∨ j ∈ post.map (·.1)))
    (hx : adops P call all post kn fr σ = some R') (hR : ∀ r ∈ R', r ∈ R) (hall : ∀ i, i < all.length → listed.getD i false = true) : Q .normal a w := by
  have hpost : post = [] := by
    cases post with
    | nil => rfl
    | cons p post =>
      obtain ⟨s, chk⟩ := p
      obtain ⟨os, hos, _, _, hpair, _, _⟩ := dChk_inv hc
      have hlt := (List.getElem?_eq_some_iff.1 hos).1
      obtain ⟨ok2, _, hp2⟩ := hpair s (h.sub s (hall s hlt))
      exact absurd rfl (pairOk_inv hp2).1
  subst hpost
  refine hkn ρ fr σ a w R' hext ⟨fun t => ?_, h.defers, h.size⟩ hr hx hR
  by_cases hex : ∃ k ok, k ∈ pre ∧ all[k]? = some ok ∧ ok.dst = some t
  · obtain ⟨k, ok, hk, hok, hkt⟩ := hex
    exact h.f1 k ok t (hall k (List.getElem?_eq_some_iff.1 hok).1) hok hkt
  · rw [h.f3 t fun k ok hk hok hkt => hex ⟨k, ok, hk, hok, hkt⟩]
    exact h.f2 t fun k ok hk hok hkt => hex ⟨k, ok, h.sub k hk, hok, hkt⟩

theorem wpAny_dreg (hE : edgesOk all = true) {β : Type} {kn : K β} {R : List β} {Q : Exit → Act → World → Prop} (hcall : CallOk P call) {fr0 : Fr} {ρ0 : List RB} (hkn : KS B w0 N ρ0 R kn (Q .normal)) :
    ∀ (fuel : Nat) (listed : Array Bool) (a : Act) (w : World) (pre : List Nat) (post : List (Nat × List Nat)) (fr : Fr) (σ : AHeap) (ρ : List RB) (R' : List β),
      listed.size = all.length → unl all.length listed ≤ fuel → Ext ρ0 ρ → DInv P N all pre fr0 fr σ ρ (fun i => listed.getD i false = true) a → Rel B w0 ρ σ w →
      dChk N all (befs all []) pre post = true → headSpine all post → (∀ j, j < all.length → (j ∈ pre ∨ j ∈ post.map (·.1))) →
      adops P call all post kn fr σ = some R' → (∀ r ∈ R', r ∈ R) → wpAny P .any all.toArray Q fuel listed a w := by
  intro fuel
  induction fuel with
  | zero =>
    intro listed a w pre post fr σ ρ R' hls hu hext h hr hc hs hcov hx hR
    refine ⟨?_, ?_⟩
    · cases hrd : Region.ready .any all.toArray listed with
      | nil => rfl
      | cons i l =>
        have hi : i ∈ Region.ready .any all.toArray listed := by rw [hrd]; simp
        obtain ⟨h1, o, ho, _⟩ := mem_ready.1 hi
        have hlt : i < all.length := by have := (Array.getElem?_eq_some_iff.1 ho).1; simpa using this
        have hm : i ∈ (List.range all.length).filter fun i => !listed.getD i false := by
          rw [List.mem_filter]
          refine ⟨List.mem_range.2 hlt, ?_⟩
          rw [← getD_true_of_false (by omega), h1]; rfl
        have := List.length_pos_of_mem hm
        unfold unl at hu
        omega
    · exact dregEnd hE hkn listed a w pre post fr σ ρ R' hls hext h hr hc hs hcov hx hR (by
        intro i hi
        cases hb : listed.getD i false with
        | true => rfl
        | false =>
          have hm : i ∈ (List.range all.length).filter fun i => !listed.getD i false := by
            rw [List.mem_filter]
            exact ⟨List.mem_range.2 hi, by rw [hb]; rfl⟩
          have := List.length_pos_of_mem hm
          unfold unl at hu
          omega)
  | succ fuel ih =>
    intro listed a w pre post fr σ ρ R' hls hu hext h hr hc hs hcov hx hR
    refine ⟨fun hnil => ?_, fun i hi => ?_⟩
    · refine dregEnd hE hkn listed a w pre post fr σ ρ R' hls hext h hr hc hs hcov hx hR ?_
      have key : ∀ n i, i < n → i < all.length → listed.getD i false = true := by
        intro n
        induction n with
        | zero => intro i h; omega
        | succ n ihn =>
          intro i hin hi
          cases hb : listed.getD i false with
          | true => rfl
          | false =>
            have hoi : all[i]? = some all[i] := List.getElem?_eq_getElem hi
            have : i ∈ Region.ready .any all.toArray listed := by
              rw [mem_ready]
              refine ⟨by rw [getD_true_of_false (by omega), hb], all[i], by simp [hi], fun e he hbd => ?_⟩
              have hlt := (Bef.edge (all := all) i all[i] e hoi (by simpa using he) hbd).lt hE
              exact ihn e.on (by omega) (by omega)
            rw [hnil] at this
            simp at this
      exact fun i hi => key (i + 1) i (by omega) hi
    · obtain ⟨h1, o, ho, hedge⟩ := mem_ready.1 hi
      have ho' : all[i]? = some o := by simpa using ho
      have hlt : i < all.length := (List.getElem?_eq_some_iff.1 ho').1
      have hiF : listed.getD i false = false := by rw [← getD_true_of_false (by omega)]; exact h1
      have hiS : ¬ listed.getD i false = true := by rw [hiF]; simp
      have hready : ∀ e ∈ o.after.toList, Region.binds .any e = true → listed.getD e.on false = true := fun e he hb => hedge e (by simpa using he) hb
      have hS' : ∀ j, (listed.setIfInBounds i true).getD j false = true ↔ (j = i ∨ listed.getD j false = true) := by
        intro j
        by_cases hj : j = i
        · subst hj
          have : j < listed.size := by omega
          simp [Array.getD_eq_getD_getElem?, this]
        · rw [getD_set_ne false (fun e => hj e.symm)]
          simp [hj]
      have hSeq : (fun j => (listed.setIfInBounds i true).getD j false = true) = fun j => j = i ∨ listed.getD j false = true := by
        funext j; exact propext (hS' j)
      have hls' : (listed.setIfInBounds i true).size = all.length := by simpa using hls
      have hu' : unl all.length (listed.setIfInBounds i true) ≤ fuel := by
        have := unl_lt hls hlt hiF
        omega
      rcases hcov i hlt with hpre | hpost
      · refine h.floatStep hcall hr hpre hiS ho' hready fun ρ' a' w' hd he hr' => ?_
        exact ih _ a' w' pre post fr σ ρ' R' hls' hu' (hext.trans he) (by rw [hSeq]; exact hd) hr' hc hs hcov hx hR
      · cases post with
        | nil => simp at hpost
        | cons p post =>
          obtain ⟨s, chk⟩ := p
          have hsi : s = i := by
            rcases List.mem_cons.1 (by simpa using hpost : i ∈ s :: post.map (·.1)) with rfl | hp
            · rfl
            · obtain ⟨os, hos, _, _, _, _, hc2⟩ := dChk_inv hc
              obtain ⟨ok, oi, chk', hok, hoi, hpr⟩ := dChk_later (k := s) post (s :: pre) hc2 (List.mem_cons_self) i hp
              have hb := (pairOk_inv hpr).2.2.2.2.2.1 (hs ok hok)
              have := (isB_sound hb).closed h.closed fun o'' ho'' => by rw [ho'] at ho''; cases ho''; exact hready
              have hsp := h.sub s this
              obtain ⟨_, _, _, _, hpair, _, _⟩ := dChk_inv hc
              obtain ⟨ok2, _, hp2⟩ := hpair s hsp
              exact absurd rfl (pairOk_inv hp2).1
          subst hsi
          have hc2 := hc
          obtain ⟨_, _, _, _, _, _, hc3⟩ := dChk_inv hc2
          refine h.spineStep hE hcall hr hc ho' (hs o ho') hready hx hR fun ρ' fr' σ' a' w' R2 hd he hr' hx' hR' => ?_
          obtain ⟨pre', post', fr2, e1, e2, e3, e4, e5⟩ := DInv.advanceAll hE post (s :: pre) fr' hd hc3 hx'
          refine ih _ a' w' pre' post' fr2 σ' ρ' R2 hls' hu' (hext.trans he) (by rw [hSeq]; exact e1) hr' e2 e4 (fun j hj => e5 j ?_) e3 hR'
          rcases hcov j hj with hj | hj
          · exact .inl (List.mem_cons_of_mem _ hj)
          · rcases List.mem_cons.1 (by simpa using hj : j ∈ s :: post.map (·.1)) with rfl | hj
            · exact .inl (by simp)
            · exact .inr hj

/-- A region whose order is open. -/
theorem dregion_sound (hm : P.follows .mixedOrders = true) {ord : List (Nat × List Nat)} (hd : dOk N all ord = true) {β : Type} {kn : K β} {R R' : List β} {Q : Exit → Act → World → Prop} (hcall : CallOk P call)
    {ρ : List RB} {fr : Fr} {σ : AHeap} {a : Act} {w : World} (id : Nat) (hkn : KS B w0 N ρ R kn (Q .normal)) (hf : FR N ρ fr a) (h : Rel B w0 ρ σ w)
    (hx : adops P call all ord kn fr σ = some R') (hR : ∀ r ∈ R', r ∈ R) : (Code.region id all.toArray true).wp P Q a w := by
  unfold dOk at hd
  simp only [Bool.and_eq_true] at hd
  obtain ⟨⟨hE, hcov⟩, hc⟩ := hd
  have h0 : DInv P N all [] fr fr σ ρ (fun i => (Array.replicate all.length false).getD i false = true) a := by
    have hno : ∀ i, ¬ (Array.replicate all.length false).getD i false = true := by
      intro i
      simp only [Array.getD_eq_getD_getElem?, Array.getElem?_replicate]
      split <;> simp
    refine ⟨fun i hi => absurd hi (hno i), fun i o hi => by simp at hi, fun i o _ hi => absurd hi (hno i), fun k ok t hk => absurd hk (hno k), fun t _ => hf.val t, fun _ _ => rfl, fun k _ _ _ _ hk => by simp at hk, fun k _ _ _ _ hk => by simp at hk,
      hf.defers, hf.size, fun k _ _ hk => by simp at hk, fun k _ hk => by simp at hk, fun k hk => by simp at hk, fun q _ hq => by simp at hq⟩
  obtain ⟨pre', post', fr2, e1, e2, e3, e4, e5⟩ := DInv.advanceAll hE ord [] fr h0 hc hx
  refine wp_region_any hm ?_
  have hsz : all.toArray.size = all.length := by simp
  rw [hsz]
  refine wpAny_dreg hE hcall hkn all.length _ a _ pre' post' fr2 σ ρ R' (by simp) ?_ (Ext.refl _) e1 h.drew e2 e4 (fun j hj => e5 j (.inr ?_)) e3 hR
  · unfold unl
    have := List.length_filter_le (fun i => !(Array.replicate all.length false).getD i false) (List.range all.length)
    simpa using this
  · have := List.all_eq_true.1 hcov j (List.mem_range.2 hj)
    simpa using this
end
end Go.Ax
