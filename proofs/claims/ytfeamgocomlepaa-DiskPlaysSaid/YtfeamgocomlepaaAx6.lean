/- Each abstract operation is met by the machine's: slices, addresses, make. No statement of the seat is proved here. -/
import Derived.Test.YtfeamgocomlepaaAx4
namespace Go.Ax
open Go.RowKit

inductive VO (ρ : List RB) : Option Value → Option Value → Prop where
  | none : VO ρ none none
  | some (v v' : Value) : VR ρ v v' → VO ρ (some v) (some v')

section
variable {P : Program} {B : Nat} {w0 : World} {ρ : List RB} {σ : AHeap} {w : World}

theorem bnd_sound {x x' : Value} {y y' n : Nat} (code : BoundsCode) (hx : VR ρ x x') (h : bnd x y = some n) (hy : y ≤ y') :
    (Instr.sliceBound x' y' code).run P w = .ok n w ∧ n ≤ y := by
  unfold bnd at h
  split at h
  · rename_i k i
    split at h
    · rename_i hi; cases h
      cases hx
      have : 0 ≤ i ∧ i ≤ (y' : Int) := by omega
      exact ⟨by simp [Instr.sliceBound, asIntOf, this], by omega⟩
    · cases h
  · cases h

theorem run_bounds2 (isSlice : Bool) (len cap' : Nat) {lo hi lo' hi' : Option Value} {k h l : Nat} (hl : VO ρ lo lo') (hh : VO ρ hi hi')
    (h1 : bndO hi len k = some h) (h2 : bndO lo 0 h = some l) (hk : k ≤ cap') :
    (Instr.sliceBounds isSlice len cap' lo' hi' none).run P w = .ok (l, h, cap') w ∧ l ≤ h ∧ (h ≤ k ∨ h = len) := by
  cases hh with
  | none =>
    simp only [bndO, Option.some.injEq] at h1; subst h1
    cases hl with
    | none => simp only [bndO, Option.some.injEq] at h2; subst h2; exact ⟨by simp [Instr.sliceBounds], by omega, .inr rfl⟩
    | some v v' hv => obtain ⟨a, b⟩ := bnd_sound (P := P) (w := w) .sliceB hv h2 (Nat.le_refl _); exact ⟨by simp [Instr.sliceBounds, a], b, .inr rfl⟩
  | some u u' hu =>
    obtain ⟨c, d⟩ := bnd_sound (P := P) (w := w) (if isSlice then .sliceAcap else .sliceAlen) hu h1 hk
    cases hl with
    | none => simp only [bndO, Option.some.injEq] at h2; subst h2; exact ⟨by simp [Instr.sliceBounds, c], by omega, .inl d⟩
    | some v v' hv => obtain ⟨a, b⟩ := bnd_sound (P := P) (w := w) .sliceB hv h2 (Nat.le_refl _); exact ⟨by simp [Instr.sliceBounds, a, c], b, .inl d⟩

theorem run_bounds3 (len cap' : Nat) {lo lo' : Option Value} {hi hi' mx mx' : Value} {k m h l : Nat} (hl : VO ρ lo lo') (hh : VR ρ hi hi') (hm : VR ρ mx mx')
    (h0 : bnd mx k = some m) (h1 : bnd hi m = some h) (h2 : bndO lo 0 h = some l) (hk : k ≤ cap') :
    (Instr.sliceBounds true len cap' lo' (some hi') (some mx')).run P w = .ok (l, h, m) w ∧ l ≤ h ∧ h ≤ m ∧ m ≤ k := by
  obtain ⟨a, b⟩ := bnd_sound (P := P) (w := w) .slice3Acap hm h0 hk
  obtain ⟨c, d⟩ := bnd_sound (P := P) (w := w) .slice3B hh h1 (Nat.le_refl _)
  cases hl with
  | none => simp only [bndO, Option.some.injEq] at h2; subst h2; exact ⟨by simp [Instr.sliceBounds, a, c], by omega, d, b⟩
  | some v v' hv => obtain ⟨e, f⟩ := bnd_sound (P := P) (w := w) .slice3C hv h2 (Nat.le_refl _); exact ⟨by simp [Instr.sliceBounds, a, c, e], f, d, b⟩

/-- What a slice's value is in the machine. -/
theorem VR.slice_inv {a : Option Addr} {l c : Nat} {v' : Value} (h : VR ρ (.slice a l c) v') :
    ∃ a' c', v' = .slice a' l c' ∧ known c ≤ c' ∧ (c < OPEN → c' = c) ∧
      ((a = none ∧ a' = none ∧ c < OPEN) ∨ (∃ x x' r, a = some x ∧ a' = some x' ∧ ρ[x.block]? = some r ∧ x' = ⟨r.b, r.s + x.off, none⟩ ∧ CapR r x.off c c' ∧ x.spot = none) ∨
       (∃ x', a = some ⟨ZB, 1, some 0⟩ ∧ l = 0 ∧ c = OPEN ∧ a' = some x' ∧ x'.spot = none) ∨ (∃ o x', a = some ⟨ZB, o, some 0⟩ ∧ l = 0 ∧ c = 0 ∧ a' = some x' ∧ True)) := by
  cases h with
  | nilslice _ _ hc => exact ⟨none, c, rfl, Nat.mod_le _ _, fun _ => rfl, .inl ⟨rfl, rfl, hc⟩⟩
  | slice b o _ _ c' r hr hc =>
    refine ⟨_, c', rfl, ?_, ?_, .inr (.inl ⟨_, _, r, rfl, rfl, hr, rfl, hc, rfl⟩)⟩
    · unfold CapR at hc; unfold known
      split at hc
      · rw [hc]; exact Nat.mod_le _ _
      · exact hc.1
    · intro hlt; unfold CapR at hc; rw [if_pos hlt] at hc; exact hc
  | zany x' c' hs => exact ⟨_, c', rfl, by simp [known], fun hh => absurd hh (by omega), .inr (.inr (.inl ⟨x', rfl, rfl, rfl, rfl, hs⟩))⟩
  | zslice o x' => exact ⟨_, 0, rfl, by simp [known, OPEN], fun _ => rfl, .inr (.inr (.inr ⟨o, x', rfl, rfl, rfl, rfl, trivial⟩))⟩

theorem VR.mk_exact {x x' : Addr} {l c : Nat} (hc : c < OPEN) {r : RB} (hr : ρ[x.block]? = some r) (hs : x.spot = none) (hx : x' = ⟨r.b, r.s + x.off, none⟩) : VR ρ (.slice (some x) l c) (.slice (some x') l c) := by
  obtain ⟨b, o, s⟩ := x
  simp only at hs; subst hs; subst hx
  exact .slice b o l c c r hr (by unfold CapR; rw [if_pos hc])

theorem known_lt {c : Nat} (h : c < OPEN) : known c = c := Nat.mod_eq_of_lt h

theorem aSlice_sound {z : Nat} {t e : TypeId} {i : TypeInfo} {x x' v : Value} {lo lo' hi hi' mx mx' : Option Value} (ht : P.underlying t = some (.slice e)) (hinf : P.info? e = some i) (hz : i.size = z)
    (hx : VR ρ x x') (h1 : VO ρ lo lo') (h2 : VO ρ hi hi') (h3 : VO ρ mx mx') (h : aSlice z x lo hi mx = some v) :
    ∃ v', (Instr.slice t x' lo' hi' mx').run P w = .ok v' w ∧ VR ρ v v' := by
  subst hz
  unfold aSlice at h
  split at h
  · rename_i a len c
    obtain ⟨a', c', rfl, hk, hex, hcases⟩ := hx.slice_inv
    have hsz := run_sizeOf (P := P) (w := w) hinf
    cases h3 with
    | none =>
      simp only [Option.bind_eq_some_iff] at h
      obtain ⟨hh, e1, ll, e2, h⟩ := h
      obtain ⟨hb, hlh, hhk⟩ := run_bounds2 (P := P) (w := w) true len c' h1 h2 e1 e2 hk
      have hrun : (Instr.slice t (.slice a' len c') lo' hi' none).run P w = .ok (.slice (if c' = ll then a' else a'.map (·.add (ll * i.size))) (hh - ll) (c' - ll)) w := by
        simp [Instr.slice, run_underlying ht, hb, hsz]
      refine ⟨_, hrun, ?_⟩
      split at h
      · rename_i hc
        obtain rfl := hex hc
        split at h
        · rename_i hhc
          cases h
          have hc2 : c' - ll < OPEN := by omega
          rcases hcases with ⟨rfl, rfl, hcn⟩ | ⟨x, x1, r, rfl, rfl, hr, rfl, _, hs0⟩ | ⟨x1, _, _, hco, _, _⟩ | ⟨o, x1, rfl, rfl, rfl, rfl, hs1⟩
          · simp only [Option.map_none, ite_self]; exact .nilslice _ _ (by omega)
          · split
            · exact .mk_exact hc2 hr (hs0) rfl
            · simp only [Option.map_some]
              rw [add_plain _ _ (hs0), Addr.add_lit]
              exact .mk_exact hc2 (x := ⟨x.block, x.off + ll * i.size, none⟩) hr rfl (by simp [Nat.add_assoc])
          · omega
          · have hl0 : ll = 0 := by omega
            have hh0 : hh = 0 := by omega
            subst hl0; subst hh0
            simp only [if_true, Nat.sub_self]
            exact .zslice o x1
        · cases h
      · rename_i hc
        split at h
        · rename_i hlk
          obtain ⟨hlk, hze⟩ := hlk
          cases h
          have hne : ¬ (c' = ll) := by omega
          rw [if_neg hne]
          unfold known at hlk hk
          have hmod : (c - ll) % OPEN = c % OPEN - ll ∧ (c - ll) / OPEN = c / OPEN ∧ OPEN ≤ c - ll := by
            unfold OPEN at *; omega
          rcases hcases with ⟨rfl, rfl, hcn⟩ | ⟨x, x1, r, rfl, rfl, hr, rfl, hcr, hs0⟩ | ⟨x1, rfl, rfl, hco, rfl, hs1⟩ | ⟨o, x1, rfl, rfl, rfl, rfl, hs1⟩
          · exact absurd hcn hc
          · simp only [Option.map_some]
            rw [add_plain _ _ (hs0), Addr.add_lit]
            unfold CapR at hcr
            rw [if_neg hc, hze] at hcr
            have hfit : ll * i.size + (c' - ll) * i.size = c' * i.size := by rw [← Nat.add_mul]; congr 1; omega
            have hcap : CapR r (x.off + ll * i.size) (c - ll) (c' - ll) := by
              unfold CapR
              rw [if_neg (by omega), hmod.1, hmod.2.1, hze]
              omega
            have hfin := VR.slice x.block (x.off + ll * i.size) (hh - ll) (c - ll) (c' - ll) r hr hcap
            rw [Nat.add_assoc]; exact hfin
          · subst hco; simp [OPEN] at hlk
          · simp [OPEN] at hc
        · split at h
          · rename_i hhl; cases h; subst hhl
            rw [Nat.sub_self]
            rcases hcases with ⟨rfl, rfl, hcn⟩ | ⟨x, x1, r, rfl, rfl, hr, rfl, hcr, hs0⟩ | ⟨x1, rfl, rfl, hco, rfl, hs1⟩ | ⟨o, x1, rfl, rfl, rfl, rfl, hs1⟩
            · exact absurd hcn hc
            · split
              · exact .zany _ _ rfl
              · simp only [Option.map_some]; exact .zany _ _ (by rw [Addr.add_lit])
            · split
              · exact .zany _ _ hs1
              · simp only [Option.map_some]; exact .zany _ _ (by rw [add_plain _ _ hs1])
            · simp [OPEN] at hc
          · cases h
    | some m m' hm =>
      simp only [Option.bind_eq_some_iff] at h
      obtain ⟨mm, e0, h⟩ := h
      cases h2 with
      | none => simp at h
      | some u u' hu =>
        simp only [Option.bind_eq_some_iff] at h
        obtain ⟨hh, e1, ll, e2, h⟩ := h
        cases h
        obtain ⟨hb, hlh, hhm, hmk⟩ := run_bounds3 (P := P) (w := w) len c' h1 hu hm e0 e1 e2 hk
        have hrun : (Instr.slice t (.slice a' len c') lo' (some u') (some m')).run P w = .ok (.slice (if mm = ll then a' else a'.map (·.add (ll * i.size))) (hh - ll) (mm - ll)) w := by
          simp [Instr.slice, run_underlying ht, hb, hsz]
        refine ⟨_, hrun, ?_⟩
        have hc2 : mm - ll < OPEN := by
          have : known c < OPEN := Nat.mod_lt _ (by unfold OPEN; omega)
          omega
        rcases hcases with ⟨rfl, rfl, hcn⟩ | ⟨x, x1, r, rfl, rfl, hr, rfl, _, hs0⟩ | ⟨x1, rfl, rfl, hco, rfl, hs1⟩ | ⟨o, x1, rfl, rfl, rfl, rfl, hs1⟩
        · simp only [Option.map_none, ite_self]; exact .nilslice _ _ (by omega)
        · split
          · exact .mk_exact hc2 hr (hs0) rfl
          · simp only [Option.map_some]
            rw [add_plain _ _ (hs0), Addr.add_lit]
            exact .mk_exact hc2 (x := ⟨x.block, x.off + ll * i.size, none⟩) hr rfl (by simp [Nat.add_assoc])
        · subst hco
          have : mm = 0 := by have : known OPEN = 0 := by decide
                              omega
          have hl0 : ll = 0 := by omega
          have hh0 : hh = 0 := by omega
          subst this; subst hl0; subst hh0
          simp only [if_true, Nat.sub_self]
          exact .zslice 1 x1
        · have : mm = 0 := by have : known 0 = 0 := by decide
                              omega
          have hl0 : ll = 0 := by omega
          have hh0 : hh = 0 := by omega
          subst this; subst hl0; subst hh0
          simp only [if_true, Nat.sub_self]
          exact .zslice o x1
  · cases h
end
end Go.Ax
