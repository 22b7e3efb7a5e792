/- Proved: 'DiskKeeps' returns true, for every input; no condition. By a calculus of weakest preconditions over an abstract heap, which is sound for the machine. -/
import Derived.Test.YtfeamgocomlepaaRows
import Derived.WalkKit
import Derived.ProofKit
import Derived.OpenShut
import Derived.SizedLaws
import Derived.Test.YtfeamgocomlepaaK3
import Derived.Test.YtfeamgocomlepaaLx
namespace Go.Proofs.Ytfeamgocomlepaa.diskKeeps
open Go.ChangeShapes Go.WideShapes Go.ChangeAt Go.RowKit
set_option linter.unusedVariables false
set_option maxRecDepth 100000

theorem own : ownKnob Try.prog.godebug = none := by kernel_rfl

theorem walk {H : Type} {enc : TypeId × Value → H} {W : World} {v0 v1 v2 : Value} {x0 x1 x2 : DataW H} {p0 p1 p2 : List MemPlace}
    (h0 : DataW.Trod enc Try.prog W 0 (fun _ => true) true 22 v0 x0 p0) (h1 : DataW.Trod enc Try.prog W 0 (fun _ => true) true 22 v1 x1 p1) (h2 : DataW.Trod enc Try.prog W 0 (fun _ => true) true 23 v2 x2 p2)
    (o0 : ∃ a l c, v0 = .slice a l c) (o1 : ∃ a l c, v1 = .slice a l c) (o2 : ∃ a l c, v2 = .slice a l c) (hw : (DataW.weightsEach Try.prog [22, 22, 23] [x0, x1, x2]).all (· ≤ reachBytes) = true) :
    Calls Try.prog 3 #[v0, v1, v2] W fun e w' => e = .returned (.bool true) ∧ Below W.heap.size W w' := by
  obtain ⟨n0, h0⟩ := h0
  obtain ⟨n1, h1⟩ := h1
  obtain ⟨n2, h2⟩ := h2
  obtain ⟨a0, b0, c0, rfl⟩ := o0
  obtain ⟨a1, b1, c1, rfl⟩ := o1
  obtain ⟨a2, b2, c2, rfl⟩ := o2
  simp only [List.all_eq_true, DataW.weightsEach, List.mem_append, List.append_nil, decide_eq_true_eq] at hw
  obtain ⟨ρ1, σ1, c1', L1, i1, i2, i3, i4, i5⟩ := Ax.YtfeamgocomlepaaC.actsT (Ax.Rel.start W) h0 fun w hm => hw w (.inl hm)
  obtain ⟨ρ2, σ2, c2', L2, j1, j2, j3, j4, j5⟩ := Ax.YtfeamgocomlepaaC.actsT i2 h1 fun w hm => hw w (.inr (.inl hm))
  obtain ⟨ρ3, σ3, c3', L3, k1, k2, k3, k4, k5⟩ := Ax.YtfeamgocomlepaaC.bytesT j2 h2 fun w hm => hw w (.inr (.inr hm))
  have hh := k5 _ (j5 _ (i5 [] (Ax.H.nil _)))
  obtain ⟨u3, g1⟩ := Ax.H_ex.1 hh
  rw [Ax.H_sep] at g1
  obtain ⟨e3, g2⟩ := Ax.H_pure.1 g1
  subst e3
  have g3 := g2.perm (List.Perm.swap _ _ _)
  obtain ⟨u2, g4⟩ := Ax.H_ex.1 g3
  rw [Ax.H_sep] at g4
  obtain ⟨e2, g5⟩ := Ax.H_pure.1 g4
  subst e2
  have g6 : Ax.H [_, _, _] σ3 := g5.pick [2, 0, 1] (by decide)
  obtain ⟨u1, g7⟩ := Ax.H_ex.1 g6
  rw [Ax.H_sep] at g7
  obtain ⟨e1, g8⟩ := Ax.H_pure.1 g7
  subst e1
  have ha : Ax.LR ρ3 [u1, u2, u3] [.slice a0 b0 c0, .slice a1 b1 c1, .slice a2 b2 c2] := ((i3.mono j1).mono k1).append ((j3.mono k1).append k3)
  exact Ax.YtfeamgocomlepaaC.law_call Ax.YtfeamgocomlepaaC.hX Try.func3 (by kernel_rfl) k2 ha (Ax.YtfeamgocomlepaaC.diskKeeps_ev g8)

theorem lifted (os : Os) (started : os.Started) (H : Type) (enc : TypeId × Value → H) :
    ReturnsInHanded {} Try.checked os 3 .any (Rows.diskKeepsSpec.pre6 enc Try.prog Try.f3 Rows.diskKeepsRow.domain false) (Rows.diskKeepsSpec.post enc Try.prog Try.f3 false true false false) := by
  refine returnsInHanded_of_change_sized (C := Try.checked) own started (by kernel_rfl) Try.func3
    (ChangeSpec.witness6 (enc := enc) (C := Try.checked) false ⟨#[], #[.slice none 0 0, .slice none 0 0, .slice none 0 0], []⟩ 8 (by kernel_rfl) (by kernel_rfl) (by kernel_rfl) (by kernel_rfl)) ?_
  intro W base args ds gs before hval0 hW hcnd hwt _
  have hW' := hW
  obtain ⟨p, q, hA0, hV, rfl, hfz, hnd⟩ := hW
  have hA : DataW.TrodAll enc Try.prog W 0 (fun _ => true) true Try.f3.params.toList args.toList ds p := hA0
  have hval : ∀ (j : Nat) t v, Try.f3.params[j]? = some t → args[j]? = some v → Value.okWide Try.prog W .any base t v := hval0
  have hA1 := hA
  rw [Try.params3] at hA1 hval
  obtain ⟨v0, vs0, d0, ds0, p0, q0, hargs, rfl, rfl, h0, r0⟩ := trodAll_cons hA1
  obtain ⟨v1, vs1, d1, ds1, p1, q1, rfl, rfl, rfl, h1, r1⟩ := trodAll_cons r0
  obtain ⟨v2, vs2, d2, ds2, p2, q2, rfl, rfl, rfl, h2, r2⟩ := trodAll_cons r1
  obtain ⟨rfl, rfl, rfl⟩ := trodAll_nil r2
  obtain rfl : args = #[v0, v1, v2] := by cases args; simp_all
  obtain ⟨rfl, rfl⟩ := trodVars_none hV
  clear hA0 hval0
  refine (walk h0 h1 h2 (okWide_slice (show Try.prog.underlying 22 = some (.slice 30) by kernel_rfl) (hval 0 22 v0 rfl rfl)) (okWide_slice (show Try.prog.underlying 22 = some (.slice 30) by kernel_rfl) (hval 1 22 v1 rfl rfl))
    (okWide_slice (show Try.prog.underlying 23 = some (.slice 5) by kernel_rfl) (hval 2 23 v2 rfl rfl)) (by
    have e : Try.f3.params.toList ++ Rows.diskKeepsSpec.plain.varTypes Try.checked.prog = [22, 22, 23] := by rw [Try.params3]; rfl
    rw [e] at hwt
    exact hwt)).mono fun e W' ⟨he, hb⟩ => ?_
  subst he
  refine ⟨_, rfl, ⟨_, [], _, [], (p0 ++ (p1 ++ (p2 ++ []))), [], hW', trodAll_cons_mk (shut_bool Try.underlying4 _) trodAll_mk0, ?_, rfl, hb.frame _, fun h => by cases h⟩⟩
  refine Ax.trodAll_below (by kernel_rfl) (by kernel_rfl) (by kernel_rfl) hb (fun t ht => of_decide_eq_true (List.all_eq_true.1 (show (Try.f3.params.toList.all fun t => decide (t < Try.checked.prog.types.size)) = true by kernel_rfl) t ht)) hA ?_
  intro x hx
  simpa using hA.lt x hx

theorem over : Rows.diskKeepsRow.holds Try.pinned (OpenSpec.ofChange Rows.diskKeepsSpec) :=
  OpenClaim.holds_of_wide 3 Try.f3 rfl rfl rfl rfl rfl rfl rfl ⟨rfl, rfl, rfl, rfl, rfl⟩ rfl rfl rfl rfl rfl (by kernel_rfl) Try.func3 (by kernel_rfl)
    (of_decide_eq_true (by kernel_rfl)) (by unfold Func.isWrapper; first | (rw [if_pos (by decide +kernel)]; kernel_rfl) | (rw [if_neg (by decide +kernel)]; exact ⟨rfl, rfl⟩))
    (fun os started H enc _ => lifted os started H enc)

theorem proved : Rows.DiskKeepsSaid := over
#print axioms proved
end Go.Proofs.Ytfeamgocomlepaa.diskKeeps
