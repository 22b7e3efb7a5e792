/- Proved: 'DiskPlays' returns true, for every input; no condition. By a calculus of weakest preconditions over an abstract heap, which is sound for the machine. -/
import Derived.Test.YtfeamgocomlepaaRows
import Derived.WalkKit
import Derived.ProofKit
import Derived.OpenShut
import Derived.SizedLaws
import Derived.Test.YtfeamgocomlepaaR6
import Derived.Test.YtfeamgocomlepaaLx
namespace Go.Proofs.Ytfeamgocomlepaa.diskPlays
open Go.ChangeShapes Go.WideShapes Go.ChangeAt Go.RowKit
set_option linter.unusedVariables false
set_option maxRecDepth 100000

theorem own : ownKnob Try.prog.godebug = none := by kernel_rfl

theorem walk {H : Type} {enc : TypeId × Value → H} {W : World} {base : Nat} {v0 v1 : Value} {x0 x1 : DataW H} {p0 p1 : List MemPlace} (o0 : Value.okWide Try.prog W .any base 3 v0) (o1 : ∃ a l c, v1 = .slice a l c)
    (h0 : DataW.Trod enc Try.prog W 0 (fun _ => true) true 3 v0 x0 p0) (h1 : DataW.Trod enc Try.prog W 0 (fun _ => true) true 22 v1 x1 p1) (hw : (DataW.weightsEach Try.prog [3, 22] [x0, x1]).all (· ≤ reachBytes) = true) :
    Calls Try.prog 5 #[v0, v1] W fun e w' => e = .returned (.bool true) ∧ Below W.heap.size W w' := by
  obtain ⟨n0, h0⟩ := h0
  obtain ⟨n1, h1⟩ := h1
  obtain ⟨a, c, c', rfl⟩ := o1
  obtain ⟨k, rfl⟩ := okWide_int (show Try.prog.underlying 3 = some (.int .i64) by kernel_rfl) o0
  simp only [List.all_eq_true, DataW.weightsEach, List.mem_append, List.append_nil, decide_eq_true_eq] at hw
  obtain ⟨ρ1, σ1, c1, m1, q1, q2, q3, q4, q5⟩ := Ax.YtfeamgocomlepaaC.intT (Ax.Rel.start W) h0 fun w hm => hw w (.inl hm)
  obtain ⟨ρ2, σ2, c2, L, r1, r2, r3, r4, r5⟩ := Ax.YtfeamgocomlepaaC.actsT q2 h1 fun w hm => hw w (.inr hm)
  have hh := r5 _ (q5 [] (Ax.H.nil _))
  obtain ⟨v, hv1⟩ := Ax.H_ex.1 hh
  rw [Ax.H_sep] at hv1
  obtain ⟨e1, hv2⟩ := Ax.H_pure.1 hv1
  subst e1
  have hv3 := hv2.perm (List.Perm.swap _ _ _)
  obtain ⟨⟨e2, hi⟩, hh3⟩ := Ax.H_pure.1 hv3
  subst e2
  have ha : Ax.LR ρ2 [.int .i64 m1, v] [.int .i64 k, .slice a c c'] := (q3.mono r1).append r3
  have := Ax.YtfeamgocomlepaaC.law_call Ax.YtfeamgocomlepaaC.hX Try.func5 (by kernel_rfl) r2 ha (Ax.YtfeamgocomlepaaC.diskPlays_ev hi hh3)
  exact this

theorem lifted (os : Os) (started : os.Started) (H : Type) (enc : TypeId × Value → H) :
    ReturnsInHanded {} Try.checked os 5 .any (Rows.diskPlaysSpec.pre6 enc Try.prog Try.f5 Rows.diskPlaysRow.domain false) (Rows.diskPlaysSpec.post enc Try.prog Try.f5 false true false false) := by
  refine returnsInHanded_of_change_sized (C := Try.checked) own started (by kernel_rfl) Try.func5
    (ChangeSpec.witness6 (enc := enc) (C := Try.checked) false ⟨#[], #[.int .i64 0, .slice none 0 0], []⟩ 8 (by kernel_rfl) (by kernel_rfl) (by kernel_rfl) (by kernel_rfl)) ?_
  intro W base args ds gs before hval0 hW hcnd hwt _
  have hW' := hW
  obtain ⟨p, q, hA0, hV, rfl, hfz, hnd⟩ := hW
  have hA : DataW.TrodAll enc Try.prog W 0 (fun _ => true) true Try.f5.params.toList args.toList ds p := hA0
  have hval : ∀ (j : Nat) t v, Try.f5.params[j]? = some t → args[j]? = some v → Value.okWide Try.prog W .any base t v := hval0
  have hA1 := hA
  rw [Try.params5] at hA1 hval
  obtain ⟨v0, vs0, d0, ds0, p0, q0, hargs, rfl, rfl, h0, r0⟩ := trodAll_cons hA1
  obtain ⟨v1, vs1, d1, ds1, p1, q1, rfl, rfl, rfl, h1, r1⟩ := trodAll_cons r0
  obtain ⟨rfl, rfl, rfl⟩ := trodAll_nil r1
  obtain rfl : args = #[v0, v1] := by cases args; simp_all
  obtain ⟨rfl, rfl⟩ := trodVars_none hV
  clear hA0 hval0
  refine (walk (hval 0 3 v0 rfl rfl) (okWide_slice (show Try.prog.underlying 22 = some (.slice 30) by kernel_rfl) (hval 1 22 v1 rfl rfl)) h0 h1 (by
    have e : Try.f5.params.toList ++ Rows.diskPlaysSpec.plain.varTypes Try.checked.prog = [3, 22] := by rw [Try.params5]; rfl
    rw [e] at hwt
    exact hwt)).mono fun e W' ⟨he, hb⟩ => ?_
  subst he
  refine ⟨_, rfl, ⟨_, [], _, [], (p0 ++ (p1 ++ [])), [], hW', trodAll_cons_mk (shut_bool Try.underlying4 _) trodAll_mk0, ?_, rfl, hb.frame _, fun h => by cases h⟩⟩
  refine Ax.trodAll_below (by kernel_rfl) (by kernel_rfl) (by kernel_rfl) hb (fun t ht => of_decide_eq_true (List.all_eq_true.1 (show (Try.f5.params.toList.all fun t => decide (t < Try.checked.prog.types.size)) = true by kernel_rfl) t ht)) hA ?_
  intro x hx
  simpa using hA.lt x hx

theorem over : Rows.diskPlaysRow.holds Try.pinned (OpenSpec.ofChange Rows.diskPlaysSpec) :=
  OpenClaim.holds_of_wide 5 Try.f5 rfl rfl rfl rfl rfl rfl rfl ⟨rfl, rfl, rfl, rfl, rfl⟩ rfl rfl rfl rfl rfl (by kernel_rfl) Try.func5 (by kernel_rfl)
    (of_decide_eq_true (by kernel_rfl)) (by unfold Func.isWrapper; first | (rw [if_pos (by decide +kernel)]; kernel_rfl) | (rw [if_neg (by decide +kernel)]; exact ⟨rfl, rfl⟩))
    (fun os started H enc _ => lifted os started H enc)

theorem proved : Rows.DiskPlaysSaid := over
#print axioms proved
end Go.Proofs.Ytfeamgocomlepaa.diskPlays
