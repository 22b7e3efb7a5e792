/- Proved: 'ModelTwins' returns true, for every input; no condition. By a calculus of weakest preconditions over an abstract heap, which is sound for the machine. -/
import Derived.Test.YtfeamgocomlepaaMz5
import Derived.Test.YtfeamgocomlepaaRows
import Derived.WalkKit
import Derived.ProofKit
import Derived.OpenShut
import Derived.SizedLaws
set_option linter.unusedVariables false
set_option linter.unusedSimpArgs false
set_option linter.unnecessarySimpa false
set_option linter.constructorNameAsVariable false
/- Proved: 'ModelTwins' returns true, for every input; no condition. By a calculus of weakest preconditions over an abstract heap, which is sound for the machine. -/
namespace Go.Proofs.Ytfeamgocomlepaa.modelTwins
open Go.ChangeShapes Go.WideShapes Go.ChangeAt Go.RowKit
set_option linter.unusedVariables false
set_option maxRecDepth 100000

theorem own : ownKnob Try.prog.godebug = none := by kernel_rfl

def fs75 : Array Field := #[{ name := "What", type := 3, offset := 0, embedded := false, tag := "", pkgPath := "", byteOffset := 0 }, { name := "Name", type := 9, offset := 1, embedded := false, tag := "", pkgPath := "", byteOffset := 8 }, { name := "As", type := 9, offset := 2, embedded := false, tag := "", pkgPath := "", byteOffset := 24 }, { name := "Id", type := 70, offset := 3, embedded := false, tag := "", pkgPath := "", byteOffset := 40 }, { name := "Off", type := 70, offset := 4, embedded := false, tag := "", pkgPath := "", byteOffset := 48 }, { name := "N", type := 70, offset := 5, embedded := false, tag := "", pkgPath := "", byteOffset := 56 }, { name := "X", type := 5, offset := 6, embedded := false, tag := "", pkgPath := "", byteOffset := 64 }, { name := "Flag", type := 4, offset := 7, embedded := false, tag := "", pkgPath := "", byteOffset := 65 }, { name := "Short", type := 4, offset := 8, embedded := false, tag := "", pkgPath := "", byteOffset := 66 }, { name := "Picks", type := 23, offset := 9, embedded := false, tag := "", pkgPath := "", byteOffset := 72 }]
theorem actT : Ax.AbsT Try.prog 75 Ax.C.Act20A := by
  refine Ax.AbsT.imp (fun m : Int × ByteArray × ByteArray × Nat × Nat × Nat × UInt8 × Bool × Bool × List UInt8 × Unit => (⟨m.1, m.2.1, m.2.2.1, m.2.2.2.1, m.2.2.2.2.1, m.2.2.2.2.2.1, m.2.2.2.2.2.2.1, m.2.2.2.2.2.2.2.1, m.2.2.2.2.2.2.2.2.1⟩ : Ax.C.Act20)) (Ax.AbsT.struct (fs := fs75) (tot := 1 + (1 + (1 + (1 + (1 + (1 + (1 + (1 + (1 + (1 + (0))))))))))) (by kernel_rfl) (by kernel_rfl) (Ax.AbsF.cons (z := 1) rfl (by kernel_rfl) (Ax.AbsT.i64 (by kernel_rfl) (by kernel_rfl)) <| Ax.AbsF.cons (z := 1) rfl (by kernel_rfl) (Ax.AbsT.strA (by kernel_rfl) (by kernel_rfl)) <| Ax.AbsF.cons (z := 1) rfl (by kernel_rfl) (Ax.AbsT.strA (by kernel_rfl) (by kernel_rfl)) <| Ax.AbsF.cons (z := 1) rfl (by kernel_rfl) (Ax.AbsT.u64 (by kernel_rfl) (by kernel_rfl)) <| Ax.AbsF.cons (z := 1) rfl (by kernel_rfl) (Ax.AbsT.u64 (by kernel_rfl) (by kernel_rfl)) <| Ax.AbsF.cons (z := 1) rfl (by kernel_rfl) (Ax.AbsT.u64 (by kernel_rfl) (by kernel_rfl)) <| Ax.AbsF.cons (z := 1) rfl (by kernel_rfl) (Ax.AbsT.u8 (by kernel_rfl) (by kernel_rfl)) <| Ax.AbsF.cons (z := 1) rfl (by kernel_rfl) (Ax.AbsT.boolA (by kernel_rfl) (by kernel_rfl)) <| Ax.AbsF.cons (z := 1) rfl (by kernel_rfl) (Ax.AbsT.boolA (by kernel_rfl) (by kernel_rfl)) <| Ax.AbsF.cons (z := 1) rfl (by kernel_rfl) (Ax.AbsT.bytes (e := 5) (by kernel_rfl) (by kernel_rfl) (by kernel_rfl) (by kernel_rfl) (by kernel_rfl)) <| Ax.AbsF.nil 10)) ?_
  intro cs m l σ h
  obtain ⟨⟨c0, r0⟩, h⟩ := Ax.H_ex.1 h
  rw [Ax.H_sep] at h
  obtain ⟨⟨e0, l0⟩, h⟩ := Ax.H_pure.1 h
  have e0 : cs = c0 ++ r0 := e0
  rw [Ax.H_sep] at h
  obtain ⟨q0, h⟩ := Ax.H_pure.1 h
  obtain ⟨q0, b0⟩ := q0
  have q0 : c0 = _ := q0
  clear l0
  obtain ⟨⟨c1, r1⟩, h⟩ := Ax.H_ex.1 h
  rw [Ax.H_sep] at h
  obtain ⟨⟨e1, l1⟩, h⟩ := Ax.H_pure.1 h
  have e1 : r0 = c1 ++ r1 := e1
  rw [Ax.H_sep] at h
  obtain ⟨q1, h⟩ := Ax.H_pure.1 h
  obtain ⟨q1, b1⟩ := q1
  have q1 : c1 = _ := q1
  clear l1
  obtain ⟨⟨c2, r2⟩, h⟩ := Ax.H_ex.1 h
  rw [Ax.H_sep] at h
  obtain ⟨⟨e2, l2⟩, h⟩ := Ax.H_pure.1 h
  have e2 : r1 = c2 ++ r2 := e2
  rw [Ax.H_sep] at h
  obtain ⟨q2, h⟩ := Ax.H_pure.1 h
  obtain ⟨q2, b2⟩ := q2
  have q2 : c2 = _ := q2
  clear l2
  obtain ⟨⟨c3, r3⟩, h⟩ := Ax.H_ex.1 h
  rw [Ax.H_sep] at h
  obtain ⟨⟨e3, l3⟩, h⟩ := Ax.H_pure.1 h
  have e3 : r2 = c3 ++ r3 := e3
  rw [Ax.H_sep] at h
  obtain ⟨q3, h⟩ := Ax.H_pure.1 h
  obtain ⟨q3, b3⟩ := q3
  have q3 : c3 = _ := q3
  clear l3
  obtain ⟨⟨c4, r4⟩, h⟩ := Ax.H_ex.1 h
  rw [Ax.H_sep] at h
  obtain ⟨⟨e4, l4⟩, h⟩ := Ax.H_pure.1 h
  have e4 : r3 = c4 ++ r4 := e4
  rw [Ax.H_sep] at h
  obtain ⟨q4, h⟩ := Ax.H_pure.1 h
  obtain ⟨q4, b4⟩ := q4
  have q4 : c4 = _ := q4
  clear l4
  obtain ⟨⟨c5, r5⟩, h⟩ := Ax.H_ex.1 h
  rw [Ax.H_sep] at h
  obtain ⟨⟨e5, l5⟩, h⟩ := Ax.H_pure.1 h
  have e5 : r4 = c5 ++ r5 := e5
  rw [Ax.H_sep] at h
  obtain ⟨q5, h⟩ := Ax.H_pure.1 h
  obtain ⟨q5, b5⟩ := q5
  have q5 : c5 = _ := q5
  clear l5
  obtain ⟨⟨c6, r6⟩, h⟩ := Ax.H_ex.1 h
  rw [Ax.H_sep] at h
  obtain ⟨⟨e6, l6⟩, h⟩ := Ax.H_pure.1 h
  have e6 : r5 = c6 ++ r6 := e6
  rw [Ax.H_sep] at h
  obtain ⟨q6, h⟩ := Ax.H_pure.1 h
  have q6 : c6 = _ := q6
  clear l6
  obtain ⟨⟨c7, r7⟩, h⟩ := Ax.H_ex.1 h
  rw [Ax.H_sep] at h
  obtain ⟨⟨e7, l7⟩, h⟩ := Ax.H_pure.1 h
  have e7 : r6 = c7 ++ r7 := e7
  rw [Ax.H_sep] at h
  obtain ⟨q7, h⟩ := Ax.H_pure.1 h
  have q7 : c7 = _ := q7
  clear l7
  obtain ⟨⟨c8, r8⟩, h⟩ := Ax.H_ex.1 h
  rw [Ax.H_sep] at h
  obtain ⟨⟨e8, l8⟩, h⟩ := Ax.H_pure.1 h
  have e8 : r7 = c8 ++ r8 := e8
  rw [Ax.H_sep] at h
  obtain ⟨q8, h⟩ := Ax.H_pure.1 h
  have q8 : c8 = _ := q8
  clear l8
  obtain ⟨⟨c9, r9⟩, h⟩ := Ax.H_ex.1 h
  rw [Ax.H_sep] at h
  obtain ⟨⟨e9, l9⟩, h⟩ := Ax.H_pure.1 h
  have e9 : r8 = c9 ++ r9 := e9
  rw [Ax.H_sep] at h
  obtain ⟨v9, h⟩ := Ax.H_ex.1 h
  rw [Ax.H_sep] at h
  obtain ⟨q9, h⟩ := Ax.H_pure.1 h
  have f9 := h.rows_form 0 rfl
  have h := h.perm (List.Perm.swap _ _ _)
  have q9 : c9 = _ := q9
  clear l9
  obtain ⟨qn, h⟩ := Ax.H_pure.1 h
  have qn : r9 = [] := qn
  obtain ⟨a, c, hv⟩ := f9
  exact Ax.H_ex.2 ⟨v9, Ax.H_pure.2 ⟨⟨(by rw [e0, q0, e1, q1, e2, q2, e3, q3, e4, q4, e5, q5, e6, q6, e7, q7, e8, q8, e9, q9, qn]; rfl), by rw [hv]; rfl⟩, h.tail⟩⟩
theorem actsT : Ax.AbsT Try.prog 69 (M := List Ax.C.Act20) fun cs x => Ax.ex fun v => Ax.sep (Ax.pure' (cs = [v])) (Ax.C.Acts20 v x) :=
  Ax.AbsT.rows (t := 69) (e := 75) (z := 10) (by' := 96) (by kernel_rfl) (by kernel_rfl) (by kernel_rfl) (by kernel_rfl) (by decide) actT
theorem t2T : Ax.AbsT Try.prog 70 Ax.U64A := Ax.AbsT.u64 (by kernel_rfl) (by kernel_rfl)
theorem t3T : Ax.AbsT Try.prog 70 Ax.U64A := Ax.AbsT.u64 (by kernel_rfl) (by kernel_rfl)

theorem walk {H : Type} {enc : TypeId × Value → H} {W : World} {base : Nat} {v0 v1 v2 v3 : Value} {x0 x1 x2 x3 : DataW H} {p0 p1 p2 p3 : List MemPlace} (o0 : ∃ a l c, v0 = .slice a l c) (o1 : ∃ a l c, v1 = .slice a l c) (o2 : Value.okWide Try.prog W .any base 70 v2) (o3 : Value.okWide Try.prog W .any base 70 v3) (h0 : DataW.Trod enc Try.prog W 0 (fun _ => true) true 69 v0 x0 p0) (h1 : DataW.Trod enc Try.prog W 0 (fun _ => true) true 69 v1 x1 p1) (h2 : DataW.Trod enc Try.prog W 0 (fun _ => true) true 70 v2 x2 p2) (h3 : DataW.Trod enc Try.prog W 0 (fun _ => true) true 70 v3 x3 p3) (hw : (DataW.weightsEach Try.prog [69, 69, 70, 70] [x0, x1, x2, x3]).all (· ≤ reachBytes) = true) :
    Calls Try.prog 9 #[v0, v1, v2, v3] W fun e w' => e = .returned (.bool true) ∧ Below W.heap.size W w' := by
  obtain ⟨n0, h0⟩ := h0
  obtain ⟨n1, h1⟩ := h1
  obtain ⟨n2, h2⟩ := h2
  obtain ⟨n3, h3⟩ := h3
  obtain ⟨sa0, sl0, sc0, rfl⟩ := o0
  obtain ⟨sa1, sl1, sc1, rfl⟩ := o1
  obtain ⟨k2, rfl⟩ := okWide_int (show Try.prog.underlying 70 = some (.int .u64) by kernel_rfl) o2
  obtain ⟨k3, rfl⟩ := okWide_int (show Try.prog.underlying 70 = some (.int .u64) by kernel_rfl) o3
  simp only [List.all_eq_true, DataW.weightsEach, List.mem_append, List.append_nil, decide_eq_true_eq] at hw
  obtain ⟨ρ0, σ0, c0, m0, q0_1, q0_2, q0_3, q0_4, q0_5⟩ := actsT (Ax.Rel.start W) h0 fun w hm => hw w (.inl hm)
  obtain ⟨ρ1, σ1, c1, m1, q1_1, q1_2, q1_3, q1_4, q1_5⟩ := actsT q0_2 h1 fun w hm => hw w (.inr (.inl hm))
  obtain ⟨ρ2, σ2, c2, m2, q2_1, q2_2, q2_3, q2_4, q2_5⟩ := t2T q1_2 h2 fun w hm => hw w (.inr (.inr (.inl hm)))
  obtain ⟨ρ3, σ3, c3, m3, q3_1, q3_2, q3_3, q3_4, q3_5⟩ := t3T q2_2 h3 fun w hm => hw w (.inr (.inr (.inr hm)))
  have hg0 := q3_5 _ (q2_5 _ (q1_5 _ (q0_5 [] (Ax.H.nil _))))
  obtain ⟨⟨e3, hi3⟩, hg1⟩ := Ax.H_pure.1 hg0
  subst e3
  obtain ⟨⟨e2, hi2⟩, hg2⟩ := Ax.H_pure.1 hg1
  subst e2
  obtain ⟨w1, hg3⟩ := Ax.H_ex.1 hg2
  rw [Ax.H_sep] at hg3
  obtain ⟨e1, hg4⟩ := Ax.H_pure.1 hg3
  subst e1
  have hg5 := hg4.snoc
  simp only [List.cons_append, List.nil_append] at hg5
  obtain ⟨w0, hg6⟩ := Ax.H_ex.1 hg5
  rw [Ax.H_sep] at hg6
  obtain ⟨e0, hg7⟩ := Ax.H_pure.1 hg6
  subst e0
  have hg8 := hg7.snoc
  simp only [List.cons_append, List.nil_append] at hg8
  have hh := hg8
  have ha : Ax.LR ρ3 [w0, w1, .int .u64 m2, .int .u64 m3] [.slice sa0 sl0 sc0, .slice sa1 sl1 sc1, .int .u64 k2, .int .u64 k3] := ((((((q0_3.mono q1_1).append q1_3).mono q2_1).append q2_3).mono q3_1).append q3_3)
  refine Ax.Ev.law Try.func9 (by kernel_rfl) q3_2 ha ?_
  rw [← Ax.C.E_eq]
  exact Ax.C.twins_ev hi2 hi3 (hh.perm (.swap _ _ _)) (Ax.C.acts20_len (hh.perm (.swap _ _ _))) (Ax.C.acts20_len hh) fun _ => rfl

theorem lifted (os : Os) (started : os.Started) (H : Type) (enc : TypeId × Value → H) :
    ReturnsInHanded {} Try.checked os 9 .any (Rows.modelTwinsSpec.pre6 enc Try.prog Try.f9 Rows.modelTwinsRow.domain false) (Rows.modelTwinsSpec.post enc Try.prog Try.f9 false true false false) := by
  refine returnsInHanded_of_change_sized (C := Try.checked) own started (by kernel_rfl) Try.func9
    (ChangeSpec.witness6 (enc := enc) (C := Try.checked) false ⟨#[], #[.slice none 0 0, .slice none 0 0, .int .u64 0, .int .u64 0], []⟩ 8 (by kernel_rfl) (by kernel_rfl) (by kernel_rfl) (by kernel_rfl)) ?_
  intro W base args ds gs before hval0 hW hcnd hwt _
  have hW' := hW
  obtain ⟨p, q, hA0, hV, rfl, hfz, hnd⟩ := hW
  have hA : DataW.TrodAll enc Try.prog W 0 (fun _ => true) true Try.f9.params.toList args.toList ds p := hA0
  have hval : ∀ (j : Nat) t v, Try.f9.params[j]? = some t → args[j]? = some v → Value.okWide Try.prog W .any base t v := hval0
  have hA1 := hA
  rw [Try.params9] at hA1 hval
  obtain ⟨v0, vs0, d0, ds0, p0, q0, hargs, rfl, rfl, h0, r0⟩ := trodAll_cons hA1
  obtain ⟨v1, vs1, d1, ds1, p1, q1, rfl, rfl, rfl, h1, r1⟩ := trodAll_cons r0
  obtain ⟨v2, vs2, d2, ds2, p2, q2, rfl, rfl, rfl, h2, r2⟩ := trodAll_cons r1
  obtain ⟨v3, vs3, d3, ds3, p3, q3, rfl, rfl, rfl, h3, r3⟩ := trodAll_cons r2
  obtain ⟨rfl, rfl, rfl⟩ := trodAll_nil r3
  obtain rfl : args = #[v0, v1, v2, v3] := by cases args; simp_all
  obtain ⟨rfl, rfl⟩ := trodVars_none hV
  clear hA0 hval0
  refine (walk (okWide_slice (show Try.prog.underlying 69 = some (.slice 75) by kernel_rfl) (hval 0 69 v0 rfl rfl)) (okWide_slice (show Try.prog.underlying 69 = some (.slice 75) by kernel_rfl) (hval 1 69 v1 rfl rfl)) (hval 2 70 v2 rfl rfl) (hval 3 70 v3 rfl rfl) h0 h1 h2 h3 (by
    have e : Try.f9.params.toList ++ Rows.modelTwinsSpec.plain.varTypes Try.checked.prog = [69, 69, 70, 70] := by rw [Try.params9]; rfl
    rw [e] at hwt
    exact hwt)).mono fun e W' ⟨he, hb⟩ => ?_
  subst he
  refine ⟨_, rfl, ⟨_, [], _, [], (p0 ++ (p1 ++ (p2 ++ (p3 ++ [])))), [], hW', trodAll_cons_mk (shut_bool Try.underlying4 _) trodAll_mk0, ?_, rfl, hb.frame _, fun h => by cases h⟩⟩
  refine Ax.trodAll_below (by kernel_rfl) (by kernel_rfl) (by kernel_rfl) hb (fun t ht => of_decide_eq_true (List.all_eq_true.1 (show (Try.f9.params.toList.all fun t => decide (t < Try.checked.prog.types.size)) = true by kernel_rfl) t ht)) hA ?_
  intro x hx
  simpa using hA.lt x hx

theorem over : Rows.modelTwinsRow.holds Try.pinned (OpenSpec.ofChange Rows.modelTwinsSpec) :=
  OpenClaim.holds_of_wide 9 Try.f9 rfl rfl rfl rfl rfl rfl rfl ⟨rfl, rfl, rfl, rfl, rfl⟩ rfl rfl rfl rfl rfl (by kernel_rfl) Try.func9 (by kernel_rfl)
    (of_decide_eq_true (by kernel_rfl)) (by unfold Func.isWrapper; first | (rw [if_pos (by decide +kernel)]; kernel_rfl) | (rw [if_neg (by decide +kernel)]; exact ⟨rfl, rfl⟩))
    (fun os started H enc _ => lifted os started H enc)

theorem proved : Rows.ModelTwinsSaid := over
#print axioms proved
end Go.Proofs.Ytfeamgocomlepaa.modelTwins
