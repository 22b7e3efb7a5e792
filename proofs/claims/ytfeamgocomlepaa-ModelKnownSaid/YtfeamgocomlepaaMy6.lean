/- Proved: 'ModelKnown' (a closed statement) returns true, for every world and tape; no condition. By a calculus of weakest preconditions over an abstract heap, which is sound for the machine. -/
import Derived.Test.YtfeamgocomlepaaMy5
import Derived.Test.YtfeamgocomlepaaRows
import Derived.WalkKit
import Derived.ProofKit
import Derived.OpenShut
set_option linter.unusedVariables false
set_option linter.unusedSimpArgs false
set_option linter.unnecessarySimpa false
set_option linter.constructorNameAsVariable false
set_option maxRecDepth 100000
namespace Go.Ax.C
open Go.Proofs Go.RowKit

variable {l r m : List Assn} {σ : AHeap} {Q : RK}

def nZZ : ByteArray := ⟨#[122, 122]⟩
def big : Nat := 4294967296
def kn0 : MM := MM.createR ⟨1, []⟩ nA big false
def kn1 : MM := kn0.zeroR 1 0 big false
def kn2 : MM := kn1.wrR 1 (big - 1) [1] false
def kn3 : MM := kn2.zeroR 1 (big - 2) 2 false
def kn4 : MM := kn3.delR nA false
theorem kok0 : kn0.Ok := MM.Ok.new.createR _ _ _ (by decide)
theorem kok1 : kn1.Ok := kok0.zeroR _ _ _ _
theorem kok2 : kn2.Ok := kok1.wrR _ _ _ _
theorem kok3 : kn3.Ok := kok2.zeroR _ _ _ _
theorem kok4 : kn4.Ok := kok3.delR _ _
def fullN (j : Nat) : ByteArray := strB [UInt8.ofNat (97 + j)]
def full : Nat → MM
  | 0 => ⟨1, []⟩
  | j + 1 => (full j).createR (fullN j) 1 false
theorem full_ok : ∀ j, j ≤ 16 → (full j).Ok ∧ (full j).next ≤ 1 + j
  | 0, _ => ⟨.new, Nat.le_refl _⟩
  | j + 1, h => by
    obtain ⟨h1, h2⟩ := full_ok j (by omega)
    refine ⟨h1.createR _ _ _ (by omega), ?_⟩
    have := (next_le (M := full j)).1 (fullN j) 1 false
    show ((full j).createR (fullN j) 1 false).next ≤ _
    omega
theorem full_all : (List.range 16).all (fun j => decide (volE (full j) (fullN j) 1 false = 0) && decide ((full j).next = j + 1)) = true := by kernel_rfl
theorem full_at {j : Nat} (h : j < 16) : volE (full j) (fullN j) 1 false = 0 ∧ (full j).next = j + 1 := by
  have := List.all_eq_true.1 full_all j (by simpa using h)
  rw [Bool.and_eq_true] at this
  exact ⟨of_decide_eq_true this.1, of_decide_eq_true this.2⟩
def fu1 : MM := (full 16).delR nB false
def fu2 : MM := fu1.snapR nA nZZ true false
theorem fok16 : (full 16).Ok := (full_ok 16 (by omega)).1
theorem fok1 : fu1.Ok := fok16.delR _ _
theorem fok2 : fu2.Ok := fok1.snapR _ _ _ _ (of_decide_eq_true (by kernel_rfl))
theorem snapR_no {M : MM} {s t : ByteArray} {f b : Bool} (h : snapE M s t b ≠ 0) : M.snapR s t f b = M := by unfold MM.snapR; rw [if_neg h]
theorem delR_no {M : MM} {s : ByteArray} {b : Bool} (h : delE M s b ≠ 0) : M.delR s b = M := by unfold MM.delR; rw [if_neg h]
theorem trimR_no {M : MM} {id off n : Nat} {b : Bool} (h : chgE M id off n false b ≠ 0) : M.trimR id off n b = M := by unfold MM.trimR; rw [if_neg h]

theorem like_one {M M' : MM} {w : Nat × Hd} (hM : M.by' = [w]) (h : Like M M') : M' = M := by
  obtain ⟨h1, h2⟩ := h
  rw [hM] at h2
  have h3 := List.perm_singleton.1 h2
  cases M; cases M'
  simp only at *
  rw [h1, h3, hM]

theorem kn_k36 {x y : Nat} (h : H [ModelA y fu2, ModelA x kn1] σ) (hQ : ∀ τ, Q (.ret (.bool true)) τ) : s_law20_ModelKnown_k36 E Q false (.pointer (some ⟨x, 0, none⟩)) σ := by
  unfold s_law20_ModelKnown_k36
  refine If_f rfl ?_
  refine mcopy (h.re : H [ModelA x kn1] σ) kok1 ?_
  intro k M' σ1 hn hP h1
  rw [cV_ret]
  have hM' : M' = kn1 := like_one (w := (1, ⟨⟨1, nA, big, 0, false, 0⟩, []⟩)) (by kernel_rfl) ⟨hn, hP⟩
  subst hM'
  refine nw h1 ?_
  intro b σ2 h2
  have h2 : H [pt b (.cells (bv [1]) t_uint8 false), ModelA k kn1, ModelA x kn1] σ2 := h2
  refine mwriteA (id := 1) (off := 4294967295) (d := [1]) (h2.re : H [ModelA x kn1, pt b (.cells (bv [1]) t_uint8 false), ModelA k kn1] σ2) kok1 (fun τ h => pt_bts h (by decide)) (by decide) ?_
  intro σ3 h3
  have h3 : H [ModelA x kn2, pt b (.cells (bv [1]) t_uint8 false), ModelA k kn1] σ3 := h3
  rw [cI_ret]
  refine If_t (by kernel_rfl) ?_
  refine msame (h3.re : H [ModelA x kn2, ModelA k kn1] σ3) kok2 kok1 ?_
  intro σ4 h4
  rw [cB_ret]
  refine If_t (by kernel_rfl) ?_
  refine mzeroA (id := 1) (off := 4294967294) (n := 2) h4 kok2 ?_
  intro σ5 h5
  have h5 : H [ModelA x kn3, ModelA k kn1] σ5 := h5
  rw [cI_ret]
  refine If_t (by kernel_rfl) ?_
  refine msame h5 kok3 kok1 ?_
  intro σ6 h6
  rw [cB_ret]
  refine If_t (by kernel_rfl) ?_
  refine mdeleteA (s := nA) h6 kok3 ?_
  intro σ7 h7
  have h7 : H [ModelA x kn4, ModelA k kn1] σ7 := h7
  rw [cI_ret]
  refine If_t (by kernel_rfl) ?_
  refine mlist h7 kok4 ?_
  intro v L σ8 hL _ h8
  obtain ⟨_, _, a, c, rfl⟩ := h8.own_src 0 rfl
  rw [cV_ret, lenS_slice, ldI_some]
  have e0 : L.length = 0 := by rw [hL.length_eq]; kernel_rfl
  refine If_t (by rw [e0]; rfl) ?_
  refine mlist (h8.re : H [ModelA k kn1] σ8) kok1 ?_
  intro v' L' σ9 hL' _ h9
  obtain ⟨_, _, a', c', rfl⟩ := h9.own_src 0 rfl
  rw [cV_ret, lenS_slice, ldI_some]
  have e1 : L'.length = 1 := by rw [hL'.length_eq]; kernel_rfl
  refine If_t (by rw [e1]; rfl) ?_
  refine mwakes h9 ?_
  intro σ10 h10
  rw [cB_ret]
  exact hQ _

theorem kn_k21 {x : Nat} (h : H [ModelA x kn1] σ) (hQ : ∀ τ, Q (.ret (.bool true)) τ) : s_law20_ModelKnown_k21 E Q false (.pointer (some ⟨x, 0, none⟩)) σ := by
  unfold s_law20_ModelKnown_k21
  refine If_f rfl ?_
  refine mnew h ?_
  intro y σ1 h1
  rw [cV_ret]
  refine ⟨fun m i τ => ∃ j : Nat, m = 16 - j ∧ i = (j : Int) ∧ j ≤ 16 ∧ H [ModelA y (full j), ModelA x kn1] τ, ⟨_, 0, rfl, rfl, by omega, h1⟩, ?_⟩
  rintro m _ τ ⟨j, rfl, rfl, hj, h2⟩
  unfold s_law20_ModelKnown_b1
  refine If_dec (fun g => ?_) fun g => ?_
  · refine b64 ((97 + j : Nat) : Int) (by omega) ?_
    refine bu8 ((97 + j : Nat) : Int) (by omega) ?_
    refine nw h2 ?_
    intro b τ1 h3
    have e8 : Value.int .u8 ((97 + j : Nat) : Int) = by8 (UInt8.ofNat (97 + j)) := by
      unfold by8
      have : (UInt8.ofNat (97 + j)).toNat = 97 + j := by simp; omega
      rw [this]
    rw [e8] at h3
    have h3 : H [pt b (.cells (bv [UInt8.ofNat (97 + j)]) t_uint8 false), ModelA y (full j), ModelA x kn1] τ1 := h3
    have h4 := h3.to_own 0 (n := 1) (z := 1) rfl (by simp) (by unfold OPEN; omega)
    simp only [List.set_cons_zero] at h4
    rw [conv_strB h4, ldS_some]
    have hat := full_at (j := j) (by omega)
    refine mcreateA (s := fullN j) (n := 1) (h4.re : H [ModelA y (full j), ModelA x kn1] τ1) (full_ok j hj).1 ?_
    intro τ2 h5
    rw [c2_ret, tI_int, tI_int, hat.1, hat.2]
    refine b64 ((j + 1 : Nat) : Int) (by omega) ?_
    refine bu64 ((j + 1 : Nat) : Int) (by omega) ?_
    refine If_f (by simp [idR]) ?_
    unfold s_law20_ModelKnown_k28
    refine If_f rfl ?_
    refine b64 ((j + 1 : Nat) : Int) (by omega) ?_
    exact ⟨_, by omega, j + 1, rfl, rfl, by omega, h5⟩
  · have : j = 16 := by omega
    subst this
    refine mcreateA (s := nZZ) (n := 1) h2 fok16 ?_
    intro τ1 h3
    rw [createR_no (of_decide_eq_true (by kernel_rfl))] at h3
    rw [c2_ret, tI_int, tI_int]
    refine msnapshotA (s := nA) (as' := nZZ) h3 fok16 ?_
    intro τ2 h4
    rw [snapR_no (of_decide_eq_true (by kernel_rfl))] at h4
    rw [c2_ret, tI_int, tI_int]
    refine If_f (by kernel_rfl) ?_
    refine If_f (by kernel_rfl) ?_
    refine mdeleteA (s := nB) h4 fok16 ?_
    intro τ3 h5
    have h5 : H [ModelA y fu1, ModelA x kn1] τ3 := h5
    rw [cI_ret]
    unfold s_law20_ModelKnown_k33
    refine If_f (by kernel_rfl) ?_
    refine msnapshotA (s := nA) (as' := nZZ) h5 fok1 ?_
    intro τ4 h6
    have h6 : H [ModelA y fu2, ModelA x kn1] τ4 := h6
    rw [c2_ret, tI_int, tI_int]
    refine If_f (by kernel_rfl) ?_
    have e : (!decide (((snapE fu1 nA nZZ false : Nat) : Int) = 0)) = false := by kernel_rfl
    rw [e]
    exact kn_k36 h6 hQ

theorem kn_k16 {x : Nat} (h : H [ModelA x kn0] σ) (hQ : ∀ τ, Q (.ret (.bool true)) τ) : s_law20_ModelKnown_k16 E Q false (.pointer (some ⟨x, 0, none⟩)) σ := by
  unfold s_law20_ModelKnown_k16
  refine If_f rfl ?_
  refine mreadA (id := 1) (off := 0) (n := 4097) h kok0 ?_
  intro v1 σ1 h1
  rw [c2_ret, tI_int]
  refine mreadA (id := 1) (off := 4294967296) (n := 1) (h1.re : H [ModelA x kn0] σ1) kok0 ?_
  intro v2 σ2 h2
  rw [c2_ret, tI_int]
  refine mreadA (id := 1) (off := 4294967295) (n := 1) (h2.re : H [ModelA x kn0] σ2) kok0 ?_
  intro v3 σ3 h3
  rw [c2_ret, tI_int]
  refine If_f (by kernel_rfl) ?_
  refine If_f (by kernel_rfl) ?_
  refine If_f (by kernel_rfl) ?_
  obtain ⟨_, _, a, c, rfl⟩ := h3.own_src 0 rfl
  have e1 : (readR kn0 1 4294967295 1).length = 1 := by kernel_rfl
  rw [lenS_slice, ldI_some, e1]
  refine If_f rfl ?_
  refine make_ok (h3.re : H [ModelA x kn0] σ3) (by decide) ?_
  intro b σ4 h4
  have h4 := h4.unsnoc
  rw [reps_one] at h4
  have e2 : List.replicate (4097 : Int).toNat (Value.int .u8 0) = bv (List.replicate 4097 0) := by unfold bv; rw [List.map_replicate]; rfl
  rw [e2] at h4
  have hd : ∀ τ, H [pt b (.cells (bv (List.replicate 4097 0)) t_uint8 false)] τ → Bts τ (.slice (some ⟨b, 0, none⟩) 4097 4097) (List.replicate 4097 0) := fun τ h => by
    have := pt_bts h (by rw [List.length_replicate]; decide)
    rw [List.length_replicate] at this; exact this
  have el : (List.replicate 4097 (0 : UInt8)).length = 4097 := List.length_replicate ..
  refine mwriteA (id := 1) (off := 0) (d := List.replicate 4097 0) (h4.re : H [ModelA x kn0, pt b (.cells (bv (List.replicate 4097 0)) t_uint8 false)] σ4) kok0 hd (by rw [el]; decide) ?_
  intro σ5 h5
  have e3 : chgE kn0 1 0 (List.replicate 4097 (0 : UInt8)).length true false = 3 := by rw [el]; kernel_rfl
  rw [wrR_no (by rw [e3]; decide)] at h5
  rw [cI_ret, e3]
  refine If_f (by rfl) ?_
  refine mzeroA (id := 1) (off := 0) (n := 4294967296) (h5.re : H [ModelA x kn0] σ5) kok0 ?_
  intro σ6 h6
  have h6 : H [ModelA x kn1] σ6 := h6
  rw [cI_ret]
  refine If_f (by kernel_rfl) ?_
  refine mtrimA (id := 1) (off := 18446744073709551615) (n := 2) h6 kok1 ?_
  intro σ7 h7
  rw [trimR_no (of_decide_eq_true (by kernel_rfl))] at h7
  rw [cI_ret]
  refine If_f (by kernel_rfl) ?_
  refine mdeleteA (s := nB) h7 kok1 ?_
  intro σ8 h8
  rw [delR_no (of_decide_eq_true (by kernel_rfl))] at h8
  rw [cI_ret]
  refine If_f (by kernel_rfl) ?_
  refine mdeleteA (s := nA) h8 kok1 ?_
  intro σ9 h9
  rw [delR_no (of_decide_eq_true (by kernel_rfl))] at h9
  rw [cI_ret]
  have e : (!decide (((delE kn1 nA true : Nat) : Int) = 8)) = false := by kernel_rfl
  rw [e]
  exact kn_k21 h9 hQ

theorem kn_k9 {z : Nat} (h : H [ZM z] σ) (hQ : ∀ τ, Q (.ret (.bool true)) τ) : s_law20_ModelKnown_k9 E Q false z σ := by
  unfold s_law20_ModelKnown_k9
  refine If_f rfl ?_
  refine mnew h ?_
  intro x σ1 h1
  rw [cV_ret]
  refine mcreateA (s := ⟨#[65]⟩) (n := 1) h1 .new ?_
  intro σ2 h2
  rw [createR_no (of_decide_eq_true (by kernel_rfl))] at h2
  rw [c2_ret, tI_int, tI_int]
  refine mcreateA (s := nA) (n := 0) h2 .new ?_
  intro σ3 h3
  rw [createR_no (of_decide_eq_true (by kernel_rfl))] at h3
  rw [c2_ret, tI_int, tI_int]
  refine mcreateA (s := nA) (n := 4294967297) h3 .new ?_
  intro σ4 h4
  rw [createR_no (of_decide_eq_true (by kernel_rfl))] at h4
  rw [c2_ret, tI_int, tI_int]
  refine mcreateA (s := nA) (n := 4294967296) h4 .new ?_
  intro σ5 h5
  have h5 : H [ModelA x kn0, ZM z] σ5 := h5
  rw [c2_ret, tI_int, tI_int]
  refine If_f (by kernel_rfl) ?_
  refine If_f (by kernel_rfl) ?_
  refine If_f (by kernel_rfl) ?_
  refine If_f (by kernel_rfl) ?_
  refine If_f (by kernel_rfl) ?_
  refine same_zm h5 ?_
  rw [cB_ret]
  refine If_f rfl ?_
  refine same_nn h5 ?_
  rw [cB_ret]
  exact kn_k16 h5.re hQ

theorem known20_ev (hQ : ∀ τ, Q (.ret (.bool true)) τ) : E f_law20_ModelKnown [] σ Q := by
  apply e_law20_ModelKnown; unfold s_law20_ModelKnown
  have h0 : H [] σ := H.nil σ
  refine nw h0 ?_
  intro z σ1 h1
  have h1 : H [ZM z] σ1 := h1
  refine nn_create (n := 1) ?_
  rw [c2_ret, tI_int, tI_int]
  refine zm_snap h1 ?_
  rw [c2_ret, tI_int, tI_int]
  refine zm_get h1 ?_
  intro σ2 h2
  rw [c2_ret, tI_int]
  refine nw h2 ?_
  intro b1 σ3 h3
  refine storeN (vs := Vol.none.cells) h3 0 rfl rfl (by omega) rfl (by simp) ?_
  intro σ4 h4
  have h4 := h4.tail
  refine nn_byid (n := 1) h4 ?_
  intro σ5 h5
  rw [c2_ret, tI_int]
  refine nw h5 ?_
  intro b2 σ6 h6
  refine storeN (vs := Vol.none.cells) h6 0 rfl rfl (by omega) rfl (by simp) ?_
  intro σ7 h7
  have h7 : H [ZM z] σ7 := h7.tail
  refine nn_read (id := 1) (off := 0) (n := 0) h7 ?_
  intro σ8 h8
  rw [c2_ret, tI_int]
  refine If_f rfl ?_
  refine If_f rfl ?_
  refine If_f rfl ?_
  refine If_f rfl ?_
  refine If_f rfl ?_
  refine zm_delete h8 ?_
  rw [cI_ret]
  refine If_f rfl ?_
  refine nn_resize (n := 0) ?_
  rw [cI_ret]
  refine If_f rfl ?_
  refine zm_write (id := 1) (off := 0) h8 ?_
  intro σ9 h9
  rw [cI_ret]
  refine If_f rfl ?_
  refine nn_trim (id := 1) (off := 0) (n := 0) h9 ?_
  intro σ10 h10
  rw [cI_ret]
  refine If_f rfl ?_
  refine zm_zero (id := 1) (off := 0) (n := 0) h10 ?_
  intro σ11 h11
  rw [cI_ret]
  refine If_f rfl ?_
  refine nn_same ?_
  rw [cB_ret]
  refine If_f rfl ?_
  refine zm_same h11 ?_
  rw [cB_ret]
  refine If_f rfl ?_
  refine nn_copy ?_
  rw [cV_ret, bin_pne0, ldB_some]
  refine If_f rfl ?_
  refine zm_copy h11 ?_
  rw [cV_ret, bin_pne0, ldB_some]
  refine If_f rfl ?_
  refine nn_list ?_
  rw [cV_ret, lenS_slice, ldI_some]
  exact kn_k9 h11 hQ
end Go.Ax.C
/- Proved: 'ModelKnown' (a closed statement) returns true, for every world and tape; no condition. By a calculus of weakest preconditions over an abstract heap, which is sound for the machine. -/
namespace Go.Proofs.Ytfeamgocomlepaa.modelKnown
open Go.ChangeShapes Go.WideShapes Go.ChangeAt Go.RowKit
set_option linter.unusedVariables false
set_option maxRecDepth 100000

theorem own : ownKnob Try.prog.godebug = none := by kernel_rfl

theorem walk (W : World) : Calls Try.prog 11 #[] W fun e w' => e = .returned (.bool true) ∧ Below W.heap.size W w' := by
  exact Ax.Ev.law Try.func11 (by kernel_rfl) (Ax.Rel.start W) (Ax.LR.nil []) (by rw [← Ax.C.E_eq]; exact Ax.C.known20_ev fun _ => rfl)

theorem lifted (os : Os) (started : os.Started) (H : Type) (enc : TypeId × Value → H) :
    ReturnsInHanded {} Try.checked os 11 .any (Rows.modelKnownSpec.pre6 enc Try.prog Try.f11 Rows.modelKnownRow.domain false) (Rows.modelKnownSpec.post enc Try.prog Try.f11 false true false false) := by
  refine returnsInHanded_of_change (C := Try.checked) own started (by kernel_rfl) Try.func11
    (ChangeSpec.witness6 (enc := enc) (C := Try.checked) false ⟨#[], #[], []⟩ 8 (by kernel_rfl) (by kernel_rfl) (by kernel_rfl) (by kernel_rfl)) ?_
  intro W base args ds gs before hval0 hW hcnd _
  have hW' := hW
  obtain ⟨p, q, hA0, hV, rfl, hfz, hnd⟩ := hW
  have hA : DataW.TrodAll enc Try.prog W 0 (fun _ => true) true Try.f11.params.toList args.toList ds p := hA0
  rw [Try.params11] at hA
  obtain ⟨rfl, rfl, rfl⟩ := trodAll_none hA
  obtain ⟨rfl, rfl⟩ := trodVars_none hV
  clear hA0 hval0
  simp only [List.append_nil] at hW'
  refine (walk W).mono fun e W' ⟨he, hb⟩ => ?_
  subst he
  exact ⟨_, rfl, ⟨[], [], [], [], [], [], hW', trodAll_cons_mk (shut_bool Try.underlying4 _) trodAll_mk0, rfl, rfl, hb.frame _, fun h => by cases h⟩⟩

theorem over : Rows.modelKnownRow.holds Try.pinned (OpenSpec.ofChange Rows.modelKnownSpec) :=
  OpenClaim.holds_of_wide 11 Try.f11 rfl rfl rfl rfl rfl rfl rfl ⟨rfl, rfl, rfl, rfl, rfl⟩ rfl rfl rfl rfl rfl (by kernel_rfl) Try.func11 (by kernel_rfl)
    (of_decide_eq_true (by kernel_rfl)) (by unfold Func.isWrapper; first | (rw [if_pos (by decide +kernel)]; kernel_rfl) | (rw [if_neg (by decide +kernel)]; exact ⟨rfl, rfl⟩))
    (fun os started H enc _ => lifted os started H enc)

theorem proved : Rows.ModelKnownSaid := over
#print axioms proved
end Go.Proofs.Ytfeamgocomlepaa.modelKnown
