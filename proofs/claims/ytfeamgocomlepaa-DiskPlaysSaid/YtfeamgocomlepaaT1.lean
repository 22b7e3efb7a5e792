/- What functions of the program come to, in a readable form: printed by a program of this session's (wprint.py), proved by the kernel. No statement of the seat is proved here. -/
import Derived.Test.YtfeamgocomlepaaT0
set_option linter.unusedVariables false
set_option maxRecDepth 100000
namespace Go.Ax.YtfeamgocomlepaaC
open Go.Proofs
def s13k2 (Q : WK) (p9_6 p0_14 : Value) (τ_5 : AHeap) : Prop :=
  wC p9_6 (
  Q (.tuple #[(.pointer none), (.int .i64 1)]) τ_5) (
  pu (aBin (some (.int .i64)) .mul p0_14 (.int .i64 256)) fun v11_9 =>
  pu (aMake 5 1 [(.int .u8 0)] v11_9 v11_9 τ_5) fun r12_10 =>
  pu (buildR [(0, 1), (1, 1), (2, 1), (3, 1)] [(.slice none 0 0), (.slice none 0 0), (.int .i64 0), (.bool false)] [(0, r12_10.1)]) fun v13_11 =>
  cond (live v13_11) (wNew r12_10.2 (.cells (Value.cells v13_11).toList 88 false) fun b_12 τ_13 =>
  Q (.tuple #[(.pointer (some ⟨b_12, 0, none⟩)), (.int .i64 0)]) τ_13) False)

/-- cistern/disk.New -/
def s13 (Q : WK) (x0 : Value) (σ : AHeap) : Prop :=
  pu (aBin (some (.int .i64)) .lss x0 (.int .i64 1)) fun v5_3 =>
  wG v5_3 (
  (s13k2 Q (.bool true) x0 σ)) (
  pu (aBin (some (.int .i64)) .gtr x0 (.int .i64 1024)) fun v8_15 =>
  (s13k2 Q v8_15 x0 σ)) (
  wB v5_3 fun b_17 =>
  (s13k2 Q (cond b_17 (.bool true) skipV) x0 σ))

theorem s13_eq (Q : WK) (x0 : Value) (σ : AHeap) : wfun P E F 13 [x0] σ Q = s13 Q x0 σ := by kernel_rfl

theorem s13_ev {Q : WK} {x0 : Value} {σ : AHeap} (h : s13 Q x0 σ) : E 13 [x0] σ Q := E_of (by kernel_rfl) (Eq.mpr (s13_eq Q x0 σ) h)

/-- (*cistern/disk.Disk).Write -/
def s15 (Q : WK) (x0 x1 x2 : Value) (σ : AHeap) : Prop :=
  cond (live x0) (wNew σ (.cells (Value.cells x0).toList 24 false) fun b_1 τ_2 =>
  cond (live x1) (wNew τ_2 (.cells (Value.cells x1).toList 3 false) fun b_3 τ_4 =>
  cond (live x2) (wNew τ_4 (.cells (Value.cells x2).toList 23 false) fun b_5 τ_6 =>
  pu (aLoad false 1 (.pointer (some ⟨b_1, 0, none⟩)) τ_6) fun v8_9 =>
  pu (aLoad false 1 (.pointer (some ⟨b_3, 0, none⟩)) τ_6) fun v9_11 =>
  E 64 [v8_9, v9_11] τ_6 fun v10_12 τ_13 =>
  pu (aBin (some (.int .i64)) .neq v10_12 (.int .i64 0)) fun v12_16 =>
  wC v12_16 (
  Q v10_12 τ_13) (
  pu (aLoad false 1 (.pointer (some ⟨b_5, 0, none⟩)) τ_13) fun v14_22 =>
  pu (lenS v14_22) fun v15_23 =>
  pu (aBin (some (.int .i64)) .neq v15_23 (.int .i64 256)) fun v16_24 =>
  wC v16_24 (
  Q (.int .i64 1) τ_13) (
  pu (aLoad false 1 (.pointer (some ⟨b_1, 0, none⟩)) τ_13) fun v17_29 =>
  E 65 [v17_29, (.func (.func 66) #[] #[(.pointer (some ⟨b_5, 0, none⟩)), (.pointer (some ⟨b_1, 0, none⟩)), (.pointer (some ⟨b_3, 0, none⟩))])] τ_13 fun v19_32 τ_33 =>
  Q v19_32 τ_33))) False) False) False

theorem s15_eq (Q : WK) (x0 x1 x2 : Value) (σ : AHeap) : wfun P E F 15 [x0, x1, x2] σ Q = s15 Q x0 x1 x2 σ := by kernel_rfl

theorem s15_ev {Q : WK} {x0 x1 x2 : Value} {σ : AHeap} (h : s15 Q x0 x1 x2 σ) : E 15 [x0, x1, x2] σ Q := E_of (by kernel_rfl) (Eq.mpr (s15_eq Q x0 x1 x2 σ) h)

/-- cistern/cisternlaw03.within -/
def s16 (Q : WK) (x0 x1 : Value) (σ : AHeap) : Prop :=
  pu (convI .u64 x0) fun v6_3 =>
  pu (convI .u64 x1) fun v8_5 =>
  pu (aBin (some (.int .u64)) .rem v6_3 v8_5) fun v9_6 =>
  pu (convI .i64 v9_6) fun v10_7 =>
  Q v10_7 σ

theorem s16_eq (Q : WK) (x0 x1 : Value) (σ : AHeap) : wfun P E F 16 [x0, x1] σ Q = s16 Q x0 x1 σ := by kernel_rfl

theorem s16_ev {Q : WK} {x0 x1 : Value} {σ : AHeap} (h : s16 Q x0 x1 σ) : E 16 [x0, x1] σ Q := E_of (by kernel_rfl) (Eq.mpr (s16_eq Q x0 x1 σ) h)

/-- cistern/cisternlaw03.block -/
def s17 (Q : WK) (x0 : Value) (σ : AHeap) : Prop :=
  cond (live x0) (wNew σ (.cells (Value.cells x0).toList 30 false) fun b_1 τ_2 =>
  pu (aFieldAddr 4 (.pointer (some ⟨b_1, 0, none⟩))) fun v4_5 =>
  pu (aLoad false 1 v4_5 τ_2) fun v5_6 =>
  wC v5_6 (
  pu (aFieldAddr 3 (.pointer (some ⟨b_1, 0, none⟩))) fun v7_10 =>
  pu (aLoad false 1 v7_10 τ_2) fun v8_11 =>
  pu (aAppend 5 1 1 (.slice (some ⟨ZB, 0, some 0⟩) 0 0) v8_11 τ_2) fun r9_12 =>
  Q r9_12.1 r9_12.2) (
  pu (aFieldAddr 2 (.pointer (some ⟨b_1, 0, none⟩))) fun v10_15 =>
  pu (aLoad false 1 v10_15 τ_2) fun v11_16 =>
  E 26 [v11_16] τ_2 fun v12_17 τ_18 =>
  pu (aFieldAddr 3 (.pointer (some ⟨b_1, 0, none⟩))) fun v14_22 =>
  pu (aLoad false 1 v14_22 τ_18) fun v15_23 =>
  pu (aCopy 1 v12_17 v15_23 τ_18) fun r16_24 =>
  Q v12_17 r16_24.2)) False

theorem s17_eq (Q : WK) (x0 : Value) (σ : AHeap) : wfun P E F 17 [x0] σ Q = s17 Q x0 σ := by kernel_rfl

theorem s17_ev {Q : WK} {x0 : Value} {σ : AHeap} (h : s17 Q x0 σ) : E 17 [x0] σ Q := E_of (by kernel_rfl) (Eq.mpr (s17_eq Q x0 σ) h)

/-- (*cistern/disk.Disk).Barrier -/
def s18 (Q : WK) (x0 : Value) (σ : AHeap) : Prop :=
  E 64 [x0, (.int .i64 0)] σ fun v5_3 τ_4 =>
  pu (aBin (some (.int .i64)) .neq v5_3 (.int .i64 0)) fun v7_7 =>
  wC v7_7 (
  Q v5_3 τ_4) (
  E 65 [x0, (.func (.func 68) #[x0] #[])] τ_4 fun v12_13 τ_14 =>
  Q v12_13 τ_14)

theorem s18_eq (Q : WK) (x0 : Value) (σ : AHeap) : wfun P E F 18 [x0] σ Q = s18 Q x0 σ := by kernel_rfl

theorem s18_ev {Q : WK} {x0 : Value} {σ : AHeap} (h : s18 Q x0 σ) : E 18 [x0] σ Q := E_of (by kernel_rfl) (Eq.mpr (s18_eq Q x0 σ) h)

/-- (*cistern/disk.Disk).Flight -/
def s19 (Q : WK) (x0 : Value) (σ : AHeap) : Prop :=
  pu (aBin (some (.pointer 88)) .eql x0 (.pointer none)) fun v4_3 =>
  wC v4_3 (
  Q (.int .i64 0) σ) (
  pu (aNil x0) fun v6_8 =>
  pu (aFieldAddr 1 v6_8) fun v7_9 =>
  pu (aLoad false 1 v7_9 σ) fun v8_10 =>
  pu (lenS v8_10) fun v9_11 =>
  Q v9_11 σ)

theorem s19_eq (Q : WK) (x0 : Value) (σ : AHeap) : wfun P E F 19 [x0] σ Q = s19 Q x0 σ := by kernel_rfl

theorem s19_ev {Q : WK} {x0 : Value} {σ : AHeap} (h : s19 Q x0 σ) : E 19 [x0] σ Q := E_of (by kernel_rfl) (Eq.mpr (s19_eq Q x0 σ) h)

def s20k12 (N1 : Value → Value → Value → Value → Value → AHeap → Prop) (Q : WK) (p33_73 p7_75 p8_76 p31_77 p32_78 : Value) (τ_72 : AHeap) : Prop :=
  pu (aBin (some (.int .i64)) .add p33_73 (.int .i64 1)) fun v57_74 =>
  N1 p7_75 p8_76 p31_77 p32_78 v57_74 τ_72

def s20k11 (N1 : Value → Value → Value → Value → Value → AHeap → Prop) (Q : WK) (p47_61 p8_62 p10_63 p7_66 p33_79 p31_80 p32_81 : Value) (τ_60 : AHeap) : Prop :=
  wC p47_61 (
  pu (aFieldAddr 0 p10_63) fun v49_64 =>
  pu (aLoad false 1 v49_64 τ_60) fun v50_65 =>
  pu (aBin (some (.int .i64)) .sub v50_65 p7_66) fun v52_67 =>
  pu (aSlice 1 p8_62 (some v52_67) none none) fun v53_68 =>
  pu (aFieldAddr 1 p10_63) fun v54_69 =>
  pu (aLoad false 1 v54_69 τ_60) fun v55_70 =>
  pu (aCopy 1 v53_68 v55_70 τ_60) fun r56_71 =>
  (s20k12 N1 Q p33_79 p7_66 p8_62 p31_80 p32_81 r56_71.2)) (
  (s20k12 N1 Q p33_79 p7_66 p8_62 p31_80 p32_81 τ_60))

def s20b1 (N1 : Value → Value → Value → Value → Value → AHeap → Prop) (Q : WK) (x7_32 x8_33 x31_34 x32_35 x33_36 : Value) (τ_37 : AHeap) : Prop :=
  pu (aBin (some (.int .i64)) .lss x33_36 x32_35) fun v34_38 =>
  wC v34_38 (
  pu (aIndexAddr 2 x31_34 x33_36) fun v35_44 =>
  pu (aLoad true 2 v35_44 τ_37) fun v36_45 =>
  wNew τ_37 (.cells [(.int .i64 0), (.slice none 0 0)] 110 false) fun b_46 τ_47 =>
  pu (aStore 2 (.pointer (some ⟨b_46, 0, none⟩)) v36_45 τ_47) fun τ_48 =>
  pu (aFieldAddr 0 (.pointer (some ⟨b_46, 0, none⟩))) fun v37_51 =>
  pu (aLoad false 1 v37_51 τ_48) fun v38_52 =>
  pu (aBin (some (.int .i64)) .geq v38_52 x7_32) fun v40_54 =>
  wG v40_54 (
  pu (aFieldAddr 0 (.pointer (some ⟨b_46, 0, none⟩))) fun v42_55 =>
  pu (aLoad false 1 v42_55 τ_48) fun v43_56 =>
  pu (aBin (some (.int .i64)) .add x7_32 (.int .i64 256)) fun v45_57 =>
  pu (aBin (some (.int .i64)) .lss v43_56 v45_57) fun v46_58 =>
  (s20k11 N1 Q v46_58 x8_33 (.pointer (some ⟨b_46, 0, none⟩)) x7_32 x33_36 x31_34 x32_35 τ_48)) (
  (s20k11 N1 Q (.bool false) x8_33 (.pointer (some ⟨b_46, 0, none⟩)) x7_32 x33_36 x31_34 x32_35 τ_48)) (
  wB v40_54 fun b_87 =>
  (s20k11 N1 Q (cond b_87 skipV (.bool false)) x8_33 (.pointer (some ⟨b_46, 0, none⟩)) x7_32 x33_36 x31_34 x32_35 τ_48))) (
  Q (.tuple #[x8_33, (.int .i64 0)]) τ_37)

/-- (*cistern/disk.Disk).Read -/
def s20 (Q : WK) (x0 x1 : Value) (σ : AHeap) : Prop :=
  E 64 [x0, x1] σ fun v13_4 τ_5 =>
  pu (aBin (some (.int .i64)) .neq v13_4 (.int .i64 0)) fun v15_8 =>
  wC v15_8 (
  Q (.tuple #[(.slice none 0 0), v13_4]) τ_5) (
  pu (aBin (some (.int .i64)) .mul x1 (.int .i64 256)) fun v18_14 =>
  pu (aNil x0) fun v20_17 =>
  pu (aFieldAddr 0 v20_17) fun v21_18 =>
  pu (aLoad false 1 v21_18 τ_5) fun v22_19 =>
  pu (aBin (some (.int .i64)) .add v18_14 (.int .i64 256)) fun v25_21 =>
  pu (aSlice 1 v22_19 (some v18_14) (some v25_21) none) fun v26_22 =>
  E 67 [v26_22] τ_5 fun v27_23 τ_24 =>
  pu (aNil x0) fun v29_27 =>
  pu (aFieldAddr 1 v29_27) fun v30_28 =>
  pu (aLoad false 1 v30_28 τ_24) fun v31_29 =>
  pu (lenS v31_29) fun v32_30 =>
  ∃ I_98 : Nat → Value → Value → Value → Value → Value → AHeap → Prop, (∃ m, I_98 m v18_14 v27_23 v31_29 v32_30 (.int .i64 0) τ_24) ∧
  ∀ m (x7_32' x8_33' x31_34' x32_35' x33_36' : Value) (σ' : AHeap), I_98 m x7_32' x8_33' x31_34' x32_35' x33_36' σ' → (s20b1 (fun x7_32' x8_33' x31_34' x32_35' x33_36' σ' => ∃ m', m' < m ∧ I_98 m' x7_32' x8_33' x31_34' x32_35' x33_36' σ') Q x7_32' x8_33' x31_34' x32_35' x33_36' σ'))

theorem s20_eq (Q : WK) (x0 x1 : Value) (σ : AHeap) : wfun P E F 20 [x0, x1] σ Q = s20 Q x0 x1 σ := by kernel_rfl

theorem s20_ev {Q : WK} {x0 x1 : Value} {σ : AHeap} (h : s20 Q x0 x1 σ) : E 20 [x0, x1] σ Q := E_of (by kernel_rfl) (Eq.mpr (s20_eq Q x0 x1 σ) h)

/-- cistern/cisternlaw03.sector -/
def s21 (Q : WK) (x0 x1 : Value) (σ : AHeap) : Prop :=
  pu (aBin (some (.int .i64)) .mul (.int .i64 64) x1) fun v7_4 =>
  pu (aBin (some (.int .i64)) .mul (.int .i64 64) x1) fun v9_5 =>
  pu (aBin (some (.int .i64)) .add v9_5 (.int .i64 64)) fun v10_6 =>
  pu (aSlice 1 x0 (some v7_4) (some v10_6) none) fun v11_7 =>
  Q v11_7 σ

theorem s21_eq (Q : WK) (x0 x1 : Value) (σ : AHeap) : wfun P E F 21 [x0, x1] σ Q = s21 Q x0 x1 σ := by kernel_rfl

theorem s21_ev {Q : WK} {x0 x1 : Value} {σ : AHeap} (h : s21 Q x0 x1 σ) : E 21 [x0, x1] σ Q := E_of (by kernel_rfl) (Eq.mpr (s21_eq Q x0 x1 σ) h)

def s22k11 (N1 : Value → Value → Value → Value → Value → AHeap → Prop) (Q : WK) (p14_58 p0_60 p1_61 p12_62 p13_63 : Value) (τ_57 : AHeap) : Prop :=
  pu (aBin (some (.int .i64)) .add p14_58 (.int .i64 1)) fun v58_59 =>
  N1 p0_60 p1_61 p12_62 p13_63 v58_59 τ_57

def s22k9 (N1 : Value → Value → Value → Value → Value → AHeap → Prop) (Q : WK) (p6_42 p0_91 p5_92 p14_93 p1_94 p12_95 p13_96 : Value) (τ_41 : AHeap) : Prop :=
  pu (aBin (some (.int .i64)) .eql p6_42 (.int .i64 1)) fun v30_43 =>
  wC v30_43 (
  pu (aNil p0_91) fun v32_47 =>
  pu (aFieldAddr 0 v32_47) fun v33_48 =>
  pu (aLoad false 1 v33_48 τ_41) fun v34_49 =>
  pu (aFieldAddr 0 p5_92) fun v35_51 =>
  pu (aLoad false 1 v35_51 τ_41) fun v36_52 =>
  pu (aSlice 1 v34_49 (some v36_52) none none) fun v37_53 =>
  pu (aFieldAddr 1 p5_92) fun v38_54 =>
  pu (aLoad false 1 v38_54 τ_41) fun v39_55 =>
  pu (aCopy 1 v37_53 v39_55 τ_41) fun r40_56 =>
  (s22k11 N1 Q p14_93 p0_91 p1_94 p12_95 p13_96 r40_56.2)) (
  pu (aBin (some (.int .i64)) .gtr p6_42 (.int .i64 1)) fun v43_69 =>
  wC v43_69 (
  pu (aNil p0_91) fun v45_73 =>
  pu (aFieldAddr 0 v45_73) fun v46_74 =>
  pu (aLoad false 1 v46_74 τ_41) fun v47_75 =>
  pu (aFieldAddr 0 p5_92) fun v48_77 =>
  pu (aLoad false 1 v48_77 τ_41) fun v49_78 =>
  pu (aSlice 1 v47_75 (some v49_78) none none) fun v50_79 =>
  pu (aFieldAddr 1 p5_92) fun v51_80 =>
  pu (aLoad false 1 v51_80 τ_41) fun v52_81 =>
  pu (aBin (some (.int .i64)) .sub p6_42 (.int .i64 2)) fun v54_83 =>
  pu (aBin (some (.int .i64)) .rem v54_83 (.int .i64 65)) fun v55_84 =>
  pu (aSlice 1 v52_81 none (some v55_84) none) fun v56_85 =>
  pu (aCopy 1 v50_79 v56_85 τ_41) fun r57_86 =>
  (s22k11 N1 Q p14_93 p0_91 p1_94 p12_95 p13_96 r57_86.2)) (
  (s22k11 N1 Q p14_93 p0_91 p1_94 p12_95 p13_96 τ_41)))

def s22b1 (N1 : Value → Value → Value → Value → Value → AHeap → Prop) (Q : WK) (x0_11 x1_12 x12_13 x13_14 x14_15 : Value) (τ_16 : AHeap) : Prop :=
  pu (aBin (some (.int .i64)) .lss x14_15 x13_14) fun v15_17 =>
  wC v15_17 (
  pu (aIndexAddr 2 x12_13 x14_15) fun v17_23 =>
  pu (aLoad true 2 v17_23 τ_16) fun v18_24 =>
  wNew τ_16 (.cells [(.int .i64 0), (.slice none 0 0)] 110 false) fun b_25 τ_26 =>
  pu (aStore 2 (.pointer (some ⟨b_25, 0, none⟩)) v18_24 τ_26) fun τ_27 =>
  pu (lenS x1_12) fun v21_32 =>
  pu (aBin (some (.int .i64)) .lss x14_15 v21_32) fun v22_33 =>
  wC v22_33 (
  pu (aIndexAddr 1 x1_12 x14_15) fun v25_38 =>
  pu (aLoad false 1 v25_38 τ_27) fun v26_39 =>
  pu (convI .i64 v26_39) fun v27_40 =>
  (s22k9 N1 Q v27_40 x0_11 (.pointer (some ⟨b_25, 0, none⟩)) x14_15 x1_12 x12_13 x13_14 τ_27)) (
  (s22k9 N1 Q (.int .i64 0) x0_11 (.pointer (some ⟨b_25, 0, none⟩)) x14_15 x1_12 x12_13 x13_14 τ_27))) (
  pu (aNil x0_11) fun v62_126 =>
  pu (aFieldAddr 1 v62_126) fun v63_127 =>
  pu (aStore 1 v63_127 (.slice none 0 0) τ_16) fun τ_128 =>
  pu (aNil x0_11) fun v64_129 =>
  pu (aFieldAddr 2 v64_129) fun v65_130 =>
  pu (aStore 1 v65_130 (.int .i64 0) τ_128) fun τ_131 =>
  pu (aNil x0_11) fun v66_132 =>
  pu (aFieldAddr 3 v66_132) fun v67_133 =>
  pu (aStore 1 v67_133 (.bool false) τ_131) fun τ_134 =>
  Q (.tuple #[]) τ_134)

/-- (*cistern/disk.Disk).Crash -/
def s22 (Q : WK) (x0 x1 : Value) (σ : AHeap) : Prop :=
  pu (aBin (some (.pointer 88)) .eql x0 (.pointer none)) fun v8_1 =>
  wC v8_1 (
  Q (.tuple #[]) σ) (
  pu (aNil x0) fun v10_6 =>
  pu (aFieldAddr 1 v10_6) fun v11_7 =>
  pu (aLoad false 1 v11_7 σ) fun v12_8 =>
  pu (lenS v12_8) fun v13_9 =>
  ∃ I_135 : Nat → Value → Value → Value → Value → Value → AHeap → Prop, (∃ m, I_135 m x0 x1 v12_8 v13_9 (.int .i64 0) σ) ∧
  ∀ m (x0_11' x1_12' x12_13' x13_14' x14_15' : Value) (σ' : AHeap), I_135 m x0_11' x1_12' x12_13' x13_14' x14_15' σ' → (s22b1 (fun x0_11' x1_12' x12_13' x13_14' x14_15' σ' => ∃ m', m' < m ∧ I_135 m' x0_11' x1_12' x12_13' x13_14' x14_15' σ') Q x0_11' x1_12' x12_13' x13_14' x14_15' σ'))

theorem s22_eq (Q : WK) (x0 x1 : Value) (σ : AHeap) : wfun P E F 22 [x0, x1] σ Q = s22 Q x0 x1 σ := by kernel_rfl

theorem s22_ev {Q : WK} {x0 x1 : Value} {σ : AHeap} (h : s22 Q x0 x1 σ) : E 22 [x0, x1] σ Q := E_of (by kernel_rfl) (Eq.mpr (s22_eq Q x0 x1 σ) h)

/-- bytes.Equal -/
def s23 (Q : WK) (x0 x1 : Value) (σ : AHeap) : Prop :=
  pu (aConv P 23 9 x0 σ) fun v6_3 =>
  pu (aConv P 23 9 x1 σ) fun v8_5 =>
  pu (aBin (some .string) .eql v6_3 v8_5) fun v9_6 =>
  Q v9_6 σ

theorem s23_eq (Q : WK) (x0 x1 : Value) (σ : AHeap) : wfun P E F 23 [x0, x1] σ Q = s23 Q x0 x1 σ := by kernel_rfl

theorem s23_ev {Q : WK} {x0 x1 : Value} {σ : AHeap} (h : s23 Q x0 x1 σ) : E 23 [x0, x1] σ Q := E_of (by kernel_rfl) (Eq.mpr (s23_eq Q x0 x1 σ) h)

/-- (*cistern/disk.Disk).Off -/
def s24 (Q : WK) (x0 : Value) (σ : AHeap) : Prop :=
  pu (aBin (some (.pointer 88)) .eql x0 (.pointer none)) fun v4_3 =>
  wG v4_3 (
  Q (.bool true) σ) (
  pu (aNil x0) fun v7_5 =>
  pu (aFieldAddr 3 v7_5) fun v8_6 =>
  pu (aLoad false 1 v8_6 σ) fun v9_7 =>
  Q v9_7 σ) (
  wB v4_3 fun b_9 =>
  Q (cond b_9 (.bool true) skipV) σ)

theorem s24_eq (Q : WK) (x0 : Value) (σ : AHeap) : wfun P E F 24 [x0] σ Q = s24 Q x0 σ := by kernel_rfl

theorem s24_ev {Q : WK} {x0 : Value} {σ : AHeap} (h : s24 Q x0 σ) : E 24 [x0] σ Q := E_of (by kernel_rfl) (Eq.mpr (s24_eq Q x0 σ) h)

/-- (*cistern/disk.Disk).Fuse -/
def s25 (Q : WK) (x0 x1 : Value) (σ : AHeap) : Prop :=
  pu (aBin (some (.pointer 88)) .neq x0 (.pointer none)) fun v5_1 =>
  wC v5_1 (
  pu (aMax2 x1 (.int .i64 0)) fun v8_6 =>
  pu (aNil x0) fun v9_7 =>
  pu (aFieldAddr 2 v9_7) fun v10_8 =>
  pu (aStore 1 v10_8 v8_6 σ) fun τ_9 =>
  Q (.tuple #[]) τ_9) (
  Q (.tuple #[]) σ)

theorem s25_eq (Q : WK) (x0 x1 : Value) (σ : AHeap) : wfun P E F 25 [x0, x1] σ Q = s25 Q x0 x1 σ := by kernel_rfl

theorem s25_ev {Q : WK} {x0 x1 : Value} {σ : AHeap} (h : s25 Q x0 x1 σ) : E 25 [x0, x1] σ Q := E_of (by kernel_rfl) (Eq.mpr (s25_eq Q x0 x1 σ) h)

/-- cistern/cisternlaw03.Full -/
def s26 (Q : WK) (x0 : Value) (σ : AHeap) : Prop :=
  pu (buildS 5 1 1 [(.int .u8 0)] [(0, x0)] σ) fun r4_3 =>
  E 63 [r4_3.1, (.int .i64 256)] r4_3.2 fun v5_4 τ_5 =>
  Q v5_4 τ_5

theorem s26_eq (Q : WK) (x0 : Value) (σ : AHeap) : wfun P E F 26 [x0] σ Q = s26 Q x0 σ := by kernel_rfl

theorem s26_ev {Q : WK} {x0 : Value} {σ : AHeap} (h : s26 Q x0 σ) : E 26 [x0] σ Q := E_of (by kernel_rfl) (Eq.mpr (s26_eq Q x0 σ) h)

def s27b1 (N1 : Value → Value → Value → AHeap → Prop) (Q : WK) (x0_14 x4_15 x5_16 : Value) (τ_17 : AHeap) : Prop :=
  pu (aBin (some (.int .i64)) .mul (.int .i64 4) x0_14) fun v17_18 =>
  pu (aBin (some (.int .i64)) .lss x5_16 v17_18) fun v18_19 =>
  wC v18_19 (
  pu (aNil x4_15) fun v23_24 =>
  pu (aFieldAddr 0 v23_24) fun v24_25 =>
  pu (aLoad false 1 v24_25 τ_17) fun v25_26 =>
  pu (aMake 5 1 [(.int .u8 0)] (.int .i64 64) (.int .i64 64) τ_17) fun r26_27 =>
  pu (aLoad false 1 v24_25 r26_27.2) fun v25_28 =>
  veq1 v25_28 v25_26 = true ∧
  pu (buildS 23 1 1 [(.slice none 0 0)] [(0, r26_27.1)] r26_27.2) fun r27_29 =>
  pu (aLoad false 1 v24_25 r27_29.2) fun v25_30 =>
  veq1 v25_30 v25_26 = true ∧
  pu (aAppend 23 1 24 v25_26 r27_29.1 r27_29.2) fun r28_31 =>
  pu (aNil x4_15) fun v29_32 =>
  pu (aFieldAddr 0 v29_32) fun v30_33 =>
  pu (aStore 1 v30_33 r28_31.1 r28_31.2) fun τ_34 =>
  pu (aBin (some (.int .i64)) .add x5_16 (.int .i64 1)) fun v20_37 =>
  N1 x0_14 x4_15 v20_37 τ_34) (
  Q (.tuple #[x4_15, (.int .i64 0)]) τ_17)

def s27k2 (Q : WK) (p11_6 p0_54 : Value) (τ_5 : AHeap) : Prop :=
  wC p11_6 (
  Q (.tuple #[(.pointer none), (.int .i64 1)]) τ_5) (
  pu (buildR [(0, 1), (1, 1), (2, 1), (3, 1), (4, 1)] [(.slice none 0 0), (.slice none 0 0), (.int .i64 0), (.bool false), (.int .i64 0)] [(4, p0_54)]) fun v13_9 =>
  cond (live v13_9) (wNew τ_5 (.cells (Value.cells v13_9).toList 114 false) fun b_10 τ_11 =>
  ∃ I_47 : Nat → Value → Value → Value → AHeap → Prop, (∃ m, I_47 m p0_54 (.pointer (some ⟨b_10, 0, none⟩)) (.int .i64 0) τ_11) ∧
  ∀ m (x0_14' x4_15' x5_16' : Value) (σ' : AHeap), I_47 m x0_14' x4_15' x5_16' σ' → (s27b1 (fun x0_14' x4_15' x5_16' σ' => ∃ m', m' < m ∧ I_47 m' x0_14' x4_15' x5_16' σ') Q x0_14' x4_15' x5_16' σ')) False)

/-- cistern/cisternref03.New -/
def s27 (Q : WK) (x0 : Value) (σ : AHeap) : Prop :=
  pu (aBin (some (.int .i64)) .lss x0 (.int .i64 1)) fun v7_3 =>
  wG v7_3 (
  (s27k2 Q (.bool true) x0 σ)) (
  pu (aBin (some (.int .i64)) .gtr x0 (.int .i64 1024)) fun v10_55 =>
  (s27k2 Q v10_55 x0 σ)) (
  wB v7_3 fun b_57 =>
  (s27k2 Q (cond b_57 (.bool true) skipV) x0 σ))

theorem s27_eq (Q : WK) (x0 : Value) (σ : AHeap) : wfun P E F 27 [x0] σ Q = s27 Q x0 σ := by kernel_rfl

theorem s27_ev {Q : WK} {x0 : Value} {σ : AHeap} (h : s27 Q x0 σ) : E 27 [x0] σ Q := E_of (by kernel_rfl) (Eq.mpr (s27_eq Q x0 σ) h)

/-- (*cistern/disk.Disk).Blocks -/
def s28 (Q : WK) (x0 : Value) (σ : AHeap) : Prop :=
  pu (aBin (some (.pointer 88)) .eql x0 (.pointer none)) fun v4_3 =>
  wC v4_3 (
  Q (.int .i64 0) σ) (
  pu (aNil x0) fun v6_8 =>
  pu (aFieldAddr 0 v6_8) fun v7_9 =>
  pu (aLoad false 1 v7_9 σ) fun v8_10 =>
  pu (lenS v8_10) fun v9_11 =>
  pu (aBin (some (.int .i64)) .quo v9_11 (.int .i64 256)) fun v10_12 =>
  Q v10_12 σ)

theorem s28_eq (Q : WK) (x0 : Value) (σ : AHeap) : wfun P E F 28 [x0] σ Q = s28 Q x0 σ := by kernel_rfl

theorem s28_ev {Q : WK} {x0 : Value} {σ : AHeap} (h : s28 Q x0 σ) : E 28 [x0] σ Q := E_of (by kernel_rfl) (Eq.mpr (s28_eq Q x0 σ) h)

def s29b1 (N1 : Value → Value → Value → Value → AHeap → Prop) (Q : WK) (x0_26 x1_27 x2_28 x8_29 : Value) (τ_30 : AHeap) : Prop :=
  pu (aBin (some (.int .i64)) .lss x8_29 (.int .i64 4)) fun v21_31 =>
  wC v21_31 (
  pu (aNil x0_26) fun v26_36 =>
  pu (aFieldAddr 1 v26_36) fun v27_37 =>
  pu (aLoad false 1 v27_37 τ_30) fun v28_38 =>
  pu (aBin (some (.int .i64)) .mul (.int .i64 4) x1_27) fun v30_40 =>
  pu (aBin (some (.int .i64)) .add v30_40 x8_29) fun v32_42 =>
  pu (aBin (some (.int .i64)) .mul (.int .i64 64) x8_29) fun v35_44 =>
  pu (aBin (some (.int .i64)) .mul (.int .i64 64) x8_29) fun v37_45 =>
  pu (aBin (some (.int .i64)) .add v37_45 (.int .i64 64)) fun v38_46 =>
  pu (aSlice 1 x2_28 (some v35_44) (some v38_46) none) fun v39_47 =>
  E 71 [v39_47] τ_30 fun v40_48 τ_49 =>
  pu (aLoad false 1 v27_37 τ_49) fun v28_50 =>
  veq1 v28_50 v28_38 = true ∧
  pu (buildR [(0, 1), (1, 1)] [(.int .i64 0), (.slice none 0 0)] [(0, v32_42), (1, v40_48)]) fun v41_51 =>
  pu (buildS 117 2 1 [(.int .i64 0), (.slice none 0 0)] [(0, v41_51)] τ_49) fun r42_52 =>
  pu (aLoad false 1 v27_37 r42_52.2) fun v28_53 =>
  veq1 v28_53 v28_38 = true ∧
  pu (aAppend 117 2 32 v28_38 r42_52.1 r42_52.2) fun r43_54 =>
  pu (aNil x0_26) fun v44_55 =>
  pu (aFieldAddr 1 v44_55) fun v45_56 =>
  pu (aStore 1 v45_56 r43_54.1 r43_54.2) fun τ_57 =>
  pu (aBin (some (.int .i64)) .add x8_29 (.int .i64 1)) fun v23_60 =>
  N1 x0_26 x1_27 x2_28 v23_60 τ_57) (
  Q (.int .i64 0) τ_30)

/-- (*cistern/cisternref03.Disk).Write -/
def s29 (Q : WK) (x0 x1 x2 : Value) (σ : AHeap) : Prop :=
  E 69 [x0, x1] σ fun v11_4 τ_5 =>
  pu (aBin (some (.int .i64)) .neq v11_4 (.int .i64 0)) fun v13_8 =>
  wC v13_8 (
  Q v11_4 τ_5) (
  pu (lenS x2) fun v16_14 =>
  pu (aBin (some (.int .i64)) .neq v16_14 (.int .i64 256)) fun v17_15 =>
  wC v17_15 (
  Q (.int .i64 1) τ_5) (
  E 70 [x0] τ_5 fun v19_20 τ_21 =>
  wC v19_20 (
  Q (.int .i64 9) τ_21) (
  ∃ I_69 : Nat → Value → Value → Value → Value → AHeap → Prop, (∃ m, I_69 m x0 x1 x2 (.int .i64 0) τ_21) ∧
  ∀ m (x0_26' x1_27' x2_28' x8_29' : Value) (σ' : AHeap), I_69 m x0_26' x1_27' x2_28' x8_29' σ' → (s29b1 (fun x0_26' x1_27' x2_28' x8_29' σ' => ∃ m', m' < m ∧ I_69 m' x0_26' x1_27' x2_28' x8_29' σ') Q x0_26' x1_27' x2_28' x8_29' σ'))))

theorem s29_eq (Q : WK) (x0 x1 x2 : Value) (σ : AHeap) : wfun P E F 29 [x0, x1, x2] σ Q = s29 Q x0 x1 x2 σ := by kernel_rfl

theorem s29_ev {Q : WK} {x0 x1 x2 : Value} {σ : AHeap} (h : s29 Q x0 x1 x2 σ) : E 29 [x0, x1, x2] σ Q := E_of (by kernel_rfl) (Eq.mpr (s29_eq Q x0 x1 x2 σ) h)

def s30k14 (N2 : Value → Value → Value → Value → Value → Value → AHeap → Prop) (Q : WK) (p10_73 p0_75 p1_76 p7_77 p8_78 p9_79 : Value) (τ_72 : AHeap) : Prop :=
  pu (aBin (some (.int .i64)) .add p10_73 (.int .i64 1)) fun v41_74 =>
  N2 p0_75 p1_76 p7_77 p8_78 p9_79 v41_74 τ_72

def s30b2 (N1 : Value → Value → Value → Value → AHeap → Prop) (N2 : Value → Value → Value → Value → Value → Value → AHeap → Prop) (Q : WK) (x0_37 x1_38 x7_39 x8_40 x9_41 x10_42 : Value) (τ_43 : AHeap) : Prop :=
  pu (aNil x0_37) fun v35_44 =>
  pu (aFieldAddr 1 v35_44) fun v36_45 =>
  pu (aLoad false 1 v36_45 τ_43) fun v37_46 =>
  pu (lenS v37_46) fun v38_47 =>
  pu (aBin (some (.int .i64)) .lss x10_42 v38_47) fun v39_48 =>
  wC v39_48 (
  pu (aNil x0_37) fun v43_53 =>
  pu (aFieldAddr 1 v43_53) fun v44_54 =>
  pu (aLoad false 1 v44_54 τ_43) fun v45_55 =>
  pu (aIndexAddr 2 v45_55 x10_42) fun v47_57 =>
  pu (aFieldAddr 0 v47_57) fun v48_58 =>
  pu (aLoad false 1 v48_58 τ_43) fun v49_59 =>
  pu (aBin (some (.int .i64)) .eql v49_59 x8_40) fun v51_61 =>
  wC v51_61 (
  pu (aNil x0_37) fun v53_65 =>
  pu (aFieldAddr 1 v53_65) fun v54_66 =>
  pu (aLoad false 1 v54_66 τ_43) fun v55_67 =>
  pu (aIndexAddr 2 v55_67 x10_42) fun v57_69 =>
  pu (aFieldAddr 1 v57_69) fun v58_70 =>
  pu (aLoad false 1 v58_70 τ_43) fun v59_71 =>
  (s30k14 N2 Q x10_42 x0_37 x1_38 x7_39 x8_40 v59_71 τ_43)) (
  (s30k14 N2 Q x10_42 x0_37 x1_38 x7_39 x8_40 x9_41 τ_43))) (
  pu (aAppend 5 1 1 x7_39 x9_41 τ_43) fun r62_96 =>
  pu (aBin (some (.int .i64)) .add x8_40 (.int .i64 1)) fun v25_99 =>
  N1 x0_37 x1_38 r62_96.1 v25_99 r62_96.2)

def s30b1 (N1 : Value → Value → Value → Value → AHeap → Prop) (Q : WK) (x0_17 x1_18 x7_19 x8_20 : Value) (τ_21 : AHeap) : Prop :=
  pu (aBin (some (.int .i64)) .mul (.int .i64 4) x1_18) fun v21_22 =>
  pu (aBin (some (.int .i64)) .add v21_22 (.int .i64 4)) fun v22_23 =>
  pu (aBin (some (.int .i64)) .lss x8_20 v22_23) fun v23_24 =>
  wC v23_24 (
  pu (aNil x0_17) fun v27_29 =>
  pu (aFieldAddr 0 v27_29) fun v28_30 =>
  pu (aLoad false 1 v28_30 τ_21) fun v29_31 =>
  pu (aIndexAddr 1 v29_31 x8_20) fun v31_33 =>
  pu (aLoad false 1 v31_33 τ_21) fun v32_34 =>
  ∃ I_106 : Nat → Value → Value → Value → Value → Value → Value → AHeap → Prop, (∃ m, I_106 m x0_17 x1_18 x7_19 x8_20 v32_34 (.int .i64 0) τ_21) ∧
  ∀ m (x0_37' x1_38' x7_39' x8_40' x9_41' x10_42' : Value) (σ' : AHeap), I_106 m x0_37' x1_38' x7_39' x8_40' x9_41' x10_42' σ' → (s30b2 N1 (fun x0_37' x1_38' x7_39' x8_40' x9_41' x10_42' σ' => ∃ m', m' < m ∧ I_106 m' x0_37' x1_38' x7_39' x8_40' x9_41' x10_42' σ') Q x0_37' x1_38' x7_39' x8_40' x9_41' x10_42' σ')) (
  Q (.tuple #[x7_19, (.int .i64 0)]) τ_21)

/-- (*cistern/cisternref03.Disk).Read -/
def s30 (Q : WK) (x0 x1 : Value) (σ : AHeap) : Prop :=
  E 69 [x0, x1] σ fun v13_4 τ_5 =>
  pu (aBin (some (.int .i64)) .neq v13_4 (.int .i64 0)) fun v15_8 =>
  wC v15_8 (
  Q (.tuple #[(.slice none 0 0), v13_4]) τ_5) (
  pu (aBin (some (.int .i64)) .mul (.int .i64 4) x1) fun v18_15 =>
  ∃ I_127 : Nat → Value → Value → Value → Value → AHeap → Prop, (∃ m, I_127 m x0 x1 (.slice none 0 0) v18_15 τ_5) ∧
  ∀ m (x0_17' x1_18' x7_19' x8_20' : Value) (σ' : AHeap), I_127 m x0_17' x1_18' x7_19' x8_20' σ' → (s30b1 (fun x0_17' x1_18' x7_19' x8_20' σ' => ∃ m', m' < m ∧ I_127 m' x0_17' x1_18' x7_19' x8_20' σ') Q x0_17' x1_18' x7_19' x8_20' σ'))

theorem s30_eq (Q : WK) (x0 x1 : Value) (σ : AHeap) : wfun P E F 30 [x0, x1] σ Q = s30 Q x0 x1 σ := by kernel_rfl

theorem s30_ev {Q : WK} {x0 x1 : Value} {σ : AHeap} (h : s30 Q x0 x1 σ) : E 30 [x0, x1] σ Q := E_of (by kernel_rfl) (Eq.mpr (s30_eq Q x0 x1 σ) h)

def s31b1 (N1 : Value → Value → AHeap → Prop) (Q : WK) (x0_16 x3_17 : Value) (τ_18 : AHeap) : Prop :=
  pu (aNil x0_16) fun v12_19 =>
  pu (aFieldAddr 1 v12_19) fun v13_20 =>
  pu (aLoad false 1 v13_20 τ_18) fun v14_21 =>
  pu (lenS v14_21) fun v15_22 =>
  pu (aBin (some (.int .i64)) .lss x3_17 v15_22) fun v16_23 =>
  wC v16_23 (
  pu (aNil x0_16) fun v21_28 =>
  pu (aFieldAddr 1 v21_28) fun v22_29 =>
  pu (aLoad false 1 v22_29 τ_18) fun v23_30 =>
  pu (aIndexAddr 2 v23_30 x3_17) fun v25_32 =>
  pu (aLoad true 2 v25_32 τ_18) fun v26_33 =>
  E 72 [x0_16, v26_33, (.int .i64 64)] τ_18 fun v27_34 τ_35 =>
  pu (aBin (some (.int .i64)) .add x3_17 (.int .i64 1)) fun v18_38 =>
  N1 x0_16 v18_38 τ_35) (
  pu (aNil x0_16) fun v29_44 =>
  pu (aFieldAddr 1 v29_44) fun v30_45 =>
  pu (aStore 1 v30_45 (.slice none 0 0) τ_18) fun τ_46 =>
  Q (.int .i64 0) τ_46)

/-- (*cistern/cisternref03.Disk).Barrier -/
def s31 (Q : WK) (x0 : Value) (σ : AHeap) : Prop :=
  pu (aNil x0) fun v5_3 =>
  pu (aFieldAddr 3 v5_3) fun v6_4 =>
  pu (aLoad false 1 v6_4 σ) fun v7_5 =>
  wC v7_5 (
  Q (.int .i64 9) σ) (
  E 70 [x0] σ fun v9_10 τ_11 =>
  wC v9_10 (
  Q (.int .i64 9) τ_11) (
  ∃ I_48 : Nat → Value → Value → AHeap → Prop, (∃ m, I_48 m x0 (.int .i64 0) τ_11) ∧
  ∀ m (x0_16' x3_17' : Value) (σ' : AHeap), I_48 m x0_16' x3_17' σ' → (s31b1 (fun x0_16' x3_17' σ' => ∃ m', m' < m ∧ I_48 m' x0_16' x3_17' σ') Q x0_16' x3_17' σ')))

theorem s31_eq (Q : WK) (x0 : Value) (σ : AHeap) : wfun P E F 31 [x0] σ Q = s31 Q x0 σ := by kernel_rfl

theorem s31_ev {Q : WK} {x0 : Value} {σ : AHeap} (h : s31 Q x0 σ) : E 31 [x0] σ Q := E_of (by kernel_rfl) (Eq.mpr (s31_eq Q x0 σ) h)

/-- (*cistern/cisternref03.Disk).Fuse -/
def s32 (Q : WK) (x0 x1 : Value) (σ : AHeap) : Prop :=
  pu (aNil x0) fun v6_1 =>
  pu (aFieldAddr 2 v6_1) fun v7_2 =>
  pu (aStore 1 v7_2 x1 σ) fun τ_3 =>
  pu (aBin (some (.int .i64)) .lss x1 (.int .i64 1)) fun v9_6 =>
  wC v9_6 (
  pu (aNil x0) fun v11_10 =>
  pu (aFieldAddr 2 v11_10) fun v12_11 =>
  pu (aStore 1 v12_11 (.int .i64 0) τ_3) fun τ_12 =>
  Q (.tuple #[]) τ_12) (
  Q (.tuple #[]) τ_3)

theorem s32_eq (Q : WK) (x0 x1 : Value) (σ : AHeap) : wfun P E F 32 [x0, x1] σ Q = s32 Q x0 x1 σ := by kernel_rfl

theorem s32_ev {Q : WK} {x0 x1 : Value} {σ : AHeap} (h : s32 Q x0 x1 σ) : E 32 [x0, x1] σ Q := E_of (by kernel_rfl) (Eq.mpr (s32_eq Q x0 x1 σ) h)

def s33k8 (N1 : Value → Value → Value → AHeap → Prop) (Q : WK) (p4_54 p0_56 p1_57 : Value) (τ_53 : AHeap) : Prop :=
  pu (aBin (some (.int .i64)) .add p4_54 (.int .i64 1)) fun v20_55 =>
  N1 p0_56 p1_57 v20_55 τ_53

def s33k6 (N1 : Value → Value → Value → AHeap → Prop) (Q : WK) (p5_37 p0_59 p4_60 p1_61 : Value) (τ_36 : AHeap) : Prop :=
  pu (aBin (some (.int .i64)) .gtr p5_37 (.int .i64 1)) fun v38_38 =>
  wC v38_38 (
  pu (aNil p0_59) fun v41_42 =>
  pu (aFieldAddr 1 v41_42) fun v42_43 =>
  pu (aLoad false 1 v42_43 τ_36) fun v43_44 =>
  pu (aIndexAddr 2 v43_44 p4_60) fun v45_46 =>
  pu (aLoad true 2 v45_46 τ_36) fun v46_47 =>
  pu (aBin (some (.int .i64)) .sub p5_37 (.int .i64 2)) fun v48_49 =>
  pu (aBin (some (.int .i64)) .rem v48_49 (.int .i64 65)) fun v49_50 =>
  E 72 [p0_59, v46_47, v49_50] τ_36 fun v50_51 τ_52 =>
  (s33k8 N1 Q p4_60 p0_59 p1_61 τ_52)) (
  (s33k8 N1 Q p4_60 p0_59 p1_61 τ_36))

def s33k2 (N1 : Value → Value → Value → AHeap → Prop) (Q : WK) (p18_15 p1_68 p4_69 p0_70 : Value) (τ_14 : AHeap) : Prop :=
  wC p18_15 (
  pu (aIndexAddr 1 p1_68 p4_69) fun v23_19 =>
  pu (aLoad false 1 v23_19 τ_14) fun v24_20 =>
  pu (convI .i64 v24_20) fun v25_21 =>
  pu (aBin (some (.int .i64)) .eql v25_21 (.int .i64 1)) fun v27_24 =>
  wC v27_24 (
  pu (aNil p0_70) fun v30_28 =>
  pu (aFieldAddr 1 v30_28) fun v31_29 =>
  pu (aLoad false 1 v31_29 τ_14) fun v32_30 =>
  pu (aIndexAddr 2 v32_30 p4_69) fun v34_32 =>
  pu (aLoad true 2 v34_32 τ_14) fun v35_33 =>
  E 72 [p0_70, v35_33, (.int .i64 64)] τ_14 fun v36_34 τ_35 =>
  (s33k6 N1 Q v25_21 p0_70 p4_69 p1_68 τ_35)) (
  (s33k6 N1 Q v25_21 p0_70 p4_69 p1_68 τ_14))) (
  pu (aNil p0_70) fun v52_73 =>
  pu (aFieldAddr 1 v52_73) fun v53_74 =>
  pu (aStore 1 v53_74 (.slice none 0 0) τ_14) fun τ_75 =>
  pu (aNil p0_70) fun v55_78 =>
  pu (aFieldAddr 2 v55_78) fun v56_79 =>
  pu (aStore 1 v56_79 (.int .i64 0) τ_75) fun τ_80 =>
  pu (aNil p0_70) fun v58_83 =>
  pu (aFieldAddr 3 v58_83) fun v59_84 =>
  pu (aStore 1 v59_84 (.bool false) τ_80) fun τ_85 =>
  Q (.tuple #[]) τ_85)

def s33b1 (N1 : Value → Value → Value → AHeap → Prop) (Q : WK) (x0_2 x1_3 x4_4 : Value) (τ_5 : AHeap) : Prop :=
  pu (aNil x0_2) fun v8_6 =>
  pu (aFieldAddr 1 v8_6) fun v9_7 =>
  pu (aLoad false 1 v9_7 τ_5) fun v10_8 =>
  pu (lenS v10_8) fun v11_9 =>
  pu (aBin (some (.int .i64)) .lss x4_4 v11_9) fun v12_10 =>
  wG v12_10 (
  pu (lenS x1_3) fun v16_11 =>
  pu (aBin (some (.int .i64)) .lss x4_4 v16_11) fun v17_12 =>
  (s33k2 N1 Q v17_12 x1_3 x4_4 x0_2 τ_5)) (
  (s33k2 N1 Q (.bool false) x1_3 x4_4 x0_2 τ_5)) (
  wB v12_10 fun b_87 =>
  (s33k2 N1 Q (cond b_87 skipV (.bool false)) x1_3 x4_4 x0_2 τ_5))

/-- (*cistern/cisternref03.Disk).Crash -/
def s33 (Q : WK) (x0 x1 : Value) (σ : AHeap) : Prop :=
  ∃ I_88 : Nat → Value → Value → Value → AHeap → Prop, (∃ m, I_88 m x0 x1 (.int .i64 0) σ) ∧
  ∀ m (x0_2' x1_3' x4_4' : Value) (σ' : AHeap), I_88 m x0_2' x1_3' x4_4' σ' → (s33b1 (fun x0_2' x1_3' x4_4' σ' => ∃ m', m' < m ∧ I_88 m' x0_2' x1_3' x4_4' σ') Q x0_2' x1_3' x4_4' σ')

theorem s33_eq (Q : WK) (x0 x1 : Value) (σ : AHeap) : wfun P E F 33 [x0, x1] σ Q = s33 Q x0 x1 σ := by kernel_rfl

theorem s33_ev {Q : WK} {x0 x1 : Value} {σ : AHeap} (h : s33 Q x0 x1 σ) : E 33 [x0, x1] σ Q := E_of (by kernel_rfl) (Eq.mpr (s33_eq Q x0 x1 σ) h)

/-- (*cistern/disk.Disk).Copy -/
def s34 (Q : WK) (x0 : Value) (σ : AHeap) : Prop :=
  pu (aBin (some (.pointer 88)) .eql x0 (.pointer none)) fun v5_3 =>
  wC v5_3 (
  Q (.pointer none) σ) (
  pu (aNil x0) fun v7_8 =>
  pu (aLoad true 4 v7_8 σ) fun v8_9 =>
  wNew σ (.cells [(.slice none 0 0), (.slice none 0 0), (.int .i64 0), (.bool false)] 88 false) fun b_10 τ_11 =>
  pu (aStore 4 (.pointer (some ⟨b_10, 0, none⟩)) v8_9 τ_11) fun τ_12 =>
  pu (aNil x0) fun v10_15 =>
  pu (aFieldAddr 0 v10_15) fun v11_16 =>
  pu (aLoad false 1 v11_16 τ_12) fun v12_17 =>
  pu (aNil x0) fun v15_18 =>
  pu (aFieldAddr 1 v15_18) fun v16_19 =>
  pu (aLoad false 1 v16_19 τ_12) fun v17_20 =>
  E 67 [v12_17] τ_12 fun v13_21 τ_22 =>
  pu (aLoad false 1 v16_19 τ_22) fun v17_23 =>
  veq1 v17_23 v17_20 = true ∧
  E 73 [v17_20] τ_22 fun v18_24 τ_25 =>
  pu (aFieldAddr 0 (.pointer (some ⟨b_10, 0, none⟩))) fun v19_27 =>
  pu (aStore 1 v19_27 v13_21 τ_25) fun τ_28 =>
  pu (aFieldAddr 1 (.pointer (some ⟨b_10, 0, none⟩))) fun v20_29 =>
  pu (aStore 1 v20_29 v18_24 τ_28) fun τ_30 =>
  Q (.pointer (some ⟨b_10, 0, none⟩)) τ_30)

theorem s34_eq (Q : WK) (x0 : Value) (σ : AHeap) : wfun P E F 34 [x0] σ Q = s34 Q x0 σ := by kernel_rfl

theorem s34_ev {Q : WK} {x0 : Value} {σ : AHeap} (h : s34 Q x0 σ) : E 34 [x0] σ Q := E_of (by kernel_rfl) (Eq.mpr (s34_eq Q x0 σ) h)

def s35k13 (N1 : Value → Value → Value → Value → AHeap → Prop) (Q : WK) (p73_66 p5_67 p6_68 p49_69 p50_70 p4_78 : Value) (τ_65 : AHeap) : Prop :=
  wC p73_66 (
  Q (.bool false) τ_65) (
  pu (aBin (some (.int .i64)) .add p50_70 (.int .i64 1)) fun v74_73 =>
  N1 p5_67 p6_68 p49_69 v74_73 τ_65)

def s35b1 (N1 : Value → Value → Value → Value → AHeap → Prop) (Q : WK) (x5_36 x6_37 x49_38 x50_39 : Value) (τ_40 : AHeap) : Prop :=
  pu (aBin (some (.int .i64)) .lss x50_39 x49_38) fun v51_41 =>
  wC v51_41 (
  E 20 [x5_36, x50_39] τ_40 fun v56_49 τ_50 =>
  pu (aExtract v56_49 0) fun v57_51 =>
  pu (aExtract v56_49 1) fun v58_52 =>
  E 30 [x6_37, x50_39] τ_50 fun v62_56 τ_57 =>
  pu (aExtract v62_56 0) fun v63_58 =>
  pu (aExtract v62_56 1) fun v64_59 =>
  pu (aBin (some (.int .i64)) .neq v58_52 v64_59) fun v67_63 =>
  wG v67_63 (
  (s35k13 N1 Q (.bool true) x5_36 x6_37 x49_38 x50_39 undef τ_57)) (
  E 23 [v57_51, v63_58] τ_57 fun v71_86 τ_87 =>
  pu (aUn .not v71_86) fun v72_88 =>
  (s35k13 N1 Q v72_88 x5_36 x6_37 x49_38 x50_39 undef τ_87)) (
  wB v67_63 fun b_90 =>
  (s35k13 N1 Q (cond b_90 (.bool true) skipV) x5_36 x6_37 x49_38 x50_39 undef τ_57))) (
  Q (.bool true) τ_40)

def s35k2 (Q : WK) (p37_14 p0_123 p1_124 : Value) (τ_13 : AHeap) : Prop :=
  wC p37_14 (
  Q (.bool false) τ_13) (
  E 34 [p0_123] τ_13 fun v39_17 τ_18 =>
  E 74 [p1_124] τ_18 fun v41_20 τ_21 =>
  E 22 [v39_17, (.slice none 0 0)] τ_21 fun v43_24 τ_25 =>
  E 33 [v41_20, (.slice none 0 0)] τ_25 fun v45_28 τ_29 =>
  pu (aNil p1_124) fun v47_32 =>
  pu (aFieldAddr 4 v47_32) fun v48_33 =>
  pu (aLoad false 1 v48_33 τ_29) fun v49_34 =>
  ∃ I_111 : Nat → Value → Value → Value → Value → AHeap → Prop, (∃ m, I_111 m v39_17 v41_20 v49_34 (.int .i64 0) τ_29) ∧
  ∀ m (x5_36' x6_37' x49_38' x50_39' : Value) (σ' : AHeap), I_111 m x5_36' x6_37' x49_38' x50_39' σ' → (s35b1 (fun x5_36' x6_37' x49_38' x50_39' σ' => ∃ m', m' < m ∧ I_111 m' x5_36' x6_37' x49_38' x50_39' σ') Q x5_36' x6_37' x49_38' x50_39' σ'))

/-- cistern/cisternlaw03.alike -/
def s35 (Q : WK) (x0 x1 : Value) (σ : AHeap) : Prop :=
  pu (aNil x1) fun v15_4 =>
  pu (aFieldAddr 3 v15_4) fun v16_5 =>
  pu (aLoad false 1 v16_5 σ) fun v17_6 =>
  E 24 [x0] σ fun v13_7 τ_8 =>
  pu (aLoad false 1 v16_5 τ_8) fun v17_9 =>
  veq1 v17_9 v17_6 = true ∧
  pu (aBin (some .bool) .neq v13_7 v17_6) fun v18_10 =>
  wG v18_10 (
  (s35k2 Q (.bool true) x0 x1 τ_8)) (
  pu (aNil x1) fun v23_125 =>
  pu (aFieldAddr 1 v23_125) fun v24_126 =>
  pu (aLoad false 1 v24_126 τ_8) fun v25_127 =>
  pu (lenS v25_127) fun v26_128 =>
  E 19 [x0] τ_8 fun v21_129 τ_130 =>
  pu (aLoad false 1 v24_126 τ_130) fun v25_131 =>
  veq1 v25_131 v25_127 = true ∧
  pu (lenS v25_127) fun v26_132 =>
  veq1 v26_132 v26_128 = true ∧
  pu (aBin (some (.int .i64)) .neq v21_129 v26_128) fun v27_133 =>
  wG v27_133 (
  (s35k2 Q (.bool true) x0 x1 τ_130)) (
  pu (aNil x1) fun v33_136 =>
  pu (aFieldAddr 4 v33_136) fun v34_137 =>
  pu (aLoad false 1 v34_137 τ_130) fun v35_138 =>
  E 28 [x0] τ_130 fun v31_139 τ_140 =>
  pu (aLoad false 1 v34_137 τ_140) fun v35_141 =>
  veq1 v35_141 v35_138 = true ∧
  pu (aBin (some (.int .i64)) .neq v31_139 v35_138) fun v36_142 =>
  (s35k2 Q v36_142 x0 x1 τ_140)) (
  wB v27_133 fun b_144 =>
  (s35k2 Q (cond b_144 (.bool true) skipV) x0 x1 τ_130))) (
  wB v18_10 fun b_145 =>
  wG (cond b_145 (.bool true) skipV) (
  (s35k2 Q (.bool true) x0 x1 τ_8)) (
  pu (aNil x1) fun v33_147 =>
  pu (aFieldAddr 4 v33_147) fun v34_148 =>
  pu (aLoad false 1 v34_148 τ_8) fun v35_149 =>
  E 28 [x0] τ_8 fun v31_150 τ_151 =>
  pu (aLoad false 1 v34_148 τ_151) fun v35_152 =>
  veq1 v35_152 v35_149 = true ∧
  pu (aBin (some (.int .i64)) .neq v31_150 v35_149) fun v36_153 =>
  (s35k2 Q v36_153 x0 x1 τ_151)) (
  wB (cond b_145 (.bool true) skipV) fun b_155 =>
  (s35k2 Q (cond b_155 (.bool true) skipV) x0 x1 τ_8)))

theorem s35_eq (Q : WK) (x0 x1 : Value) (σ : AHeap) : wfun P E F 35 [x0, x1] σ Q = s35 Q x0 x1 σ := by kernel_rfl

theorem s35_ev {Q : WK} {x0 x1 : Value} {σ : AHeap} (h : s35 Q x0 x1 σ) : E 35 [x0, x1] σ Q := E_of (by kernel_rfl) (Eq.mpr (s35_eq Q x0 x1 σ) h)

def s64k4 (Q : WK) (p21_17 : Value) (τ_16 : AHeap) : Prop :=
  wC p21_17 (
  Q (.int .i64 6) τ_16) (
  Q (.int .i64 0) τ_16)

def s64k2 (Q : WK) (p5_6 p0_7 p1_25 : Value) (τ_5 : AHeap) : Prop :=
  wC p5_6 (
  Q (.int .i64 2) τ_5) (
  pu (aNil p0_7) fun v18_8 =>
  pu (aFieldAddr 3 v18_8) fun v19_9 =>
  pu (aLoad false 1 v19_9 τ_5) fun v20_10 =>
  wC v20_10 (
  Q (.int .i64 9) τ_5) (
  pu (aBin (some (.int .i64)) .lss p1_25 (.int .i64 0)) fun v23_14 =>
  wG v23_14 (
  (s64k4 Q (.bool true) τ_5)) (
  E 28 [p0_7] τ_5 fun v27_20 τ_21 =>
  pu (aBin (some (.int .i64)) .geq p1_25 v27_20) fun v28_22 =>
  (s64k4 Q v28_22 τ_21)) (
  wB v23_14 fun b_24 =>
  (s64k4 Q (cond b_24 (.bool true) skipV) τ_5))))

/-- (*cistern/disk.Disk).ready -/
def s64 (Q : WK) (x0 x1 : Value) (σ : AHeap) : Prop :=
  pu (aBin (some (.pointer 88)) .eql x0 (.pointer none)) fun v7_3 =>
  wG v7_3 (
  (s64k2 Q (.bool true) x0 x1 σ)) (
  pu (aNil x0) fun v10_27 =>
  pu (aFieldAddr 0 v10_27) fun v11_28 =>
  pu (aLoad false 1 v11_28 σ) fun v12_29 =>
  pu (lenS v12_29) fun v13_30 =>
  pu (aBin (some (.int .i64)) .eql v13_30 (.int .i64 0)) fun v14_31 =>
  (s64k2 Q v14_31 x0 x1 σ)) (
  wB v7_3 fun b_33 =>
  (s64k2 Q (cond b_33 (.bool true) skipV) x0 x1 σ))

theorem s64_eq (Q : WK) (x0 x1 : Value) (σ : AHeap) : wfun P E F 64 [x0, x1] σ Q = s64 Q x0 x1 σ := by kernel_rfl

theorem s64_ev {Q : WK} {x0 x1 : Value} {σ : AHeap} (h : s64 Q x0 x1 σ) : E 64 [x0, x1] σ Q := E_of (by kernel_rfl) (Eq.mpr (s64_eq Q x0 x1 σ) h)

def s65k6 (Q : WK) (p1_31 : Value) (τ_30 : AHeap) : Prop :=
  wF p1_31 fun g_34 a_35 c_36 => E g_34 (a_35 ++ [] ++ c_36) τ_30 fun v26_32 τ_33 =>
  Q (.int .i64 0) τ_33

/-- (*cistern/disk.Disk).burn -/
def s65 (Q : WK) (x0 x1 : Value) (σ : AHeap) : Prop :=
  pu (aNil x0) fun v6_3 =>
  pu (aFieldAddr 2 v6_3) fun v7_4 =>
  pu (aLoad false 1 v7_4 σ) fun v8_5 =>
  pu (aBin (some (.int .i64)) .gtr v8_5 (.int .i64 0)) fun v9_6 =>
  wC v9_6 (
  pu (aNil x0) fun v11_10 =>
  pu (aFieldAddr 2 v11_10) fun v12_11 =>
  pu (aLoad false 1 v12_11 σ) fun v13_12 =>
  pu (aBin (some (.int .i64)) .sub v13_12 (.int .i64 1)) fun v14_13 =>
  pu (aNil x0) fun v15_14 =>
  pu (aFieldAddr 2 v15_14) fun v16_15 =>
  pu (aStore 1 v16_15 v14_13 σ) fun τ_16 =>
  pu (aNil x0) fun v18_19 =>
  pu (aFieldAddr 2 v18_19) fun v19_20 =>
  pu (aLoad false 1 v19_20 τ_16) fun v20_21 =>
  pu (aBin (some (.int .i64)) .eql v20_21 (.int .i64 0)) fun v21_22 =>
  wC v21_22 (
  pu (aNil x0) fun v23_26 =>
  pu (aFieldAddr 3 v23_26) fun v24_27 =>
  pu (aStore 1 v24_27 (.bool true) τ_16) fun τ_28 =>
  Q (.int .i64 9) τ_28) (
  (s65k6 Q x1 τ_16))) (
  (s65k6 Q x1 σ))

theorem s65_eq (Q : WK) (x0 x1 : Value) (σ : AHeap) : wfun P E F 65 [x0, x1] σ Q = s65 Q x0 x1 σ := by kernel_rfl

theorem s65_ev {Q : WK} {x0 x1 : Value} {σ : AHeap} (h : s65 Q x0 x1 σ) : E 65 [x0, x1] σ Q := E_of (by kernel_rfl) (Eq.mpr (s65_eq Q x0 x1 σ) h)

def s66b1 (N1 : Value → Value → Value → Value → AHeap → Prop) (Q : WK) (x1_6 x2_7 x3_8 x4_9 : Value) (τ_10 : AHeap) : Prop :=
  pu (aBin (some (.int .i64)) .lss x4_9 (.int .i64 256)) fun v8_11 =>
  wC v8_11 (
  pu (aLoad false 1 x1_6 τ_10) fun v11_16 =>
  pu (aLoad false 1 x1_6 τ_10) fun v12_17 =>
  pu (aNil v12_17) fun v13_18 =>
  pu (aFieldAddr 1 v13_18) fun v14_19 =>
  pu (aLoad false 1 v14_19 τ_10) fun v15_20 =>
  pu (aLoad false 1 x2_7 τ_10) fun v16_22 =>
  pu (aBin (some (.int .i64)) .mul v16_22 (.int .i64 256)) fun v17_23 =>
  pu (aBin (some (.int .i64)) .add v17_23 x4_9) fun v19_25 =>
  pu (aBin (some (.int .i64)) .add x4_9 (.int .i64 64)) fun v23_27 =>
  pu (aBin (some (.int .i64)) .add x4_9 (.int .i64 64)) fun v25_28 =>
  pu (aSlice 1 x3_8 (some x4_9) (some v23_27) (some v25_28)) fun v26_29 =>
  pu (buildR [(0, 1), (1, 1)] [(.int .i64 0), (.slice none 0 0)] [(0, v19_25), (1, v26_29)]) fun v27_30 =>
  pu (buildS 110 2 1 [(.int .i64 0), (.slice none 0 0)] [(0, v27_30)] τ_10) fun r28_31 =>
  pu (aLoad false 1 x1_6 r28_31.2) fun v11_32 =>
  veq1 v11_32 v11_16 = true ∧
  pu (aLoad false 1 x1_6 r28_31.2) fun v12_33 =>
  veq1 v12_33 v12_17 = true ∧
  pu (aLoad false 1 v14_19 r28_31.2) fun v15_34 =>
  veq1 v15_34 v15_20 = true ∧
  pu (aAppend 110 2 32 v15_20 r28_31.1 r28_31.2) fun r29_35 =>
  pu (aLoad false 1 x1_6 r29_35.2) fun v11_36 =>
  veq1 v11_36 v11_16 = true ∧
  pu (aNil v11_16) fun v30_37 =>
  pu (aFieldAddr 1 v30_37) fun v31_38 =>
  pu (aStore 1 v31_38 r29_35.1 r29_35.2) fun τ_39 =>
  pu (aBin (some (.int .i64)) .add x4_9 (.int .i64 64)) fun v10_42 =>
  N1 x1_6 x2_7 x3_8 v10_42 τ_39) (
  Q (.tuple #[]) τ_10)

/-- (*cistern/disk.Disk).Write$1 -/
def s66 (Q : WK) (x0 x1 x2 : Value) (σ : AHeap) : Prop :=
  pu (aLoad false 1 x0 σ) fun v5_1 =>
  E 67 [v5_1] σ fun v6_2 τ_3 =>
  ∃ I_50 : Nat → Value → Value → Value → Value → AHeap → Prop, (∃ m, I_50 m x1 x2 v6_2 (.int .i64 0) τ_3) ∧
  ∀ m (x1_6' x2_7' x3_8' x4_9' : Value) (σ' : AHeap), I_50 m x1_6' x2_7' x3_8' x4_9' σ' → (s66b1 (fun x1_6' x2_7' x3_8' x4_9' σ' => ∃ m', m' < m ∧ I_50 m' x1_6' x2_7' x3_8' x4_9' σ') Q x1_6' x2_7' x3_8' x4_9' σ')

theorem s66_eq (Q : WK) (x0 x1 x2 : Value) (σ : AHeap) : wfun P E F 66 [x0, x1, x2] σ Q = s66 Q x0 x1 x2 σ := by kernel_rfl

theorem s66_ev {Q : WK} {x0 x1 x2 : Value} {σ : AHeap} (h : s66 Q x0 x1 x2 σ) : E 66 [x0, x1, x2] σ Q := E_of (by kernel_rfl) (Eq.mpr (s66_eq Q x0 x1 x2 σ) h)

/-- bytes.Clone -/
def s67 (Q : WK) (x0 : Value) (σ : AHeap) : Prop :=
  pu (aBin (some (.slice 5)) .eql x0 (.slice none 0 0)) fun v4_3 =>
  wC v4_3 (
  Q (.slice none 0 0) σ) (
  pu (aAppend 5 1 1 (.slice (some ⟨ZB, 0, some 0⟩) 0 0) x0 σ) fun r7_8 =>
  Q r7_8.1 r7_8.2)

theorem s67_eq (Q : WK) (x0 : Value) (σ : AHeap) : wfun P E F 67 [x0] σ Q = s67 Q x0 σ := by kernel_rfl

theorem s67_ev {Q : WK} {x0 : Value} {σ : AHeap} (h : s67 Q x0 σ) : E 67 [x0] σ Q := E_of (by kernel_rfl) (Eq.mpr (s67_eq Q x0 σ) h)

def s68b1 (N1 : Value → Value → Value → Value → AHeap → Prop) (Q : WK) (x0_6 x7_7 x8_8 x9_9 : Value) (τ_10 : AHeap) : Prop :=
  pu (aBin (some (.int .i64)) .lss x9_9 x8_8) fun v10_11 =>
  wC v10_11 (
  pu (aIndexAddr 2 x7_7 x9_9) fun v11_17 =>
  pu (aLoad true 2 v11_17 τ_10) fun v12_18 =>
  wNew τ_10 (.cells [(.int .i64 0), (.slice none 0 0)] 110 false) fun b_19 τ_20 =>
  pu (aStore 2 (.pointer (some ⟨b_19, 0, none⟩)) v12_18 τ_20) fun τ_21 =>
  pu (aNil x0_6) fun v14_24 =>
  pu (aFieldAddr 0 v14_24) fun v15_25 =>
  pu (aLoad false 1 v15_25 τ_21) fun v16_26 =>
  pu (aFieldAddr 0 (.pointer (some ⟨b_19, 0, none⟩))) fun v17_28 =>
  pu (aLoad false 1 v17_28 τ_21) fun v18_29 =>
  pu (aSlice 1 v16_26 (some v18_29) none none) fun v19_30 =>
  pu (aFieldAddr 1 (.pointer (some ⟨b_19, 0, none⟩))) fun v20_31 =>
  pu (aLoad false 1 v20_31 τ_21) fun v21_32 =>
  pu (aCopy 1 v19_30 v21_32 τ_21) fun r22_33 =>
  pu (aBin (some (.int .i64)) .add x9_9 (.int .i64 1)) fun v23_36 =>
  N1 x0_6 x7_7 x8_8 v23_36 r22_33.2) (
  pu (aNil x0_6) fun v25_51 =>
  pu (aFieldAddr 1 v25_51) fun v26_52 =>
  pu (aStore 1 v26_52 (.slice none 0 0) τ_10) fun τ_53 =>
  Q (.tuple #[]) τ_53)

/-- (*cistern/disk.Disk).land -/
def s68 (Q : WK) (x0 : Value) (σ : AHeap) : Prop :=
  pu (aNil x0) fun v5_1 =>
  pu (aFieldAddr 1 v5_1) fun v6_2 =>
  pu (aLoad false 1 v6_2 σ) fun v7_3 =>
  pu (lenS v7_3) fun v8_4 =>
  ∃ I_54 : Nat → Value → Value → Value → Value → AHeap → Prop, (∃ m, I_54 m x0 v7_3 v8_4 (.int .i64 0) σ) ∧
  ∀ m (x0_6' x7_7' x8_8' x9_9' : Value) (σ' : AHeap), I_54 m x0_6' x7_7' x8_8' x9_9' σ' → (s68b1 (fun x0_6' x7_7' x8_8' x9_9' σ' => ∃ m', m' < m ∧ I_54 m' x0_6' x7_7' x8_8' x9_9' σ') Q x0_6' x7_7' x8_8' x9_9' σ')

theorem s68_eq (Q : WK) (x0 : Value) (σ : AHeap) : wfun P E F 68 [x0] σ Q = s68 Q x0 σ := by kernel_rfl

theorem s68_ev {Q : WK} {x0 : Value} {σ : AHeap} (h : s68 Q x0 σ) : E 68 [x0] σ Q := E_of (by kernel_rfl) (Eq.mpr (s68_eq Q x0 σ) h)

def s69k4 (Q : WK) (p18_13 : Value) (τ_12 : AHeap) : Prop :=
  wC p18_13 (
  Q (.int .i64 6) τ_12) (
  Q (.int .i64 0) τ_12)

/-- (*cistern/cisternref03.Disk).why -/
def s69 (Q : WK) (x0 x1 : Value) (σ : AHeap) : Prop :=
  pu (aNil x0) fun v6_3 =>
  pu (aFieldAddr 3 v6_3) fun v7_4 =>
  pu (aLoad false 1 v7_4 σ) fun v8_5 =>
  wC v8_5 (
  Q (.int .i64 9) σ) (
  pu (aBin (some (.int .i64)) .lss x1 (.int .i64 0)) fun v10_10 =>
  wG v10_10 (
  (s69k4 Q (.bool true) σ)) (
  pu (aNil x0) fun v14_16 =>
  pu (aFieldAddr 4 v14_16) fun v15_17 =>
  pu (aLoad false 1 v15_17 σ) fun v16_18 =>
  pu (aBin (some (.int .i64)) .geq x1 v16_18) fun v17_19 =>
  (s69k4 Q v17_19 σ)) (
  wB v10_10 fun b_21 =>
  (s69k4 Q (cond b_21 (.bool true) skipV) σ)))

theorem s69_eq (Q : WK) (x0 x1 : Value) (σ : AHeap) : wfun P E F 69 [x0, x1] σ Q = s69 Q x0 x1 σ := by kernel_rfl

theorem s69_ev {Q : WK} {x0 x1 : Value} {σ : AHeap} (h : s69 Q x0 x1 σ) : E 69 [x0, x1] σ Q := E_of (by kernel_rfl) (Eq.mpr (s69_eq Q x0 x1 σ) h)

/-- (*cistern/cisternref03.Disk).burns -/
def s70 (Q : WK) (x0 : Value) (σ : AHeap) : Prop :=
  pu (aNil x0) fun v4_3 =>
  pu (aFieldAddr 2 v4_3) fun v5_4 =>
  pu (aLoad false 1 v5_4 σ) fun v6_5 =>
  pu (aBin (some (.int .i64)) .eql v6_5 (.int .i64 0)) fun v7_6 =>
  wC v7_6 (
  Q (.bool false) σ) (
  pu (aNil x0) fun v9_11 =>
  pu (aFieldAddr 2 v9_11) fun v10_12 =>
  pu (aLoad false 1 v10_12 σ) fun v11_13 =>
  pu (aBin (some (.int .i64)) .sub v11_13 (.int .i64 1)) fun v12_14 =>
  pu (aNil x0) fun v13_15 =>
  pu (aFieldAddr 2 v13_15) fun v14_16 =>
  pu (aStore 1 v14_16 v12_14 σ) fun τ_17 =>
  pu (aNil x0) fun v16_20 =>
  pu (aFieldAddr 2 v16_20) fun v17_21 =>
  pu (aLoad false 1 v17_21 τ_17) fun v18_22 =>
  pu (aBin (some (.int .i64)) .gtr v18_22 (.int .i64 0)) fun v19_23 =>
  wC v19_23 (
  Q (.bool false) τ_17) (
  pu (aNil x0) fun v21_28 =>
  pu (aFieldAddr 3 v21_28) fun v22_29 =>
  pu (aStore 1 v22_29 (.bool true) τ_17) fun τ_30 =>
  Q (.bool true) τ_30))

theorem s70_eq (Q : WK) (x0 : Value) (σ : AHeap) : wfun P E F 70 [x0] σ Q = s70 Q x0 σ := by kernel_rfl

theorem s70_ev {Q : WK} {x0 : Value} {σ : AHeap} (h : s70 Q x0 σ) : E 70 [x0] σ Q := E_of (by kernel_rfl) (Eq.mpr (s70_eq Q x0 σ) h)

/-- cistern/cisternref03.own -/
def s71 (Q : WK) (x0 : Value) (σ : AHeap) : Prop :=
  pu (aAppend 5 1 1 (.slice none 0 0) x0 σ) fun r6_5 =>
  Q r6_5.1 r6_5.2

theorem s71_eq (Q : WK) (x0 : Value) (σ : AHeap) : wfun P E F 71 [x0] σ Q = s71 Q x0 σ := by kernel_rfl

theorem s71_ev {Q : WK} {x0 : Value} {σ : AHeap} (h : s71 Q x0 σ) : E 71 [x0] σ Q := E_of (by kernel_rfl) (Eq.mpr (s71_eq Q x0 σ) h)

/-- (*cistern/cisternref03.Disk).lay -/
def s72 (Q : WK) (x0 x1 x2 : Value) (σ : AHeap) : Prop :=
  cond (live x1) (wNew σ (.cells (Value.cells x1).toList 117 false) fun b_1 τ_2 =>
  pu (aFieldAddr 1 (.pointer (some ⟨b_1, 0, none⟩))) fun v7_5 =>
  pu (aLoad false 1 v7_5 τ_2) fun v8_6 =>
  pu (aSlice 1 v8_6 none (some x2) none) fun v10_8 =>
  E 71 [v10_8] τ_2 fun v11_9 τ_10 =>
  pu (aNil x0) fun v13_13 =>
  pu (aFieldAddr 0 v13_13) fun v14_14 =>
  pu (aLoad false 1 v14_14 τ_10) fun v15_15 =>
  pu (aFieldAddr 0 (.pointer (some ⟨b_1, 0, none⟩))) fun v16_17 =>
  pu (aLoad false 1 v16_17 τ_10) fun v17_18 =>
  pu (aNil x0) fun v20_20 =>
  pu (aFieldAddr 0 v20_20) fun v21_21 =>
  pu (aLoad false 1 v21_21 τ_10) fun v22_22 =>
  pu (aFieldAddr 0 (.pointer (some ⟨b_1, 0, none⟩))) fun v23_23 =>
  pu (aLoad false 1 v23_23 τ_10) fun v24_24 =>
  pu (aIndexAddr 1 v22_22 v24_24) fun v25_25 =>
  pu (aLoad false 1 v25_25 τ_10) fun v26_26 =>
  pu (aSlice 1 v26_26 (some x2) none none) fun v28_28 =>
  pu (aAppend 5 1 1 v11_9 v28_28 τ_10) fun r29_29 =>
  pu (aLoad false 1 v14_14 r29_29.2) fun v15_30 =>
  veq1 v15_30 v15_15 = true ∧
  pu (aLoad false 1 v16_17 r29_29.2) fun v17_31 =>
  veq1 v17_31 v17_18 = true ∧
  pu (aIndexAddr 1 v15_15 v17_18) fun v30_32 =>
  pu (aStore 1 v30_32 r29_29.1 r29_29.2) fun τ_33 =>
  Q (.tuple #[]) τ_33) False

theorem s72_eq (Q : WK) (x0 x1 x2 : Value) (σ : AHeap) : wfun P E F 72 [x0, x1, x2] σ Q = s72 Q x0 x1 x2 σ := by kernel_rfl

theorem s72_ev {Q : WK} {x0 x1 x2 : Value} {σ : AHeap} (h : s72 Q x0 x1 x2 σ) : E 72 [x0, x1, x2] σ Q := E_of (by kernel_rfl) (Eq.mpr (s72_eq Q x0 x1 x2 σ) h)

/-- slices.Clone[[]cistern/disk.flight,cistern/disk.flight] -/
def s73 (Q : WK) (x0 : Value) (σ : AHeap) : Prop :=
  pu (aBin (some (.slice 110)) .eql x0 (.slice none 0 0)) fun v4_3 =>
  wC v4_3 (
  Q (.slice none 0 0) σ) (
  pu (aAppend 110 2 32 (.slice (some ⟨ZB, 0, some 0⟩) 0 0) x0 σ) fun r7_8 =>
  Q r7_8.1 r7_8.2)

theorem s73_eq (Q : WK) (x0 : Value) (σ : AHeap) : wfun P E F 73 [x0] σ Q = s73 Q x0 σ := by kernel_rfl

theorem s73_ev {Q : WK} {x0 : Value} {σ : AHeap} (h : s73 Q x0 σ) : E 73 [x0] σ Q := E_of (by kernel_rfl) (Eq.mpr (s73_eq Q x0 σ) h)

def s74b2 (N2 : Value → Value → Value → AHeap → Prop) (Q : WK) (x0_59 x3_60 x5_61 : Value) (τ_62 : AHeap) : Prop :=
  pu (aNil x0_59) fun v48_63 =>
  pu (aFieldAddr 1 v48_63) fun v49_64 =>
  pu (aLoad false 1 v49_64 τ_62) fun v50_65 =>
  pu (lenS v50_65) fun v51_66 =>
  pu (aBin (some (.int .i64)) .lss x5_61 v51_66) fun v52_67 =>
  wC v52_67 (
  pu (aNil x3_60) fun v57_72 =>
  pu (aFieldAddr 1 v57_72) fun v58_73 =>
  pu (aLoad false 1 v58_73 τ_62) fun v59_74 =>
  pu (aNil x0_59) fun v61_76 =>
  pu (aFieldAddr 1 v61_76) fun v62_77 =>
  pu (aLoad false 1 v62_77 τ_62) fun v63_78 =>
  pu (aIndexAddr 2 v63_78 x5_61) fun v65_80 =>
  pu (aFieldAddr 0 v65_80) fun v66_81 =>
  pu (aLoad false 1 v66_81 τ_62) fun v67_82 =>
  pu (aNil x0_59) fun v69_83 =>
  pu (aFieldAddr 1 v69_83) fun v70_84 =>
  pu (aLoad false 1 v70_84 τ_62) fun v71_85 =>
  pu (aIndexAddr 2 v71_85 x5_61) fun v73_86 =>
  pu (aFieldAddr 1 v73_86) fun v74_87 =>
  pu (aLoad false 1 v74_87 τ_62) fun v75_88 =>
  E 71 [v75_88] τ_62 fun v76_89 τ_90 =>
  pu (aLoad false 1 v58_73 τ_90) fun v59_91 =>
  veq1 v59_91 v59_74 = true ∧
  pu (aLoad false 1 v62_77 τ_90) fun v63_92 =>
  veq1 v63_92 v63_78 = true ∧
  pu (aLoad false 1 v66_81 τ_90) fun v67_93 =>
  veq1 v67_93 v67_82 = true ∧
  pu (buildR [(0, 1), (1, 1)] [(.int .i64 0), (.slice none 0 0)] [(0, v67_82), (1, v76_89)]) fun v77_94 =>
  pu (buildS 117 2 1 [(.int .i64 0), (.slice none 0 0)] [(0, v77_94)] τ_90) fun r78_95 =>
  pu (aLoad false 1 v58_73 r78_95.2) fun v59_96 =>
  veq1 v59_96 v59_74 = true ∧
  pu (aAppend 117 2 32 v59_74 r78_95.1 r78_95.2) fun r79_97 =>
  pu (aNil x3_60) fun v80_98 =>
  pu (aFieldAddr 1 v80_98) fun v81_99 =>
  pu (aStore 1 v81_99 r79_97.1 r79_97.2) fun τ_100 =>
  pu (aBin (some (.int .i64)) .add x5_61 (.int .i64 1)) fun v54_103 =>
  N2 x0_59 x3_60 v54_103 τ_100) (
  Q x3_60 τ_62)

def s74b1 (N1 : Value → Value → Value → AHeap → Prop) (Q : WK) (x0_17 x3_18 x4_19 : Value) (τ_20 : AHeap) : Prop :=
  pu (aNil x0_17) fun v22_21 =>
  pu (aFieldAddr 0 v22_21) fun v23_22 =>
  pu (aLoad false 1 v23_22 τ_20) fun v24_23 =>
  pu (lenS v24_23) fun v25_24 =>
  pu (aBin (some (.int .i64)) .lss x4_19 v25_24) fun v26_25 =>
  wC v26_25 (
  pu (aNil x3_18) fun v31_30 =>
  pu (aFieldAddr 0 v31_30) fun v32_31 =>
  pu (aLoad false 1 v32_31 τ_20) fun v33_32 =>
  pu (aNil x0_17) fun v35_34 =>
  pu (aFieldAddr 0 v35_34) fun v36_35 =>
  pu (aLoad false 1 v36_35 τ_20) fun v37_36 =>
  pu (aIndexAddr 1 v37_36 x4_19) fun v39_38 =>
  pu (aLoad false 1 v39_38 τ_20) fun v40_39 =>
  E 71 [v40_39] τ_20 fun v41_40 τ_41 =>
  pu (aLoad false 1 v32_31 τ_41) fun v33_42 =>
  veq1 v33_42 v33_32 = true ∧
  pu (buildS 23 1 1 [(.slice none 0 0)] [(0, v41_40)] τ_41) fun r42_43 =>
  pu (aLoad false 1 v32_31 r42_43.2) fun v33_44 =>
  veq1 v33_44 v33_32 = true ∧
  pu (aAppend 23 1 24 v33_32 r42_43.1 r42_43.2) fun r43_45 =>
  pu (aNil x3_18) fun v44_46 =>
  pu (aFieldAddr 0 v44_46) fun v45_47 =>
  pu (aStore 1 v45_47 r43_45.1 r43_45.2) fun τ_48 =>
  pu (aBin (some (.int .i64)) .add x4_19 (.int .i64 1)) fun v28_51 =>
  N1 x0_17 x3_18 v28_51 τ_48) (
  ∃ I_111 : Nat → Value → Value → Value → AHeap → Prop, (∃ m, I_111 m x0_17 x3_18 (.int .i64 0) τ_20) ∧
  ∀ m (x0_59' x3_60' x5_61' : Value) (σ' : AHeap), I_111 m x0_59' x3_60' x5_61' σ' → (s74b2 (fun x0_59' x3_60' x5_61' σ' => ∃ m', m' < m ∧ I_111 m' x0_59' x3_60' x5_61' σ') Q x0_59' x3_60' x5_61' σ'))

/-- (*cistern/cisternref03.Disk).Copy -/
def s74 (Q : WK) (x0 : Value) (σ : AHeap) : Prop :=
  pu (aNil x0) fun v7_3 =>
  pu (aFieldAddr 2 v7_3) fun v8_4 =>
  pu (aLoad false 1 v8_4 σ) fun v9_5 =>
  pu (aNil x0) fun v11_6 =>
  pu (aFieldAddr 3 v11_6) fun v12_7 =>
  pu (aLoad false 1 v12_7 σ) fun v13_8 =>
  pu (aNil x0) fun v15_9 =>
  pu (aFieldAddr 4 v15_9) fun v16_10 =>
  pu (aLoad false 1 v16_10 σ) fun v17_11 =>
  pu (buildR [(0, 1), (1, 1), (2, 1), (3, 1), (4, 1)] [(.slice none 0 0), (.slice none 0 0), (.int .i64 0), (.bool false), (.int .i64 0)] [(2, v9_5), (3, v13_8), (4, v17_11)]) fun v18_12 =>
  cond (live v18_12) (wNew σ (.cells (Value.cells v18_12).toList 114 false) fun b_13 τ_14 =>
  ∃ I_118 : Nat → Value → Value → Value → AHeap → Prop, (∃ m, I_118 m x0 (.pointer (some ⟨b_13, 0, none⟩)) (.int .i64 0) τ_14) ∧
  ∀ m (x0_17' x3_18' x4_19' : Value) (σ' : AHeap), I_118 m x0_17' x3_18' x4_19' σ' → (s74b1 (fun x0_17' x3_18' x4_19' σ' => ∃ m', m' < m ∧ I_118 m' x0_17' x3_18' x4_19' σ') Q x0_17' x3_18' x4_19' σ')) False

theorem s74_eq (Q : WK) (x0 : Value) (σ : AHeap) : wfun P E F 74 [x0] σ Q = s74 Q x0 σ := by kernel_rfl

theorem s74_ev {Q : WK} {x0 : Value} {σ : AHeap} (h : s74 Q x0 σ) : E 74 [x0] σ Q := E_of (by kernel_rfl) (Eq.mpr (s74_eq Q x0 σ) h)

def s3k42 (N4 : Value → Value → Value → Value → Value → Value → Value → Value → Value → Value → AHeap → Prop) (Q : WK) (p104_264 p2_266 p7_267 p11_268 p15_269 p17_270 p18_271 p86_272 p87_273 p88_274 : Value) (τ_263 : AHeap) : Prop :=
  pu (aBin (some (.int .i64)) .add p104_264 (.int .i64 1)) fun v159_265 =>
  N4 p2_266 p7_267 p11_268 p15_269 p17_270 p18_271 p86_272 p87_273 p88_274 v159_265 τ_263

def s3k46 (N4 : Value → Value → Value → Value → Value → Value → Value → Value → Value → Value → AHeap → Prop) (Q : WK) (p17_295 p19_297 p11_352 p18_353 p22_354 p104_355 p2_356 p7_357 p15_358 p86_359 p87_360 p88_361 : Value) (τ_294 : AHeap) : Prop :=
  pu (aBin (some (.int .i64)) .mul (.int .i64 4) p17_295) fun v128_296 =>
  pu (aBin (some (.int .i64)) .add v128_296 p19_297) fun v130_298 =>
  pu (aIndexAddrArr 16 1 p11_352 v130_298) fun v132_302 =>
  pu (aLoad false 1 v132_302 τ_294) fun v133_303 =>
  pu (aIndexAddrArr 16 1 p11_352 v130_298) fun v135_304 =>
  pu (aLoad false 1 v135_304 τ_294) fun v136_305 =>
  pu (lenS v136_305) fun v137_306 =>
  pu (aBin (some (.int .i64)) .sub v137_306 (.int .i64 1)) fun v138_307 =>
  pu (aIndexAddr 1 v133_303 v138_307) fun v139_308 =>
  pu (aLoad false 1 v139_308 τ_294) fun v140_309 =>
  pu (aIndexAddrArr 16 1 p11_352 v130_298) fun v143_313 =>
  pu (aLoad false 1 v143_313 τ_294) fun v144_314 =>
  pu (aSlice 1 v140_309 (some p22_354) none none) fun v154_319 =>
  E 21 [p18_353, p19_297] τ_294 fun v148_320 τ_321 =>
  pu (aLoad false 1 v143_313 τ_321) fun v144_322 =>
  veq1 v144_322 v144_314 = true ∧
  pu (aSlice 1 v148_320 none (some p22_354) none) fun v150_323 =>
  pu (aAppend 5 1 1 (.slice (some ⟨ZB, 0, some 0⟩) 0 0) v150_323 τ_321) fun r151_324 =>
  pu (aLoad false 1 v143_313 r151_324.2) fun v144_325 =>
  veq1 v144_325 v144_314 = true ∧
  pu (aAppend 5 1 1 r151_324.1 v154_319 r151_324.2) fun r155_326 =>
  pu (aLoad false 1 v143_313 r155_326.2) fun v144_327 =>
  veq1 v144_327 v144_314 = true ∧
  pu (buildS 23 1 1 [(.slice none 0 0)] [(0, r155_326.1)] r155_326.2) fun r156_328 =>
  pu (aLoad false 1 v143_313 r156_328.2) fun v144_329 =>
  veq1 v144_329 v144_314 = true ∧
  pu (aAppend 23 1 24 v144_314 r156_328.1 r156_328.2) fun r157_330 =>
  pu (aIndexAddrArr 16 1 p11_352 v130_298) fun v158_331 =>
  pu (aStore 1 v158_331 r157_330.1 r157_330.2) fun τ_332 =>
  (s3k42 N4 Q p104_355 p2_356 p7_357 p11_352 p15_358 p17_295 p18_353 p86_359 p87_360 p88_361 τ_332)

def s3k40 (N4 : Value → Value → Value → Value → Value → Value → Value → Value → Value → Value → AHeap → Prop) (Q : WK) (p21_259 p104_400 p2_401 p7_402 p11_403 p15_404 p17_405 p18_406 p86_407 p87_408 p88_409 p19_410 : Value) (τ_258 : AHeap) : Prop :=
  pu (aBin (some (.int .i64)) .eql p21_259 (.int .i64 0)) fun v121_260 =>
  wC v121_260 (
  (s3k42 N4 Q p104_400 p2_401 p7_402 p11_403 p15_404 p17_405 p18_406 p86_407 p87_408 p88_409 τ_258)) (
  pu (aBin (some (.int .i64)) .gtr p21_259 (.int .i64 1)) fun v123_288 =>
  wC v123_288 (
  pu (aBin (some (.int .i64)) .sub p21_259 (.int .i64 2)) fun v125_292 =>
  pu (aBin (some (.int .i64)) .rem v125_292 (.int .i64 65)) fun v126_293 =>
  (s3k46 N4 Q p17_405 p19_410 p11_403 p18_406 v126_293 p104_400 p2_401 p7_402 p15_404 p86_407 p87_408 p88_409 τ_258)) (
  (s3k46 N4 Q p17_405 p19_410 p11_403 p18_406 (.int .i64 64) p104_400 p2_401 p7_402 p15_404 p86_407 p87_408 p88_409 τ_258)))

def s3b4 (N3 : Value → Value → Value → Value → Value → Value → AHeap → Prop) (N4 : Value → Value → Value → Value → Value → Value → Value → Value → Value → Value → AHeap → Prop) (Q : WK) (x2_224 x7_225 x11_226 x15_227 x17_228 x18_229 x86_230 x87_231 x88_232 x104_233 : Value) (τ_234 : AHeap) : Prop :=
  pu (aBin (some (.int .i64)) .lss x104_233 (.int .i64 4)) fun v105_235 =>
  wC v105_235 (
  pu (aBin (some (.int .i64)) .mul (.int .i64 4) x15_227) fun v108_242 =>
  pu (aBin (some (.int .i64)) .add v108_242 x104_233) fun v110_244 =>
  pu (lenS x2_224) fun v113_249 =>
  pu (aBin (some (.int .i64)) .lss v110_244 v113_249) fun v114_250 =>
  wC v114_250 (
  pu (aIndexAddr 1 x2_224 v110_244) fun v117_255 =>
  pu (aLoad false 1 v117_255 τ_234) fun v118_256 =>
  pu (convI .i64 v118_256) fun v119_257 =>
  (s3k40 N4 Q v119_257 x104_233 x2_224 x7_225 x11_226 x15_227 x17_228 x18_229 x86_230 x87_231 x88_232 x104_233 τ_234)) (
  (s3k40 N4 Q (.int .i64 0) x104_233 x2_224 x7_225 x11_226 x15_227 x17_228 x18_229 x86_230 x87_231 x88_232 x104_233 τ_234))) (
  pu (aBin (some (.int .i64)) .add x88_232 (.int .i64 1)) fun v160_475 =>
  N3 x2_224 x7_225 x11_226 x86_230 x87_231 v160_475 τ_234)

def s3k57 (N5 : Value → Value → Value → AHeap → Prop) (Q : WK) (p193_566 p7_567 p11_568 p164_569 p6_576 : Value) (τ_565 : AHeap) : Prop :=
  wC p193_566 (
  Q (.bool false) τ_565) (
  pu (aBin (some (.int .i64)) .add p164_569 (.int .i64 1)) fun v194_572 =>
  N5 p7_567 p11_568 v194_572 τ_565)

def s3b5 (N5 : Value → Value → Value → AHeap → Prop) (Q : WK) (x7_544 x11_545 x164_546 : Value) (τ_547 : AHeap) : Prop :=
  pu (aBin (some (.int .i64)) .lss x164_546 (.int .i64 16)) fun v165_548 =>
  wC v165_548 (
  pu (aBin (some (.int .i64)) .quo x164_546 (.int .i64 4)) fun v170_556 =>
  E 20 [x7_544, v170_556] τ_547 fun v171_557 τ_558 =>
  pu (aExtract v171_557 0) fun v172_559 =>
  pu (aExtract v171_557 1) fun v173_560 =>
  pu (aBin (some (.int .i64)) .neq v173_560 (.int .i64 0)) fun v175_563 =>
  wG v175_563 (
  (s3k57 N5 Q (.bool true) x7_544 x11_545 x164_546 undef τ_558)) (
  pu (aBin (some (.int .i64)) .rem x164_546 (.int .i64 4)) fun v179_583 =>
  pu (aIndexAddrArr 16 1 x11_545 x164_546) fun v182_584 =>
  pu (aLoad false 1 v182_584 τ_558) fun v183_585 =>
  pu (aIndexAddrArr 16 1 x11_545 x164_546) fun v185_586 =>
  pu (aLoad false 1 v185_586 τ_558) fun v186_587 =>
  pu (lenS v186_587) fun v187_588 =>
  pu (aBin (some (.int .i64)) .sub v187_588 (.int .i64 1)) fun v188_589 =>
  pu (aIndexAddr 1 v183_585 v188_589) fun v189_590 =>
  pu (aLoad false 1 v189_590 τ_558) fun v190_591 =>
  E 21 [v172_559, v179_583] τ_558 fun v180_592 τ_593 =>
  pu (aLoad false 1 v182_584 τ_593) fun v183_594 =>
  veq1 v183_594 v183_585 = true ∧
  pu (aLoad false 1 v185_586 τ_593) fun v186_595 =>
  veq1 v186_595 v186_587 = true ∧
  pu (lenS v186_587) fun v187_596 =>
  veq1 v187_596 v187_588 = true ∧
  pu (aLoad false 1 v189_590 τ_593) fun v190_597 =>
  veq1 v190_597 v190_591 = true ∧
  E 23 [v180_592, v190_591] τ_593 fun v191_598 τ_599 =>
  pu (aUn .not v191_598) fun v192_600 =>
  (s3k57 N5 Q v192_600 x7_544 x11_545 x164_546 undef τ_599)) (
  wB v175_563 fun b_602 =>
  (s3k57 N5 Q (cond b_602 (.bool true) skipV) x7_544 x11_545 x164_546 undef τ_558))) (
  E 19 [x7_544] τ_547 fun v196_615 τ_616 =>
  pu (aBin (some (.int .i64)) .eql v196_615 (.int .i64 0)) fun v197_617 =>
  wG v197_617 (
  E 24 [x7_544] τ_616 fun v200_618 τ_619 =>
  pu (aUn .not v200_618) fun v201_620 =>
  Q v201_620 τ_619) (
  Q (.bool false) τ_616) (
  wB v197_617 fun b_623 =>
  Q (cond b_623 skipV (.bool false)) τ_616))

def s3b3 (N3 : Value → Value → Value → Value → Value → Value → AHeap → Prop) (Q : WK) (x2_175 x7_176 x11_177 x86_178 x87_179 x88_180 : Value) (τ_181 : AHeap) : Prop :=
  pu (aBin (some (.int .i64)) .lss x88_180 x87_179) fun v89_182 =>
  wC v89_182 (
  pu (aIndexAddr 5 x86_178 x88_180) fun v91_188 =>
  pu (aLoad true 5 v91_188 τ_181) fun v92_189 =>
  wNew τ_181 (.cells [(.int .i64 0), (.int .i64 0), (.int .u8 0), (.slice none 0 0), (.bool false)] 30 false) fun b_190 τ_191 =>
  pu (aStore 5 (.pointer (some ⟨b_190, 0, none⟩)) v92_189 τ_191) fun τ_192 =>
  pu (aFieldAddr 4 (.pointer (some ⟨b_190, 0, none⟩))) fun v93_195 =>
  pu (aStore 1 v93_195 (.bool false) τ_192) fun τ_196 =>
  pu (aFieldAddr 1 (.pointer (some ⟨b_190, 0, none⟩))) fun v94_199 =>
  pu (aLoad false 1 v94_199 τ_196) fun v95_200 =>
  pu (aLoad true 5 (.pointer (some ⟨b_190, 0, none⟩)) τ_196) fun v97_201 =>
  E 16 [v95_200, (.int .i64 4)] τ_196 fun v96_202 τ_203 =>
  pu (aLoad true 5 (.pointer (some ⟨b_190, 0, none⟩)) τ_203) fun v97_204 =>
  veq1 v97_204 v97_201 = true ∧
  E 17 [v97_201] τ_203 fun v98_205 τ_206 =>
  E 15 [x7_176, v96_202, v98_205] τ_206 fun v102_211 τ_212 =>
  pu (aBin (some (.int .i64)) .neq v102_211 (.int .i64 0)) fun v103_213 =>
  wC v103_213 (
  Q (.bool false) τ_212) (
  ∃ I_482 : Nat → Value → Value → Value → Value → Value → Value → Value → Value → Value → Value → AHeap → Prop, (∃ m, I_482 m x2_175 x7_176 x11_177 x88_180 v96_202 v98_205 x86_178 x87_179 x88_180 (.int .i64 0) τ_212) ∧
  ∀ m (x2_224' x7_225' x11_226' x15_227' x17_228' x18_229' x86_230' x87_231' x88_232' x104_233' : Value) (σ' : AHeap), I_482 m x2_224' x7_225' x11_226' x15_227' x17_228' x18_229' x86_230' x87_231' x88_232' x104_233' σ' → (s3b4 N3 (fun x2_224' x7_225' x11_226' x15_227' x17_228' x18_229' x86_230' x87_231' x88_232' x104_233' σ' => ∃ m', m' < m ∧ I_482 m' x2_224' x7_225' x11_226' x15_227' x17_228' x18_229' x86_230' x87_231' x88_232' x104_233' σ') Q x2_224' x7_225' x11_226' x15_227' x17_228' x18_229' x86_230' x87_231' x88_232' x104_233' σ'))) (
  E 22 [x7_176, x2_175] τ_181 fun v163_540 τ_541 =>
  ∃ I_624 : Nat → Value → Value → Value → AHeap → Prop, (∃ m, I_624 m x7_176 x11_177 (.int .i64 0) τ_541) ∧
  ∀ m (x7_544' x11_545' x164_546' : Value) (σ' : AHeap), I_624 m x7_544' x11_545' x164_546' σ' → (s3b5 (fun x7_544' x11_545' x164_546' σ' => ∃ m', m' < m ∧ I_624 m' x7_544' x11_545' x164_546' σ') Q x7_544' x11_545' x164_546' σ'))

def s3b2 (N2 : Value → Value → Value → Value → Value → AHeap → Prop) (Q : WK) (x1_118 x2_119 x7_120 x11_121 x68_122 : Value) (τ_123 : AHeap) : Prop :=
  pu (aBin (some (.int .i64)) .lss x68_122 (.int .i64 16)) fun v69_124 =>
  wC v69_124 (
  pu (aBin (some (.int .i64)) .quo x68_122 (.int .i64 4)) fun v74_132 =>
  E 20 [x7_120, v74_132] τ_123 fun v75_133 τ_134 =>
  pu (aExtract v75_133 0) fun v76_135 =>
  pu (aExtract v75_133 1) fun v77_136 =>
  pu (aBin (some (.int .i64)) .rem x68_122 (.int .i64 4)) fun v81_140 =>
  E 21 [v76_135, v81_140] τ_134 fun v82_141 τ_142 =>
  pu (buildS 23 1 1 [(.slice none 0 0)] [(0, v82_141)] τ_142) fun r83_143 =>
  pu (aIndexAddrArr 16 1 x11_121 x68_122) fun v84_145 =>
  pu (aStore 1 v84_145 r83_143.1 r83_143.2) fun τ_146 =>
  pu (aBin (some (.int .i64)) .add x68_122 (.int .i64 1)) fun v85_149 =>
  N2 x1_118 x2_119 x7_120 x11_121 v85_149 τ_146) (
  pu (lenS x1_118) fun v87_173 =>
  ∃ I_632 : Nat → Value → Value → Value → Value → Value → Value → AHeap → Prop, (∃ m, I_632 m x2_119 x7_120 x11_121 x1_118 v87_173 (.int .i64 0) τ_123) ∧
  ∀ m (x2_175' x7_176' x11_177' x86_178' x87_179' x88_180' : Value) (σ' : AHeap), I_632 m x2_175' x7_176' x11_177' x86_178' x87_179' x88_180' σ' → (s3b3 (fun x2_175' x7_176' x11_177' x86_178' x87_179' x88_180' σ' => ∃ m', m' < m ∧ I_632 m' x2_175' x7_176' x11_177' x86_178' x87_179' x88_180' σ') Q x2_175' x7_176' x11_177' x86_178' x87_179' x88_180' σ'))

def s3k15 (Q : WK) (p67_112 p1_657 p2_658 p7_659 : Value) (τ_111 : AHeap) : Prop :=
  wC p67_112 (
  Q (.bool false) τ_111) (
  wNew τ_111 (.cells [(.slice none 0 0), (.slice none 0 0), (.slice none 0 0), (.slice none 0 0), (.slice none 0 0), (.slice none 0 0), (.slice none 0 0), (.slice none 0 0), (.slice none 0 0), (.slice none 0 0), (.slice none 0 0), (.slice none 0 0), (.slice none 0 0), (.slice none 0 0), (.slice none 0 0), (.slice none 0 0)] 37 false) fun b_114 τ_115 =>
  ∃ I_643 : Nat → Value → Value → Value → Value → Value → AHeap → Prop, (∃ m, I_643 m p1_657 p2_658 p7_659 (.pointer (some ⟨b_114, 0, none⟩)) (.int .i64 0) τ_115) ∧
  ∀ m (x1_118' x2_119' x7_120' x11_121' x68_122' : Value) (σ' : AHeap), I_643 m x1_118' x2_119' x7_120' x11_121' x68_122' σ' → (s3b2 (fun x1_118' x2_119' x7_120' x11_121' x68_122' σ' => ∃ m', m' < m ∧ I_643 m' x1_118' x2_119' x7_120' x11_121' x68_122' σ') Q x1_118' x2_119' x7_120' x11_121' x68_122' σ'))

def s3b1 (N1 : Value → Value → Value → Value → Value → Value → AHeap → Prop) (Q : WK) (x1_26 x2_27 x7_28 x44_29 x45_30 x46_31 : Value) (τ_32 : AHeap) : Prop :=
  pu (aBin (some (.int .i64)) .lss x46_31 x45_30) fun v47_33 =>
  wC v47_33 (
  pu (aIndexAddr 5 x44_29 x46_31) fun v48_39 =>
  pu (aLoad true 5 v48_39 τ_32) fun v49_40 =>
  wNew τ_32 (.cells [(.int .i64 0), (.int .i64 0), (.int .u8 0), (.slice none 0 0), (.bool false)] 30 false) fun b_41 τ_42 =>
  pu (aStore 5 (.pointer (some ⟨b_41, 0, none⟩)) v49_40 τ_42) fun τ_43 =>
  pu (aFieldAddr 4 (.pointer (some ⟨b_41, 0, none⟩))) fun v50_46 =>
  pu (aStore 1 v50_46 (.bool false) τ_43) fun τ_47 =>
  pu (aFieldAddr 1 (.pointer (some ⟨b_41, 0, none⟩))) fun v52_51 =>
  pu (aLoad false 1 v52_51 τ_47) fun v53_52 =>
  pu (aLoad true 5 (.pointer (some ⟨b_41, 0, none⟩)) τ_47) fun v55_53 =>
  E 16 [v53_52, (.int .i64 4)] τ_47 fun v54_54 τ_55 =>
  pu (aLoad true 5 (.pointer (some ⟨b_41, 0, none⟩)) τ_55) fun v55_56 =>
  veq1 v55_56 v55_53 = true ∧
  E 17 [v55_53] τ_55 fun v56_57 τ_58 =>
  E 15 [x7_28, v54_54, v56_57] τ_58 fun v57_59 τ_60 =>
  pu (aBin (some (.int .i64)) .neq v57_59 (.int .i64 0)) fun v58_61 =>
  wC v58_61 (
  Q (.bool false) τ_60) (
  pu (aBin (some (.int .i64)) .add x46_31 (.int .i64 1)) fun v59_72 =>
  N1 x1_26 x2_27 x7_28 x44_29 x45_30 v59_72 τ_60)) (
  E 18 [x7_28] τ_32 fun v61_107 τ_108 =>
  pu (aBin (some (.int .i64)) .neq v61_107 (.int .i64 0)) fun v62_109 =>
  wG v62_109 (
  (s3k15 Q (.bool true) x1_26 x2_27 x7_28 τ_108)) (
  E 19 [x7_28] τ_108 fun v65_662 τ_663 =>
  pu (aBin (some (.int .i64)) .neq v65_662 (.int .i64 0)) fun v66_664 =>
  (s3k15 Q v66_664 x1_26 x2_27 x7_28 τ_663)) (
  wB v62_109 fun b_666 =>
  (s3k15 Q (cond b_666 (.bool true) skipV) x1_26 x2_27 x7_28 τ_108)))

def s3k3 (Q : WK) (p37_12 p0_684 p1_685 p2_686 p7_687 : Value) (τ_11 : AHeap) : Prop :=
  wC p37_12 (
  Q (.bool false) τ_11) (
  pu (lenS p0_684) fun v39_15 =>
  pu (lenS p1_685) fun v41_17 =>
  pu (aBin (some (.int .i64)) .add v39_15 v41_17) fun v42_18 =>
  pu (aBin (some (.int .i64)) .gtr v42_18 (.int .i64 40)) fun v43_19 =>
  wC v43_19 (
  Q (.bool true) τ_11) (
  pu (lenS p0_684) fun v45_24 =>
  ∃ I_667 : Nat → Value → Value → Value → Value → Value → Value → AHeap → Prop, (∃ m, I_667 m p1_685 p2_686 p7_687 p0_684 v45_24 (.int .i64 0) τ_11) ∧
  ∀ m (x1_26' x2_27' x7_28' x44_29' x45_30' x46_31' : Value) (σ' : AHeap), I_667 m x1_26' x2_27' x7_28' x44_29' x45_30' x46_31' σ' → (s3b1 (fun x1_26' x2_27' x7_28' x44_29' x45_30' x46_31' σ' => ∃ m', m' < m ∧ I_667 m' x1_26' x2_27' x7_28' x44_29' x45_30' x46_31' σ') Q x1_26' x2_27' x7_28' x44_29' x45_30' x46_31' σ')))

/-- cistern/cisternlaw03.DiskKeeps -/
def s3 (Q : WK) (x0 x1 x2 : Value) (σ : AHeap) : Prop :=
  E 13 [(.int .i64 4)] σ fun v29_2 τ_3 =>
  pu (aExtract v29_2 0) fun v30_4 =>
  pu (aExtract v29_2 1) fun v31_5 =>
  E 14 [] τ_3 fun v32_7 τ_8 =>
  pu (aUn .not v32_7) fun v33_9 =>
  wG v33_9 (
  (s3k3 Q (.bool true) x0 x1 x2 v30_4 τ_8)) (
  pu (aBin (some (.int .i64)) .neq v31_5 (.int .i64 0)) fun v36_693 =>
  (s3k3 Q v36_693 x0 x1 x2 v30_4 τ_8)) (
  wB v33_9 fun b_695 =>
  (s3k3 Q (cond b_695 (.bool true) skipV) x0 x1 x2 v30_4 τ_8))

theorem s3_eq (Q : WK) (x0 x1 x2 : Value) (σ : AHeap) : wfun P E F 3 [x0, x1, x2] σ Q = s3 Q x0 x1 x2 σ := by kernel_rfl

theorem s3_ev {Q : WK} {x0 x1 x2 : Value} {σ : AHeap} (h : s3 Q x0 x1 x2 σ) : E 3 [x0, x1, x2] σ Q := E_of (by kernel_rfl) (Eq.mpr (s3_eq Q x0 x1 x2 σ) h)

def s4k12 (Q : WK) (p5_57 : Value) (τ_56 : AHeap) : Prop :=
  E 20 [p5_57, (.int .i64 0)] τ_56 fun v72_58 τ_59 =>
  pu (aExtract v72_58 0) fun v73_60 =>
  pu (aExtract v72_58 1) fun v74_61 =>
  E 24 [p5_57] τ_59 fun v76_64 τ_65 =>
  pu (aBin (some (.int .i64)) .eql v74_61 (.int .i64 9)) fun v78_67 =>
  pu (aBin (some .bool) .neq v76_64 v78_67) fun v79_68 =>
  wC v79_68 (
  Q (.bool false) τ_65) (
  E 22 [p5_57, (.slice none 0 0)] τ_65 fun v81_73 τ_74 =>
  E 20 [p5_57, (.int .i64 0)] τ_74 fun v84_77 τ_78 =>
  pu (aExtract v84_77 0) fun v85_79 =>
  pu (aExtract v84_77 1) fun v86_80 =>
  pu (aBin (some (.int .i64)) .eql v86_80 (.int .i64 0)) fun v88_83 =>
  wG v88_83 (
  E 19 [p5_57] τ_78 fun v91_85 τ_86 =>
  pu (aBin (some (.int .i64)) .eql v91_85 (.int .i64 0)) fun v92_87 =>
  Q v92_87 τ_86) (
  Q (.bool false) τ_78) (
  wB v88_83 fun b_90 =>
  Q (cond b_90 skipV (.bool false)) τ_78))

def s4k28 (N1 : Value → Value → Value → Value → Value → Value → AHeap → Prop) (Q : WK) (p68_137 p0_138 p5_139 p7_140 p28_141 p29_142 p30_143 p4_153 : Value) (τ_136 : AHeap) : Prop :=
  wC p68_137 (
  Q (.bool false) τ_136) (
  pu (aBin (some (.int .i64)) .add p30_143 (.int .i64 1)) fun v69_146 =>
  N1 p0_138 p5_139 p7_140 p28_141 p29_142 v69_146 τ_136)

def s4k27 (N1 : Value → Value → Value → Value → Value → Value → AHeap → Prop) (Q : WK) (p10_132 p11_133 p0_154 p5_155 p7_156 p28_157 p29_158 p30_159 p4_160 : Value) (τ_131 : AHeap) : Prop :=
  pu (aBin (some (.int .i64)) .neq p10_132 p11_133) fun v61_134 =>
  wG v61_134 (
  (s4k28 N1 Q (.bool true) p0_154 p5_155 p7_156 p28_157 p29_158 p30_159 p4_160 τ_131)) (
  E 24 [p5_155] τ_131 fun v64_161 τ_162 =>
  pu (aBin (some (.int .i64)) .eql p11_133 (.int .i64 9)) fun v66_163 =>
  pu (aBin (some .bool) .neq v64_161 v66_163) fun v67_164 =>
  (s4k28 N1 Q v67_164 p0_154 p5_155 p7_156 p28_157 p29_158 p30_159 p4_160 τ_162)) (
  wB v61_134 fun b_166 =>
  (s4k28 N1 Q (cond b_166 (.bool true) skipV) p0_154 p5_155 p7_156 p28_157 p29_158 p30_159 p4_160 τ_131))

def s4k25 (N1 : Value → Value → Value → Value → Value → Value → AHeap → Prop) (Q : WK) (p7_127 p10_176 p0_177 p5_178 p28_179 p29_180 p30_181 p4_182 p11_183 : Value) (τ_126 : AHeap) : Prop :=
  pu (aBin (some (.int .i64)) .eql p7_127 (.int .i64 0)) fun v58_128 =>
  wC v58_128 (
  (s4k27 N1 Q p10_176 (.int .i64 9) p0_177 p5_178 p7_127 p28_179 p29_180 p30_181 p4_182 τ_126)) (
  (s4k27 N1 Q p10_176 p11_183 p0_177 p5_178 p7_127 p28_179 p29_180 p30_181 p4_182 τ_126))

def s4k21 (N1 : Value → Value → Value → Value → Value → Value → AHeap → Prop) (Q : WK) (p0_208 p7_209 p10_210 p5_211 p28_212 p29_213 p30_214 p4_215 : Value) (τ_114 : AHeap) : Prop :=
  pu (aBin (some (.int .u8)) .gtr p0_208 (.int .u8 0)) fun v52_117 =>
  wC v52_117 (
  pu (aBin (some (.int .i64)) .gtr p7_209 (.int .i64 0)) fun v54_121 =>
  wC v54_121 (
  pu (aBin (some (.int .i64)) .sub p7_209 (.int .i64 1)) fun v56_125 =>
  (s4k25 N1 Q v56_125 p10_210 p0_208 p5_211 p28_212 p29_213 p30_214 p4_215 (.int .i64 0) τ_114)) (
  (s4k25 N1 Q p7_209 p10_210 p0_208 p5_211 p28_212 p29_213 p30_214 p4_215 (.int .i64 0) τ_114))) (
  (s4k27 N1 Q p10_210 (.int .i64 0) p0_208 p5_211 p7_209 p28_212 p29_213 p30_214 p4_215 τ_114))

def s4b1 (N1 : Value → Value → Value → Value → Value → Value → AHeap → Prop) (Q : WK) (x0_26 x5_27 x7_28 x28_29 x29_30 x30_31 : Value) (τ_32 : AHeap) : Prop :=
  pu (aBin (some (.int .i64)) .lss x30_31 x29_30) fun v31_33 =>
  wC v31_33 (
  pu (aIndexAddr 5 x28_29 x30_31) fun v33_39 =>
  pu (aLoad true 5 v33_39 τ_32) fun v34_40 =>
  wNew τ_32 (.cells [(.int .i64 0), (.int .i64 0), (.int .u8 0), (.slice none 0 0), (.bool false)] 30 false) fun b_41 τ_42 =>
  pu (aStore 5 (.pointer (some ⟨b_41, 0, none⟩)) v34_40 τ_42) fun τ_43 =>
  pu (aBin (some (.int .i64)) .eql x30_31 (.int .i64 300)) fun v36_46 =>
  wC v36_46 (
  (s4k12 Q x5_27 τ_43)) (
  pu (aFieldAddr 0 (.pointer (some ⟨b_41, 0, none⟩))) fun v37_95 =>
  pu (aLoad false 1 v37_95 τ_43) fun v38_96 =>
  pu (aBin (some (.int .i64)) .rem v38_96 (.int .i64 2)) fun v39_97 =>
  pu (aBin (some (.int .i64)) .eql v39_97 (.int .i64 0)) fun v40_98 =>
  wC v40_98 (
  pu (aFieldAddr 1 (.pointer (some ⟨b_41, 0, none⟩))) fun v42_103 =>
  pu (aLoad false 1 v42_103 τ_43) fun v43_104 =>
  pu (aFieldAddr 2 (.pointer (some ⟨b_41, 0, none⟩))) fun v45_105 =>
  pu (aLoad false 1 v45_105 τ_43) fun v46_106 =>
  E 16 [v43_104, (.int .i64 3)] τ_43 fun v44_107 τ_108 =>
  pu (aLoad false 1 v45_105 τ_108) fun v46_109 =>
  veq1 v46_109 v46_106 = true ∧
  E 26 [v46_106] τ_108 fun v47_110 τ_111 =>
  E 15 [x5_27, v44_107, v47_110] τ_111 fun v48_112 τ_113 =>
  (s4k21 N1 Q x0_26 x7_28 v48_112 x5_27 x28_29 x29_30 x30_31 undef τ_113)) (
  E 18 [x5_27] τ_43 fun v50_222 τ_223 =>
  (s4k21 N1 Q x0_26 x7_28 v50_222 x5_27 x28_29 x29_30 x30_31 undef τ_223)))) (
  (s4k12 Q x5_27 τ_32))

def s4k3 (Q : WK) (p21_12 p5_274 p0_275 p1_276 : Value) (τ_11 : AHeap) : Prop :=
  wC p21_12 (
  Q (.bool false) τ_11) (
  pu (convI .i64 p0_275) fun v24_16 =>
  E 25 [p5_274, v24_16] τ_11 fun v25_17 τ_18 =>
  pu (convI .i64 p0_275) fun v27_21 =>
  pu (lenS p1_276) fun v29_24 =>
  ∃ I_260 : Nat → Value → Value → Value → Value → Value → Value → AHeap → Prop, (∃ m, I_260 m p0_275 p5_274 v27_21 p1_276 v29_24 (.int .i64 0) τ_18) ∧
  ∀ m (x0_26' x5_27' x7_28' x28_29' x29_30' x30_31' : Value) (σ' : AHeap), I_260 m x0_26' x5_27' x7_28' x28_29' x29_30' x30_31' σ' → (s4b1 (fun x0_26' x5_27' x7_28' x28_29' x29_30' x30_31' σ' => ∃ m', m' < m ∧ I_260 m' x0_26' x5_27' x7_28' x28_29' x29_30' x30_31' σ') Q x0_26' x5_27' x7_28' x28_29' x29_30' x30_31' σ'))

/-- cistern/cisternlaw03.DiskFuse -/
def s4 (Q : WK) (x0 x1 : Value) (σ : AHeap) : Prop :=
  E 13 [(.int .i64 3)] σ fun v13_2 τ_3 =>
  pu (aExtract v13_2 0) fun v14_4 =>
  pu (aExtract v13_2 1) fun v15_5 =>
  E 14 [] τ_3 fun v16_7 τ_8 =>
  pu (aUn .not v16_7) fun v17_9 =>
  wG v17_9 (
  (s4k3 Q (.bool true) v14_4 x0 x1 τ_8)) (
  pu (aBin (some (.int .i64)) .neq v15_5 (.int .i64 0)) fun v20_281 =>
  (s4k3 Q v20_281 v14_4 x0 x1 τ_8)) (
  wB v17_9 fun b_283 =>
  (s4k3 Q (cond b_283 (.bool true) skipV) v14_4 x0 x1 τ_8))

theorem s4_eq (Q : WK) (x0 x1 : Value) (σ : AHeap) : wfun P E F 4 [x0, x1] σ Q = s4 Q x0 x1 σ := by kernel_rfl

theorem s4_ev {Q : WK} {x0 x1 : Value} {σ : AHeap} (h : s4 Q x0 x1 σ) : E 4 [x0, x1] σ Q := E_of (by kernel_rfl) (Eq.mpr (s4_eq Q x0 x1 σ) h)

def s5k15 (Q : WK) (τ_69 : AHeap) : Prop :=
  Q (.bool true) τ_69

def s5k28 (N1 : Value → Value → Value → Value → Value → AHeap → Prop) (Q : WK) (p172_173 p5_174 p7_175 p46_176 p47_177 p48_178 p4_187 : Value) (τ_172 : AHeap) : Prop :=
  wC p172_173 (
  Q (.bool false) τ_172) (
  pu (aBin (some (.int .i64)) .add p48_178 (.int .i64 1)) fun v173_181 =>
  N1 p5_174 p7_175 p46_176 p47_177 v173_181 τ_172)

def s5k27 (N1 : Value → Value → Value → Value → Value → AHeap → Prop) (Q : WK) (p5_169 p7_188 p46_189 p47_190 p48_191 p4_192 : Value) (τ_168 : AHeap) : Prop :=
  pu (aBin (some (.pointer 88)) .eql p5_169 (.pointer none)) fun v166_170 =>
  wG v166_170 (
  (s5k28 N1 Q (.bool true) p5_169 p7_188 p46_189 p47_190 p48_191 p4_192 τ_168)) (
  E 35 [p5_169, p7_188] τ_168 fun v170_193 τ_194 =>
  pu (aUn .not v170_193) fun v171_195 =>
  (s5k28 N1 Q v171_195 p5_169 p7_188 p46_189 p47_190 p48_191 p4_192 τ_194)) (
  wB v166_170 fun b_197 =>
  (s5k28 N1 Q (cond b_197 (.bool true) skipV) p5_169 p7_188 p46_189 p47_190 p48_191 p4_192 τ_168))

def s5b2 (N1 : Value → Value → Value → Value → Value → AHeap → Prop) (N2 : Value → Value → Value → Value → Value → Value → Value → Value → AHeap → Prop) (Q : WK) (x5_114 x7_115 x11_116 x46_117 x47_118 x48_119 x74_120 x75_121 : Value) (τ_122 : AHeap) : Prop :=
  pu (aBin (some (.int .i64)) .lss x75_121 x74_120) fun v76_123 =>
  wC v76_123 (
  pu (aIndexAddr 1 x11_116 x75_121) fun v80_131 =>
  pu (aLoad false 1 v80_131 τ_122) fun v81_132 =>
  pu (aBin (some (.int .u8)) .xor v81_132 (.int .u8 255)) fun v82_133 =>
  pu (aIndexAddr 1 x11_116 x75_121) fun v83_134 =>
  pu (aStore 1 v83_134 v82_133 τ_122) fun τ_135 =>
  pu (aBin (some (.int .i64)) .add x75_121 (.int .i64 1)) fun v84_138 =>
  N2 x5_114 x7_115 x11_116 x46_117 x47_118 x48_119 x74_120 v84_138 τ_135) (
  (s5k27 N1 Q x5_114 x7_115 x46_117 x47_118 x48_119 undef τ_122))

def s5b3 (N1 : Value → Value → Value → Value → Value → AHeap → Prop) (N3 : Value → Value → Value → Value → Value → Value → Value → Value → AHeap → Prop) (Q : WK) (x5_259 x7_260 x13_261 x46_262 x47_263 x48_264 x111_265 x112_266 : Value) (τ_267 : AHeap) : Prop :=
  pu (aBin (some (.int .i64)) .lss x112_266 x111_265) fun v113_268 =>
  wC v113_268 (
  pu (aIndexAddr 1 x13_261 x112_266) fun v117_276 =>
  pu (aLoad false 1 v117_276 τ_267) fun v118_277 =>
  pu (aBin (some (.int .u8)) .xor v118_277 (.int .u8 255)) fun v119_278 =>
  pu (aIndexAddr 1 x13_261 x112_266) fun v120_279 =>
  pu (aStore 1 v120_279 v119_278 τ_267) fun τ_280 =>
  pu (aBin (some (.int .i64)) .add x112_266 (.int .i64 1)) fun v121_283 =>
  N3 x5_259 x7_260 x13_261 x46_262 x47_263 x48_264 x111_265 v121_283 τ_280) (
  (s5k27 N1 Q x5_259 x7_260 x46_262 x47_263 x48_264 undef τ_267))

def s5k33 (N1 : Value → Value → Value → Value → Value → AHeap → Prop) (Q : WK) (p109_249 p5_250 p7_251 p46_252 p47_253 p48_254 p13_328 : Value) (τ_248 : AHeap) : Prop :=
  wC p109_249 (
  Q (.bool false) τ_248) (
  pu (lenS p13_328) fun v111_257 =>
  ∃ I_313 : Nat → Value → Value → Value → Value → Value → Value → Value → Value → AHeap → Prop, (∃ m, I_313 m p5_250 p7_251 p13_328 p46_252 p47_253 p48_254 v111_257 (.int .i64 0) τ_248) ∧
  ∀ m (x5_259' x7_260' x13_261' x46_262' x47_263' x48_264' x111_265' x112_266' : Value) (σ' : AHeap), I_313 m x5_259' x7_260' x13_261' x46_262' x47_263' x48_264' x111_265' x112_266' σ' → (s5b3 N1 (fun x5_259' x7_260' x13_261' x46_262' x47_263' x48_264' x111_265' x112_266' σ' => ∃ m', m' < m ∧ I_313 m' x5_259' x7_260' x13_261' x46_262' x47_263' x48_264' x111_265' x112_266' σ') Q x5_259' x7_260' x13_261' x46_262' x47_263' x48_264' x111_265' x112_266' σ'))

def s5b1 (N1 : Value → Value → Value → Value → Value → AHeap → Prop) (Q : WK) (x5_41 x7_42 x46_43 x47_44 x48_45 : Value) (τ_46 : AHeap) : Prop :=
  pu (aBin (some (.int .i64)) .lss x48_45 x47_44) fun v49_47 =>
  wC v49_47 (
  pu (aIndexAddr 5 x46_43 x48_45) fun v51_53 =>
  pu (aLoad true 5 v51_53 τ_46) fun v52_54 =>
  wNew τ_46 (.cells [(.int .i64 0), (.int .i64 0), (.int .u8 0), (.slice none 0 0), (.bool false)] 30 false) fun b_55 τ_56 =>
  pu (aStore 5 (.pointer (some ⟨b_55, 0, none⟩)) v52_54 τ_56) fun τ_57 =>
  pu (aBin (some (.int .i64)) .eql x48_45 (.int .i64 200)) fun v54_60 =>
  wC v54_60 (
  (s5k15 Q τ_57)) (
  pu (aFieldAddr 0 (.pointer (some ⟨b_55, 0, none⟩))) fun v55_72 =>
  pu (aLoad false 1 v55_72 τ_57) fun v56_73 =>
  pu (aBin (some (.int .i64)) .eql v56_73 (.int .i64 0)) fun v58_76 =>
  wC v58_76 (
  pu (aLoad true 5 (.pointer (some ⟨b_55, 0, none⟩)) τ_57) fun v59_80 =>
  E 17 [v59_80] τ_57 fun v60_81 τ_82 =>
  pu (aFieldAddr 1 (.pointer (some ⟨b_55, 0, none⟩))) fun v62_86 =>
  pu (aLoad false 1 v62_86 τ_82) fun v63_87 =>
  pu (aFieldAddr 1 (.pointer (some ⟨b_55, 0, none⟩))) fun v67_90 =>
  pu (aLoad false 1 v67_90 τ_82) fun v68_91 =>
  pu (aLoad true 5 (.pointer (some ⟨b_55, 0, none⟩)) τ_82) fun v69_92 =>
  E 15 [x5_41, v63_87, v60_81] τ_82 fun v65_93 τ_94 =>
  pu (aLoad false 1 v67_90 τ_94) fun v68_95 =>
  veq1 v68_95 v68_91 = true ∧
  pu (aLoad true 5 (.pointer (some ⟨b_55, 0, none⟩)) τ_94) fun v69_96 =>
  veq1 v69_96 v69_92 = true ∧
  E 17 [v69_92] τ_94 fun v70_97 τ_98 =>
  pu (aLoad false 1 v67_90 τ_98) fun v68_99 =>
  veq1 v68_99 v68_91 = true ∧
  E 29 [x7_42, v68_91, v70_97] τ_98 fun v71_100 τ_101 =>
  pu (aBin (some (.int .i64)) .neq v65_93 v71_100) fun v72_102 =>
  wC v72_102 (
  Q (.bool false) τ_101) (
  pu (lenS v60_81) fun v74_112 =>
  ∃ I_198 : Nat → Value → Value → Value → Value → Value → Value → Value → Value → AHeap → Prop, (∃ m, I_198 m x5_41 x7_42 v60_81 x46_43 x47_44 x48_45 v74_112 (.int .i64 0) τ_101) ∧
  ∀ m (x5_114' x7_115' x11_116' x46_117' x47_118' x48_119' x74_120' x75_121' : Value) (σ' : AHeap), I_198 m x5_114' x7_115' x11_116' x46_117' x47_118' x48_119' x74_120' x75_121' σ' → (s5b2 N1 (fun x5_114' x7_115' x11_116' x46_117' x47_118' x48_119' x74_120' x75_121' σ' => ∃ m', m' < m ∧ I_198 m' x5_114' x7_115' x11_116' x46_117' x47_118' x48_119' x74_120' x75_121' σ') Q x5_114' x7_115' x11_116' x46_117' x47_118' x48_119' x74_120' x75_121' σ'))) (
  pu (aBin (some (.int .i64)) .eql v56_73 (.int .i64 1)) fun v86_223 =>
  wC v86_223 (
  pu (aFieldAddr 1 (.pointer (some ⟨b_55, 0, none⟩))) fun v89_228 =>
  pu (aLoad false 1 v89_228 τ_57) fun v90_229 =>
  E 20 [x5_41, v90_229] τ_57 fun v91_230 τ_231 =>
  pu (aExtract v91_230 0) fun v92_232 =>
  pu (aExtract v91_230 1) fun v93_233 =>
  pu (aFieldAddr 1 (.pointer (some ⟨b_55, 0, none⟩))) fun v96_237 =>
  pu (aLoad false 1 v96_237 τ_231) fun v97_238 =>
  E 30 [x7_42, v97_238] τ_231 fun v98_239 τ_240 =>
  pu (aExtract v98_239 0) fun v99_241 =>
  pu (aExtract v98_239 1) fun v100_242 =>
  pu (aBin (some (.int .i64)) .neq v93_233 v100_242) fun v103_246 =>
  wG v103_246 (
  (s5k33 N1 Q (.bool true) x5_41 x7_42 x46_43 x47_44 x48_45 v92_232 τ_240)) (
  E 23 [v92_232, v99_241] τ_240 fun v107_336 τ_337 =>
  pu (aUn .not v107_336) fun v108_338 =>
  (s5k33 N1 Q v108_338 x5_41 x7_42 x46_43 x47_44 x48_45 v92_232 τ_337)) (
  wB v103_246 fun b_340 =>
  (s5k33 N1 Q (cond b_340 (.bool true) skipV) x5_41 x7_42 x46_43 x47_44 x48_45 v92_232 τ_240))) (
  pu (aBin (some (.int .i64)) .eql v56_73 (.int .i64 2)) fun v123_352 =>
  wC v123_352 (
  E 18 [x5_41] τ_57 fun v125_356 τ_357 =>
  E 31 [x7_42] τ_357 fun v127_359 τ_360 =>
  pu (aBin (some (.int .i64)) .neq v125_356 v127_359) fun v128_361 =>
  wC v128_361 (
  Q (.bool false) τ_360) (
  (s5k27 N1 Q x5_41 x7_42 x46_43 x47_44 x48_45 undef τ_360))) (
  pu (aBin (some (.int .i64)) .eql v56_73 (.int .i64 3)) fun v130_375 =>
  wC v130_375 (
  pu (aFieldAddr 1 (.pointer (some ⟨b_55, 0, none⟩))) fun v132_380 =>
  pu (aLoad false 1 v132_380 τ_57) fun v133_381 =>
  E 25 [x5_41, v133_381] τ_57 fun v134_382 τ_383 =>
  pu (aFieldAddr 1 (.pointer (some ⟨b_55, 0, none⟩))) fun v136_387 =>
  pu (aLoad false 1 v136_387 τ_383) fun v137_388 =>
  E 32 [x7_42, v137_388] τ_383 fun v138_389 τ_390 =>
  (s5k27 N1 Q x5_41 x7_42 x46_43 x47_44 x48_45 undef τ_390)) (
  pu (aBin (some (.int .i64)) .eql v56_73 (.int .i64 4)) fun v140_402 =>
  wC v140_402 (
  pu (aFieldAddr 3 (.pointer (some ⟨b_55, 0, none⟩))) fun v143_407 =>
  pu (aLoad false 1 v143_407 τ_57) fun v144_408 =>
  pu (aAppend 5 1 1 (.slice (some ⟨ZB, 0, some 0⟩) 0 0) v144_408 τ_57) fun r145_409 =>
  E 22 [x5_41, r145_409.1] r145_409.2 fun v146_410 τ_411 =>
  pu (aFieldAddr 3 (.pointer (some ⟨b_55, 0, none⟩))) fun v148_415 =>
  pu (aLoad false 1 v148_415 τ_411) fun v149_416 =>
  E 33 [x7_42, v149_416] τ_411 fun v150_417 τ_418 =>
  (s5k27 N1 Q x5_41 x7_42 x46_43 x47_44 x48_45 undef τ_418)) (
  pu (aBin (some (.int .i64)) .eql v56_73 (.int .i64 5)) fun v152_430 =>
  wC v152_430 (
  E 34 [x5_41] τ_57 fun v154_434 τ_435 =>
  E 26 [(.int .u8 99)] τ_435 fun v156_438 τ_439 =>
  E 15 [x5_41, (.int .i64 0), v156_438] τ_439 fun v157_440 τ_441 =>
  E 18 [x5_41] τ_441 fun v159_444 τ_445 =>
  E 22 [x5_41, (.slice none 0 0)] τ_445 fun v161_448 τ_449 =>
  E 25 [x5_41, (.int .i64 1)] τ_449 fun v163_452 τ_453 =>
  (s5k27 N1 Q v154_434 x7_42 x46_43 x47_44 x48_45 undef τ_453)) (
  (s5k27 N1 Q x5_41 x7_42 x46_43 x47_44 x48_45 undef τ_57))))))))) (
  (s5k15 Q τ_46))

def s5k4 (Q : WK) (p35_19 p8_545 p5_546 p0_547 p1_548 p7_549 : Value) (τ_18 : AHeap) : Prop :=
  wC p35_19 (
  Q (.bool false) τ_18) (
  pu (aBin (some (.int .i64)) .neq p8_545 (.int .i64 0)) fun v37_22 =>
  wC v37_22 (
  pu (aBin (some (.pointer 88)) .eql p5_546 (.pointer none)) fun v39_26 =>
  Q v39_26 τ_18) (
  pu (aBin (some (.int .i64)) .gtr p0_547 (.int .i64 12)) fun v41_29 =>
  wC v41_29 (
  E 28 [p5_546] τ_18 fun v43_33 τ_34 =>
  pu (aBin (some (.int .i64)) .eql v43_33 p0_547) fun v45_36 =>
  Q v45_36 τ_34) (
  pu (lenS p1_548) fun v47_39 =>
  ∃ I_524 : Nat → Value → Value → Value → Value → Value → AHeap → Prop, (∃ m, I_524 m p5_546 p7_549 p1_548 v47_39 (.int .i64 0) τ_18) ∧
  ∀ m (x5_41' x7_42' x46_43' x47_44' x48_45' : Value) (σ' : AHeap), I_524 m x5_41' x7_42' x46_43' x47_44' x48_45' σ' → (s5b1 (fun x5_41' x7_42' x46_43' x47_44' x48_45' σ' => ∃ m', m' < m ∧ I_524 m' x5_41' x7_42' x46_43' x47_44' x48_45' σ') Q x5_41' x7_42' x46_43' x47_44' x48_45' σ'))))

/-- cistern/cisternlaw03.DiskPlays -/
def s5 (Q : WK) (x0 x1 : Value) (σ : AHeap) : Prop :=
  E 13 [x0] σ fun v21_3 τ_4 =>
  pu (aExtract v21_3 0) fun v22_5 =>
  pu (aExtract v21_3 1) fun v23_6 =>
  E 27 [x0] τ_4 fun v26_9 τ_10 =>
  pu (aExtract v26_9 0) fun v27_11 =>
  pu (aExtract v26_9 1) fun v28_12 =>
  E 14 [] τ_10 fun v29_14 τ_15 =>
  pu (aUn .not v29_14) fun v30_16 =>
  wG v30_16 (
  (s5k4 Q (.bool true) v28_12 v22_5 x0 x1 v27_11 τ_15)) (
  pu (aBin (some (.int .i64)) .neq v23_6 v28_12) fun v34_556 =>
  (s5k4 Q v34_556 v28_12 v22_5 x0 x1 v27_11 τ_15)) (
  wB v30_16 fun b_558 =>
  (s5k4 Q (cond b_558 (.bool true) skipV) v28_12 v22_5 x0 x1 v27_11 τ_15))

theorem s5_eq (Q : WK) (x0 x1 : Value) (σ : AHeap) : wfun P E F 5 [x0, x1] σ Q = s5 Q x0 x1 σ := by kernel_rfl

theorem s5_ev {Q : WK} {x0 x1 : Value} {σ : AHeap} (h : s5 Q x0 x1 σ) : E 5 [x0, x1] σ Q := E_of (by kernel_rfl) (Eq.mpr (s5_eq Q x0 x1 σ) h)

def s63b1 (N1 : Value → Value → Value → Value → AHeap → Prop) (Q : WK) (x7_67 x8_68 x9_69 x10_70 : Value) (τ_71 : AHeap) : Prop :=
  pu (aBin (some (.int .i64)) .lss x10_70 x7_67) fun v63_72 =>
  wC v63_72 (
  pu (aMin2 x10_70 x8_68) fun v66_78 =>
  pu (aSlice 1 x9_69 (some x10_70) none none) fun v70_82 =>
  pu (aSlice 1 x9_69 none (some v66_78) none) fun v73_84 =>
  pu (aCopy 1 v70_82 v73_84 τ_71) fun r74_85 =>
  pu (aBin (some (.int .i64)) .add x10_70 r74_85.1) fun v75_86 =>
  N1 x7_67 x8_68 x9_69 v75_86 r74_85.2) (
  Q x9_69 τ_71)

def s63k16 (Q : WK) (p7_58 p0_105 p8_106 : Value) (τ_57 : AHeap) : Prop :=
  E 100 [p7_58] τ_57 fun v54_59 τ_60 =>
  pu (aSlice 1 v54_59 none (some p7_58) (some p7_58)) fun v57_61 =>
  pu (aCopy 1 v57_61 p0_105 τ_60) fun r60_65 =>
  ∃ I_97 : Nat → Value → Value → Value → Value → AHeap → Prop, (∃ m, I_97 m p7_58 p8_106 v57_61 r60_65.1 r60_65.2) ∧
  ∀ m (x7_67' x8_68' x9_69' x10_70' : Value) (σ' : AHeap), I_97 m x7_67' x8_68' x9_69' x10_70' σ' → (s63b1 (fun x7_67' x8_68' x9_69' x10_70' σ' => ∃ m', m' < m ∧ I_97 m' x7_67' x8_68' x9_69' x10_70' σ') Q x7_67' x8_68' x9_69' x10_70' σ')

def s63k7 (Q : WK) (p32_27 p6_120 p0_121 : Value) (τ_26 : AHeap) : Prop :=
  wC p32_27 (
  pu (aIface P 9 (.string ⟨#[98, 121, 116, 101, 115, 58, 32, 82, 101, 112, 101, 97, 116, 32, 111, 117, 116, 112, 117, 116, 32, 108, 101, 110, 103, 116, 104, 32, 111, 118, 101, 114, 102, 108, 111, 119]⟩)) fun v33_28 =>
  False) (
  pu (convI .i64 p6_120) fun v35_31 =>
  pu (lenS p0_121) fun v37_34 =>
  pu (aBin (some (.int .i64)) .eql v37_34 (.int .i64 0)) fun v38_35 =>
  wC v38_35 (
  Q (.slice (some ⟨ZB, 0, some 0⟩) 0 0) τ_26) (
  pu (aBin (some (.int .i64)) .gtr v35_31 (.int .i64 8192)) fun v42_42 =>
  wC v42_42 (
  pu (lenS p0_121) fun v44_46 =>
  pu (aBin (some (.int .i64)) .quo (.int .i64 8192) v44_46) fun v45_47 =>
  pu (lenS p0_121) fun v47_48 =>
  pu (aBin (some (.int .i64)) .mul v45_47 v47_48) fun v48_49 =>
  pu (aBin (some (.int .i64)) .eql v48_49 (.int .i64 0)) fun v50_52 =>
  wC v50_52 (
  pu (lenS p0_121) fun v52_56 =>
  (s63k16 Q v35_31 p0_121 v52_56 τ_26)) (
  (s63k16 Q v35_31 p0_121 v48_49 τ_26))) (
  (s63k16 Q v35_31 p0_121 v35_31 τ_26))))

/-- bytes.Repeat -/
def s63 (Q : WK) (x0 x1 : Value) (σ : AHeap) : Prop :=
  pu (aBin (some (.int .i64)) .eql x1 (.int .i64 0)) fun v13_3 =>
  wC v13_3 (
  Q (.slice (some ⟨ZB, 0, some 0⟩) 0 0) σ) (
  pu (aBin (some (.int .i64)) .lss x1 (.int .i64 0)) fun v16_8 =>
  wC v16_8 (
  pu (aIface P 9 (.string ⟨#[98, 121, 116, 101, 115, 58, 32, 110, 101, 103, 97, 116, 105, 118, 101, 32, 82, 101, 112, 101, 97, 116, 32, 99, 111, 117, 110, 116]⟩)) fun v17_11 =>
  False) (
  pu (lenS x0) fun v20_14 =>
  pu (convI .u64 v20_14) fun v21_15 =>
  pu (convI .u64 x1) fun v23_17 =>
  E 99 [v21_15, v23_17] σ fun v24_18 τ_19 =>
  pu (aExtract v24_18 0) fun v25_20 =>
  pu (aExtract v24_18 1) fun v26_21 =>
  pu (aBin (some (.int .u64)) .gtr v25_20 (.int .u64 0)) fun v28_24 =>
  wG v28_24 (
  (s63k7 Q (.bool true) v26_21 x0 τ_19)) (
  pu (aBin (some (.int .u64)) .gtr v26_21 (.int .u64 9223372036854775807)) fun v31_124 =>
  (s63k7 Q v31_124 v26_21 x0 τ_19)) (
  wB v28_24 fun b_126 =>
  (s63k7 Q (cond b_126 (.bool true) skipV) v26_21 x0 τ_19))))

theorem s63_eq (Q : WK) (x0 x1 : Value) (σ : AHeap) : wfun P E F 63 [x0, x1] σ Q = s63 Q x0 x1 σ := by kernel_rfl

theorem s63_ev {Q : WK} {x0 x1 : Value} {σ : AHeap} (h : s63 Q x0 x1 σ) : E 63 [x0, x1] σ Q := E_of (by kernel_rfl) (Eq.mpr (s63_eq Q x0 x1 σ) h)

/-- math/bits.Mul -/
def s99 (Q : WK) (x0 x1 : Value) (σ : AHeap) : Prop :=
  E 114 [x0, x1] σ fun v25_5 τ_6 =>
  pu (aExtract v25_5 0) fun v26_7 =>
  pu (aExtract v25_5 1) fun v27_8 =>
  Q (.tuple #[v26_7, v27_8]) τ_6

theorem s99_eq (Q : WK) (x0 x1 : Value) (σ : AHeap) : wfun P E F 99 [x0, x1] σ Q = s99 Q x0 x1 σ := by kernel_rfl

theorem s99_ev {Q : WK} {x0 x1 : Value} {σ : AHeap} (h : s99 Q x0 x1 σ) : E 99 [x0, x1] σ Q := E_of (by kernel_rfl) (Eq.mpr (s99_eq Q x0 x1 σ) h)

/-- math/bits.Mul64 -/
def s114 (Q : WK) (x0 x1 : Value) (σ : AHeap) : Prop :=
  pu (aBin (some (.int .u64)) .and x0 (.int .u64 4294967295)) fun v15_3 =>
  pu (aBin (some (.int .u64)) .shr x0 (.int .u64 32)) fun v17_6 =>
  pu (aBin (some (.int .u64)) .and x1 (.int .u64 4294967295)) fun v19_9 =>
  pu (aBin (some (.int .u64)) .shr x1 (.int .u64 32)) fun v21_12 =>
  pu (aBin (some (.int .u64)) .mul v15_3 v19_9) fun v24_16 =>
  pu (aBin (some (.int .u64)) .mul v17_6 v19_9) fun v27_20 =>
  pu (aBin (some (.int .u64)) .shr v24_16 (.int .u64 32)) fun v29_22 =>
  pu (aBin (some (.int .u64)) .add v27_20 v29_22) fun v30_23 =>
  pu (aBin (some (.int .u64)) .and v30_23 (.int .u64 4294967295)) fun v32_26 =>
  pu (aBin (some (.int .u64)) .shr v30_23 (.int .u64 32)) fun v34_29 =>
  pu (aBin (some (.int .u64)) .mul v15_3 v21_12) fun v38_34 =>
  pu (aBin (some (.int .u64)) .add v32_26 v38_34) fun v39_35 =>
  pu (aBin (some (.int .u64)) .mul v17_6 v21_12) fun v42_39 =>
  pu (aBin (some (.int .u64)) .add v42_39 v34_29) fun v44_41 =>
  pu (aBin (some (.int .u64)) .shr v39_35 (.int .u64 32)) fun v46_43 =>
  pu (aBin (some (.int .u64)) .add v44_41 v46_43) fun v47_44 =>
  pu (aBin (some (.int .u64)) .mul x0 x1) fun v50_48 =>
  Q (.tuple #[v47_44, v50_48]) σ

theorem s114_eq (Q : WK) (x0 x1 : Value) (σ : AHeap) : wfun P E F 114 [x0, x1] σ Q = s114 Q x0 x1 σ := by kernel_rfl

theorem s114_ev {Q : WK} {x0 x1 : Value} {σ : AHeap} (h : s114 Q x0 x1 σ) : E 114 [x0, x1] σ Q := E_of (by kernel_rfl) (Eq.mpr (s114_eq Q x0 x1 σ) h)

end Go.Ax.YtfeamgocomlepaaC
