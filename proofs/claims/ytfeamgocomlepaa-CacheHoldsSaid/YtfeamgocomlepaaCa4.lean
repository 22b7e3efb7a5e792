/- Texts of one proof, joined: T2 T1 D1 M1 D2. -/
import Derived.Test.YtfeamgocomlepaaCa3
/- What functions of the program come to, in a readable form: printed by a program of this session's (wprint.py), proved by the kernel. No statement of the seat is proved here. -/
set_option linter.unusedVariables false
set_option maxRecDepth 100000
namespace Go.Ax.YtfeamgocomlepaaC
open Go.Proofs
/-- cistern/cisternlaw05.within -/
def s36 (Q : WK) (x0 x1 x2 : Value) (σ : AHeap) : Prop :=
  pu (convI .u64 x0) fun v9_4 =>
  pu (aBin (some (.int .i64)) .sub x2 x1) fun v12_6 =>
  pu (aBin (some (.int .i64)) .add v12_6 (.int .i64 1)) fun v13_7 =>
  pu (convI .u64 v13_7) fun v14_8 =>
  pu (aBin (some (.int .u64)) .rem v9_4 v14_8) fun v15_9 =>
  pu (convI .i64 v15_9) fun v16_10 =>
  pu (aBin (some (.int .i64)) .add x1 v16_10) fun v17_11 =>
  Q v17_11 σ

theorem s36_eq (Q : WK) (x0 x1 x2 : Value) (σ : AHeap) : wfun P E F 36 [x0, x1, x2] σ Q = s36 Q x0 x1 x2 σ := by kernel_rfl

theorem s36_ev {Q : WK} {x0 x1 x2 : Value} {σ : AHeap} (h : s36 Q x0 x1 x2 σ) : E 36 [x0, x1, x2] σ Q := E_of (by kernel_rfl) (Eq.mpr (s36_eq Q x0 x1 x2 σ) h)

def s37k4 (Q : WK) (p18_12 p0_20 p1_21 : Value) (τ_11 : AHeap) : Prop :=
  wC p18_12 (
  Q (.tuple #[(.pointer none), (.int .i64 1)]) τ_11) (
  pu (aMakeMap P 89 none τ_11) fun r21_16 =>
  pu (buildR [(0, 1), (1, 1), (2, 1), (3, 1), (4, 1)] [(.pointer none), (.int .i64 0), (.int .u64 0), (.map none), (.slice none 0 0)] [(0, p0_20), (1, p1_21), (3, r21_16.1)]) fun v22_17 =>
  cond (live v22_17) (wNew r21_16.2 (.cells (Value.cells v22_17).toList 93 false) fun b_18 τ_19 =>
  Q (.tuple #[(.pointer (some ⟨b_18, 0, none⟩)), (.int .i64 0)]) τ_19) False)

def s37k2 (Q : WK) (p12_6 p1_26 p0_27 : Value) (τ_5 : AHeap) : Prop :=
  wC p12_6 (
  Q (.tuple #[(.pointer none), (.int .i64 2)]) τ_5) (
  pu (aBin (some (.int .i64)) .lss p1_26 (.int .i64 1)) fun v14_9 =>
  wG v14_9 (
  (s37k4 Q (.bool true) p0_27 p1_26 τ_5)) (
  pu (aBin (some (.int .i64)) .gtr p1_26 (.int .i64 1024)) fun v17_23 =>
  (s37k4 Q v17_23 p0_27 p1_26 τ_5)) (
  wB v14_9 fun b_25 =>
  (s37k4 Q (cond b_25 (.bool true) skipV) p0_27 p1_26 τ_5)))

/-- cistern/cache.New -/
def s37 (Q : WK) (x0 x1 : Value) (σ : AHeap) : Prop :=
  pu (aBin (some (.pointer 88)) .eql x0 (.pointer none)) fun v7_3 =>
  wG v7_3 (
  (s37k2 Q (.bool true) x1 x0 σ)) (
  E 28 [x0] σ fun v10_29 τ_30 =>
  pu (aBin (some (.int .i64)) .eql v10_29 (.int .i64 0)) fun v11_31 =>
  (s37k2 Q v11_31 x1 x0 τ_30)) (
  wB v7_3 fun b_33 =>
  (s37k2 Q (cond b_33 (.bool true) skipV) x1 x0 σ))

theorem s37_eq (Q : WK) (x0 x1 : Value) (σ : AHeap) : wfun P E F 37 [x0, x1] σ Q = s37 Q x0 x1 σ := by kernel_rfl

theorem s37_ev {Q : WK} {x0 x1 : Value} {σ : AHeap} (h : s37 Q x0 x1 σ) : E 37 [x0, x1] σ Q := E_of (by kernel_rfl) (Eq.mpr (s37_eq Q x0 x1 σ) h)

def s38k12 (Q : WK) (p0_57 p1_58 : Value) (τ_56 : AHeap) : Prop :=
  E 77 [p0_57, p1_58] τ_56 fun v48_59 τ_60 =>
  pu (aNil v48_59) fun v49_61 =>
  pu (aFieldAddr 4 v49_61) fun v50_62 =>
  pu (aLoad false 1 v50_62 τ_60) fun v51_63 =>
  E 67 [v51_63] τ_60 fun v52_64 τ_65 =>
  Q (.tuple #[v52_64, (.int .i64 0)]) τ_65

/-- (*cistern/cache.Cache).Get -/
def s38 (Q : WK) (x0 x1 : Value) (σ : AHeap) : Prop :=
  E 75 [x0, x1] σ fun v12_4 τ_5 =>
  pu (aBin (some (.int .i64)) .neq v12_4 (.int .i64 0)) fun v14_8 =>
  wC v14_8 (
  Q (.tuple #[(.slice none 0 0), v12_4]) τ_5) (
  pu (aNil x0) fun v17_14 =>
  pu (aFieldAddr 3 v17_14) fun v18_15 =>
  pu (aLoad false 1 v18_15 τ_5) fun v19_16 =>
  pu (aLookup P 89 v19_16 x1 false τ_5) fun v21_18 =>
  pu (aBin (some (.pointer 123)) .eql v21_18 (.pointer none)) fun v22_19 =>
  wC v22_19 (
  E 76 [x0] τ_5 fun v24_23 τ_24 =>
  pu (aBin (some (.int .i64)) .neq v24_23 (.int .i64 0)) fun v26_27 =>
  wC v26_27 (
  Q (.tuple #[(.slice none 0 0), v24_23]) τ_24) (
  pu (aNil x0) fun v30_33 =>
  pu (aFieldAddr 0 v30_33) fun v31_34 =>
  pu (aLoad false 1 v31_34 τ_24) fun v32_35 =>
  E 20 [v32_35, x1] τ_24 fun v34_37 τ_38 =>
  pu (aExtract v34_37 0) fun v35_39 =>
  pu (aExtract v34_37 1) fun v36_40 =>
  pu (aBin (some (.int .i64)) .neq v36_40 (.int .i64 0)) fun v38_43 =>
  wC v38_43 (
  Q (.tuple #[(.slice none 0 0), v36_40]) τ_38) (
  E 77 [x0, x1] τ_38 fun v42_50 τ_51 =>
  pu (aNil v42_50) fun v44_53 =>
  pu (aFieldAddr 4 v44_53) fun v45_54 =>
  pu (aStore 1 v45_54 v35_39 τ_51) fun τ_55 =>
  (s38k12 Q x0 x1 τ_55)))) (
  (s38k12 Q x0 x1 τ_5)))

theorem s38_eq (Q : WK) (x0 x1 : Value) (σ : AHeap) : wfun P E F 38 [x0, x1] σ Q = s38 Q x0 x1 σ := by kernel_rfl

theorem s38_ev {Q : WK} {x0 x1 : Value} {σ : AHeap} (h : s38 Q x0 x1 σ) : E 38 [x0, x1] σ Q := E_of (by kernel_rfl) (Eq.mpr (s38_eq Q x0 x1 σ) h)

def s39b1 (N1 : Value → Value → Value → AHeap → Prop) (Q : WK) (x0_5 x3_6 x4_7 : Value) (τ_8 : AHeap) : Prop :=
  pu (lenS x3_6) fun v8_9 =>
  pu (aBin (some (.int .i64)) .lss x4_7 v8_9) fun v9_10 =>
  wC v9_10 (
  pu (aBin (some (.int .i64)) .quo x4_7 (.int .i64 64)) fun v16_17 =>
  pu (convI .u8 v16_17) fun v17_18 =>
  pu (aBin (some (.int .u8)) .add x0_5 v17_18) fun v18_19 =>
  pu (aIndexAddr 1 x3_6 x4_7) fun v19_20 =>
  pu (aStore 1 v19_20 v18_19 τ_8) fun τ_21 =>
  pu (aBin (some (.int .i64)) .add x4_7 (.int .i64 1)) fun v11_24 =>
  N1 x0_5 x3_6 v11_24 τ_21) (
  Q x3_6 τ_8)

/-- cistern/cisternlaw05.block -/
def s39 (Q : WK) (x0 : Value) (σ : AHeap) : Prop :=
  pu (aMake 5 1 [(.int .u8 0)] (.int .i64 256) (.int .i64 256) σ) fun r5_2 =>
  ∃ I_32 : Nat → Value → Value → Value → AHeap → Prop, (∃ m, I_32 m x0 r5_2.1 (.int .i64 0) r5_2.2) ∧
  ∀ m (x0_5' x3_6' x4_7' : Value) (σ' : AHeap), I_32 m x0_5' x3_6' x4_7' σ' → (s39b1 (fun x0_5' x3_6' x4_7' σ' => ∃ m', m' < m ∧ I_32 m' x0_5' x3_6' x4_7' σ') Q x0_5' x3_6' x4_7' σ')

theorem s39_eq (Q : WK) (x0 : Value) (σ : AHeap) : wfun P E F 39 [x0] σ Q = s39 Q x0 σ := by kernel_rfl

theorem s39_ev {Q : WK} {x0 : Value} {σ : AHeap} (h : s39 Q x0 σ) : E 39 [x0] σ Q := E_of (by kernel_rfl) (Eq.mpr (s39_eq Q x0 σ) h)

/-- (*cistern/cache.Cache).Held -/
def s40 (Q : WK) (x0 : Value) (σ : AHeap) : Prop :=
  pu (aBin (some (.pointer 93)) .eql x0 (.pointer none)) fun v4_3 =>
  wC v4_3 (
  Q (.int .i64 0) σ) (
  pu (aNil x0) fun v6_8 =>
  pu (aFieldAddr 4 v6_8) fun v7_9 =>
  pu (aLoad false 1 v7_9 σ) fun v8_10 =>
  pu (lenS v8_10) fun v9_11 =>
  Q v9_11 σ)

theorem s40_eq (Q : WK) (x0 : Value) (σ : AHeap) : wfun P E F 40 [x0] σ Q = s40 Q x0 σ := by kernel_rfl

theorem s40_ev {Q : WK} {x0 : Value} {σ : AHeap} (h : s40 Q x0 σ) : E 40 [x0] σ Q := E_of (by kernel_rfl) (Eq.mpr (s40_eq Q x0 σ) h)

def s42k10 (Q : WK) (p0_38 p1_39 p2_54 : Value) (τ_37 : AHeap) : Prop :=
  E 77 [p0_38, p1_39] τ_37 fun v33_40 τ_41 =>
  E 67 [p2_54] τ_41 fun v37_45 τ_46 =>
  pu (aNil v33_40) fun v38_47 =>
  pu (aFieldAddr 4 v38_47) fun v39_48 =>
  pu (aStore 1 v39_48 v37_45 τ_46) fun τ_49 =>
  pu (aNil v33_40) fun v40_50 =>
  pu (aFieldAddr 3 v40_50) fun v41_51 =>
  pu (aStore 1 v41_51 (.bool true) τ_49) fun τ_52 =>
  Q (.int .i64 0) τ_52

/-- (*cistern/cache.Cache).Put -/
def s42 (Q : WK) (x0 x1 x2 : Value) (σ : AHeap) : Prop :=
  E 75 [x0, x1] σ fun v12_4 τ_5 =>
  pu (aBin (some (.int .i64)) .neq v12_4 (.int .i64 0)) fun v14_8 =>
  wC v14_8 (
  Q v12_4 τ_5) (
  pu (lenS x2) fun v17_14 =>
  pu (aBin (some (.int .i64)) .neq v17_14 (.int .i64 256)) fun v18_15 =>
  wC v18_15 (
  Q (.int .i64 1) τ_5) (
  pu (aNil x0) fun v20_20 =>
  pu (aFieldAddr 3 v20_20) fun v21_21 =>
  pu (aLoad false 1 v21_21 τ_5) fun v22_22 =>
  pu (aLookup P 89 v22_22 x1 false τ_5) fun v24_24 =>
  pu (aBin (some (.pointer 123)) .eql v24_24 (.pointer none)) fun v25_25 =>
  wC v25_25 (
  E 76 [x0] τ_5 fun v27_29 τ_30 =>
  pu (aBin (some (.int .i64)) .neq v27_29 (.int .i64 0)) fun v29_33 =>
  wC v29_33 (
  Q v27_29 τ_30) (
  (s42k10 Q x0 x1 x2 τ_30))) (
  (s42k10 Q x0 x1 x2 τ_5))))

theorem s42_eq (Q : WK) (x0 x1 x2 : Value) (σ : AHeap) : wfun P E F 42 [x0, x1, x2] σ Q = s42 Q x0 x1 x2 σ := by kernel_rfl

theorem s42_ev {Q : WK} {x0 x1 x2 : Value} {σ : AHeap} (h : s42 Q x0 x1 x2 σ) : E 42 [x0, x1, x2] σ Q := E_of (by kernel_rfl) (Eq.mpr (s42_eq Q x0 x1 x2 σ) h)

def s44k10 (N1 : Value → Value → Value → Value → AHeap → Prop) (Q : WK) (p13_42 p3_44 p11_45 p12_46 : Value) (τ_41 : AHeap) : Prop :=
  pu (aBin (some (.int .i64)) .add p13_42 (.int .i64 1)) fun v28_43 =>
  N1 p3_44 p11_45 p12_46 v28_43 τ_41

def s44b1 (N1 : Value → Value → Value → Value → AHeap → Prop) (Q : WK) (x3_14 x11_15 x12_16 x13_17 : Value) (τ_18 : AHeap) : Prop :=
  pu (aBin (some (.int .i64)) .lss x13_17 x12_16) fun v14_19 =>
  wC v14_19 (
  pu (aIndexAddr 1 x11_15 x13_17) fun v15_25 =>
  pu (aLoad false 1 v15_25 τ_18) fun v16_26 =>
  pu (aNil v16_26) fun v18_29 =>
  pu (aFieldAddr 3 v18_29) fun v19_30 =>
  pu (aLoad false 1 v19_30 τ_18) fun v20_31 =>
  wC v20_31 (
  pu (aNil v16_26) fun v23_36 =>
  pu (aFieldAddr 0 v23_36) fun v24_37 =>
  pu (aLoad false 1 v24_37 τ_18) fun v25_38 =>
  pu (buildS 3 1 1 [(.int .i64 0)] [(0, v25_38)] τ_18) fun r26_39 =>
  pu (aAppend 3 1 8 x3_14 r26_39.1 r26_39.2) fun r27_40 =>
  (s44k10 N1 Q x13_17 r27_40.1 x11_15 x12_16 r27_40.2)) (
  (s44k10 N1 Q x13_17 x3_14 x11_15 x12_16 τ_18))) (
  E 78 [x3_14] τ_18 fun v30_62 τ_63 =>
  Q x3_14 τ_63)

/-- (*cistern/cache.Cache).Dirty -/
def s44 (Q : WK) (x0 : Value) (σ : AHeap) : Prop :=
  pu (aBin (some (.pointer 93)) .eql x0 (.pointer none)) fun v7_3 =>
  wC v7_3 (
  Q (.slice none 0 0) σ) (
  pu (aNil x0) fun v9_9 =>
  pu (aFieldAddr 4 v9_9) fun v10_10 =>
  pu (aLoad false 1 v10_10 σ) fun v11_11 =>
  pu (lenS v11_11) fun v12_12 =>
  ∃ I_66 : Nat → Value → Value → Value → Value → AHeap → Prop, (∃ m, I_66 m (.slice none 0 0) v11_11 v12_12 (.int .i64 0) σ) ∧
  ∀ m (x3_14' x11_15' x12_16' x13_17' : Value) (σ' : AHeap), I_66 m x3_14' x11_15' x12_16' x13_17' σ' → (s44b1 (fun x3_14' x11_15' x12_16' x13_17' σ' => ∃ m', m' < m ∧ I_66 m' x3_14' x11_15' x12_16' x13_17' σ') Q x3_14' x11_15' x12_16' x13_17' σ'))

theorem s44_eq (Q : WK) (x0 : Value) (σ : AHeap) : wfun P E F 44 [x0] σ Q = s44 Q x0 σ := by kernel_rfl

theorem s44_ev {Q : WK} {x0 : Value} {σ : AHeap} (h : s44 Q x0 σ) : E 44 [x0] σ Q := E_of (by kernel_rfl) (Eq.mpr (s44_eq Q x0 σ) h)

def s45b1 (N1 : Value → Value → Value → Value → AHeap → Prop) (Q : WK) (x0_17 x13_18 x14_19 x15_20 : Value) (τ_21 : AHeap) : Prop :=
  pu (aBin (some (.int .i64)) .lss x15_20 x14_19) fun v16_22 =>
  wC v16_22 (
  pu (aIndexAddr 1 x13_18 x15_20) fun v17_28 =>
  pu (aLoad false 1 v17_28 τ_21) fun v18_29 =>
  pu (aNil x0_17) fun v21_32 =>
  pu (aFieldAddr 3 v21_32) fun v22_33 =>
  pu (aLoad false 1 v22_33 τ_21) fun v23_34 =>
  pu (aLookup P 89 v23_34 v18_29 false τ_21) fun v25_36 =>
  E 79 [x0_17, v25_36] τ_21 fun v26_37 τ_38 =>
  pu (aBin (some (.int .i64)) .neq v26_37 (.int .i64 0)) fun v28_41 =>
  wC v28_41 (
  Q v26_37 τ_38) (
  pu (aBin (some (.int .i64)) .add x15_20 (.int .i64 1)) fun v30_51 =>
  N1 x0_17 x13_18 x14_19 v30_51 τ_38)) (
  Q (.int .i64 0) τ_21)

/-- (*cistern/cache.Cache).Flush -/
def s45 (Q : WK) (x0 : Value) (σ : AHeap) : Prop :=
  E 75 [x0, (.int .i64 0)] σ fun v8_3 τ_4 =>
  pu (aBin (some (.int .i64)) .neq v8_3 (.int .i64 0)) fun v10_7 =>
  wC v10_7 (
  Q v8_3 τ_4) (
  E 44 [x0] τ_4 fun v13_13 τ_14 =>
  pu (lenS v13_13) fun v14_15 =>
  ∃ I_75 : Nat → Value → Value → Value → Value → AHeap → Prop, (∃ m, I_75 m x0 v13_13 v14_15 (.int .i64 0) τ_14) ∧
  ∀ m (x0_17' x13_18' x14_19' x15_20' : Value) (σ' : AHeap), I_75 m x0_17' x13_18' x14_19' x15_20' σ' → (s45b1 (fun x0_17' x13_18' x14_19' x15_20' σ' => ∃ m', m' < m ∧ I_75 m' x0_17' x13_18' x14_19' x15_20' σ') Q x0_17' x13_18' x14_19' x15_20' σ'))

theorem s45_eq (Q : WK) (x0 : Value) (σ : AHeap) : wfun P E F 45 [x0] σ Q = s45 Q x0 σ := by kernel_rfl

theorem s45_ev {Q : WK} {x0 : Value} {σ : AHeap} (h : s45 Q x0 σ) : E 45 [x0] σ Q := E_of (by kernel_rfl) (Eq.mpr (s45_eq Q x0 σ) h)

def s53k1 (Q : WK) (p10_8 p0_9 : Value) (τ_7 : AHeap) : Prop :=
  wC p10_8 (
  pu (aMakeMap P 89 none τ_7) fun r13_10 =>
  pu (aNil p0_9) fun v14_11 =>
  pu (aFieldAddr 3 v14_11) fun v15_12 =>
  pu (aStore 1 v15_12 r13_10.1 r13_10.2) fun τ_13 =>
  pu (aNil p0_9) fun v16_14 =>
  pu (aFieldAddr 4 v16_14) fun v17_15 =>
  pu (aStore 1 v17_15 (.slice none 0 0) τ_13) fun τ_16 =>
  Q (.tuple #[]) τ_16) (
  Q (.tuple #[]) τ_7)

/-- (*cistern/cache.Cache).Drop -/
def s53 (Q : WK) (x0 : Value) (σ : AHeap) : Prop :=
  pu (aBin (some (.pointer 93)) .neq x0 (.pointer none)) fun v3_1 =>
  wG v3_1 (
  pu (aNil x0) fun v6_2 =>
  pu (aFieldAddr 0 v6_2) fun v7_3 =>
  pu (aLoad false 1 v7_3 σ) fun v8_4 =>
  pu (aBin (some (.pointer 88)) .neq v8_4 (.pointer none)) fun v9_5 =>
  (s53k1 Q v9_5 x0 σ)) (
  (s53k1 Q (.bool false) x0 σ)) (
  wB v3_1 fun b_18 =>
  (s53k1 Q (cond b_18 skipV (.bool false)) x0 σ))

theorem s53_eq (Q : WK) (x0 : Value) (σ : AHeap) : wfun P E F 53 [x0] σ Q = s53 Q x0 σ := by kernel_rfl

theorem s53_ev {Q : WK} {x0 : Value} {σ : AHeap} (h : s53 Q x0 σ) : E 53 [x0] σ Q := E_of (by kernel_rfl) (Eq.mpr (s53_eq Q x0 σ) h)

def s75k4 (Q : WK) (p21_19 : Value) (τ_18 : AHeap) : Prop :=
  wC p21_19 (
  Q (.int .i64 6) τ_18) (
  Q (.int .i64 0) τ_18)

def s75k2 (Q : WK) (p5_6 p0_7 p1_30 : Value) (τ_5 : AHeap) : Prop :=
  wC p5_6 (
  Q (.int .i64 2) τ_5) (
  pu (aNil p0_7) fun v17_8 =>
  pu (aFieldAddr 0 v17_8) fun v18_9 =>
  pu (aLoad false 1 v18_9 τ_5) fun v19_10 =>
  E 24 [v19_10] τ_5 fun v20_11 τ_12 =>
  wC v20_11 (
  Q (.int .i64 9) τ_12) (
  pu (aBin (some (.int .i64)) .lss p1_30 (.int .i64 0)) fun v23_16 =>
  wG v23_16 (
  (s75k4 Q (.bool true) τ_12)) (
  pu (aNil p0_7) fun v27_22 =>
  pu (aFieldAddr 0 v27_22) fun v28_23 =>
  pu (aLoad false 1 v28_23 τ_12) fun v29_24 =>
  E 28 [v29_24] τ_12 fun v30_25 τ_26 =>
  pu (aBin (some (.int .i64)) .geq p1_30 v30_25) fun v31_27 =>
  (s75k4 Q v31_27 τ_26)) (
  wB v23_16 fun b_29 =>
  (s75k4 Q (cond b_29 (.bool true) skipV) τ_12))))

/-- (*cistern/cache.Cache).ready -/
def s75 (Q : WK) (x0 x1 : Value) (σ : AHeap) : Prop :=
  pu (aBin (some (.pointer 93)) .eql x0 (.pointer none)) fun v7_3 =>
  wG v7_3 (
  (s75k2 Q (.bool true) x0 x1 σ)) (
  pu (aNil x0) fun v10_32 =>
  pu (aFieldAddr 0 v10_32) fun v11_33 =>
  pu (aLoad false 1 v11_33 σ) fun v12_34 =>
  pu (aBin (some (.pointer 88)) .eql v12_34 (.pointer none)) fun v13_35 =>
  (s75k2 Q v13_35 x0 x1 σ)) (
  wB v7_3 fun b_37 =>
  (s75k2 Q (cond b_37 (.bool true) skipV) x0 x1 σ))

theorem s75_eq (Q : WK) (x0 x1 : Value) (σ : AHeap) : wfun P E F 75 [x0, x1] σ Q = s75 Q x0 x1 σ := by kernel_rfl

theorem s75_ev {Q : WK} {x0 x1 : Value} {σ : AHeap} (h : s75 Q x0 x1 σ) : E 75 [x0, x1] σ Q := E_of (by kernel_rfl) (Eq.mpr (s75_eq Q x0 x1 σ) h)

/-- (*cistern/cache.Cache).room -/
def s76 (Q : WK) (x0 : Value) (σ : AHeap) : Prop :=
  pu (aNil x0) fun v6_3 =>
  pu (aFieldAddr 4 v6_3) fun v7_4 =>
  pu (aLoad false 1 v7_4 σ) fun v8_5 =>
  pu (lenS v8_5) fun v9_6 =>
  pu (aNil x0) fun v11_7 =>
  pu (aFieldAddr 1 v11_7) fun v12_8 =>
  pu (aLoad false 1 v12_8 σ) fun v13_9 =>
  pu (aBin (some (.int .i64)) .lss v9_6 v13_9) fun v14_10 =>
  wC v14_10 (
  Q (.int .i64 0) σ) (
  pu (aNil x0) fun v17_15 =>
  pu (aFieldAddr 4 v17_15) fun v18_16 =>
  pu (aLoad false 1 v18_16 σ) fun v19_17 =>
  pu (aIndexAddr 1 v19_17 (.int .i64 0)) fun v20_18 =>
  pu (aLoad false 1 v20_18 σ) fun v21_19 =>
  E 79 [x0, v21_19] σ fun v22_20 τ_21 =>
  pu (aBin (some (.int .i64)) .neq v22_20 (.int .i64 0)) fun v24_24 =>
  wC v24_24 (
  Q v22_20 τ_21) (
  pu (aNil x0) fun v27_30 =>
  pu (aFieldAddr 4 v27_30) fun v28_31 =>
  pu (aIface P 160 v28_31) fun v29_32 =>
  E 101 [v29_32] τ_21 fun v30_33 τ_34 =>
  pu (aAssert P 121 false v30_33) fun v31_35 =>
  pu (aNil x0) fun v33_38 =>
  pu (aFieldAddr 3 v33_38) fun v34_39 =>
  pu (aLoad false 1 v34_39 τ_34) fun v35_40 =>
  pu (aNil v31_35) fun v37_42 =>
  pu (aFieldAddr 0 v37_42) fun v38_43 =>
  pu (aLoad false 1 v38_43 τ_34) fun v39_44 =>
  pu (aDelete P 89 v35_40 v39_44 τ_34) fun τ_45 =>
  Q (.int .i64 0) τ_45))

theorem s76_eq (Q : WK) (x0 : Value) (σ : AHeap) : wfun P E F 76 [x0] σ Q = s76 Q x0 σ := by kernel_rfl

theorem s76_ev {Q : WK} {x0 : Value} {σ : AHeap} (h : s76 Q x0 σ) : E 76 [x0] σ Q := E_of (by kernel_rfl) (Eq.mpr (s76_eq Q x0 σ) h)

def s77k7 (Q : WK) (p5_50 p0_51 : Value) (τ_49 : AHeap) : Prop :=
  pu (aNil p0_51) fun v47_52 =>
  pu (aFieldAddr 2 v47_52) fun v48_53 =>
  pu (aLoad false 1 v48_53 τ_49) fun v49_54 =>
  pu (aNil p5_50) fun v50_55 =>
  pu (aFieldAddr 2 v50_55) fun v51_56 =>
  pu (aStore 1 v51_56 v49_54 τ_49) fun τ_57 =>
  pu (aNil p0_51) fun v53_60 =>
  pu (aFieldAddr 4 v53_60) fun v54_61 =>
  pu (aIface P 160 v54_61) fun v55_62 =>
  pu (aNil p5_50) fun v57_64 =>
  pu (aFieldAddr 1 v57_64) fun v58_65 =>
  pu (aLoad false 1 v58_65 τ_57) fun v59_66 =>
  E 103 [v55_62, v59_66] τ_57 fun v60_67 τ_68 =>
  Q p5_50 τ_68

/-- (*cistern/cache.Cache).use -/
def s77 (Q : WK) (x0 x1 : Value) (σ : AHeap) : Prop :=
  pu (aNil x0) fun v8_3 =>
  pu (aFieldAddr 2 v8_3) fun v9_4 =>
  pu (aLoad false 1 v9_4 σ) fun v10_5 =>
  pu (aBin (some (.int .u64)) .add v10_5 (.int .u64 1)) fun v11_6 =>
  pu (aNil x0) fun v12_7 =>
  pu (aFieldAddr 2 v12_7) fun v13_8 =>
  pu (aStore 1 v13_8 v11_6 σ) fun τ_9 =>
  pu (aNil x0) fun v16_12 =>
  pu (aFieldAddr 3 v16_12) fun v17_13 =>
  pu (aLoad false 1 v17_13 τ_9) fun v18_14 =>
  pu (aLookup P 89 v18_14 x1 true τ_9) fun v20_16 =>
  pu (aExtract v20_16 0) fun v21_17 =>
  pu (aExtract v20_16 1) fun v22_18 =>
  pu (aUn .not v22_18) fun v24_21 =>
  wC v24_21 (
  pu (aNil x0) fun v27_26 =>
  pu (aFieldAddr 2 v27_26) fun v28_27 =>
  pu (aLoad false 1 v28_27 τ_9) fun v29_28 =>
  pu (buildR [(0, 1), (1, 1), (2, 1), (3, 1), (4, 1)] [(.int .i64 0), (.int .i64 0), (.int .u64 0), (.bool false), (.slice none 0 0)] [(0, x1), (2, v29_28)]) fun v30_29 =>
  cond (live v30_29) (wNew τ_9 (.cells (Value.cells v30_29).toList 123 false) fun b_30 τ_31 =>
  pu (aNil x0) fun v33_34 =>
  pu (aFieldAddr 3 v33_34) fun v34_35 =>
  pu (aLoad false 1 v34_35 τ_31) fun v35_36 =>
  pu (aMapUpdate P 89 v35_36 x1 (.pointer (some ⟨b_30, 0, none⟩)) τ_31) fun τ_39 =>
  pu (aNil x0) fun v39_42 =>
  pu (aFieldAddr 4 v39_42) fun v40_43 =>
  pu (aIface P 160 v40_43) fun v41_44 =>
  pu (aIface P 121 (.pointer (some ⟨b_30, 0, none⟩))) fun v43_46 =>
  E 102 [v41_44, v43_46] τ_39 fun v44_47 τ_48 =>
  (s77k7 Q (.pointer (some ⟨b_30, 0, none⟩)) x0 τ_48)) False) (
  (s77k7 Q v21_17 x0 τ_9))

theorem s77_eq (Q : WK) (x0 x1 : Value) (σ : AHeap) : wfun P E F 77 [x0, x1] σ Q = s77 Q x0 x1 σ := by kernel_rfl

theorem s77_ev {Q : WK} {x0 x1 : Value} {σ : AHeap} (h : s77 Q x0 x1 σ) : E 77 [x0, x1] σ Q := E_of (by kernel_rfl) (Eq.mpr (s77_eq Q x0 x1 σ) h)

/-- (*cistern/cache.Cache).write -/
def s79 (Q : WK) (x0 x1 : Value) (σ : AHeap) : Prop :=
  pu (aNil x1) fun v7_3 =>
  pu (aFieldAddr 3 v7_3) fun v8_4 =>
  pu (aLoad false 1 v8_4 σ) fun v9_5 =>
  pu (aUn .not v9_5) fun v10_6 =>
  wC v10_6 (
  Q (.int .i64 0) σ) (
  pu (aNil x0) fun v12_11 =>
  pu (aFieldAddr 0 v12_11) fun v13_12 =>
  pu (aLoad false 1 v13_12 σ) fun v14_13 =>
  pu (aNil x1) fun v16_15 =>
  pu (aFieldAddr 0 v16_15) fun v17_16 =>
  pu (aLoad false 1 v17_16 σ) fun v18_17 =>
  pu (aNil x1) fun v20_18 =>
  pu (aFieldAddr 4 v20_18) fun v21_19 =>
  pu (aLoad false 1 v21_19 σ) fun v22_20 =>
  E 15 [v14_13, v18_17, v22_20] σ fun v23_21 τ_22 =>
  pu (aBin (some (.int .i64)) .neq v23_21 (.int .i64 0)) fun v26_26 =>
  pu (aNil x1) fun v27_27 =>
  pu (aFieldAddr 3 v27_27) fun v28_28 =>
  pu (aStore 1 v28_28 v26_26 τ_22) fun τ_29 =>
  Q v23_21 τ_29)

theorem s79_eq (Q : WK) (x0 x1 : Value) (σ : AHeap) : wfun P E F 79 [x0, x1] σ Q = s79 Q x0 x1 σ := by kernel_rfl

theorem s79_ev {Q : WK} {x0 x1 : Value} {σ : AHeap} (h : s79 Q x0 x1 σ) : E 79 [x0, x1] σ Q := E_of (by kernel_rfl) (Eq.mpr (s79_eq Q x0 x1 σ) h)

/-- container/heap.Pop -/
def s101 (Q : WK) (x0 : Value) (σ : AHeap) : Prop :=
  pu (aMethod P x0 "Len" σ) fun r_5 => E r_5.1 (r_5.2 :: []) σ fun v5_3 τ_4 =>
  pu (aBin (some (.int .i64)) .sub v5_3 (.int .i64 1)) fun v6_6 =>
  pu (aMethod P x0 "Swap" τ_4) fun r_12 => E r_12.1 (r_12.2 :: [(.int .i64 0), v6_6]) τ_4 fun v9_10 τ_11 =>
  E 115 [x0, (.int .i64 0), v6_6] τ_11 fun v12_16 τ_17 =>
  pu (aMethod P x0 "Pop" τ_17) fun r_22 => E r_22.1 (r_22.2 :: []) τ_17 fun v14_20 τ_21 =>
  Q v14_20 τ_21

theorem s101_eq (Q : WK) (x0 : Value) (σ : AHeap) : wfun P E F 101 [x0] σ Q = s101 Q x0 σ := by kernel_rfl

theorem s101_ev {Q : WK} {x0 : Value} {σ : AHeap} (h : s101 Q x0 σ) : E 101 [x0] σ Q := E_of (by kernel_rfl) (Eq.mpr (s101_eq Q x0 σ) h)

/-- container/heap.Push -/
def s102 (Q : WK) (x0 x1 : Value) (σ : AHeap) : Prop :=
  pu (aMethod P x0 "Push" σ) fun r_3 => E r_3.1 (r_3.2 :: [x1]) σ fun v6_1 τ_2 =>
  pu (aMethod P x0 "Len" τ_2) fun r_8 => E r_8.1 (r_8.2 :: []) τ_2 fun v9_6 τ_7 =>
  pu (aBin (some (.int .i64)) .sub v9_6 (.int .i64 1)) fun v10_9 =>
  E 116 [x0, v10_9] τ_7 fun v11_10 τ_11 =>
  Q (.tuple #[]) τ_11

theorem s102_eq (Q : WK) (x0 x1 : Value) (σ : AHeap) : wfun P E F 102 [x0, x1] σ Q = s102 Q x0 x1 σ := by kernel_rfl

theorem s102_ev {Q : WK} {x0 x1 : Value} {σ : AHeap} (h : s102 Q x0 x1 σ) : E 102 [x0, x1] σ Q := E_of (by kernel_rfl) (Eq.mpr (s102_eq Q x0 x1 σ) h)

/-- container/heap.Fix -/
def s103 (Q : WK) (x0 x1 : Value) (σ : AHeap) : Prop :=
  pu (aMethod P x0 "Len" σ) fun r_3 => E r_3.1 (r_3.2 :: []) σ fun v7_1 τ_2 =>
  E 115 [x0, x1, v7_1] τ_2 fun v8_4 τ_5 =>
  pu (aUn .not v8_4) fun v9_6 =>
  wC v9_6 (
  E 116 [x0, x1] τ_5 fun v12_11 τ_12 =>
  Q (.tuple #[]) τ_12) (
  Q (.tuple #[]) τ_5)

theorem s103_eq (Q : WK) (x0 x1 : Value) (σ : AHeap) : wfun P E F 103 [x0, x1] σ Q = s103 Q x0 x1 σ := by kernel_rfl

theorem s103_ev {Q : WK} {x0 x1 : Value} {σ : AHeap} (h : s103 Q x0 x1 σ) : E 103 [x0, x1] σ Q := E_of (by kernel_rfl) (Eq.mpr (s103_eq Q x0 x1 σ) h)

def s115k5 (Q : WK) (p7_23 p1_24 : Value) (τ_22 : AHeap) : Prop :=
  pu (aBin (some (.int .i64)) .gtr p7_23 p1_24) fun v47_25 =>
  Q v47_25 τ_22

def s115k10 (N1 : Value → Value → Value → Value → AHeap → Prop) (Q : WK) (p0_45 p9_46 p7_47 p1_73 p2_74 : Value) (τ_44 : AHeap) : Prop :=
  pu (aMethod P p0_45 "Less" τ_44) fun r_50 => E r_50.1 (r_50.2 :: [p9_46, p7_47]) τ_44 fun v38_48 τ_49 =>
  pu (aUn .not v38_48) fun v39_51 =>
  wC v39_51 (
  (s115k5 Q p7_47 p1_73 τ_49)) (
  pu (aMethod P p0_45 "Swap" τ_49) fun r_64 => E r_64.1 (r_64.2 :: [p7_47, p9_46]) τ_49 fun v43_62 τ_63 =>
  N1 p0_45 p1_73 p2_74 p9_46 τ_63)

def s115k9 (N1 : Value → Value → Value → Value → AHeap → Prop) (Q : WK) (p33_42 p10_43 p0_75 p7_76 p1_77 p2_78 p9_79 : Value) (τ_41 : AHeap) : Prop :=
  wC p33_42 (
  (s115k10 N1 Q p0_75 p10_43 p7_76 p1_77 p2_78 τ_41)) (
  (s115k10 N1 Q p0_75 p9_79 p7_76 p1_77 p2_78 τ_41))

def s115k4 (N1 : Value → Value → Value → Value → AHeap → Prop) (Q : WK) (p21_17 p0_18 p1_19 p2_20 p7_21 p8_94 : Value) (τ_16 : AHeap) : Prop :=
  wC p21_17 (
  (s115k5 Q p7_21 p1_19 τ_16)) (
  pu (aBin (some (.int .i64)) .add p8_94 (.int .i64 1)) fun v24_30 =>
  pu (aBin (some (.int .i64)) .lss v24_30 p2_20) fun v27_34 =>
  wG v27_34 (
  pu (aMethod P p0_18 "Less" τ_16) fun r_39 => E r_39.1 (r_39.2 :: [v24_30, p8_94]) τ_16 fun v32_37 τ_38 =>
  (s115k9 N1 Q v32_37 v24_30 p0_18 p7_21 p1_19 p2_20 p8_94 τ_38)) (
  (s115k9 N1 Q (.bool false) v24_30 p0_18 p7_21 p1_19 p2_20 p8_94 τ_16)) (
  wB v27_34 fun b_84 =>
  (s115k9 N1 Q (cond b_84 skipV (.bool false)) v24_30 p0_18 p7_21 p1_19 p2_20 p8_94 τ_16)))

def s115b1 (N1 : Value → Value → Value → Value → AHeap → Prop) (Q : WK) (x0_4 x1_5 x2_6 x7_7 : Value) (τ_8 : AHeap) : Prop :=
  pu (aBin (some (.int .i64)) .mul (.int .i64 2) x7_7) fun v13_9 =>
  pu (aBin (some (.int .i64)) .add v13_9 (.int .i64 1)) fun v14_10 =>
  pu (aBin (some (.int .i64)) .geq v14_10 x2_6) fun v17_14 =>
  wG v17_14 (
  (s115k4 N1 Q (.bool true) x0_4 x1_5 x2_6 x7_7 v14_10 τ_8)) (
  pu (aBin (some (.int .i64)) .lss v14_10 (.int .i64 0)) fun v20_98 =>
  (s115k4 N1 Q v20_98 x0_4 x1_5 x2_6 x7_7 v14_10 τ_8)) (
  wB v17_14 fun b_100 =>
  (s115k4 N1 Q (cond b_100 (.bool true) skipV) x0_4 x1_5 x2_6 x7_7 v14_10 τ_8))

/-- container/heap.down -/
def s115 (Q : WK) (x0 x1 x2 : Value) (σ : AHeap) : Prop :=
  ∃ I_101 : Nat → Value → Value → Value → Value → AHeap → Prop, (∃ m, I_101 m x0 x1 x2 x1 σ) ∧
  ∀ m (x0_4' x1_5' x2_6' x7_7' : Value) (σ' : AHeap), I_101 m x0_4' x1_5' x2_6' x7_7' σ' → (s115b1 (fun x0_4' x1_5' x2_6' x7_7' σ' => ∃ m', m' < m ∧ I_101 m' x0_4' x1_5' x2_6' x7_7' σ') Q x0_4' x1_5' x2_6' x7_7' σ')

theorem s115_eq (Q : WK) (x0 x1 x2 : Value) (σ : AHeap) : wfun P E F 115 [x0, x1, x2] σ Q = s115 Q x0 x1 x2 σ := by kernel_rfl

theorem s115_ev {Q : WK} {x0 x1 x2 : Value} {σ : AHeap} (h : s115 Q x0 x1 x2 σ) : E 115 [x0, x1, x2] σ Q := E_of (by kernel_rfl) (Eq.mpr (s115_eq Q x0 x1 x2 σ) h)

def s116k2 (N1 : Value → Value → AHeap → Prop) (Q : WK) (p17_12 p0_13 p1_14 p4_25 : Value) (τ_11 : AHeap) : Prop :=
  wC p17_12 (
  Q (.tuple #[]) τ_11) (
  pu (aMethod P p0_13 "Swap" τ_11) fun r_21 => E r_21.1 (r_21.2 :: [p4_25, p1_14]) τ_11 fun v21_19 τ_20 =>
  N1 p0_13 p4_25 τ_20)

def s116b1 (N1 : Value → Value → AHeap → Prop) (Q : WK) (x0_1 x1_2 : Value) (τ_3 : AHeap) : Prop :=
  pu (aBin (some (.int .i64)) .sub x1_2 (.int .i64 1)) fun v6_4 =>
  pu (aBin (some (.int .i64)) .quo v6_4 (.int .i64 2)) fun v7_5 =>
  pu (aBin (some (.int .i64)) .eql v7_5 x1_2) fun v10_9 =>
  wG v10_9 (
  (s116k2 N1 Q (.bool true) x0_1 x1_2 v7_5 τ_3)) (
  pu (aMethod P x0_1 "Less" τ_3) fun r_29 => E r_29.1 (r_29.2 :: [x1_2, v7_5]) τ_3 fun v15_27 τ_28 =>
  pu (aUn .not v15_27) fun v16_30 =>
  (s116k2 N1 Q v16_30 x0_1 x1_2 v7_5 τ_28)) (
  wB v10_9 fun b_32 =>
  (s116k2 N1 Q (cond b_32 (.bool true) skipV) x0_1 x1_2 v7_5 τ_3))

/-- container/heap.up -/
def s116 (Q : WK) (x0 x1 : Value) (σ : AHeap) : Prop :=
  ∃ I_33 : Nat → Value → Value → AHeap → Prop, (∃ m, I_33 m x0 x1 σ) ∧
  ∀ m (x0_1' x1_2' : Value) (σ' : AHeap), I_33 m x0_1' x1_2' σ' → (s116b1 (fun x0_1' x1_2' σ' => ∃ m', m' < m ∧ I_33 m' x0_1' x1_2' σ') Q x0_1' x1_2' σ')

theorem s116_eq (Q : WK) (x0 x1 : Value) (σ : AHeap) : wfun P E F 116 [x0, x1] σ Q = s116 Q x0 x1 σ := by kernel_rfl

theorem s116_ev {Q : WK} {x0 x1 : Value} {σ : AHeap} (h : s116 Q x0 x1 σ) : E 116 [x0, x1] σ Q := E_of (by kernel_rfl) (Eq.mpr (s116_eq Q x0 x1 σ) h)

/-- (cistern/cache.row).Len -/
def s164 (Q : WK) (x0 : Value) (σ : AHeap) : Prop :=
  pu (lenS x0) fun v4_3 =>
  Q v4_3 σ

theorem s164_eq (Q : WK) (x0 : Value) (σ : AHeap) : wfun P E F 164 [x0] σ Q = s164 Q x0 σ := by kernel_rfl

theorem s164_ev {Q : WK} {x0 : Value} {σ : AHeap} (h : s164 Q x0 σ) : E 164 [x0] σ Q := E_of (by kernel_rfl) (Eq.mpr (s164_eq Q x0 σ) h)

/-- (cistern/cache.row).Less -/
def s165 (Q : WK) (x0 x1 x2 : Value) (σ : AHeap) : Prop :=
  pu (aIndexAddr 1 x0 x1) fun v9_4 =>
  pu (aLoad false 1 v9_4 σ) fun v10_5 =>
  pu (aNil v10_5) fun v11_6 =>
  pu (aFieldAddr 2 v11_6) fun v12_7 =>
  pu (aLoad false 1 v12_7 σ) fun v13_8 =>
  pu (aIndexAddr 1 x0 x2) fun v16_10 =>
  pu (aLoad false 1 v16_10 σ) fun v17_11 =>
  pu (aNil v17_11) fun v18_12 =>
  pu (aFieldAddr 2 v18_12) fun v19_13 =>
  pu (aLoad false 1 v19_13 σ) fun v20_14 =>
  pu (aBin (some (.int .u64)) .lss v13_8 v20_14) fun v21_15 =>
  Q v21_15 σ

theorem s165_eq (Q : WK) (x0 x1 x2 : Value) (σ : AHeap) : wfun P E F 165 [x0, x1, x2] σ Q = s165 Q x0 x1 x2 σ := by kernel_rfl

theorem s165_ev {Q : WK} {x0 x1 x2 : Value} {σ : AHeap} (h : s165 Q x0 x1 x2 σ) : E 165 [x0, x1, x2] σ Q := E_of (by kernel_rfl) (Eq.mpr (s165_eq Q x0 x1 x2 σ) h)

/-- (cistern/cache.row).Swap -/
def s166 (Q : WK) (x0 x1 x2 : Value) (σ : AHeap) : Prop :=
  pu (aIndexAddr 1 x0 x2) fun v12_1 =>
  pu (aLoad false 1 v12_1 σ) fun v13_2 =>
  pu (aIndexAddr 1 x0 x1) fun v16_3 =>
  pu (aLoad false 1 v16_3 σ) fun v17_4 =>
  pu (aIndexAddr 1 x0 x1) fun v18_5 =>
  pu (aStore 1 v18_5 v13_2 σ) fun τ_6 =>
  pu (aIndexAddr 1 x0 x2) fun v19_7 =>
  pu (aStore 1 v19_7 v17_4 τ_6) fun τ_8 =>
  pu (aIndexAddr 1 x0 x1) fun v22_12 =>
  pu (aLoad false 1 v22_12 τ_8) fun v23_13 =>
  pu (aIndexAddr 1 x0 x2) fun v26_15 =>
  pu (aLoad false 1 v26_15 τ_8) fun v27_16 =>
  pu (aNil v23_13) fun v30_17 =>
  pu (aFieldAddr 1 v30_17) fun v31_18 =>
  pu (aStore 1 v31_18 x1 τ_8) fun τ_19 =>
  pu (aNil v27_16) fun v32_20 =>
  pu (aFieldAddr 1 v32_20) fun v33_21 =>
  pu (aStore 1 v33_21 x2 τ_19) fun τ_22 =>
  Q (.tuple #[]) τ_22

theorem s166_eq (Q : WK) (x0 x1 x2 : Value) (σ : AHeap) : wfun P E F 166 [x0, x1, x2] σ Q = s166 Q x0 x1 x2 σ := by kernel_rfl

theorem s166_ev {Q : WK} {x0 x1 x2 : Value} {σ : AHeap} (h : s166 Q x0 x1 x2 σ) : E 166 [x0, x1, x2] σ Q := E_of (by kernel_rfl) (Eq.mpr (s166_eq Q x0 x1 x2 σ) h)

/-- (*cistern/cache.row).Pop -/
def s167 (Q : WK) (x0 : Value) (σ : AHeap) : Prop :=
  pu (aNil x0) fun v6_3 =>
  pu (aLoad false 1 v6_3 σ) fun v7_4 =>
  pu (lenS v7_4) fun v8_5 =>
  pu (aBin (some (.int .i64)) .sub v8_5 (.int .i64 1)) fun v9_6 =>
  pu (aNil x0) fun v11_9 =>
  pu (aLoad false 1 v11_9 σ) fun v12_10 =>
  pu (aIndexAddr 1 v12_10 v9_6) fun v14_12 =>
  pu (aLoad false 1 v14_12 σ) fun v15_13 =>
  pu (aNil x0) fun v18_16 =>
  pu (aLoad false 1 v18_16 σ) fun v19_17 =>
  pu (aSlice 1 v19_17 none (some v9_6) none) fun v21_19 =>
  pu (aNil x0) fun v22_20 =>
  pu (aStore 1 v22_20 v21_19 σ) fun τ_21 =>
  pu (aIface P 121 v15_13) fun v24_24 =>
  Q v24_24 τ_21

theorem s167_eq (Q : WK) (x0 : Value) (σ : AHeap) : wfun P E F 167 [x0] σ Q = s167 Q x0 σ := by kernel_rfl

theorem s167_ev {Q : WK} {x0 : Value} {σ : AHeap} (h : s167 Q x0 σ) : E 167 [x0] σ Q := E_of (by kernel_rfl) (Eq.mpr (s167_eq Q x0 σ) h)

/-- (*cistern/cache.row).Push -/
def s168 (Q : WK) (x0 x1 : Value) (σ : AHeap) : Prop :=
  pu (aAssert P 121 false x1) fun v6_1 =>
  pu (aNil x0) fun v9_5 =>
  pu (aLoad false 1 v9_5 σ) fun v10_6 =>
  pu (lenS v10_6) fun v11_7 =>
  pu (aNil v6_1) fun v12_8 =>
  pu (aFieldAddr 1 v12_8) fun v13_9 =>
  pu (aStore 1 v13_9 v11_7 σ) fun τ_10 =>
  pu (aNil x0) fun v16_13 =>
  pu (aLoad false 1 v16_13 τ_10) fun v17_14 =>
  pu (buildS 121 1 1 [(.pointer none)] [(0, v6_1)] τ_10) fun r19_16 =>
  pu (aAppend 121 1 8 v17_14 r19_16.1 r19_16.2) fun r20_17 =>
  pu (aNil x0) fun v21_18 =>
  pu (aStore 1 v21_18 r20_17.1 r20_17.2) fun τ_19 =>
  Q (.tuple #[]) τ_19

theorem s168_eq (Q : WK) (x0 x1 : Value) (σ : AHeap) : wfun P E F 168 [x0, x1] σ Q = s168 Q x0 x1 σ := by kernel_rfl

theorem s168_ev {Q : WK} {x0 x1 : Value} {σ : AHeap} (h : s168 Q x0 x1 σ) : E 168 [x0, x1] σ Q := E_of (by kernel_rfl) (Eq.mpr (s168_eq Q x0 x1 σ) h)

def s7k22 (N2 : Value → Value → Value → Value → Value → Value → Value → Value → Value → AHeap → Prop) (Q : WK) (p15_100 p0_102 p1_103 p5_104 p7_105 p9_106 p10_107 p11_108 p14_109 : Value) (τ_99 : AHeap) : Prop :=
  pu (aBin (some (.int .i64)) .add p15_100 (.int .i64 1)) fun v66_101 =>
  N2 p0_102 p1_103 p5_104 p7_105 p9_106 p10_107 p11_108 p14_109 v66_101 τ_99

def s7k26 (N1 : Value → Value → Value → Value → Value → Value → AHeap → Prop) (Q : WK) (p10_146 p0_148 p1_149 p4_150 p5_151 p7_152 p9_153 : Value) (τ_145 : AHeap) : Prop :=
  pu (aBin (some (.int .i64)) .add p10_146 (.int .i64 1)) fun v46_147 =>
  N1 p0_148 p1_149 p5_151 p7_152 p9_153 v46_147 τ_145

def s7b2 (N1 : Value → Value → Value → Value → Value → Value → AHeap → Prop) (N2 : Value → Value → Value → Value → Value → Value → Value → Value → Value → AHeap → Prop) (Q : WK) (x0_69 x1_70 x5_71 x7_72 x9_73 x10_74 x11_75 x14_76 x15_77 : Value) (τ_78 : AHeap) : Prop :=
  pu (lenS x9_73) fun v63_79 =>
  pu (aBin (some (.int .i64)) .lss x15_77 v63_79) fun v64_80 =>
  wC v64_80 (
  pu (aIndexAddr 1 x9_73 x15_77) fun v69_86 =>
  pu (aLoad false 1 v69_86 τ_78) fun v70_87 =>
  pu (aBin (some (.int .i64)) .neq v70_87 x11_75) fun v72_89 =>
  wC v72_89 (
  pu (aIndexAddr 1 x9_73 x15_77) fun v76_95 =>
  pu (aLoad false 1 v76_95 τ_78) fun v77_96 =>
  pu (buildS 3 1 1 [(.int .i64 0)] [(0, v77_96)] τ_78) fun r78_97 =>
  pu (aAppend 3 1 8 x14_76 r78_97.1 r78_97.2) fun r79_98 =>
  (s7k22 N2 Q x15_77 x0_69 x1_70 x5_71 x7_72 x9_73 x10_74 x11_75 r79_98.1 r79_98.2)) (
  (s7k22 N2 Q x15_77 x0_69 x1_70 x5_71 x7_72 x9_73 x10_74 x11_75 x14_76 τ_78))) (
  pu (buildS 3 1 1 [(.int .i64 0)] [(0, x11_75)] τ_78) fun r82_134 =>
  pu (aAppend 3 1 8 x14_76 r82_134.1 r82_134.2) fun r83_135 =>
  pu (lenS r83_135.1) fun v85_138 =>
  pu (aBin (some (.int .i64)) .gtr v85_138 x0_69) fun v87_140 =>
  wC v87_140 (
  pu (aSlice 1 r83_135.1 (some (.int .i64 1)) none none) fun v89_144 =>
  (s7k26 N1 Q x10_74 x0_69 x1_70 undef x5_71 x7_72 v89_144 r83_135.2)) (
  (s7k26 N1 Q x10_74 x0_69 x1_70 undef x5_71 x7_72 r83_135.1 r83_135.2)))

def s7k40 (N4 : Value → Value → Value → AHeap → Prop) (Q : WK) (p127_295 p7_296 p9_297 p17_298 p4_305 : Value) (τ_294 : AHeap) : Prop :=
  wC p127_295 (
  Q (.bool false) τ_294) (
  pu (aBin (some (.int .i64)) .add p17_298 (.int .i64 1)) fun v109_301 =>
  N4 p7_296 p9_297 v109_301 τ_294)

def s7k50 (N6 : Value → Value → Value → Value → Value → AHeap → Prop) (Q : WK) (p22_349 p7_351 p9_352 p20_353 p21_354 : Value) (τ_348 : AHeap) : Prop :=
  pu (aBin (some (.int .i64)) .add p22_349 (.int .i64 1)) fun v137_350 =>
  N6 p7_351 p9_352 p20_353 p21_354 v137_350 τ_348

def s7b6 (N5 : Value → Value → Value → AHeap → Prop) (N6 : Value → Value → Value → Value → Value → AHeap → Prop) (Q : WK) (x7_335 x9_336 x20_337 x21_338 x22_339 : Value) (τ_340 : AHeap) : Prop :=
  pu (lenS x9_336) fun v134_341 =>
  pu (aBin (some (.int .i64)) .lss x22_339 v134_341) fun v135_342 =>
  wC v135_342 (
  wG x21_338 (
  (s7k50 N6 Q x22_339 x7_335 x9_336 x20_337 (.bool true) τ_340)) (
  pu (aIndexAddr 1 x9_336 x22_339) fun v142_359 =>
  pu (aLoad false 1 v142_359 τ_340) fun v143_360 =>
  pu (aBin (some (.int .i64)) .eql v143_360 x20_337) fun v145_361 =>
  (s7k50 N6 Q x22_339 x7_335 x9_336 x20_337 v145_361 τ_340)) (
  wB x21_338 fun b_363 =>
  (s7k50 N6 Q x22_339 x7_335 x9_336 x20_337 (cond b_363 (.bool true) skipV) τ_340))) (
  pu (aUn .not x21_338) fun v148_371 =>
  wC v148_371 (
  E 38 [x7_335, x20_337] τ_340 fun v152_376 τ_377 =>
  pu (aExtract v152_376 0) fun v153_378 =>
  pu (aExtract v152_376 1) fun v154_379 =>
  pu (aBin (some (.int .i64)) .eql v154_379 (.int .i64 0)) fun v156_382 =>
  wG v156_382 (
  pu (aConv P 23 9 v153_378 τ_377) fun v159_384 =>
  E 39 [(.int .u8 9)] τ_377 fun v160_385 τ_386 =>
  pu (aConv P 23 9 v153_378 τ_386) fun v159_387 =>
  veq1 v159_387 v159_384 = true ∧
  pu (aConv P 23 9 v160_385 τ_386) fun v161_388 =>
  pu (aBin (some .string) .eql v159_384 v161_388) fun v162_389 =>
  wG v162_389 (
  E 41 [] τ_386 fun v165_391 τ_392 =>
  Q v165_391 τ_392) (
  Q (.bool false) τ_386) (
  wB v162_389 fun b_398 =>
  Q (cond b_398 skipV (.bool false)) τ_386)) (
  Q (.bool false) τ_377) (
  wB v156_382 fun b_401 =>
  wG (cond b_401 skipV (.bool false)) (
  E 41 [] τ_377 fun v165_402 τ_403 =>
  Q v165_402 τ_403) (
  Q (.bool false) τ_377) (
  wB (cond b_401 skipV (.bool false)) fun b_406 =>
  Q (cond b_406 skipV (.bool false)) τ_377))) (
  pu (aBin (some (.int .i64)) .add x20_337 (.int .i64 1)) fun v131_410 =>
  N5 x7_335 x9_336 v131_410 τ_340))

def s7b5 (N5 : Value → Value → Value → AHeap → Prop) (Q : WK) (x7_325 x9_326 x20_327 : Value) (τ_328 : AHeap) : Prop :=
  pu (aBin (some (.int .i64)) .lss x20_327 (.int .i64 16)) fun v129_329 =>
  wC v129_329 (
  ∃ I_419 : Nat → Value → Value → Value → Value → Value → AHeap → Prop, (∃ m, I_419 m x7_325 x9_326 x20_327 (.bool false) (.int .i64 0) τ_328) ∧
  ∀ m (x7_335' x9_336' x20_337' x21_338' x22_339' : Value) (σ' : AHeap), I_419 m x7_335' x9_336' x20_337' x21_338' x22_339' σ' → (s7b6 N5 (fun x7_335' x9_336' x20_337' x21_338' x22_339' σ' => ∃ m', m' < m ∧ I_419 m' x7_335' x9_336' x20_337' x21_338' x22_339' σ') Q x7_335' x9_336' x20_337' x21_338' x22_339' σ')) (
  E 41 [] τ_328 fun v167_438 τ_439 =>
  Q v167_438 τ_439)

def s7b4 (N4 : Value → Value → Value → AHeap → Prop) (Q : WK) (x7_272 x9_273 x17_274 : Value) (τ_275 : AHeap) : Prop :=
  pu (lenS x9_273) fun v106_276 =>
  pu (aBin (some (.int .i64)) .lss x17_274 v106_276) fun v107_277 =>
  wC v107_277 (
  pu (aIndexAddr 1 x9_273 x17_274) fun v114_284 =>
  pu (aLoad false 1 v114_284 τ_275) fun v115_285 =>
  E 38 [x7_272, v115_285] τ_275 fun v116_286 τ_287 =>
  pu (aExtract v116_286 0) fun v117_288 =>
  pu (aExtract v116_286 1) fun v118_289 =>
  pu (aBin (some (.int .i64)) .neq v118_289 (.int .i64 0)) fun v120_292 =>
  wG v120_292 (
  (s7k40 N4 Q (.bool true) x7_272 x9_273 x17_274 undef τ_287)) (
  pu (aConv P 23 9 v117_288 τ_287) fun v123_311 =>
  pu (aMake 5 1 [(.int .u8 0)] (.int .i64 256) (.int .i64 256) τ_287) fun r124_312 =>
  pu (aConv P 23 9 v117_288 r124_312.2) fun v123_313 =>
  veq1 v123_313 v123_311 = true ∧
  pu (aConv P 23 9 r124_312.1 r124_312.2) fun v125_314 =>
  pu (aBin (some .string) .neq v123_311 v125_314) fun v126_315 =>
  (s7k40 N4 Q v126_315 x7_272 x9_273 x17_274 undef r124_312.2)) (
  wB v120_292 fun b_317 =>
  (s7k40 N4 Q (cond b_317 (.bool true) skipV) x7_272 x9_273 x17_274 undef τ_287))) (
  ∃ I_440 : Nat → Value → Value → Value → AHeap → Prop, (∃ m, I_440 m x7_272 x9_273 (.int .i64 0) τ_275) ∧
  ∀ m (x7_325' x9_326' x20_327' : Value) (σ' : AHeap), I_440 m x7_325' x9_326' x20_327' σ' → (s7b5 (fun x7_325' x9_326' x20_327' σ' => ∃ m', m' < m ∧ I_440 m' x7_325' x9_326' x20_327' σ') Q x7_325' x9_326' x20_327' σ'))

def s7b3 (N3 : Value → Value → Value → Value → AHeap → Prop) (Q : WK) (x5_223 x7_224 x9_225 x16_226 : Value) (τ_227 : AHeap) : Prop :=
  pu (aBin (some (.int .i64)) .lss x16_226 (.int .i64 16)) fun v91_228 =>
  wC v91_228 (
  E 39 [(.int .u8 9)] τ_227 fun v96_234 τ_235 =>
  E 15 [x5_223, x16_226, v96_234] τ_235 fun v97_236 τ_237 =>
  pu (aBin (some (.int .i64)) .neq v97_236 (.int .i64 0)) fun v98_238 =>
  wC v98_238 (
  Q (.bool false) τ_237) (
  pu (aBin (some (.int .i64)) .add x16_226 (.int .i64 1)) fun v93_247 =>
  N3 x5_223 x7_224 x9_225 v93_247 τ_237)) (
  E 40 [x7_224] τ_227 fun v100_263 τ_264 =>
  pu (lenS x9_225) fun v102_266 =>
  pu (aBin (some (.int .i64)) .neq v100_263 v102_266) fun v103_267 =>
  wC v103_267 (
  Q (.bool false) τ_264) (
  ∃ I_447 : Nat → Value → Value → Value → AHeap → Prop, (∃ m, I_447 m x7_224 x9_225 (.int .i64 0) τ_264) ∧
  ∀ m (x7_272' x9_273' x17_274' : Value) (σ' : AHeap), I_447 m x7_272' x9_273' x17_274' σ' → (s7b4 (fun x7_272' x9_273' x17_274' σ' => ∃ m', m' < m ∧ I_447 m' x7_272' x9_273' x17_274' σ') Q x7_272' x9_273' x17_274' σ')))

def s7b1 (N1 : Value → Value → Value → Value → Value → Value → AHeap → Prop) (Q : WK) (x0_30 x1_31 x5_32 x7_33 x9_34 x10_35 : Value) (τ_36 : AHeap) : Prop :=
  pu (lenS x1_31) fun v43_37 =>
  pu (aBin (some (.int .i64)) .lss x10_35 v43_37) fun v44_38 =>
  wC v44_38 (
  pu (aIndexAddr 1 x1_31 x10_35) fun v49_44 =>
  pu (aLoad false 1 v49_44 τ_36) fun v50_45 =>
  pu (aBin (some (.int .u8)) .rem v50_45 (.int .u8 16)) fun v51_46 =>
  pu (convI .i64 v51_46) fun v52_47 =>
  E 38 [x7_33, v52_47] τ_36 fun v56_51 τ_52 =>
  pu (aExtract v56_51 0) fun v57_53 =>
  pu (aExtract v56_51 1) fun v58_54 =>
  pu (aBin (some (.int .i64)) .neq v58_54 (.int .i64 0)) fun v60_57 =>
  wC v60_57 (
  Q (.bool false) τ_52) (
  ∃ I_171 : Nat → Value → Value → Value → Value → Value → Value → Value → Value → Value → AHeap → Prop, (∃ m, I_171 m x0_30 x1_31 x5_32 x7_33 x9_34 x10_35 v52_47 (.slice none 0 0) (.int .i64 0) τ_52) ∧
  ∀ m (x0_69' x1_70' x5_71' x7_72' x9_73' x10_74' x11_75' x14_76' x15_77' : Value) (σ' : AHeap), I_171 m x0_69' x1_70' x5_71' x7_72' x9_73' x10_74' x11_75' x14_76' x15_77' σ' → (s7b2 N1 (fun x0_69' x1_70' x5_71' x7_72' x9_73' x10_74' x11_75' x14_76' x15_77' σ' => ∃ m', m' < m ∧ I_171 m' x0_69' x1_70' x5_71' x7_72' x9_73' x10_74' x11_75' x14_76' x15_77' σ') Q x0_69' x1_70' x5_71' x7_72' x9_73' x10_74' x11_75' x14_76' x15_77' σ'))) (
  ∃ I_456 : Nat → Value → Value → Value → Value → AHeap → Prop, (∃ m, I_456 m x5_32 x7_33 x9_34 (.int .i64 0) τ_36) ∧
  ∀ m (x5_223' x7_224' x9_225' x16_226' : Value) (σ' : AHeap), I_456 m x5_223' x7_224' x9_225' x16_226' σ' → (s7b3 (fun x5_223' x7_224' x9_225' x16_226' σ' => ∃ m', m' < m ∧ I_456 m' x5_223' x7_224' x9_225' x16_226' σ') Q x5_223' x7_224' x9_225' x16_226' σ'))

/-- cistern/cisternlaw05.CacheHolds -/
def s7 (Q : WK) (x0 x1 : Value) (σ : AHeap) : Prop :=
  E 36 [x0, (.int .i64 1), (.int .i64 9)] σ fun v26_3 τ_4 =>
  E 13 [(.int .i64 16)] τ_4 fun v28_6 τ_7 =>
  pu (aExtract v28_6 0) fun v29_8 =>
  pu (aExtract v28_6 1) fun v30_9 =>
  pu (aBin (some (.int .i64)) .neq v30_9 (.int .i64 0)) fun v32_12 =>
  wC v32_12 (
  Q (.bool false) τ_7) (
  E 37 [v29_8, v26_3] τ_7 fun v36_18 τ_19 =>
  pu (aExtract v36_18 0) fun v37_20 =>
  pu (aExtract v36_18 1) fun v38_21 =>
  pu (aBin (some (.int .i64)) .neq v38_21 (.int .i64 0)) fun v40_24 =>
  wC v40_24 (
  Q (.bool false) τ_19) (
  ∃ I_465 : Nat → Value → Value → Value → Value → Value → Value → AHeap → Prop, (∃ m, I_465 m v26_3 x1 v29_8 v37_20 (.slice none 0 0) (.int .i64 0) τ_19) ∧
  ∀ m (x0_30' x1_31' x5_32' x7_33' x9_34' x10_35' : Value) (σ' : AHeap), I_465 m x0_30' x1_31' x5_32' x7_33' x9_34' x10_35' σ' → (s7b1 (fun x0_30' x1_31' x5_32' x7_33' x9_34' x10_35' σ' => ∃ m', m' < m ∧ I_465 m' x0_30' x1_31' x5_32' x7_33' x9_34' x10_35' σ') Q x0_30' x1_31' x5_32' x7_33' x9_34' x10_35' σ')))

theorem s7_eq (Q : WK) (x0 x1 : Value) (σ : AHeap) : wfun P E F 7 [x0, x1] σ Q = s7 Q x0 x1 σ := by kernel_rfl

theorem s7_ev {Q : WK} {x0 x1 : Value} {σ : AHeap} (h : s7 Q x0 x1 σ) : E 7 [x0, x1] σ Q := E_of (by kernel_rfl) (Eq.mpr (s7_eq Q x0 x1 σ) h)

def s12k24 (N2 : Value → Value → Value → Value → Value → Value → Value → AHeap → Prop) (Q : WK) (p144_146 p0_147 p1_148 p2_149 p7_150 p9_151 p11_152 p13_153 p6_164 : Value) (τ_145 : AHeap) : Prop :=
  wC p144_146 (
  Q (.bool false) τ_145) (
  pu (aBin (some (.int .i64)) .add p13_153 (.int .i64 1)) fun v53_156 =>
  N2 p0_147 p1_148 p2_149 p7_150 p9_151 p11_152 v53_156 τ_145)

def s12k23 (N2 : Value → Value → Value → Value → Value → Value → Value → AHeap → Prop) (Q : WK) (p9_139 p1_142 p0_165 p2_166 p7_167 p11_168 p13_169 p6_170 : Value) (τ_138 : AHeap) : Prop :=
  E 40 [p9_139] τ_138 fun v134_140 τ_141 =>
  pu (aBin (some (.int .i64)) .gtr v134_140 p1_142) fun v136_143 =>
  wG v136_143 (
  (s12k24 N2 Q (.bool true) p0_165 p1_142 p2_166 p7_167 p9_139 p11_168 p13_169 p6_170 τ_141)) (
  E 44 [p9_139] τ_141 fun v139_171 τ_172 =>
  pu (lenS v139_171) fun v140_173 =>
  E 40 [p9_139] τ_172 fun v142_174 τ_175 =>
  pu (aBin (some (.int .i64)) .gtr v140_173 v142_174) fun v143_176 =>
  (s12k24 N2 Q v143_176 p0_165 p1_142 p2_166 p7_167 p9_139 p11_168 p13_169 p6_170 τ_175)) (
  wB v136_143 fun b_178 =>
  (s12k24 N2 Q (cond b_178 (.bool true) skipV) p0_165 p1_142 p2_166 p7_167 p9_139 p11_168 p13_169 p6_170 τ_141))

def s12k28 (N2 : Value → Value → Value → Value → Value → Value → Value → AHeap → Prop) (Q : WK) (p102_206 p0_207 p1_208 p2_209 p7_210 p9_211 p11_212 p13_213 p6_214 : Value) (τ_205 : AHeap) : Prop :=
  wC p102_206 (
  Q (.bool false) τ_205) (
  (s12k23 N2 Q p9_211 p1_208 p0_207 p2_209 p7_210 p11_212 p13_213 p6_214 τ_205))

def s12k30 (N2 : Value → Value → Value → Value → Value → Value → Value → AHeap → Prop) (Q : WK) (p113_249 p0_250 p1_251 p2_252 p7_253 p9_254 p11_255 p13_256 p6_257 : Value) (τ_248 : AHeap) : Prop :=
  wC p113_249 (
  Q (.bool false) τ_248) (
  (s12k23 N2 Q p9_254 p1_251 p0_250 p2_252 p7_253 p11_255 p13_256 p6_257 τ_248))

def s12b3 (N2 : Value → Value → Value → Value → Value → Value → Value → AHeap → Prop) (N3 : Value → Value → Value → Value → Value → Value → Value → Value → AHeap → Prop) (Q : WK) (x0_280 x1_281 x2_282 x7_283 x9_284 x11_285 x13_286 x17_287 : Value) (τ_288 : AHeap) : Prop :=
  pu (aBin (some (.int .i64)) .lss x17_287 x0_280) fun v120_289 =>
  wC v120_289 (
  E 20 [x7_283, x17_287] τ_288 fun v127_295 τ_296 =>
  pu (aExtract v127_295 0) fun v128_297 =>
  pu (aExtract v127_295 1) fun v129_298 =>
  pu (aIndexAddrArr 24 1 x11_285 x17_287) fun v130_300 =>
  pu (aStore 1 v130_300 v128_297 τ_296) fun τ_301 =>
  pu (aBin (some (.int .i64)) .neq v129_298 (.int .i64 0)) fun v132_304 =>
  wC v132_304 (
  Q (.bool false) τ_301) (
  pu (aBin (some (.int .i64)) .add x17_287 (.int .i64 1)) fun v122_317 =>
  N3 x0_280 x1_281 x2_282 x7_283 x9_284 x11_285 x13_286 v122_317 τ_301)) (
  (s12k23 N2 Q x9_284 x1_281 x0_280 x2_282 x7_283 x11_285 x13_286 undef τ_288))

def s12k47 (N4 : Value → Value → Value → Value → AHeap → Prop) (Q : WK) (p176_438 p0_439 p7_440 p11_441 p18_442 p6_450 : Value) (τ_437 : AHeap) : Prop :=
  wC p176_438 (
  Q (.bool false) τ_437) (
  pu (aBin (some (.int .i64)) .add p18_442 (.int .i64 1)) fun v159_445 =>
  N4 p0_439 p7_440 p11_441 v159_445 τ_437)

def s12b4 (N4 : Value → Value → Value → Value → AHeap → Prop) (Q : WK) (x0_418 x7_419 x11_420 x18_421 : Value) (τ_422 : AHeap) : Prop :=
  pu (aBin (some (.int .i64)) .lss x18_421 x0_418) fun v157_423 =>
  wC v157_423 (
  E 20 [x7_419, x18_421] τ_422 fun v163_429 τ_430 =>
  pu (aExtract v163_429 0) fun v164_431 =>
  pu (aExtract v163_429 1) fun v165_432 =>
  pu (aBin (some (.int .i64)) .neq v165_432 (.int .i64 0)) fun v167_435 =>
  wG v167_435 (
  (s12k47 N4 Q (.bool true) x0_418 x7_419 x11_420 x18_421 undef τ_430)) (
  pu (aConv P 23 9 v164_431 τ_430) fun v170_457 =>
  pu (aIndexAddrArr 24 1 x11_420 x18_421) fun v172_458 =>
  pu (aLoad false 1 v172_458 τ_430) fun v173_459 =>
  pu (aConv P 23 9 v173_459 τ_430) fun v174_460 =>
  pu (aBin (some .string) .neq v170_457 v174_460) fun v175_461 =>
  (s12k47 N4 Q v175_461 x0_418 x7_419 x11_420 x18_421 undef τ_430)) (
  wB v167_435 fun b_463 =>
  (s12k47 N4 Q (cond b_463 (.bool true) skipV) x0_418 x7_419 x11_420 x18_421 undef τ_430))) (
  E 41 [] τ_422 fun v177_473 τ_474 =>
  Q v177_473 τ_474)

def s12k40 (Q : WK) (p152_411 p7_486 p0_487 p11_488 : Value) (τ_410 : AHeap) : Prop :=
  wC p152_411 (
  Q (.bool false) τ_410) (
  E 22 [p7_486, (.slice none 0 0)] τ_410 fun v154_414 τ_415 =>
  ∃ I_475 : Nat → Value → Value → Value → Value → AHeap → Prop, (∃ m, I_475 m p0_487 p7_486 p11_488 (.int .i64 0) τ_415) ∧
  ∀ m (x0_418' x7_419' x11_420' x18_421' : Value) (σ' : AHeap), I_475 m x0_418' x7_419' x11_420' x18_421' σ' → (s12b4 (fun x0_418' x7_419' x11_420' x18_421' σ' => ∃ m', m' < m ∧ I_475 m' x0_418' x7_419' x11_420' x18_421' σ') Q x0_418' x7_419' x11_420' x18_421' σ'))

def s12b2 (N2 : Value → Value → Value → Value → Value → Value → Value → AHeap → Prop) (Q : WK) (x0_76 x1_77 x2_78 x7_79 x9_80 x11_81 x13_82 : Value) (τ_83 : AHeap) : Prop :=
  pu (lenS x2_78) fun v50_84 =>
  pu (aBin (some (.int .i64)) .lss x13_82 v50_84) fun v51_85 =>
  wC v51_85 (
  pu (aIndexAddr 4 x2_78 x13_82) fun v56_91 =>
  pu (aFieldAddr 1 v56_91) fun v57_92 =>
  pu (aLoad false 1 v57_92 τ_83) fun v58_93 =>
  pu (aBin (some (.int .i64)) .sub x0_76 (.int .i64 1)) fun v60_95 =>
  E 36 [v58_93, (.int .i64 0), v60_95] τ_83 fun v61_96 τ_97 =>
  pu (aIndexAddr 4 x2_78 x13_82) fun v64_101 =>
  pu (aFieldAddr 0 v64_101) fun v65_102 =>
  pu (aLoad false 1 v65_102 τ_97) fun v66_103 =>
  pu (aBin (some (.int .i64)) .eql v66_103 (.int .i64 0)) fun v68_106 =>
  wC v68_106 (
  pu (aIndexAddr 4 x2_78 x13_82) fun v72_112 =>
  pu (aFieldAddr 2 v72_112) fun v73_113 =>
  pu (aLoad false 1 v73_113 τ_97) fun v74_114 =>
  E 39 [v74_114] τ_97 fun v75_115 τ_116 =>
  pu (aIndexAddrArr 24 1 x11_81 v61_96) fun v76_118 =>
  pu (aStore 1 v76_118 v75_115 τ_116) fun τ_119 =>
  pu (aIndexAddrArr 24 1 x11_81 v61_96) fun v80_124 =>
  pu (aLoad false 1 v80_124 τ_119) fun v81_125 =>
  E 42 [x9_80, v61_96, v81_125] τ_119 fun v82_126 τ_127 =>
  pu (aBin (some (.int .i64)) .neq v82_126 (.int .i64 0)) fun v83_128 =>
  wC v83_128 (
  Q (.bool false) τ_127) (
  (s12k23 N2 Q x9_80 x1_77 x0_76 x2_78 x7_79 x11_81 x13_82 undef τ_127))) (
  pu (aBin (some (.int .i64)) .eql v66_103 (.int .i64 1)) fun v85_192 =>
  wC v85_192 (
  E 38 [x9_80, v61_96] τ_97 fun v89_197 τ_198 =>
  pu (aExtract v89_197 0) fun v90_199 =>
  pu (aExtract v89_197 1) fun v91_200 =>
  pu (aBin (some (.int .i64)) .neq v91_200 (.int .i64 0)) fun v93_203 =>
  wG v93_203 (
  (s12k28 N2 Q (.bool true) x0_76 x1_77 x2_78 x7_79 x9_80 x11_81 x13_82 undef τ_198)) (
  pu (aConv P 23 9 v90_199 τ_198) fun v96_224 =>
  pu (aIndexAddrArr 24 1 x11_81 v61_96) fun v98_226 =>
  pu (aLoad false 1 v98_226 τ_198) fun v99_227 =>
  pu (aConv P 23 9 v99_227 τ_198) fun v100_228 =>
  pu (aBin (some .string) .neq v96_224 v100_228) fun v101_229 =>
  (s12k28 N2 Q v101_229 x0_76 x1_77 x2_78 x7_79 x9_80 x11_81 x13_82 undef τ_198)) (
  wB v93_203 fun b_231 =>
  (s12k28 N2 Q (cond b_231 (.bool true) skipV) x0_76 x1_77 x2_78 x7_79 x9_80 x11_81 x13_82 undef τ_198))) (
  pu (aBin (some (.int .i64)) .eql v66_103 (.int .i64 2)) fun v104_240 =>
  wC v104_240 (
  E 45 [x9_80] τ_97 fun v106_244 τ_245 =>
  pu (aBin (some (.int .i64)) .neq v106_244 (.int .i64 0)) fun v107_246 =>
  wG v107_246 (
  (s12k30 N2 Q (.bool true) x0_76 x1_77 x2_78 x7_79 x9_80 x11_81 x13_82 undef τ_245)) (
  E 44 [x9_80] τ_245 fun v110_265 τ_266 =>
  pu (lenS v110_265) fun v111_267 =>
  pu (aBin (some (.int .i64)) .gtr v111_267 (.int .i64 0)) fun v112_268 =>
  (s12k30 N2 Q v112_268 x0_76 x1_77 x2_78 x7_79 x9_80 x11_81 x13_82 undef τ_266)) (
  wB v107_246 fun b_270 =>
  (s12k30 N2 Q (cond b_270 (.bool true) skipV) x0_76 x1_77 x2_78 x7_79 x9_80 x11_81 x13_82 undef τ_245))) (
  pu (aBin (some (.int .i64)) .eql v66_103 (.int .i64 3)) fun v115_272 =>
  wC v115_272 (
  E 53 [x9_80] τ_97 fun v117_276 τ_277 =>
  ∃ I_351 : Nat → Value → Value → Value → Value → Value → Value → Value → Value → AHeap → Prop, (∃ m, I_351 m x0_76 x1_77 x2_78 x7_79 x9_80 x11_81 x13_82 (.int .i64 0) τ_277) ∧
  ∀ m (x0_280' x1_281' x2_282' x7_283' x9_284' x11_285' x13_286' x17_287' : Value) (σ' : AHeap), I_351 m x0_280' x1_281' x2_282' x7_283' x9_284' x11_285' x13_286' x17_287' σ' → (s12b3 N2 (fun x0_280' x1_281' x2_282' x7_283' x9_284' x11_285' x13_286' x17_287' σ' => ∃ m', m' < m ∧ I_351 m' x0_280' x1_281' x2_282' x7_283' x9_284' x11_285' x13_286' x17_287' σ') Q x0_280' x1_281' x2_282' x7_283' x9_284' x11_285' x13_286' x17_287' σ')) (
  (s12k23 N2 Q x9_80 x1_77 x0_76 x2_78 x7_79 x11_81 x13_82 undef τ_97)))))) (
  E 45 [x9_80] τ_83 fun v146_406 τ_407 =>
  pu (aBin (some (.int .i64)) .neq v146_406 (.int .i64 0)) fun v147_408 =>
  wG v147_408 (
  (s12k40 Q (.bool true) x7_79 x0_76 x11_81 τ_407)) (
  E 18 [x7_79] τ_407 fun v150_492 τ_493 =>
  pu (aBin (some (.int .i64)) .neq v150_492 (.int .i64 0)) fun v151_494 =>
  (s12k40 Q v151_494 x7_79 x0_76 x11_81 τ_493)) (
  wB v147_408 fun b_496 =>
  (s12k40 Q (cond b_496 (.bool true) skipV) x7_79 x0_76 x11_81 τ_407)))

def s12b1 (N1 : Value → Value → Value → Value → Value → Value → Value → AHeap → Prop) (Q : WK) (x0_36 x1_37 x2_38 x7_39 x9_40 x11_41 x12_42 : Value) (τ_43 : AHeap) : Prop :=
  pu (aBin (some (.int .i64)) .lss x12_42 x0_36) fun v42_44 =>
  wC v42_44 (
  pu (aMake 5 1 [(.int .u8 0)] (.int .i64 256) (.int .i64 256) τ_43) fun r46_49 =>
  pu (aIndexAddrArr 24 1 x11_41 x12_42) fun v47_51 =>
  pu (aStore 1 v47_51 r46_49.1 r46_49.2) fun τ_52 =>
  pu (aBin (some (.int .i64)) .add x12_42 (.int .i64 1)) fun v44_55 =>
  N1 x0_36 x1_37 x2_38 x7_39 x9_40 x11_41 v44_55 τ_52) (
  ∃ I_497 : Nat → Value → Value → Value → Value → Value → Value → Value → AHeap → Prop, (∃ m, I_497 m x0_36 x1_37 x2_38 x7_39 x9_40 x11_41 (.int .i64 0) τ_43) ∧
  ∀ m (x0_76' x1_77' x2_78' x7_79' x9_80' x11_81' x13_82' : Value) (σ' : AHeap), I_497 m x0_76' x1_77' x2_78' x7_79' x9_80' x11_81' x13_82' σ' → (s12b2 (fun x0_76' x1_77' x2_78' x7_79' x9_80' x11_81' x13_82' σ' => ∃ m', m' < m ∧ I_497 m' x0_76' x1_77' x2_78' x7_79' x9_80' x11_81' x13_82' σ') Q x0_76' x1_77' x2_78' x7_79' x9_80' x11_81' x13_82' σ'))

/-- cistern/cisternlaw05.CacheUnseen -/
def s12 (Q : WK) (x0 x1 x2 : Value) (σ : AHeap) : Prop :=
  E 36 [x0, (.int .i64 1), (.int .i64 24)] σ fun v22_3 τ_4 =>
  E 36 [x1, (.int .i64 1), (.int .i64 12)] τ_4 fun v24_6 τ_7 =>
  E 13 [v22_3] τ_7 fun v27_10 τ_11 =>
  pu (aExtract v27_10 0) fun v28_12 =>
  pu (aExtract v27_10 1) fun v29_13 =>
  pu (aBin (some (.int .i64)) .neq v29_13 (.int .i64 0)) fun v31_16 =>
  wC v31_16 (
  Q (.bool false) τ_11) (
  E 37 [v28_12, v24_6] τ_11 fun v35_22 τ_23 =>
  pu (aExtract v35_22 0) fun v36_24 =>
  pu (aExtract v35_22 1) fun v37_25 =>
  pu (aBin (some (.int .i64)) .neq v37_25 (.int .i64 0)) fun v39_28 =>
  wC v39_28 (
  Q (.bool false) τ_23) (
  wNew τ_23 (.cells [(.slice none 0 0), (.slice none 0 0), (.slice none 0 0), (.slice none 0 0), (.slice none 0 0), (.slice none 0 0), (.slice none 0 0), (.slice none 0 0), (.slice none 0 0), (.slice none 0 0), (.slice none 0 0), (.slice none 0 0), (.slice none 0 0), (.slice none 0 0), (.slice none 0 0), (.slice none 0 0), (.slice none 0 0), (.slice none 0 0), (.slice none 0 0), (.slice none 0 0), (.slice none 0 0), (.slice none 0 0), (.slice none 0 0), (.slice none 0 0)] 104 false) fun b_32 τ_33 =>
  ∃ I_512 : Nat → Value → Value → Value → Value → Value → Value → Value → AHeap → Prop, (∃ m, I_512 m v22_3 v24_6 x2 v28_12 v36_24 (.pointer (some ⟨b_32, 0, none⟩)) (.int .i64 0) τ_33) ∧
  ∀ m (x0_36' x1_37' x2_38' x7_39' x9_40' x11_41' x12_42' : Value) (σ' : AHeap), I_512 m x0_36' x1_37' x2_38' x7_39' x9_40' x11_41' x12_42' σ' → (s12b1 (fun x0_36' x1_37' x2_38' x7_39' x9_40' x11_41' x12_42' σ' => ∃ m', m' < m ∧ I_512 m' x0_36' x1_37' x2_38' x7_39' x9_40' x11_41' x12_42' σ') Q x0_36' x1_37' x2_38' x7_39' x9_40' x11_41' x12_42' σ')))

theorem s12_eq (Q : WK) (x0 x1 x2 : Value) (σ : AHeap) : wfun P E F 12 [x0, x1, x2] σ Q = s12 Q x0 x1 x2 σ := by kernel_rfl

theorem s12_ev {Q : WK} {x0 x1 x2 : Value} {σ : AHeap} (h : s12 Q x0 x1 x2 σ) : E 12 [x0, x1, x2] σ Q := E_of (by kernel_rfl) (Eq.mpr (s12_eq Q x0 x1 x2 σ) h)

/-- slices.Sort[[]int,int] -/
def s78 (Q : WK) (x0 : Value) (σ : AHeap) : Prop :=
  pu (lenS x0) fun v4_1 =>
  pu (convI .u64 v4_1) fun v8_5 =>
  E 105 [v8_5] σ fun v9_6 τ_7 =>
  E 104 [x0, (.int .i64 0), v4_1, v9_6] τ_7 fun v10_8 τ_9 =>
  Q (.tuple #[]) τ_9

theorem s78_eq (Q : WK) (x0 : Value) (σ : AHeap) : wfun P E F 78 [x0] σ Q = s78 Q x0 σ := by kernel_rfl

theorem s78_ev {Q : WK} {x0 : Value} {σ : AHeap} (h : s78 Q x0 σ) : E 78 [x0] σ Q := E_of (by kernel_rfl) (Eq.mpr (s78_eq Q x0 σ) h)

def s104k19 (N1 : Value → Value → Value → Value → Value → Value → AHeap → Prop) (Q : WK) (p87_113 p0_114 p1_115 p2_116 p11_117 p3_127 p8_128 p9_129 p10_230 : Value) (τ_112 : AHeap) : Prop :=
  wC p87_113 (
  E 124 [p0_114, p1_115, p2_116, p11_117] τ_112 fun v92_118 τ_119 =>
  N1 p0_114 v92_118 p2_116 p3_127 p8_128 p9_129 τ_119) (
  E 125 [p0_114, p1_115, p2_116, p11_117] τ_112 fun v99_135 τ_136 =>
  pu (aExtract v99_135 0) fun v100_137 =>
  pu (aExtract v99_135 1) fun v101_138 =>
  pu (aBin (some (.int .i64)) .sub v100_137 p1_115) fun v105_144 =>
  pu (aBin (some (.int .i64)) .sub p2_116 v100_137) fun v108_146 =>
  pu (aBin (some (.int .i64)) .quo p10_230 (.int .i64 8)) fun v110_149 =>
  pu (aBin (some (.int .i64)) .lss v105_144 v108_146) fun v113_153 =>
  wC v113_153 (
  pu (aBin (some (.int .i64)) .geq v105_144 v110_149) fun v116_158 =>
  E 104 [p0_114, p1_115, v100_137, p3_127] τ_136 fun v121_164 τ_165 =>
  pu (aBin (some (.int .i64)) .add v100_137 (.int .i64 1)) fun v123_168 =>
  N1 p0_114 v123_168 p2_116 p3_127 v116_158 v101_138 τ_165) (
  pu (aBin (some (.int .i64)) .geq v108_146 v110_149) fun v126_184 =>
  pu (aBin (some (.int .i64)) .add v100_137 (.int .i64 1)) fun v129_188 =>
  E 104 [p0_114, v129_188, p2_116, p3_127] τ_136 fun v132_191 τ_192 =>
  N1 p0_114 p1_115 v100_137 p3_127 v126_184 v101_138 τ_192))

def s104k18 (N1 : Value → Value → Value → Value → Value → Value → AHeap → Prop) (Q : WK) (p1_99 p0_101 p11_105 p2_231 p3_232 p8_233 p9_234 p10_235 : Value) (τ_98 : AHeap) : Prop :=
  pu (aBin (some (.int .i64)) .gtr p1_99 (.int .i64 0)) fun v74_100 =>
  wG v74_100 (
  pu (aBin (some (.int .i64)) .sub p1_99 (.int .i64 1)) fun v78_102 =>
  pu (aIndexAddr 1 p0_101 v78_102) fun v79_103 =>
  pu (aLoad false 1 v79_103 τ_98) fun v80_104 =>
  pu (aIndexAddr 1 p0_101 p11_105) fun v83_106 =>
  pu (aLoad false 1 v83_106 τ_98) fun v84_107 =>
  E 123 [v80_104, v84_107] τ_98 fun v85_108 τ_109 =>
  pu (aUn .not v85_108) fun v86_110 =>
  (s104k19 N1 Q v86_110 p0_101 p1_99 p2_231 p11_105 p3_232 p8_233 p9_234 p10_235 τ_109)) (
  (s104k19 N1 Q (.bool false) p0_101 p1_99 p2_231 p11_105 p3_232 p8_233 p9_234 p10_235 τ_98)) (
  wB v74_100 fun b_237 =>
  (s104k19 N1 Q (cond b_237 skipV (.bool false)) p0_101 p1_99 p2_231 p11_105 p3_232 p8_233 p9_234 p10_235 τ_98))

def s104k16 (N1 : Value → Value → Value → Value → Value → Value → AHeap → Prop) (Q : WK) (p68_84 p0_85 p1_86 p2_87 p3_240 p8_241 p9_242 p11_243 p10_244 : Value) (τ_83 : AHeap) : Prop :=
  wC p68_84 (
  E 122 [p0_85, p1_86, p2_87] τ_83 fun v72_88 τ_89 =>
  wC v72_88 (
  Q (.tuple #[]) τ_89) (
  (s104k18 N1 Q p1_86 p0_85 p11_243 p2_87 p3_240 p8_241 p9_242 p10_244 τ_89))) (
  (s104k18 N1 Q p1_86 p0_85 p11_243 p2_87 p3_240 p8_241 p9_242 p10_244 τ_83))

def s104k15 (N1 : Value → Value → Value → Value → Value → Value → AHeap → Prop) (Q : WK) (p8_77 p9_78 p12_80 p0_245 p1_246 p2_247 p3_248 p11_249 p10_250 : Value) (τ_76 : AHeap) : Prop :=
  wG p8_77 (
  wG p9_78 (
  pu (aBin (some (.int .i64)) .eql p12_80 (.int .i64 1)) fun v67_81 =>
  (s104k16 N1 Q v67_81 p0_245 p1_246 p2_247 p3_248 p8_77 p9_78 p11_249 p10_250 τ_76)) (
  (s104k16 N1 Q (.bool false) p0_245 p1_246 p2_247 p3_248 p8_77 p9_78 p11_249 p10_250 τ_76)) (
  wB p9_78 fun b_252 =>
  (s104k16 N1 Q (cond b_252 skipV (.bool false)) p0_245 p1_246 p2_247 p3_248 p8_77 p9_78 p11_249 p10_250 τ_76))) (
  (s104k16 N1 Q (.bool false) p0_245 p1_246 p2_247 p3_248 p8_77 p9_78 p11_249 p10_250 τ_76)) (
  wB p8_77 fun b_255 =>
  wG (cond b_255 skipV (.bool false)) (
  pu (aBin (some (.int .i64)) .eql p12_80 (.int .i64 1)) fun v67_256 =>
  (s104k16 N1 Q v67_256 p0_245 p1_246 p2_247 p3_248 p8_77 p9_78 p11_249 p10_250 τ_76)) (
  (s104k16 N1 Q (.bool false) p0_245 p1_246 p2_247 p3_248 p8_77 p9_78 p11_249 p10_250 τ_76)) (
  wB (cond b_255 skipV (.bool false)) fun b_259 =>
  (s104k16 N1 Q (cond b_259 skipV (.bool false)) p0_245 p1_246 p2_247 p3_248 p8_77 p9_78 p11_249 p10_250 τ_76)))

def s104k10 (N1 : Value → Value → Value → Value → Value → Value → AHeap → Prop) (Q : WK) (p0_51 p1_52 p2_53 p8_287 p9_288 p3_289 p10_290 : Value) (τ_50 : AHeap) : Prop :=
  E 120 [p0_51, p1_52, p2_53] τ_50 fun v46_54 τ_55 =>
  pu (aExtract v46_54 0) fun v47_56 =>
  pu (aExtract v46_54 1) fun v48_57 =>
  pu (aBin (some (.int .i64)) .eql v48_57 (.int .i64 2)) fun v50_60 =>
  wC v50_60 (
  E 121 [p0_51, p1_52, p2_53] τ_55 fun v54_66 τ_67 =>
  pu (aBin (some (.int .i64)) .sub p2_53 (.int .i64 1)) fun v56_70 =>
  pu (aBin (some (.int .i64)) .sub v47_56 p1_52) fun v59_73 =>
  pu (aBin (some (.int .i64)) .sub v56_70 v59_73) fun v60_74 =>
  (s104k15 N1 Q p8_287 p9_288 (.int .i64 1) p0_51 p1_52 p2_53 p3_289 v60_74 p10_290 τ_67)) (
  (s104k15 N1 Q p8_287 p9_288 v48_57 p0_51 p1_52 p2_53 p3_289 v47_56 p10_290 τ_55))

def s104b1 (N1 : Value → Value → Value → Value → Value → Value → AHeap → Prop) (Q : WK) (x0_3 x1_4 x2_5 x3_6 x8_7 x9_8 : Value) (τ_9 : AHeap) : Prop :=
  pu (aBin (some (.int .i64)) .sub x2_5 x1_4) fun v21_10 =>
  pu (aBin (some (.int .i64)) .leq v21_10 (.int .i64 12)) fun v23_13 =>
  wC v23_13 (
  E 117 [x0_3, x1_4, x2_5] τ_9 fun v27_19 τ_20 =>
  Q (.tuple #[]) τ_20) (
  pu (aBin (some (.int .i64)) .eql x3_6 (.int .i64 0)) fun v29_26 =>
  wC v29_26 (
  E 118 [x0_3, x1_4, x2_5] τ_9 fun v33_32 τ_33 =>
  Q (.tuple #[]) τ_33) (
  pu (aUn .not x8_7) fun v35_39 =>
  wC v35_39 (
  E 119 [x0_3, x1_4, x2_5] τ_9 fun v39_45 τ_46 =>
  pu (aBin (some (.int .i64)) .sub x3_6 (.int .i64 1)) fun v41_49 =>
  (s104k10 N1 Q x0_3 x1_4 x2_5 x8_7 x9_8 v41_49 v21_10 τ_46)) (
  (s104k10 N1 Q x0_3 x1_4 x2_5 x8_7 x9_8 x3_6 v21_10 τ_9))))

/-- slices.pdqsortOrdered[int] -/
def s104 (Q : WK) (x0 x1 x2 x3 : Value) (σ : AHeap) : Prop :=
  ∃ I_321 : Nat → Value → Value → Value → Value → Value → Value → AHeap → Prop, (∃ m, I_321 m x0 x1 x2 x3 (.bool true) (.bool true) σ) ∧
  ∀ m (x0_3' x1_4' x2_5' x3_6' x8_7' x9_8' : Value) (σ' : AHeap), I_321 m x0_3' x1_4' x2_5' x3_6' x8_7' x9_8' σ' → (s104b1 (fun x0_3' x1_4' x2_5' x3_6' x8_7' x9_8' σ' => ∃ m', m' < m ∧ I_321 m' x0_3' x1_4' x2_5' x3_6' x8_7' x9_8' σ') Q x0_3' x1_4' x2_5' x3_6' x8_7' x9_8' σ')

theorem s104_eq (Q : WK) (x0 x1 x2 x3 : Value) (σ : AHeap) : wfun P E F 104 [x0, x1, x2, x3] σ Q = s104 Q x0 x1 x2 x3 σ := by kernel_rfl

theorem s104_ev {Q : WK} {x0 x1 x2 x3 : Value} {σ : AHeap} (h : s104 Q x0 x1 x2 x3 σ) : E 104 [x0, x1, x2, x3] σ Q := E_of (by kernel_rfl) (Eq.mpr (s104_eq Q x0 x1 x2 x3 σ) h)

/-- math/bits.Len -/
def s105 (Q : WK) (x0 : Value) (σ : AHeap) : Prop :=
  E 127 [x0] σ fun v7_4 τ_5 =>
  Q v7_4 τ_5

theorem s105_eq (Q : WK) (x0 : Value) (σ : AHeap) : wfun P E F 105 [x0] σ Q = s105 Q x0 σ := by kernel_rfl

theorem s105_ev {Q : WK} {x0 : Value} {σ : AHeap} (h : s105 Q x0 σ) : E 105 [x0] σ Q := E_of (by kernel_rfl) (Eq.mpr (s105_eq Q x0 σ) h)

def s117k5 (N1 : Value → Value → Value → Value → AHeap → Prop) (N2 : Value → Value → Value → Value → Value → AHeap → Prop) (Q : WK) (p30_30 p0_54 p7_55 p1_56 p2_57 p6_58 : Value) (τ_29 : AHeap) : Prop :=
  wC p30_30 (
  pu (aBin (some (.int .i64)) .sub p7_55 (.int .i64 1)) fun v37_34 =>
  pu (aBin (some (.int .i64)) .sub p7_55 (.int .i64 1)) fun v40_35 =>
  pu (aIndexAddr 1 p0_54 v40_35) fun v41_36 =>
  pu (aLoad false 1 v41_36 τ_29) fun v42_37 =>
  pu (aIndexAddr 1 p0_54 p7_55) fun v45_38 =>
  pu (aLoad false 1 v45_38 τ_29) fun v46_39 =>
  pu (aIndexAddr 1 p0_54 p7_55) fun v47_40 =>
  pu (aStore 1 v47_40 v42_37 τ_29) fun τ_41 =>
  pu (aIndexAddr 1 p0_54 v37_34) fun v48_42 =>
  pu (aStore 1 v48_42 v46_39 τ_41) fun τ_43 =>
  pu (aBin (some (.int .i64)) .sub p7_55 (.int .i64 1)) fun v32_46 =>
  N2 p0_54 p1_56 p2_57 p6_58 v32_46 τ_43) (
  pu (aBin (some (.int .i64)) .add p6_58 (.int .i64 1)) fun v14_61 =>
  N1 p0_54 p1_56 p2_57 v14_61 τ_29)

def s117b2 (N1 : Value → Value → Value → Value → AHeap → Prop) (N2 : Value → Value → Value → Value → Value → AHeap → Prop) (Q : WK) (x0_14 x1_15 x2_16 x6_17 x7_18 : Value) (τ_19 : AHeap) : Prop :=
  pu (aBin (some (.int .i64)) .gtr x7_18 x1_15) fun v18_20 =>
  wG v18_20 (
  pu (aIndexAddr 1 x0_14 x7_18) fun v22_21 =>
  pu (aLoad false 1 v22_21 τ_19) fun v23_22 =>
  pu (aBin (some (.int .i64)) .sub x7_18 (.int .i64 1)) fun v26_23 =>
  pu (aIndexAddr 1 x0_14 v26_23) fun v27_24 =>
  pu (aLoad false 1 v27_24 τ_19) fun v28_25 =>
  E 123 [v23_22, v28_25] τ_19 fun v29_26 τ_27 =>
  (s117k5 N1 N2 Q v29_26 x0_14 x7_18 x1_15 x2_16 x6_17 τ_27)) (
  (s117k5 N1 N2 Q (.bool false) x0_14 x7_18 x1_15 x2_16 x6_17 τ_19)) (
  wB v18_20 fun b_66 =>
  (s117k5 N1 N2 Q (cond b_66 skipV (.bool false)) x0_14 x7_18 x1_15 x2_16 x6_17 τ_19))

def s117b1 (N1 : Value → Value → Value → Value → AHeap → Prop) (Q : WK) (x0_3 x1_4 x2_5 x6_6 : Value) (τ_7 : AHeap) : Prop :=
  pu (aBin (some (.int .i64)) .lss x6_6 x2_5) fun v12_8 =>
  wC v12_8 (
  ∃ I_67 : Nat → Value → Value → Value → Value → Value → AHeap → Prop, (∃ m, I_67 m x0_3 x1_4 x2_5 x6_6 x6_6 τ_7) ∧
  ∀ m (x0_14' x1_15' x2_16' x6_17' x7_18' : Value) (σ' : AHeap), I_67 m x0_14' x1_15' x2_16' x6_17' x7_18' σ' → (s117b2 N1 (fun x0_14' x1_15' x2_16' x6_17' x7_18' σ' => ∃ m', m' < m ∧ I_67 m' x0_14' x1_15' x2_16' x6_17' x7_18' σ') Q x0_14' x1_15' x2_16' x6_17' x7_18' σ')) (
  Q (.tuple #[]) τ_7)

/-- slices.insertionSortOrdered[int] -/
def s117 (Q : WK) (x0 x1 x2 : Value) (σ : AHeap) : Prop :=
  pu (aBin (some (.int .i64)) .add x1 (.int .i64 1)) fun v9_1 =>
  ∃ I_81 : Nat → Value → Value → Value → Value → AHeap → Prop, (∃ m, I_81 m x0 x1 x2 v9_1 σ) ∧
  ∀ m (x0_3' x1_4' x2_5' x6_6' : Value) (σ' : AHeap), I_81 m x0_3' x1_4' x2_5' x6_6' σ' → (s117b1 (fun x0_3' x1_4' x2_5' x6_6' σ' => ∃ m', m' < m ∧ I_81 m' x0_3' x1_4' x2_5' x6_6' σ') Q x0_3' x1_4' x2_5' x6_6' σ')

theorem s117_eq (Q : WK) (x0 x1 x2 : Value) (σ : AHeap) : wfun P E F 117 [x0, x1, x2] σ Q = s117 Q x0 x1 x2 σ := by kernel_rfl

theorem s117_ev {Q : WK} {x0 x1 x2 : Value} {σ : AHeap} (h : s117 Q x0 x1 x2 σ) : E 117 [x0, x1, x2] σ Q := E_of (by kernel_rfl) (Eq.mpr (s117_eq Q x0 x1 x2 σ) h)

def s126k7 (Q : WK) (p2_20 p0_21 : Value) (τ_19 : AHeap) : Prop :=
  pu (convI .u8 p0_21) fun v15_22 =>
  pu (idxStr (.string ⟨#[0, 1, 2, 2, 3, 3, 3, 3, 4, 4, 4, 4, 4, 4, 4, 4, 5, 5, 5, 5, 5, 5, 5, 5, 5, 5, 5, 5, 5, 5, 5, 5, 6, 6, 6, 6, 6, 6, 6, 6, 6, 6, 6, 6, 6, 6, 6, 6, 6, 6, 6, 6, 6, 6, 6, 6, 6, 6, 6, 6, 6, 6, 6, 6, 7, 7, 7, 7, 7, 7, 7, 7, 7, 7, 7, 7, 7, 7, 7, 7, 7, 7, 7, 7, 7, 7, 7, 7, 7, 7, 7, 7, 7, 7, 7, 7, 7, 7, 7, 7, 7, 7, 7, 7, 7, 7, 7, 7, 7, 7, 7, 7, 7, 7, 7, 7, 7, 7, 7, 7, 7, 7, 7, 7, 7, 7, 7, 7, 8, 8, 8, 8, 8, 8, 8, 8, 8, 8, 8, 8, 8, 8, 8, 8, 8, 8, 8, 8, 8, 8, 8, 8, 8, 8, 8, 8, 8, 8, 8, 8, 8, 8, 8, 8, 8, 8, 8, 8, 8, 8, 8, 8, 8, 8, 8, 8, 8, 8, 8, 8, 8, 8, 8, 8, 8, 8, 8, 8, 8, 8, 8, 8, 8, 8, 8, 8, 8, 8, 8, 8, 8, 8, 8, 8, 8, 8, 8, 8, 8, 8, 8, 8, 8, 8, 8, 8, 8, 8, 8, 8, 8, 8, 8, 8, 8, 8, 8, 8, 8, 8, 8, 8, 8, 8, 8, 8, 8, 8, 8, 8, 8, 8, 8, 8, 8, 8, 8, 8, 8, 8, 8, 8, 8, 8, 8, 8]⟩) v15_22) fun v16_23 =>
  pu (convI .i64 v16_23) fun v17_24 =>
  pu (aBin (some (.int .i64)) .add p2_20 v17_24) fun v18_25 =>
  Q v18_25 τ_19

def s126k4 (Q : WK) (p0_10 p2_28 : Value) (τ_9 : AHeap) : Prop :=
  pu (aBin (some (.int .u32)) .geq p0_10 (.int .u32 256)) fun v8_11 =>
  wC v8_11 (
  pu (aBin (some (.int .u32)) .shr p0_10 (.int .u64 8)) fun v10_15 =>
  pu (aBin (some (.int .i64)) .add p2_28 (.int .i64 8)) fun v12_18 =>
  (s126k7 Q v12_18 v10_15 τ_9)) (
  (s126k7 Q p2_28 p0_10 τ_9))

/-- math/bits.Len32 -/
def s126 (Q : WK) (x0 : Value) (σ : AHeap) : Prop :=
  pu (aBin (some (.int .u32)) .geq x0 (.int .u32 65536)) fun v4_3 =>
  wC v4_3 (
  pu (aBin (some (.int .u32)) .shr x0 (.int .u64 16)) fun v6_7 =>
  (s126k4 Q v6_7 (.int .i64 16) σ)) (
  (s126k4 Q x0 (.int .i64 0) σ))

theorem s126_eq (Q : WK) (x0 : Value) (σ : AHeap) : wfun P E F 126 [x0] σ Q = s126 Q x0 σ := by kernel_rfl

theorem s126_ev {Q : WK} {x0 : Value} {σ : AHeap} (h : s126 Q x0 σ) : E 126 [x0] σ Q := E_of (by kernel_rfl) (Eq.mpr (s126_eq Q x0 σ) h)

def s127k10 (Q : WK) (p2_30 p0_31 : Value) (τ_29 : AHeap) : Prop :=
  pu (convI .u8 p0_31) fun v21_32 =>
  pu (idxStr (.string ⟨#[0, 1, 2, 2, 3, 3, 3, 3, 4, 4, 4, 4, 4, 4, 4, 4, 5, 5, 5, 5, 5, 5, 5, 5, 5, 5, 5, 5, 5, 5, 5, 5, 6, 6, 6, 6, 6, 6, 6, 6, 6, 6, 6, 6, 6, 6, 6, 6, 6, 6, 6, 6, 6, 6, 6, 6, 6, 6, 6, 6, 6, 6, 6, 6, 7, 7, 7, 7, 7, 7, 7, 7, 7, 7, 7, 7, 7, 7, 7, 7, 7, 7, 7, 7, 7, 7, 7, 7, 7, 7, 7, 7, 7, 7, 7, 7, 7, 7, 7, 7, 7, 7, 7, 7, 7, 7, 7, 7, 7, 7, 7, 7, 7, 7, 7, 7, 7, 7, 7, 7, 7, 7, 7, 7, 7, 7, 7, 7, 8, 8, 8, 8, 8, 8, 8, 8, 8, 8, 8, 8, 8, 8, 8, 8, 8, 8, 8, 8, 8, 8, 8, 8, 8, 8, 8, 8, 8, 8, 8, 8, 8, 8, 8, 8, 8, 8, 8, 8, 8, 8, 8, 8, 8, 8, 8, 8, 8, 8, 8, 8, 8, 8, 8, 8, 8, 8, 8, 8, 8, 8, 8, 8, 8, 8, 8, 8, 8, 8, 8, 8, 8, 8, 8, 8, 8, 8, 8, 8, 8, 8, 8, 8, 8, 8, 8, 8, 8, 8, 8, 8, 8, 8, 8, 8, 8, 8, 8, 8, 8, 8, 8, 8, 8, 8, 8, 8, 8, 8, 8, 8, 8, 8, 8, 8, 8, 8, 8, 8, 8, 8, 8, 8, 8, 8, 8, 8]⟩) v21_32) fun v22_33 =>
  pu (convI .i64 v22_33) fun v23_34 =>
  pu (aBin (some (.int .i64)) .add p2_30 v23_34) fun v24_35 =>
  Q v24_35 τ_29

def s127k7 (Q : WK) (p0_20 p2_38 : Value) (τ_19 : AHeap) : Prop :=
  pu (aBin (some (.int .u64)) .geq p0_20 (.int .u64 256)) fun v14_21 =>
  wC v14_21 (
  pu (aBin (some (.int .u64)) .shr p0_20 (.int .u64 8)) fun v16_25 =>
  pu (aBin (some (.int .i64)) .add p2_38 (.int .i64 8)) fun v18_28 =>
  (s127k10 Q v18_28 v16_25 τ_19)) (
  (s127k10 Q p2_38 p0_20 τ_19))

def s127k4 (Q : WK) (p0_10 p2_41 : Value) (τ_9 : AHeap) : Prop :=
  pu (aBin (some (.int .u64)) .geq p0_10 (.int .u64 65536)) fun v8_11 =>
  wC v8_11 (
  pu (aBin (some (.int .u64)) .shr p0_10 (.int .u64 16)) fun v10_15 =>
  pu (aBin (some (.int .i64)) .add p2_41 (.int .i64 16)) fun v12_18 =>
  (s127k7 Q v10_15 v12_18 τ_9)) (
  (s127k7 Q p0_10 p2_41 τ_9))

/-- math/bits.Len64 -/
def s127 (Q : WK) (x0 : Value) (σ : AHeap) : Prop :=
  pu (aBin (some (.int .u64)) .geq x0 (.int .u64 4294967296)) fun v4_3 =>
  wC v4_3 (
  pu (aBin (some (.int .u64)) .shr x0 (.int .u64 32)) fun v6_7 =>
  (s127k4 Q v6_7 (.int .i64 32) σ)) (
  (s127k4 Q x0 (.int .i64 0) σ))

theorem s127_eq (Q : WK) (x0 : Value) (σ : AHeap) : wfun P E F 127 [x0] σ Q = s127 Q x0 σ := by kernel_rfl

theorem s127_ev {Q : WK} {x0 : Value} {σ : AHeap} (h : s127 Q x0 σ) : E 127 [x0] σ Q := E_of (by kernel_rfl) (Eq.mpr (s127_eq Q x0 σ) h)

end Go.Ax.YtfeamgocomlepaaC
/- What functions of the program come to, in a readable form: printed by a program of this session's (wprint.py), proved by the kernel. No statement of the seat is proved here. -/
set_option linter.unusedVariables false
set_option maxRecDepth 100000
namespace Go.Ax.YtfeamgocomlepaaC
open Go.Proofs
def s13k2 (Q : WK) (p9_6 p0_14 : Value) (τ_5 : AHeap) : Prop :=
  wC p9_6 (
  Q (.tuple #[(.pointer none), (.int .i64 1)]) τ_5) (
  pu (aBin (some (.int .i64)) .mul p0_14 (.int .i64 256)) fun v11_9 =>
  pu (aMake 5 1 [(.int .u8 0)] v11_9 v11_9 τ_5) fun r12_10 =>
  pu (buildR [(0, 1), (1, 1), (2, 1), (3, 1)] [(.slice none 0 0), (.slice none 0 0), (.int .i64 0), (.bool false)] [(0, r12_10.1)]) fun v13_11 =>
  cond (live v13_11) (wNew r12_10.2 (.cells (Value.cells v13_11).toList 88 false) fun b_12 τ_13 =>
  Q (.tuple #[(.pointer (some ⟨b_12, 0, none⟩)), (.int .i64 0)]) τ_13) False)

/-- cistern/disk.New -/
def s13 (Q : WK) (x0 : Value) (σ : AHeap) : Prop :=
  pu (aBin (some (.int .i64)) .lss x0 (.int .i64 1)) fun v5_3 =>
  wG v5_3 (
  (s13k2 Q (.bool true) x0 σ)) (
  pu (aBin (some (.int .i64)) .gtr x0 (.int .i64 1024)) fun v8_15 =>
  (s13k2 Q v8_15 x0 σ)) (
  wB v5_3 fun b_17 =>
  (s13k2 Q (cond b_17 (.bool true) skipV) x0 σ))

theorem s13_eq (Q : WK) (x0 : Value) (σ : AHeap) : wfun P E F 13 [x0] σ Q = s13 Q x0 σ := by kernel_rfl

theorem s13_ev {Q : WK} {x0 : Value} {σ : AHeap} (h : s13 Q x0 σ) : E 13 [x0] σ Q := E_of (by kernel_rfl) (Eq.mpr (s13_eq Q x0 σ) h)

/-- (*cistern/disk.Disk).Write -/
def s15 (Q : WK) (x0 x1 x2 : Value) (σ : AHeap) : Prop :=
  cond (live x0) (wNew σ (.cells (Value.cells x0).toList 24 false) fun b_1 τ_2 =>
  cond (live x1) (wNew τ_2 (.cells (Value.cells x1).toList 3 false) fun b_3 τ_4 =>
  cond (live x2) (wNew τ_4 (.cells (Value.cells x2).toList 23 false) fun b_5 τ_6 =>
  pu (aLoad false 1 (.pointer (some ⟨b_1, 0, none⟩)) τ_6) fun v8_9 =>
  pu (aLoad false 1 (.pointer (some ⟨b_3, 0, none⟩)) τ_6) fun v9_11 =>
  E 64 [v8_9, v9_11] τ_6 fun v10_12 τ_13 =>
  pu (aBin (some (.int .i64)) .neq v10_12 (.int .i64 0)) fun v12_16 =>
  wC v12_16 (
  Q v10_12 τ_13) (
  pu (aLoad false 1 (.pointer (some ⟨b_5, 0, none⟩)) τ_13) fun v14_22 =>
  pu (lenS v14_22) fun v15_23 =>
  pu (aBin (some (.int .i64)) .neq v15_23 (.int .i64 256)) fun v16_24 =>
  wC v16_24 (
  Q (.int .i64 1) τ_13) (
  pu (aLoad false 1 (.pointer (some ⟨b_1, 0, none⟩)) τ_13) fun v17_29 =>
  E 65 [v17_29, (.func (.func 66) #[] #[(.pointer (some ⟨b_5, 0, none⟩)), (.pointer (some ⟨b_1, 0, none⟩)), (.pointer (some ⟨b_3, 0, none⟩))])] τ_13 fun v19_32 τ_33 =>
  Q v19_32 τ_33))) False) False) False

theorem s15_eq (Q : WK) (x0 x1 x2 : Value) (σ : AHeap) : wfun P E F 15 [x0, x1, x2] σ Q = s15 Q x0 x1 x2 σ := by kernel_rfl

theorem s15_ev {Q : WK} {x0 x1 x2 : Value} {σ : AHeap} (h : s15 Q x0 x1 x2 σ) : E 15 [x0, x1, x2] σ Q := E_of (by kernel_rfl) (Eq.mpr (s15_eq Q x0 x1 x2 σ) h)

/-- cistern/cisternlaw03.within -/
def s16 (Q : WK) (x0 x1 : Value) (σ : AHeap) : Prop :=
  pu (convI .u64 x0) fun v6_3 =>
  pu (convI .u64 x1) fun v8_5 =>
  pu (aBin (some (.int .u64)) .rem v6_3 v8_5) fun v9_6 =>
  pu (convI .i64 v9_6) fun v10_7 =>
  Q v10_7 σ

theorem s16_eq (Q : WK) (x0 x1 : Value) (σ : AHeap) : wfun P E F 16 [x0, x1] σ Q = s16 Q x0 x1 σ := by kernel_rfl

theorem s16_ev {Q : WK} {x0 x1 : Value} {σ : AHeap} (h : s16 Q x0 x1 σ) : E 16 [x0, x1] σ Q := E_of (by kernel_rfl) (Eq.mpr (s16_eq Q x0 x1 σ) h)

/-- cistern/cisternlaw03.block -/
def s17 (Q : WK) (x0 : Value) (σ : AHeap) : Prop :=
  cond (live x0) (wNew σ (.cells (Value.cells x0).toList 30 false) fun b_1 τ_2 =>
  pu (aFieldAddr 4 (.pointer (some ⟨b_1, 0, none⟩))) fun v4_5 =>
  pu (aLoad false 1 v4_5 τ_2) fun v5_6 =>
  wC v5_6 (
  pu (aFieldAddr 3 (.pointer (some ⟨b_1, 0, none⟩))) fun v7_10 =>
  pu (aLoad false 1 v7_10 τ_2) fun v8_11 =>
  pu (aAppend 5 1 1 (.slice (some ⟨ZB, 0, some 0⟩) 0 0) v8_11 τ_2) fun r9_12 =>
  Q r9_12.1 r9_12.2) (
  pu (aFieldAddr 2 (.pointer (some ⟨b_1, 0, none⟩))) fun v10_15 =>
  pu (aLoad false 1 v10_15 τ_2) fun v11_16 =>
  E 26 [v11_16] τ_2 fun v12_17 τ_18 =>
  pu (aFieldAddr 3 (.pointer (some ⟨b_1, 0, none⟩))) fun v14_22 =>
  pu (aLoad false 1 v14_22 τ_18) fun v15_23 =>
  pu (aCopy 1 v12_17 v15_23 τ_18) fun r16_24 =>
  Q v12_17 r16_24.2)) False

theorem s17_eq (Q : WK) (x0 : Value) (σ : AHeap) : wfun P E F 17 [x0] σ Q = s17 Q x0 σ := by kernel_rfl

theorem s17_ev {Q : WK} {x0 : Value} {σ : AHeap} (h : s17 Q x0 σ) : E 17 [x0] σ Q := E_of (by kernel_rfl) (Eq.mpr (s17_eq Q x0 σ) h)

/-- (*cistern/disk.Disk).Barrier -/
def s18 (Q : WK) (x0 : Value) (σ : AHeap) : Prop :=
  E 64 [x0, (.int .i64 0)] σ fun v5_3 τ_4 =>
  pu (aBin (some (.int .i64)) .neq v5_3 (.int .i64 0)) fun v7_7 =>
  wC v7_7 (
  Q v5_3 τ_4) (
  E 65 [x0, (.func (.func 68) #[x0] #[])] τ_4 fun v12_13 τ_14 =>
  Q v12_13 τ_14)

theorem s18_eq (Q : WK) (x0 : Value) (σ : AHeap) : wfun P E F 18 [x0] σ Q = s18 Q x0 σ := by kernel_rfl

theorem s18_ev {Q : WK} {x0 : Value} {σ : AHeap} (h : s18 Q x0 σ) : E 18 [x0] σ Q := E_of (by kernel_rfl) (Eq.mpr (s18_eq Q x0 σ) h)

/-- (*cistern/disk.Disk).Flight -/
def s19 (Q : WK) (x0 : Value) (σ : AHeap) : Prop :=
  pu (aBin (some (.pointer 88)) .eql x0 (.pointer none)) fun v4_3 =>
  wC v4_3 (
  Q (.int .i64 0) σ) (
  pu (aNil x0) fun v6_8 =>
  pu (aFieldAddr 1 v6_8) fun v7_9 =>
  pu (aLoad false 1 v7_9 σ) fun v8_10 =>
  pu (lenS v8_10) fun v9_11 =>
  Q v9_11 σ)

theorem s19_eq (Q : WK) (x0 : Value) (σ : AHeap) : wfun P E F 19 [x0] σ Q = s19 Q x0 σ := by kernel_rfl

theorem s19_ev {Q : WK} {x0 : Value} {σ : AHeap} (h : s19 Q x0 σ) : E 19 [x0] σ Q := E_of (by kernel_rfl) (Eq.mpr (s19_eq Q x0 σ) h)

def s20k12 (N1 : Value → Value → Value → Value → Value → AHeap → Prop) (Q : WK) (p33_73 p7_75 p8_76 p31_77 p32_78 : Value) (τ_72 : AHeap) : Prop :=
  pu (aBin (some (.int .i64)) .add p33_73 (.int .i64 1)) fun v57_74 =>
  N1 p7_75 p8_76 p31_77 p32_78 v57_74 τ_72

def s20k11 (N1 : Value → Value → Value → Value → Value → AHeap → Prop) (Q : WK) (p47_61 p8_62 p10_63 p7_66 p33_79 p31_80 p32_81 : Value) (τ_60 : AHeap) : Prop :=
  wC p47_61 (
  pu (aFieldAddr 0 p10_63) fun v49_64 =>
  pu (aLoad false 1 v49_64 τ_60) fun v50_65 =>
  pu (aBin (some (.int .i64)) .sub v50_65 p7_66) fun v52_67 =>
  pu (aSlice 1 p8_62 (some v52_67) none none) fun v53_68 =>
  pu (aFieldAddr 1 p10_63) fun v54_69 =>
  pu (aLoad false 1 v54_69 τ_60) fun v55_70 =>
  pu (aCopy 1 v53_68 v55_70 τ_60) fun r56_71 =>
  (s20k12 N1 Q p33_79 p7_66 p8_62 p31_80 p32_81 r56_71.2)) (
  (s20k12 N1 Q p33_79 p7_66 p8_62 p31_80 p32_81 τ_60))

def s20b1 (N1 : Value → Value → Value → Value → Value → AHeap → Prop) (Q : WK) (x7_32 x8_33 x31_34 x32_35 x33_36 : Value) (τ_37 : AHeap) : Prop :=
  pu (aBin (some (.int .i64)) .lss x33_36 x32_35) fun v34_38 =>
  wC v34_38 (
  pu (aIndexAddr 2 x31_34 x33_36) fun v35_44 =>
  pu (aLoad true 2 v35_44 τ_37) fun v36_45 =>
  wNew τ_37 (.cells [(.int .i64 0), (.slice none 0 0)] 110 false) fun b_46 τ_47 =>
  pu (aStore 2 (.pointer (some ⟨b_46, 0, none⟩)) v36_45 τ_47) fun τ_48 =>
  pu (aFieldAddr 0 (.pointer (some ⟨b_46, 0, none⟩))) fun v37_51 =>
  pu (aLoad false 1 v37_51 τ_48) fun v38_52 =>
  pu (aBin (some (.int .i64)) .geq v38_52 x7_32) fun v40_54 =>
  wG v40_54 (
  pu (aFieldAddr 0 (.pointer (some ⟨b_46, 0, none⟩))) fun v42_55 =>
  pu (aLoad false 1 v42_55 τ_48) fun v43_56 =>
  pu (aBin (some (.int .i64)) .add x7_32 (.int .i64 256)) fun v45_57 =>
  pu (aBin (some (.int .i64)) .lss v43_56 v45_57) fun v46_58 =>
  (s20k11 N1 Q v46_58 x8_33 (.pointer (some ⟨b_46, 0, none⟩)) x7_32 x33_36 x31_34 x32_35 τ_48)) (
  (s20k11 N1 Q (.bool false) x8_33 (.pointer (some ⟨b_46, 0, none⟩)) x7_32 x33_36 x31_34 x32_35 τ_48)) (
  wB v40_54 fun b_87 =>
  (s20k11 N1 Q (cond b_87 skipV (.bool false)) x8_33 (.pointer (some ⟨b_46, 0, none⟩)) x7_32 x33_36 x31_34 x32_35 τ_48))) (
  Q (.tuple #[x8_33, (.int .i64 0)]) τ_37)

/-- (*cistern/disk.Disk).Read -/
def s20 (Q : WK) (x0 x1 : Value) (σ : AHeap) : Prop :=
  E 64 [x0, x1] σ fun v13_4 τ_5 =>
  pu (aBin (some (.int .i64)) .neq v13_4 (.int .i64 0)) fun v15_8 =>
  wC v15_8 (
  Q (.tuple #[(.slice none 0 0), v13_4]) τ_5) (
  pu (aBin (some (.int .i64)) .mul x1 (.int .i64 256)) fun v18_14 =>
  pu (aNil x0) fun v20_17 =>
  pu (aFieldAddr 0 v20_17) fun v21_18 =>
  pu (aLoad false 1 v21_18 τ_5) fun v22_19 =>
  pu (aBin (some (.int .i64)) .add v18_14 (.int .i64 256)) fun v25_21 =>
  pu (aSlice 1 v22_19 (some v18_14) (some v25_21) none) fun v26_22 =>
  E 67 [v26_22] τ_5 fun v27_23 τ_24 =>
  pu (aNil x0) fun v29_27 =>
  pu (aFieldAddr 1 v29_27) fun v30_28 =>
  pu (aLoad false 1 v30_28 τ_24) fun v31_29 =>
  pu (lenS v31_29) fun v32_30 =>
  ∃ I_98 : Nat → Value → Value → Value → Value → Value → AHeap → Prop, (∃ m, I_98 m v18_14 v27_23 v31_29 v32_30 (.int .i64 0) τ_24) ∧
  ∀ m (x7_32' x8_33' x31_34' x32_35' x33_36' : Value) (σ' : AHeap), I_98 m x7_32' x8_33' x31_34' x32_35' x33_36' σ' → (s20b1 (fun x7_32' x8_33' x31_34' x32_35' x33_36' σ' => ∃ m', m' < m ∧ I_98 m' x7_32' x8_33' x31_34' x32_35' x33_36' σ') Q x7_32' x8_33' x31_34' x32_35' x33_36' σ'))

theorem s20_eq (Q : WK) (x0 x1 : Value) (σ : AHeap) : wfun P E F 20 [x0, x1] σ Q = s20 Q x0 x1 σ := by kernel_rfl

theorem s20_ev {Q : WK} {x0 x1 : Value} {σ : AHeap} (h : s20 Q x0 x1 σ) : E 20 [x0, x1] σ Q := E_of (by kernel_rfl) (Eq.mpr (s20_eq Q x0 x1 σ) h)

/-- cistern/cisternlaw03.sector -/
def s21 (Q : WK) (x0 x1 : Value) (σ : AHeap) : Prop :=
  pu (aBin (some (.int .i64)) .mul (.int .i64 64) x1) fun v7_4 =>
  pu (aBin (some (.int .i64)) .mul (.int .i64 64) x1) fun v9_5 =>
  pu (aBin (some (.int .i64)) .add v9_5 (.int .i64 64)) fun v10_6 =>
  pu (aSlice 1 x0 (some v7_4) (some v10_6) none) fun v11_7 =>
  Q v11_7 σ

theorem s21_eq (Q : WK) (x0 x1 : Value) (σ : AHeap) : wfun P E F 21 [x0, x1] σ Q = s21 Q x0 x1 σ := by kernel_rfl

theorem s21_ev {Q : WK} {x0 x1 : Value} {σ : AHeap} (h : s21 Q x0 x1 σ) : E 21 [x0, x1] σ Q := E_of (by kernel_rfl) (Eq.mpr (s21_eq Q x0 x1 σ) h)

def s22k11 (N1 : Value → Value → Value → Value → Value → AHeap → Prop) (Q : WK) (p14_58 p0_60 p1_61 p12_62 p13_63 : Value) (τ_57 : AHeap) : Prop :=
  pu (aBin (some (.int .i64)) .add p14_58 (.int .i64 1)) fun v58_59 =>
  N1 p0_60 p1_61 p12_62 p13_63 v58_59 τ_57

def s22k9 (N1 : Value → Value → Value → Value → Value → AHeap → Prop) (Q : WK) (p6_42 p0_91 p5_92 p14_93 p1_94 p12_95 p13_96 : Value) (τ_41 : AHeap) : Prop :=
  pu (aBin (some (.int .i64)) .eql p6_42 (.int .i64 1)) fun v30_43 =>
  wC v30_43 (
  pu (aNil p0_91) fun v32_47 =>
  pu (aFieldAddr 0 v32_47) fun v33_48 =>
  pu (aLoad false 1 v33_48 τ_41) fun v34_49 =>
  pu (aFieldAddr 0 p5_92) fun v35_51 =>
  pu (aLoad false 1 v35_51 τ_41) fun v36_52 =>
  pu (aSlice 1 v34_49 (some v36_52) none none) fun v37_53 =>
  pu (aFieldAddr 1 p5_92) fun v38_54 =>
  pu (aLoad false 1 v38_54 τ_41) fun v39_55 =>
  pu (aCopy 1 v37_53 v39_55 τ_41) fun r40_56 =>
  (s22k11 N1 Q p14_93 p0_91 p1_94 p12_95 p13_96 r40_56.2)) (
  pu (aBin (some (.int .i64)) .gtr p6_42 (.int .i64 1)) fun v43_69 =>
  wC v43_69 (
  pu (aNil p0_91) fun v45_73 =>
  pu (aFieldAddr 0 v45_73) fun v46_74 =>
  pu (aLoad false 1 v46_74 τ_41) fun v47_75 =>
  pu (aFieldAddr 0 p5_92) fun v48_77 =>
  pu (aLoad false 1 v48_77 τ_41) fun v49_78 =>
  pu (aSlice 1 v47_75 (some v49_78) none none) fun v50_79 =>
  pu (aFieldAddr 1 p5_92) fun v51_80 =>
  pu (aLoad false 1 v51_80 τ_41) fun v52_81 =>
  pu (aBin (some (.int .i64)) .sub p6_42 (.int .i64 2)) fun v54_83 =>
  pu (aBin (some (.int .i64)) .rem v54_83 (.int .i64 65)) fun v55_84 =>
  pu (aSlice 1 v52_81 none (some v55_84) none) fun v56_85 =>
  pu (aCopy 1 v50_79 v56_85 τ_41) fun r57_86 =>
  (s22k11 N1 Q p14_93 p0_91 p1_94 p12_95 p13_96 r57_86.2)) (
  (s22k11 N1 Q p14_93 p0_91 p1_94 p12_95 p13_96 τ_41)))

def s22b1 (N1 : Value → Value → Value → Value → Value → AHeap → Prop) (Q : WK) (x0_11 x1_12 x12_13 x13_14 x14_15 : Value) (τ_16 : AHeap) : Prop :=
  pu (aBin (some (.int .i64)) .lss x14_15 x13_14) fun v15_17 =>
  wC v15_17 (
  pu (aIndexAddr 2 x12_13 x14_15) fun v17_23 =>
  pu (aLoad true 2 v17_23 τ_16) fun v18_24 =>
  wNew τ_16 (.cells [(.int .i64 0), (.slice none 0 0)] 110 false) fun b_25 τ_26 =>
  pu (aStore 2 (.pointer (some ⟨b_25, 0, none⟩)) v18_24 τ_26) fun τ_27 =>
  pu (lenS x1_12) fun v21_32 =>
  pu (aBin (some (.int .i64)) .lss x14_15 v21_32) fun v22_33 =>
  wC v22_33 (
  pu (aIndexAddr 1 x1_12 x14_15) fun v25_38 =>
  pu (aLoad false 1 v25_38 τ_27) fun v26_39 =>
  pu (convI .i64 v26_39) fun v27_40 =>
  (s22k9 N1 Q v27_40 x0_11 (.pointer (some ⟨b_25, 0, none⟩)) x14_15 x1_12 x12_13 x13_14 τ_27)) (
  (s22k9 N1 Q (.int .i64 0) x0_11 (.pointer (some ⟨b_25, 0, none⟩)) x14_15 x1_12 x12_13 x13_14 τ_27))) (
  pu (aNil x0_11) fun v62_126 =>
  pu (aFieldAddr 1 v62_126) fun v63_127 =>
  pu (aStore 1 v63_127 (.slice none 0 0) τ_16) fun τ_128 =>
  pu (aNil x0_11) fun v64_129 =>
  pu (aFieldAddr 2 v64_129) fun v65_130 =>
  pu (aStore 1 v65_130 (.int .i64 0) τ_128) fun τ_131 =>
  pu (aNil x0_11) fun v66_132 =>
  pu (aFieldAddr 3 v66_132) fun v67_133 =>
  pu (aStore 1 v67_133 (.bool false) τ_131) fun τ_134 =>
  Q (.tuple #[]) τ_134)

/-- (*cistern/disk.Disk).Crash -/
def s22 (Q : WK) (x0 x1 : Value) (σ : AHeap) : Prop :=
  pu (aBin (some (.pointer 88)) .eql x0 (.pointer none)) fun v8_1 =>
  wC v8_1 (
  Q (.tuple #[]) σ) (
  pu (aNil x0) fun v10_6 =>
  pu (aFieldAddr 1 v10_6) fun v11_7 =>
  pu (aLoad false 1 v11_7 σ) fun v12_8 =>
  pu (lenS v12_8) fun v13_9 =>
  ∃ I_135 : Nat → Value → Value → Value → Value → Value → AHeap → Prop, (∃ m, I_135 m x0 x1 v12_8 v13_9 (.int .i64 0) σ) ∧
  ∀ m (x0_11' x1_12' x12_13' x13_14' x14_15' : Value) (σ' : AHeap), I_135 m x0_11' x1_12' x12_13' x13_14' x14_15' σ' → (s22b1 (fun x0_11' x1_12' x12_13' x13_14' x14_15' σ' => ∃ m', m' < m ∧ I_135 m' x0_11' x1_12' x12_13' x13_14' x14_15' σ') Q x0_11' x1_12' x12_13' x13_14' x14_15' σ'))

theorem s22_eq (Q : WK) (x0 x1 : Value) (σ : AHeap) : wfun P E F 22 [x0, x1] σ Q = s22 Q x0 x1 σ := by kernel_rfl

theorem s22_ev {Q : WK} {x0 x1 : Value} {σ : AHeap} (h : s22 Q x0 x1 σ) : E 22 [x0, x1] σ Q := E_of (by kernel_rfl) (Eq.mpr (s22_eq Q x0 x1 σ) h)

/-- bytes.Equal -/
def s23 (Q : WK) (x0 x1 : Value) (σ : AHeap) : Prop :=
  pu (aConv P 23 9 x0 σ) fun v6_3 =>
  pu (aConv P 23 9 x1 σ) fun v8_5 =>
  pu (aBin (some .string) .eql v6_3 v8_5) fun v9_6 =>
  Q v9_6 σ

theorem s23_eq (Q : WK) (x0 x1 : Value) (σ : AHeap) : wfun P E F 23 [x0, x1] σ Q = s23 Q x0 x1 σ := by kernel_rfl

theorem s23_ev {Q : WK} {x0 x1 : Value} {σ : AHeap} (h : s23 Q x0 x1 σ) : E 23 [x0, x1] σ Q := E_of (by kernel_rfl) (Eq.mpr (s23_eq Q x0 x1 σ) h)

/-- (*cistern/disk.Disk).Off -/
def s24 (Q : WK) (x0 : Value) (σ : AHeap) : Prop :=
  pu (aBin (some (.pointer 88)) .eql x0 (.pointer none)) fun v4_3 =>
  wG v4_3 (
  Q (.bool true) σ) (
  pu (aNil x0) fun v7_5 =>
  pu (aFieldAddr 3 v7_5) fun v8_6 =>
  pu (aLoad false 1 v8_6 σ) fun v9_7 =>
  Q v9_7 σ) (
  wB v4_3 fun b_9 =>
  Q (cond b_9 (.bool true) skipV) σ)

theorem s24_eq (Q : WK) (x0 : Value) (σ : AHeap) : wfun P E F 24 [x0] σ Q = s24 Q x0 σ := by kernel_rfl

theorem s24_ev {Q : WK} {x0 : Value} {σ : AHeap} (h : s24 Q x0 σ) : E 24 [x0] σ Q := E_of (by kernel_rfl) (Eq.mpr (s24_eq Q x0 σ) h)

/-- (*cistern/disk.Disk).Fuse -/
def s25 (Q : WK) (x0 x1 : Value) (σ : AHeap) : Prop :=
  pu (aBin (some (.pointer 88)) .neq x0 (.pointer none)) fun v5_1 =>
  wC v5_1 (
  pu (aMax2 x1 (.int .i64 0)) fun v8_6 =>
  pu (aNil x0) fun v9_7 =>
  pu (aFieldAddr 2 v9_7) fun v10_8 =>
  pu (aStore 1 v10_8 v8_6 σ) fun τ_9 =>
  Q (.tuple #[]) τ_9) (
  Q (.tuple #[]) σ)

theorem s25_eq (Q : WK) (x0 x1 : Value) (σ : AHeap) : wfun P E F 25 [x0, x1] σ Q = s25 Q x0 x1 σ := by kernel_rfl

theorem s25_ev {Q : WK} {x0 x1 : Value} {σ : AHeap} (h : s25 Q x0 x1 σ) : E 25 [x0, x1] σ Q := E_of (by kernel_rfl) (Eq.mpr (s25_eq Q x0 x1 σ) h)

/-- cistern/cisternlaw03.Full -/
def s26 (Q : WK) (x0 : Value) (σ : AHeap) : Prop :=
  pu (buildS 5 1 1 [(.int .u8 0)] [(0, x0)] σ) fun r4_3 =>
  E 63 [r4_3.1, (.int .i64 256)] r4_3.2 fun v5_4 τ_5 =>
  Q v5_4 τ_5

theorem s26_eq (Q : WK) (x0 : Value) (σ : AHeap) : wfun P E F 26 [x0] σ Q = s26 Q x0 σ := by kernel_rfl

theorem s26_ev {Q : WK} {x0 : Value} {σ : AHeap} (h : s26 Q x0 σ) : E 26 [x0] σ Q := E_of (by kernel_rfl) (Eq.mpr (s26_eq Q x0 σ) h)

def s27b1 (N1 : Value → Value → Value → AHeap → Prop) (Q : WK) (x0_14 x4_15 x5_16 : Value) (τ_17 : AHeap) : Prop :=
  pu (aBin (some (.int .i64)) .mul (.int .i64 4) x0_14) fun v17_18 =>
  pu (aBin (some (.int .i64)) .lss x5_16 v17_18) fun v18_19 =>
  wC v18_19 (
  pu (aNil x4_15) fun v23_24 =>
  pu (aFieldAddr 0 v23_24) fun v24_25 =>
  pu (aLoad false 1 v24_25 τ_17) fun v25_26 =>
  pu (aMake 5 1 [(.int .u8 0)] (.int .i64 64) (.int .i64 64) τ_17) fun r26_27 =>
  pu (aLoad false 1 v24_25 r26_27.2) fun v25_28 =>
  veq1 v25_28 v25_26 = true ∧
  pu (buildS 23 1 1 [(.slice none 0 0)] [(0, r26_27.1)] r26_27.2) fun r27_29 =>
  pu (aLoad false 1 v24_25 r27_29.2) fun v25_30 =>
  veq1 v25_30 v25_26 = true ∧
  pu (aAppend 23 1 24 v25_26 r27_29.1 r27_29.2) fun r28_31 =>
  pu (aNil x4_15) fun v29_32 =>
  pu (aFieldAddr 0 v29_32) fun v30_33 =>
  pu (aStore 1 v30_33 r28_31.1 r28_31.2) fun τ_34 =>
  pu (aBin (some (.int .i64)) .add x5_16 (.int .i64 1)) fun v20_37 =>
  N1 x0_14 x4_15 v20_37 τ_34) (
  Q (.tuple #[x4_15, (.int .i64 0)]) τ_17)

def s27k2 (Q : WK) (p11_6 p0_54 : Value) (τ_5 : AHeap) : Prop :=
  wC p11_6 (
  Q (.tuple #[(.pointer none), (.int .i64 1)]) τ_5) (
  pu (buildR [(0, 1), (1, 1), (2, 1), (3, 1), (4, 1)] [(.slice none 0 0), (.slice none 0 0), (.int .i64 0), (.bool false), (.int .i64 0)] [(4, p0_54)]) fun v13_9 =>
  cond (live v13_9) (wNew τ_5 (.cells (Value.cells v13_9).toList 114 false) fun b_10 τ_11 =>
  ∃ I_47 : Nat → Value → Value → Value → AHeap → Prop, (∃ m, I_47 m p0_54 (.pointer (some ⟨b_10, 0, none⟩)) (.int .i64 0) τ_11) ∧
  ∀ m (x0_14' x4_15' x5_16' : Value) (σ' : AHeap), I_47 m x0_14' x4_15' x5_16' σ' → (s27b1 (fun x0_14' x4_15' x5_16' σ' => ∃ m', m' < m ∧ I_47 m' x0_14' x4_15' x5_16' σ') Q x0_14' x4_15' x5_16' σ')) False)

/-- cistern/cisternref03.New -/
def s27 (Q : WK) (x0 : Value) (σ : AHeap) : Prop :=
  pu (aBin (some (.int .i64)) .lss x0 (.int .i64 1)) fun v7_3 =>
  wG v7_3 (
  (s27k2 Q (.bool true) x0 σ)) (
  pu (aBin (some (.int .i64)) .gtr x0 (.int .i64 1024)) fun v10_55 =>
  (s27k2 Q v10_55 x0 σ)) (
  wB v7_3 fun b_57 =>
  (s27k2 Q (cond b_57 (.bool true) skipV) x0 σ))

theorem s27_eq (Q : WK) (x0 : Value) (σ : AHeap) : wfun P E F 27 [x0] σ Q = s27 Q x0 σ := by kernel_rfl

theorem s27_ev {Q : WK} {x0 : Value} {σ : AHeap} (h : s27 Q x0 σ) : E 27 [x0] σ Q := E_of (by kernel_rfl) (Eq.mpr (s27_eq Q x0 σ) h)

/-- (*cistern/disk.Disk).Blocks -/
def s28 (Q : WK) (x0 : Value) (σ : AHeap) : Prop :=
  pu (aBin (some (.pointer 88)) .eql x0 (.pointer none)) fun v4_3 =>
  wC v4_3 (
  Q (.int .i64 0) σ) (
  pu (aNil x0) fun v6_8 =>
  pu (aFieldAddr 0 v6_8) fun v7_9 =>
  pu (aLoad false 1 v7_9 σ) fun v8_10 =>
  pu (lenS v8_10) fun v9_11 =>
  pu (aBin (some (.int .i64)) .quo v9_11 (.int .i64 256)) fun v10_12 =>
  Q v10_12 σ)

theorem s28_eq (Q : WK) (x0 : Value) (σ : AHeap) : wfun P E F 28 [x0] σ Q = s28 Q x0 σ := by kernel_rfl

theorem s28_ev {Q : WK} {x0 : Value} {σ : AHeap} (h : s28 Q x0 σ) : E 28 [x0] σ Q := E_of (by kernel_rfl) (Eq.mpr (s28_eq Q x0 σ) h)

def s29b1 (N1 : Value → Value → Value → Value → AHeap → Prop) (Q : WK) (x0_26 x1_27 x2_28 x8_29 : Value) (τ_30 : AHeap) : Prop :=
  pu (aBin (some (.int .i64)) .lss x8_29 (.int .i64 4)) fun v21_31 =>
  wC v21_31 (
  pu (aNil x0_26) fun v26_36 =>
  pu (aFieldAddr 1 v26_36) fun v27_37 =>
  pu (aLoad false 1 v27_37 τ_30) fun v28_38 =>
  pu (aBin (some (.int .i64)) .mul (.int .i64 4) x1_27) fun v30_40 =>
  pu (aBin (some (.int .i64)) .add v30_40 x8_29) fun v32_42 =>
  pu (aBin (some (.int .i64)) .mul (.int .i64 64) x8_29) fun v35_44 =>
  pu (aBin (some (.int .i64)) .mul (.int .i64 64) x8_29) fun v37_45 =>
  pu (aBin (some (.int .i64)) .add v37_45 (.int .i64 64)) fun v38_46 =>
  pu (aSlice 1 x2_28 (some v35_44) (some v38_46) none) fun v39_47 =>
  E 71 [v39_47] τ_30 fun v40_48 τ_49 =>
  pu (aLoad false 1 v27_37 τ_49) fun v28_50 =>
  veq1 v28_50 v28_38 = true ∧
  pu (buildR [(0, 1), (1, 1)] [(.int .i64 0), (.slice none 0 0)] [(0, v32_42), (1, v40_48)]) fun v41_51 =>
  pu (buildS 117 2 1 [(.int .i64 0), (.slice none 0 0)] [(0, v41_51)] τ_49) fun r42_52 =>
  pu (aLoad false 1 v27_37 r42_52.2) fun v28_53 =>
  veq1 v28_53 v28_38 = true ∧
  pu (aAppend 117 2 32 v28_38 r42_52.1 r42_52.2) fun r43_54 =>
  pu (aNil x0_26) fun v44_55 =>
  pu (aFieldAddr 1 v44_55) fun v45_56 =>
  pu (aStore 1 v45_56 r43_54.1 r43_54.2) fun τ_57 =>
  pu (aBin (some (.int .i64)) .add x8_29 (.int .i64 1)) fun v23_60 =>
  N1 x0_26 x1_27 x2_28 v23_60 τ_57) (
  Q (.int .i64 0) τ_30)

/-- (*cistern/cisternref03.Disk).Write -/
def s29 (Q : WK) (x0 x1 x2 : Value) (σ : AHeap) : Prop :=
  E 69 [x0, x1] σ fun v11_4 τ_5 =>
  pu (aBin (some (.int .i64)) .neq v11_4 (.int .i64 0)) fun v13_8 =>
  wC v13_8 (
  Q v11_4 τ_5) (
  pu (lenS x2) fun v16_14 =>
  pu (aBin (some (.int .i64)) .neq v16_14 (.int .i64 256)) fun v17_15 =>
  wC v17_15 (
  Q (.int .i64 1) τ_5) (
  E 70 [x0] τ_5 fun v19_20 τ_21 =>
  wC v19_20 (
  Q (.int .i64 9) τ_21) (
  ∃ I_69 : Nat → Value → Value → Value → Value → AHeap → Prop, (∃ m, I_69 m x0 x1 x2 (.int .i64 0) τ_21) ∧
  ∀ m (x0_26' x1_27' x2_28' x8_29' : Value) (σ' : AHeap), I_69 m x0_26' x1_27' x2_28' x8_29' σ' → (s29b1 (fun x0_26' x1_27' x2_28' x8_29' σ' => ∃ m', m' < m ∧ I_69 m' x0_26' x1_27' x2_28' x8_29' σ') Q x0_26' x1_27' x2_28' x8_29' σ'))))

theorem s29_eq (Q : WK) (x0 x1 x2 : Value) (σ : AHeap) : wfun P E F 29 [x0, x1, x2] σ Q = s29 Q x0 x1 x2 σ := by kernel_rfl

theorem s29_ev {Q : WK} {x0 x1 x2 : Value} {σ : AHeap} (h : s29 Q x0 x1 x2 σ) : E 29 [x0, x1, x2] σ Q := E_of (by kernel_rfl) (Eq.mpr (s29_eq Q x0 x1 x2 σ) h)

def s30k14 (N2 : Value → Value → Value → Value → Value → Value → AHeap → Prop) (Q : WK) (p10_73 p0_75 p1_76 p7_77 p8_78 p9_79 : Value) (τ_72 : AHeap) : Prop :=
  pu (aBin (some (.int .i64)) .add p10_73 (.int .i64 1)) fun v41_74 =>
  N2 p0_75 p1_76 p7_77 p8_78 p9_79 v41_74 τ_72

def s30b2 (N1 : Value → Value → Value → Value → AHeap → Prop) (N2 : Value → Value → Value → Value → Value → Value → AHeap → Prop) (Q : WK) (x0_37 x1_38 x7_39 x8_40 x9_41 x10_42 : Value) (τ_43 : AHeap) : Prop :=
  pu (aNil x0_37) fun v35_44 =>
  pu (aFieldAddr 1 v35_44) fun v36_45 =>
  pu (aLoad false 1 v36_45 τ_43) fun v37_46 =>
  pu (lenS v37_46) fun v38_47 =>
  pu (aBin (some (.int .i64)) .lss x10_42 v38_47) fun v39_48 =>
  wC v39_48 (
  pu (aNil x0_37) fun v43_53 =>
  pu (aFieldAddr 1 v43_53) fun v44_54 =>
  pu (aLoad false 1 v44_54 τ_43) fun v45_55 =>
  pu (aIndexAddr 2 v45_55 x10_42) fun v47_57 =>
  pu (aFieldAddr 0 v47_57) fun v48_58 =>
  pu (aLoad false 1 v48_58 τ_43) fun v49_59 =>
  pu (aBin (some (.int .i64)) .eql v49_59 x8_40) fun v51_61 =>
  wC v51_61 (
  pu (aNil x0_37) fun v53_65 =>
  pu (aFieldAddr 1 v53_65) fun v54_66 =>
  pu (aLoad false 1 v54_66 τ_43) fun v55_67 =>
  pu (aIndexAddr 2 v55_67 x10_42) fun v57_69 =>
  pu (aFieldAddr 1 v57_69) fun v58_70 =>
  pu (aLoad false 1 v58_70 τ_43) fun v59_71 =>
  (s30k14 N2 Q x10_42 x0_37 x1_38 x7_39 x8_40 v59_71 τ_43)) (
  (s30k14 N2 Q x10_42 x0_37 x1_38 x7_39 x8_40 x9_41 τ_43))) (
  pu (aAppend 5 1 1 x7_39 x9_41 τ_43) fun r62_96 =>
  pu (aBin (some (.int .i64)) .add x8_40 (.int .i64 1)) fun v25_99 =>
  N1 x0_37 x1_38 r62_96.1 v25_99 r62_96.2)

def s30b1 (N1 : Value → Value → Value → Value → AHeap → Prop) (Q : WK) (x0_17 x1_18 x7_19 x8_20 : Value) (τ_21 : AHeap) : Prop :=
  pu (aBin (some (.int .i64)) .mul (.int .i64 4) x1_18) fun v21_22 =>
  pu (aBin (some (.int .i64)) .add v21_22 (.int .i64 4)) fun v22_23 =>
  pu (aBin (some (.int .i64)) .lss x8_20 v22_23) fun v23_24 =>
  wC v23_24 (
  pu (aNil x0_17) fun v27_29 =>
  pu (aFieldAddr 0 v27_29) fun v28_30 =>
  pu (aLoad false 1 v28_30 τ_21) fun v29_31 =>
  pu (aIndexAddr 1 v29_31 x8_20) fun v31_33 =>
  pu (aLoad false 1 v31_33 τ_21) fun v32_34 =>
  ∃ I_106 : Nat → Value → Value → Value → Value → Value → Value → AHeap → Prop, (∃ m, I_106 m x0_17 x1_18 x7_19 x8_20 v32_34 (.int .i64 0) τ_21) ∧
  ∀ m (x0_37' x1_38' x7_39' x8_40' x9_41' x10_42' : Value) (σ' : AHeap), I_106 m x0_37' x1_38' x7_39' x8_40' x9_41' x10_42' σ' → (s30b2 N1 (fun x0_37' x1_38' x7_39' x8_40' x9_41' x10_42' σ' => ∃ m', m' < m ∧ I_106 m' x0_37' x1_38' x7_39' x8_40' x9_41' x10_42' σ') Q x0_37' x1_38' x7_39' x8_40' x9_41' x10_42' σ')) (
  Q (.tuple #[x7_19, (.int .i64 0)]) τ_21)

/-- (*cistern/cisternref03.Disk).Read -/
def s30 (Q : WK) (x0 x1 : Value) (σ : AHeap) : Prop :=
  E 69 [x0, x1] σ fun v13_4 τ_5 =>
  pu (aBin (some (.int .i64)) .neq v13_4 (.int .i64 0)) fun v15_8 =>
  wC v15_8 (
  Q (.tuple #[(.slice none 0 0), v13_4]) τ_5) (
  pu (aBin (some (.int .i64)) .mul (.int .i64 4) x1) fun v18_15 =>
  ∃ I_127 : Nat → Value → Value → Value → Value → AHeap → Prop, (∃ m, I_127 m x0 x1 (.slice none 0 0) v18_15 τ_5) ∧
  ∀ m (x0_17' x1_18' x7_19' x8_20' : Value) (σ' : AHeap), I_127 m x0_17' x1_18' x7_19' x8_20' σ' → (s30b1 (fun x0_17' x1_18' x7_19' x8_20' σ' => ∃ m', m' < m ∧ I_127 m' x0_17' x1_18' x7_19' x8_20' σ') Q x0_17' x1_18' x7_19' x8_20' σ'))

theorem s30_eq (Q : WK) (x0 x1 : Value) (σ : AHeap) : wfun P E F 30 [x0, x1] σ Q = s30 Q x0 x1 σ := by kernel_rfl

theorem s30_ev {Q : WK} {x0 x1 : Value} {σ : AHeap} (h : s30 Q x0 x1 σ) : E 30 [x0, x1] σ Q := E_of (by kernel_rfl) (Eq.mpr (s30_eq Q x0 x1 σ) h)

def s31b1 (N1 : Value → Value → AHeap → Prop) (Q : WK) (x0_16 x3_17 : Value) (τ_18 : AHeap) : Prop :=
  pu (aNil x0_16) fun v12_19 =>
  pu (aFieldAddr 1 v12_19) fun v13_20 =>
  pu (aLoad false 1 v13_20 τ_18) fun v14_21 =>
  pu (lenS v14_21) fun v15_22 =>
  pu (aBin (some (.int .i64)) .lss x3_17 v15_22) fun v16_23 =>
  wC v16_23 (
  pu (aNil x0_16) fun v21_28 =>
  pu (aFieldAddr 1 v21_28) fun v22_29 =>
  pu (aLoad false 1 v22_29 τ_18) fun v23_30 =>
  pu (aIndexAddr 2 v23_30 x3_17) fun v25_32 =>
  pu (aLoad true 2 v25_32 τ_18) fun v26_33 =>
  E 72 [x0_16, v26_33, (.int .i64 64)] τ_18 fun v27_34 τ_35 =>
  pu (aBin (some (.int .i64)) .add x3_17 (.int .i64 1)) fun v18_38 =>
  N1 x0_16 v18_38 τ_35) (
  pu (aNil x0_16) fun v29_44 =>
  pu (aFieldAddr 1 v29_44) fun v30_45 =>
  pu (aStore 1 v30_45 (.slice none 0 0) τ_18) fun τ_46 =>
  Q (.int .i64 0) τ_46)

/-- (*cistern/cisternref03.Disk).Barrier -/
def s31 (Q : WK) (x0 : Value) (σ : AHeap) : Prop :=
  pu (aNil x0) fun v5_3 =>
  pu (aFieldAddr 3 v5_3) fun v6_4 =>
  pu (aLoad false 1 v6_4 σ) fun v7_5 =>
  wC v7_5 (
  Q (.int .i64 9) σ) (
  E 70 [x0] σ fun v9_10 τ_11 =>
  wC v9_10 (
  Q (.int .i64 9) τ_11) (
  ∃ I_48 : Nat → Value → Value → AHeap → Prop, (∃ m, I_48 m x0 (.int .i64 0) τ_11) ∧
  ∀ m (x0_16' x3_17' : Value) (σ' : AHeap), I_48 m x0_16' x3_17' σ' → (s31b1 (fun x0_16' x3_17' σ' => ∃ m', m' < m ∧ I_48 m' x0_16' x3_17' σ') Q x0_16' x3_17' σ')))

theorem s31_eq (Q : WK) (x0 : Value) (σ : AHeap) : wfun P E F 31 [x0] σ Q = s31 Q x0 σ := by kernel_rfl

theorem s31_ev {Q : WK} {x0 : Value} {σ : AHeap} (h : s31 Q x0 σ) : E 31 [x0] σ Q := E_of (by kernel_rfl) (Eq.mpr (s31_eq Q x0 σ) h)

/-- (*cistern/cisternref03.Disk).Fuse -/
def s32 (Q : WK) (x0 x1 : Value) (σ : AHeap) : Prop :=
  pu (aNil x0) fun v6_1 =>
  pu (aFieldAddr 2 v6_1) fun v7_2 =>
  pu (aStore 1 v7_2 x1 σ) fun τ_3 =>
  pu (aBin (some (.int .i64)) .lss x1 (.int .i64 1)) fun v9_6 =>
  wC v9_6 (
  pu (aNil x0) fun v11_10 =>
  pu (aFieldAddr 2 v11_10) fun v12_11 =>
  pu (aStore 1 v12_11 (.int .i64 0) τ_3) fun τ_12 =>
  Q (.tuple #[]) τ_12) (
  Q (.tuple #[]) τ_3)

theorem s32_eq (Q : WK) (x0 x1 : Value) (σ : AHeap) : wfun P E F 32 [x0, x1] σ Q = s32 Q x0 x1 σ := by kernel_rfl

theorem s32_ev {Q : WK} {x0 x1 : Value} {σ : AHeap} (h : s32 Q x0 x1 σ) : E 32 [x0, x1] σ Q := E_of (by kernel_rfl) (Eq.mpr (s32_eq Q x0 x1 σ) h)

def s33k8 (N1 : Value → Value → Value → AHeap → Prop) (Q : WK) (p4_54 p0_56 p1_57 : Value) (τ_53 : AHeap) : Prop :=
  pu (aBin (some (.int .i64)) .add p4_54 (.int .i64 1)) fun v20_55 =>
  N1 p0_56 p1_57 v20_55 τ_53

def s33k6 (N1 : Value → Value → Value → AHeap → Prop) (Q : WK) (p5_37 p0_59 p4_60 p1_61 : Value) (τ_36 : AHeap) : Prop :=
  pu (aBin (some (.int .i64)) .gtr p5_37 (.int .i64 1)) fun v38_38 =>
  wC v38_38 (
  pu (aNil p0_59) fun v41_42 =>
  pu (aFieldAddr 1 v41_42) fun v42_43 =>
  pu (aLoad false 1 v42_43 τ_36) fun v43_44 =>
  pu (aIndexAddr 2 v43_44 p4_60) fun v45_46 =>
  pu (aLoad true 2 v45_46 τ_36) fun v46_47 =>
  pu (aBin (some (.int .i64)) .sub p5_37 (.int .i64 2)) fun v48_49 =>
  pu (aBin (some (.int .i64)) .rem v48_49 (.int .i64 65)) fun v49_50 =>
  E 72 [p0_59, v46_47, v49_50] τ_36 fun v50_51 τ_52 =>
  (s33k8 N1 Q p4_60 p0_59 p1_61 τ_52)) (
  (s33k8 N1 Q p4_60 p0_59 p1_61 τ_36))

def s33k2 (N1 : Value → Value → Value → AHeap → Prop) (Q : WK) (p18_15 p1_68 p4_69 p0_70 : Value) (τ_14 : AHeap) : Prop :=
  wC p18_15 (
  pu (aIndexAddr 1 p1_68 p4_69) fun v23_19 =>
  pu (aLoad false 1 v23_19 τ_14) fun v24_20 =>
  pu (convI .i64 v24_20) fun v25_21 =>
  pu (aBin (some (.int .i64)) .eql v25_21 (.int .i64 1)) fun v27_24 =>
  wC v27_24 (
  pu (aNil p0_70) fun v30_28 =>
  pu (aFieldAddr 1 v30_28) fun v31_29 =>
  pu (aLoad false 1 v31_29 τ_14) fun v32_30 =>
  pu (aIndexAddr 2 v32_30 p4_69) fun v34_32 =>
  pu (aLoad true 2 v34_32 τ_14) fun v35_33 =>
  E 72 [p0_70, v35_33, (.int .i64 64)] τ_14 fun v36_34 τ_35 =>
  (s33k6 N1 Q v25_21 p0_70 p4_69 p1_68 τ_35)) (
  (s33k6 N1 Q v25_21 p0_70 p4_69 p1_68 τ_14))) (
  pu (aNil p0_70) fun v52_73 =>
  pu (aFieldAddr 1 v52_73) fun v53_74 =>
  pu (aStore 1 v53_74 (.slice none 0 0) τ_14) fun τ_75 =>
  pu (aNil p0_70) fun v55_78 =>
  pu (aFieldAddr 2 v55_78) fun v56_79 =>
  pu (aStore 1 v56_79 (.int .i64 0) τ_75) fun τ_80 =>
  pu (aNil p0_70) fun v58_83 =>
  pu (aFieldAddr 3 v58_83) fun v59_84 =>
  pu (aStore 1 v59_84 (.bool false) τ_80) fun τ_85 =>
  Q (.tuple #[]) τ_85)

def s33b1 (N1 : Value → Value → Value → AHeap → Prop) (Q : WK) (x0_2 x1_3 x4_4 : Value) (τ_5 : AHeap) : Prop :=
  pu (aNil x0_2) fun v8_6 =>
  pu (aFieldAddr 1 v8_6) fun v9_7 =>
  pu (aLoad false 1 v9_7 τ_5) fun v10_8 =>
  pu (lenS v10_8) fun v11_9 =>
  pu (aBin (some (.int .i64)) .lss x4_4 v11_9) fun v12_10 =>
  wG v12_10 (
  pu (lenS x1_3) fun v16_11 =>
  pu (aBin (some (.int .i64)) .lss x4_4 v16_11) fun v17_12 =>
  (s33k2 N1 Q v17_12 x1_3 x4_4 x0_2 τ_5)) (
  (s33k2 N1 Q (.bool false) x1_3 x4_4 x0_2 τ_5)) (
  wB v12_10 fun b_87 =>
  (s33k2 N1 Q (cond b_87 skipV (.bool false)) x1_3 x4_4 x0_2 τ_5))

/-- (*cistern/cisternref03.Disk).Crash -/
def s33 (Q : WK) (x0 x1 : Value) (σ : AHeap) : Prop :=
  ∃ I_88 : Nat → Value → Value → Value → AHeap → Prop, (∃ m, I_88 m x0 x1 (.int .i64 0) σ) ∧
  ∀ m (x0_2' x1_3' x4_4' : Value) (σ' : AHeap), I_88 m x0_2' x1_3' x4_4' σ' → (s33b1 (fun x0_2' x1_3' x4_4' σ' => ∃ m', m' < m ∧ I_88 m' x0_2' x1_3' x4_4' σ') Q x0_2' x1_3' x4_4' σ')

theorem s33_eq (Q : WK) (x0 x1 : Value) (σ : AHeap) : wfun P E F 33 [x0, x1] σ Q = s33 Q x0 x1 σ := by kernel_rfl

theorem s33_ev {Q : WK} {x0 x1 : Value} {σ : AHeap} (h : s33 Q x0 x1 σ) : E 33 [x0, x1] σ Q := E_of (by kernel_rfl) (Eq.mpr (s33_eq Q x0 x1 σ) h)

/-- (*cistern/disk.Disk).Copy -/
def s34 (Q : WK) (x0 : Value) (σ : AHeap) : Prop :=
  pu (aBin (some (.pointer 88)) .eql x0 (.pointer none)) fun v5_3 =>
  wC v5_3 (
  Q (.pointer none) σ) (
  pu (aNil x0) fun v7_8 =>
  pu (aLoad true 4 v7_8 σ) fun v8_9 =>
  wNew σ (.cells [(.slice none 0 0), (.slice none 0 0), (.int .i64 0), (.bool false)] 88 false) fun b_10 τ_11 =>
  pu (aStore 4 (.pointer (some ⟨b_10, 0, none⟩)) v8_9 τ_11) fun τ_12 =>
  pu (aNil x0) fun v10_15 =>
  pu (aFieldAddr 0 v10_15) fun v11_16 =>
  pu (aLoad false 1 v11_16 τ_12) fun v12_17 =>
  pu (aNil x0) fun v15_18 =>
  pu (aFieldAddr 1 v15_18) fun v16_19 =>
  pu (aLoad false 1 v16_19 τ_12) fun v17_20 =>
  E 67 [v12_17] τ_12 fun v13_21 τ_22 =>
  pu (aLoad false 1 v16_19 τ_22) fun v17_23 =>
  veq1 v17_23 v17_20 = true ∧
  E 73 [v17_20] τ_22 fun v18_24 τ_25 =>
  pu (aFieldAddr 0 (.pointer (some ⟨b_10, 0, none⟩))) fun v19_27 =>
  pu (aStore 1 v19_27 v13_21 τ_25) fun τ_28 =>
  pu (aFieldAddr 1 (.pointer (some ⟨b_10, 0, none⟩))) fun v20_29 =>
  pu (aStore 1 v20_29 v18_24 τ_28) fun τ_30 =>
  Q (.pointer (some ⟨b_10, 0, none⟩)) τ_30)

theorem s34_eq (Q : WK) (x0 : Value) (σ : AHeap) : wfun P E F 34 [x0] σ Q = s34 Q x0 σ := by kernel_rfl

theorem s34_ev {Q : WK} {x0 : Value} {σ : AHeap} (h : s34 Q x0 σ) : E 34 [x0] σ Q := E_of (by kernel_rfl) (Eq.mpr (s34_eq Q x0 σ) h)

def s35k13 (N1 : Value → Value → Value → Value → AHeap → Prop) (Q : WK) (p73_66 p5_67 p6_68 p49_69 p50_70 p4_78 : Value) (τ_65 : AHeap) : Prop :=
  wC p73_66 (
  Q (.bool false) τ_65) (
  pu (aBin (some (.int .i64)) .add p50_70 (.int .i64 1)) fun v74_73 =>
  N1 p5_67 p6_68 p49_69 v74_73 τ_65)

def s35b1 (N1 : Value → Value → Value → Value → AHeap → Prop) (Q : WK) (x5_36 x6_37 x49_38 x50_39 : Value) (τ_40 : AHeap) : Prop :=
  pu (aBin (some (.int .i64)) .lss x50_39 x49_38) fun v51_41 =>
  wC v51_41 (
  E 20 [x5_36, x50_39] τ_40 fun v56_49 τ_50 =>
  pu (aExtract v56_49 0) fun v57_51 =>
  pu (aExtract v56_49 1) fun v58_52 =>
  E 30 [x6_37, x50_39] τ_50 fun v62_56 τ_57 =>
  pu (aExtract v62_56 0) fun v63_58 =>
  pu (aExtract v62_56 1) fun v64_59 =>
  pu (aBin (some (.int .i64)) .neq v58_52 v64_59) fun v67_63 =>
  wG v67_63 (
  (s35k13 N1 Q (.bool true) x5_36 x6_37 x49_38 x50_39 undef τ_57)) (
  E 23 [v57_51, v63_58] τ_57 fun v71_86 τ_87 =>
  pu (aUn .not v71_86) fun v72_88 =>
  (s35k13 N1 Q v72_88 x5_36 x6_37 x49_38 x50_39 undef τ_87)) (
  wB v67_63 fun b_90 =>
  (s35k13 N1 Q (cond b_90 (.bool true) skipV) x5_36 x6_37 x49_38 x50_39 undef τ_57))) (
  Q (.bool true) τ_40)

def s35k2 (Q : WK) (p37_14 p0_123 p1_124 : Value) (τ_13 : AHeap) : Prop :=
  wC p37_14 (
  Q (.bool false) τ_13) (
  E 34 [p0_123] τ_13 fun v39_17 τ_18 =>
  E 74 [p1_124] τ_18 fun v41_20 τ_21 =>
  E 22 [v39_17, (.slice none 0 0)] τ_21 fun v43_24 τ_25 =>
  E 33 [v41_20, (.slice none 0 0)] τ_25 fun v45_28 τ_29 =>
  pu (aNil p1_124) fun v47_32 =>
  pu (aFieldAddr 4 v47_32) fun v48_33 =>
  pu (aLoad false 1 v48_33 τ_29) fun v49_34 =>
  ∃ I_111 : Nat → Value → Value → Value → Value → AHeap → Prop, (∃ m, I_111 m v39_17 v41_20 v49_34 (.int .i64 0) τ_29) ∧
  ∀ m (x5_36' x6_37' x49_38' x50_39' : Value) (σ' : AHeap), I_111 m x5_36' x6_37' x49_38' x50_39' σ' → (s35b1 (fun x5_36' x6_37' x49_38' x50_39' σ' => ∃ m', m' < m ∧ I_111 m' x5_36' x6_37' x49_38' x50_39' σ') Q x5_36' x6_37' x49_38' x50_39' σ'))

/-- cistern/cisternlaw03.alike -/
def s35 (Q : WK) (x0 x1 : Value) (σ : AHeap) : Prop :=
  pu (aNil x1) fun v15_4 =>
  pu (aFieldAddr 3 v15_4) fun v16_5 =>
  pu (aLoad false 1 v16_5 σ) fun v17_6 =>
  E 24 [x0] σ fun v13_7 τ_8 =>
  pu (aLoad false 1 v16_5 τ_8) fun v17_9 =>
  veq1 v17_9 v17_6 = true ∧
  pu (aBin (some .bool) .neq v13_7 v17_6) fun v18_10 =>
  wG v18_10 (
  (s35k2 Q (.bool true) x0 x1 τ_8)) (
  pu (aNil x1) fun v23_125 =>
  pu (aFieldAddr 1 v23_125) fun v24_126 =>
  pu (aLoad false 1 v24_126 τ_8) fun v25_127 =>
  pu (lenS v25_127) fun v26_128 =>
  E 19 [x0] τ_8 fun v21_129 τ_130 =>
  pu (aLoad false 1 v24_126 τ_130) fun v25_131 =>
  veq1 v25_131 v25_127 = true ∧
  pu (lenS v25_127) fun v26_132 =>
  veq1 v26_132 v26_128 = true ∧
  pu (aBin (some (.int .i64)) .neq v21_129 v26_128) fun v27_133 =>
  wG v27_133 (
  (s35k2 Q (.bool true) x0 x1 τ_130)) (
  pu (aNil x1) fun v33_136 =>
  pu (aFieldAddr 4 v33_136) fun v34_137 =>
  pu (aLoad false 1 v34_137 τ_130) fun v35_138 =>
  E 28 [x0] τ_130 fun v31_139 τ_140 =>
  pu (aLoad false 1 v34_137 τ_140) fun v35_141 =>
  veq1 v35_141 v35_138 = true ∧
  pu (aBin (some (.int .i64)) .neq v31_139 v35_138) fun v36_142 =>
  (s35k2 Q v36_142 x0 x1 τ_140)) (
  wB v27_133 fun b_144 =>
  (s35k2 Q (cond b_144 (.bool true) skipV) x0 x1 τ_130))) (
  wB v18_10 fun b_145 =>
  wG (cond b_145 (.bool true) skipV) (
  (s35k2 Q (.bool true) x0 x1 τ_8)) (
  pu (aNil x1) fun v33_147 =>
  pu (aFieldAddr 4 v33_147) fun v34_148 =>
  pu (aLoad false 1 v34_148 τ_8) fun v35_149 =>
  E 28 [x0] τ_8 fun v31_150 τ_151 =>
  pu (aLoad false 1 v34_148 τ_151) fun v35_152 =>
  veq1 v35_152 v35_149 = true ∧
  pu (aBin (some (.int .i64)) .neq v31_150 v35_149) fun v36_153 =>
  (s35k2 Q v36_153 x0 x1 τ_151)) (
  wB (cond b_145 (.bool true) skipV) fun b_155 =>
  (s35k2 Q (cond b_155 (.bool true) skipV) x0 x1 τ_8)))

theorem s35_eq (Q : WK) (x0 x1 : Value) (σ : AHeap) : wfun P E F 35 [x0, x1] σ Q = s35 Q x0 x1 σ := by kernel_rfl

theorem s35_ev {Q : WK} {x0 x1 : Value} {σ : AHeap} (h : s35 Q x0 x1 σ) : E 35 [x0, x1] σ Q := E_of (by kernel_rfl) (Eq.mpr (s35_eq Q x0 x1 σ) h)

def s64k4 (Q : WK) (p21_17 : Value) (τ_16 : AHeap) : Prop :=
  wC p21_17 (
  Q (.int .i64 6) τ_16) (
  Q (.int .i64 0) τ_16)

def s64k2 (Q : WK) (p5_6 p0_7 p1_25 : Value) (τ_5 : AHeap) : Prop :=
  wC p5_6 (
  Q (.int .i64 2) τ_5) (
  pu (aNil p0_7) fun v18_8 =>
  pu (aFieldAddr 3 v18_8) fun v19_9 =>
  pu (aLoad false 1 v19_9 τ_5) fun v20_10 =>
  wC v20_10 (
  Q (.int .i64 9) τ_5) (
  pu (aBin (some (.int .i64)) .lss p1_25 (.int .i64 0)) fun v23_14 =>
  wG v23_14 (
  (s64k4 Q (.bool true) τ_5)) (
  E 28 [p0_7] τ_5 fun v27_20 τ_21 =>
  pu (aBin (some (.int .i64)) .geq p1_25 v27_20) fun v28_22 =>
  (s64k4 Q v28_22 τ_21)) (
  wB v23_14 fun b_24 =>
  (s64k4 Q (cond b_24 (.bool true) skipV) τ_5))))

/-- (*cistern/disk.Disk).ready -/
def s64 (Q : WK) (x0 x1 : Value) (σ : AHeap) : Prop :=
  pu (aBin (some (.pointer 88)) .eql x0 (.pointer none)) fun v7_3 =>
  wG v7_3 (
  (s64k2 Q (.bool true) x0 x1 σ)) (
  pu (aNil x0) fun v10_27 =>
  pu (aFieldAddr 0 v10_27) fun v11_28 =>
  pu (aLoad false 1 v11_28 σ) fun v12_29 =>
  pu (lenS v12_29) fun v13_30 =>
  pu (aBin (some (.int .i64)) .eql v13_30 (.int .i64 0)) fun v14_31 =>
  (s64k2 Q v14_31 x0 x1 σ)) (
  wB v7_3 fun b_33 =>
  (s64k2 Q (cond b_33 (.bool true) skipV) x0 x1 σ))

theorem s64_eq (Q : WK) (x0 x1 : Value) (σ : AHeap) : wfun P E F 64 [x0, x1] σ Q = s64 Q x0 x1 σ := by kernel_rfl

theorem s64_ev {Q : WK} {x0 x1 : Value} {σ : AHeap} (h : s64 Q x0 x1 σ) : E 64 [x0, x1] σ Q := E_of (by kernel_rfl) (Eq.mpr (s64_eq Q x0 x1 σ) h)

def s65k6 (Q : WK) (p1_31 : Value) (τ_30 : AHeap) : Prop :=
  wF p1_31 fun g_34 a_35 c_36 => E g_34 (a_35 ++ [] ++ c_36) τ_30 fun v26_32 τ_33 =>
  Q (.int .i64 0) τ_33

/-- (*cistern/disk.Disk).burn -/
def s65 (Q : WK) (x0 x1 : Value) (σ : AHeap) : Prop :=
  pu (aNil x0) fun v6_3 =>
  pu (aFieldAddr 2 v6_3) fun v7_4 =>
  pu (aLoad false 1 v7_4 σ) fun v8_5 =>
  pu (aBin (some (.int .i64)) .gtr v8_5 (.int .i64 0)) fun v9_6 =>
  wC v9_6 (
  pu (aNil x0) fun v11_10 =>
  pu (aFieldAddr 2 v11_10) fun v12_11 =>
  pu (aLoad false 1 v12_11 σ) fun v13_12 =>
  pu (aBin (some (.int .i64)) .sub v13_12 (.int .i64 1)) fun v14_13 =>
  pu (aNil x0) fun v15_14 =>
  pu (aFieldAddr 2 v15_14) fun v16_15 =>
  pu (aStore 1 v16_15 v14_13 σ) fun τ_16 =>
  pu (aNil x0) fun v18_19 =>
  pu (aFieldAddr 2 v18_19) fun v19_20 =>
  pu (aLoad false 1 v19_20 τ_16) fun v20_21 =>
  pu (aBin (some (.int .i64)) .eql v20_21 (.int .i64 0)) fun v21_22 =>
  wC v21_22 (
  pu (aNil x0) fun v23_26 =>
  pu (aFieldAddr 3 v23_26) fun v24_27 =>
  pu (aStore 1 v24_27 (.bool true) τ_16) fun τ_28 =>
  Q (.int .i64 9) τ_28) (
  (s65k6 Q x1 τ_16))) (
  (s65k6 Q x1 σ))

theorem s65_eq (Q : WK) (x0 x1 : Value) (σ : AHeap) : wfun P E F 65 [x0, x1] σ Q = s65 Q x0 x1 σ := by kernel_rfl

theorem s65_ev {Q : WK} {x0 x1 : Value} {σ : AHeap} (h : s65 Q x0 x1 σ) : E 65 [x0, x1] σ Q := E_of (by kernel_rfl) (Eq.mpr (s65_eq Q x0 x1 σ) h)

def s66b1 (N1 : Value → Value → Value → Value → AHeap → Prop) (Q : WK) (x1_6 x2_7 x3_8 x4_9 : Value) (τ_10 : AHeap) : Prop :=
  pu (aBin (some (.int .i64)) .lss x4_9 (.int .i64 256)) fun v8_11 =>
  wC v8_11 (
  pu (aLoad false 1 x1_6 τ_10) fun v11_16 =>
  pu (aLoad false 1 x1_6 τ_10) fun v12_17 =>
  pu (aNil v12_17) fun v13_18 =>
  pu (aFieldAddr 1 v13_18) fun v14_19 =>
  pu (aLoad false 1 v14_19 τ_10) fun v15_20 =>
  pu (aLoad false 1 x2_7 τ_10) fun v16_22 =>
  pu (aBin (some (.int .i64)) .mul v16_22 (.int .i64 256)) fun v17_23 =>
  pu (aBin (some (.int .i64)) .add v17_23 x4_9) fun v19_25 =>
  pu (aBin (some (.int .i64)) .add x4_9 (.int .i64 64)) fun v23_27 =>
  pu (aBin (some (.int .i64)) .add x4_9 (.int .i64 64)) fun v25_28 =>
  pu (aSlice 1 x3_8 (some x4_9) (some v23_27) (some v25_28)) fun v26_29 =>
  pu (buildR [(0, 1), (1, 1)] [(.int .i64 0), (.slice none 0 0)] [(0, v19_25), (1, v26_29)]) fun v27_30 =>
  pu (buildS 110 2 1 [(.int .i64 0), (.slice none 0 0)] [(0, v27_30)] τ_10) fun r28_31 =>
  pu (aLoad false 1 x1_6 r28_31.2) fun v11_32 =>
  veq1 v11_32 v11_16 = true ∧
  pu (aLoad false 1 x1_6 r28_31.2) fun v12_33 =>
  veq1 v12_33 v12_17 = true ∧
  pu (aLoad false 1 v14_19 r28_31.2) fun v15_34 =>
  veq1 v15_34 v15_20 = true ∧
  pu (aAppend 110 2 32 v15_20 r28_31.1 r28_31.2) fun r29_35 =>
  pu (aLoad false 1 x1_6 r29_35.2) fun v11_36 =>
  veq1 v11_36 v11_16 = true ∧
  pu (aNil v11_16) fun v30_37 =>
  pu (aFieldAddr 1 v30_37) fun v31_38 =>
  pu (aStore 1 v31_38 r29_35.1 r29_35.2) fun τ_39 =>
  pu (aBin (some (.int .i64)) .add x4_9 (.int .i64 64)) fun v10_42 =>
  N1 x1_6 x2_7 x3_8 v10_42 τ_39) (
  Q (.tuple #[]) τ_10)

/-- (*cistern/disk.Disk).Write$1 -/
def s66 (Q : WK) (x0 x1 x2 : Value) (σ : AHeap) : Prop :=
  pu (aLoad false 1 x0 σ) fun v5_1 =>
  E 67 [v5_1] σ fun v6_2 τ_3 =>
  ∃ I_50 : Nat → Value → Value → Value → Value → AHeap → Prop, (∃ m, I_50 m x1 x2 v6_2 (.int .i64 0) τ_3) ∧
  ∀ m (x1_6' x2_7' x3_8' x4_9' : Value) (σ' : AHeap), I_50 m x1_6' x2_7' x3_8' x4_9' σ' → (s66b1 (fun x1_6' x2_7' x3_8' x4_9' σ' => ∃ m', m' < m ∧ I_50 m' x1_6' x2_7' x3_8' x4_9' σ') Q x1_6' x2_7' x3_8' x4_9' σ')

theorem s66_eq (Q : WK) (x0 x1 x2 : Value) (σ : AHeap) : wfun P E F 66 [x0, x1, x2] σ Q = s66 Q x0 x1 x2 σ := by kernel_rfl

theorem s66_ev {Q : WK} {x0 x1 x2 : Value} {σ : AHeap} (h : s66 Q x0 x1 x2 σ) : E 66 [x0, x1, x2] σ Q := E_of (by kernel_rfl) (Eq.mpr (s66_eq Q x0 x1 x2 σ) h)

/-- bytes.Clone -/
def s67 (Q : WK) (x0 : Value) (σ : AHeap) : Prop :=
  pu (aBin (some (.slice 5)) .eql x0 (.slice none 0 0)) fun v4_3 =>
  wC v4_3 (
  Q (.slice none 0 0) σ) (
  pu (aAppend 5 1 1 (.slice (some ⟨ZB, 0, some 0⟩) 0 0) x0 σ) fun r7_8 =>
  Q r7_8.1 r7_8.2)

theorem s67_eq (Q : WK) (x0 : Value) (σ : AHeap) : wfun P E F 67 [x0] σ Q = s67 Q x0 σ := by kernel_rfl

theorem s67_ev {Q : WK} {x0 : Value} {σ : AHeap} (h : s67 Q x0 σ) : E 67 [x0] σ Q := E_of (by kernel_rfl) (Eq.mpr (s67_eq Q x0 σ) h)

def s68b1 (N1 : Value → Value → Value → Value → AHeap → Prop) (Q : WK) (x0_6 x7_7 x8_8 x9_9 : Value) (τ_10 : AHeap) : Prop :=
  pu (aBin (some (.int .i64)) .lss x9_9 x8_8) fun v10_11 =>
  wC v10_11 (
  pu (aIndexAddr 2 x7_7 x9_9) fun v11_17 =>
  pu (aLoad true 2 v11_17 τ_10) fun v12_18 =>
  wNew τ_10 (.cells [(.int .i64 0), (.slice none 0 0)] 110 false) fun b_19 τ_20 =>
  pu (aStore 2 (.pointer (some ⟨b_19, 0, none⟩)) v12_18 τ_20) fun τ_21 =>
  pu (aNil x0_6) fun v14_24 =>
  pu (aFieldAddr 0 v14_24) fun v15_25 =>
  pu (aLoad false 1 v15_25 τ_21) fun v16_26 =>
  pu (aFieldAddr 0 (.pointer (some ⟨b_19, 0, none⟩))) fun v17_28 =>
  pu (aLoad false 1 v17_28 τ_21) fun v18_29 =>
  pu (aSlice 1 v16_26 (some v18_29) none none) fun v19_30 =>
  pu (aFieldAddr 1 (.pointer (some ⟨b_19, 0, none⟩))) fun v20_31 =>
  pu (aLoad false 1 v20_31 τ_21) fun v21_32 =>
  pu (aCopy 1 v19_30 v21_32 τ_21) fun r22_33 =>
  pu (aBin (some (.int .i64)) .add x9_9 (.int .i64 1)) fun v23_36 =>
  N1 x0_6 x7_7 x8_8 v23_36 r22_33.2) (
  pu (aNil x0_6) fun v25_51 =>
  pu (aFieldAddr 1 v25_51) fun v26_52 =>
  pu (aStore 1 v26_52 (.slice none 0 0) τ_10) fun τ_53 =>
  Q (.tuple #[]) τ_53)

/-- (*cistern/disk.Disk).land -/
def s68 (Q : WK) (x0 : Value) (σ : AHeap) : Prop :=
  pu (aNil x0) fun v5_1 =>
  pu (aFieldAddr 1 v5_1) fun v6_2 =>
  pu (aLoad false 1 v6_2 σ) fun v7_3 =>
  pu (lenS v7_3) fun v8_4 =>
  ∃ I_54 : Nat → Value → Value → Value → Value → AHeap → Prop, (∃ m, I_54 m x0 v7_3 v8_4 (.int .i64 0) σ) ∧
  ∀ m (x0_6' x7_7' x8_8' x9_9' : Value) (σ' : AHeap), I_54 m x0_6' x7_7' x8_8' x9_9' σ' → (s68b1 (fun x0_6' x7_7' x8_8' x9_9' σ' => ∃ m', m' < m ∧ I_54 m' x0_6' x7_7' x8_8' x9_9' σ') Q x0_6' x7_7' x8_8' x9_9' σ')

theorem s68_eq (Q : WK) (x0 : Value) (σ : AHeap) : wfun P E F 68 [x0] σ Q = s68 Q x0 σ := by kernel_rfl

theorem s68_ev {Q : WK} {x0 : Value} {σ : AHeap} (h : s68 Q x0 σ) : E 68 [x0] σ Q := E_of (by kernel_rfl) (Eq.mpr (s68_eq Q x0 σ) h)

def s69k4 (Q : WK) (p18_13 : Value) (τ_12 : AHeap) : Prop :=
  wC p18_13 (
  Q (.int .i64 6) τ_12) (
  Q (.int .i64 0) τ_12)

/-- (*cistern/cisternref03.Disk).why -/
def s69 (Q : WK) (x0 x1 : Value) (σ : AHeap) : Prop :=
  pu (aNil x0) fun v6_3 =>
  pu (aFieldAddr 3 v6_3) fun v7_4 =>
  pu (aLoad false 1 v7_4 σ) fun v8_5 =>
  wC v8_5 (
  Q (.int .i64 9) σ) (
  pu (aBin (some (.int .i64)) .lss x1 (.int .i64 0)) fun v10_10 =>
  wG v10_10 (
  (s69k4 Q (.bool true) σ)) (
  pu (aNil x0) fun v14_16 =>
  pu (aFieldAddr 4 v14_16) fun v15_17 =>
  pu (aLoad false 1 v15_17 σ) fun v16_18 =>
  pu (aBin (some (.int .i64)) .geq x1 v16_18) fun v17_19 =>
  (s69k4 Q v17_19 σ)) (
  wB v10_10 fun b_21 =>
  (s69k4 Q (cond b_21 (.bool true) skipV) σ)))

theorem s69_eq (Q : WK) (x0 x1 : Value) (σ : AHeap) : wfun P E F 69 [x0, x1] σ Q = s69 Q x0 x1 σ := by kernel_rfl

theorem s69_ev {Q : WK} {x0 x1 : Value} {σ : AHeap} (h : s69 Q x0 x1 σ) : E 69 [x0, x1] σ Q := E_of (by kernel_rfl) (Eq.mpr (s69_eq Q x0 x1 σ) h)

/-- (*cistern/cisternref03.Disk).burns -/
def s70 (Q : WK) (x0 : Value) (σ : AHeap) : Prop :=
  pu (aNil x0) fun v4_3 =>
  pu (aFieldAddr 2 v4_3) fun v5_4 =>
  pu (aLoad false 1 v5_4 σ) fun v6_5 =>
  pu (aBin (some (.int .i64)) .eql v6_5 (.int .i64 0)) fun v7_6 =>
  wC v7_6 (
  Q (.bool false) σ) (
  pu (aNil x0) fun v9_11 =>
  pu (aFieldAddr 2 v9_11) fun v10_12 =>
  pu (aLoad false 1 v10_12 σ) fun v11_13 =>
  pu (aBin (some (.int .i64)) .sub v11_13 (.int .i64 1)) fun v12_14 =>
  pu (aNil x0) fun v13_15 =>
  pu (aFieldAddr 2 v13_15) fun v14_16 =>
  pu (aStore 1 v14_16 v12_14 σ) fun τ_17 =>
  pu (aNil x0) fun v16_20 =>
  pu (aFieldAddr 2 v16_20) fun v17_21 =>
  pu (aLoad false 1 v17_21 τ_17) fun v18_22 =>
  pu (aBin (some (.int .i64)) .gtr v18_22 (.int .i64 0)) fun v19_23 =>
  wC v19_23 (
  Q (.bool false) τ_17) (
  pu (aNil x0) fun v21_28 =>
  pu (aFieldAddr 3 v21_28) fun v22_29 =>
  pu (aStore 1 v22_29 (.bool true) τ_17) fun τ_30 =>
  Q (.bool true) τ_30))

theorem s70_eq (Q : WK) (x0 : Value) (σ : AHeap) : wfun P E F 70 [x0] σ Q = s70 Q x0 σ := by kernel_rfl

theorem s70_ev {Q : WK} {x0 : Value} {σ : AHeap} (h : s70 Q x0 σ) : E 70 [x0] σ Q := E_of (by kernel_rfl) (Eq.mpr (s70_eq Q x0 σ) h)

/-- cistern/cisternref03.own -/
def s71 (Q : WK) (x0 : Value) (σ : AHeap) : Prop :=
  pu (aAppend 5 1 1 (.slice none 0 0) x0 σ) fun r6_5 =>
  Q r6_5.1 r6_5.2

theorem s71_eq (Q : WK) (x0 : Value) (σ : AHeap) : wfun P E F 71 [x0] σ Q = s71 Q x0 σ := by kernel_rfl

theorem s71_ev {Q : WK} {x0 : Value} {σ : AHeap} (h : s71 Q x0 σ) : E 71 [x0] σ Q := E_of (by kernel_rfl) (Eq.mpr (s71_eq Q x0 σ) h)

/-- (*cistern/cisternref03.Disk).lay -/
def s72 (Q : WK) (x0 x1 x2 : Value) (σ : AHeap) : Prop :=
  cond (live x1) (wNew σ (.cells (Value.cells x1).toList 117 false) fun b_1 τ_2 =>
  pu (aFieldAddr 1 (.pointer (some ⟨b_1, 0, none⟩))) fun v7_5 =>
  pu (aLoad false 1 v7_5 τ_2) fun v8_6 =>
  pu (aSlice 1 v8_6 none (some x2) none) fun v10_8 =>
  E 71 [v10_8] τ_2 fun v11_9 τ_10 =>
  pu (aNil x0) fun v13_13 =>
  pu (aFieldAddr 0 v13_13) fun v14_14 =>
  pu (aLoad false 1 v14_14 τ_10) fun v15_15 =>
  pu (aFieldAddr 0 (.pointer (some ⟨b_1, 0, none⟩))) fun v16_17 =>
  pu (aLoad false 1 v16_17 τ_10) fun v17_18 =>
  pu (aNil x0) fun v20_20 =>
  pu (aFieldAddr 0 v20_20) fun v21_21 =>
  pu (aLoad false 1 v21_21 τ_10) fun v22_22 =>
  pu (aFieldAddr 0 (.pointer (some ⟨b_1, 0, none⟩))) fun v23_23 =>
  pu (aLoad false 1 v23_23 τ_10) fun v24_24 =>
  pu (aIndexAddr 1 v22_22 v24_24) fun v25_25 =>
  pu (aLoad false 1 v25_25 τ_10) fun v26_26 =>
  pu (aSlice 1 v26_26 (some x2) none none) fun v28_28 =>
  pu (aAppend 5 1 1 v11_9 v28_28 τ_10) fun r29_29 =>
  pu (aLoad false 1 v14_14 r29_29.2) fun v15_30 =>
  veq1 v15_30 v15_15 = true ∧
  pu (aLoad false 1 v16_17 r29_29.2) fun v17_31 =>
  veq1 v17_31 v17_18 = true ∧
  pu (aIndexAddr 1 v15_15 v17_18) fun v30_32 =>
  pu (aStore 1 v30_32 r29_29.1 r29_29.2) fun τ_33 =>
  Q (.tuple #[]) τ_33) False

theorem s72_eq (Q : WK) (x0 x1 x2 : Value) (σ : AHeap) : wfun P E F 72 [x0, x1, x2] σ Q = s72 Q x0 x1 x2 σ := by kernel_rfl

theorem s72_ev {Q : WK} {x0 x1 x2 : Value} {σ : AHeap} (h : s72 Q x0 x1 x2 σ) : E 72 [x0, x1, x2] σ Q := E_of (by kernel_rfl) (Eq.mpr (s72_eq Q x0 x1 x2 σ) h)

/-- slices.Clone[[]cistern/disk.flight,cistern/disk.flight] -/
def s73 (Q : WK) (x0 : Value) (σ : AHeap) : Prop :=
  pu (aBin (some (.slice 110)) .eql x0 (.slice none 0 0)) fun v4_3 =>
  wC v4_3 (
  Q (.slice none 0 0) σ) (
  pu (aAppend 110 2 32 (.slice (some ⟨ZB, 0, some 0⟩) 0 0) x0 σ) fun r7_8 =>
  Q r7_8.1 r7_8.2)

theorem s73_eq (Q : WK) (x0 : Value) (σ : AHeap) : wfun P E F 73 [x0] σ Q = s73 Q x0 σ := by kernel_rfl

theorem s73_ev {Q : WK} {x0 : Value} {σ : AHeap} (h : s73 Q x0 σ) : E 73 [x0] σ Q := E_of (by kernel_rfl) (Eq.mpr (s73_eq Q x0 σ) h)

def s74b2 (N2 : Value → Value → Value → AHeap → Prop) (Q : WK) (x0_59 x3_60 x5_61 : Value) (τ_62 : AHeap) : Prop :=
  pu (aNil x0_59) fun v48_63 =>
  pu (aFieldAddr 1 v48_63) fun v49_64 =>
  pu (aLoad false 1 v49_64 τ_62) fun v50_65 =>
  pu (lenS v50_65) fun v51_66 =>
  pu (aBin (some (.int .i64)) .lss x5_61 v51_66) fun v52_67 =>
  wC v52_67 (
  pu (aNil x3_60) fun v57_72 =>
  pu (aFieldAddr 1 v57_72) fun v58_73 =>
  pu (aLoad false 1 v58_73 τ_62) fun v59_74 =>
  pu (aNil x0_59) fun v61_76 =>
  pu (aFieldAddr 1 v61_76) fun v62_77 =>
  pu (aLoad false 1 v62_77 τ_62) fun v63_78 =>
  pu (aIndexAddr 2 v63_78 x5_61) fun v65_80 =>
  pu (aFieldAddr 0 v65_80) fun v66_81 =>
  pu (aLoad false 1 v66_81 τ_62) fun v67_82 =>
  pu (aNil x0_59) fun v69_83 =>
  pu (aFieldAddr 1 v69_83) fun v70_84 =>
  pu (aLoad false 1 v70_84 τ_62) fun v71_85 =>
  pu (aIndexAddr 2 v71_85 x5_61) fun v73_86 =>
  pu (aFieldAddr 1 v73_86) fun v74_87 =>
  pu (aLoad false 1 v74_87 τ_62) fun v75_88 =>
  E 71 [v75_88] τ_62 fun v76_89 τ_90 =>
  pu (aLoad false 1 v58_73 τ_90) fun v59_91 =>
  veq1 v59_91 v59_74 = true ∧
  pu (aLoad false 1 v62_77 τ_90) fun v63_92 =>
  veq1 v63_92 v63_78 = true ∧
  pu (aLoad false 1 v66_81 τ_90) fun v67_93 =>
  veq1 v67_93 v67_82 = true ∧
  pu (buildR [(0, 1), (1, 1)] [(.int .i64 0), (.slice none 0 0)] [(0, v67_82), (1, v76_89)]) fun v77_94 =>
  pu (buildS 117 2 1 [(.int .i64 0), (.slice none 0 0)] [(0, v77_94)] τ_90) fun r78_95 =>
  pu (aLoad false 1 v58_73 r78_95.2) fun v59_96 =>
  veq1 v59_96 v59_74 = true ∧
  pu (aAppend 117 2 32 v59_74 r78_95.1 r78_95.2) fun r79_97 =>
  pu (aNil x3_60) fun v80_98 =>
  pu (aFieldAddr 1 v80_98) fun v81_99 =>
  pu (aStore 1 v81_99 r79_97.1 r79_97.2) fun τ_100 =>
  pu (aBin (some (.int .i64)) .add x5_61 (.int .i64 1)) fun v54_103 =>
  N2 x0_59 x3_60 v54_103 τ_100) (
  Q x3_60 τ_62)

def s74b1 (N1 : Value → Value → Value → AHeap → Prop) (Q : WK) (x0_17 x3_18 x4_19 : Value) (τ_20 : AHeap) : Prop :=
  pu (aNil x0_17) fun v22_21 =>
  pu (aFieldAddr 0 v22_21) fun v23_22 =>
  pu (aLoad false 1 v23_22 τ_20) fun v24_23 =>
  pu (lenS v24_23) fun v25_24 =>
  pu (aBin (some (.int .i64)) .lss x4_19 v25_24) fun v26_25 =>
  wC v26_25 (
  pu (aNil x3_18) fun v31_30 =>
  pu (aFieldAddr 0 v31_30) fun v32_31 =>
  pu (aLoad false 1 v32_31 τ_20) fun v33_32 =>
  pu (aNil x0_17) fun v35_34 =>
  pu (aFieldAddr 0 v35_34) fun v36_35 =>
  pu (aLoad false 1 v36_35 τ_20) fun v37_36 =>
  pu (aIndexAddr 1 v37_36 x4_19) fun v39_38 =>
  pu (aLoad false 1 v39_38 τ_20) fun v40_39 =>
  E 71 [v40_39] τ_20 fun v41_40 τ_41 =>
  pu (aLoad false 1 v32_31 τ_41) fun v33_42 =>
  veq1 v33_42 v33_32 = true ∧
  pu (buildS 23 1 1 [(.slice none 0 0)] [(0, v41_40)] τ_41) fun r42_43 =>
  pu (aLoad false 1 v32_31 r42_43.2) fun v33_44 =>
  veq1 v33_44 v33_32 = true ∧
  pu (aAppend 23 1 24 v33_32 r42_43.1 r42_43.2) fun r43_45 =>
  pu (aNil x3_18) fun v44_46 =>
  pu (aFieldAddr 0 v44_46) fun v45_47 =>
  pu (aStore 1 v45_47 r43_45.1 r43_45.2) fun τ_48 =>
  pu (aBin (some (.int .i64)) .add x4_19 (.int .i64 1)) fun v28_51 =>
  N1 x0_17 x3_18 v28_51 τ_48) (
  ∃ I_111 : Nat → Value → Value → Value → AHeap → Prop, (∃ m, I_111 m x0_17 x3_18 (.int .i64 0) τ_20) ∧
  ∀ m (x0_59' x3_60' x5_61' : Value) (σ' : AHeap), I_111 m x0_59' x3_60' x5_61' σ' → (s74b2 (fun x0_59' x3_60' x5_61' σ' => ∃ m', m' < m ∧ I_111 m' x0_59' x3_60' x5_61' σ') Q x0_59' x3_60' x5_61' σ'))

/-- (*cistern/cisternref03.Disk).Copy -/
def s74 (Q : WK) (x0 : Value) (σ : AHeap) : Prop :=
  pu (aNil x0) fun v7_3 =>
  pu (aFieldAddr 2 v7_3) fun v8_4 =>
  pu (aLoad false 1 v8_4 σ) fun v9_5 =>
  pu (aNil x0) fun v11_6 =>
  pu (aFieldAddr 3 v11_6) fun v12_7 =>
  pu (aLoad false 1 v12_7 σ) fun v13_8 =>
  pu (aNil x0) fun v15_9 =>
  pu (aFieldAddr 4 v15_9) fun v16_10 =>
  pu (aLoad false 1 v16_10 σ) fun v17_11 =>
  pu (buildR [(0, 1), (1, 1), (2, 1), (3, 1), (4, 1)] [(.slice none 0 0), (.slice none 0 0), (.int .i64 0), (.bool false), (.int .i64 0)] [(2, v9_5), (3, v13_8), (4, v17_11)]) fun v18_12 =>
  cond (live v18_12) (wNew σ (.cells (Value.cells v18_12).toList 114 false) fun b_13 τ_14 =>
  ∃ I_118 : Nat → Value → Value → Value → AHeap → Prop, (∃ m, I_118 m x0 (.pointer (some ⟨b_13, 0, none⟩)) (.int .i64 0) τ_14) ∧
  ∀ m (x0_17' x3_18' x4_19' : Value) (σ' : AHeap), I_118 m x0_17' x3_18' x4_19' σ' → (s74b1 (fun x0_17' x3_18' x4_19' σ' => ∃ m', m' < m ∧ I_118 m' x0_17' x3_18' x4_19' σ') Q x0_17' x3_18' x4_19' σ')) False

theorem s74_eq (Q : WK) (x0 : Value) (σ : AHeap) : wfun P E F 74 [x0] σ Q = s74 Q x0 σ := by kernel_rfl

theorem s74_ev {Q : WK} {x0 : Value} {σ : AHeap} (h : s74 Q x0 σ) : E 74 [x0] σ Q := E_of (by kernel_rfl) (Eq.mpr (s74_eq Q x0 σ) h)

def s3k42 (N4 : Value → Value → Value → Value → Value → Value → Value → Value → Value → Value → AHeap → Prop) (Q : WK) (p104_264 p2_266 p7_267 p11_268 p15_269 p17_270 p18_271 p86_272 p87_273 p88_274 : Value) (τ_263 : AHeap) : Prop :=
  pu (aBin (some (.int .i64)) .add p104_264 (.int .i64 1)) fun v159_265 =>
  N4 p2_266 p7_267 p11_268 p15_269 p17_270 p18_271 p86_272 p87_273 p88_274 v159_265 τ_263

def s3k46 (N4 : Value → Value → Value → Value → Value → Value → Value → Value → Value → Value → AHeap → Prop) (Q : WK) (p17_295 p19_297 p11_352 p18_353 p22_354 p104_355 p2_356 p7_357 p15_358 p86_359 p87_360 p88_361 : Value) (τ_294 : AHeap) : Prop :=
  pu (aBin (some (.int .i64)) .mul (.int .i64 4) p17_295) fun v128_296 =>
  pu (aBin (some (.int .i64)) .add v128_296 p19_297) fun v130_298 =>
  pu (aIndexAddrArr 16 1 p11_352 v130_298) fun v132_302 =>
  pu (aLoad false 1 v132_302 τ_294) fun v133_303 =>
  pu (aIndexAddrArr 16 1 p11_352 v130_298) fun v135_304 =>
  pu (aLoad false 1 v135_304 τ_294) fun v136_305 =>
  pu (lenS v136_305) fun v137_306 =>
  pu (aBin (some (.int .i64)) .sub v137_306 (.int .i64 1)) fun v138_307 =>
  pu (aIndexAddr 1 v133_303 v138_307) fun v139_308 =>
  pu (aLoad false 1 v139_308 τ_294) fun v140_309 =>
  pu (aIndexAddrArr 16 1 p11_352 v130_298) fun v143_313 =>
  pu (aLoad false 1 v143_313 τ_294) fun v144_314 =>
  pu (aSlice 1 v140_309 (some p22_354) none none) fun v154_319 =>
  E 21 [p18_353, p19_297] τ_294 fun v148_320 τ_321 =>
  pu (aLoad false 1 v143_313 τ_321) fun v144_322 =>
  veq1 v144_322 v144_314 = true ∧
  pu (aSlice 1 v148_320 none (some p22_354) none) fun v150_323 =>
  pu (aAppend 5 1 1 (.slice (some ⟨ZB, 0, some 0⟩) 0 0) v150_323 τ_321) fun r151_324 =>
  pu (aLoad false 1 v143_313 r151_324.2) fun v144_325 =>
  veq1 v144_325 v144_314 = true ∧
  pu (aAppend 5 1 1 r151_324.1 v154_319 r151_324.2) fun r155_326 =>
  pu (aLoad false 1 v143_313 r155_326.2) fun v144_327 =>
  veq1 v144_327 v144_314 = true ∧
  pu (buildS 23 1 1 [(.slice none 0 0)] [(0, r155_326.1)] r155_326.2) fun r156_328 =>
  pu (aLoad false 1 v143_313 r156_328.2) fun v144_329 =>
  veq1 v144_329 v144_314 = true ∧
  pu (aAppend 23 1 24 v144_314 r156_328.1 r156_328.2) fun r157_330 =>
  pu (aIndexAddrArr 16 1 p11_352 v130_298) fun v158_331 =>
  pu (aStore 1 v158_331 r157_330.1 r157_330.2) fun τ_332 =>
  (s3k42 N4 Q p104_355 p2_356 p7_357 p11_352 p15_358 p17_295 p18_353 p86_359 p87_360 p88_361 τ_332)

def s3k40 (N4 : Value → Value → Value → Value → Value → Value → Value → Value → Value → Value → AHeap → Prop) (Q : WK) (p21_259 p104_400 p2_401 p7_402 p11_403 p15_404 p17_405 p18_406 p86_407 p87_408 p88_409 p19_410 : Value) (τ_258 : AHeap) : Prop :=
  pu (aBin (some (.int .i64)) .eql p21_259 (.int .i64 0)) fun v121_260 =>
  wC v121_260 (
  (s3k42 N4 Q p104_400 p2_401 p7_402 p11_403 p15_404 p17_405 p18_406 p86_407 p87_408 p88_409 τ_258)) (
  pu (aBin (some (.int .i64)) .gtr p21_259 (.int .i64 1)) fun v123_288 =>
  wC v123_288 (
  pu (aBin (some (.int .i64)) .sub p21_259 (.int .i64 2)) fun v125_292 =>
  pu (aBin (some (.int .i64)) .rem v125_292 (.int .i64 65)) fun v126_293 =>
  (s3k46 N4 Q p17_405 p19_410 p11_403 p18_406 v126_293 p104_400 p2_401 p7_402 p15_404 p86_407 p87_408 p88_409 τ_258)) (
  (s3k46 N4 Q p17_405 p19_410 p11_403 p18_406 (.int .i64 64) p104_400 p2_401 p7_402 p15_404 p86_407 p87_408 p88_409 τ_258)))

def s3b4 (N3 : Value → Value → Value → Value → Value → Value → AHeap → Prop) (N4 : Value → Value → Value → Value → Value → Value → Value → Value → Value → Value → AHeap → Prop) (Q : WK) (x2_224 x7_225 x11_226 x15_227 x17_228 x18_229 x86_230 x87_231 x88_232 x104_233 : Value) (τ_234 : AHeap) : Prop :=
  pu (aBin (some (.int .i64)) .lss x104_233 (.int .i64 4)) fun v105_235 =>
  wC v105_235 (
  pu (aBin (some (.int .i64)) .mul (.int .i64 4) x15_227) fun v108_242 =>
  pu (aBin (some (.int .i64)) .add v108_242 x104_233) fun v110_244 =>
  pu (lenS x2_224) fun v113_249 =>
  pu (aBin (some (.int .i64)) .lss v110_244 v113_249) fun v114_250 =>
  wC v114_250 (
  pu (aIndexAddr 1 x2_224 v110_244) fun v117_255 =>
  pu (aLoad false 1 v117_255 τ_234) fun v118_256 =>
  pu (convI .i64 v118_256) fun v119_257 =>
  (s3k40 N4 Q v119_257 x104_233 x2_224 x7_225 x11_226 x15_227 x17_228 x18_229 x86_230 x87_231 x88_232 x104_233 τ_234)) (
  (s3k40 N4 Q (.int .i64 0) x104_233 x2_224 x7_225 x11_226 x15_227 x17_228 x18_229 x86_230 x87_231 x88_232 x104_233 τ_234))) (
  pu (aBin (some (.int .i64)) .add x88_232 (.int .i64 1)) fun v160_475 =>
  N3 x2_224 x7_225 x11_226 x86_230 x87_231 v160_475 τ_234)

def s3k57 (N5 : Value → Value → Value → AHeap → Prop) (Q : WK) (p193_566 p7_567 p11_568 p164_569 p6_576 : Value) (τ_565 : AHeap) : Prop :=
  wC p193_566 (
  Q (.bool false) τ_565) (
  pu (aBin (some (.int .i64)) .add p164_569 (.int .i64 1)) fun v194_572 =>
  N5 p7_567 p11_568 v194_572 τ_565)

def s3b5 (N5 : Value → Value → Value → AHeap → Prop) (Q : WK) (x7_544 x11_545 x164_546 : Value) (τ_547 : AHeap) : Prop :=
  pu (aBin (some (.int .i64)) .lss x164_546 (.int .i64 16)) fun v165_548 =>
  wC v165_548 (
  pu (aBin (some (.int .i64)) .quo x164_546 (.int .i64 4)) fun v170_556 =>
  E 20 [x7_544, v170_556] τ_547 fun v171_557 τ_558 =>
  pu (aExtract v171_557 0) fun v172_559 =>
  pu (aExtract v171_557 1) fun v173_560 =>
  pu (aBin (some (.int .i64)) .neq v173_560 (.int .i64 0)) fun v175_563 =>
  wG v175_563 (
  (s3k57 N5 Q (.bool true) x7_544 x11_545 x164_546 undef τ_558)) (
  pu (aBin (some (.int .i64)) .rem x164_546 (.int .i64 4)) fun v179_583 =>
  pu (aIndexAddrArr 16 1 x11_545 x164_546) fun v182_584 =>
  pu (aLoad false 1 v182_584 τ_558) fun v183_585 =>
  pu (aIndexAddrArr 16 1 x11_545 x164_546) fun v185_586 =>
  pu (aLoad false 1 v185_586 τ_558) fun v186_587 =>
  pu (lenS v186_587) fun v187_588 =>
  pu (aBin (some (.int .i64)) .sub v187_588 (.int .i64 1)) fun v188_589 =>
  pu (aIndexAddr 1 v183_585 v188_589) fun v189_590 =>
  pu (aLoad false 1 v189_590 τ_558) fun v190_591 =>
  E 21 [v172_559, v179_583] τ_558 fun v180_592 τ_593 =>
  pu (aLoad false 1 v182_584 τ_593) fun v183_594 =>
  veq1 v183_594 v183_585 = true ∧
  pu (aLoad false 1 v185_586 τ_593) fun v186_595 =>
  veq1 v186_595 v186_587 = true ∧
  pu (lenS v186_587) fun v187_596 =>
  veq1 v187_596 v187_588 = true ∧
  pu (aLoad false 1 v189_590 τ_593) fun v190_597 =>
  veq1 v190_597 v190_591 = true ∧
  E 23 [v180_592, v190_591] τ_593 fun v191_598 τ_599 =>
  pu (aUn .not v191_598) fun v192_600 =>
  (s3k57 N5 Q v192_600 x7_544 x11_545 x164_546 undef τ_599)) (
  wB v175_563 fun b_602 =>
  (s3k57 N5 Q (cond b_602 (.bool true) skipV) x7_544 x11_545 x164_546 undef τ_558))) (
  E 19 [x7_544] τ_547 fun v196_615 τ_616 =>
  pu (aBin (some (.int .i64)) .eql v196_615 (.int .i64 0)) fun v197_617 =>
  wG v197_617 (
  E 24 [x7_544] τ_616 fun v200_618 τ_619 =>
  pu (aUn .not v200_618) fun v201_620 =>
  Q v201_620 τ_619) (
  Q (.bool false) τ_616) (
  wB v197_617 fun b_623 =>
  Q (cond b_623 skipV (.bool false)) τ_616))

def s3b3 (N3 : Value → Value → Value → Value → Value → Value → AHeap → Prop) (Q : WK) (x2_175 x7_176 x11_177 x86_178 x87_179 x88_180 : Value) (τ_181 : AHeap) : Prop :=
  pu (aBin (some (.int .i64)) .lss x88_180 x87_179) fun v89_182 =>
  wC v89_182 (
  pu (aIndexAddr 5 x86_178 x88_180) fun v91_188 =>
  pu (aLoad true 5 v91_188 τ_181) fun v92_189 =>
  wNew τ_181 (.cells [(.int .i64 0), (.int .i64 0), (.int .u8 0), (.slice none 0 0), (.bool false)] 30 false) fun b_190 τ_191 =>
  pu (aStore 5 (.pointer (some ⟨b_190, 0, none⟩)) v92_189 τ_191) fun τ_192 =>
  pu (aFieldAddr 4 (.pointer (some ⟨b_190, 0, none⟩))) fun v93_195 =>
  pu (aStore 1 v93_195 (.bool false) τ_192) fun τ_196 =>
  pu (aFieldAddr 1 (.pointer (some ⟨b_190, 0, none⟩))) fun v94_199 =>
  pu (aLoad false 1 v94_199 τ_196) fun v95_200 =>
  pu (aLoad true 5 (.pointer (some ⟨b_190, 0, none⟩)) τ_196) fun v97_201 =>
  E 16 [v95_200, (.int .i64 4)] τ_196 fun v96_202 τ_203 =>
  pu (aLoad true 5 (.pointer (some ⟨b_190, 0, none⟩)) τ_203) fun v97_204 =>
  veq1 v97_204 v97_201 = true ∧
  E 17 [v97_201] τ_203 fun v98_205 τ_206 =>
  E 15 [x7_176, v96_202, v98_205] τ_206 fun v102_211 τ_212 =>
  pu (aBin (some (.int .i64)) .neq v102_211 (.int .i64 0)) fun v103_213 =>
  wC v103_213 (
  Q (.bool false) τ_212) (
  ∃ I_482 : Nat → Value → Value → Value → Value → Value → Value → Value → Value → Value → Value → AHeap → Prop, (∃ m, I_482 m x2_175 x7_176 x11_177 x88_180 v96_202 v98_205 x86_178 x87_179 x88_180 (.int .i64 0) τ_212) ∧
  ∀ m (x2_224' x7_225' x11_226' x15_227' x17_228' x18_229' x86_230' x87_231' x88_232' x104_233' : Value) (σ' : AHeap), I_482 m x2_224' x7_225' x11_226' x15_227' x17_228' x18_229' x86_230' x87_231' x88_232' x104_233' σ' → (s3b4 N3 (fun x2_224' x7_225' x11_226' x15_227' x17_228' x18_229' x86_230' x87_231' x88_232' x104_233' σ' => ∃ m', m' < m ∧ I_482 m' x2_224' x7_225' x11_226' x15_227' x17_228' x18_229' x86_230' x87_231' x88_232' x104_233' σ') Q x2_224' x7_225' x11_226' x15_227' x17_228' x18_229' x86_230' x87_231' x88_232' x104_233' σ'))) (
  E 22 [x7_176, x2_175] τ_181 fun v163_540 τ_541 =>
  ∃ I_624 : Nat → Value → Value → Value → AHeap → Prop, (∃ m, I_624 m x7_176 x11_177 (.int .i64 0) τ_541) ∧
  ∀ m (x7_544' x11_545' x164_546' : Value) (σ' : AHeap), I_624 m x7_544' x11_545' x164_546' σ' → (s3b5 (fun x7_544' x11_545' x164_546' σ' => ∃ m', m' < m ∧ I_624 m' x7_544' x11_545' x164_546' σ') Q x7_544' x11_545' x164_546' σ'))

def s3b2 (N2 : Value → Value → Value → Value → Value → AHeap → Prop) (Q : WK) (x1_118 x2_119 x7_120 x11_121 x68_122 : Value) (τ_123 : AHeap) : Prop :=
  pu (aBin (some (.int .i64)) .lss x68_122 (.int .i64 16)) fun v69_124 =>
  wC v69_124 (
  pu (aBin (some (.int .i64)) .quo x68_122 (.int .i64 4)) fun v74_132 =>
  E 20 [x7_120, v74_132] τ_123 fun v75_133 τ_134 =>
  pu (aExtract v75_133 0) fun v76_135 =>
  pu (aExtract v75_133 1) fun v77_136 =>
  pu (aBin (some (.int .i64)) .rem x68_122 (.int .i64 4)) fun v81_140 =>
  E 21 [v76_135, v81_140] τ_134 fun v82_141 τ_142 =>
  pu (buildS 23 1 1 [(.slice none 0 0)] [(0, v82_141)] τ_142) fun r83_143 =>
  pu (aIndexAddrArr 16 1 x11_121 x68_122) fun v84_145 =>
  pu (aStore 1 v84_145 r83_143.1 r83_143.2) fun τ_146 =>
  pu (aBin (some (.int .i64)) .add x68_122 (.int .i64 1)) fun v85_149 =>
  N2 x1_118 x2_119 x7_120 x11_121 v85_149 τ_146) (
  pu (lenS x1_118) fun v87_173 =>
  ∃ I_632 : Nat → Value → Value → Value → Value → Value → Value → AHeap → Prop, (∃ m, I_632 m x2_119 x7_120 x11_121 x1_118 v87_173 (.int .i64 0) τ_123) ∧
  ∀ m (x2_175' x7_176' x11_177' x86_178' x87_179' x88_180' : Value) (σ' : AHeap), I_632 m x2_175' x7_176' x11_177' x86_178' x87_179' x88_180' σ' → (s3b3 (fun x2_175' x7_176' x11_177' x86_178' x87_179' x88_180' σ' => ∃ m', m' < m ∧ I_632 m' x2_175' x7_176' x11_177' x86_178' x87_179' x88_180' σ') Q x2_175' x7_176' x11_177' x86_178' x87_179' x88_180' σ'))

def s3k15 (Q : WK) (p67_112 p1_657 p2_658 p7_659 : Value) (τ_111 : AHeap) : Prop :=
  wC p67_112 (
  Q (.bool false) τ_111) (
  wNew τ_111 (.cells [(.slice none 0 0), (.slice none 0 0), (.slice none 0 0), (.slice none 0 0), (.slice none 0 0), (.slice none 0 0), (.slice none 0 0), (.slice none 0 0), (.slice none 0 0), (.slice none 0 0), (.slice none 0 0), (.slice none 0 0), (.slice none 0 0), (.slice none 0 0), (.slice none 0 0), (.slice none 0 0)] 37 false) fun b_114 τ_115 =>
  ∃ I_643 : Nat → Value → Value → Value → Value → Value → AHeap → Prop, (∃ m, I_643 m p1_657 p2_658 p7_659 (.pointer (some ⟨b_114, 0, none⟩)) (.int .i64 0) τ_115) ∧
  ∀ m (x1_118' x2_119' x7_120' x11_121' x68_122' : Value) (σ' : AHeap), I_643 m x1_118' x2_119' x7_120' x11_121' x68_122' σ' → (s3b2 (fun x1_118' x2_119' x7_120' x11_121' x68_122' σ' => ∃ m', m' < m ∧ I_643 m' x1_118' x2_119' x7_120' x11_121' x68_122' σ') Q x1_118' x2_119' x7_120' x11_121' x68_122' σ'))

def s3b1 (N1 : Value → Value → Value → Value → Value → Value → AHeap → Prop) (Q : WK) (x1_26 x2_27 x7_28 x44_29 x45_30 x46_31 : Value) (τ_32 : AHeap) : Prop :=
  pu (aBin (some (.int .i64)) .lss x46_31 x45_30) fun v47_33 =>
  wC v47_33 (
  pu (aIndexAddr 5 x44_29 x46_31) fun v48_39 =>
  pu (aLoad true 5 v48_39 τ_32) fun v49_40 =>
  wNew τ_32 (.cells [(.int .i64 0), (.int .i64 0), (.int .u8 0), (.slice none 0 0), (.bool false)] 30 false) fun b_41 τ_42 =>
  pu (aStore 5 (.pointer (some ⟨b_41, 0, none⟩)) v49_40 τ_42) fun τ_43 =>
  pu (aFieldAddr 4 (.pointer (some ⟨b_41, 0, none⟩))) fun v50_46 =>
  pu (aStore 1 v50_46 (.bool false) τ_43) fun τ_47 =>
  pu (aFieldAddr 1 (.pointer (some ⟨b_41, 0, none⟩))) fun v52_51 =>
  pu (aLoad false 1 v52_51 τ_47) fun v53_52 =>
  pu (aLoad true 5 (.pointer (some ⟨b_41, 0, none⟩)) τ_47) fun v55_53 =>
  E 16 [v53_52, (.int .i64 4)] τ_47 fun v54_54 τ_55 =>
  pu (aLoad true 5 (.pointer (some ⟨b_41, 0, none⟩)) τ_55) fun v55_56 =>
  veq1 v55_56 v55_53 = true ∧
  E 17 [v55_53] τ_55 fun v56_57 τ_58 =>
  E 15 [x7_28, v54_54, v56_57] τ_58 fun v57_59 τ_60 =>
  pu (aBin (some (.int .i64)) .neq v57_59 (.int .i64 0)) fun v58_61 =>
  wC v58_61 (
  Q (.bool false) τ_60) (
  pu (aBin (some (.int .i64)) .add x46_31 (.int .i64 1)) fun v59_72 =>
  N1 x1_26 x2_27 x7_28 x44_29 x45_30 v59_72 τ_60)) (
  E 18 [x7_28] τ_32 fun v61_107 τ_108 =>
  pu (aBin (some (.int .i64)) .neq v61_107 (.int .i64 0)) fun v62_109 =>
  wG v62_109 (
  (s3k15 Q (.bool true) x1_26 x2_27 x7_28 τ_108)) (
  E 19 [x7_28] τ_108 fun v65_662 τ_663 =>
  pu (aBin (some (.int .i64)) .neq v65_662 (.int .i64 0)) fun v66_664 =>
  (s3k15 Q v66_664 x1_26 x2_27 x7_28 τ_663)) (
  wB v62_109 fun b_666 =>
  (s3k15 Q (cond b_666 (.bool true) skipV) x1_26 x2_27 x7_28 τ_108)))

def s3k3 (Q : WK) (p37_12 p0_684 p1_685 p2_686 p7_687 : Value) (τ_11 : AHeap) : Prop :=
  wC p37_12 (
  Q (.bool false) τ_11) (
  pu (lenS p0_684) fun v39_15 =>
  pu (lenS p1_685) fun v41_17 =>
  pu (aBin (some (.int .i64)) .add v39_15 v41_17) fun v42_18 =>
  pu (aBin (some (.int .i64)) .gtr v42_18 (.int .i64 40)) fun v43_19 =>
  wC v43_19 (
  Q (.bool true) τ_11) (
  pu (lenS p0_684) fun v45_24 =>
  ∃ I_667 : Nat → Value → Value → Value → Value → Value → Value → AHeap → Prop, (∃ m, I_667 m p1_685 p2_686 p7_687 p0_684 v45_24 (.int .i64 0) τ_11) ∧
  ∀ m (x1_26' x2_27' x7_28' x44_29' x45_30' x46_31' : Value) (σ' : AHeap), I_667 m x1_26' x2_27' x7_28' x44_29' x45_30' x46_31' σ' → (s3b1 (fun x1_26' x2_27' x7_28' x44_29' x45_30' x46_31' σ' => ∃ m', m' < m ∧ I_667 m' x1_26' x2_27' x7_28' x44_29' x45_30' x46_31' σ') Q x1_26' x2_27' x7_28' x44_29' x45_30' x46_31' σ')))

/-- cistern/cisternlaw03.DiskKeeps -/
def s3 (Q : WK) (x0 x1 x2 : Value) (σ : AHeap) : Prop :=
  E 13 [(.int .i64 4)] σ fun v29_2 τ_3 =>
  pu (aExtract v29_2 0) fun v30_4 =>
  pu (aExtract v29_2 1) fun v31_5 =>
  E 14 [] τ_3 fun v32_7 τ_8 =>
  pu (aUn .not v32_7) fun v33_9 =>
  wG v33_9 (
  (s3k3 Q (.bool true) x0 x1 x2 v30_4 τ_8)) (
  pu (aBin (some (.int .i64)) .neq v31_5 (.int .i64 0)) fun v36_693 =>
  (s3k3 Q v36_693 x0 x1 x2 v30_4 τ_8)) (
  wB v33_9 fun b_695 =>
  (s3k3 Q (cond b_695 (.bool true) skipV) x0 x1 x2 v30_4 τ_8))

theorem s3_eq (Q : WK) (x0 x1 x2 : Value) (σ : AHeap) : wfun P E F 3 [x0, x1, x2] σ Q = s3 Q x0 x1 x2 σ := by kernel_rfl

theorem s3_ev {Q : WK} {x0 x1 x2 : Value} {σ : AHeap} (h : s3 Q x0 x1 x2 σ) : E 3 [x0, x1, x2] σ Q := E_of (by kernel_rfl) (Eq.mpr (s3_eq Q x0 x1 x2 σ) h)

def s4k12 (Q : WK) (p5_57 : Value) (τ_56 : AHeap) : Prop :=
  E 20 [p5_57, (.int .i64 0)] τ_56 fun v72_58 τ_59 =>
  pu (aExtract v72_58 0) fun v73_60 =>
  pu (aExtract v72_58 1) fun v74_61 =>
  E 24 [p5_57] τ_59 fun v76_64 τ_65 =>
  pu (aBin (some (.int .i64)) .eql v74_61 (.int .i64 9)) fun v78_67 =>
  pu (aBin (some .bool) .neq v76_64 v78_67) fun v79_68 =>
  wC v79_68 (
  Q (.bool false) τ_65) (
  E 22 [p5_57, (.slice none 0 0)] τ_65 fun v81_73 τ_74 =>
  E 20 [p5_57, (.int .i64 0)] τ_74 fun v84_77 τ_78 =>
  pu (aExtract v84_77 0) fun v85_79 =>
  pu (aExtract v84_77 1) fun v86_80 =>
  pu (aBin (some (.int .i64)) .eql v86_80 (.int .i64 0)) fun v88_83 =>
  wG v88_83 (
  E 19 [p5_57] τ_78 fun v91_85 τ_86 =>
  pu (aBin (some (.int .i64)) .eql v91_85 (.int .i64 0)) fun v92_87 =>
  Q v92_87 τ_86) (
  Q (.bool false) τ_78) (
  wB v88_83 fun b_90 =>
  Q (cond b_90 skipV (.bool false)) τ_78))

def s4k28 (N1 : Value → Value → Value → Value → Value → Value → AHeap → Prop) (Q : WK) (p68_137 p0_138 p5_139 p7_140 p28_141 p29_142 p30_143 p4_153 : Value) (τ_136 : AHeap) : Prop :=
  wC p68_137 (
  Q (.bool false) τ_136) (
  pu (aBin (some (.int .i64)) .add p30_143 (.int .i64 1)) fun v69_146 =>
  N1 p0_138 p5_139 p7_140 p28_141 p29_142 v69_146 τ_136)

def s4k27 (N1 : Value → Value → Value → Value → Value → Value → AHeap → Prop) (Q : WK) (p10_132 p11_133 p0_154 p5_155 p7_156 p28_157 p29_158 p30_159 p4_160 : Value) (τ_131 : AHeap) : Prop :=
  pu (aBin (some (.int .i64)) .neq p10_132 p11_133) fun v61_134 =>
  wG v61_134 (
  (s4k28 N1 Q (.bool true) p0_154 p5_155 p7_156 p28_157 p29_158 p30_159 p4_160 τ_131)) (
  E 24 [p5_155] τ_131 fun v64_161 τ_162 =>
  pu (aBin (some (.int .i64)) .eql p11_133 (.int .i64 9)) fun v66_163 =>
  pu (aBin (some .bool) .neq v64_161 v66_163) fun v67_164 =>
  (s4k28 N1 Q v67_164 p0_154 p5_155 p7_156 p28_157 p29_158 p30_159 p4_160 τ_162)) (
  wB v61_134 fun b_166 =>
  (s4k28 N1 Q (cond b_166 (.bool true) skipV) p0_154 p5_155 p7_156 p28_157 p29_158 p30_159 p4_160 τ_131))

def s4k25 (N1 : Value → Value → Value → Value → Value → Value → AHeap → Prop) (Q : WK) (p7_127 p10_176 p0_177 p5_178 p28_179 p29_180 p30_181 p4_182 p11_183 : Value) (τ_126 : AHeap) : Prop :=
  pu (aBin (some (.int .i64)) .eql p7_127 (.int .i64 0)) fun v58_128 =>
  wC v58_128 (
  (s4k27 N1 Q p10_176 (.int .i64 9) p0_177 p5_178 p7_127 p28_179 p29_180 p30_181 p4_182 τ_126)) (
  (s4k27 N1 Q p10_176 p11_183 p0_177 p5_178 p7_127 p28_179 p29_180 p30_181 p4_182 τ_126))

def s4k21 (N1 : Value → Value → Value → Value → Value → Value → AHeap → Prop) (Q : WK) (p0_208 p7_209 p10_210 p5_211 p28_212 p29_213 p30_214 p4_215 : Value) (τ_114 : AHeap) : Prop :=
  pu (aBin (some (.int .u8)) .gtr p0_208 (.int .u8 0)) fun v52_117 =>
  wC v52_117 (
  pu (aBin (some (.int .i64)) .gtr p7_209 (.int .i64 0)) fun v54_121 =>
  wC v54_121 (
  pu (aBin (some (.int .i64)) .sub p7_209 (.int .i64 1)) fun v56_125 =>
  (s4k25 N1 Q v56_125 p10_210 p0_208 p5_211 p28_212 p29_213 p30_214 p4_215 (.int .i64 0) τ_114)) (
  (s4k25 N1 Q p7_209 p10_210 p0_208 p5_211 p28_212 p29_213 p30_214 p4_215 (.int .i64 0) τ_114))) (
  (s4k27 N1 Q p10_210 (.int .i64 0) p0_208 p5_211 p7_209 p28_212 p29_213 p30_214 p4_215 τ_114))

def s4b1 (N1 : Value → Value → Value → Value → Value → Value → AHeap → Prop) (Q : WK) (x0_26 x5_27 x7_28 x28_29 x29_30 x30_31 : Value) (τ_32 : AHeap) : Prop :=
  pu (aBin (some (.int .i64)) .lss x30_31 x29_30) fun v31_33 =>
  wC v31_33 (
  pu (aIndexAddr 5 x28_29 x30_31) fun v33_39 =>
  pu (aLoad true 5 v33_39 τ_32) fun v34_40 =>
  wNew τ_32 (.cells [(.int .i64 0), (.int .i64 0), (.int .u8 0), (.slice none 0 0), (.bool false)] 30 false) fun b_41 τ_42 =>
  pu (aStore 5 (.pointer (some ⟨b_41, 0, none⟩)) v34_40 τ_42) fun τ_43 =>
  pu (aBin (some (.int .i64)) .eql x30_31 (.int .i64 300)) fun v36_46 =>
  wC v36_46 (
  (s4k12 Q x5_27 τ_43)) (
  pu (aFieldAddr 0 (.pointer (some ⟨b_41, 0, none⟩))) fun v37_95 =>
  pu (aLoad false 1 v37_95 τ_43) fun v38_96 =>
  pu (aBin (some (.int .i64)) .rem v38_96 (.int .i64 2)) fun v39_97 =>
  pu (aBin (some (.int .i64)) .eql v39_97 (.int .i64 0)) fun v40_98 =>
  wC v40_98 (
  pu (aFieldAddr 1 (.pointer (some ⟨b_41, 0, none⟩))) fun v42_103 =>
  pu (aLoad false 1 v42_103 τ_43) fun v43_104 =>
  pu (aFieldAddr 2 (.pointer (some ⟨b_41, 0, none⟩))) fun v45_105 =>
  pu (aLoad false 1 v45_105 τ_43) fun v46_106 =>
  E 16 [v43_104, (.int .i64 3)] τ_43 fun v44_107 τ_108 =>
  pu (aLoad false 1 v45_105 τ_108) fun v46_109 =>
  veq1 v46_109 v46_106 = true ∧
  E 26 [v46_106] τ_108 fun v47_110 τ_111 =>
  E 15 [x5_27, v44_107, v47_110] τ_111 fun v48_112 τ_113 =>
  (s4k21 N1 Q x0_26 x7_28 v48_112 x5_27 x28_29 x29_30 x30_31 undef τ_113)) (
  E 18 [x5_27] τ_43 fun v50_222 τ_223 =>
  (s4k21 N1 Q x0_26 x7_28 v50_222 x5_27 x28_29 x29_30 x30_31 undef τ_223)))) (
  (s4k12 Q x5_27 τ_32))

def s4k3 (Q : WK) (p21_12 p5_274 p0_275 p1_276 : Value) (τ_11 : AHeap) : Prop :=
  wC p21_12 (
  Q (.bool false) τ_11) (
  pu (convI .i64 p0_275) fun v24_16 =>
  E 25 [p5_274, v24_16] τ_11 fun v25_17 τ_18 =>
  pu (convI .i64 p0_275) fun v27_21 =>
  pu (lenS p1_276) fun v29_24 =>
  ∃ I_260 : Nat → Value → Value → Value → Value → Value → Value → AHeap → Prop, (∃ m, I_260 m p0_275 p5_274 v27_21 p1_276 v29_24 (.int .i64 0) τ_18) ∧
  ∀ m (x0_26' x5_27' x7_28' x28_29' x29_30' x30_31' : Value) (σ' : AHeap), I_260 m x0_26' x5_27' x7_28' x28_29' x29_30' x30_31' σ' → (s4b1 (fun x0_26' x5_27' x7_28' x28_29' x29_30' x30_31' σ' => ∃ m', m' < m ∧ I_260 m' x0_26' x5_27' x7_28' x28_29' x29_30' x30_31' σ') Q x0_26' x5_27' x7_28' x28_29' x29_30' x30_31' σ'))

/-- cistern/cisternlaw03.DiskFuse -/
def s4 (Q : WK) (x0 x1 : Value) (σ : AHeap) : Prop :=
  E 13 [(.int .i64 3)] σ fun v13_2 τ_3 =>
  pu (aExtract v13_2 0) fun v14_4 =>
  pu (aExtract v13_2 1) fun v15_5 =>
  E 14 [] τ_3 fun v16_7 τ_8 =>
  pu (aUn .not v16_7) fun v17_9 =>
  wG v17_9 (
  (s4k3 Q (.bool true) v14_4 x0 x1 τ_8)) (
  pu (aBin (some (.int .i64)) .neq v15_5 (.int .i64 0)) fun v20_281 =>
  (s4k3 Q v20_281 v14_4 x0 x1 τ_8)) (
  wB v17_9 fun b_283 =>
  (s4k3 Q (cond b_283 (.bool true) skipV) v14_4 x0 x1 τ_8))

theorem s4_eq (Q : WK) (x0 x1 : Value) (σ : AHeap) : wfun P E F 4 [x0, x1] σ Q = s4 Q x0 x1 σ := by kernel_rfl

theorem s4_ev {Q : WK} {x0 x1 : Value} {σ : AHeap} (h : s4 Q x0 x1 σ) : E 4 [x0, x1] σ Q := E_of (by kernel_rfl) (Eq.mpr (s4_eq Q x0 x1 σ) h)

def s5k15 (Q : WK) (τ_69 : AHeap) : Prop :=
  Q (.bool true) τ_69

def s5k28 (N1 : Value → Value → Value → Value → Value → AHeap → Prop) (Q : WK) (p172_173 p5_174 p7_175 p46_176 p47_177 p48_178 p4_187 : Value) (τ_172 : AHeap) : Prop :=
  wC p172_173 (
  Q (.bool false) τ_172) (
  pu (aBin (some (.int .i64)) .add p48_178 (.int .i64 1)) fun v173_181 =>
  N1 p5_174 p7_175 p46_176 p47_177 v173_181 τ_172)

def s5k27 (N1 : Value → Value → Value → Value → Value → AHeap → Prop) (Q : WK) (p5_169 p7_188 p46_189 p47_190 p48_191 p4_192 : Value) (τ_168 : AHeap) : Prop :=
  pu (aBin (some (.pointer 88)) .eql p5_169 (.pointer none)) fun v166_170 =>
  wG v166_170 (
  (s5k28 N1 Q (.bool true) p5_169 p7_188 p46_189 p47_190 p48_191 p4_192 τ_168)) (
  E 35 [p5_169, p7_188] τ_168 fun v170_193 τ_194 =>
  pu (aUn .not v170_193) fun v171_195 =>
  (s5k28 N1 Q v171_195 p5_169 p7_188 p46_189 p47_190 p48_191 p4_192 τ_194)) (
  wB v166_170 fun b_197 =>
  (s5k28 N1 Q (cond b_197 (.bool true) skipV) p5_169 p7_188 p46_189 p47_190 p48_191 p4_192 τ_168))

def s5b2 (N1 : Value → Value → Value → Value → Value → AHeap → Prop) (N2 : Value → Value → Value → Value → Value → Value → Value → Value → AHeap → Prop) (Q : WK) (x5_114 x7_115 x11_116 x46_117 x47_118 x48_119 x74_120 x75_121 : Value) (τ_122 : AHeap) : Prop :=
  pu (aBin (some (.int .i64)) .lss x75_121 x74_120) fun v76_123 =>
  wC v76_123 (
  pu (aIndexAddr 1 x11_116 x75_121) fun v80_131 =>
  pu (aLoad false 1 v80_131 τ_122) fun v81_132 =>
  pu (aBin (some (.int .u8)) .xor v81_132 (.int .u8 255)) fun v82_133 =>
  pu (aIndexAddr 1 x11_116 x75_121) fun v83_134 =>
  pu (aStore 1 v83_134 v82_133 τ_122) fun τ_135 =>
  pu (aBin (some (.int .i64)) .add x75_121 (.int .i64 1)) fun v84_138 =>
  N2 x5_114 x7_115 x11_116 x46_117 x47_118 x48_119 x74_120 v84_138 τ_135) (
  (s5k27 N1 Q x5_114 x7_115 x46_117 x47_118 x48_119 undef τ_122))

def s5b3 (N1 : Value → Value → Value → Value → Value → AHeap → Prop) (N3 : Value → Value → Value → Value → Value → Value → Value → Value → AHeap → Prop) (Q : WK) (x5_259 x7_260 x13_261 x46_262 x47_263 x48_264 x111_265 x112_266 : Value) (τ_267 : AHeap) : Prop :=
  pu (aBin (some (.int .i64)) .lss x112_266 x111_265) fun v113_268 =>
  wC v113_268 (
  pu (aIndexAddr 1 x13_261 x112_266) fun v117_276 =>
  pu (aLoad false 1 v117_276 τ_267) fun v118_277 =>
  pu (aBin (some (.int .u8)) .xor v118_277 (.int .u8 255)) fun v119_278 =>
  pu (aIndexAddr 1 x13_261 x112_266) fun v120_279 =>
  pu (aStore 1 v120_279 v119_278 τ_267) fun τ_280 =>
  pu (aBin (some (.int .i64)) .add x112_266 (.int .i64 1)) fun v121_283 =>
  N3 x5_259 x7_260 x13_261 x46_262 x47_263 x48_264 x111_265 v121_283 τ_280) (
  (s5k27 N1 Q x5_259 x7_260 x46_262 x47_263 x48_264 undef τ_267))

def s5k33 (N1 : Value → Value → Value → Value → Value → AHeap → Prop) (Q : WK) (p109_249 p5_250 p7_251 p46_252 p47_253 p48_254 p13_328 : Value) (τ_248 : AHeap) : Prop :=
  wC p109_249 (
  Q (.bool false) τ_248) (
  pu (lenS p13_328) fun v111_257 =>
  ∃ I_313 : Nat → Value → Value → Value → Value → Value → Value → Value → Value → AHeap → Prop, (∃ m, I_313 m p5_250 p7_251 p13_328 p46_252 p47_253 p48_254 v111_257 (.int .i64 0) τ_248) ∧
  ∀ m (x5_259' x7_260' x13_261' x46_262' x47_263' x48_264' x111_265' x112_266' : Value) (σ' : AHeap), I_313 m x5_259' x7_260' x13_261' x46_262' x47_263' x48_264' x111_265' x112_266' σ' → (s5b3 N1 (fun x5_259' x7_260' x13_261' x46_262' x47_263' x48_264' x111_265' x112_266' σ' => ∃ m', m' < m ∧ I_313 m' x5_259' x7_260' x13_261' x46_262' x47_263' x48_264' x111_265' x112_266' σ') Q x5_259' x7_260' x13_261' x46_262' x47_263' x48_264' x111_265' x112_266' σ'))

def s5b1 (N1 : Value → Value → Value → Value → Value → AHeap → Prop) (Q : WK) (x5_41 x7_42 x46_43 x47_44 x48_45 : Value) (τ_46 : AHeap) : Prop :=
  pu (aBin (some (.int .i64)) .lss x48_45 x47_44) fun v49_47 =>
  wC v49_47 (
  pu (aIndexAddr 5 x46_43 x48_45) fun v51_53 =>
  pu (aLoad true 5 v51_53 τ_46) fun v52_54 =>
  wNew τ_46 (.cells [(.int .i64 0), (.int .i64 0), (.int .u8 0), (.slice none 0 0), (.bool false)] 30 false) fun b_55 τ_56 =>
  pu (aStore 5 (.pointer (some ⟨b_55, 0, none⟩)) v52_54 τ_56) fun τ_57 =>
  pu (aBin (some (.int .i64)) .eql x48_45 (.int .i64 200)) fun v54_60 =>
  wC v54_60 (
  (s5k15 Q τ_57)) (
  pu (aFieldAddr 0 (.pointer (some ⟨b_55, 0, none⟩))) fun v55_72 =>
  pu (aLoad false 1 v55_72 τ_57) fun v56_73 =>
  pu (aBin (some (.int .i64)) .eql v56_73 (.int .i64 0)) fun v58_76 =>
  wC v58_76 (
  pu (aLoad true 5 (.pointer (some ⟨b_55, 0, none⟩)) τ_57) fun v59_80 =>
  E 17 [v59_80] τ_57 fun v60_81 τ_82 =>
  pu (aFieldAddr 1 (.pointer (some ⟨b_55, 0, none⟩))) fun v62_86 =>
  pu (aLoad false 1 v62_86 τ_82) fun v63_87 =>
  pu (aFieldAddr 1 (.pointer (some ⟨b_55, 0, none⟩))) fun v67_90 =>
  pu (aLoad false 1 v67_90 τ_82) fun v68_91 =>
  pu (aLoad true 5 (.pointer (some ⟨b_55, 0, none⟩)) τ_82) fun v69_92 =>
  E 15 [x5_41, v63_87, v60_81] τ_82 fun v65_93 τ_94 =>
  pu (aLoad false 1 v67_90 τ_94) fun v68_95 =>
  veq1 v68_95 v68_91 = true ∧
  pu (aLoad true 5 (.pointer (some ⟨b_55, 0, none⟩)) τ_94) fun v69_96 =>
  veq1 v69_96 v69_92 = true ∧
  E 17 [v69_92] τ_94 fun v70_97 τ_98 =>
  pu (aLoad false 1 v67_90 τ_98) fun v68_99 =>
  veq1 v68_99 v68_91 = true ∧
  E 29 [x7_42, v68_91, v70_97] τ_98 fun v71_100 τ_101 =>
  pu (aBin (some (.int .i64)) .neq v65_93 v71_100) fun v72_102 =>
  wC v72_102 (
  Q (.bool false) τ_101) (
  pu (lenS v60_81) fun v74_112 =>
  ∃ I_198 : Nat → Value → Value → Value → Value → Value → Value → Value → Value → AHeap → Prop, (∃ m, I_198 m x5_41 x7_42 v60_81 x46_43 x47_44 x48_45 v74_112 (.int .i64 0) τ_101) ∧
  ∀ m (x5_114' x7_115' x11_116' x46_117' x47_118' x48_119' x74_120' x75_121' : Value) (σ' : AHeap), I_198 m x5_114' x7_115' x11_116' x46_117' x47_118' x48_119' x74_120' x75_121' σ' → (s5b2 N1 (fun x5_114' x7_115' x11_116' x46_117' x47_118' x48_119' x74_120' x75_121' σ' => ∃ m', m' < m ∧ I_198 m' x5_114' x7_115' x11_116' x46_117' x47_118' x48_119' x74_120' x75_121' σ') Q x5_114' x7_115' x11_116' x46_117' x47_118' x48_119' x74_120' x75_121' σ'))) (
  pu (aBin (some (.int .i64)) .eql v56_73 (.int .i64 1)) fun v86_223 =>
  wC v86_223 (
  pu (aFieldAddr 1 (.pointer (some ⟨b_55, 0, none⟩))) fun v89_228 =>
  pu (aLoad false 1 v89_228 τ_57) fun v90_229 =>
  E 20 [x5_41, v90_229] τ_57 fun v91_230 τ_231 =>
  pu (aExtract v91_230 0) fun v92_232 =>
  pu (aExtract v91_230 1) fun v93_233 =>
  pu (aFieldAddr 1 (.pointer (some ⟨b_55, 0, none⟩))) fun v96_237 =>
  pu (aLoad false 1 v96_237 τ_231) fun v97_238 =>
  E 30 [x7_42, v97_238] τ_231 fun v98_239 τ_240 =>
  pu (aExtract v98_239 0) fun v99_241 =>
  pu (aExtract v98_239 1) fun v100_242 =>
  pu (aBin (some (.int .i64)) .neq v93_233 v100_242) fun v103_246 =>
  wG v103_246 (
  (s5k33 N1 Q (.bool true) x5_41 x7_42 x46_43 x47_44 x48_45 v92_232 τ_240)) (
  E 23 [v92_232, v99_241] τ_240 fun v107_336 τ_337 =>
  pu (aUn .not v107_336) fun v108_338 =>
  (s5k33 N1 Q v108_338 x5_41 x7_42 x46_43 x47_44 x48_45 v92_232 τ_337)) (
  wB v103_246 fun b_340 =>
  (s5k33 N1 Q (cond b_340 (.bool true) skipV) x5_41 x7_42 x46_43 x47_44 x48_45 v92_232 τ_240))) (
  pu (aBin (some (.int .i64)) .eql v56_73 (.int .i64 2)) fun v123_352 =>
  wC v123_352 (
  E 18 [x5_41] τ_57 fun v125_356 τ_357 =>
  E 31 [x7_42] τ_357 fun v127_359 τ_360 =>
  pu (aBin (some (.int .i64)) .neq v125_356 v127_359) fun v128_361 =>
  wC v128_361 (
  Q (.bool false) τ_360) (
  (s5k27 N1 Q x5_41 x7_42 x46_43 x47_44 x48_45 undef τ_360))) (
  pu (aBin (some (.int .i64)) .eql v56_73 (.int .i64 3)) fun v130_375 =>
  wC v130_375 (
  pu (aFieldAddr 1 (.pointer (some ⟨b_55, 0, none⟩))) fun v132_380 =>
  pu (aLoad false 1 v132_380 τ_57) fun v133_381 =>
  E 25 [x5_41, v133_381] τ_57 fun v134_382 τ_383 =>
  pu (aFieldAddr 1 (.pointer (some ⟨b_55, 0, none⟩))) fun v136_387 =>
  pu (aLoad false 1 v136_387 τ_383) fun v137_388 =>
  E 32 [x7_42, v137_388] τ_383 fun v138_389 τ_390 =>
  (s5k27 N1 Q x5_41 x7_42 x46_43 x47_44 x48_45 undef τ_390)) (
  pu (aBin (some (.int .i64)) .eql v56_73 (.int .i64 4)) fun v140_402 =>
  wC v140_402 (
  pu (aFieldAddr 3 (.pointer (some ⟨b_55, 0, none⟩))) fun v143_407 =>
  pu (aLoad false 1 v143_407 τ_57) fun v144_408 =>
  pu (aAppend 5 1 1 (.slice (some ⟨ZB, 0, some 0⟩) 0 0) v144_408 τ_57) fun r145_409 =>
  E 22 [x5_41, r145_409.1] r145_409.2 fun v146_410 τ_411 =>
  pu (aFieldAddr 3 (.pointer (some ⟨b_55, 0, none⟩))) fun v148_415 =>
  pu (aLoad false 1 v148_415 τ_411) fun v149_416 =>
  E 33 [x7_42, v149_416] τ_411 fun v150_417 τ_418 =>
  (s5k27 N1 Q x5_41 x7_42 x46_43 x47_44 x48_45 undef τ_418)) (
  pu (aBin (some (.int .i64)) .eql v56_73 (.int .i64 5)) fun v152_430 =>
  wC v152_430 (
  E 34 [x5_41] τ_57 fun v154_434 τ_435 =>
  E 26 [(.int .u8 99)] τ_435 fun v156_438 τ_439 =>
  E 15 [x5_41, (.int .i64 0), v156_438] τ_439 fun v157_440 τ_441 =>
  E 18 [x5_41] τ_441 fun v159_444 τ_445 =>
  E 22 [x5_41, (.slice none 0 0)] τ_445 fun v161_448 τ_449 =>
  E 25 [x5_41, (.int .i64 1)] τ_449 fun v163_452 τ_453 =>
  (s5k27 N1 Q v154_434 x7_42 x46_43 x47_44 x48_45 undef τ_453)) (
  (s5k27 N1 Q x5_41 x7_42 x46_43 x47_44 x48_45 undef τ_57))))))))) (
  (s5k15 Q τ_46))

def s5k4 (Q : WK) (p35_19 p8_545 p5_546 p0_547 p1_548 p7_549 : Value) (τ_18 : AHeap) : Prop :=
  wC p35_19 (
  Q (.bool false) τ_18) (
  pu (aBin (some (.int .i64)) .neq p8_545 (.int .i64 0)) fun v37_22 =>
  wC v37_22 (
  pu (aBin (some (.pointer 88)) .eql p5_546 (.pointer none)) fun v39_26 =>
  Q v39_26 τ_18) (
  pu (aBin (some (.int .i64)) .gtr p0_547 (.int .i64 12)) fun v41_29 =>
  wC v41_29 (
  E 28 [p5_546] τ_18 fun v43_33 τ_34 =>
  pu (aBin (some (.int .i64)) .eql v43_33 p0_547) fun v45_36 =>
  Q v45_36 τ_34) (
  pu (lenS p1_548) fun v47_39 =>
  ∃ I_524 : Nat → Value → Value → Value → Value → Value → AHeap → Prop, (∃ m, I_524 m p5_546 p7_549 p1_548 v47_39 (.int .i64 0) τ_18) ∧
  ∀ m (x5_41' x7_42' x46_43' x47_44' x48_45' : Value) (σ' : AHeap), I_524 m x5_41' x7_42' x46_43' x47_44' x48_45' σ' → (s5b1 (fun x5_41' x7_42' x46_43' x47_44' x48_45' σ' => ∃ m', m' < m ∧ I_524 m' x5_41' x7_42' x46_43' x47_44' x48_45' σ') Q x5_41' x7_42' x46_43' x47_44' x48_45' σ'))))

/-- cistern/cisternlaw03.DiskPlays -/
def s5 (Q : WK) (x0 x1 : Value) (σ : AHeap) : Prop :=
  E 13 [x0] σ fun v21_3 τ_4 =>
  pu (aExtract v21_3 0) fun v22_5 =>
  pu (aExtract v21_3 1) fun v23_6 =>
  E 27 [x0] τ_4 fun v26_9 τ_10 =>
  pu (aExtract v26_9 0) fun v27_11 =>
  pu (aExtract v26_9 1) fun v28_12 =>
  E 14 [] τ_10 fun v29_14 τ_15 =>
  pu (aUn .not v29_14) fun v30_16 =>
  wG v30_16 (
  (s5k4 Q (.bool true) v28_12 v22_5 x0 x1 v27_11 τ_15)) (
  pu (aBin (some (.int .i64)) .neq v23_6 v28_12) fun v34_556 =>
  (s5k4 Q v34_556 v28_12 v22_5 x0 x1 v27_11 τ_15)) (
  wB v30_16 fun b_558 =>
  (s5k4 Q (cond b_558 (.bool true) skipV) v28_12 v22_5 x0 x1 v27_11 τ_15))

theorem s5_eq (Q : WK) (x0 x1 : Value) (σ : AHeap) : wfun P E F 5 [x0, x1] σ Q = s5 Q x0 x1 σ := by kernel_rfl

theorem s5_ev {Q : WK} {x0 x1 : Value} {σ : AHeap} (h : s5 Q x0 x1 σ) : E 5 [x0, x1] σ Q := E_of (by kernel_rfl) (Eq.mpr (s5_eq Q x0 x1 σ) h)

def s63b1 (N1 : Value → Value → Value → Value → AHeap → Prop) (Q : WK) (x7_67 x8_68 x9_69 x10_70 : Value) (τ_71 : AHeap) : Prop :=
  pu (aBin (some (.int .i64)) .lss x10_70 x7_67) fun v63_72 =>
  wC v63_72 (
  pu (aMin2 x10_70 x8_68) fun v66_78 =>
  pu (aSlice 1 x9_69 (some x10_70) none none) fun v70_82 =>
  pu (aSlice 1 x9_69 none (some v66_78) none) fun v73_84 =>
  pu (aCopy 1 v70_82 v73_84 τ_71) fun r74_85 =>
  pu (aBin (some (.int .i64)) .add x10_70 r74_85.1) fun v75_86 =>
  N1 x7_67 x8_68 x9_69 v75_86 r74_85.2) (
  Q x9_69 τ_71)

def s63k16 (Q : WK) (p7_58 p0_105 p8_106 : Value) (τ_57 : AHeap) : Prop :=
  E 100 [p7_58] τ_57 fun v54_59 τ_60 =>
  pu (aSlice 1 v54_59 none (some p7_58) (some p7_58)) fun v57_61 =>
  pu (aCopy 1 v57_61 p0_105 τ_60) fun r60_65 =>
  ∃ I_97 : Nat → Value → Value → Value → Value → AHeap → Prop, (∃ m, I_97 m p7_58 p8_106 v57_61 r60_65.1 r60_65.2) ∧
  ∀ m (x7_67' x8_68' x9_69' x10_70' : Value) (σ' : AHeap), I_97 m x7_67' x8_68' x9_69' x10_70' σ' → (s63b1 (fun x7_67' x8_68' x9_69' x10_70' σ' => ∃ m', m' < m ∧ I_97 m' x7_67' x8_68' x9_69' x10_70' σ') Q x7_67' x8_68' x9_69' x10_70' σ')

def s63k7 (Q : WK) (p32_27 p6_120 p0_121 : Value) (τ_26 : AHeap) : Prop :=
  wC p32_27 (
  pu (aIface P 9 (.string ⟨#[98, 121, 116, 101, 115, 58, 32, 82, 101, 112, 101, 97, 116, 32, 111, 117, 116, 112, 117, 116, 32, 108, 101, 110, 103, 116, 104, 32, 111, 118, 101, 114, 102, 108, 111, 119]⟩)) fun v33_28 =>
  False) (
  pu (convI .i64 p6_120) fun v35_31 =>
  pu (lenS p0_121) fun v37_34 =>
  pu (aBin (some (.int .i64)) .eql v37_34 (.int .i64 0)) fun v38_35 =>
  wC v38_35 (
  Q (.slice (some ⟨ZB, 0, some 0⟩) 0 0) τ_26) (
  pu (aBin (some (.int .i64)) .gtr v35_31 (.int .i64 8192)) fun v42_42 =>
  wC v42_42 (
  pu (lenS p0_121) fun v44_46 =>
  pu (aBin (some (.int .i64)) .quo (.int .i64 8192) v44_46) fun v45_47 =>
  pu (lenS p0_121) fun v47_48 =>
  pu (aBin (some (.int .i64)) .mul v45_47 v47_48) fun v48_49 =>
  pu (aBin (some (.int .i64)) .eql v48_49 (.int .i64 0)) fun v50_52 =>
  wC v50_52 (
  pu (lenS p0_121) fun v52_56 =>
  (s63k16 Q v35_31 p0_121 v52_56 τ_26)) (
  (s63k16 Q v35_31 p0_121 v48_49 τ_26))) (
  (s63k16 Q v35_31 p0_121 v35_31 τ_26))))

/-- bytes.Repeat -/
def s63 (Q : WK) (x0 x1 : Value) (σ : AHeap) : Prop :=
  pu (aBin (some (.int .i64)) .eql x1 (.int .i64 0)) fun v13_3 =>
  wC v13_3 (
  Q (.slice (some ⟨ZB, 0, some 0⟩) 0 0) σ) (
  pu (aBin (some (.int .i64)) .lss x1 (.int .i64 0)) fun v16_8 =>
  wC v16_8 (
  pu (aIface P 9 (.string ⟨#[98, 121, 116, 101, 115, 58, 32, 110, 101, 103, 97, 116, 105, 118, 101, 32, 82, 101, 112, 101, 97, 116, 32, 99, 111, 117, 110, 116]⟩)) fun v17_11 =>
  False) (
  pu (lenS x0) fun v20_14 =>
  pu (convI .u64 v20_14) fun v21_15 =>
  pu (convI .u64 x1) fun v23_17 =>
  E 99 [v21_15, v23_17] σ fun v24_18 τ_19 =>
  pu (aExtract v24_18 0) fun v25_20 =>
  pu (aExtract v24_18 1) fun v26_21 =>
  pu (aBin (some (.int .u64)) .gtr v25_20 (.int .u64 0)) fun v28_24 =>
  wG v28_24 (
  (s63k7 Q (.bool true) v26_21 x0 τ_19)) (
  pu (aBin (some (.int .u64)) .gtr v26_21 (.int .u64 9223372036854775807)) fun v31_124 =>
  (s63k7 Q v31_124 v26_21 x0 τ_19)) (
  wB v28_24 fun b_126 =>
  (s63k7 Q (cond b_126 (.bool true) skipV) v26_21 x0 τ_19))))

theorem s63_eq (Q : WK) (x0 x1 : Value) (σ : AHeap) : wfun P E F 63 [x0, x1] σ Q = s63 Q x0 x1 σ := by kernel_rfl

theorem s63_ev {Q : WK} {x0 x1 : Value} {σ : AHeap} (h : s63 Q x0 x1 σ) : E 63 [x0, x1] σ Q := E_of (by kernel_rfl) (Eq.mpr (s63_eq Q x0 x1 σ) h)

/-- math/bits.Mul -/
def s99 (Q : WK) (x0 x1 : Value) (σ : AHeap) : Prop :=
  E 114 [x0, x1] σ fun v25_5 τ_6 =>
  pu (aExtract v25_5 0) fun v26_7 =>
  pu (aExtract v25_5 1) fun v27_8 =>
  Q (.tuple #[v26_7, v27_8]) τ_6

theorem s99_eq (Q : WK) (x0 x1 : Value) (σ : AHeap) : wfun P E F 99 [x0, x1] σ Q = s99 Q x0 x1 σ := by kernel_rfl

theorem s99_ev {Q : WK} {x0 x1 : Value} {σ : AHeap} (h : s99 Q x0 x1 σ) : E 99 [x0, x1] σ Q := E_of (by kernel_rfl) (Eq.mpr (s99_eq Q x0 x1 σ) h)

/-- math/bits.Mul64 -/
def s114 (Q : WK) (x0 x1 : Value) (σ : AHeap) : Prop :=
  pu (aBin (some (.int .u64)) .and x0 (.int .u64 4294967295)) fun v15_3 =>
  pu (aBin (some (.int .u64)) .shr x0 (.int .u64 32)) fun v17_6 =>
  pu (aBin (some (.int .u64)) .and x1 (.int .u64 4294967295)) fun v19_9 =>
  pu (aBin (some (.int .u64)) .shr x1 (.int .u64 32)) fun v21_12 =>
  pu (aBin (some (.int .u64)) .mul v15_3 v19_9) fun v24_16 =>
  pu (aBin (some (.int .u64)) .mul v17_6 v19_9) fun v27_20 =>
  pu (aBin (some (.int .u64)) .shr v24_16 (.int .u64 32)) fun v29_22 =>
  pu (aBin (some (.int .u64)) .add v27_20 v29_22) fun v30_23 =>
  pu (aBin (some (.int .u64)) .and v30_23 (.int .u64 4294967295)) fun v32_26 =>
  pu (aBin (some (.int .u64)) .shr v30_23 (.int .u64 32)) fun v34_29 =>
  pu (aBin (some (.int .u64)) .mul v15_3 v21_12) fun v38_34 =>
  pu (aBin (some (.int .u64)) .add v32_26 v38_34) fun v39_35 =>
  pu (aBin (some (.int .u64)) .mul v17_6 v21_12) fun v42_39 =>
  pu (aBin (some (.int .u64)) .add v42_39 v34_29) fun v44_41 =>
  pu (aBin (some (.int .u64)) .shr v39_35 (.int .u64 32)) fun v46_43 =>
  pu (aBin (some (.int .u64)) .add v44_41 v46_43) fun v47_44 =>
  pu (aBin (some (.int .u64)) .mul x0 x1) fun v50_48 =>
  Q (.tuple #[v47_44, v50_48]) σ

theorem s114_eq (Q : WK) (x0 x1 : Value) (σ : AHeap) : wfun P E F 114 [x0, x1] σ Q = s114 Q x0 x1 σ := by kernel_rfl

theorem s114_ev {Q : WK} {x0 x1 : Value} {σ : AHeap} (h : s114 Q x0 x1 σ) : E 114 [x0, x1] σ Q := E_of (by kernel_rfl) (Eq.mpr (s114_eq Q x0 x1 σ) h)

end Go.Ax.YtfeamgocomlepaaC
/- Contracts of small functions: clones, equality of bytes, blocks of one byte. No statement of the seat is proved here. -/
set_option maxRecDepth 100000
namespace Go.Ax.YtfeamgocomlepaaC
open Go.Proofs

variable {l : List Assn} {σ : AHeap} {Q : WK}

theorem clone_ok {a : Option Addr} {n c : Nat} {bs : List UInt8} (h : H l σ) (hs : srcOf 1 (.slice a n c) σ = some (n, bv bs)) (hn : n ≤ 1099511627776)
    (hk : ∀ v σ', H (l ++ [Own 5 1 v n (bv bs)]) σ' → Q v σ') : E 67 [.slice a n c] σ Q := by
  apply s67_ev; unfold s67
  cases a with
  | none =>
    simp
    have : n = 0 ∧ bs = [] := by
      simp only [srcOf] at hs
      split at hs
      · rename_i e; subst e
        simp only [Option.some.injEq, Prod.mk.injEq] at hs
        exact ⟨rfl, by have := congrArg List.length hs.2; simpa using this.symm⟩
      · cases hs
    obtain ⟨rfl, rfl⟩ := this
    exact hk _ _ (h.own_nil 5 1)
  | some a =>
    simp
    refine append_own (n := 0) (xs := []) (h.own_zb 5 1) l.length (by simp) hs (by omega) (by omega) (bv_one _) ?_
    intro v' σ' h'
    simp at h'
    exact hk _ _ h'

theorem equal_ok {a a' : Option Addr} {n c n' c' : Nat} {x y : List UInt8} (hx : srcOf 1 (.slice a n c) σ = some (n, bv x)) (hy : srcOf 1 (.slice a' n' c') σ = some (n', bv y))
    (hk : Q (.bool (decide (x = y))) σ) : E 23 [.slice a n c, .slice a' n' c'] σ Q := by
  apply s23_ev; unfold s23
  have h1 : ∀ a n c, aConv P 23 9 (.slice a n c) σ = aBytesStr (.slice a n c) σ := fun a n c => by kernel_rfl
  rw [h1, h1, bytesStr_src hx, bytesStr_src hy]
  simp [aBin, aStr, ByteArray.toList_eq]
  have : (x == y) = decide (x = y) := by by_cases e : x = y <;> simp [e]
  rw [this]; exact hk
theorem mul_256 (hk : Q (.tuple #[.int .u64 0, .int .u64 256]) σ) : E 99 [.int .u64 1, .int .u64 256] σ Q := by
  apply s99_ev; unfold s99
  apply s114_ev; unfold s114
  have e : ∀ (d : Option TypeDesc) (a b : Int), aBin d .shr (.int .u64 a) (.int .u64 b) = aShift .shr .u64 a b := fun _ _ _ => rfl
  simp [e, aShift, IntKind.wrap, IntKind.bits, IntKind.signed]
  exact hk

theorem rep_ok {sb e : Nat} {opn : Bool} {b : UInt8} (h : H l σ) (j : Nat) (hj : l[j]? = some (pt sb (.cells [by8 b] e opn))) (hk : ∀ v σ', H (l ++ [Own 5 1 v 256 (bv (List.replicate 256 b))]) σ' → Q v σ') : E 63 [.slice (some ⟨sb, 0, none⟩) 1 1, .int .i64 256] σ Q := by
  apply s63_ev; unfold s63
  simp [IntKind.wrap, IntKind.bits, IntKind.signed]
  refine mul_256 ?_
  simp
  unfold s63k7
  simp [IntKind.wrap, IntKind.bits, IntKind.signed]
  unfold s63k16
  refine noZero_ok (H_one.2 h) (by omega) ?_
  intro B σ1 h1
  have e1 : aSlice 1 (.slice (some ⟨B, 0, none⟩) (Int.toNat 256) (OPEN * 1 + Int.toNat 256)) none (some (.int .i64 256)) (some (.int .i64 256)) = some (.slice (some ⟨B, 0, none⟩) 256 256) := by
    simp [aSlice, bnd, bndO, known, OPEN, add_mk]
  simp only [e1, pu_some]
  have hU : (List.replicate (Int.toNat 256) undef).length = 256 := by rw [List.length_replicate]; rfl
  generalize List.replicate (Int.toNat 256) undef = U at h1 hU
  have hs : srcOf 1 (.slice (some ⟨sb, 0, none⟩) (Nat.min 1 256) 1) σ1 = some (1, bv [b]) := by
    rw [show Nat.min 1 256 = 1 from rfl, src_row ((h1.beside 0 rfl).row j hj) (by simp)]; rfl
  refine copy_ok (o := 0) h1 1 rfl hs (bv_one _) (by simp; omega) ?_
  intro σ2 h2
  refine ⟨fun m x7 x8 x9 x10 τ => ∃ k : Nat, m = 256 - k ∧ 1 ≤ k ∧ k ≤ 256 ∧ x7 = .int .i64 256 ∧ x8 = .int .i64 256 ∧ x9 = .slice (some ⟨B, 0, none⟩) 256 256 ∧ x10 = .int .i64 k ∧
    H [Star l, pt B (.cells (bv (List.replicate k b) ++ U.drop k) 5 true)] τ, ⟨_, 1, rfl, by omega, by omega, rfl, rfl, rfl, rfl, ?_⟩, ?_⟩
  · exact h2
  · rintro m _ _ _ _ τ ⟨k, rfl, hk1, hk2, rfl, rfl, rfl, rfl, h⟩
    suffices hb : ∀ N : Value → Value → Value → Value → AHeap → Prop, (∀ τ' k', k < k' → k' ≤ 256 → k < 256 → H [Star l, pt B (.cells (bv (List.replicate k' b) ++ U.drop k') 5 true)] τ' →
        N (.int .i64 256) (.int .i64 256) (.slice (some ⟨B, 0, none⟩) 256 256) (.int .i64 k') τ') → s63b1 N Q (.int .i64 256) (.int .i64 256) (.slice (some ⟨B, 0, none⟩) 256 256) (.int .i64 k) τ from
      hb _ fun τ' k' hlt h256 hk' h' => ⟨_, by omega, k', rfl, by omega, h256, rfl, rfl, rfl, rfl, h'⟩
    intro N hN
    unfold s63b1
    simp
    refine wC_dec (fun hlt => ?_) fun hlt => ?_
    · have e2 : (if (256 : Int) < k then (256 : Int) else k) = k := by rw [if_neg (by omega)]
      obtain ⟨c1, hs1, _⟩ := slice_from (z := 1) (b := B) (o := 0) (n := 256) (c := 256) (lo := (k : Int)) (k := .i64) (CapOk.exact (by unfold OPEN; omega)) (by omega)
      obtain ⟨c2, hs2, _⟩ := slice_to (z := 1) (b := B) (o := 0) (n := 256) (c := 256) (hi := (k : Int)) (k := .i64) (CapOk.exact (by unfold OPEN; omega)) (by omega) (by omega)
      simp [e2, hs1, hs2]
      have hrow := h.row 1 rfl
      generalize hmm : Nat.min k (256 - k) = mm
      have hmm1 : mm ≤ k ∧ mm ≤ 256 - k ∧ 0 < mm := by
        have h3 : Nat.min k (256 - k) = k ∨ Nat.min k (256 - k) = 256 - k := by
          rcases Nat.le_total k (256 - k) with q | q
          · left; exact Nat.min_eq_left q
          · right; exact Nat.min_eq_right q
        subst hmm
        refine ⟨Nat.min_le_left k (256 - k), Nat.min_le_right k (256 - k), by omega⟩
      have hs3 : srcOf 1 (.slice (some ⟨B, 0, none⟩) (Nat.min k (256 - k)) c2) τ = some (mm, bv (List.replicate mm b)) := by
        rw [hmm, src_row hrow (by simp; omega)]
        simp [List.take_append_of_le_length, hmm1.1]
      refine copy_ok h 1 rfl hs3 (bv_one _) (by simp; omega) ?_
      intro σ3 h3
      simp
      rw [wrap_i64 (by omega)]
      have := hN σ3 (k + mm) (by omega) (by omega) (by omega) (by
        have e4 : splice (bv (List.replicate k b) ++ U.drop k) k (bv (List.replicate mm b)) = bv (List.replicate (k + mm) b) ++ U.drop (k + mm) := by
          rw [splice_mid _ _ _ _ (by simp) (by simp; omega)]
          simp [← bv_append, List.replicate_append_replicate]
        rw [e4] at h3; exact h3)
      simpa using this
    · obtain rfl : k = 256 := by omega
      rw [List.drop_of_length_le (by omega), List.append_nil] at h
      exact hk _ _ (H_app.2 (h.to_own 1 rfl (n := 256) (z := 1) (by simp only [bv_length, List.length_replicate]) (by unfold OPEN; omega)))

theorem full_ok {b : UInt8} (h : H l σ) (hk : ∀ v σ', H (l ++ [Own 5 1 v 256 (bv (List.replicate 256 b))]) σ' → Q v σ') : E 26 [by8 b] σ Q := by
  apply s26_ev; unfold s26
  refine buildS_ok (H_one.2 h) (by rfl) (cs := [by8 b]) (by simp [reps, splice, by8]) ?_
  intro B σ1 h1
  refine rep_ok h1 1 rfl ?_
  intro v σ2 h2
  exact hk _ _ (H_app.2 (h2.pick [0, 2] (by decide)))
end Go.Ax.YtfeamgocomlepaaC
/- A disk, in plain words: what lasts, what is in flight. No program here. No statement of the seat is proved here. -/
namespace Go.Ax

def put (l : List UInt8) (a : Nat) (x : List UInt8) : List UInt8 := l.take a ++ x ++ l.drop (a + x.length)
theorem put_length (l : List UInt8) (a : Nat) (x : List UInt8) (h : a + x.length ≤ l.length) : (put l a x).length = l.length := by
  simp [put]; omega
theorem put_nil (l : List UInt8) (a : Nat) : put l a [] = l := by simp [put]
theorem splice_put (l x : List UInt8) (a : Nat) : splice (bv l) a (bv x) = bv (put l a x) := by simp [splice, put]

abbrev Flight := Nat × List UInt8
structure DM where
  last : List UInt8
  fly : List Flight
  fuse : Nat
  off : Bool

structure FlyOk (n : Nat) (f : Flight) : Prop where
  len : f.2.length = 64
  fit : f.1 + 64 ≤ 256 * n
  al : f.1 % 64 = 0
structure DM.Ok (D : DM) (n : Nat) : Prop where
  lo : 1 ≤ n
  hi : n ≤ 1024
  len : D.last.length = 256 * n
  fly : ∀ f ∈ D.fly, FlyOk n f

def laid (l : List UInt8) (fs : List Flight) : List UInt8 := fs.foldl (fun l f => put l f.1 f.2) l
/-- What is laid of a sector write at a crash. -/
def cutOf (picks : List UInt8) (k : Nat) : Nat :=
  match picks[k]? with
  | none => 0
  | some p => if p.toNat = 0 then 0 else if p.toNat = 1 then 64 else (p.toNat - 2) % 65
def crashed (picks : List UInt8) : List UInt8 → Nat → List Flight → List UInt8
  | l, _, [] => l
  | l, k, f :: fs => crashed picks (put l f.1 (f.2.take (cutOf picks k))) (k + 1) fs
/-- What is in flight over a block. -/
def over (from' : Nat) (out : List UInt8) (fs : List Flight) : List UInt8 := fs.foldl (fun out f => if from' ≤ f.1 ∧ f.1 < from' + 256 then put out (f.1 - from') f.2 else out) out
/-- A block's sector writes. -/
def parts (at' : Nat) (b : List UInt8) : List Flight := [(at' * 256, (b.drop 0).take 64), (at' * 256 + 64, (b.drop 64).take 64), (at' * 256 + 128, (b.drop 128).take 64), (at' * 256 + 192, (b.drop 192).take 64)]

namespace DM
def new (n : Nat) : DM := ⟨List.replicate (256 * n) 0, [], 0, false⟩
def ready (D : DM) (at' : Int) : Int := if D.off then 9 else if at' < 0 ∨ (D.last.length / 256 : Nat) ≤ at' then 6 else 0
/-- Behind the fuse: does the power stay? -/
def burn (D : DM) : DM × Bool := if D.fuse = 0 then (D, true) else if D.fuse = 1 then ({ D with fuse := 0, off := true }, false) else ({ D with fuse := D.fuse - 1 }, true)
def land (D : DM) : DM := { D with last := laid D.last D.fly, fly := [] }
def fling (D : DM) (at' : Nat) (b : List UInt8) : DM := { D with fly := D.fly ++ parts at' b }
def write (D : DM) (at' : Int) (b : List UInt8) : DM × Int :=
  if D.ready at' ≠ 0 then (D, D.ready at') else if b.length ≠ 256 then (D, 1) else if D.burn.2 then (D.burn.1.fling at'.toNat b, 0) else (D.burn.1, 9)
def barrier (D : DM) : DM × Int := if D.ready 0 ≠ 0 then (D, D.ready 0) else if D.burn.2 then (D.burn.1.land, 0) else (D.burn.1, 9)
def block (D : DM) (at' : Nat) : List UInt8 := over (at' * 256) ((D.last.drop (at' * 256)).take 256) D.fly
def setFuse (D : DM) (n : Int) : DM := { D with fuse := n.toNat }
def crash (D : DM) (picks : List UInt8) : DM := ⟨crashed picks D.last 0 D.fly, [], 0, false⟩
end DM

theorem laid_length {n : Nat} : ∀ (fs : List Flight) (l : List UInt8), l.length = 256 * n → (∀ f ∈ fs, FlyOk n f) → (laid l fs).length = 256 * n
  | [], l, h, _ => h
  | f :: fs, l, h, hf => laid_length fs (put l f.1 f.2) (by
      have h1 := hf f (by simp)
      rw [put_length _ _ _ (by have := h1.len; have := h1.fit; omega), h]) fun g hg => hf g (by simp [hg])
theorem laid_take (l : List UInt8) (fs : List Flight) (k : Nat) (f : Flight) (h : fs[k]? = some f) : laid l (fs.take (k + 1)) = put (laid l (fs.take k)) f.1 f.2 := by
  rw [List.take_add_one, h]; simp [laid]
theorem over_take (a : Nat) (l : List UInt8) (fs : List Flight) (k : Nat) (f : Flight) (h : fs[k]? = some f) :
    over a l (fs.take (k + 1)) = if a ≤ f.1 ∧ f.1 < a + 256 then put (over a l (fs.take k)) (f.1 - a) f.2 else over a l (fs.take k) := by
  rw [List.take_add_one, h]; simp [over]
theorem crashed_snoc (picks : List UInt8) : ∀ (fs : List Flight) (l : List UInt8) (j : Nat) (f : Flight), crashed picks l j (fs ++ [f]) = put (crashed picks l j fs) f.1 (f.2.take (cutOf picks (j + fs.length)))
  | [], l, j, f => by simp [crashed]
  | g :: fs, l, j, f => by
    simp only [List.cons_append, crashed, crashed_snoc picks fs, List.length_cons]
    rw [show j + 1 + fs.length = j + (fs.length + 1) by omega]
theorem crashed_take (picks l : List UInt8) (fs : List Flight) (k : Nat) (f : Flight) (h : fs[k]? = some f) :
    crashed picks l 0 (fs.take (k + 1)) = put (crashed picks l 0 (fs.take k)) f.1 (f.2.take (cutOf picks k)) := by
  have hk := (List.getElem?_eq_some_iff.1 h).1
  rw [List.take_add_one, h]
  simp only [Option.toList_some, crashed_snoc, List.length_take, Nat.min_eq_left (Nat.le_of_lt hk), Nat.zero_add]
theorem crashed_length {n : Nat} (picks : List UInt8) : ∀ (fs : List Flight) (l : List UInt8) (j : Nat), l.length = 256 * n → (∀ f ∈ fs, FlyOk n f) → (crashed picks l j fs).length = 256 * n
  | [], l, j, h, _ => h
  | f :: fs, l, j, h, hf => crashed_length picks fs _ (j + 1) (by
      have h1 := hf f (by simp)
      rw [put_length _ _ _ (by have := h1.len; have := h1.fit; simp; omega), h]) fun g hg => hf g (by simp [hg])
theorem over_length (a : Nat) : ∀ (fs : List Flight) (l : List UInt8), l.length = 256 → (∀ f ∈ fs, f.2.length = 64) → (∀ f ∈ fs, a ≤ f.1 → f.1 < a + 256 → f.1 + 64 ≤ a + 256) → (over a l fs).length = 256
  | [], l, h, _, _ => h
  | f :: fs, l, h, hf, hg => by
    have h1 := hf f (by simp)
    have h2 := hg f (by simp)
    have ih := over_length a fs (if a ≤ f.1 ∧ f.1 < a + 256 then put l (f.1 - a) f.2 else l) (by
      split
      · rename_i hc
        have := h2 hc.1 hc.2
        rw [put_length _ _ _ (by omega), h]
      · exact h) (fun g hh => hf g (by simp [hh])) (fun g hh => hg g (by simp [hh]))
    exact ih
end Go.Ax
/- A disk in memory, and contracts of the disk's functions. No statement of the seat is proved here. -/
set_option maxRecDepth 100000
namespace Go.Ax.YtfeamgocomlepaaC
open Go.Proofs

variable {l : List Assn} {σ : AHeap} {Q : WK}

/-- The cells of flights. -/
def flc : List Flight → List Value → List Value
  | f :: fs, s :: ss => .int .i64 (f.1 : Nat) :: s :: flc fs ss
  | _, _ => []
def FlyA : List Flight → List Value → Assn
  | f :: fs, s :: ss => sep (RoB s f.2) (FlyA fs ss)
  | _, _ => emp
theorem flc_get : ∀ (fs : List Flight) (ss : List Value) (k : Nat) (f : Flight) (s : Value), fs[k]? = some f → ss[k]? = some s → ((flc fs ss).drop (k * 2)).take 2 = [.int .i64 (f.1 : Nat), s]
  | [], _, k, f, s, h, _ => by simp at h
  | _ :: _, [], k, f, s, _, h => by simp at h
  | f :: fs, s :: ss, 0, f', s', h, h' => by simp at h h'; subst h; subst h'; simp [flc]
  | f :: fs, s :: ss, k + 1, f', s', h, h' => by
    simp at h h'
    have := flc_get fs ss k f' s' h h'
    simp only [flc]
    rw [show (k + 1) * 2 = k * 2 + 1 + 1 by omega, List.drop_succ_cons, List.drop_succ_cons]
    exact this
theorem flc_append : ∀ (fs : List Flight) (ss : List Value) (gs : List Flight) (ts : List Value), fs.length = ss.length → flc (fs ++ gs) (ss ++ ts) = flc fs ss ++ flc gs ts
  | [], [], gs, ts, _ => rfl
  | [], _ :: _, gs, ts, h => by simp at h
  | _ :: _, [], gs, ts, h => by simp at h
  | f :: fs, s :: ss, gs, ts, h => by simp [flc, flc_append fs ss gs ts (by simpa using h)]
theorem FlyA.dup : ∀ (fs : List Flight) (ss : List Value), Dup (FlyA fs ss)
  | [], _ => by simpa [FlyA] using Dup.emp
  | _ :: _, [] => by simpa [FlyA] using Dup.emp
  | f :: fs, s :: ss => Dup.sep (RoB.dup _ _) (FlyA.dup fs ss)
theorem FlyA_append : ∀ (fs : List Flight) (ss : List Value) (gs : List Flight) (ts : List Value), fs.length = ss.length → FlyA (fs ++ gs) (ss ++ ts) = sep (FlyA fs ss) (FlyA gs ts)
  | [], [], gs, ts, _ => by simp [FlyA, emp_sep]
  | [], _ :: _, gs, ts, h => by simp at h
  | _ :: _, [], gs, ts, h => by simp at h
  | f :: fs, s :: ss, gs, ts, h => by simp [FlyA, FlyA_append fs ss gs ts (by simpa using h), sep_assoc]
theorem fly0 : ∀ {fs : List Flight} {ss : List Value} {l : List Assn} {σ : AHeap} {k : Nat} {f : Flight} {s : Value}, H (FlyA fs ss :: l) σ → fs[k]? = some f → ss[k]? = some s → H (RoB s f.2 :: l) σ
  | [], _, l, σ, k, f, s, h, hf, hs => by simp at hf
  | _ :: _, [], l, σ, k, f, s, h, hf, hs => by simp at hs
  | f :: fs, s :: ss, l, σ, 0, f', s', h, hf, hs => by
    simp at hf hs; subst hf; subst hs
    simp only [FlyA, H_sep] at h
    exact h.second
  | f :: fs, s :: ss, l, σ, k + 1, f', s', h, hf, hs => by
    simp at hf hs
    simp only [FlyA, H_sep] at h
    exact fly0 h.tail hf hs
theorem fly_at {fs : List Flight} {ss : List Value} (h : H l σ) (i : Nat) (hi : l[i]? = some (FlyA fs ss)) {k : Nat} {f : Flight} {s : Value} (hf : fs[k]? = some f) (hs : ss[k]? = some s) :
    ∃ b o cap c, s = .slice (some ⟨b, o, none⟩) f.2.length cap ∧ CapOk 1 f.2.length cap ∧ σ.row b = some c ∧ (c.drop o).take f.2.length = bv f.2 ∧ o + f.2.length ≤ c.length := (fly0 (h.front i hi) hf hs).rob0

/-- A disk: its own block, what lasts, the flights. -/
def DiskP (b : Nat) (lv fv : Value) (ss : List Value) (D : DM) : List Assn :=
  [pt b (.cells [lv, fv, .int .i64 D.fuse, .bool D.off] 88 false), Own 5 1 lv D.last.length (bv D.last), Own 110 2 fv D.fly.length (flc D.fly ss), FlyA D.fly ss]
def Disk (v : Value) (D : DM) : Assn := ex fun p : Nat × Value × Value × List Value =>
  sep (pure' (v = .pointer (some ⟨p.1, 0, none⟩) ∧ p.2.2.2.length = D.fly.length)) (Star (DiskP p.1 p.2.1 p.2.2.1 p.2.2.2 D))

theorem disk_out {v : Value} {D : DM} {m : List Assn} (h : H (Disk v D :: m) σ) : ∃ b lv fv ss, v = .pointer (some ⟨b, 0, none⟩) ∧ ss.length = D.fly.length ∧ H (DiskP b lv fv ss D ++ m) σ := by
  obtain ⟨p, h⟩ := H_ex.1 h
  rw [H_sep] at h
  obtain ⟨⟨h1, h2⟩, h⟩ := H_pure.1 h
  exact ⟨_, _, _, _, h1, h2, H_star.1 h⟩
theorem disk_in {D : DM} {b : Nat} (lv fv : Value) (ss : List Value) {m : List Assn} (hs : ss.length = D.fly.length) (h : H (DiskP b lv fv ss D ++ m) σ) : H (Disk (.pointer (some ⟨b, 0, none⟩)) D :: m) σ :=
  H_ex.2 ⟨(b, lv, fv, ss), by rw [H_sep]; exact H_pure.2 ⟨⟨rfl, hs⟩, H_star.2 h⟩⟩

theorem in_self {A : Assn} {m : List Assn} (i : Nat) (hi : l[i]? = some A) (h : H (A :: Star (l.set i emp) :: m) σ) : H (l ++ m) σ := by
  rw [H_app]
  have e : Star l = sep A (Star (l.set i emp)) := by
    conv => lhs; rw [Star_take l i]
    simp [List.getD, hi]
  rw [e, H_sep]; exact h

/-! ### New, Blocks, ready, Off, Flight, Fuse -/
theorem new_no {n : Int} (h : n < 1 ∨ 1024 < n) (hk : Q (.tuple #[.pointer none, .int .i64 1]) σ) : E 13 [.int .i64 n] σ Q := by
  apply s13_ev; unfold s13
  simp
  refine wG_dec (fun h1 => ?_) fun h1 => ?_
  · unfold s13k2; simpa using hk
  · unfold s13k2
    have : 1024 < n := by omega
    simpa [this] using hk
theorem bv_replicate (n : Nat) (b : UInt8) : List.replicate n (by8 b) = bv (List.replicate n b) := by simp [bv]
theorem new_yes {n : Int} (h : H l σ) (hn : 1 ≤ n ∧ n ≤ 1024) (hk : ∀ v σ', H (l ++ [Disk v (.new n.toNat)]) σ' → Q (.tuple #[v, .int .i64 0]) σ') : E 13 [.int .i64 n] σ Q := by
  apply s13_ev; unfold s13
  have h1 : ¬ n < 1 := by omega
  have h2 : ¬ 1024 < n := by omega
  simp [h1]
  unfold s13k2
  simp [h2]
  rw [wrap_i64 (by omega)]
  refine make_ok (H_one.2 h) (by omega) ?_
  intro b σ1 h3
  simp [splice]
  refine new_ok h3 ?_
  intro b2 σ2 h4
  refine hk _ _ (H_app.2 ?_)
  have e1 : (n * 256).toNat = 256 * n.toNat := by omega
  rw [e1, reps_one] at h4
  have h5 := ((h4.to_own 1 rfl (n := 256 * n.toNat) (z := 1) (by simp) (by unfold OPEN; omega)).own_nil 110 2).emp_end
  have h6 := h5.pick [2, 1, 3, 4, 0] (by decide)
  refine (disk_in (D := .new n.toNat) (.slice (some ⟨b, 0, none⟩) (256 * n.toNat) (256 * n.toNat)) (.slice none 0 0) [] rfl ?_ : H [_, _] _).pick [1, 0] (by decide)
  rw [show (Value.int .u8 0) = by8 0 from rfl, bv_replicate] at h6
  simpa [picks, DiskP, DM.new, FlyA, flc] using h6
theorem blocks_ok {v : Value} {D : DM} (h : H l σ) (i : Nat) (hi : l[i]? = some (Disk v D)) (hD : D.last.length < 1099511627776) (hk : Q (.int .i64 (D.last.length / 256 : Nat)) σ) : E 28 [v] σ Q := by
  obtain ⟨b, lv, fv, ss, rfl, hs, h⟩ := disk_out (h.out i hi)
  apply s28_ev; unfold s28
  have r0 := load1 (n := 1) (o := 0) (h.row 0 rfl)
  obtain ⟨_, _, a, c, rfl⟩ := h.own_src 1 rfl
  simp [r0]
  rw [wrap_i64 (by omega)]
  simpa using hk
theorem off_ok {v : Value} {D : DM} (h : H l σ) (i : Nat) (hi : l[i]? = some (Disk v D)) (hk : Q (.bool D.off) σ) : E 24 [v] σ Q := by
  obtain ⟨b, lv, fv, ss, rfl, hs, h⟩ := disk_out (h.out i hi)
  apply s24_ev; unfold s24
  have r3 := load1 (n := 1) (o := 3) (h.row 0 rfl)
  simp [r3]
  exact hk
theorem flight_ok {v : Value} {D : DM} (h : H l σ) (i : Nat) (hi : l[i]? = some (Disk v D)) (hk : Q (.int .i64 D.fly.length) σ) : E 19 [v] σ Q := by
  obtain ⟨b, lv, fv, ss, rfl, hs, h⟩ := disk_out (h.out i hi)
  apply s19_ev; unfold s19
  have r1 := load1 (n := 1) (o := 1) (h.row 0 rfl)
  obtain ⟨_, _, a, c, rfl⟩ := h.own_src 2 rfl
  simp [r1]
  exact hk
theorem ready_ok {v : Value} {D : DM} {n : Nat} {a : Int} (h : H l σ) (i : Nat) (hi : l[i]? = some (Disk v D)) (hD : D.Ok n) (hk : Q (.int .i64 (D.ready a)) σ) : E 64 [v, .int .i64 a] σ Q := by
  have h0 := h
  have hv0 := hi
  obtain ⟨b, lv, fv, ss, rfl, hs, h⟩ := disk_out (h.out i hi)
  have hlen := hD.len
  have hn := hD.lo
  have hn2 := hD.hi
  apply s64_ev; unfold s64
  have r0 := load1 (n := 1) (o := 0) (h.row 0 rfl)
  have r3 := load1 (n := 1) (o := 3) (h.row 0 rfl)
  obtain ⟨_, _, x, c, rfl⟩ := h.own_src 1 rfl
  have hz : ¬ D.last.length = 0 := by omega
  simp [r0]
  unfold s64k2
  have hz2 : D.last ≠ [] := fun e => by rw [e] at hz; simp at hz
  simp [hz2, r3]
  unfold DM.ready at hk
  cases hoff : D.off with
  | true => simpa [hoff] using hk
  | false =>
    simp only [hoff, Bool.false_eq_true, if_false] at hk
    simp
    refine wG_dec (fun h1 => ?_) fun h1 => ?_
    · unfold s64k4; simpa [h1] using hk
    · refine blocks_ok h0 i hv0 (by omega) ?_
      unfold s64k4
      simp
      refine wC_dec (fun h2 => ?_) fun h2 => ?_
      · rw [if_pos (.inr (by omega))] at hk; exact hk
      · rw [if_neg (by omega)] at hk; exact hk
theorem fuse_ok {v : Value} {D : DM} {n : Int} (h : H l σ) (i : Nat) (hi : l[i]? = some (Disk v D)) (hk : ∀ σ', H (l.set i (Disk v (D.setFuse n))) σ' → Q (.tuple #[]) σ') : E 25 [v, .int .i64 n] σ Q := by
  obtain ⟨b, lv, fv, ss, rfl, hs, h⟩ := disk_out (h.out i hi)
  apply s25_ev; unfold s25
  simp
  have e : (if (0 : Int) > n then (0 : Int) else n) = (n.toNat : Nat) := by split <;> omega
  rw [e]
  refine store1 h 0 rfl rfl (by simp) ?_
  intro σ' h'
  refine hk _ (H.in' i hi (disk_in lv fv ss hs ?_))
  exact h'

/-! ### burn, land, Barrier -/
theorem burn_ok {v : Value} {D : DM} {g : FuncId} {a c : Array Value} (h : H l σ) (i : Nat) (hi : l[i]? = some (Disk v D)) (hf : D.fuse < 9223372036854775808)
    (hw : D.burn.2 = true → ∀ σ', H (l.set i (Disk v D.burn.1)) σ' → E g (a.toList ++ [] ++ c.toList) σ' fun _ τ => Q (.int .i64 0) τ)
    (ho : D.burn.2 = false → ∀ σ', H (l.set i (Disk v D.burn.1)) σ' → Q (.int .i64 9) σ') : E 65 [v, .func (.func g) a c] σ Q := by
  have h0 := h
  obtain ⟨b, lv, fv, ss, rfl, hs, h⟩ := disk_out (h.out i hi)
  apply s65_ev; unfold s65
  have r2 := load1 (n := 1) (o := 2) (h.row 0 rfl)
  simp [r2]
  refine wC_dec (fun h1 => ?_) fun h1 => ?_
  · rw [wrap_i64 (by omega)]
    refine store1 h 0 rfl rfl (by simp) ?_
    intro σ1 h2
    have r2 := load1 (n := 1) (o := 2) (h2.row 0 rfl)
    simp [r2]
    refine wC_dec (fun h3 => ?_) fun h3 => ?_
    · refine store1 h2 0 rfl rfl (by simp) ?_
      intro σ2 h4
      have h5 : D.fuse = 1 := by omega
      have hb : D.burn = ({ D with fuse := 0, off := true }, false) := by simp [DM.burn, h5]
      refine ho (by rw [hb]) _ (H.in' i hi ?_)
      rw [hb]
      refine disk_in lv fv ss hs ?_
      have e : (D.fuse : Int) - 1 = 0 := by omega
      rw [e] at h4
      exact h4
    · unfold s65k6
      simp
      have hb : D.burn = ({ D with fuse := D.fuse - 1 }, true) := by
        unfold DM.burn
        rw [if_neg (by omega), if_neg (by omega)]
      have := hw (by rw [hb]) σ1 (by
        refine H.in' i hi ?_
        rw [hb]
        refine disk_in lv fv ss hs ?_
        have e : (D.fuse : Int) - 1 = ((D.fuse - 1 : Nat) : Int) := by omega
        rw [e] at h2
        exact h2)
      simpa using this
  · unfold s65k6
    simp
    have hb : D.burn = (D, true) := by
      unfold DM.burn
      rw [if_pos (by omega)]
    have := hw (by rw [hb]) σ (by
      have : l.set i (Disk (.pointer (some ⟨b, 0, none⟩)) D) = l := by
        apply List.ext_getElem?
        intro j
        rw [List.getElem?_set]
        split
        · rename_i e; subst e; split
          · exact hi.symm
          · rename_i hh; exact absurd (List.getElem?_eq_some_iff.1 hi).1 hh
        · rfl
      rw [hb]; simp only [this]; exact h0)
    simpa using this

theorem land_ok {v : Value} {D : DM} {n : Nat} (h : H l σ) (i : Nat) (hi : l[i]? = some (Disk v D)) (hD : D.Ok n) (hm : D.fly.length < 1099511627776) (hk : ∀ σ', H (l.set i (Disk v D.land)) σ' → Q (.tuple #[]) σ') : E 68 [v] σ Q := by
  obtain ⟨b, lv, fv, ss, rfl, hs, h⟩ := disk_out (h.out i hi)
  have hlen := hD.len
  have hn := hD.lo
  have hn2 := hD.hi
  apply s68_ev; unfold s68
  have r1 := load1 (n := 1) (o := 1) (h.row 0 rfl)
  obtain ⟨_, _, x, c, rfl⟩ := h.own_src 2 rfl
  obtain ⟨lb, lc, rfl, hcap, _⟩ := h.own_form 1 rfl (by omega)
  simp [r1]
  refine ⟨fun m x0 x7 x8 x9 τ => ∃ k : Nat, m = D.fly.length - k ∧ k ≤ D.fly.length ∧ x0 = .pointer (some ⟨b, 0, none⟩) ∧ x7 = .slice x D.fly.length c ∧ x8 = .int .i64 D.fly.length ∧ x9 = .int .i64 k ∧
    H (pt b (.cells [.slice (some ⟨lb, 0, none⟩) D.last.length lc, .slice x D.fly.length c, .int .i64 D.fuse, .bool D.off] 88 false) :: Own 5 1 (.slice (some ⟨lb, 0, none⟩) D.last.length lc) D.last.length (bv (laid D.last (D.fly.take k))) :: Own 110 2 (.slice x D.fly.length c) D.fly.length (flc D.fly ss) :: FlyA D.fly ss :: [Star (l.set i emp)]) τ, ⟨_, 0, rfl, by omega, rfl, rfl, rfl, rfl, ?_⟩, ?_⟩
  · exact h
  · rintro m _ _ _ _ τ ⟨k, rfl, hkl, rfl, rfl, rfl, rfl, h⟩
    suffices hb : ∀ N : Value → Value → Value → Value → AHeap → Prop, (∀ τ', k < D.fly.length → H (pt b (.cells [.slice (some ⟨lb, 0, none⟩) D.last.length lc, .slice x D.fly.length c, .int .i64 D.fuse, .bool D.off] 88 false) :: Own 5 1 (.slice (some ⟨lb, 0, none⟩) D.last.length lc) D.last.length (bv (laid D.last (D.fly.take (k + 1)))) :: Own 110 2 (.slice x D.fly.length c) D.fly.length (flc D.fly ss) :: FlyA D.fly ss :: [Star (l.set i emp)]) τ' →
        N (.pointer (some ⟨b, 0, none⟩)) (.slice x D.fly.length c) (.int .i64 D.fly.length) (.int .i64 (k + 1 : Nat)) τ') → s68b1 N Q (.pointer (some ⟨b, 0, none⟩)) (.slice x D.fly.length c) (.int .i64 D.fly.length) (.int .i64 k) τ from
      hb _ fun τ' hlt h' => ⟨_, by omega, k + 1, rfl, by omega, rfl, rfl, rfl, rfl, h'⟩
    intro N hN
    unfold s68b1
    simp
    have hok : ∀ f ∈ D.fly.take k, FlyOk n f := fun f hf => hD.fly f (List.mem_of_mem_take hf)
    have hll := laid_length (D.fly.take k) D.last hlen hok
    refine wC_dec (fun h1 => ?_) fun h1 => ?_
    · obtain ⟨b2, e1, e2, e3⟩ := h.own_elem 2 rfl (k := k) h1
      have hf := List.getElem?_eq_getElem h1
      have hsk := List.getElem?_eq_getElem (show k < ss.length by omega)
      have hfo := hD.fly _ (List.getElem_mem h1)
      rw [flc_get _ _ k _ _ hf hsk] at e2
      have hfit := hfo.fit
      have hl64 := hfo.len
      simp [e1, e2]
      refine new_ok h ?_
      intro tb σ1 h2
      obtain ⟨fb, fo, fcap, fc, hse, hfcap, hfr, hfd, hfl⟩ := fly_at h2 3 rfl hf hsk
      refine storeN h2 5 rfl (by simp) (by omega) (by simp [hse]) (by simp) ?_
      intro σ2 h3
      obtain ⟨fb, fo, fcap, fc, hse, hfcap, hfr, hfd, hfl⟩ := fly_at h3 3 rfl hf hsk
      have r0 := load1 (n := 1) (o := 0) (h3.row 0 rfl)
      have t0 := load1 (n := 1) (o := 0) (h3.row 5 rfl)
      have t1 := load1 (n := 1) (o := 1) (h3.row 5 rfl)
      obtain ⟨dc, hsl, _⟩ := slice_from (z := 1) (b := lb) (o := 0) (lo := (D.fly[k].1 : Int)) (k := .i64) hcap (by omega)
      simp [r0, t0, t1, splice, hsl, hse]
      have hmin : D.fly[k].snd.length.min (D.last.length - D.fly[k].fst) = 64 := by rw [hl64]; exact Nat.min_eq_left (by omega)
      refine copy_own (ys := bv D.fly[k].2) h3 1 rfl (by omega) (by rw [hmin, rob_src (n := 64) hfr hfd hfl (by omega), List.take_of_length_le (by omega)]) (bv_one _) (by simp; omega) ?_
      intro σ3 h4
      simp
      rw [wrap_i64 (by omega)]
      refine hN _ h1 ?_
      rw [laid_take _ _ _ _ hf, ← splice_put]
      exact h4.pick [0, 1, 2, 3, 4] (by decide)
    · have : k = D.fly.length := by omega
      subst this
      refine store1 (o := 1) (v := .slice none 0 0) (k := fun τ => Q (.tuple #[]) τ) h 0 rfl rfl (by simp) ?_
      intro σ1 h2
      refine hk _ (H.in' i hi (disk_in (.slice (some ⟨lb, 0, none⟩) D.last.length lc) (.slice none 0 0) [] rfl ?_))
      have h3 := (h2.own_nil 110 2).emp_end.pick [0, 1, 5, 6, 4] (by decide)
      have e : (laid D.last D.fly).length = D.last.length := by rw [laid_length D.fly D.last hlen hD.fly, hlen]
      simpa [picks, DiskP, DM.land, FlyA, flc, e] using h3
end Go.Ax.YtfeamgocomlepaaC
