/- Texts of one proof, joined. No statement of the seat is proved here. -/
import Derived.Test.YtcnceningjookaaGreatTk3
set_option linter.unusedVariables false
set_option linter.unusedSimpArgs false
set_option linter.unnecessarySimpa false
set_option linter.constructorNameAsVariable false
set_option linter.unusedVariables false
set_option maxRecDepth 100000
namespace Go.Ax.O
open Go.Proofs
def o_bytes_Clone (Q : WK) (x0 : Value) (σ : AHeap) : Prop :=
  pu (aBin (some (.slice t_uint8)) .eql x0 (.slice none 0 0)) fun v4_3 =>
  wC v4_3 (
  Q (.slice none 0 0) σ) (
  pu (aAppend t_uint8 1 1 (.slice (some ⟨ZB, 0, some 0⟩) 0 0) x0 σ) fun r7_8 =>
  Q r7_8.1 r7_8.2)
theorem o_bytes_Clone_eq (Q : WK) (x0 : Value) (σ : AHeap) : wfn P C.E Tryz.f99 (fun _ => none) [x0] σ (RQ Q) = o_bytes_Clone Q x0 σ := by kernel_rfl
theorem o_bytes_Clone_ev {Q : WK} {x0 : Value} {σ : AHeap} (h : o_bytes_Clone Q x0 σ) : E f_bytes_Clone [x0] σ Q := owfn Tryz.func99 _ (by kernel_rfl) (Eq.mpr (o_bytes_Clone_eq Q x0 σ) h)
def o_cache_Cache_Get_k12 (Q : WK) (p0_57 p1_58 : Value) (τ_56 : AHeap) : Prop :=
  E f_cache_Cache_use [p0_57, p1_58] τ_56 fun v48_59 τ_60 =>
  pu (aNil v48_59) fun v49_61 =>
  pu (aFieldAddr 4 v49_61) fun v50_62 =>
  pu (aLoad false 1 v50_62 τ_60) fun v51_63 =>
  E f_bytes_Clone [v51_63] τ_60 fun v52_64 τ_65 =>
  Q (.tuple #[v52_64, (.int .i64 0)]) τ_65
def o_cache_Cache_Get (Q : WK) (x0 x1 : Value) (σ : AHeap) : Prop :=
  E f_cache_Cache_ready [x0, x1] σ fun v12_4 τ_5 =>
  pu (aBin (some (.int .i64)) .neq v12_4 (.int .i64 0)) fun v14_8 =>
  wC v14_8 (
  Q (.tuple #[(.slice none 0 0), v12_4]) τ_5) (
  pu (aNil x0) fun v17_14 =>
  pu (aFieldAddr 3 v17_14) fun v18_15 =>
  pu (aLoad false 1 v18_15 τ_5) fun v19_16 =>
  pu (aLookup P t_m_int_p_cache_item v19_16 x1 false τ_5) fun v21_18 =>
  pu (aBin (some (.pointer t_cache_item)) .eql v21_18 (.pointer none)) fun v22_19 =>
  wC v22_19 (
  E f_cache_Cache_room [x0] τ_5 fun v24_23 τ_24 =>
  pu (aBin (some (.int .i64)) .neq v24_23 (.int .i64 0)) fun v26_27 =>
  wC v26_27 (
  Q (.tuple #[(.slice none 0 0), v24_23]) τ_24) (
  pu (aNil x0) fun v30_33 =>
  pu (aFieldAddr 0 v30_33) fun v31_34 =>
  pu (aLoad false 1 v31_34 τ_24) fun v32_35 =>
  E f_disk_Disk_Read [v32_35, x1] τ_24 fun v34_37 τ_38 =>
  pu (aExtract v34_37 0) fun v35_39 =>
  pu (aExtract v34_37 1) fun v36_40 =>
  pu (aBin (some (.int .i64)) .neq v36_40 (.int .i64 0)) fun v38_43 =>
  wC v38_43 (
  Q (.tuple #[(.slice none 0 0), v36_40]) τ_38) (
  E f_cache_Cache_use [x0, x1] τ_38 fun v42_50 τ_51 =>
  pu (aNil v42_50) fun v44_53 =>
  pu (aFieldAddr 4 v44_53) fun v45_54 =>
  pu (aStore 1 v45_54 v35_39 τ_51) fun τ_55 =>
  (o_cache_Cache_Get_k12 Q x0 x1 τ_55)))) (
  (o_cache_Cache_Get_k12 Q x0 x1 τ_5)))
theorem o_cache_Cache_Get_eq (Q : WK) (x0 x1 : Value) (σ : AHeap) : wfn P C.E Tryz.f66 (fun _ => none) [x0, x1] σ (RQ Q) = o_cache_Cache_Get Q x0 x1 σ := by kernel_rfl
theorem o_cache_Cache_Get_ev {Q : WK} {x0 x1 : Value} {σ : AHeap} (h : o_cache_Cache_Get Q x0 x1 σ) : E f_cache_Cache_Get [x0, x1] σ Q := owfn Tryz.func66 _ (by kernel_rfl) (Eq.mpr (o_cache_Cache_Get_eq Q x0 x1 σ) h)
def o_cache_Cache_Put_k10 (Q : WK) (p0_38 p1_39 p2_54 : Value) (τ_37 : AHeap) : Prop :=
  E f_cache_Cache_use [p0_38, p1_39] τ_37 fun v33_40 τ_41 =>
  E f_bytes_Clone [p2_54] τ_41 fun v37_45 τ_46 =>
  pu (aNil v33_40) fun v38_47 =>
  pu (aFieldAddr 4 v38_47) fun v39_48 =>
  pu (aStore 1 v39_48 v37_45 τ_46) fun τ_49 =>
  pu (aNil v33_40) fun v40_50 =>
  pu (aFieldAddr 3 v40_50) fun v41_51 =>
  pu (aStore 1 v41_51 (.bool true) τ_49) fun τ_52 =>
  Q (.int .i64 0) τ_52
def o_cache_Cache_Put (Q : WK) (x0 x1 x2 : Value) (σ : AHeap) : Prop :=
  E f_cache_Cache_ready [x0, x1] σ fun v12_4 τ_5 =>
  pu (aBin (some (.int .i64)) .neq v12_4 (.int .i64 0)) fun v14_8 =>
  wC v14_8 (
  Q v12_4 τ_5) (
  pu (lenS x2) fun v17_14 =>
  pu (aBin (some (.int .i64)) .neq v17_14 (.int .i64 256)) fun v18_15 =>
  wC v18_15 (
  Q (.int .i64 1) τ_5) (
  pu (aNil x0) fun v20_20 =>
  pu (aFieldAddr 3 v20_20) fun v21_21 =>
  pu (aLoad false 1 v21_21 τ_5) fun v22_22 =>
  pu (aLookup P t_m_int_p_cache_item v22_22 x1 false τ_5) fun v24_24 =>
  pu (aBin (some (.pointer t_cache_item)) .eql v24_24 (.pointer none)) fun v25_25 =>
  wC v25_25 (
  E f_cache_Cache_room [x0] τ_5 fun v27_29 τ_30 =>
  pu (aBin (some (.int .i64)) .neq v27_29 (.int .i64 0)) fun v29_33 =>
  wC v29_33 (
  Q v27_29 τ_30) (
  (o_cache_Cache_Put_k10 Q x0 x1 x2 τ_30))) (
  (o_cache_Cache_Put_k10 Q x0 x1 x2 τ_5))))
theorem o_cache_Cache_Put_eq (Q : WK) (x0 x1 x2 : Value) (σ : AHeap) : wfn P C.E Tryz.f62 (fun _ => none) [x0, x1, x2] σ (RQ Q) = o_cache_Cache_Put Q x0 x1 x2 σ := by kernel_rfl
theorem o_cache_Cache_Put_ev {Q : WK} {x0 x1 x2 : Value} {σ : AHeap} (h : o_cache_Cache_Put Q x0 x1 x2 σ) : E f_cache_Cache_Put [x0, x1, x2] σ Q := owfn Tryz.func62 _ (by kernel_rfl) (Eq.mpr (o_cache_Cache_Put_eq Q x0 x1 x2 σ) h)
def o_cache_Cache_ready_k4 (Q : WK) (p21_19 : Value) (τ_18 : AHeap) : Prop :=
  wC p21_19 (
  Q (.int .i64 6) τ_18) (
  Q (.int .i64 0) τ_18)
def o_cache_Cache_ready_k2 (Q : WK) (p5_6 p0_7 p1_30 : Value) (τ_5 : AHeap) : Prop :=
  wC p5_6 (
  Q (.int .i64 2) τ_5) (
  pu (aNil p0_7) fun v17_8 =>
  pu (aFieldAddr 0 v17_8) fun v18_9 =>
  pu (aLoad false 1 v18_9 τ_5) fun v19_10 =>
  E f_disk_Disk_Off [v19_10] τ_5 fun v20_11 τ_12 =>
  wC v20_11 (
  Q (.int .i64 9) τ_12) (
  pu (aBin (some (.int .i64)) .lss p1_30 (.int .i64 0)) fun v23_16 =>
  wG v23_16 (
  (o_cache_Cache_ready_k4 Q (.bool true) τ_12)) (
  pu (aNil p0_7) fun v27_22 =>
  pu (aFieldAddr 0 v27_22) fun v28_23 =>
  pu (aLoad false 1 v28_23 τ_12) fun v29_24 =>
  E f_disk_Disk_Blocks [v29_24] τ_12 fun v30_25 τ_26 =>
  pu (aBin (some (.int .i64)) .geq p1_30 v30_25) fun v31_27 =>
  (o_cache_Cache_ready_k4 Q v31_27 τ_26)) (
  wB v23_16 fun b_29 =>
  (o_cache_Cache_ready_k4 Q (cond b_29 (.bool true) skipV) τ_12))))
def o_cache_Cache_ready (Q : WK) (x0 x1 : Value) (σ : AHeap) : Prop :=
  pu (aBin (some (.pointer t_cache_Cache)) .eql x0 (.pointer none)) fun v7_3 =>
  wG v7_3 (
  (o_cache_Cache_ready_k2 Q (.bool true) x0 x1 σ)) (
  pu (aNil x0) fun v10_32 =>
  pu (aFieldAddr 0 v10_32) fun v11_33 =>
  pu (aLoad false 1 v11_33 σ) fun v12_34 =>
  pu (aBin (some (.pointer t_disk_Disk)) .eql v12_34 (.pointer none)) fun v13_35 =>
  (o_cache_Cache_ready_k2 Q v13_35 x0 x1 σ)) (
  wB v7_3 fun b_37 =>
  (o_cache_Cache_ready_k2 Q (cond b_37 (.bool true) skipV) x0 x1 σ))
theorem o_cache_Cache_ready_eq (Q : WK) (x0 x1 : Value) (σ : AHeap) : wfn P C.E Tryz.f120 (fun _ => none) [x0, x1] σ (RQ Q) = o_cache_Cache_ready Q x0 x1 σ := by kernel_rfl
theorem o_cache_Cache_ready_ev {Q : WK} {x0 x1 : Value} {σ : AHeap} (h : o_cache_Cache_ready Q x0 x1 σ) : E f_cache_Cache_ready [x0, x1] σ Q := owfn Tryz.func120 _ (by kernel_rfl) (Eq.mpr (o_cache_Cache_ready_eq Q x0 x1 σ) h)
def o_cache_Cache_room (Q : WK) (x0 : Value) (σ : AHeap) : Prop :=
  pu (aNil x0) fun v6_3 =>
  pu (aFieldAddr 4 v6_3) fun v7_4 =>
  pu (aLoad false 1 v7_4 σ) fun v8_5 =>
  pu (lenS v8_5) fun v9_6 =>
  pu (aNil x0) fun v11_7 =>
  pu (aFieldAddr 1 v11_7) fun v12_8 =>
  pu (aLoad false 1 v12_8 σ) fun v13_9 =>
  pu (aBin (some (.int .i64)) .lss v9_6 v13_9) fun v14_10 =>
  wC v14_10 (
  Q (.int .i64 0) σ) (
  pu (aNil x0) fun v17_15 =>
  pu (aFieldAddr 4 v17_15) fun v18_16 =>
  pu (aLoad false 1 v18_16 σ) fun v19_17 =>
  pu (aIndexAddr 1 v19_17 (.int .i64 0)) fun v20_18 =>
  pu (aLoad false 1 v20_18 σ) fun v21_19 =>
  E f_cache_Cache_write [x0, v21_19] σ fun v22_20 τ_21 =>
  pu (aBin (some (.int .i64)) .neq v22_20 (.int .i64 0)) fun v24_24 =>
  wC v24_24 (
  Q v22_20 τ_21) (
  pu (aNil x0) fun v27_30 =>
  pu (aFieldAddr 4 v27_30) fun v28_31 =>
  pu (aIface P t_p_cache_row v28_31) fun v29_32 =>
  E f_heap_Pop [v29_32] τ_21 fun v30_33 τ_34 =>
  pu (aAssert P t_p_cache_item false v30_33) fun v31_35 =>
  pu (aNil x0) fun v33_38 =>
  pu (aFieldAddr 3 v33_38) fun v34_39 =>
  pu (aLoad false 1 v34_39 τ_34) fun v35_40 =>
  pu (aNil v31_35) fun v37_42 =>
  pu (aFieldAddr 0 v37_42) fun v38_43 =>
  pu (aLoad false 1 v38_43 τ_34) fun v39_44 =>
  pu (aDelete P t_m_int_p_cache_item v35_40 v39_44 τ_34) fun τ_45 =>
  Q (.int .i64 0) τ_45))
theorem o_cache_Cache_room_eq (Q : WK) (x0 : Value) (σ : AHeap) : wfn P C.E Tryz.f121 (hl [(0, .ord [(0, []), (1, []), (2, []), (3, []), (4, []), (5, []), (6, []), (7, []), (8, []), (9, [])]), (3, .ord [(0, []), (1, []), (2, []), (3, []), (4, []), (5, []), (6, []), (7, []), (8, [])])]) [x0] σ (RQ Q) = o_cache_Cache_room Q x0 σ := by kernel_rfl
theorem o_cache_Cache_room_ev {Q : WK} {x0 : Value} {σ : AHeap} (h : o_cache_Cache_room Q x0 σ) : E f_cache_Cache_room [x0] σ Q := owfn Tryz.func121 _ (by kernel_rfl) (Eq.mpr (o_cache_Cache_room_eq Q x0 σ) h)
def o_cache_Cache_use_k7 (Q : WK) (p5_50 p0_51 : Value) (τ_49 : AHeap) : Prop :=
  pu (aNil p0_51) fun v47_52 =>
  pu (aFieldAddr 2 v47_52) fun v48_53 =>
  pu (aLoad false 1 v48_53 τ_49) fun v49_54 =>
  pu (aNil p5_50) fun v50_55 =>
  pu (aFieldAddr 2 v50_55) fun v51_56 =>
  pu (aStore 1 v51_56 v49_54 τ_49) fun τ_57 =>
  pu (aNil p0_51) fun v53_60 =>
  pu (aFieldAddr 4 v53_60) fun v54_61 =>
  pu (aIface P t_p_cache_row v54_61) fun v55_62 =>
  pu (aNil p5_50) fun v57_64 =>
  pu (aFieldAddr 1 v57_64) fun v58_65 =>
  pu (aLoad false 1 v58_65 τ_57) fun v59_66 =>
  E f_heap_Fix [v55_62, v59_66] τ_57 fun v60_67 τ_68 =>
  Q p5_50 τ_68
def o_cache_Cache_use (Q : WK) (x0 x1 : Value) (σ : AHeap) : Prop :=
  pu (aNil x0) fun v8_3 =>
  pu (aFieldAddr 2 v8_3) fun v9_4 =>
  pu (aLoad false 1 v9_4 σ) fun v10_5 =>
  pu (aBin (some (.int .u64)) .add v10_5 (.int .u64 1)) fun v11_6 =>
  pu (aNil x0) fun v12_7 =>
  pu (aFieldAddr 2 v12_7) fun v13_8 =>
  pu (aStore 1 v13_8 v11_6 σ) fun τ_9 =>
  pu (aNil x0) fun v16_12 =>
  pu (aFieldAddr 3 v16_12) fun v17_13 =>
  pu (aLoad false 1 v17_13 τ_9) fun v18_14 =>
  pu (aLookup P t_m_int_p_cache_item v18_14 x1 true τ_9) fun v20_16 =>
  pu (aExtract v20_16 0) fun v21_17 =>
  pu (aExtract v20_16 1) fun v22_18 =>
  pu (aUn .not v22_18) fun v24_21 =>
  wC v24_21 (
  pu (aNil x0) fun v27_26 =>
  pu (aFieldAddr 2 v27_26) fun v28_27 =>
  pu (aLoad false 1 v28_27 τ_9) fun v29_28 =>
  pu (buildR [(0, 1), (1, 1), (2, 1), (3, 1), (4, 1)] [(.int .i64 0), (.int .i64 0), (.int .u64 0), (.bool false), (.slice none 0 0)] [(0, x1), (2, v29_28)]) fun v30_29 =>
  cond (live v30_29) (wNew τ_9 (.cells (Value.cells v30_29).toList t_cache_item false) fun b_30 τ_31 =>
  pu (aNil x0) fun v33_34 =>
  pu (aFieldAddr 3 v33_34) fun v34_35 =>
  pu (aLoad false 1 v34_35 τ_31) fun v35_36 =>
  pu (aMapUpdate P t_m_int_p_cache_item v35_36 x1 (.pointer (some ⟨b_30, 0, none⟩)) τ_31) fun τ_39 =>
  pu (aNil x0) fun v39_42 =>
  pu (aFieldAddr 4 v39_42) fun v40_43 =>
  pu (aIface P t_p_cache_row v40_43) fun v41_44 =>
  pu (aIface P t_p_cache_item (.pointer (some ⟨b_30, 0, none⟩))) fun v43_46 =>
  E f_heap_Push [v41_44, v43_46] τ_39 fun v44_47 τ_48 =>
  (o_cache_Cache_use_k7 Q (.pointer (some ⟨b_30, 0, none⟩)) x0 τ_48)) False) (
  (o_cache_Cache_use_k7 Q v21_17 x0 τ_9))
theorem o_cache_Cache_use_eq (Q : WK) (x0 x1 : Value) (σ : AHeap) : wfn P C.E Tryz.f122 (hl [(1, .ord [(0, []), (1, []), (2, []), (3, []), (4, []), (5, []), (6, []), (7, []), (8, [])])]) [x0, x1] σ (RQ Q) = o_cache_Cache_use Q x0 x1 σ := by kernel_rfl
theorem o_cache_Cache_use_ev {Q : WK} {x0 x1 : Value} {σ : AHeap} (h : o_cache_Cache_use Q x0 x1 σ) : E f_cache_Cache_use [x0, x1] σ Q := owfn Tryz.func122 _ (by kernel_rfl) (Eq.mpr (o_cache_Cache_use_eq Q x0 x1 σ) h)
def o_cache_Cache_write (Q : WK) (x0 x1 : Value) (σ : AHeap) : Prop :=
  pu (aNil x1) fun v7_3 =>
  pu (aFieldAddr 3 v7_3) fun v8_4 =>
  pu (aLoad false 1 v8_4 σ) fun v9_5 =>
  pu (aUn .not v9_5) fun v10_6 =>
  wC v10_6 (
  Q (.int .i64 0) σ) (
  pu (aNil x0) fun v12_11 =>
  pu (aFieldAddr 0 v12_11) fun v13_12 =>
  pu (aLoad false 1 v13_12 σ) fun v14_13 =>
  pu (aNil x1) fun v16_15 =>
  pu (aFieldAddr 0 v16_15) fun v17_16 =>
  pu (aLoad false 1 v17_16 σ) fun v18_17 =>
  pu (aNil x1) fun v20_18 =>
  pu (aFieldAddr 4 v20_18) fun v21_19 =>
  pu (aLoad false 1 v21_19 σ) fun v22_20 =>
  E f_disk_Disk_Write [v14_13, v18_17, v22_20] σ fun v23_21 τ_22 =>
  pu (aBin (some (.int .i64)) .neq v23_21 (.int .i64 0)) fun v26_26 =>
  pu (aNil x1) fun v27_27 =>
  pu (aFieldAddr 3 v27_27) fun v28_28 =>
  pu (aStore 1 v28_28 v26_26 τ_22) fun τ_29 =>
  Q v23_21 τ_29)
theorem o_cache_Cache_write_eq (Q : WK) (x0 x1 : Value) (σ : AHeap) : wfn P C.E Tryz.f159 (hl [(1, .ord [(0, []), (1, []), (2, []), (3, []), (4, []), (5, []), (6, []), (7, []), (8, []), (9, []), (10, []), (11, []), (12, []), (13, [])])]) [x0, x1] σ (RQ Q) = o_cache_Cache_write Q x0 x1 σ := by kernel_rfl
theorem o_cache_Cache_write_ev {Q : WK} {x0 x1 : Value} {σ : AHeap} (h : o_cache_Cache_write Q x0 x1 σ) : E f_cache_Cache_write [x0, x1] σ Q := owfn Tryz.func159 _ (by kernel_rfl) (Eq.mpr (o_cache_Cache_write_eq Q x0 x1 σ) h)
def o_cache_New_k4 (Q : WK) (p18_12 p0_20 p1_21 : Value) (τ_11 : AHeap) : Prop :=
  wC p18_12 (
  Q (.tuple #[(.pointer none), (.int .i64 1)]) τ_11) (
  pu (aMakeMap P t_m_int_p_cache_item none τ_11) fun r21_16 =>
  pu (buildR [(0, 1), (1, 1), (2, 1), (3, 1), (4, 1)] [(.pointer none), (.int .i64 0), (.int .u64 0), (.map none), (.slice none 0 0)] [(0, p0_20), (1, p1_21), (3, r21_16.1)]) fun v22_17 =>
  cond (live v22_17) (wNew r21_16.2 (.cells (Value.cells v22_17).toList t_cache_Cache false) fun b_18 τ_19 =>
  Q (.tuple #[(.pointer (some ⟨b_18, 0, none⟩)), (.int .i64 0)]) τ_19) False)
def o_cache_New_k2 (Q : WK) (p12_6 p1_26 p0_27 : Value) (τ_5 : AHeap) : Prop :=
  wC p12_6 (
  Q (.tuple #[(.pointer none), (.int .i64 2)]) τ_5) (
  pu (aBin (some (.int .i64)) .lss p1_26 (.int .i64 1)) fun v14_9 =>
  wG v14_9 (
  (o_cache_New_k4 Q (.bool true) p0_27 p1_26 τ_5)) (
  pu (aBin (some (.int .i64)) .gtr p1_26 (.int .i64 1024)) fun v17_23 =>
  (o_cache_New_k4 Q v17_23 p0_27 p1_26 τ_5)) (
  wB v14_9 fun b_25 =>
  (o_cache_New_k4 Q (cond b_25 (.bool true) skipV) p0_27 p1_26 τ_5)))
def o_cache_New (Q : WK) (x0 x1 : Value) (σ : AHeap) : Prop :=
  pu (aBin (some (.pointer t_disk_Disk)) .eql x0 (.pointer none)) fun v7_3 =>
  wG v7_3 (
  (o_cache_New_k2 Q (.bool true) x1 x0 σ)) (
  E f_disk_Disk_Blocks [x0] σ fun v10_29 τ_30 =>
  pu (aBin (some (.int .i64)) .eql v10_29 (.int .i64 0)) fun v11_31 =>
  (o_cache_New_k2 Q v11_31 x1 x0 τ_30)) (
  wB v7_3 fun b_33 =>
  (o_cache_New_k2 Q (cond b_33 (.bool true) skipV) x1 x0 σ))
theorem o_cache_New_eq (Q : WK) (x0 x1 : Value) (σ : AHeap) : wfn P C.E Tryz.f60 (fun _ => none) [x0, x1] σ (RQ Q) = o_cache_New Q x0 x1 σ := by kernel_rfl
theorem o_cache_New_ev {Q : WK} {x0 x1 : Value} {σ : AHeap} (h : o_cache_New Q x0 x1 σ) : E f_cache_New [x0, x1] σ Q := owfn Tryz.func60 _ (by kernel_rfl) (Eq.mpr (o_cache_New_eq Q x0 x1 σ) h)
def o_cache_row_Len (Q : WK) (x0 : Value) (σ : AHeap) : Prop :=
  pu (lenS x0) fun v4_3 =>
  Q v4_3 σ
theorem o_cache_row_Len_eq (Q : WK) (x0 : Value) (σ : AHeap) : wfn P C.E Tryz.f214 (fun _ => none) [x0] σ (RQ Q) = o_cache_row_Len Q x0 σ := by kernel_rfl
theorem o_cache_row_Len_ev {Q : WK} {x0 : Value} {σ : AHeap} (h : o_cache_row_Len Q x0 σ) : E f_cache_row_Len [x0] σ Q := owfn Tryz.func214 _ (by kernel_rfl) (Eq.mpr (o_cache_row_Len_eq Q x0 σ) h)
def o_cache_row_Less (Q : WK) (x0 x1 x2 : Value) (σ : AHeap) : Prop :=
  pu (aIndexAddr 1 x0 x1) fun v9_4 =>
  pu (aLoad false 1 v9_4 σ) fun v10_5 =>
  pu (aNil v10_5) fun v11_6 =>
  pu (aFieldAddr 2 v11_6) fun v12_7 =>
  pu (aLoad false 1 v12_7 σ) fun v13_8 =>
  pu (aIndexAddr 1 x0 x2) fun v16_10 =>
  pu (aLoad false 1 v16_10 σ) fun v17_11 =>
  pu (aNil v17_11) fun v18_12 =>
  pu (aFieldAddr 2 v18_12) fun v19_13 =>
  pu (aLoad false 1 v19_13 σ) fun v20_14 =>
  pu (aBin (some (.int .u64)) .lss v13_8 v20_14) fun v21_15 =>
  Q v21_15 σ
theorem o_cache_row_Less_eq (Q : WK) (x0 x1 x2 : Value) (σ : AHeap) : wfn P C.E Tryz.f215 (hl [(0, .ord [(0, []), (1, []), (2, []), (3, []), (4, []), (5, []), (6, []), (7, []), (8, []), (9, []), (10, []), (11, []), (12, []), (13, []), (14, []), (15, [])])]) [x0, x1, x2] σ (RQ Q) = o_cache_row_Less Q x0 x1 x2 σ := by kernel_rfl
theorem o_cache_row_Less_ev {Q : WK} {x0 x1 x2 : Value} {σ : AHeap} (h : o_cache_row_Less Q x0 x1 x2 σ) : E f_cache_row_Less [x0, x1, x2] σ Q := owfn Tryz.func215 _ (by kernel_rfl) (Eq.mpr (o_cache_row_Less_eq Q x0 x1 x2 σ) h)
def o_cache_row_Pop (Q : WK) (x0 : Value) (σ : AHeap) : Prop :=
  pu (aNil x0) fun v6_3 =>
  pu (aLoad false 1 v6_3 σ) fun v7_4 =>
  pu (lenS v7_4) fun v8_5 =>
  pu (aBin (some (.int .i64)) .sub v8_5 (.int .i64 1)) fun v9_6 =>
  pu (aNil x0) fun v11_9 =>
  pu (aLoad false 1 v11_9 σ) fun v12_10 =>
  pu (aIndexAddr 1 v12_10 v9_6) fun v14_12 =>
  pu (aLoad false 1 v14_12 σ) fun v15_13 =>
  pu (aNil x0) fun v18_16 =>
  pu (aLoad false 1 v18_16 σ) fun v19_17 =>
  pu (aSlice 1 v19_17 none (some v9_6) none) fun v21_19 =>
  pu (aNil x0) fun v22_20 =>
  pu (aStore 1 v22_20 v21_19 σ) fun τ_21 =>
  pu (aIface P t_p_cache_item v15_13) fun v24_24 =>
  Q v24_24 τ_21
theorem o_cache_row_Pop_eq (Q : WK) (x0 : Value) (σ : AHeap) : wfn P C.E Tryz.f222 (fun _ => none) [x0] σ (RQ Q) = o_cache_row_Pop Q x0 σ := by kernel_rfl
theorem o_cache_row_Pop_ev {Q : WK} {x0 : Value} {σ : AHeap} (h : o_cache_row_Pop Q x0 σ) : E f_cache_row_Pop [x0] σ Q := owfn Tryz.func222 _ (by kernel_rfl) (Eq.mpr (o_cache_row_Pop_eq Q x0 σ) h)
def o_cache_row_Push (Q : WK) (x0 x1 : Value) (σ : AHeap) : Prop :=
  pu (aAssert P t_p_cache_item false x1) fun v6_1 =>
  pu (aNil x0) fun v9_5 =>
  pu (aLoad false 1 v9_5 σ) fun v10_6 =>
  pu (lenS v10_6) fun v11_7 =>
  pu (aNil v6_1) fun v12_8 =>
  pu (aFieldAddr 1 v12_8) fun v13_9 =>
  pu (aStore 1 v13_9 v11_7 σ) fun τ_10 =>
  pu (aNil x0) fun v16_13 =>
  pu (aLoad false 1 v16_13 τ_10) fun v17_14 =>
  pu (buildS t_p_cache_item 1 1 [(.pointer none)] [(0, v6_1)] τ_10) fun r19_16 =>
  pu (aAppend t_p_cache_item 1 8 v17_14 r19_16.1 r19_16.2) fun r20_17 =>
  pu (aNil x0) fun v21_18 =>
  pu (aStore 1 v21_18 r20_17.1 r20_17.2) fun τ_19 =>
  Q (.tuple #[]) τ_19
theorem o_cache_row_Push_eq (Q : WK) (x0 x1 : Value) (σ : AHeap) : wfn P C.E Tryz.f223 (fun _ => none) [x0, x1] σ (RQ Q) = o_cache_row_Push Q x0 x1 σ := by kernel_rfl
theorem o_cache_row_Push_ev {Q : WK} {x0 x1 : Value} {σ : AHeap} (h : o_cache_row_Push Q x0 x1 σ) : E f_cache_row_Push [x0, x1] σ Q := owfn Tryz.func223 _ (by kernel_rfl) (Eq.mpr (o_cache_row_Push_eq Q x0 x1 σ) h)
def o_cache_row_Swap (Q : WK) (x0 x1 x2 : Value) (σ : AHeap) : Prop :=
  pu (aIndexAddr 1 x0 x2) fun v12_1 =>
  pu (aLoad false 1 v12_1 σ) fun v13_2 =>
  pu (aIndexAddr 1 x0 x1) fun v16_3 =>
  pu (aLoad false 1 v16_3 σ) fun v17_4 =>
  pu (aIndexAddr 1 x0 x1) fun v18_5 =>
  pu (aStore 1 v18_5 v13_2 σ) fun τ_6 =>
  pu (aIndexAddr 1 x0 x2) fun v19_7 =>
  pu (aStore 1 v19_7 v17_4 τ_6) fun τ_8 =>
  pu (aIndexAddr 1 x0 x1) fun v22_12 =>
  pu (aLoad false 1 v22_12 τ_8) fun v23_13 =>
  pu (aIndexAddr 1 x0 x2) fun v26_15 =>
  pu (aLoad false 1 v26_15 τ_8) fun v27_16 =>
  pu (aNil v23_13) fun v30_17 =>
  pu (aFieldAddr 1 v30_17) fun v31_18 =>
  pu (aStore 1 v31_18 x1 τ_8) fun τ_19 =>
  pu (aNil v27_16) fun v32_20 =>
  pu (aFieldAddr 1 v32_20) fun v33_21 =>
  pu (aStore 1 v33_21 x2 τ_19) fun τ_22 =>
  Q (.tuple #[]) τ_22
theorem o_cache_row_Swap_eq (Q : WK) (x0 x1 x2 : Value) (σ : AHeap) : wfn P C.E Tryz.f216 (hl [(0, .ord [(0, []), (1, []), (2, []), (3, []), (4, []), (5, []), (6, []), (7, []), (8, []), (9, []), (10, []), (11, []), (12, []), (13, []), (14, []), (15, [])]), (1, .ord [(0, []), (1, []), (2, []), (3, []), (4, []), (5, []), (6, []), (7, []), (8, []), (9, []), (10, []), (11, []), (12, []), (13, []), (14, []), (15, [])])]) [x0, x1, x2] σ (RQ Q) = o_cache_row_Swap Q x0 x1 x2 σ := by kernel_rfl
theorem o_cache_row_Swap_ev {Q : WK} {x0 x1 x2 : Value} {σ : AHeap} (h : o_cache_row_Swap Q x0 x1 x2 σ) : E f_cache_row_Swap [x0, x1, x2] σ Q := owfn Tryz.func216 _ (by kernel_rfl) (Eq.mpr (o_cache_row_Swap_eq Q x0 x1 x2 σ) h)
def o_disk_Disk_Blocks (Q : WK) (x0 : Value) (σ : AHeap) : Prop :=
  pu (aBin (some (.pointer t_disk_Disk)) .eql x0 (.pointer none)) fun v4_3 =>
  wC v4_3 (
  Q (.int .i64 0) σ) (
  pu (aNil x0) fun v6_8 =>
  pu (aFieldAddr 0 v6_8) fun v7_9 =>
  pu (aLoad false 1 v7_9 σ) fun v8_10 =>
  pu (lenS v8_10) fun v9_11 =>
  pu (aBin (some (.int .i64)) .quo v9_11 (.int .i64 256)) fun v10_12 =>
  Q v10_12 σ)
theorem o_disk_Disk_Blocks_eq (Q : WK) (x0 : Value) (σ : AHeap) : wfn P C.E Tryz.f119 (fun _ => none) [x0] σ (RQ Q) = o_disk_Disk_Blocks Q x0 σ := by kernel_rfl
theorem o_disk_Disk_Blocks_ev {Q : WK} {x0 : Value} {σ : AHeap} (h : o_disk_Disk_Blocks Q x0 σ) : E f_disk_Disk_Blocks [x0] σ Q := owfn Tryz.func119 _ (by kernel_rfl) (Eq.mpr (o_disk_Disk_Blocks_eq Q x0 σ) h)
def o_disk_Disk_Off (Q : WK) (x0 : Value) (σ : AHeap) : Prop :=
  pu (aBin (some (.pointer t_disk_Disk)) .eql x0 (.pointer none)) fun v4_3 =>
  wG v4_3 (
  Q (.bool true) σ) (
  pu (aNil x0) fun v7_5 =>
  pu (aFieldAddr 3 v7_5) fun v8_6 =>
  pu (aLoad false 1 v8_6 σ) fun v9_7 =>
  Q v9_7 σ) (
  wB v4_3 fun b_9 =>
  Q (cond b_9 (.bool true) skipV) σ)
theorem o_disk_Disk_Off_eq (Q : WK) (x0 : Value) (σ : AHeap) : wfn P C.E Tryz.f158 (fun _ => none) [x0] σ (RQ Q) = o_disk_Disk_Off Q x0 σ := by kernel_rfl
theorem o_disk_Disk_Off_ev {Q : WK} {x0 : Value} {σ : AHeap} (h : o_disk_Disk_Off Q x0 σ) : E f_disk_Disk_Off [x0] σ Q := owfn Tryz.func158 _ (by kernel_rfl) (Eq.mpr (o_disk_Disk_Off_eq Q x0 σ) h)
def o_disk_Disk_Read_k12 (N1 : Value → Value → Value → Value → Value → AHeap → Prop) (Q : WK) (p33_73 p7_75 p8_76 p31_77 p32_78 : Value) (τ_72 : AHeap) : Prop :=
  pu (aBin (some (.int .i64)) .add p33_73 (.int .i64 1)) fun v57_74 =>
  N1 p7_75 p8_76 p31_77 p32_78 v57_74 τ_72
def o_disk_Disk_Read_k11 (N1 : Value → Value → Value → Value → Value → AHeap → Prop) (Q : WK) (p47_61 p8_62 p10_63 p7_66 p33_79 p31_80 p32_81 : Value) (τ_60 : AHeap) : Prop :=
  wC p47_61 (
  pu (aFieldAddr 0 p10_63) fun v49_64 =>
  pu (aLoad false 1 v49_64 τ_60) fun v50_65 =>
  pu (aBin (some (.int .i64)) .sub v50_65 p7_66) fun v52_67 =>
  pu (aSlice 1 p8_62 (some v52_67) none none) fun v53_68 =>
  pu (aFieldAddr 1 p10_63) fun v54_69 =>
  pu (aLoad false 1 v54_69 τ_60) fun v55_70 =>
  pu (aCopy 1 v53_68 v55_70 τ_60) fun r56_71 =>
  (o_disk_Disk_Read_k12 N1 Q p33_79 p7_66 p8_62 p31_80 p32_81 r56_71.2)) (
  (o_disk_Disk_Read_k12 N1 Q p33_79 p7_66 p8_62 p31_80 p32_81 τ_60))
def o_disk_Disk_Read_b1 (N1 : Value → Value → Value → Value → Value → AHeap → Prop) (Q : WK) (x7_32 x8_33 x31_34 x32_35 x33_36 : Value) (τ_37 : AHeap) : Prop :=
  pu (aBin (some (.int .i64)) .lss x33_36 x32_35) fun v34_38 =>
  wC v34_38 (
  pu (aIndexAddr 2 x31_34 x33_36) fun v35_44 =>
  pu (aLoad true 2 v35_44 τ_37) fun v36_45 =>
  wNew τ_37 (.cells [(.int .i64 0), (.slice none 0 0)] t_disk_flight false) fun b_46 τ_47 =>
  pu (aStore 2 (.pointer (some ⟨b_46, 0, none⟩)) v36_45 τ_47) fun τ_48 =>
  pu (aFieldAddr 0 (.pointer (some ⟨b_46, 0, none⟩))) fun v37_51 =>
  pu (aLoad false 1 v37_51 τ_48) fun v38_52 =>
  pu (aBin (some (.int .i64)) .geq v38_52 x7_32) fun v40_54 =>
  wG v40_54 (
  pu (aFieldAddr 0 (.pointer (some ⟨b_46, 0, none⟩))) fun v42_55 =>
  pu (aLoad false 1 v42_55 τ_48) fun v43_56 =>
  pu (aBin (some (.int .i64)) .add x7_32 (.int .i64 256)) fun v45_57 =>
  pu (aBin (some (.int .i64)) .lss v43_56 v45_57) fun v46_58 =>
  (o_disk_Disk_Read_k11 N1 Q v46_58 x8_33 (.pointer (some ⟨b_46, 0, none⟩)) x7_32 x33_36 x31_34 x32_35 τ_48)) (
  (o_disk_Disk_Read_k11 N1 Q (.bool false) x8_33 (.pointer (some ⟨b_46, 0, none⟩)) x7_32 x33_36 x31_34 x32_35 τ_48)) (
  wB v40_54 fun b_87 =>
  (o_disk_Disk_Read_k11 N1 Q (cond b_87 skipV (.bool false)) x8_33 (.pointer (some ⟨b_46, 0, none⟩)) x7_32 x33_36 x31_34 x32_35 τ_48))) (
  Q (.tuple #[x8_33, (.int .i64 0)]) τ_37)
def o_disk_Disk_Read (Q : WK) (x0 x1 : Value) (σ : AHeap) : Prop :=
  E f_disk_Disk_ready [x0, x1] σ fun v13_4 τ_5 =>
  pu (aBin (some (.int .i64)) .neq v13_4 (.int .i64 0)) fun v15_8 =>
  wC v15_8 (
  Q (.tuple #[(.slice none 0 0), v13_4]) τ_5) (
  pu (aBin (some (.int .i64)) .mul x1 (.int .i64 256)) fun v18_14 =>
  pu (aNil x0) fun v20_17 =>
  pu (aFieldAddr 0 v20_17) fun v21_18 =>
  pu (aLoad false 1 v21_18 τ_5) fun v22_19 =>
  pu (aBin (some (.int .i64)) .add v18_14 (.int .i64 256)) fun v25_21 =>
  pu (aSlice 1 v22_19 (some v18_14) (some v25_21) none) fun v26_22 =>
  E f_bytes_Clone [v26_22] τ_5 fun v27_23 τ_24 =>
  pu (aNil x0) fun v29_27 =>
  pu (aFieldAddr 1 v29_27) fun v30_28 =>
  pu (aLoad false 1 v30_28 τ_24) fun v31_29 =>
  pu (lenS v31_29) fun v32_30 =>
  ∃ I_98 : Nat → Value → Value → Value → Value → Value → AHeap → Prop, (∃ m, I_98 m v18_14 v27_23 v31_29 v32_30 (.int .i64 0) τ_24) ∧
  ∀ m (x7_32' x8_33' x31_34' x32_35' x33_36' : Value) (σ' : AHeap), I_98 m x7_32' x8_33' x31_34' x32_35' x33_36' σ' → (o_disk_Disk_Read_b1 (fun x7_32' x8_33' x31_34' x32_35' x33_36' σ' => ∃ m', m' < m ∧ I_98 m' x7_32' x8_33' x31_34' x32_35' x33_36' σ') Q x7_32' x8_33' x31_34' x32_35' x33_36' σ'))
theorem o_disk_Disk_Read_eq (Q : WK) (x0 x1 : Value) (σ : AHeap) : wfn P C.E Tryz.f125 (hl [(2, .loopj [7, 8, 31, 32, 33] [8] [7, 8, 31, 32, 33]), (6, .ord [(0, []), (1, []), (2, []), (3, []), (4, []), (5, []), (6, []), (7, []), (8, [])])]) [x0, x1] σ (RQ Q) = o_disk_Disk_Read Q x0 x1 σ := by kernel_rfl
theorem o_disk_Disk_Read_ev {Q : WK} {x0 x1 : Value} {σ : AHeap} (h : o_disk_Disk_Read Q x0 x1 σ) : E f_disk_Disk_Read [x0, x1] σ Q := owfn Tryz.func125 _ (by kernel_rfl) (Eq.mpr (o_disk_Disk_Read_eq Q x0 x1 σ) h)
def o_disk_Disk_Write (Q : WK) (x0 x1 x2 : Value) (σ : AHeap) : Prop :=
  cond (live x0) (wNew σ (.cells (Value.cells x0).toList t_p_disk_Disk false) fun b_1 τ_2 =>
  cond (live x1) (wNew τ_2 (.cells (Value.cells x1).toList t_int false) fun b_3 τ_4 =>
  cond (live x2) (wNew τ_4 (.cells (Value.cells x2).toList t_sl_uint8 false) fun b_5 τ_6 =>
  pu (aLoad false 1 (.pointer (some ⟨b_1, 0, none⟩)) τ_6) fun v8_9 =>
  pu (aLoad false 1 (.pointer (some ⟨b_3, 0, none⟩)) τ_6) fun v9_11 =>
  E f_disk_Disk_ready [v8_9, v9_11] τ_6 fun v10_12 τ_13 =>
  pu (aBin (some (.int .i64)) .neq v10_12 (.int .i64 0)) fun v12_16 =>
  wC v12_16 (
  Q v10_12 τ_13) (
  pu (aLoad false 1 (.pointer (some ⟨b_5, 0, none⟩)) τ_13) fun v14_22 =>
  pu (lenS v14_22) fun v15_23 =>
  pu (aBin (some (.int .i64)) .neq v15_23 (.int .i64 256)) fun v16_24 =>
  wC v16_24 (
  Q (.int .i64 1) τ_13) (
  pu (aLoad false 1 (.pointer (some ⟨b_1, 0, none⟩)) τ_13) fun v17_29 =>
  E f_disk_Disk_burn [v17_29, (.func (.func f_disk_Disk_Write_c1) #[] #[(.pointer (some ⟨b_5, 0, none⟩)), (.pointer (some ⟨b_1, 0, none⟩)), (.pointer (some ⟨b_3, 0, none⟩))])] τ_13 fun v19_32 τ_33 =>
  Q v19_32 τ_33))) False) False) False
theorem o_disk_Disk_Write_eq (Q : WK) (x0 x1 x2 : Value) (σ : AHeap) : wfn P C.E Tryz.f185 (fun _ => none) [x0, x1, x2] σ (RQ Q) = o_disk_Disk_Write Q x0 x1 x2 σ := by kernel_rfl
theorem o_disk_Disk_Write_ev {Q : WK} {x0 x1 x2 : Value} {σ : AHeap} (h : o_disk_Disk_Write Q x0 x1 x2 σ) : E f_disk_Disk_Write [x0, x1, x2] σ Q := owfn Tryz.func185 _ (by kernel_rfl) (Eq.mpr (o_disk_Disk_Write_eq Q x0 x1 x2 σ) h)
def o_disk_Disk_Write_c1_b1 (N1 : Value → Value → Value → Value → AHeap → Prop) (Q : WK) (x1_6 x2_7 x3_8 x4_9 : Value) (τ_10 : AHeap) : Prop :=
  pu (aBin (some (.int .i64)) .lss x4_9 (.int .i64 256)) fun v8_11 =>
  wC v8_11 (
  pu (aLoad false 1 x1_6 τ_10) fun v11_16 =>
  pu (aLoad false 1 x1_6 τ_10) fun v12_17 =>
  pu (aNil v12_17) fun v13_18 =>
  pu (aFieldAddr 1 v13_18) fun v14_19 =>
  pu (aLoad false 1 v14_19 τ_10) fun v15_20 =>
  pu (aLoad false 1 x2_7 τ_10) fun v16_22 =>
  pu (aBin (some (.int .i64)) .mul v16_22 (.int .i64 256)) fun v17_23 =>
  pu (aBin (some (.int .i64)) .add v17_23 x4_9) fun v19_25 =>
  pu (aBin (some (.int .i64)) .add x4_9 (.int .i64 64)) fun v23_27 =>
  pu (aBin (some (.int .i64)) .add x4_9 (.int .i64 64)) fun v25_28 =>
  pu (aSlice 1 x3_8 (some x4_9) (some v23_27) (some v25_28)) fun v26_29 =>
  pu (buildR [(0, 1), (1, 1)] [(.int .i64 0), (.slice none 0 0)] [(0, v19_25), (1, v26_29)]) fun v27_30 =>
  pu (buildS t_disk_flight 2 1 [(.int .i64 0), (.slice none 0 0)] [(0, v27_30)] τ_10) fun r28_31 =>
  pu (aLoad false 1 x1_6 r28_31.2) fun v11_32 =>
  veq1 v11_32 v11_16 = true ∧
  pu (aLoad false 1 x1_6 r28_31.2) fun v12_33 =>
  veq1 v12_33 v12_17 = true ∧
  pu (aLoad false 1 v14_19 r28_31.2) fun v15_34 =>
  veq1 v15_34 v15_20 = true ∧
  pu (aAppend t_disk_flight 2 32 v15_20 r28_31.1 r28_31.2) fun r29_35 =>
  pu (aLoad false 1 x1_6 r29_35.2) fun v11_36 =>
  veq1 v11_36 v11_16 = true ∧
  pu (aNil v11_16) fun v30_37 =>
  pu (aFieldAddr 1 v30_37) fun v31_38 =>
  pu (aStore 1 v31_38 r29_35.1 r29_35.2) fun τ_39 =>
  pu (aBin (some (.int .i64)) .add x4_9 (.int .i64 64)) fun v10_42 =>
  N1 x1_6 x2_7 x3_8 v10_42 τ_39) (
  Q (.tuple #[]) τ_10)
def o_disk_Disk_Write_c1 (Q : WK) (x0 x1 x2 : Value) (σ : AHeap) : Prop :=
  pu (aLoad false 1 x0 σ) fun v5_1 =>
  E f_bytes_Clone [v5_1] σ fun v6_2 τ_3 =>
  ∃ I_50 : Nat → Value → Value → Value → Value → AHeap → Prop, (∃ m, I_50 m x1 x2 v6_2 (.int .i64 0) τ_3) ∧
  ∀ m (x1_6' x2_7' x3_8' x4_9' : Value) (σ' : AHeap), I_50 m x1_6' x2_7' x3_8' x4_9' σ' → (o_disk_Disk_Write_c1_b1 (fun x1_6' x2_7' x3_8' x4_9' σ' => ∃ m', m' < m ∧ I_50 m' x1_6' x2_7' x3_8' x4_9' σ') Q x1_6' x2_7' x3_8' x4_9' σ')
theorem o_disk_Disk_Write_c1_eq (Q : WK) (x0 x1 x2 : Value) (σ : AHeap) : wfn P C.E Tryz.f191 (hl [(1, .loopj [1, 2, 3, 4] [] [1, 2, 3, 4]), (4, .ord [(0, []), (1, []), (2, []), (3, []), (4, []), (5, []), (6, []), (7, []), (8, []), (9, []), (10, []), (11, []), (12, []), (13, []), (14, []), (15, []), (16, []), (17, [0, 1, 4]), (18, [0]), (19, []), (20, []), (21, [])])]) [x0, x1, x2] σ (RQ Q) = o_disk_Disk_Write_c1 Q x0 x1 x2 σ := by kernel_rfl
theorem o_disk_Disk_Write_c1_ev {Q : WK} {x0 x1 x2 : Value} {σ : AHeap} (h : o_disk_Disk_Write_c1 Q x0 x1 x2 σ) : E f_disk_Disk_Write_c1 [x0, x1, x2] σ Q := owfn Tryz.func191 _ (by kernel_rfl) (Eq.mpr (o_disk_Disk_Write_c1_eq Q x0 x1 x2 σ) h)
def o_disk_Disk_burn_k6 (Q : WK) (p1_31 : Value) (τ_30 : AHeap) : Prop :=
  wF p1_31 fun g_34 a_35 c_36 => E g_34 (a_35 ++ [] ++ c_36) τ_30 fun v26_32 τ_33 =>
  Q (.int .i64 0) τ_33
def o_disk_Disk_burn (Q : WK) (x0 x1 : Value) (σ : AHeap) : Prop :=
  pu (aNil x0) fun v6_3 =>
  pu (aFieldAddr 2 v6_3) fun v7_4 =>
  pu (aLoad false 1 v7_4 σ) fun v8_5 =>
  pu (aBin (some (.int .i64)) .gtr v8_5 (.int .i64 0)) fun v9_6 =>
  wC v9_6 (
  pu (aNil x0) fun v11_10 =>
  pu (aFieldAddr 2 v11_10) fun v12_11 =>
  pu (aLoad false 1 v12_11 σ) fun v13_12 =>
  pu (aBin (some (.int .i64)) .sub v13_12 (.int .i64 1)) fun v14_13 =>
  pu (aNil x0) fun v15_14 =>
  pu (aFieldAddr 2 v15_14) fun v16_15 =>
  pu (aStore 1 v16_15 v14_13 σ) fun τ_16 =>
  pu (aNil x0) fun v18_19 =>
  pu (aFieldAddr 2 v18_19) fun v19_20 =>
  pu (aLoad false 1 v19_20 τ_16) fun v20_21 =>
  pu (aBin (some (.int .i64)) .eql v20_21 (.int .i64 0)) fun v21_22 =>
  wC v21_22 (
  pu (aNil x0) fun v23_26 =>
  pu (aFieldAddr 3 v23_26) fun v24_27 =>
  pu (aStore 1 v24_27 (.bool true) τ_16) fun τ_28 =>
  Q (.int .i64 9) τ_28) (
  (o_disk_Disk_burn_k6 Q x1 τ_16))) (
  (o_disk_Disk_burn_k6 Q x1 σ))
theorem o_disk_Disk_burn_eq (Q : WK) (x0 x1 : Value) (σ : AHeap) : wfn P C.E Tryz.f190 (fun _ => none) [x0, x1] σ (RQ Q) = o_disk_Disk_burn Q x0 x1 σ := by kernel_rfl
theorem o_disk_Disk_burn_ev {Q : WK} {x0 x1 : Value} {σ : AHeap} (h : o_disk_Disk_burn Q x0 x1 σ) : E f_disk_Disk_burn [x0, x1] σ Q := owfn Tryz.func190 _ (by kernel_rfl) (Eq.mpr (o_disk_Disk_burn_eq Q x0 x1 σ) h)
def o_disk_Disk_ready_k4 (Q : WK) (p21_17 : Value) (τ_16 : AHeap) : Prop :=
  wC p21_17 (
  Q (.int .i64 6) τ_16) (
  Q (.int .i64 0) τ_16)
def o_disk_Disk_ready_k2 (Q : WK) (p5_6 p0_7 p1_25 : Value) (τ_5 : AHeap) : Prop :=
  wC p5_6 (
  Q (.int .i64 2) τ_5) (
  pu (aNil p0_7) fun v18_8 =>
  pu (aFieldAddr 3 v18_8) fun v19_9 =>
  pu (aLoad false 1 v19_9 τ_5) fun v20_10 =>
  wC v20_10 (
  Q (.int .i64 9) τ_5) (
  pu (aBin (some (.int .i64)) .lss p1_25 (.int .i64 0)) fun v23_14 =>
  wG v23_14 (
  (o_disk_Disk_ready_k4 Q (.bool true) τ_5)) (
  E f_disk_Disk_Blocks [p0_7] τ_5 fun v27_20 τ_21 =>
  pu (aBin (some (.int .i64)) .geq p1_25 v27_20) fun v28_22 =>
  (o_disk_Disk_ready_k4 Q v28_22 τ_21)) (
  wB v23_14 fun b_24 =>
  (o_disk_Disk_ready_k4 Q (cond b_24 (.bool true) skipV) τ_5))))
def o_disk_Disk_ready (Q : WK) (x0 x1 : Value) (σ : AHeap) : Prop :=
  pu (aBin (some (.pointer t_disk_Disk)) .eql x0 (.pointer none)) fun v7_3 =>
  wG v7_3 (
  (o_disk_Disk_ready_k2 Q (.bool true) x0 x1 σ)) (
  pu (aNil x0) fun v10_27 =>
  pu (aFieldAddr 0 v10_27) fun v11_28 =>
  pu (aLoad false 1 v11_28 σ) fun v12_29 =>
  pu (lenS v12_29) fun v13_30 =>
  pu (aBin (some (.int .i64)) .eql v13_30 (.int .i64 0)) fun v14_31 =>
  (o_disk_Disk_ready_k2 Q v14_31 x0 x1 σ)) (
  wB v7_3 fun b_33 =>
  (o_disk_Disk_ready_k2 Q (cond b_33 (.bool true) skipV) x0 x1 σ))
theorem o_disk_Disk_ready_eq (Q : WK) (x0 x1 : Value) (σ : AHeap) : wfn P C.E Tryz.f164 (fun _ => none) [x0, x1] σ (RQ Q) = o_disk_Disk_ready Q x0 x1 σ := by kernel_rfl
theorem o_disk_Disk_ready_ev {Q : WK} {x0 x1 : Value} {σ : AHeap} (h : o_disk_Disk_ready Q x0 x1 σ) : E f_disk_Disk_ready [x0, x1] σ Q := owfn Tryz.func164 _ (by kernel_rfl) (Eq.mpr (o_disk_Disk_ready_eq Q x0 x1 σ) h)
def o_disk_New_k2 (Q : WK) (p9_6 p0_14 : Value) (τ_5 : AHeap) : Prop :=
  wC p9_6 (
  Q (.tuple #[(.pointer none), (.int .i64 1)]) τ_5) (
  pu (aBin (some (.int .i64)) .mul p0_14 (.int .i64 256)) fun v11_9 =>
  pu (aMake t_uint8 1 [(.int .u8 0)] v11_9 v11_9 τ_5) fun r12_10 =>
  pu (buildR [(0, 1), (1, 1), (2, 1), (3, 1)] [(.slice none 0 0), (.slice none 0 0), (.int .i64 0), (.bool false)] [(0, r12_10.1)]) fun v13_11 =>
  cond (live v13_11) (wNew r12_10.2 (.cells (Value.cells v13_11).toList t_disk_Disk false) fun b_12 τ_13 =>
  Q (.tuple #[(.pointer (some ⟨b_12, 0, none⟩)), (.int .i64 0)]) τ_13) False)
def o_disk_New (Q : WK) (x0 : Value) (σ : AHeap) : Prop :=
  pu (aBin (some (.int .i64)) .lss x0 (.int .i64 1)) fun v5_3 =>
  wG v5_3 (
  (o_disk_New_k2 Q (.bool true) x0 σ)) (
  pu (aBin (some (.int .i64)) .gtr x0 (.int .i64 1024)) fun v8_15 =>
  (o_disk_New_k2 Q v8_15 x0 σ)) (
  wB v5_3 fun b_17 =>
  (o_disk_New_k2 Q (cond b_17 (.bool true) skipV) x0 σ))
theorem o_disk_New_eq (Q : WK) (x0 : Value) (σ : AHeap) : wfn P C.E Tryz.f58 (fun _ => none) [x0] σ (RQ Q) = o_disk_New Q x0 σ := by kernel_rfl
theorem o_disk_New_ev {Q : WK} {x0 : Value} {σ : AHeap} (h : o_disk_New Q x0 σ) : E f_disk_New [x0] σ Q := owfn Tryz.func58 _ (by kernel_rfl) (Eq.mpr (o_disk_New_eq Q x0 σ) h)
def o_heap_Fix (Q : WK) (x0 x1 : Value) (σ : AHeap) : Prop :=
  pu (aMethod P x0 "Len" σ) fun r_3 => E r_3.1 (r_3.2 :: []) σ fun v7_1 τ_2 =>
  E f_heap_down [x0, x1, v7_1] τ_2 fun v8_4 τ_5 =>
  pu (aUn .not v8_4) fun v9_6 =>
  wC v9_6 (
  E f_heap_up [x0, x1] τ_5 fun v12_11 τ_12 =>
  Q (.tuple #[]) τ_12) (
  Q (.tuple #[]) τ_5)
theorem o_heap_Fix_eq (Q : WK) (x0 x1 : Value) (σ : AHeap) : wfn P C.E Tryz.f161 (fun _ => none) [x0, x1] σ (RQ Q) = o_heap_Fix Q x0 x1 σ := by kernel_rfl
theorem o_heap_Fix_ev {Q : WK} {x0 x1 : Value} {σ : AHeap} (h : o_heap_Fix Q x0 x1 σ) : E f_heap_Fix [x0, x1] σ Q := owfn Tryz.func161 _ (by kernel_rfl) (Eq.mpr (o_heap_Fix_eq Q x0 x1 σ) h)
def o_heap_Pop (Q : WK) (x0 : Value) (σ : AHeap) : Prop :=
  pu (aMethod P x0 "Len" σ) fun r_5 => E r_5.1 (r_5.2 :: []) σ fun v5_3 τ_4 =>
  pu (aBin (some (.int .i64)) .sub v5_3 (.int .i64 1)) fun v6_6 =>
  pu (aMethod P x0 "Swap" τ_4) fun r_12 => E r_12.1 (r_12.2 :: [(.int .i64 0), v6_6]) τ_4 fun v9_10 τ_11 =>
  E f_heap_down [x0, (.int .i64 0), v6_6] τ_11 fun v12_16 τ_17 =>
  pu (aMethod P x0 "Pop" τ_17) fun r_22 => E r_22.1 (r_22.2 :: []) τ_17 fun v14_20 τ_21 =>
  Q v14_20 τ_21
theorem o_heap_Pop_eq (Q : WK) (x0 : Value) (σ : AHeap) : wfn P C.E Tryz.f129 (fun _ => none) [x0] σ (RQ Q) = o_heap_Pop Q x0 σ := by kernel_rfl
theorem o_heap_Pop_ev {Q : WK} {x0 : Value} {σ : AHeap} (h : o_heap_Pop Q x0 σ) : E f_heap_Pop [x0] σ Q := owfn Tryz.func129 _ (by kernel_rfl) (Eq.mpr (o_heap_Pop_eq Q x0 σ) h)
def o_heap_Push (Q : WK) (x0 x1 : Value) (σ : AHeap) : Prop :=
  pu (aMethod P x0 "Push" σ) fun r_3 => E r_3.1 (r_3.2 :: [x1]) σ fun v6_1 τ_2 =>
  pu (aMethod P x0 "Len" τ_2) fun r_8 => E r_8.1 (r_8.2 :: []) τ_2 fun v9_6 τ_7 =>
  pu (aBin (some (.int .i64)) .sub v9_6 (.int .i64 1)) fun v10_9 =>
  E f_heap_up [x0, v10_9] τ_7 fun v11_10 τ_11 =>
  Q (.tuple #[]) τ_11
theorem o_heap_Push_eq (Q : WK) (x0 x1 : Value) (σ : AHeap) : wfn P C.E Tryz.f160 (fun _ => none) [x0, x1] σ (RQ Q) = o_heap_Push Q x0 x1 σ := by kernel_rfl
theorem o_heap_Push_ev {Q : WK} {x0 x1 : Value} {σ : AHeap} (h : o_heap_Push Q x0 x1 σ) : E f_heap_Push [x0, x1] σ Q := owfn Tryz.func160 _ (by kernel_rfl) (Eq.mpr (o_heap_Push_eq Q x0 x1 σ) h)
def o_heap_down_k5 (Q : WK) (p7_23 p1_24 : Value) (τ_22 : AHeap) : Prop :=
  pu (aBin (some (.int .i64)) .gtr p7_23 p1_24) fun v47_25 =>
  Q v47_25 τ_22
def o_heap_down_k10 (N1 : Value → Value → Value → Value → AHeap → Prop) (Q : WK) (p0_45 p9_46 p7_47 p1_73 p2_74 : Value) (τ_44 : AHeap) : Prop :=
  pu (aMethod P p0_45 "Less" τ_44) fun r_50 => E r_50.1 (r_50.2 :: [p9_46, p7_47]) τ_44 fun v38_48 τ_49 =>
  pu (aUn .not v38_48) fun v39_51 =>
  wC v39_51 (
  (o_heap_down_k5 Q p7_47 p1_73 τ_49)) (
  pu (aMethod P p0_45 "Swap" τ_49) fun r_64 => E r_64.1 (r_64.2 :: [p7_47, p9_46]) τ_49 fun v43_62 τ_63 =>
  N1 p0_45 p1_73 p2_74 p9_46 τ_63)
def o_heap_down_k9 (N1 : Value → Value → Value → Value → AHeap → Prop) (Q : WK) (p33_42 p10_43 p0_75 p7_76 p1_77 p2_78 p9_79 : Value) (τ_41 : AHeap) : Prop :=
  wC p33_42 (
  (o_heap_down_k10 N1 Q p0_75 p10_43 p7_76 p1_77 p2_78 τ_41)) (
  (o_heap_down_k10 N1 Q p0_75 p9_79 p7_76 p1_77 p2_78 τ_41))
def o_heap_down_k4 (N1 : Value → Value → Value → Value → AHeap → Prop) (Q : WK) (p21_17 p0_18 p1_19 p2_20 p7_21 p8_94 : Value) (τ_16 : AHeap) : Prop :=
  wC p21_17 (
  (o_heap_down_k5 Q p7_21 p1_19 τ_16)) (
  pu (aBin (some (.int .i64)) .add p8_94 (.int .i64 1)) fun v24_30 =>
  pu (aBin (some (.int .i64)) .lss v24_30 p2_20) fun v27_34 =>
  wG v27_34 (
  pu (aMethod P p0_18 "Less" τ_16) fun r_39 => E r_39.1 (r_39.2 :: [v24_30, p8_94]) τ_16 fun v32_37 τ_38 =>
  (o_heap_down_k9 N1 Q v32_37 v24_30 p0_18 p7_21 p1_19 p2_20 p8_94 τ_38)) (
  (o_heap_down_k9 N1 Q (.bool false) v24_30 p0_18 p7_21 p1_19 p2_20 p8_94 τ_16)) (
  wB v27_34 fun b_84 =>
  (o_heap_down_k9 N1 Q (cond b_84 skipV (.bool false)) v24_30 p0_18 p7_21 p1_19 p2_20 p8_94 τ_16)))
def o_heap_down_b1 (N1 : Value → Value → Value → Value → AHeap → Prop) (Q : WK) (x0_4 x1_5 x2_6 x7_7 : Value) (τ_8 : AHeap) : Prop :=
  pu (aBin (some (.int .i64)) .mul (.int .i64 2) x7_7) fun v13_9 =>
  pu (aBin (some (.int .i64)) .add v13_9 (.int .i64 1)) fun v14_10 =>
  pu (aBin (some (.int .i64)) .geq v14_10 x2_6) fun v17_14 =>
  wG v17_14 (
  (o_heap_down_k4 N1 Q (.bool true) x0_4 x1_5 x2_6 x7_7 v14_10 τ_8)) (
  pu (aBin (some (.int .i64)) .lss v14_10 (.int .i64 0)) fun v20_98 =>
  (o_heap_down_k4 N1 Q v20_98 x0_4 x1_5 x2_6 x7_7 v14_10 τ_8)) (
  wB v17_14 fun b_100 =>
  (o_heap_down_k4 N1 Q (cond b_100 (.bool true) skipV) x0_4 x1_5 x2_6 x7_7 v14_10 τ_8))
def o_heap_down (Q : WK) (x0 x1 x2 : Value) (σ : AHeap) : Prop :=
  ∃ I_101 : Nat → Value → Value → Value → Value → AHeap → Prop, (∃ m, I_101 m x0 x1 x2 x1 σ) ∧
  ∀ m (x0_4' x1_5' x2_6' x7_7' : Value) (σ' : AHeap), I_101 m x0_4' x1_5' x2_6' x7_7' σ' → (o_heap_down_b1 (fun x0_4' x1_5' x2_6' x7_7' σ' => ∃ m', m' < m ∧ I_101 m' x0_4' x1_5' x2_6' x7_7' σ') Q x0_4' x1_5' x2_6' x7_7' σ')
theorem o_heap_down_eq (Q : WK) (x0 x1 x2 : Value) (σ : AHeap) : wfn P C.E Tryz.f165 (hl [(1, .loopj [0, 1, 2, 7] [1, 7] [0, 1, 2, 7])]) [x0, x1, x2] σ (RQ Q) = o_heap_down Q x0 x1 x2 σ := by kernel_rfl
theorem o_heap_down_ev {Q : WK} {x0 x1 x2 : Value} {σ : AHeap} (h : o_heap_down Q x0 x1 x2 σ) : E f_heap_down [x0, x1, x2] σ Q := owfn Tryz.func165 _ (by kernel_rfl) (Eq.mpr (o_heap_down_eq Q x0 x1 x2 σ) h)
def o_heap_up_k2 (N1 : Value → Value → AHeap → Prop) (Q : WK) (p17_12 p0_13 p1_14 p4_25 : Value) (τ_11 : AHeap) : Prop :=
  wC p17_12 (
  Q (.tuple #[]) τ_11) (
  pu (aMethod P p0_13 "Swap" τ_11) fun r_21 => E r_21.1 (r_21.2 :: [p4_25, p1_14]) τ_11 fun v21_19 τ_20 =>
  N1 p0_13 p4_25 τ_20)
def o_heap_up_b1 (N1 : Value → Value → AHeap → Prop) (Q : WK) (x0_1 x1_2 : Value) (τ_3 : AHeap) : Prop :=
  pu (aBin (some (.int .i64)) .sub x1_2 (.int .i64 1)) fun v6_4 =>
  pu (aBin (some (.int .i64)) .quo v6_4 (.int .i64 2)) fun v7_5 =>
  pu (aBin (some (.int .i64)) .eql v7_5 x1_2) fun v10_9 =>
  wG v10_9 (
  (o_heap_up_k2 N1 Q (.bool true) x0_1 x1_2 v7_5 τ_3)) (
  pu (aMethod P x0_1 "Less" τ_3) fun r_29 => E r_29.1 (r_29.2 :: [x1_2, v7_5]) τ_3 fun v15_27 τ_28 =>
  pu (aUn .not v15_27) fun v16_30 =>
  (o_heap_up_k2 N1 Q v16_30 x0_1 x1_2 v7_5 τ_28)) (
  wB v10_9 fun b_32 =>
  (o_heap_up_k2 N1 Q (cond b_32 (.bool true) skipV) x0_1 x1_2 v7_5 τ_3))
def o_heap_up (Q : WK) (x0 x1 : Value) (σ : AHeap) : Prop :=
  ∃ I_33 : Nat → Value → Value → AHeap → Prop, (∃ m, I_33 m x0 x1 σ) ∧
  ∀ m (x0_1' x1_2' : Value) (σ' : AHeap), I_33 m x0_1' x1_2' σ' → (o_heap_up_b1 (fun x0_1' x1_2' σ' => ∃ m', m' < m ∧ I_33 m' x0_1' x1_2' σ') Q x0_1' x1_2' σ')
theorem o_heap_up_eq (Q : WK) (x0 x1 : Value) (σ : AHeap) : wfn P C.E Tryz.f186 (hl [(1, .loopj [0, 1] [] [0, 1])]) [x0, x1] σ (RQ Q) = o_heap_up Q x0 x1 σ := by kernel_rfl
theorem o_heap_up_ev {Q : WK} {x0 x1 : Value} {σ : AHeap} (h : o_heap_up Q x0 x1 σ) : E f_heap_up [x0, x1] σ Q := owfn Tryz.func186 _ (by kernel_rfl) (Eq.mpr (o_heap_up_eq Q x0 x1 σ) h)
end Go.Ax.O
set_option maxRecDepth 100000
namespace Go.Ax.O
open Go.Proofs
variable {l : List Assn} {σ : AHeap} {Q : WK}
theorem clone_ok {a : Option Addr} {n c : Nat} {bs : List UInt8} (h : H l σ) (hs : srcOf 1 (.slice a n c) σ = some (n, bv bs)) (hn : n ≤ 1099511627776)
    (hk : ∀ v σ', H (l ++ [Own t_uint8 1 v n (bv bs)]) σ' → Q v σ') : E f_bytes_Clone [.slice a n c] σ Q := by
  apply o_bytes_Clone_ev; unfold o_bytes_Clone
  cases a with
  | none =>
    simp
    have : n = 0 ∧ bs = [] := by
      simp only [srcOf] at hs
      split at hs
      · rename_i e; subst e
        simp only [Option.some.injEq, Prod.mk.injEq] at hs
        exact ⟨rfl, by have := congrArg List.length hs.2; simpa using this.symm⟩
      · cases hs
    obtain ⟨rfl, rfl⟩ := this
    exact hk _ _ (h.own_nil t_uint8 1)
  | some a =>
    simp
    refine append_own (n := 0) (xs := []) (h.own_zb t_uint8 1) l.length (by simp) hs (by omega) (by omega) (bv_one _) ?_
    intro v' σ' h'
    simp at h'
    exact hk _ _ h'
end Go.Ax.O
namespace Go.Ax
def put (l : List UInt8) (a : Nat) (x : List UInt8) : List UInt8 := l.take a ++ x ++ l.drop (a + x.length)
theorem put_length (l : List UInt8) (a : Nat) (x : List UInt8) (h : a + x.length ≤ l.length) : (put l a x).length = l.length := by
  simp [put]; omega
theorem splice_put (l x : List UInt8) (a : Nat) : splice (bv l) a (bv x) = bv (put l a x) := by simp [splice, put]
abbrev Flight := Nat × List UInt8
structure DM where
  last : List UInt8
  fly : List Flight
  fuse : Nat
  off : Bool
structure FlyOk (n : Nat) (f : Flight) : Prop where
  len : f.2.length = 64
  fit : f.1 + 64 ≤ 256 * n
  al : f.1 % 64 = 0
structure DM.Ok (D : DM) (n : Nat) : Prop where
  lo : 1 ≤ n
  hi : n ≤ 1024
  len : D.last.length = 256 * n
  fly : ∀ f ∈ D.fly, FlyOk n f
def over (from' : Nat) (out : List UInt8) (fs : List Flight) : List UInt8 := fs.foldl (fun out f => if from' ≤ f.1 ∧ f.1 < from' + 256 then put out (f.1 - from') f.2 else out) out
def parts (at' : Nat) (b : List UInt8) : List Flight := [(at' * 256, (b.drop 0).take 64), (at' * 256 + 64, (b.drop 64).take 64), (at' * 256 + 128, (b.drop 128).take 64), (at' * 256 + 192, (b.drop 192).take 64)]
namespace DM
def new (n : Nat) : DM := ⟨List.replicate (256 * n) 0, [], 0, false⟩
def ready (D : DM) (at' : Int) : Int := if D.off then 9 else if at' < 0 ∨ (D.last.length / 256 : Nat) ≤ at' then 6 else 0
def burn (D : DM) : DM × Bool := if D.fuse = 0 then (D, true) else if D.fuse = 1 then ({ D with fuse := 0, off := true }, false) else ({ D with fuse := D.fuse - 1 }, true)
def fling (D : DM) (at' : Nat) (b : List UInt8) : DM := { D with fly := D.fly ++ parts at' b }
def write (D : DM) (at' : Int) (b : List UInt8) : DM × Int :=
  if D.ready at' ≠ 0 then (D, D.ready at') else if b.length ≠ 256 then (D, 1) else if D.burn.2 then (D.burn.1.fling at'.toNat b, 0) else (D.burn.1, 9)
def block (D : DM) (at' : Nat) : List UInt8 := over (at' * 256) ((D.last.drop (at' * 256)).take 256) D.fly
end DM
theorem over_take (a : Nat) (l : List UInt8) (fs : List Flight) (k : Nat) (f : Flight) (h : fs[k]? = some f) :
    over a l (fs.take (k + 1)) = if a ≤ f.1 ∧ f.1 < a + 256 then put (over a l (fs.take k)) (f.1 - a) f.2 else over a l (fs.take k) := by
  rw [List.take_add_one, h]; simp [over]
theorem over_length (a : Nat) : ∀ (fs : List Flight) (l : List UInt8), l.length = 256 → (∀ f ∈ fs, f.2.length = 64) → (∀ f ∈ fs, a ≤ f.1 → f.1 < a + 256 → f.1 + 64 ≤ a + 256) → (over a l fs).length = 256
  | [], l, h, _, _ => h
  | f :: fs, l, h, hf, hg => by
    have h1 := hf f (by simp)
    have h2 := hg f (by simp)
    have ih := over_length a fs (if a ≤ f.1 ∧ f.1 < a + 256 then put l (f.1 - a) f.2 else l) (by
      split
      · rename_i hc
        have := h2 hc.1 hc.2
        rw [put_length _ _ _ (by omega), h]
      · exact h) (fun g hh => hf g (by simp [hh])) (fun g hh => hg g (by simp [hh]))
    exact ih
end Go.Ax
set_option maxRecDepth 100000
namespace Go.Ax.O
open Go.Proofs
variable {l : List Assn} {σ : AHeap} {Q : WK}
def flc : List Flight → List Value → List Value
  | f :: fs, s :: ss => .int .i64 (f.1 : Nat) :: s :: flc fs ss
  | _, _ => []
def FlyA : List Flight → List Value → Assn
  | f :: fs, s :: ss => sep (RoB s f.2) (FlyA fs ss)
  | _, _ => emp
theorem flc_get : ∀ (fs : List Flight) (ss : List Value) (k : Nat) (f : Flight) (s : Value), fs[k]? = some f → ss[k]? = some s → ((flc fs ss).drop (k * 2)).take 2 = [.int .i64 (f.1 : Nat), s]
  | [], _, k, f, s, h, _ => by simp at h
  | _ :: _, [], k, f, s, _, h => by simp at h
  | f :: fs, s :: ss, 0, f', s', h, h' => by simp at h h'; subst h; subst h'; simp [flc]
  | f :: fs, s :: ss, k + 1, f', s', h, h' => by
    simp at h h'
    have := flc_get fs ss k f' s' h h'
    simp only [flc]
    rw [show (k + 1) * 2 = k * 2 + 1 + 1 by omega, List.drop_succ_cons, List.drop_succ_cons]
    exact this
theorem flc_append : ∀ (fs : List Flight) (ss : List Value) (gs : List Flight) (ts : List Value), fs.length = ss.length → flc (fs ++ gs) (ss ++ ts) = flc fs ss ++ flc gs ts
  | [], [], gs, ts, _ => rfl
  | [], _ :: _, gs, ts, h => by simp at h
  | _ :: _, [], gs, ts, h => by simp at h
  | f :: fs, s :: ss, gs, ts, h => by simp [flc, flc_append fs ss gs ts (by simpa using h)]
theorem FlyA_append : ∀ (fs : List Flight) (ss : List Value) (gs : List Flight) (ts : List Value), fs.length = ss.length → FlyA (fs ++ gs) (ss ++ ts) = sep (FlyA fs ss) (FlyA gs ts)
  | [], [], gs, ts, _ => by simp [FlyA, emp_sep]
  | [], _ :: _, gs, ts, h => by simp at h
  | _ :: _, [], gs, ts, h => by simp at h
  | f :: fs, s :: ss, gs, ts, h => by simp [FlyA, FlyA_append fs ss gs ts (by simpa using h), sep_assoc]
theorem fly0 : ∀ {fs : List Flight} {ss : List Value} {l : List Assn} {σ : AHeap} {k : Nat} {f : Flight} {s : Value}, H (FlyA fs ss :: l) σ → fs[k]? = some f → ss[k]? = some s → H (RoB s f.2 :: l) σ
  | [], _, l, σ, k, f, s, h, hf, hs => by simp at hf
  | _ :: _, [], l, σ, k, f, s, h, hf, hs => by simp at hs
  | f :: fs, s :: ss, l, σ, 0, f', s', h, hf, hs => by
    simp at hf hs; subst hf; subst hs
    simp only [FlyA, H_sep] at h
    exact h.second
  | f :: fs, s :: ss, l, σ, k + 1, f', s', h, hf, hs => by
    simp at hf hs
    simp only [FlyA, H_sep] at h
    exact fly0 h.tail hf hs
theorem fly_at {fs : List Flight} {ss : List Value} (h : H l σ) (i : Nat) (hi : l[i]? = some (FlyA fs ss)) {k : Nat} {f : Flight} {s : Value} (hf : fs[k]? = some f) (hs : ss[k]? = some s) :
    ∃ b o cap c, s = .slice (some ⟨b, o, none⟩) f.2.length cap ∧ CapOk 1 f.2.length cap ∧ σ.row b = some c ∧ (c.drop o).take f.2.length = bv f.2 ∧ o + f.2.length ≤ c.length := (fly0 (h.front i hi) hf hs).rob0
def DiskP (b : Nat) (lv fv : Value) (ss : List Value) (D : DM) : List Assn :=
  [pt b (.cells [lv, fv, .int .i64 D.fuse, .bool D.off] t_disk_Disk false), Own t_uint8 1 lv D.last.length (bv D.last), Own t_disk_flight 2 fv D.fly.length (flc D.fly ss), FlyA D.fly ss]
def Disk (v : Value) (D : DM) : Assn := ex fun p : Nat × Value × Value × List Value =>
  sep (pure' (v = .pointer (some ⟨p.1, 0, none⟩) ∧ p.2.2.2.length = D.fly.length)) (Star (DiskP p.1 p.2.1 p.2.2.1 p.2.2.2 D))
theorem disk_out {v : Value} {D : DM} {m : List Assn} (h : H (Disk v D :: m) σ) : ∃ b lv fv ss, v = .pointer (some ⟨b, 0, none⟩) ∧ ss.length = D.fly.length ∧ H (DiskP b lv fv ss D ++ m) σ := by
  obtain ⟨p, h⟩ := H_ex.1 h
  rw [H_sep] at h
  obtain ⟨⟨h1, h2⟩, h⟩ := H_pure.1 h
  exact ⟨_, _, _, _, h1, h2, H_star.1 h⟩
theorem disk_in {D : DM} {b : Nat} (lv fv : Value) (ss : List Value) {m : List Assn} (hs : ss.length = D.fly.length) (h : H (DiskP b lv fv ss D ++ m) σ) : H (Disk (.pointer (some ⟨b, 0, none⟩)) D :: m) σ :=
  H_ex.2 ⟨(b, lv, fv, ss), by rw [H_sep]; exact H_pure.2 ⟨⟨rfl, hs⟩, H_star.2 h⟩⟩
theorem in_self {A : Assn} {m : List Assn} (i : Nat) (hi : l[i]? = some A) (h : H (A :: Star (l.set i emp) :: m) σ) : H (l ++ m) σ := by
  rw [H_app]
  have e : Star l = sep A (Star (l.set i emp)) := by
    conv => lhs; rw [Star_take l i]
    simp [List.getD, hi]
  rw [e, H_sep]; exact h
theorem bv_replicate (n : Nat) (b : UInt8) : List.replicate n (by8 b) = bv (List.replicate n b) := by simp [bv]
theorem new_yes {n : Int} (h : H l σ) (hn : 1 ≤ n ∧ n ≤ 1024) (hk : ∀ v σ', H (l ++ [Disk v (.new n.toNat)]) σ' → Q (.tuple #[v, .int .i64 0]) σ') : E f_disk_New [.int .i64 n] σ Q := by
  apply o_disk_New_ev; unfold o_disk_New
  have h1 : ¬ n < 1 := by omega
  have h2 : ¬ 1024 < n := by omega
  simp [h1]
  unfold o_disk_New_k2
  simp [h2]
  rw [wrap_i64 (by omega)]
  refine make_ok (H_one.2 h) (by omega) ?_
  intro b σ1 h3
  simp [splice]
  refine new_ok h3 ?_
  intro b2 σ2 h4
  refine hk _ _ (H_app.2 ?_)
  have e1 : (n * 256).toNat = 256 * n.toNat := by omega
  rw [e1, reps_one] at h4
  have h5 := ((h4.to_own 1 rfl (n := 256 * n.toNat) (z := 1) (by simp) (by unfold OPEN; omega)).own_nil t_disk_flight 2).emp_end
  have h6 := h5.pick [2, 1, 3, 4, 0] (by decide)
  refine (disk_in (D := .new n.toNat) (.slice (some ⟨b, 0, none⟩) (256 * n.toNat) (256 * n.toNat)) (.slice none 0 0) [] rfl ?_ : H [_, _] _).pick [1, 0] (by decide)
  rw [show (Value.int .u8 0) = by8 0 from rfl, bv_replicate] at h6
  simpa [picks, DiskP, DM.new, FlyA, flc] using h6
theorem blocks_ok {v : Value} {D : DM} (h : H l σ) (i : Nat) (hi : l[i]? = some (Disk v D)) (hD : D.last.length < 1099511627776) (hk : Q (.int .i64 (D.last.length / 256 : Nat)) σ) : E f_disk_Disk_Blocks [v] σ Q := by
  obtain ⟨b, lv, fv, ss, rfl, hs, h⟩ := disk_out (h.out i hi)
  apply o_disk_Disk_Blocks_ev; unfold o_disk_Disk_Blocks
  have r0 := load1 (n := 1) (o := 0) (h.row 0 rfl)
  obtain ⟨_, _, a, c, rfl⟩ := h.own_src 1 rfl
  simp [r0]
  rw [wrap_i64 (by omega)]
  simpa using hk
theorem off_ok {v : Value} {D : DM} (h : H l σ) (i : Nat) (hi : l[i]? = some (Disk v D)) (hk : Q (.bool D.off) σ) : E f_disk_Disk_Off [v] σ Q := by
  obtain ⟨b, lv, fv, ss, rfl, hs, h⟩ := disk_out (h.out i hi)
  apply o_disk_Disk_Off_ev; unfold o_disk_Disk_Off
  have r3 := load1 (n := 1) (o := 3) (h.row 0 rfl)
  simp [r3]
  exact hk
theorem ready_ok {v : Value} {D : DM} {n : Nat} {a : Int} (h : H l σ) (i : Nat) (hi : l[i]? = some (Disk v D)) (hD : D.Ok n) (hk : Q (.int .i64 (D.ready a)) σ) : E f_disk_Disk_ready [v, .int .i64 a] σ Q := by
  have h0 := h
  have hv0 := hi
  obtain ⟨b, lv, fv, ss, rfl, hs, h⟩ := disk_out (h.out i hi)
  have hlen := hD.len
  have hn := hD.lo
  have hn2 := hD.hi
  apply o_disk_Disk_ready_ev; unfold o_disk_Disk_ready
  have r0 := load1 (n := 1) (o := 0) (h.row 0 rfl)
  have r3 := load1 (n := 1) (o := 3) (h.row 0 rfl)
  obtain ⟨_, _, x, c, rfl⟩ := h.own_src 1 rfl
  have hz : ¬ D.last.length = 0 := by omega
  simp [r0]
  unfold o_disk_Disk_ready_k2
  have hz2 : D.last ≠ [] := fun e => by rw [e] at hz; simp at hz
  simp [hz2, r3]
  unfold DM.ready at hk
  cases hoff : D.off with
  | true => simpa [hoff] using hk
  | false =>
    simp only [hoff, Bool.false_eq_true, if_false] at hk
    simp
    refine wG_dec (fun h1 => ?_) fun h1 => ?_
    · unfold o_disk_Disk_ready_k4; simpa [h1] using hk
    · refine blocks_ok h0 i hv0 (by omega) ?_
      unfold o_disk_Disk_ready_k4
      simp
      refine wC_dec (fun h2 => ?_) fun h2 => ?_
      · rw [if_pos (.inr (by omega))] at hk; exact hk
      · rw [if_neg (by omega)] at hk; exact hk
theorem burn_ok {v : Value} {D : DM} {g : FuncId} {a c : Array Value} (h : H l σ) (i : Nat) (hi : l[i]? = some (Disk v D)) (hf : D.fuse < 9223372036854775808)
    (hw : D.burn.2 = true → ∀ σ', H (l.set i (Disk v D.burn.1)) σ' → E g (a.toList ++ [] ++ c.toList) σ' fun _ τ => Q (.int .i64 0) τ)
    (ho : D.burn.2 = false → ∀ σ', H (l.set i (Disk v D.burn.1)) σ' → Q (.int .i64 9) σ') : E f_disk_Disk_burn [v, .func (.func g) a c] σ Q := by
  have h0 := h
  obtain ⟨b, lv, fv, ss, rfl, hs, h⟩ := disk_out (h.out i hi)
  apply o_disk_Disk_burn_ev; unfold o_disk_Disk_burn
  have r2 := load1 (n := 1) (o := 2) (h.row 0 rfl)
  simp [r2]
  refine wC_dec (fun h1 => ?_) fun h1 => ?_
  · rw [wrap_i64 (by omega)]
    refine store1 h 0 rfl rfl (by simp) ?_
    intro σ1 h2
    have r2 := load1 (n := 1) (o := 2) (h2.row 0 rfl)
    simp [r2]
    refine wC_dec (fun h3 => ?_) fun h3 => ?_
    · refine store1 h2 0 rfl rfl (by simp) ?_
      intro σ2 h4
      have h5 : D.fuse = 1 := by omega
      have hb : D.burn = ({ D with fuse := 0, off := true }, false) := by simp [DM.burn, h5]
      refine ho (by rw [hb]) _ (H.in' i hi ?_)
      rw [hb]
      refine disk_in lv fv ss hs ?_
      have e : (D.fuse : Int) - 1 = 0 := by omega
      rw [e] at h4
      exact h4
    · unfold o_disk_Disk_burn_k6
      simp
      have hb : D.burn = ({ D with fuse := D.fuse - 1 }, true) := by
        unfold DM.burn
        rw [if_neg (by omega), if_neg (by omega)]
      have := hw (by rw [hb]) σ1 (by
        refine H.in' i hi ?_
        rw [hb]
        refine disk_in lv fv ss hs ?_
        have e : (D.fuse : Int) - 1 = ((D.fuse - 1 : Nat) : Int) := by omega
        rw [e] at h2
        exact h2)
      simpa using this
  · unfold o_disk_Disk_burn_k6
    simp
    have hb : D.burn = (D, true) := by
      unfold DM.burn
      rw [if_pos (by omega)]
    have := hw (by rw [hb]) σ (by
      have : l.set i (Disk (.pointer (some ⟨b, 0, none⟩)) D) = l := by
        apply List.ext_getElem?
        intro j
        rw [List.getElem?_set]
        split
        · rename_i e; subst e; split
          · exact hi.symm
          · rename_i hh; exact absurd (List.getElem?_eq_some_iff.1 hi).1 hh
        · rfl
      rw [hb]; simp only [this]; exact h0)
    simpa using this
end Go.Ax.O
set_option maxRecDepth 100000
namespace Go.Ax.O
open Go.Proofs
variable {l : List Assn} {σ : AHeap} {Q : WK}
theorem read_yes {v : Value} {D : DM} {n : Nat} {a : Int} (h : H l σ) (i : Nat) (hi : l[i]? = some (Disk v D)) (hD : D.Ok n) (hm : D.fly.length < 1099511627776) (hr : D.ready a = 0)
    (hk : ∀ w σ', H (l ++ [Own t_uint8 1 w 256 (bv (D.block a.toNat))]) σ' → Q (.tuple #[w, .int .i64 0]) σ') : E f_disk_Disk_Read [v, .int .i64 a] σ Q := by
  apply o_disk_Disk_Read_ev; unfold o_disk_Disk_Read
  refine ready_ok h i hi hD ?_
  simp [hr]
  have hlen := hD.len
  have hn := hD.lo
  have hn2 := hD.hi
  have ha : 0 ≤ a ∧ a < n := by
    unfold DM.ready at hr
    split at hr
    · simp at hr
    · split at hr
      · simp at hr
      · rename_i hx
        have : D.last.length / 256 = n := by omega
        omega
  have h0 := h
  obtain ⟨b, lv, fv, ss, rfl, hs, h⟩ := disk_out (h.out i hi)
  have r0 := load1 (n := 1) (o := 0) (h.row 0 rfl)
  have r1 := load1 (n := 1) (o := 1) (h.row 0 rfl)
  obtain ⟨_, _, x, c, rfl⟩ := h.own_src 2 rfl
  obtain ⟨lb, lc, rfl, hcap, rest, hrow⟩ := h.own_form 1 rfl (by omega)
  obtain ⟨A, rfl⟩ : ∃ A : Nat, a = A := ⟨a.toNat, by omega⟩
  simp at hk
  rw [wrap_i64 (by omega), wrap_i64 (by omega)]
  obtain ⟨dc, hsl, _⟩ := slice_mid (z := 1) (b := lb) (o := 0) (lo := (A : Int) * 256) (hi := (A : Int) * 256 + 256) (k := .i64) (k' := .i64) hcap (by omega)
  have e1 : ((A : Int) * 256 + 256).toNat - ((A : Int) * 256).toNat = 256 := by omega
  have e2 : ((A : Int) * 256).toNat = A * 256 := by omega
  rw [e1, e2] at hsl
  simp [r0, hsl]
  refine clone_ok (bs := (D.last.drop (A * 256)).take 256) h (n := 256) ?_ (by omega) ?_
  · rw [src_row hrow (by simp; omega), List.drop_append_of_le_length (by simp; omega), List.take_append_of_le_length (by simp; omega)]; simp
  intro w σ1 h1
  have r1 := load1 (n := 1) (o := 1) (h1.row 0 rfl)
  simp [r1]
  let J : Nat → List Assn := fun k => pt b (.cells [.slice (some ⟨lb, 0, none⟩) D.last.length lc, .slice x D.fly.length c, .int .i64 D.fuse, .bool D.off] t_disk_Disk false) :: Own t_uint8 1 (.slice (some ⟨lb, 0, none⟩) D.last.length lc) D.last.length (bv D.last) :: Own t_disk_flight 2 (.slice x D.fly.length c) D.fly.length (flc D.fly ss) :: FlyA D.fly ss :: [Star (l.set i emp), Own t_uint8 1 w 256 (bv (over (A * 256) ((D.last.drop (A * 256)).take 256) (D.fly.take k)))]
  obtain ⟨wb, wc, rfl, hwcap, _⟩ := h1.own_form 5 rfl (by omega)
  refine ⟨fun m x0 x1 x7 x8 x9 τ => ∃ k : Nat, m = D.fly.length - k ∧ k ≤ D.fly.length ∧ x0 = .int .i64 ((A : Int) * 256) ∧ x1 = .slice (some ⟨wb, 0, none⟩) 256 wc ∧ x7 = .slice x D.fly.length c ∧ x8 = .int .i64 D.fly.length ∧ x9 = .int .i64 k ∧ H (J k) τ, ⟨_, 0, rfl, by omega, rfl, rfl, rfl, rfl, rfl, ?_⟩, ?_⟩
  · exact h1
  · rintro m _ _ _ _ _ τ ⟨k, rfl, hkl, rfl, rfl, rfl, rfl, rfl, h⟩
    suffices hb : ∀ N : Value → Value → Value → Value → Value → AHeap → Prop, (∀ τ', k < D.fly.length → H (J (k + 1)) τ' →
        N (.int .i64 ((A : Int) * 256)) (.slice (some ⟨wb, 0, none⟩) 256 wc) (.slice x D.fly.length c) (.int .i64 D.fly.length) (.int .i64 (k + 1 : Nat)) τ') → o_disk_Disk_Read_b1 N Q (.int .i64 ((A : Int) * 256)) (.slice (some ⟨wb, 0, none⟩) 256 wc) (.slice x D.fly.length c) (.int .i64 D.fly.length) (.int .i64 k) τ from
      hb _ fun τ' hlt h' => ⟨_, by omega, k + 1, rfl, by omega, rfl, rfl, rfl, rfl, rfl, h'⟩
    intro N hN
    unfold o_disk_Disk_Read_b1
    simp
    have hov : (over (A * 256) ((D.last.drop (A * 256)).take 256) (D.fly.take k)).length = 256 := by
      refine over_length _ _ _ (by simp; omega) (fun f hf => (hD.fly f (List.mem_of_mem_take hf)).len) fun f hf g1 g2 => ?_
      have := (hD.fly f (List.mem_of_mem_take hf)).al
      omega
    refine wC_dec (fun h1 => ?_) fun h1 => ?_
    · obtain ⟨b2, e1, e2, e3⟩ := h.own_elem 2 rfl (k := k) h1
      have hf := List.getElem?_eq_getElem h1
      have hsk := List.getElem?_eq_getElem (show k < ss.length by omega)
      have hfo := hD.fly _ (List.getElem_mem h1)
      rw [flc_get _ _ k _ _ hf hsk] at e2
      have hfit := hfo.fit
      have hl64 := hfo.len
      have hal := hfo.al
      simp [e1, e2]
      refine new_ok h ?_
      intro tb σ1 h2
      obtain ⟨fb, fo, fcap, fc, hse, hfcap, hfr, hfd, hfl⟩ := fly_at h2 3 rfl hf hsk
      refine storeN h2 6 rfl (by simp) (by omega) (by simp [hse]) (by simp) ?_
      intro σ2 h3
      obtain ⟨fb, fo, fcap, fc, hse, hfcap, hfr, hfd, hfl⟩ := fly_at h3 3 rfl hf hsk
      have t0 := load1 (n := 1) (o := 0) (h3.row 6 rfl)
      have t1 := load1 (n := 1) (o := 1) (h3.row 6 rfl)
      have hfin : ∀ τ, H (J (k + 1)) τ → o_disk_Disk_Read_k12 N Q (.int .i64 k) (.int .i64 ((A : Int) * 256)) (.slice (some ⟨wb, 0, none⟩) 256 wc) (.slice x D.fly.length c) (.int .i64 D.fly.length) τ := by
        intro τ hτ
        unfold o_disk_Disk_Read_k12
        simp
        rw [wrap_i64 (by omega)]
        exact hN _ h1 hτ
      simp [t0, splice]
      refine wG_dec (fun g1 => ?_) fun g1 => ?_
      · try simp [t0, splice]
        rw [wrap_i64 (by omega)]
        unfold o_disk_Disk_Read_k11
        simp
        refine wC_dec (fun g2 => ?_) fun g2 => ?_
        · have g1' : A * 256 ≤ D.fly[k].1 := by omega
          obtain ⟨dc, hsl, _⟩ := slice_from (z := 1) (b := wb) (o := 0) (lo := ((D.fly[k].1 - A * 256 : Nat) : Int)) (k := .i64) hwcap (by omega)
          have hw : IntKind.i64.wrap ((D.fly[k].1 : Int) - (A : Int) * 256) = ((D.fly[k].1 - A * 256 : Nat) : Int) := by rw [wrap_i64 (by omega)]; omega
          simp only [Int.toNat_natCast] at hsl
          simp [t0, t1, splice, hw, hsl, hse]
          have hmin : Nat.min D.fly[k].2.length (256 - (D.fly[k].1 - A * 256)) = 64 := by rw [hl64]; exact Nat.min_eq_left (by omega)
          refine copy_own (ys := bv D.fly[k].2) h3 5 rfl (by omega) (by rw [hmin, rob_src (n := 64) hfr hfd hfl (by omega), List.take_of_length_le (by omega)]) (bv_one _) (by simp; omega) ?_
          intro σ3 h4
          refine hfin _ ?_
          simp only [J]
          rw [over_take _ _ _ _ _ hf, if_pos (by omega), ← splice_put]
          exact h4.pick [0, 1, 2, 3, 4, 5] (by decide)
        · refine hfin _ ?_
          simp only [J]
          rw [over_take _ _ _ _ _ hf, if_neg (by omega)]
          exact h3.pick [0, 1, 2, 3, 4, 5] (by decide)
      · try simp
        unfold o_disk_Disk_Read_k11
        simp
        refine hfin _ ?_
        simp only [J]
        rw [over_take _ _ _ _ _ hf, if_neg (by omega)]
        exact h3.pick [0, 1, 2, 3, 4, 5] (by decide)
    · have : k = D.fly.length := by omega
      subst this
      refine hk _ _ (in_self i hi (disk_in (.slice (some ⟨lb, 0, none⟩) D.last.length lc) (.slice x D.fly.length c) ss hs ?_))
      simp only [J, List.take_length] at h
      exact h
theorem own_one {i : Nat} {e z n : Nat} {v : Value} {xs : List Value} (h : H l σ) (hi : l[i]? = some (Own e z v n xs)) : one v = true := by
  obtain ⟨_, _, a, c, rfl⟩ := h.own_src i hi; rfl
theorem parts_get (a : Nat) (bs : List UInt8) (k : Nat) (h : k < 4) : (parts a bs)[k]? = some (a * 256 + 64 * k, (bs.drop (64 * k)).take 64) := by
  have : k = 0 ∨ k = 1 ∨ k = 2 ∨ k = 3 := by omega
  rcases this with rfl | rfl | rfl | rfl <;> rfl
theorem parts_take (a : Nat) (bs : List UInt8) (k : Nat) (h : k < 4) : (parts a bs).take (k + 1) = (parts a bs).take k ++ [(a * 256 + 64 * k, (bs.drop (64 * k)).take 64)] := by
  rw [List.take_add_one, parts_get a bs k h]; rfl
theorem fling_ok {v bv' : Value} {D : DM} {n a : Nat} {bs : List UInt8} {x0 x1 x2 : Nat} (h : H l σ) (i : Nat) (hi : l[i]? = some (Disk v D)) (hD : D.Ok n) (hm : D.fly.length < 1099511627776)
    (i0 : Nat) (h0 : l[i0]? = some (pt x0 (.cells [bv'] t_sl_uint8 false))) (i1 : Nat) (h1 : l[i1]? = some (pt x1 (.cells [v] t_p_disk_Disk false))) (i2 : Nat) (h2 : l[i2]? = some (pt x2 (.cells [.int .i64 (a : Nat)] t_int false)))
    (n0 : i0 ≠ i) (n1 : i1 ≠ i) (n2 : i2 ≠ i) (hb : Rd σ bv' bs) (hbs : bs.length = 256) (ha : a < n)
    (hk : ∀ σ', H (l.set i (Disk v (D.fling a bs))) σ' → Q (.tuple #[]) σ') : E f_disk_Disk_Write_c1 [.pointer (some ⟨x0, 0, none⟩), .pointer (some ⟨x1, 0, none⟩), .pointer (some ⟨x2, 0, none⟩)] σ Q := by
  have hlen := hD.len
  have hn := hD.lo
  have hn2 := hD.hi
  have r0 := load1 (n := 1) (o := 0) (h.row i0 h0)
  apply o_disk_Disk_Write_c1_ev; unfold o_disk_Disk_Write_c1
  obtain ⟨hsrc, ⟨ba, bc, rfl⟩, _⟩ := hb
  simp [r0]
  obtain ⟨b, lv, fv, ss, rfl, hs, h⟩ := disk_out (h.out i hi)
  refine clone_ok h hsrc (by omega) ?_
  intro w σ1 h3
  obtain ⟨wb, wc, rfl, hwc, _⟩ := h3.own_form 5 rfl (by omega)
  -- the clone is never written again
  obtain ⟨rest, e5, opn5, h4⟩ : ∃ rest e opn, H [pt b (.cells [lv, fv, .int .i64 D.fuse, .bool D.off] t_disk_Disk false), Own t_uint8 1 lv D.last.length (bv D.last), Own t_disk_flight 2 fv D.fly.length (flc D.fly ss), FlyA D.fly ss, Star (l.set i emp), ro wb (.cells (bv bs ++ rest) e opn)] σ1 := by
    rcases H_own.1 (h3.front 5 rfl) with ⟨⟨e, _⟩, _⟩ | ⟨b', c', opn, rest, h5, _, _, hv, _, _⟩
    · omega
    · cases hv
      exact ⟨rest, 5, opn, (h5.freeze 0 rfl).pick [1, 2, 3, 4, 5, 0] (by decide)⟩
  let J : Nat → Value → List Value → List Assn := fun k fv ss => [pt b (.cells [lv, fv, .int .i64 D.fuse, .bool D.off] t_disk_Disk false), Own t_uint8 1 lv D.last.length (bv D.last), Own t_disk_flight 2 fv (D.fly.length + k) (flc (D.fly ++ (parts a bs).take k) ss), FlyA (D.fly ++ (parts a bs).take k) ss, Star (l.set i emp), ro wb (.cells (bv bs ++ rest) e5 opn5)]
  refine ⟨fun m y1 y2 y3 y4 τ => ∃ k : Nat, m = 4 - k ∧ k ≤ 4 ∧ y1 = .pointer (some ⟨x1, 0, none⟩) ∧ y2 = .pointer (some ⟨x2, 0, none⟩) ∧ y3 = .slice (some ⟨wb, 0, none⟩) bs.length wc ∧ y4 = .int .i64 (64 * k : Nat) ∧ ∃ fv ss, ss.length = D.fly.length + k ∧ H (J k fv ss) τ, ⟨_, 0, rfl, by omega, rfl, rfl, rfl, rfl, fv, ss, hs, ?_⟩, ?_⟩
  · simpa [J] using h4
  · rintro m _ _ _ _ τ ⟨k, rfl, hkl, rfl, rfl, rfl, rfl, fv, ss, hs, h⟩
    suffices hb : ∀ N : Value → Value → Value → Value → AHeap → Prop, (∀ τ' fv' ss', k < 4 → ss'.length = D.fly.length + (k + 1) → H (J (k + 1) fv' ss') τ' →
        N (.pointer (some ⟨x1, 0, none⟩)) (.pointer (some ⟨x2, 0, none⟩)) (.slice (some ⟨wb, 0, none⟩) bs.length wc) (.int .i64 (64 * (k + 1) : Nat)) τ') → o_disk_Disk_Write_c1_b1 N Q (.pointer (some ⟨x1, 0, none⟩)) (.pointer (some ⟨x2, 0, none⟩)) (.slice (some ⟨wb, 0, none⟩) bs.length wc) (.int .i64 (64 * k : Nat)) τ from
      hb _ fun τ' fv' ss' hlt hs' h' => ⟨_, by omega, k + 1, rfl, by omega, rfl, rfl, rfl, rfl, fv', ss', hs', h'⟩
    intro N hN
    have hl : ∀ {τ : AHeap} {m : List Assn}, H (m ++ [Star (l.set i emp)]) τ → True := fun _ => trivial
    have hx : ∀ {τ : AHeap}, H (l.set i emp) τ → aLoad false 1 (.pointer (some ⟨x1, 0, none⟩)) τ = some (.pointer (some ⟨b, 0, none⟩)) ∧ aLoad false 1 (.pointer (some ⟨x2, 0, none⟩)) τ = some (.int .i64 (a : Nat)) := by
      intro τ hτ
      have g1 : (l.set i emp)[i1]? = some (pt x1 (.cells [.pointer (some ⟨b, 0, none⟩)] t_p_disk_Disk false)) := by rw [List.getElem?_set_ne (Ne.symm n1)]; exact h1
      have g2 : (l.set i emp)[i2]? = some (pt x2 (.cells [.int .i64 (a : Nat)] t_int false)) := by rw [List.getElem?_set_ne (Ne.symm n2)]; exact h2
      have l1 := load1 (n := 1) (o := 0) (hτ.row i1 g1)
      have l2 := load1 (n := 1) (o := 0) (hτ.row i2 g2)
      exact ⟨by rw [l1]; rfl, by rw [l2]; rfl⟩
    unfold o_disk_Disk_Write_c1_b1
    simp
    refine wC_dec (fun hlt => ?_) fun hlt => ?_
    · have hk4 : k < 4 := by omega
      obtain ⟨l1, l2⟩ := hx (h.beside 4 rfl)
      have b1 := load1 (n := 1) (o := 1) (h.row 0 rfl)
      obtain ⟨_, _, fa, fc, rfl⟩ := h.own_src 2 rfl
      have w1 : IntKind.i64.wrap ((a : Int) * 256) = (a : Int) * 256 := wrap_i64 (by omega)
      have w2 : IntKind.i64.wrap ((a : Int) * 256 + 64 * (k : Int)) = ((a * 256 + 64 * k : Nat) : Int) := by rw [wrap_i64 (by omega)]; omega
      have w3 : IntKind.i64.wrap (64 * (k : Int) + 64) = ((64 * (k + 1) : Nat) : Int) := by rw [wrap_i64 (by omega)]; omega
      have sl := slice_3 (z := 1) (b := wb) (o := 0) (n := bs.length) (c := wc) (lo := 64 * (k : Int)) (hi := ((64 * (k + 1) : Nat) : Int)) (mx := ((64 * (k + 1) : Nat) : Int)) (k := .i64) (k' := .i64) (k'' := .i64) hwc (by omega)
      have z1 : (64 * (k : Int)).toNat = 64 * k := by omega
      have z2 : ((64 * (k + 1) : Nat) : Int).toNat - 64 * k = 64 := by omega
      rw [z1, z2, Nat.zero_add, Nat.mul_one] at sl
      simp only [l1, l2, b1, w1, w2, w3, pu_some, nil_ptr, fieldAddr_ptr, bin_add, bin_mul, sl, Nat.zero_add, List.getElem?_cons_succ, List.getElem?_cons_zero]
      generalize hat : a * 256 + 64 * k = at'
      simp [splice]
      refine buildS_ok h (by rfl) (cs := [.int .i64 (at' : Nat), .slice (some ⟨wb, 64 * k, none⟩) 64 64]) (by simp [reps, splice]) ?_
      intro nb σ2 h5
      obtain ⟨l1, l2⟩ := hx (h5.beside 4 rfl)
      have b1 := load1 (n := 1) (o := 1) (h5.row 0 rfl)
      simp [l1, b1, veq1, veq, veq0]
      refine append_own h5 2 rfl (src_row (n := 1) (z := 2) (h5.row 6 rfl) (by simp)) (by omega) (by omega) (by simp) ?_
      intro fv' σ3 h6
      obtain ⟨l1, l2⟩ := hx (h6.beside 4 rfl)
      have hfv := own_one h6 (i := 2) rfl
      simp [l1]
      refine store1 (o := 1) h6 0 rfl hfv (by simp) ?_
      intro σ4 h7
      have hrob := (h7.dup 5 rfl (Dup.ro _ _)).unsnoc
      have h8 := rob_in (o := 64 * k) (cap := 64) (x := (bs.drop (64 * k)).take 64) (by simp [hbs]; rw [show min 64 (256 - 64 * k) = 64 by omega]; exact CapOk.exact (by unfold OPEN; omega)) (by
        simp only [List.length_take, List.length_drop, hbs]
        rw [show min 64 (256 - 64 * k) = 64 by omega, List.drop_append_of_le_length (by simp; omega), List.take_append_of_le_length (by simp; omega)]; simp) (by simp [hbs]; omega) hrob
      have h9 := h8.pick [1, 2, 3, 4, 0, 5, 6] (by decide)
      refine hN σ4 fv' (ss ++ [.slice (some ⟨wb, 64 * k, none⟩) 64 64]) hk4 (by simp [hs]; omega) ?_
      have hlk : ((parts a bs).take k).length = k := by simp [parts]; omega
      have e64 : ((bs.drop (64 * k)).take 64).length = 64 := by simp [hbs]; omega
      rw [e64] at h9
      simp only [J]
      rw [parts_take a bs k hk4, ← List.append_assoc, flc_append _ _ _ _ (by simp [hlk, hs]), FlyA_append _ _ _ _ (by simp [hlk, hs]), hat]
      have eF : ∀ (p : Nat) (y : List UInt8) (s : Value), FlyA [(p, y)] [s] = RoB s y := fun p y s => by
        simp only [FlyA]; rw [sep_comm, emp_sep]
      rw [eF]
      have h10 := (H_sep.2 (h9.pick [3, 4, 0, 1, 2, 5, 6] (by decide))).pick [1, 2, 3, 0, 4, 5] (by decide)
      exact h10
    · obtain rfl : k = 4 := by omega
      refine hk _ (H.in' i hi (disk_in lv fv ss ?_ ?_))
      · simpa [DM.fling, parts] using hs
      · have := h.pick [0, 1, 2, 3, 4] (by decide)
        simpa [Ax.picks, J, DiskP, DM.fling, parts] using this
theorem write_ok {v bv' : Value} {D : DM} {n : Nat} {a : Int} {bs : List UInt8} (h : H l σ) (i : Nat) (hi : l[i]? = some (Disk v D)) (hD : D.Ok n) (hf : D.fuse < 9223372036854775808) (hm : D.fly.length < 1099511627776) (hl : bs.length ≤ 140737488355328)
    (hb : ∀ τ, H (l.set i emp) τ → Rd τ bv' bs) (hk : ∀ σ', H (l.set i (Disk v (D.write a bs).1)) σ' → Q (.int .i64 (D.write a bs).2) σ') : E f_disk_Disk_Write [v, .int .i64 a, bv'] σ Q := by
  have hlt := (List.getElem?_eq_some_iff.1 hi).1
  obtain ⟨ba, bc, rfl⟩ := (hb σ (by
    have := (h.front i hi).tail
    exact this)).form
  obtain ⟨pb, hv⟩ : ∃ pb, v = .pointer (some ⟨pb, 0, none⟩) := by
    obtain ⟨b, _, _, _, e, _⟩ := disk_out (h.out i hi); exact ⟨b, e⟩
  subst hv
  have h' := h.out i hi
  apply o_disk_Disk_Write_ev; unfold o_disk_Disk_Write
  simp
  refine new_ok h' ?_
  intro x1 σ1 h1
  refine new_ok h1 ?_
  intro x2 σ2 h2
  refine new_ok h2 ?_
  intro x0 σ3 h3
  have q1 := load1 (n := 1) (o := 0) (h3.row 2 rfl)
  have q2 := load1 (n := 1) (o := 0) (h3.row 3 rfl)
  have q0 := load1 (n := 1) (o := 0) (h3.row 4 rfl)
  simp [q1, q2]
  have back : ∀ {τ D'}, H [Disk (.pointer (some ⟨pb, 0, none⟩)) D', Star (l.set i emp), pt x1 (.cells [.pointer (some ⟨pb, 0, none⟩)] t_p_disk_Disk false), pt x2 (.cells [.int .i64 a] t_int false), pt x0 (.cells [.slice ba bs.length bc] t_sl_uint8 false)] τ → H (l.set i (Disk (.pointer (some ⟨pb, 0, none⟩)) D')) τ :=
    fun h => H.in' i hi (h.pick [0, 1] (by decide))
  refine ready_ok h3 0 rfl hD ?_
  simp
  by_cases hr : D.ready a = 0
  · simp [hr, q0]
    by_cases hbl : bs.length = 256
    · have hz : (256 : Int) = (bs.length : Int) := by omega
      simp [hbl, q1]
      refine burn_ok h3 0 rfl hf (fun hb1 σ4 h4 => ?_) fun hb1 σ4 h4 => ?_
      · have hD2 : D.burn.1.Ok n := by
          unfold DM.burn; split
          · exact hD
          · split <;> exact ⟨hD.lo, hD.hi, hD.len, hD.fly⟩
        have hfl : D.burn.1.fly = D.fly := by unfold DM.burn; split; rfl; split <;> rfl
        have ha : 0 ≤ a ∧ a < n := by
          have hlen := hD.len
          unfold DM.ready at hr
          split at hr
          · simp at hr
          · split at hr
            · simp at hr
            · rename_i hx
              have : D.last.length / 256 = n := by omega
              omega
        obtain ⟨A, rfl⟩ : ∃ A : Nat, a = A := ⟨a.toNat, by omega⟩
        refine fling_ok (bs := bs) h4 0 rfl hD2 (by rw [hfl]; exact hm) 4 rfl 2 rfl 3 rfl (by decide) (by decide) (by decide) (hb _ (h4.beside 1 rfl)) hbl (by omega) ?_
        intro σ5 h5
        have e : D.write A bs = (D.burn.1.fling A bs, 0) := by simp [DM.write, hr, hbl, hb1]
        rw [e] at hk
        exact hk _ (back h5)
      · have e : D.write a bs = (D.burn.1, 9) := by simp [DM.write, hr, hbl, hb1]
        rw [e] at hk
        exact hk _ (back h4)
    · have : ¬ (bs.length : Int) = 256 := by omega
      simp [this]
      have e : D.write a bs = (D, 1) := by simp [DM.write, hr, hbl]
      rw [e] at hk
      exact hk _ (back h3)
  · simp [hr]
    have e : D.write a bs = (D, D.ready a) := by simp [DM.write, hr]
    rw [e] at hk
    exact hk _ (back h3)
end Go.Ax.O
set_option maxRecDepth 100000
namespace Go.Ax.O
open Go.Proofs Go.RowKit
variable {l m : List Assn} {σ : AHeap} {Q : WK}
theorem put_get (L : List UInt8) (a : Nat) (x : List UInt8) (h : a + x.length ≤ L.length) (i : Nat) : (put L a x)[i]? = if a ≤ i ∧ i < a + x.length then x[i - a]? else L[i]? := by
  unfold put
  rw [List.append_assoc, List.getElem?_append]
  simp only [List.length_take, Nat.min_eq_left (show a ≤ L.length by omega)]
  split
  · rename_i hi
    rw [if_neg (by omega), List.getElem?_take, if_pos hi]
  · rw [List.getElem?_append]
    split
    · rw [if_pos (by omega)]
    · rw [if_neg (by omega), List.getElem?_drop]; congr 1; omega
theorem parts_Ok {n a : Nat} {bs : List UInt8} (ha : a < n) (hb : bs.length = 256) : ∀ f ∈ parts a bs, FlyOk n f := by
  intro f hf
  simp only [parts, List.mem_cons, List.not_mem_nil, or_false] at hf
  rcases hf with rfl | rfl | rfl | rfl <;> refine ⟨by simp [hb], ?_, ?_⟩ <;> simp <;> omega
theorem ready_in {D : DM} {n : Nat} (hD : D.Ok n) {a : Nat} (ha : a < n) : D.ready a = if D.off then 9 else 0 := by
  unfold DM.ready
  have := hD.len
  have : D.last.length / 256 = n := by omega
  cases D.off with
  | true => rfl
  | false => simp only [Bool.false_eq_true, if_false]; rw [if_neg (by omega)]
theorem fling_Ok {D : DM} {n a : Nat} {bs : List UInt8} (hD : D.Ok n) (ha : a < n) (hb : bs.length = 256) : (D.fling a bs).Ok n :=
  ⟨hD.lo, hD.hi, hD.len, fun f hf => by
    simp only [DM.fling, List.mem_append] at hf
    rcases hf with hf | hf
    · exact hD.fly f hf
    · exact parts_Ok ha hb f hf⟩
theorem block_len {D : DM} {n a : Nat} (hD : D.Ok n) (ha : a < n) : (D.block a).length = 256 := by
  have := hD.len
  refine over_length _ _ _ (by simp; omega) (fun f hf => (hD.fly f hf).len) fun f hf g1 g2 => ?_
  have := (hD.fly f hf).al
  omega
theorem own_freeze {v : Value} {n : Nat} {x : List UInt8} (hn : 0 < n) (h : H (Own t_uint8 1 v n (bv x) :: m) σ) : ∃ b c, v = .slice (some ⟨b, 0, none⟩) n c ∧ CapOk 1 n c ∧
    ∀ o k c', CapOk 1 k c' → o + k ≤ n → H (RoB (.slice (some ⟨b, o, none⟩) k c') ((x.drop o).take k) :: m) σ := by
  rcases H_own.1 h with ⟨⟨rfl, _⟩, _⟩ | ⟨b, c, opn, rest, hp, hx, hr, rfl, hn2, ho⟩
  · omega
  · refine ⟨b, c, rfl, ⟨hn2, by rcases ho with ⟨_, _, x⟩ | x; exact .inr x; exact .inl x⟩, fun o k c' hc hk => ?_⟩
    have hxl : x.length = n := by simpa using hx
    have hl : ((x.drop o).take k).length = k := by simp; omega
    have := rob_in (b := b) (o := o) (cap := c') (x := (x.drop o).take k) (c := bv x ++ rest) (e := t_uint8) (opn := opn) (by rw [hl]; exact hc) (by
      rw [hl, List.drop_append_of_le_length (by simp; omega), List.take_append_of_le_length (by simp; omega)]; simp) (by rw [hl]; simp; omega) hp.freeze0
    rw [hl] at this
    exact this
theorem write_plain {D : DM} {n a : Nat} {bs : List UInt8} (hD : D.Ok n) (ho : D.off = false) (hf : D.fuse = 0) (ha : a < n) (hb : bs.length = 256) : D.write a bs = (D.fling a bs, 0) := by
  have hr := ready_in hD ha
  rw [ho] at hr
  simp at hr
  simp [DM.write, hr, hb, DM.burn, hf]
theorem star2 {B : Assn} {i j : Nat} (hj : l[j]? = some B) (hij : i ≠ j) : Star (l.set i emp) = sep B (Star ((l.set i emp).set j emp)) := by
  conv => lhs; rw [Star_take _ j]
  simp [List.getD, List.getElem?_set, hij, hj]
end Go.Ax.O
namespace Go.Ax
section
variable {α : Type} (key : α → Nat)
def swp (R : List α) (i j : Nat) : List α :=
  match R[i]?, R[j]? with
  | some x, some y => (R.set i y).set j x
  | _, _ => R
variable {key}
theorem swp_eq {R : List α} {i j : Nat} (hi : i < R.length) (hj : j < R.length) : swp R i j = (R.set i R[j]).set j R[i] := by
  unfold swp
  rw [List.getElem?_eq_getElem hi, List.getElem?_eq_getElem hj]
theorem swp_length (R : List α) (i j : Nat) : (swp R i j).length = R.length := by
  unfold swp; split <;> simp
theorem swp_get {R : List α} {i j : Nat} (hi : i < R.length) (hj : j < R.length) (k : Nat) : (swp R i j)[k]? = if k = j then R[i]? else if k = i then R[j]? else R[k]? := by
  rw [swp_eq hi hj, List.getElem?_set, List.getElem?_set]
  by_cases h1 : j = k
  · subst h1; simp [hj, List.getElem?_eq_getElem hi]
  · rw [if_neg h1, if_neg (Ne.symm h1)]
    by_cases h2 : i = k
    · subst h2; simp [hi, List.getElem?_eq_getElem hj]
    · rw [if_neg h2, if_neg (Ne.symm h2)]
theorem swp_perm (R : List α) {i j : Nat} (hi : i < R.length) (hj : j < R.length) : (swp R i j).Perm R := by
  rw [swp_eq hi hj]
  exact List.set_set_perm hi hj
variable (key)
def Ky (R : List α) (k : Nat) : Nat := ((R[k]?).map key).getD 0
variable {key}
theorem Ky_swp {R : List α} {i j : Nat} (hi : i < R.length) (hj : j < R.length) (k : Nat) : Ky key (swp R i j) k = if k = j then Ky key R i else if k = i then Ky key R j else Ky key R k := by
  unfold Ky
  rw [swp_get hi hj]
  split
  · rfl
  · split <;> rfl
variable (key)
def HeapEx (R : List α) (n i : Nat) : Prop := (∀ k, 0 < k → k < n → (k - 1) / 2 ≠ i → Ky key R ((k - 1) / 2) ≤ Ky key R k) ∧ (∀ k, 0 < k → k < n → (k - 1) / 2 = i → 0 < i → Ky key R ((i - 1) / 2) ≤ Ky key R k)
def HeapOk (R : List α) (n : Nat) : Prop := ∀ k, 0 < k → k < n → Ky key R ((k - 1) / 2) ≤ Ky key R k
variable {key}
theorem HeapEx.step {R : List α} {n i j : Nat} (h : HeapEx key R n i) (hn : n ≤ R.length) (hj : j < n) (hp : (j - 1) / 2 = i) (hj0 : 0 < j) (hmin : ∀ k, 0 < k → k < n → (k - 1) / 2 = i → Ky key R j ≤ Ky key R k) (hlt : Ky key R j < Ky key R i) : HeapEx key (swp R i j) n j := by
  obtain ⟨h1, h2⟩ := h
  have hij : i < j := by omega
  refine ⟨fun k hk0 hkn hpk => ?_, fun k hk0 hkn hpk _ => ?_⟩
  · rw [Ky_swp (by omega) (by omega), Ky_swp (by omega) (by omega)]
    by_cases e1 : k = j
    · subst e1
      rw [if_neg (by omega), if_pos hp, if_pos rfl]; omega
    · by_cases e2 : k = i
      · subst e2
        rw [if_neg (by omega), if_neg (by omega), if_neg (by omega), if_pos rfl]
        exact h2 j hj0 hj hp hk0
      · rw [if_neg hpk, if_neg e1, if_neg e2]
        by_cases e3 : (k - 1) / 2 = i
        · rw [if_pos e3]; exact hmin k hk0 hkn e3
        · rw [if_neg e3]; exact h1 k hk0 hkn e3
  · rw [Ky_swp (by omega) (by omega), Ky_swp (by omega) (by omega)]
    rw [if_neg (by omega), if_pos hp, if_neg (by omega), if_neg (by omega)]
    have := h1 k hk0 hkn (by omega)
    rw [hpk] at this
    exact this
theorem HeapEx.done {R : List α} {n i : Nat} (h : HeapEx key R n i) (hmin : ∀ k, 0 < k → k < n → (k - 1) / 2 = i → Ky key R i ≤ Ky key R k) : HeapOk key R n := by
  intro k hk0 hkn
  by_cases e : (k - 1) / 2 = i
  · rw [e]; exact hmin k hk0 hkn e
  · exact h.1 k hk0 hkn e
theorem HeapOk.top {R : List α} {n : Nat} (h : HeapOk key R n) : ∀ k, k < n → Ky key R 0 ≤ Ky key R k := by
  intro k
  induction k using Nat.strongRecOn with
  | ind k ih =>
    intro hk
    rcases Nat.eq_zero_or_pos k with rfl | h0
    · exact Nat.le_refl _
    · exact Nat.le_trans (ih ((k - 1) / 2) (by omega) (by omega)) (h k h0 hk)
theorem Ky_congr {R S : List α} {n : Nat} (h : ∀ k, k < n → R[k]? = S[k]?) {k : Nat} (hk : k < n) : Ky key R k = Ky key S k := by unfold Ky; rw [h k hk]
theorem HeapOk.congr {R S : List α} {n : Nat} (h : HeapOk key R n) (e : ∀ k, k < n → R[k]? = S[k]?) : HeapOk key S n := fun k h0 hk => by
  rw [← Ky_congr e hk, ← Ky_congr e (show (k - 1) / 2 < n by omega)]; exact h k h0 hk
theorem HeapOk.grow {R : List α} {n p : Nat} {x : α} (h : HeapOk key R n) (hp : p < R.length) (hx : Ky key R p ≤ key x) : HeapEx key (R.set p x) n p := by
  have hK : ∀ k, Ky key (R.set p x) k = if k = p then key x else Ky key R k := by
    intro k
    unfold Ky
    rw [List.getElem?_set]
    by_cases e : p = k
    · subst e; simp [hp]
    · rw [if_neg e, if_neg (Ne.symm e)]
  refine ⟨fun k h0 hk hpk => ?_, fun k h0 hk hpk hp0 => ?_⟩
  · rw [hK, hK, if_neg hpk]
    have := h k h0 hk
    split
    · rename_i e; subst e; omega
    · exact this
  · rw [hK, hK, if_neg (by omega)]
    have h1 := h k h0 hk
    have h2 := h p hp0 (by omega)
    rw [hpk] at h1
    rw [if_neg (by omega)]
    omega
theorem HeapOk.pop {R : List α} {n : Nat} (h : HeapOk key R (n + 1)) (hn : n < R.length) : HeapEx key (swp R 0 n) n 0 := by
  refine ⟨fun k h0 hk hpk => ?_, fun k h0 hk hpk hp0 => by omega⟩
  rw [Ky_swp (by omega) hn, Ky_swp (by omega) hn, if_neg (by omega), if_neg hpk, if_neg (by omega), if_neg (by omega)]
  exact h k h0 (by omega)
end
end Go.Ax
set_option maxRecDepth 100000
namespace Go.Ax.O
open Go.Proofs Go.RowKit
variable {l m : List Assn} {σ : AHeap} {Q : WK}
structure Rec where
  ib : Nat
  pl : Nat
  used : Nat
  dirty : Bool
  sv : Value
  b : List UInt8
abbrev ku : Rec → Nat := Rec.used
def BytesV (v : Value) (x : List UInt8) : Assn := fun r => pure' (v = .slice none 0 0 ∧ x = []) r ∨ RoB v x r
def ItemA (k : Nat) (r : Rec) : Assn := sep (pt r.ib (.cells [.int .i64 r.pl, .int .i64 k, .int .u64 r.used, .bool r.dirty, r.sv] t_cache_item false)) (BytesV r.sv r.b)
def itemsL : Nat → List Rec → List Assn
  | _, [] => []
  | o, r :: R => ItemA o r :: itemsL (o + 1) R
theorem itemsL_get : ∀ (R : List Rec) (o k : Nat), (itemsL o R)[k]? = R[k]?.map (ItemA (o + k))
  | [], o, k => by simp [itemsL]
  | r :: R, o, 0 => by simp [itemsL]
  | r :: R, o, k + 1 => by simp [itemsL, itemsL_get R (o + 1) k]; rw [show o + 1 + k = o + (k + 1) by omega]
theorem itemsL_set : ∀ (R : List Rec) (o k : Nat) (r : Rec), (itemsL o R).set k (ItemA (o + k) r) = itemsL o (R.set k r)
  | [], o, k, r => by simp [itemsL]
  | x :: R, o, 0, r => by simp [itemsL]
  | x :: R, o, k + 1, r => by
    have := itemsL_set R (o + 1) k r
    rw [show o + 1 + k = o + (k + 1) by omega] at this
    simp [itemsL, this]
theorem itemsL_append : ∀ (R S : List Rec) (o : Nat), itemsL o (R ++ S) = itemsL o R ++ itemsL (o + R.length) S
  | [], S, o => by simp [itemsL]
  | r :: R, S, o => by simp [itemsL, itemsL_append R S (o + 1)]; rw [show o + 1 + R.length = o + (R.length + 1) by omega]
theorem itemsL_length : ∀ (R : List Rec) (o : Nat), (itemsL o R).length = R.length
  | [], o => rfl
  | r :: R, o => by simp [itemsL, itemsL_length R (o + 1)]
theorem item_out {R : List Rec} {k : Nat} {r : Rec} (h : H (Star (itemsL 0 R) :: m) σ) (hr : R[k]? = some r) : H (ItemA k r :: Star ((itemsL 0 R).set k emp) :: m) σ := by
  have e : (itemsL 0 R)[k]? = some (ItemA k r) := by rw [itemsL_get, hr]; simp
  rw [Star_take _ k, H_sep] at h
  simpa only [List.getD, e, Option.getD_some] using h
theorem item_in {R : List Rec} {k : Nat} {r : Rec} (hk : k < R.length) (h : H (ItemA k r :: Star ((itemsL 0 R).set k emp) :: m) σ) : H (Star (itemsL 0 (R.set k r)) :: m) σ := by
  have e := itemsL_set R 0 k r
  rw [Nat.zero_add] at e
  rw [← e, Star_set _ _ _ (by rw [itemsL_length]; exact hk), H_sep]
  exact h
def ptrs (R : List Rec) : List Value := R.map fun r => .pointer (some ⟨r.ib, 0, none⟩)
theorem ptrs_get {R : List Rec} {k : Nat} {r : Rec} (h : R[k]? = some r) : (ptrs R)[k]? = some (.pointer (some ⟨r.ib, 0, none⟩)) := by simp [ptrs, h]
theorem ptrs_len (R : List Rec) : (ptrs R).length = R.length := by simp [ptrs]
def RowL (cb : Nat) (cs : List Value) (rowv : Value) (R : List Rec) (I0 : Assn) : List Assn := [pt cb (.cells (cs ++ [rowv]) t_cache_Cache false), Own t_p_cache_item 1 rowv R.length (ptrs R), Star (itemsL 0 R), I0]
section
variable {cb : Nat} {cs : List Value} {rowv : Value} {R : List Rec} {I0 : Assn}
theorem row_load (hcs : cs.length = 4) (h : H (RowL cb cs rowv R I0) σ) : aLoad false 1 (.pointer (some ⟨cb, 4, none⟩)) σ = some rowv := by
  rw [load1 (h.row 0 rfl), List.getElem?_append_right (by omega), hcs]; rfl
theorem row_form (h : H (RowL cb cs rowv R I0) σ) : ∃ a c, rowv = .slice a R.length c := (h.own_src 1 rfl).2.2
theorem m_len (v : Value) (σ : AHeap) : aMethod P (.iface t_p_cache_row v) "Len" σ = (aLoad false 1 v σ).bind fun u => some (f_cache_row_Len, u) := by kernel_rfl
theorem m_less (v : Value) (σ : AHeap) : aMethod P (.iface t_p_cache_row v) "Less" σ = (aLoad false 1 v σ).bind fun u => some (f_cache_row_Less, u) := by kernel_rfl
theorem m_swap (v : Value) (σ : AHeap) : aMethod P (.iface t_p_cache_row v) "Swap" σ = (aLoad false 1 v σ).bind fun u => some (f_cache_row_Swap, u) := by kernel_rfl
theorem m_pop (v : Value) (σ : AHeap) : aMethod P (.iface t_p_cache_row v) "Pop" σ = some (f_cache_row_Pop, v) := by kernel_rfl
theorem m_push (v : Value) (σ : AHeap) : aMethod P (.iface t_p_cache_row v) "Push" σ = some (f_cache_row_Push, v) := by kernel_rfl
theorem len_ok (h : H (RowL cb cs rowv R I0) σ) (hk : Q (.int .i64 R.length) σ) : E f_cache_row_Len [rowv] σ Q := by
  obtain ⟨a, c, rfl⟩ := row_form h
  apply o_cache_row_Len_ev; unfold o_cache_row_Len
  simpa using hk
theorem less_ok {i j : Nat} {x y : Rec} (h : H (RowL cb cs rowv R I0) σ) (hi : R[i]? = some x) (hj : R[j]? = some y) (hk : Q (.bool (decide (x.used < y.used))) σ) : E f_cache_row_Less [rowv, .int .i64 i, .int .i64 j] σ Q := by
  have hil := (List.getElem?_eq_some_iff.1 hi).1
  have hjl := (List.getElem?_eq_some_iff.1 hj).1
  apply o_cache_row_Less_ev; unfold o_cache_row_Less
  obtain ⟨b, c, rfl, hc, rest, hrow⟩ := h.own_form 1 rfl (by omega)
  have r1 := load1 (n := 1) (o := i) hrow
  have r2 := load1 (n := 1) (o := j) hrow
  rw [List.getElem?_append_left (by rw [ptrs_len]; omega), ptrs_get hi] at r1
  rw [List.getElem?_append_left (by rw [ptrs_len]; omega), ptrs_get hj] at r2
  rw [idxA (by omega), idxA (by omega)]
  have h1 := item_out (h.pick [2, 0, 1, 3] (by decide)) hi
  unfold ItemA at h1
  rw [H_sep] at h1
  have h2 := item_out (h.pick [2, 0, 1, 3] (by decide)) hj
  unfold ItemA at h2
  rw [H_sep] at h2
  have u1 := load1 (n := 1) (o := 2) (h1.row 0 rfl)
  have u2 := load1 (n := 1) (o := 2) (h2.row 0 rfl)
  simp [r1, r2, u1, u2]
  have e : decide ((x.used : Int) < (y.used : Int)) = decide (x.used < y.used) := by
    by_cases g : x.used < y.used
    · rw [decide_eq_true g, decide_eq_true (by omega)]
    · rw [decide_eq_false g, decide_eq_false (by omega)]
  simpa [e] using hk
theorem items_out2 {i j : Nat} {x y : Rec} (hij : i ≠ j) (hi : R[i]? = some x) (hj : R[j]? = some y) (h : H (Star (itemsL 0 R) :: m) σ) : H (ItemA i x :: ItemA j y :: Star (((itemsL 0 R).set i emp).set j emp) :: m) σ := by
  have h1 := item_out h hi
  have e : Star ((itemsL 0 R).set i emp) = sep (ItemA j y) (Star (((itemsL 0 R).set i emp).set j emp)) := by
    refine star2 ?_ hij
    rw [itemsL_get, hj]; simp
  rw [e] at h1
  have h2 := h1.perm (List.Perm.swap _ _ _)
  rw [H_sep] at h2
  have h3 : H ([ItemA j y, Star (((itemsL 0 R).set i emp).set j emp)] ++ ItemA i x :: m) σ := h2
  exact h3.perm (by
    show (ItemA j y :: Star (((itemsL 0 R).set i emp).set j emp) :: ItemA i x :: m).Perm (ItemA i x :: ItemA j y :: Star (((itemsL 0 R).set i emp).set j emp) :: m)
    exact ((List.Perm.swap _ _ _).cons _).trans (List.Perm.swap _ _ _))
theorem items_in2 {i j : Nat} {x y : Rec} (hij : i ≠ j) (hi : i < R.length) (hj : j < R.length) (h : H (ItemA j x :: ItemA i y :: Star (((itemsL 0 R).set i emp).set j emp) :: m) σ) : H (Star (itemsL 0 ((R.set i y).set j x)) :: m) σ := by
  have e1 := itemsL_set (R.set i y) 0 j x
  have e2 := itemsL_set R 0 i y
  rw [Nat.zero_add] at e1 e2
  rw [← e1, ← e2, Star_set _ j _ (by simp [itemsL_length]; exact hj), H_sep, List.set_comm _ _ hij, Star_set _ i _ (by simp [itemsL_length]; exact hi)]
  have h2 := h.perm ((List.Perm.cons _ (List.Perm.refl _)))
  rw [List.set_comm _ _ hij] at h2
  have h3 : H ((sep (ItemA i y) (Star (((itemsL 0 R).set j emp).set i emp))) :: ItemA j x :: m) σ := by
    rw [H_sep]
    exact h2.perm (by
      show (ItemA j x :: ItemA i y :: Star (((itemsL 0 R).set j emp).set i emp) :: m).Perm (ItemA i y :: Star (((itemsL 0 R).set j emp).set i emp) :: ItemA j x :: m)
      exact (List.Perm.swap _ _ _).trans ((List.Perm.swap _ _ _).cons _))
  exact h3.perm (List.Perm.swap _ _ _)
theorem ptrs_swp {i j : Nat} {x y : Rec} (hi : R[i]? = some x) (hj : R[j]? = some y) : ((ptrs R).set i (.pointer (some ⟨y.ib, 0, none⟩))).set j (.pointer (some ⟨x.ib, 0, none⟩)) = ptrs (swp R i j) := by
  unfold swp ptrs
  rw [hi, hj]
  simp only [List.map_set]
theorem swap_ok {i j : Nat} {x y : Rec} (h : H (RowL cb cs rowv R I0) σ) (hi : R[i]? = some x) (hj : R[j]? = some y) (hk : ∀ σ', H (RowL cb cs rowv (swp R i j) I0) σ' → Q (.tuple #[]) σ') : E f_cache_row_Swap [rowv, .int .i64 i, .int .i64 j] σ Q := by
  have hil := (List.getElem?_eq_some_iff.1 hi).1
  have hjl := (List.getElem?_eq_some_iff.1 hj).1
  apply o_cache_row_Swap_ev; unfold o_cache_row_Swap
  obtain ⟨b, c, rfl, hc, rest, hrow⟩ := h.own_form 1 rfl (by omega)
  have r1 := load1 (n := 1) (o := i) hrow
  have r2 := load1 (n := 1) (o := j) hrow
  rw [List.getElem?_append_left (by rw [ptrs_len]; omega), ptrs_get hi] at r1
  rw [List.getElem?_append_left (by rw [ptrs_len]; omega), ptrs_get hj] at r2
  rw [idxA (by omega), idxA (by omega)]
  simp [r1, r2]
  refine store_own h 1 rfl (by omega) rfl (by rw [ptrs_len]; omega) ?_
  intro σ1 h1
  refine store_own h1 1 rfl (by omega) rfl (by rw [List.length_set, ptrs_len]; omega) ?_
  intro σ2 h2
  rw [ptrs_swp hi hj] at h2
  obtain ⟨_, _, hv, _, rest, hrow⟩ := h2.own_form 1 rfl (by omega)
  cases hv
  have si : (swp R i j)[i]? = some (if i = j then x else y) := by
    rw [swp_get hil hjl]; split
    · exact hi
    · rw [if_pos rfl, hj]
  have sj : (swp R i j)[j]? = some x := by rw [swp_get hil hjl, if_pos rfl, hi]
  have r1 := load1 (n := 1) (o := i) hrow
  have r2 := load1 (n := 1) (o := j) hrow
  rw [List.getElem?_append_left (by rw [ptrs_len, swp_length]; omega), ptrs_get si] at r1
  rw [List.getElem?_append_left (by rw [ptrs_len, swp_length]; omega), ptrs_get sj] at r2
  simp only [r1, r2, pu_some, nil_ptr, fieldAddr_ptr, Nat.zero_add]
  by_cases hij : i = j
  · subst hij
    have hxy : x = y := by rw [hi] at hj; cases hj; rfl
    subst hxy
    have hs : swp R i i = R := by
      apply List.ext_getElem?
      intro k
      rw [swp_get hil hil]
      split
      · rename_i e; subst e; rfl
      · rfl
    rw [hs] at hk h2
    simp only [if_true]
    have h3 := item_out (h2.pick [2, 0, 1, 3] (by decide)) hi
    unfold ItemA at h3
    rw [H_sep] at h3
    refine store1 h3 0 rfl rfl (by simp) ?_
    intro σ3 h4
    refine store1 h4 0 rfl rfl (by simp) ?_
    intro σ4 h5
    refine hk σ4 ?_
    have h6 := item_in (r := x) hil (H_sep.2 h5)
    have : R.set i x = R := by
      apply List.ext_getElem?
      intro k
      rw [List.getElem?_set]
      split
      · rename_i e; subst e; rw [hi]
      · rfl
    rw [this] at h6
    exact h6.pick [1, 2, 0, 3] (by decide)
  · rw [if_neg hij]
    have h3 := items_out2 hij hi hj (h2.pick [2, 0, 1, 3] (by decide))
    unfold ItemA at h3
    rw [H_sep] at h3
    have h4 := H_sep.1 (h3.pick [2, 0, 1, 3, 4, 5, 6] (by decide))
    refine store1 h4 0 rfl rfl (by simp) ?_
    intro σ3 h5
    refine store1 h5 2 rfl rfl (by simp) ?_
    intro σ4 h6
    refine hk σ4 ?_
    have h7 : H (ItemA j x :: _) σ4 := H_sep.2 (h6.pick [2, 3, 0, 1, 4, 5, 6, 7] (by decide))
    have h8 : H (ItemA i y :: _) σ4 := H_sep.2 (h7.pick [1, 2, 0, 3, 4, 5, 6] (by decide))
    have h9 := items_in2 hij hil hjl (h8.pick [1, 0, 2, 3, 4, 5] (by decide))
    have e : (R.set i y).set j x = swp R i j := by unfold swp; rw [hi, hj]
    rw [e] at h9
    have h10 := h9.pick [1, 2, 0, 3] (by decide)
    unfold RowL
    rw [swp_length]
    exact h10
end
end Go.Ax.O
set_option maxRecDepth 100000
namespace Go.Ax.O
open Go.Proofs Go.RowKit
variable {l m : List Assn} {σ : AHeap} {Q : WK}
theorem own_to {e z n k i : Nat} {v : Value} {xs : List Value} (h : H l σ) (hi : l[i]? = some (Own e z v n xs)) (hn : 0 < n) (hk : k ≤ n) :
    ∃ v', (∀ kd, aSlice z v none (some (.int kd k)) none = some v') ∧ one v' = true ∧ H (l.set i (Own e z v' k (xs.take (k * z)))) σ := by
  rcases H_own.1 (h.front i hi) with ⟨⟨rfl, _⟩, _⟩ | ⟨b, c, opn, rest, hp, hx, hr, rfl, hn2, ho⟩
  · omega
  · have hcap : c < OPEN ∨ c / OPEN = z := by rcases ho with ⟨_, _, q⟩ | q; exact .inr q; exact .inl q
    refine ⟨.slice (some ⟨b, 0, none⟩) k c, fun kd => ?_, rfl, H.back i hi (H_own.2 (.inr ⟨b, c, opn, xs.drop (k * z) ++ rest, ?_, ?_, ?_, rfl, by omega, ho⟩))⟩
    · simp only [aSlice, bndO]
      rw [bnd_int (y := known c) (by omega)]
      simp only [Option.bind_some, Int.toNat_natCast]
      rcases Nat.lt_or_ge c OPEN with hlt | hge
      · have := known_lt hlt
        rw [if_pos hlt, if_pos (by omega), if_neg (by omega)]
        simp [add_mk]
      · have : ¬ c < OPEN := by omega
        rw [if_neg this, if_pos ⟨by omega, hcap.resolve_left this⟩]
        simp [add_mk]
    · rw [← List.append_assoc, List.take_append_drop]; exact hp
    · have : k * z ≤ n * z := Nat.mul_le_mul_right _ hk
      simp; omega
    · have h1 : k * z ≤ n * z := Nat.mul_le_mul_right _ hk
      have h2 : n * z ≤ known c * z := Nat.mul_le_mul_right _ hn2
      rw [List.length_append, List.length_drop, hx, hr, Nat.sub_mul, Nat.sub_mul]
      omega
theorem i_121 (v : Value) (hv : live v = true) : aIface P t_p_cache_item v = some (.iface t_p_cache_item v) := by
  have : aIface P t_p_cache_item v = cond (live v) (some (.iface t_p_cache_item v)) none := by kernel_rfl
  rw [this, hv]; rfl
theorem i_160 (v : Value) (hv : live v = true) : aIface P t_p_cache_row v = some (.iface t_p_cache_row v) := by
  have : aIface P t_p_cache_row v = cond (live v) (some (.iface t_p_cache_row v)) none := by kernel_rfl
  rw [this, hv]; rfl
theorem a_121 (v : Value) : aAssert P t_p_cache_item false (.iface t_p_cache_item v) = some v := by kernel_rfl
section
variable {cb : Nat} {cs : List Value} {rowv : Value} {R : List Rec} {I0 : Assn}
theorem popm_ok {n : Nat} {x : Rec} (hcs : cs.length = 4) (h : H (RowL cb cs rowv R I0) σ) (hn : R.length = n + 1) (hx : R[n]? = some x) (hb : n < 1099511627776)
    (hk : ∀ rowv' σ', H (RowL cb cs rowv' (R.take n) (Star [ItemA n x, I0])) σ' → Q (.iface t_p_cache_item (.pointer (some ⟨x.ib, 0, none⟩))) σ') : E f_cache_row_Pop [.pointer (some ⟨cb, 4, none⟩)] σ Q := by
  apply o_cache_row_Pop_ev; unfold o_cache_row_Pop
  have rl := row_load hcs h
  obtain ⟨a, c, hv⟩ := row_form h
  subst hv
  simp [rl]
  rw [wrap_i64 (by omega), show ((R.length : Nat) : Int) - 1 = (n : Int) by omega]
  obtain ⟨b, c', hv, hc, rest, hrow⟩ := h.own_form 1 rfl (by omega)
  cases hv
  have r1 := load1 (n := 1) (o := n) hrow
  rw [List.getElem?_append_left (by rw [ptrs_len]; omega), ptrs_get hx] at r1
  rw [idxA (by omega)]
  simp [r1]
  obtain ⟨v', e1, ho, h2⟩ := own_to (k := n) h (i := 1) rfl (by omega) (by omega)
  rw [e1]
  simp
  refine store1 h2 0 rfl ho (by simp [hcs]) ?_
  intro σ1 h3
  rw [i_121 _ rfl, pu_some]
  refine hk v' σ1 ?_
  have e2 : (cs ++ [Value.slice (some ⟨b, 0, none⟩) R.length c]).set 4 v' = cs ++ [v'] := by
    rw [List.set_append_right _ _ (by omega), hcs]; rfl
  have e3 : (ptrs R).take (n * 1) = ptrs (R.take n) := by simp [ptrs]
  have e4 : itemsL 0 R = itemsL 0 (R.take n) ++ [ItemA n x] := by
    have : R = R.take n ++ [x] := by
      have h5 : R.take (n + 1) = R.take n ++ [x] := by rw [List.take_add_one, hx]; rfl
      rw [← h5, ← hn, List.take_length]
    conv => lhs; rw [this]
    rw [itemsL_append, List.length_take, Nat.min_eq_left (by omega)]
    simp [itemsL]
  rw [e2, e3] at h3
  have h3 : H [pt cb (.cells (cs ++ [v']) t_cache_Cache false), Own t_p_cache_item 1 v' n (ptrs (R.take n)), Star (itemsL 0 R), I0] σ1 := h3
  rw [e4, Star_append] at h3
  have h4 := H_sep.1 (h3.pick [2, 0, 1, 3] (by decide))
  have h6 : H [Star [ItemA n x], I0, pt cb (.cells (cs ++ [v']) t_cache_Cache false), Own t_p_cache_item 1 v' n (ptrs (R.take n)), Star (itemsL 0 (R.take n))] σ1 := h4.pick [1, 4, 2, 3, 0] (by decide)
  have h5 : H [Star [ItemA n x, I0], pt cb (.cells (cs ++ [v']) t_cache_Cache false), Own t_p_cache_item 1 v' n (ptrs (R.take n)), Star (itemsL 0 (R.take n))] σ1 := (H_star (l := [ItemA n x, I0])).2 ((H_star (l := [ItemA n x])).1 h6)
  unfold RowL
  rw [List.length_take, Nat.min_eq_left (by omega)]
  exact h5.pick [1, 2, 3, 0] (by decide)
theorem pushm_ok {p : Nat} {x : Rec} (hcs : cs.length = 4) (h : H (RowL cb cs rowv R (Star [ItemA p x, I0])) σ) (hb : R.length < 1099511627776)
    (hk : ∀ rowv' σ', H (RowL cb cs rowv' (R ++ [x]) I0) σ' → Q (.tuple #[]) σ') : E f_cache_row_Push [.pointer (some ⟨cb, 4, none⟩), .iface t_p_cache_item (.pointer (some ⟨x.ib, 0, none⟩))] σ Q := by
  apply o_cache_row_Push_ev; unfold o_cache_row_Push
  have rl := row_load hcs h
  obtain ⟨a, c, hv⟩ := row_form h
  rw [a_121]
  subst hv
  simp [rl]
  have h1 : H (ItemA p x :: I0 :: _) σ := H_star.1 (h.pick [3, 0, 1, 2] (by decide))
  unfold ItemA at h1
  rw [H_sep] at h1
  refine store1 h1 0 rfl rfl (by simp) ?_
  intro σ1 h2
  have h3 : H (ItemA R.length x :: I0 :: pt cb (.cells (cs ++ [.slice a R.length c]) t_cache_Cache false) :: Own t_p_cache_item 1 (.slice a R.length c) R.length (ptrs R) :: Star (itemsL 0 R) :: []) σ1 := H_sep.2 h2
  have rl := load1 (n := 1) (o := 4) (h3.row 2 rfl)
  rw [List.getElem?_append_right (by omega), hcs] at rl
  simp at rl
  simp [rl]
  refine buildS_ok (cs := [.pointer (some ⟨x.ib, 0, none⟩)]) h3 (by decide) (by rfl) ?_
  intro tb σ2 h4
  have ht : srcOf 1 (.slice (some ⟨tb, 0, none⟩) 1 1) σ2 = some (1, [.pointer (some ⟨x.ib, 0, none⟩)]) := by
    rw [src_row (h4.row 5 rfl) (by simp)]; rfl
  refine append_own h4 3 rfl ht (by omega) (by omega) (by rfl) ?_
  intro w σ3 h5
  have ho := own_one h5 (i := 3) rfl
  simp
  refine store1 h5 2 rfl ho (by simp [hcs]) ?_
  intro σ4 h6
  refine hk w σ4 ?_
  have e2 : (cs ++ [Value.slice a R.length c]).set 4 w = cs ++ [w] := by
    rw [List.set_append_right _ _ (by omega), hcs]; rfl
  rw [e2] at h6
  have e3 : ptrs R ++ [.pointer (some ⟨x.ib, 0, none⟩)] = ptrs (R ++ [x]) := by simp [ptrs]
  rw [e3] at h6
  unfold RowL
  rw [itemsL_append, Star_append, List.length_append]
  simp only [itemsL, Nat.zero_add]
  have h7 : H (sep (Star (itemsL 0 R)) (Star [ItemA R.length x]) :: _) σ4 := H_sep.2 (by
    have : H (Star [ItemA R.length x] :: _) σ4 := (H_star (l := [ItemA R.length x])).2 (h6.pick [0, 1, 2, 3, 4] (by decide))
    exact this.pick [4, 0, 1, 2, 3] (by decide))
  exact h7.pick [2, 3, 0, 1] (by decide)
theorem Ky_some {k : Nat} {x : Rec} (h : R[k]? = some x) : Ky ku R k = x.used := by unfold Ky; rw [h]; rfl
theorem up_ok {j : Nat} {x : Rec} (hcs : cs.length = 4) (h : H (RowL cb cs rowv R I0) σ) (hj : R[j]? = some x) (hb : R.length < 1099511627776) (hmax : ∀ k, k < j → Ky ku R k ≤ x.used)
    (hk : Q (.tuple #[]) σ) : E f_heap_up [.iface t_p_cache_row (.pointer (some ⟨cb, 4, none⟩)), .int .i64 j] σ Q := by
  have hjl := (List.getElem?_eq_some_iff.1 hj).1
  apply o_heap_up_ev; unfold o_heap_up
  refine ⟨fun m x0 x1 τ => x0 = .iface t_p_cache_row (.pointer (some ⟨cb, 4, none⟩)) ∧ x1 = .int .i64 j ∧ τ = σ, ⟨0, rfl, rfl, rfl⟩, ?_⟩
  rintro m _ _ τ ⟨rfl, rfl, rfl⟩
  suffices hb : ∀ N, o_heap_up_b1 N Q (.iface t_p_cache_row (.pointer (some ⟨cb, 4, none⟩))) (.int .i64 j) τ from hb _
  intro N
  unfold o_heap_up_b1
  simp
  rw [wrap_i64 (n := (j : Int) - 1) (by omega)]
  obtain ⟨i, hi, hi2⟩ : ∃ i : Nat, IntKind.i64.wrap (((j : Int) - 1).tdiv 2) = (i : Int) ∧ (i = j ∧ j = 0 ∨ i < j) := by
    rcases Nat.eq_zero_or_pos j with rfl | h0
    · exact ⟨0, by decide, .inl ⟨rfl, rfl⟩⟩
    · refine ⟨(j - 1) / 2, ?_, .inr (by omega)⟩
      rw [show (j : Int) - 1 = ((j - 1 : Nat) : Int) by omega, show (((j - 1 : Nat) : Int)).tdiv 2 = (((j - 1) / 2 : Nat) : Int) from rfl, wrap_i64 (by omega)]
  rw [hi]
  refine wG_dec (fun g => ?_) fun g => ?_
  · unfold o_heap_up_k2; simpa using hk
  · have hij : i < j := by omega
    have hx := List.getElem?_eq_getElem (show i < R.length by omega)
    rw [m_less, row_load hcs h]
    simp
    refine less_ok h hj hx ?_
    have hle := hmax i hij
    rw [Ky_some hx] at hle
    have : decide (x.used < R[i].used) = false := decide_eq_false (by omega)
    rw [this]
    simp
    unfold o_heap_up_k2
    simpa using hk
theorem down_ok {n i0 : Nat} {R0 : List Rec} (hcs : cs.length = 4) (h : H (RowL cb cs rowv R0 I0) σ) (hn : n ≤ R0.length) (hb : R0.length < 1099511627776) (hi0 : i0 ≤ n) (hex : HeapEx ku R0 n i0)
    (hk : ∀ (R' : List Rec) (i : Nat) σ', i0 ≤ i → R'.Perm R0 → HeapOk ku R' n → (∀ k, n ≤ k → R'[k]? = R0[k]?) → (i = i0 → R' = R0) → H (RowL cb cs rowv R' I0) σ' → Q (.bool (decide (i0 < i))) σ') :
    E f_heap_down [.iface t_p_cache_row (.pointer (some ⟨cb, 4, none⟩)), .int .i64 i0, .int .i64 n] σ Q := by
  apply o_heap_down_ev; unfold o_heap_down
  refine ⟨fun m x0 x1 x2 x7 τ => ∃ (R : List Rec) (i : Nat), m = n - i ∧ i ≤ n ∧ x0 = .iface t_p_cache_row (.pointer (some ⟨cb, 4, none⟩)) ∧ x1 = .int .i64 i0 ∧ x2 = .int .i64 n ∧ x7 = .int .i64 i ∧ R.Perm R0 ∧ HeapEx ku R n i ∧ (∀ k, n ≤ k → R[k]? = R0[k]?) ∧ i0 ≤ i ∧ (i = i0 → R = R0) ∧ H (RowL cb cs rowv R I0) τ,
    ⟨_, R0, i0, rfl, hi0, rfl, rfl, rfl, rfl, List.Perm.refl _, hex, fun _ _ => rfl, Nat.le_refl _, fun _ => rfl, h⟩, ?_⟩
  clear h hex
  rintro m _ _ _ _ τ ⟨R, i, rfl, hin, rfl, rfl, rfl, rfl, hp, hex, htl, hii, hsame, h⟩
  suffices hb : ∀ N : Value → Value → Value → Value → AHeap → Prop, (∀ R' j τ', i < j → j < n → R'.Perm R0 → HeapEx ku R' n j → (∀ k, n ≤ k → R'[k]? = R0[k]?) → H (RowL cb cs rowv R' I0) τ' → N (.iface t_p_cache_row (.pointer (some ⟨cb, 4, none⟩))) (.int .i64 i0) (.int .i64 n) (.int .i64 j) τ') →
      o_heap_down_b1 N Q (.iface t_p_cache_row (.pointer (some ⟨cb, 4, none⟩))) (.int .i64 i0) (.int .i64 n) (.int .i64 i) τ from
    hb _ fun R' j τ' h1 h2 a b c h' => ⟨_, by omega, R', j, rfl, by omega, rfl, rfl, rfl, rfl, a, b, c, by omega, fun e => by omega, h'⟩
  intro N hN
  have hRl := hp.length_eq
  have k5 : (∀ k, 0 < k → k < n → (k - 1) / 2 = i → Ky ku R i ≤ Ky ku R k) → ∀ τ', H (RowL cb cs rowv R I0) τ' → o_heap_down_k5 Q (.int .i64 i) (.int .i64 i0) τ' := by
    intro hmin τ' h'
    unfold o_heap_down_k5
    simp
    have e : decide ((i0 : Int) < (i : Int)) = decide (i0 < i) := by
      by_cases g : i0 < i
      · rw [decide_eq_true g, decide_eq_true (by omega)]
      · rw [decide_eq_false g, decide_eq_false (by omega)]
    have := hk R i τ' hii hp (hex.done hmin) htl hsame h'
    simpa [e] using this
  unfold o_heap_down_b1
  simp
  have w1 : IntKind.i64.wrap (2 * (i : Int)) = 2 * (i : Int) := wrap_i64 (by omega)
  have w2 : IntKind.i64.wrap (2 * (i : Int) + 1) = ((2 * i + 1 : Nat) : Int) := by rw [wrap_i64 (by omega)]; omega
  simp only [w1, w2]
  refine wG_dec (fun g => ?_) fun g => ?_
  · unfold o_heap_down_k4
    simp
    exact k5 (fun k h0 hk2 hp2 => by omega) τ h
  · have hlt : ¬ ((2 * i + 1 : Nat) : Int) < 0 := by omega
    rw [decide_eq_false hlt]
    unfold o_heap_down_k4
    simp only [wC_false, bin_add, pu_some, bin_lss]
    have w3 : IntKind.i64.wrap (((2 * i + 1 : Nat) : Int) + 1) = ((2 * i + 2 : Nat) : Int) := by rw [wrap_i64 (by omega)]; omega
    simp only [w3]
    have hj1 : 2 * i + 1 < n := by omega
    have x1 := List.getElem?_eq_getElem (show 2 * i + 1 < R.length by omega)
    have xi := List.getElem?_eq_getElem (show i < R.length by omega)
    -- with the least child
    have k10 : ∀ j, j < n → (j - 1) / 2 = i → 0 < j → (∀ k, 0 < k → k < n → (k - 1) / 2 = i → Ky ku R j ≤ Ky ku R k) → o_heap_down_k10 N Q (.iface t_p_cache_row (.pointer (some ⟨cb, 4, none⟩))) (.int .i64 j) (.int .i64 i) (.int .i64 i0) (.int .i64 n) τ := by
      intro j hjn hpj hj0 hmin
      have xj := List.getElem?_eq_getElem (show j < R.length by omega)
      unfold o_heap_down_k10
      rw [m_less, row_load hcs h]
      simp
      refine less_ok h xj xi ?_
      simp only [un_not, pu_some]
      by_cases hl : R[j].used < R[i].used
      · rw [decide_eq_true hl]
        simp
        rw [m_swap, row_load hcs h]
        simp
        refine swap_ok h xi xj ?_
        intro τ1 h1
        refine hN _ j τ1 (by omega) hjn ((swp_perm R (by omega) (by omega)).trans hp) (hex.step (by omega) hjn hpj hj0 hmin (by rw [Ky_some xj, Ky_some xi]; exact hl)) ?_ h1
        intro k hk2
        rw [swp_get (by omega) (by omega), if_neg (by omega), if_neg (by omega)]
        exact htl k hk2
      · rw [decide_eq_false hl]
        simp
        refine k5 (fun k h0 hk2 hp2 => ?_) τ h
        have := hmin k h0 hk2 hp2
        rw [Ky_some xj] at this
        rw [Ky_some xi]; omega
    by_cases h2 : 2 * i + 2 < n
    · rw [decide_eq_true (show ((2 * i + 2 : Nat) : Int) < (n : Int) by omega)]
      simp only [wG_true]
      have x2 := List.getElem?_eq_getElem (show 2 * i + 2 < R.length by omega)
      rw [m_less, row_load hcs h]
      simp only [Option.bind_some, pu_some]
      refine less_ok h x2 x1 ?_
      unfold o_heap_down_k9
      refine wC_dec (fun g2 => ?_) fun g2 => ?_
      · refine k10 (2 * i + 2) h2 (by omega) (by omega) ?_
        intro k h0 hk2 hp2
        rcases (show k = 2 * i + 1 ∨ k = 2 * i + 2 by omega) with rfl | rfl
        · rw [Ky_some x1, Ky_some x2]; omega
        · exact Nat.le_refl _
      · refine k10 (2 * i + 1) hj1 (by omega) (by omega) ?_
        intro k h0 hk2 hp2
        rcases (show k = 2 * i + 1 ∨ k = 2 * i + 2 by omega) with rfl | rfl
        · exact Nat.le_refl _
        · rw [Ky_some x1, Ky_some x2]; omega
    · rw [decide_eq_false (show ¬ ((2 * i + 2 : Nat) : Int) < (n : Int) by omega)]
      simp only [wG_false]
      unfold o_heap_down_k9
      simp only [wC_false]
      refine k10 (2 * i + 1) hj1 (by omega) (by omega) ?_
      intro k h0 hk2 hp2
      have : k = 2 * i + 1 := by omega
      rw [this]; exact Nat.le_refl _
end
end Go.Ax.O
set_option maxRecDepth 100000
namespace Go.Ax.O
open Go.Proofs Go.RowKit
variable {l m : List Assn} {σ : AHeap} {Q : WK}
section
variable {cb : Nat} {cs : List Value} {rowv : Value} {R : List Rec} {I0 : Assn}
abbrev hv (cb : Nat) : Value := .iface t_p_cache_row (.pointer (some ⟨cb, 4, none⟩))
theorem fix_ok {p : Nat} {x : Rec} (hcs : cs.length = 4) (h : H (RowL cb cs rowv R I0) σ) (hx : R[p]? = some x) (hb : R.length < 1099511627776) (hex : HeapEx ku R R.length p) (hmax : ∀ k, k < R.length → Ky ku R k ≤ x.used)
    (hk : ∀ R' σ', R'.Perm R → HeapOk ku R' R'.length → H (RowL cb cs rowv R' I0) σ' → Q (.tuple #[]) σ') : E f_heap_Fix [hv cb, .int .i64 p] σ Q := by
  have hpl := (List.getElem?_eq_some_iff.1 hx).1
  apply o_heap_Fix_ev; unfold o_heap_Fix
  rw [m_len, row_load hcs h]
  simp only [Option.bind_some, pu_some]
  refine len_ok h ?_
  refine down_ok hcs h (Nat.le_refl _) hb (by omega) hex ?_
  intro R' i σ1 hi hp hok _ hsame h1
  simp only [un_not, pu_some]
  have hl := hp.length_eq
  by_cases hlt : p < i
  · rw [decide_eq_true hlt]
    simp
    exact hk R' σ1 hp (by rw [hl]; exact hok) h1
  · have hip : i = p := by omega
    have hR := hsame hip
    subst hR
    rw [decide_eq_false hlt]
    simp
    refine up_ok hcs h1 hx hb (fun k hk => hmax k (by omega)) ?_
    exact hk R' σ1 hp hok h1
theorem hpush_ok {p : Nat} {x : Rec} (hcs : cs.length = 4) (h : H (RowL cb cs rowv R (Star [ItemA p x, I0])) σ) (hb : R.length < 1099511627775) (hmax : ∀ k, k < R.length → Ky ku R k ≤ x.used)
    (hk : ∀ rowv' σ', H (RowL cb cs rowv' (R ++ [x]) I0) σ' → Q (.tuple #[]) σ') : E f_heap_Push [hv cb, .iface t_p_cache_item (.pointer (some ⟨x.ib, 0, none⟩))] σ Q := by
  apply o_heap_Push_ev; unfold o_heap_Push
  rw [m_push]
  simp only [pu_some]
  refine pushm_ok hcs h (by omega) ?_
  intro rowv' σ1 h1
  rw [m_len, row_load hcs h1]
  simp only [Option.bind_some, pu_some]
  refine len_ok h1 ?_
  simp
  rw [wrap_i64 (by omega)]
  refine up_ok (x := x) hcs h1 (by simp) (by simp; omega) (fun k hk => ?_) (hk rowv' σ1 h1)
  have := hmax k hk
  unfold Ky at this ⊢
  rw [List.getElem?_append_left hk]; exact this
theorem hpop_ok {n : Nat} {x : Rec} (hcs : cs.length = 4) (h : H (RowL cb cs rowv R I0) σ) (hn : R.length = n + 1) (hx : R[0]? = some x) (hb : R.length < 1099511627776) (hok : HeapOk ku R (n + 1))
    (hk : ∀ rowv' R' σ', (R' ++ [x]).Perm R → HeapOk ku R' R'.length → H (RowL cb cs rowv' R' (Star [ItemA n x, I0])) σ' → Q (.iface t_p_cache_item (.pointer (some ⟨x.ib, 0, none⟩))) σ') : E f_heap_Pop [hv cb] σ Q := by
  apply o_heap_Pop_ev; unfold o_heap_Pop
  rw [m_len, row_load hcs h]
  simp only [Option.bind_some, pu_some]
  refine len_ok h ?_
  simp only [bin_sub, pu_some]
  rw [wrap_i64 (by omega), show (R.length : Int) - 1 = (n : Int) by omega, m_swap, row_load hcs h]
  simp only [Option.bind_some, pu_some]
  have hy := List.getElem?_eq_getElem (show n < R.length by omega)
  refine swap_ok (i := 0) h hx hy ?_
  intro σ1 h1
  have hsl := swp_length R 0 n
  refine down_ok (i0 := 0) hcs h1 (by rw [hsl]; omega) (by rw [hsl]; exact hb) (by omega) (hok.pop (by omega)) ?_
  intro R' i σ2 _ hp hok2 htl _ h2
  rw [m_pop]
  simp only [pu_some]
  have hl : R'.length = n + 1 := by rw [hp.length_eq, hsl, hn]
  have hx2 : R'[n]? = some x := by rw [htl n (Nat.le_refl _), swp_get (by omega) (by omega), if_pos rfl, hx]
  refine popm_ok hcs h2 hl hx2 (by omega) ?_
  intro rowv' σ3 h3
  refine hk rowv' (R'.take n) σ3 ?_ ?_ h3
  · have e : R'.take n ++ [x] = R' := by
      have h5 : R'.take (n + 1) = R'.take n ++ [x] := by rw [List.take_add_one, hx2]; rfl
      rw [← h5, ← hl, List.take_length]
    rw [e]
    exact hp.trans (swp_perm R (by omega) (by omega))
  · rw [List.length_take, Nat.min_eq_left (by omega)]
    refine hok2.congr fun k hk => ?_
    rw [List.getElem?_take, if_pos hk]
end
abbrev Ent := Nat × Value × Nat
def ent (e : Ent) : MapEntry := { key := .int .i64 e.1, val := e.2.1, born := e.2.2 }
theorem find_no (a : Nat) : ∀ (es : List Ent) (i : Nat), (∀ e ∈ es, e.1 ≠ a) → Instr.findNow (.int .i64) (.int .i64 a) (es.map ent) i = some none
  | [], i, _ => rfl
  | e :: es, i, h => by
    have h1 : e.1 ≠ a := h e (by simp)
    have : Instr.sameNow (.int .i64) (.int .i64 a) (ent e).key = some false := by
      simp [Instr.sameNow, ent]; omega
    simp only [List.map_cons, Instr.findNow, this]
    exact find_no a es (i + 1) fun x hx => h x (by simp [hx])
theorem find_yes (a : Nat) : ∀ (es : List Ent) (i k : Nat) (e : Ent), (es.map (·.1)).Nodup → es[k]? = some e → e.1 = a → Instr.findNow (.int .i64) (.int .i64 a) (es.map ent) i = some (some (i + k, e.2.1))
  | [], i, k, e, _, h, _ => by simp at h
  | x :: es, i, 0, e, _, h, h1 => by
    simp at h; subst h; subst h1
    have : Instr.sameNow (.int .i64) (.int .i64 (x.1 : Nat)) (ent x).key = some true := by simp [Instr.sameNow, ent]
    simp only [List.map_cons, Instr.findNow, this]
    simp [ent]
  | x :: es, i, k + 1, e, hn, h, h1 => by
    simp at h
    simp only [List.map_cons, List.nodup_cons] at hn
    have hx : x.1 ≠ a := by
      intro e2
      exact hn.1 (List.mem_map.2 ⟨e, List.mem_of_getElem? h, by rw [h1, e2]⟩)
    have : Instr.sameNow (.int .i64) (.int .i64 a) (ent x).key = some false := by
      simp [Instr.sameNow, ent]; omega
    simp only [List.map_cons, Instr.findNow, this]
    rw [find_yes a es (i + 1) k e hn.2 h h1]
    congr 3; omega
theorem map_get {b clock : Nat} {es : List MapEntry} (hm : H (pt b (.map es clock) :: m) σ) : aEntries (.map (some b)) σ = some es := by
  simp [aEntries, hm.get0.1]
theorem lookup_eq (x k : Value) (ok : Bool) (σ : AHeap) : aLookup P t_m_int_p_cache_item x k ok σ = (aEntries x σ).bind fun es => (aFind (.int .i64) k es).bind fun r => match r with
      | some (_, v) => some (okV ok v true)
      | none => some (okV ok (.pointer none) false) := by kernel_rfl
theorem update_eq (r : Nat) (k v : Value) (σ : AHeap) : aMapUpdate P t_m_int_p_cache_item (.map (some r)) k v σ = match σ.get r with
    | some (.map es clock) => cond (keyV k) ((aFind (.int .i64) k es).bind fun f => match f with
      | some (i, _) => some (σ.set r (.map (es.modify i fun e => { e with key := k, val := v }) clock))
      | none => some (σ.set r (.map (es ++ [{ key := k, val := v, born := clock }]) (clock + 1)))) none
    | _ => none := by kernel_rfl
theorem delete_eq (r : Nat) (k : Value) (σ : AHeap) : aDelete P t_m_int_p_cache_item (.map (some r)) k σ = match σ.get r with
    | some (.map es clock) => (aFind (.int .i64) k es).bind fun f => match f with
      | some (i, _) => some (σ.set r (.map (es.eraseIdx i) clock))
      | none => some (σ.set r (.map es clock))
    | _ => none := by kernel_rfl
structure MapFor (es : List Ent) (L : List (Nat × Nat)) : Prop where
  nd : (es.map (·.1)).Nodup
  to : ∀ e ∈ es, ∃ p ∈ L, e.1 = p.1 ∧ e.2.1 = .pointer (some ⟨p.2, 0, none⟩)
  from' : ∀ p ∈ L, ∃ e ∈ es, e.1 = p.1 ∧ e.2.1 = .pointer (some ⟨p.2, 0, none⟩)
theorem MapFor.perm {es : List Ent} {L M : List (Nat × Nat)} (h : MapFor es L) (hp : L.Perm M) : MapFor es M :=
  ⟨h.nd, fun e he => by obtain ⟨p, hp1, hp2⟩ := h.to e he; exact ⟨p, hp.mem_iff.1 hp1, hp2⟩, fun p hp1 => h.from' p (hp.mem_iff.2 hp1)⟩
def MapA (mb : Nat) (L : List (Nat × Nat)) : Assn := ex fun p : List Ent × Nat => sep (pure' (MapFor p.1 L)) (pt mb (.map (p.1.map ent) p.2))
theorem mapA_perm {mb : Nat} {L M : List (Nat × Nat)} (hp : L.Perm M) : MapA mb L = MapA mb M := by
  funext r; apply propext
  constructor
  · rintro ⟨p, a, b, j, ⟨rfl, h1⟩, h2⟩; exact ⟨p, _, b, j, ⟨rfl, h1.perm hp⟩, h2⟩
  · rintro ⟨p, a, b, j, ⟨rfl, h1⟩, h2⟩; exact ⟨p, _, b, j, ⟨rfl, h1.perm hp.symm⟩, h2⟩
theorem lookup_no {mb a i : Nat} {L : List (Nat × Nat)} (ok : Bool) (h : H l σ) (hi : l[i]? = some (MapA mb L)) (hno : ∀ p ∈ L, p.1 ≠ a) : aLookup P t_m_int_p_cache_item (.map (some mb)) (.int .i64 a) ok σ = some (okV ok (.pointer none) false) := by
  obtain ⟨⟨es, clock⟩, h1⟩ := H_ex.1 (h.front i hi)
  rw [H_sep] at h1
  obtain ⟨hm, h2⟩ := H_pure.1 h1
  rw [lookup_eq, map_get h2]
  simp only [Option.bind_some, aFind, keyD, cond_true]
  rw [find_no a es 0 fun e he => by obtain ⟨p, hp, e1, _⟩ := hm.to e he; rw [e1]; exact hno p hp]
  rfl
theorem lookup_yes {mb i : Nat} {L : List (Nat × Nat)} {p : Nat × Nat} (ok : Bool) (h : H l σ) (hi : l[i]? = some (MapA mb L)) (hp : p ∈ L) : aLookup P t_m_int_p_cache_item (.map (some mb)) (.int .i64 p.1) ok σ = some (okV ok (.pointer (some ⟨p.2, 0, none⟩)) true) := by
  obtain ⟨⟨es, clock⟩, h1⟩ := H_ex.1 (h.front i hi)
  rw [H_sep] at h1
  obtain ⟨hm, h2⟩ := H_pure.1 h1
  rw [lookup_eq, map_get h2]
  simp only [Option.bind_some, aFind, keyD, cond_true]
  obtain ⟨e, he, e1, e2⟩ := hm.from' p hp
  obtain ⟨k, hk, hke⟩ := List.getElem_of_mem he
  rw [find_yes p.1 es 0 k e hm.nd (by rw [List.getElem?_eq_getElem hk, hke]) e1, e2]
  rfl
theorem update_new {mb a ib i : Nat} {L : List (Nat × Nat)} {k : AHeap → Prop} (h : H l σ) (hi : l[i]? = some (MapA mb L)) (hno : ∀ p ∈ L, p.1 ≠ a) (hk : ∀ σ', H (l.set i (MapA mb (L ++ [(a, ib)]))) σ' → k σ') :
    pu (aMapUpdate P t_m_int_p_cache_item (.map (some mb)) (.int .i64 a) (.pointer (some ⟨ib, 0, none⟩)) σ) k := by
  obtain ⟨⟨es, clock⟩, h1⟩ := H_ex.1 (h.front i hi)
  rw [H_sep] at h1
  obtain ⟨hm, h2⟩ := H_pure.1 h1
  have hm : MapFor es L := hm
  rw [update_eq, h2.get0.1]
  simp only [keyV, cond_true, aFind, keyD]
  have hne : ∀ e ∈ es, e.1 ≠ a := fun e he => by obtain ⟨p, hp, e1, _⟩ := hm.to e he; rw [e1]; exact hno p hp
  rw [find_no a es 0 hne]
  simp only [Option.bind_some, pu_some]
  have h3 := h2.set0 (.map ((es ++ [((a, .pointer (some ⟨ib, 0, none⟩), clock) : Ent)]).map ent) (clock + 1))
  refine hk _ (H.back i hi (H_ex.2 ⟨(es ++ [(a, .pointer (some ⟨ib, 0, none⟩), clock)], clock + 1), ?_⟩))
  rw [H_sep]
  refine H_pure.2 ⟨⟨?_, ?_, ?_⟩, ?_⟩
  · simp only [List.map_append, List.map_cons, List.map_nil]
    rw [List.nodup_append]
    refine ⟨hm.nd, by simp, ?_⟩
    intro x hx y hy
    simp at hy; subst hy
    obtain ⟨e, he, rfl⟩ := List.mem_map.1 hx
    exact hne e he
  · intro e he
    rcases List.mem_append.1 he with he | he
    · obtain ⟨p, hp, hpe⟩ := hm.to e he
      exact ⟨p, List.mem_append_left _ hp, hpe⟩
    · simp at he; subst he
      exact ⟨(a, ib), by simp, rfl, rfl⟩
  · intro p hp
    rcases List.mem_append.1 hp with hp | hp
    · obtain ⟨e, he, hpe⟩ := hm.from' p hp
      exact ⟨e, List.mem_append_left _ he, hpe⟩
    · simp at hp; subst hp
      exact ⟨(a, .pointer (some ⟨ib, 0, none⟩), clock), by simp, rfl, rfl⟩
  · simpa [ent] using h3
theorem map_erase {α β : Type} (f : α → β) : ∀ (l : List α) (j : Nat), (l.eraseIdx j).map f = (l.map f).eraseIdx j
  | [], j => by simp
  | x :: l, 0 => by simp
  | x :: l, j + 1 => by simp [map_erase f l j]
theorem delete_yes {mb i : Nat} {L : List (Nat × Nat)} {p : Nat × Nat} {k : AHeap → Prop} (h : H l σ) (hi : l[i]? = some (MapA mb (L ++ [p]))) (hno : ∀ q ∈ L, q.1 ≠ p.1) (hk : ∀ σ', H (l.set i (MapA mb L)) σ' → k σ') :
    pu (aDelete P t_m_int_p_cache_item (.map (some mb)) (.int .i64 p.1) σ) k := by
  obtain ⟨⟨es, clock⟩, h1⟩ := H_ex.1 (h.front i hi)
  rw [H_sep] at h1
  obtain ⟨hm, h2⟩ := H_pure.1 h1
  have hm : MapFor es (L ++ [p]) := hm
  rw [delete_eq, h2.get0.1]
  simp only [aFind, keyD, cond_true]
  obtain ⟨e, he, e1, e2⟩ := hm.from' p (by simp)
  obtain ⟨j, hj, hje⟩ := List.getElem_of_mem he
  rw [find_yes p.1 es 0 j e hm.nd (by rw [List.getElem?_eq_getElem hj, hje]) e1]
  simp only [Option.bind_some, pu_some, Nat.zero_add]
  have h3 := h2.set0 (.map ((es.eraseIdx j).map ent) clock)
  refine hk _ (H.back i hi (H_ex.2 ⟨(es.eraseIdx j, clock), ?_⟩))
  rw [H_sep]
  have hsub : ∀ x ∈ es.eraseIdx j, x ∈ es ∧ x.1 ≠ p.1 := by
    intro x hx
    have hxe := List.mem_of_mem_eraseIdx hx
    refine ⟨hxe, fun e3 => ?_⟩
    obtain ⟨k, hk, hkj⟩ := List.mem_eraseIdx_iff_getElem.1 hx
    have h5 : (es.map (·.1))[k]'(by simpa using hk) = (es.map (·.1))[j]'(by simpa using hj) := by
      simp only [List.getElem_map, hkj.2, hje, e3, e1]
    exact hkj.1 ((List.getElem_inj hm.nd).1 h5)
  refine H_pure.2 ⟨⟨?_, ?_, ?_⟩, ?_⟩
  · rw [map_erase]
    exact hm.nd.sublist (List.eraseIdx_sublist _ _)
  · intro x hx
    obtain ⟨hxe, hxn⟩ := hsub x hx
    obtain ⟨q, hq, hq1, hq2⟩ := hm.to x hxe
    rcases List.mem_append.1 hq with hq | hq
    · exact ⟨q, hq, hq1, hq2⟩
    · simp at hq; subst hq; exact absurd hq1 hxn
  · intro q hq
    obtain ⟨x, hx, hx1, hx2⟩ := hm.from' q (List.mem_append_left _ hq)
    refine ⟨x, ?_, hx1, hx2⟩
    obtain ⟨k, hk, hkx⟩ := List.getElem_of_mem hx
    refine List.mem_eraseIdx_iff_getElem.2 ⟨k, hk, ?_, hkx⟩
    intro e3
    subst e3
    have : x = e := by rw [← hkx, ← hje]
    exact hno q hq (by rw [← hx1, this, e1])
  · rw [map_erase]  at h3
    rw [map_erase]; exact h3
end Go.Ax.O
set_option maxRecDepth 100000
namespace Go.Ax.O
open Go.Proofs Go.RowKit
variable {l m : List Assn} {σ : AHeap} {Q : WK}
theorem perm_set {α : Type} {R A B : List α} {k : Nat} {x y : α} (hk : R[k]? = some x) (hp : R.Perm (A ++ x :: B)) : (R.set k y).Perm (A ++ y :: B) := by
  have hlt := (List.getElem?_eq_some_iff.1 hk).1
  have e1 : R = R.take k ++ x :: R.drop (k + 1) := by
    have := List.getElem_cons_drop hlt
    rw [(List.getElem?_eq_some_iff.1 hk).2] at this
    rw [this, List.take_append_drop]
  have e2 : R.set k y = R.take k ++ y :: R.drop (k + 1) := by
    rw [List.set_eq_take_append_cons_drop, if_pos hlt]
  rw [e2]
  rw [e1] at hp
  have h1 := (List.perm_middle.symm.trans hp).trans List.perm_middle
  have h2 := h1.cons_inv
  exact (List.perm_middle.trans (h2.cons y)).trans List.perm_middle.symm
def pairs (R : List Rec) : List (Nat × Nat) := R.map fun r => (r.pl, r.ib)
structure COk (R M : List Rec) (now : Nat) : Prop where
  perm : R.Perm M
  srt : M.Pairwise fun a b => a.used < b.used
  le : ∀ r ∈ M, r.used ≤ now
  heap : HeapOk ku R R.length
  nd : (M.map (·.pl)).Nodup
theorem COk.top {R M : List Rec} {now : Nat} {x : Rec} (h : COk R (x :: M) now) : R[0]? = some x := by
  have hl := h.perm.length_eq
  have h0 := List.getElem?_eq_getElem (show 0 < R.length by rw [hl]; simp)
  have hm : R[0]'(by rw [hl]; simp) ∈ x :: M := h.perm.mem_iff.1 (List.getElem_mem _)
  rcases List.mem_cons.1 hm with e | hm
  · rw [h0, e]
  · exfalso
    have hs := List.pairwise_cons.1 h.srt
    have h1 := hs.1 _ hm
    have hx : x ∈ R := h.perm.mem_iff.2 (by simp)
    obtain ⟨k, hk, hkx⟩ := List.getElem_of_mem hx
    have h2 := h.heap.top k hk
    rw [Ky_some h0, Ky_some (x := x) (by rw [List.getElem?_eq_getElem hk, hkx])] at h2
    omega
theorem COk.use {R R' A B : List Rec} {x x' : Rec} {now : Nat} (h : COk R (A ++ x :: B) now) (hu : x'.used = now + 1) (hpl : x'.pl = x.pl) (hp : R'.Perm (A ++ x' :: B)) (hok : HeapOk ku R' R'.length) : COk R' (A ++ B ++ [x']) (now + 1) := by
  have hs := h.srt
  have hsub : (A ++ B).Sublist (A ++ x :: B) := List.Sublist.append (List.Sublist.refl _) (List.sublist_cons_self _ _)
  refine ⟨?_, ?_, ?_, hok, ?_⟩
  · refine hp.trans ?_
    rw [List.append_assoc]
    exact List.Perm.append_left A (by simpa using (List.perm_append_comm (l₁ := [x']) (l₂ := B)))
  · rw [List.pairwise_append]
    refine ⟨hs.sublist hsub, List.pairwise_singleton _ _, ?_⟩
    intro a ha b hb
    simp at hb; subst hb
    have := h.le a (hsub.subset ha)
    omega
  · intro r hr
    rcases List.mem_append.1 hr with hr | hr
    · have := h.le r (hsub.subset hr); omega
    · simp at hr; subst hr; omega
  · have h1 := h.nd
    simp only [List.map_append, List.map_cons, List.map_nil] at h1 ⊢
    rw [hpl]
    refine (List.Perm.nodup_iff ?_).1 h1
    rw [List.append_assoc]
    exact List.Perm.append_left _ (by simpa using (List.perm_append_comm (l₁ := [x.pl]) (l₂ := B.map (·.pl))))
theorem COk.new {R R' M : List Rec} {x : Rec} {now : Nat} (h : COk R M now) (hu : x.used = now + 1) (hpl : ∀ r ∈ M, r.pl ≠ x.pl) (hp : R'.Perm (M ++ [x])) (hok : HeapOk ku R' R'.length) : COk R' (M ++ [x]) (now + 1) := by
  refine ⟨hp, ?_, ?_, hok, ?_⟩
  · rw [List.pairwise_append]
    refine ⟨h.srt, List.pairwise_singleton _ _, ?_⟩
    intro a ha b hb
    simp at hb; subst hb
    have := h.le a ha
    omega
  · intro r hr
    rcases List.mem_append.1 hr with hr | hr
    · have := h.le r hr; omega
    · simp at hr; subst hr; omega
  · simp only [List.map_append, List.map_cons, List.map_nil]
    rw [List.nodup_append]
    refine ⟨h.nd, by simp, ?_⟩
    intro a ha b hb
    simp at hb; subst hb
    obtain ⟨r, hr, rfl⟩ := List.mem_map.1 ha
    exact hpl r hr
theorem COk.out {R R' M : List Rec} {x : Rec} {now : Nat} (h : COk R (x :: M) now) (hp : (R' ++ [x]).Perm R) (hok : HeapOk ku R' R'.length) : COk R' M now := by
  refine ⟨?_, (List.pairwise_cons.1 h.srt).2, fun r hr => h.le r (by simp [hr]), hok, ?_⟩
  · have h1 : (x :: R').Perm (x :: M) := ((List.perm_append_comm (l₁ := [x]) (l₂ := R')).trans hp).trans h.perm
    exact h1.cons_inv
  · have := h.nd
    simp only [List.map_cons, List.nodup_cons] at this
    exact this.2
theorem COk.mod {R A B : List Rec} {x y : Rec} {k now : Nat} (h : COk R (A ++ x :: B) now) (hk : R[k]? = some x) (hu : y.used = x.used) (hpl : y.pl = x.pl) : COk (R.set k y) (A ++ y :: B) now := by
  have hlt := (List.getElem?_eq_some_iff.1 hk).1
  refine ⟨perm_set hk h.perm, ?_, ?_, ?_, ?_⟩
  · have hs := h.srt
    rw [List.pairwise_append, List.pairwise_cons] at hs ⊢
    obtain ⟨a, ⟨b, c⟩, d⟩ := hs
    refine ⟨a, ⟨fun z hz => by rw [hu]; exact b z hz, c⟩, fun z hz w hw => ?_⟩
    rcases List.mem_cons.1 hw with rfl | hw
    · rw [hu]; exact d z hz x (by simp)
    · exact d z hz w (by simp [hw])
  · intro r hr
    rcases List.mem_append.1 hr with hr | hr
    · exact h.le r (by simp [hr])
    · rcases List.mem_cons.1 hr with rfl | hr
      · rw [hu]; exact h.le x (by simp)
      · exact h.le r (by simp [hr])
  · have e : ∀ j, Ky ku (R.set k y) j = Ky ku R j := by
      intro j
      unfold Ky
      rw [List.getElem?_set]
      by_cases e : k = j
      · subst e; rw [if_pos rfl, if_pos hlt, hk]; simp only [Option.map_some, Option.getD_some]; exact hu
      · rw [if_neg e]
    rw [List.length_set]
    intro j h0 hj
    rw [e, e]; exact h.heap j h0 hj
  · have := h.nd
    simp only [List.map_append, List.map_cons] at this ⊢
    rw [hpl]; exact this
end Go.Ax.O
set_option maxRecDepth 100000
namespace Go.Ax.O
open Go.Proofs Go.RowKit
variable {l m : List Assn} {σ : AHeap} {Q : WK}
def CO (cb : Nat) (dv : Value) (nn now mb : Nat) (rowv : Value) (R M : List Rec) (I0 : Assn) : List Assn :=
  [pt cb (.cells [dv, .int .i64 nn, .int .u64 now, .map (some mb), rowv] t_cache_Cache false), Own t_p_cache_item 1 rowv R.length (ptrs R), Star (itemsL 0 R), MapA mb (pairs M), I0]
section
variable {cb nn now mb : Nat} {dv rowv : Value} {R M : List Rec} {I0 : Assn}
abbrev c4 (dv : Value) (nn now mb : Nat) : List Value := [dv, .int .i64 nn, .int .u64 now, .map (some mb)]
theorem co_row : H (CO cb dv nn now mb rowv R M I0) σ ↔ H (RowL cb (c4 dv nn now mb) rowv R (Star [MapA mb (pairs M), I0])) σ := by
  constructor
  · intro h
    have h1 : H [MapA mb (pairs M), I0, pt cb (.cells (c4 dv nn now mb ++ [rowv]) t_cache_Cache false), Own t_p_cache_item 1 rowv R.length (ptrs R), Star (itemsL 0 R)] σ := h.pick [3, 4, 0, 1, 2] (by decide)
    exact ((H_star (l := [MapA mb (pairs M), I0])).2 h1).pick [1, 2, 3, 0] (by decide)
  · intro h
    have h1 : H [Star [MapA mb (pairs M), I0], pt cb (.cells (c4 dv nn now mb ++ [rowv]) t_cache_Cache false), Own t_p_cache_item 1 rowv R.length (ptrs R), Star (itemsL 0 R)] σ := h.pick [3, 0, 1, 2] (by decide)
    exact ((H_star (l := [MapA mb (pairs M), I0])).1 h1).pick [2, 3, 4, 0, 1] (by decide)
theorem co_perm {M' : List Rec} (hp : (pairs M).Perm (pairs M')) : CO cb dv nn now mb rowv R M I0 = CO cb dv nn now mb rowv R M' I0 := by
  unfold CO; rw [mapA_perm hp]
theorem use_k7 {k : Nat} {x : Rec} (h : H (CO cb dv nn now mb rowv R M I0) σ) (hk : R[k]? = some x) (hle : ∀ r ∈ R, r.used ≤ now) (hok : HeapOk ku R R.length) (hb : R.length < 1099511627776)
    (hQ : ∀ R' σ', R'.Perm (R.set k { x with used := now }) → HeapOk ku R' R'.length → H (CO cb dv nn now mb rowv R' M I0) σ' → Q (.pointer (some ⟨x.ib, 0, none⟩)) σ') : o_cache_Cache_use_k7 Q (.pointer (some ⟨x.ib, 0, none⟩)) (.pointer (some ⟨cb, 0, none⟩)) σ := by
  have hkl := (List.getElem?_eq_some_iff.1 hk).1
  unfold o_cache_Cache_use_k7
  have r2 := load1 (n := 1) (o := 2) (h.row 0 rfl)
  simp [r2]
  have h1 := item_out (h.pick [2, 0, 1, 3, 4] (by decide)) hk
  unfold ItemA at h1
  rw [H_sep] at h1
  refine store1 h1 0 rfl rfl (by simp) ?_
  intro σ1 h2
  rw [i_160 _ rfl]
  simp
  have r1 := load1 (n := 1) (o := 1) (h2.row 0 rfl)
  simp [r1]
  have h3 := item_in (r := { x with used := now }) hkl (H_sep.2 h2)
  have h4 : H (CO cb dv nn now mb rowv (R.set k { x with used := now }) M I0) σ1 := by
    have h5 := h3.pick [1, 2, 0, 3, 4] (by decide)
    have e : ptrs (R.set k { x with used := now }) = ptrs R := by
      unfold ptrs
      rw [List.map_set]
      apply List.ext_getElem?
      intro j
      rw [List.getElem?_set]
      split
      · rename_i e; subst e
        rw [List.length_map, if_pos hkl, List.getElem?_map, hk]; rfl
      · rfl
    unfold CO
    rw [e, List.length_set]
    exact h5
  have hx : (R.set k { x with used := now })[k]? = some { x with used := now } := by rw [List.getElem?_set, if_pos rfl, if_pos hkl]
  have hxle := hle x (List.mem_of_getElem? hk)
  refine fix_ok (cs := c4 dv nn now mb) rfl (co_row.1 h4) hx (by simpa using hb) ?_ ?_ ?_
  · rw [List.length_set]
    exact hok.grow hkl (by rw [Ky_some hk]; exact hxle)
  · intro j hj
    obtain ⟨y, hy⟩ : ∃ y, (R.set k { x with used := now })[j]? = some y := ⟨_, List.getElem?_eq_getElem hj⟩
    rw [Ky_some hy]
    have hym := List.mem_of_getElem? hy
    rcases List.mem_or_eq_of_mem_set hym with q | q
    · exact hle y q
    · rw [q]; exact Nat.le_refl _
  · intro R' σ2 hp hok2 h5
    exact hQ R' σ2 hp hok2 (co_row.2 h5)
theorem use_yes {A B : List Rec} {x : Rec} (h : H (CO cb dv nn now mb rowv R (A ++ x :: B) I0) σ) (hc : COk R (A ++ x :: B) now) (hnow : now + 1 < 18446744073709551616) (hb : R.length < 1099511627776)
    (hQ : ∀ R' σ', COk R' (A ++ B ++ [{ x with used := now + 1 }]) (now + 1) → H (CO cb dv nn (now + 1) mb rowv R' (A ++ B ++ [{ x with used := now + 1 }]) I0) σ' → Q (.pointer (some ⟨x.ib, 0, none⟩)) σ') :
    E f_cache_Cache_use [.pointer (some ⟨cb, 0, none⟩), .int .i64 x.pl] σ Q := by
  apply o_cache_Cache_use_ev; unfold o_cache_Cache_use
  have r2 := load1 (n := 1) (o := 2) (h.row 0 rfl)
  simp [r2]
  rw [wrap_u64 (by omega)]
  refine store1 h 0 rfl rfl (by simp) ?_
  intro σ1 h1
  have r3 := load1 (n := 1) (o := 3) (h1.row 0 rfl)
  simp [r3]
  have hl := lookup_yes (p := (x.pl, x.ib)) true h1 (i := 3) rfl (by simp [pairs])
  simp only at hl
  rw [hl]
  simp [okV]
  have hm : x ∈ R := hc.perm.mem_iff.2 (by simp)
  obtain ⟨k, hk, hkx⟩ := List.getElem_of_mem hm
  have hk' : R[k]? = some x := by rw [List.getElem?_eq_getElem hk, hkx]
  have h2 : H (CO cb dv nn (now + 1) mb rowv R (A ++ x :: B) I0) σ1 := h1
  refine use_k7 h2 hk' (fun r hr => by have := hc.le r (hc.perm.mem_iff.1 hr); omega) hc.heap hb ?_
  intro R' σ2 hp hok h3
  have hp2 := hp.trans (perm_set (y := { x with used := now + 1 }) hk' hc.perm)
  refine hQ R' σ2 (hc.use rfl rfl hp2 hok) ?_
  rw [co_perm (M' := A ++ x :: B)]
  · exact h3
  · unfold pairs
    simp only [List.map_append, List.map_cons, List.map_nil, List.append_assoc]
    exact List.Perm.append_left _ (by simp)
theorem use_no {a : Nat} (h : H (CO cb dv nn now mb rowv R M I0) σ) (hc : COk R M now) (hno : ∀ r ∈ M, r.pl ≠ a) (hnow : now + 1 < 18446744073709551616) (hb : R.length < 1099511627775)
    (hQ : ∀ rowv' R' ib σ', COk R' (M ++ [⟨ib, a, now + 1, false, .slice none 0 0, []⟩]) (now + 1) → H (CO cb dv nn (now + 1) mb rowv' R' (M ++ [⟨ib, a, now + 1, false, .slice none 0 0, []⟩]) I0) σ' → Q (.pointer (some ⟨ib, 0, none⟩)) σ') :
    E f_cache_Cache_use [.pointer (some ⟨cb, 0, none⟩), .int .i64 a] σ Q := by
  apply o_cache_Cache_use_ev; unfold o_cache_Cache_use
  have r2 := load1 (n := 1) (o := 2) (h.row 0 rfl)
  simp [r2]
  rw [wrap_u64 (by omega)]
  refine store1 h 0 rfl rfl (by simp) ?_
  intro σ1 h1
  have r3 := load1 (n := 1) (o := 3) (h1.row 0 rfl)
  have r2 := load1 (n := 1) (o := 2) (h1.row 0 rfl)
  simp [r3]
  have hnp : ∀ p ∈ pairs M, p.1 ≠ a := by
    intro p hp
    obtain ⟨r, hr, rfl⟩ := List.mem_map.1 hp
    exact hno r hr
  have hl := lookup_no (a := a) true h1 (i := 3) rfl hnp
  rw [hl]
  simp [okV, r2, splice]
  refine new_ok h1 ?_
  intro ib σ2 h2
  have r3 := load1 (n := 1) (o := 3) (h2.row 0 rfl)
  simp [r3]
  refine update_new h2 (i := 3) rfl hnp ?_
  intro σ3 h3
  rw [i_160 _ rfl, i_121 _ rfl]
  simp
  let x : Rec := ⟨ib, a, now + 1, false, .slice none 0 0, []⟩
  have e1 : pairs M ++ [(a, ib)] = pairs (M ++ [x]) := by simp [pairs, x]
  rw [e1] at h3
  have h4 : H (RowL cb (c4 dv nn (now + 1) mb) rowv R (Star [ItemA 0 x, Star [MapA mb (pairs (M ++ [x])), I0]])) σ3 := by
    have h5 : H [ItemA 0 x, Star [MapA mb (pairs (M ++ [x])), I0], pt cb (.cells (c4 dv nn (now + 1) mb ++ [rowv]) t_cache_Cache false), Own t_p_cache_item 1 rowv R.length (ptrs R), Star (itemsL 0 R)] σ3 := by
      have h6 : H [MapA mb (pairs (M ++ [x])), I0, pt cb (.cells (c4 dv nn (now + 1) mb ++ [rowv]) t_cache_Cache false), Own t_p_cache_item 1 rowv R.length (ptrs R), Star (itemsL 0 R), pt ib (.cells [.int .i64 a, .int .i64 0, .int .u64 (now + 1), .bool false, .slice none 0 0] t_cache_item false)] σ3 := h3.pick [3, 4, 0, 1, 2, 5] (by decide)
      have h7 := (H_star (l := [MapA mb (pairs (M ++ [x])), I0])).2 h6
      have h8 : H [pt ib (.cells [.int .i64 a, .int .i64 0, .int .u64 (now + 1), .bool false, .slice none 0 0] t_cache_item false), Star [MapA mb (pairs (M ++ [x])), I0], pt cb (.cells (c4 dv nn (now + 1) mb ++ [rowv]) t_cache_Cache false), Own t_p_cache_item 1 rowv R.length (ptrs R), Star (itemsL 0 R)] σ3 := h7.pick [4, 0, 1, 2, 3] (by decide)
      have hB : Ax.H (BytesV (.slice none 0 0) [] :: [pt ib (.cells [.int .i64 a, .int .i64 0, .int .u64 (now + 1), .bool false, .slice none 0 0] t_cache_item false), Star [MapA mb (pairs (M ++ [x])), I0], pt cb (.cells (c4 dv nn (now + 1) mb ++ [rowv]) t_cache_Cache false), Own t_p_cache_item 1 rowv R.length (ptrs R), Star (itemsL 0 R)]) σ3 :=
        (H_pure.2 ⟨⟨rfl, rfl⟩, h8⟩ : H (pure' (Value.slice none 0 0 = .slice none 0 0 ∧ ([] : List UInt8) = []) :: _) σ3).map0 fun r hr => .inl hr
      unfold ItemA
      rw [H_sep]
      exact hB.pick [1, 0, 2, 3, 4, 5] (by decide)
    exact ((H_star (l := [ItemA 0 x, Star [MapA mb (pairs (M ++ [x])), I0]])).2 h5).pick [1, 2, 3, 0] (by decide)
  have hleR : ∀ r ∈ R, r.used ≤ now := fun r hr => hc.le r (hc.perm.mem_iff.1 hr)
  refine hpush_ok (cs := c4 dv nn (now + 1) mb) (x := x) rfl h4 hb ?_ ?_
  · intro k hk
    rw [Ky_some (List.getElem?_eq_getElem hk)]
    have := hleR _ (List.getElem_mem hk)
    show _ ≤ now + 1
    omega
  · intro rowv' σ4 h5
    have h6 : H (CO cb dv nn (now + 1) mb rowv' (R ++ [x]) (M ++ [x]) I0) σ4 := co_row.2 h5
    have hx : (R ++ [x])[R.length]? = some x := by simp
    have hheap : HeapOk ku (R ++ [x]) (R ++ [x]).length := by
      intro k h0 hk
      simp only [List.length_append, List.length_cons, List.length_nil] at hk
      by_cases e : k = R.length
      · subst e
        rw [Ky_some hx]
        have hp : (R.length - 1) / 2 < R.length := by omega
        rw [Ky_some (x := R[(R.length - 1) / 2]) (by rw [List.getElem?_append_left hp, List.getElem?_eq_getElem hp])]
        have := hleR _ (List.getElem_mem hp)
        show _ ≤ now + 1
        omega
      · have := hc.heap k h0 (by omega)
        unfold Ky at this ⊢
        rw [List.getElem?_append_left (by omega), List.getElem?_append_left (by omega)]
        exact this
    refine use_k7 h6 hx ?_ hheap (by simp; omega) ?_
    · intro r hr
      rcases List.mem_append.1 hr with hr | hr
      · have := hleR r hr; omega
      · simp at hr; subst hr; exact Nat.le_refl _
    · intro R' σ5 hp hok h7
      have e2 : (R ++ [x]).set R.length { x with used := now + 1 } = R ++ [x] := by simp [x]
      rw [e2] at hp
      refine hQ rowv' R' ib σ5 (hc.new rfl hno (hp.trans (hc.perm.append_right [x])) hok) h7
end
end Go.Ax.O
set_option maxRecDepth 100000
namespace Go.Ax.O
open Go.Proofs Go.RowKit
variable {l m : List Assn} {σ : AHeap} {Q : WK}
theorem bytesV_rob {v : Value} {x : List UInt8} (hx : x ≠ []) : BytesV v x = RoB v x := by
  funext r; apply propext
  constructor
  · rintro (⟨_, _, h⟩ | h)
    · exact absurd h hx
    · exact h
  · exact .inr
structure DPlain (D : DM) (n : Nat) : Prop where
  ok : D.Ok n
  off : D.off = false
  fuse : D.fuse = 0
theorem DPlain.fling {D : DM} {n a : Nat} {bs : List UInt8} (h : DPlain D n) (ha : a < n) (hb : bs.length = 256) : DPlain (D.fling a bs) n := ⟨fling_Ok h.ok ha hb, h.off, h.fuse⟩
theorem set_same {α : Type} {R : List α} {k : Nat} {x : α} (hk : R[k]? = some x) : R.set k x = R := by
  apply List.ext_getElem?
  intro j
  rw [List.getElem?_set]
  split
  · rename_i e; subst e; rw [hk, if_pos (List.getElem?_eq_some_iff.1 hk).1]
  · rfl
theorem ptrs_set {R : List Rec} {k : Nat} {x y : Rec} (hk : R[k]? = some x) (hy : y.ib = x.ib) : ptrs (R.set k y) = ptrs R := by
  unfold ptrs
  rw [List.map_set, hy]
  exact set_same (by rw [List.getElem?_map, hk]; rfl)
section
variable {cb nn now mb n : Nat} {dv rowv : Value} {R M A B : List Rec} {I0 : Assn} {D : DM}
def wrote (D : DM) (x : Rec) : DM := if x.dirty then D.fling x.pl x.b else D
abbrev clean (x : Rec) : Rec := { x with dirty := false }
theorem pairs_mod {x y : Rec} (hpl : y.pl = x.pl) (hib : y.ib = x.ib) : pairs (A ++ y :: B) = pairs (A ++ x :: B) := by simp [pairs, hpl, hib]
theorem witem_ok {k : Nat} {x : Rec} (h : H (CO cb dv nn now mb rowv R (A ++ x :: B) (Star [Disk dv D, I0])) σ) (hk : R[k]? = some x) (hD : DPlain D n) (hpl : x.pl < n) (hxb : x.b.length = 256) (hm : D.fly.length < 1099511627776)
    (hQ : ∀ σ', H (CO cb dv nn now mb rowv (R.set k (clean x)) (A ++ clean x :: B) (Star [Disk dv (wrote D x), I0])) σ' → Q (.int .i64 0) σ') : E f_cache_Cache_write [.pointer (some ⟨cb, 0, none⟩), .pointer (some ⟨x.ib, 0, none⟩)] σ Q := by
  have hkl := (List.getElem?_eq_some_iff.1 hk).1
  apply o_cache_Cache_write_ev; unfold o_cache_Cache_write
  have h0 : H [Star [Disk dv D, I0], Star (itemsL 0 R), pt cb (.cells [dv, .int .i64 nn, .int .u64 now, .map (some mb), rowv] t_cache_Cache false), Own t_p_cache_item 1 rowv R.length (ptrs R), MapA mb (pairs (A ++ x :: B))] σ := h.pick [4, 2, 0, 1, 3] (by decide)
  have h1 : H [Star (itemsL 0 R), Disk dv D, I0, pt cb (.cells [dv, .int .i64 nn, .int .u64 now, .map (some mb), rowv] t_cache_Cache false), Own t_p_cache_item 1 rowv R.length (ptrs R), MapA mb (pairs (A ++ x :: B))] σ := ((H_star (l := [Disk dv D, I0])).1 h0).pick [2, 0, 1, 3, 4, 5] (by decide)
  have h2 := item_out h1 hk
  unfold ItemA at h2
  rw [H_sep, bytesV_rob (by intro e; rw [e] at hxb; simp at hxb)] at h2
  have r3 := load1 (n := 1) (o := 3) (h2.row 0 rfl)
  have r0 := load1 (n := 1) (o := 0) (h2.row 0 rfl)
  have r4 := load1 (n := 1) (o := 4) (h2.row 0 rfl)
  have c0 := load1 (n := 1) (o := 0) (h2.row 5 rfl)
  simp [r3]
  cases hd : x.dirty with
  | false =>
    simp
    have e : clean x = x := by cases x; simp_all [clean]
    have e2 : wrote D x = D := by simp [wrote, hd]
    rw [e, e2, set_same hk] at hQ
    exact hQ σ h
  | true =>
    simp [r0, r4, c0]
    refine write_ok (bs := x.b) h2 3 rfl hD.ok (by rw [hD.fuse]; omega) hm (by omega) (fun τ hτ => hτ.rob_rd 1 rfl) ?_
    rw [write_plain hD.ok hD.off hD.fuse hpl hxb]
    intro σ1 h3
    simp
    refine store1 h3 0 rfl rfl (by simp) ?_
    intro σ2 h4
    have e2 : wrote D x = D.fling x.pl x.b := by simp [wrote, hd]
    rw [e2] at hQ
    refine hQ σ2 ?_
    have h5 : H [pt x.ib (.cells [.int .i64 x.pl, .int .i64 k, .int .u64 x.used, .bool false, x.sv] t_cache_item false), RoB x.sv x.b, Star ((itemsL 0 R).set k emp), Disk dv (D.fling x.pl x.b), I0, pt cb (.cells [dv, .int .i64 nn, .int .u64 now, .map (some mb), rowv] t_cache_Cache false), Own t_p_cache_item 1 rowv R.length (ptrs R), MapA mb (pairs (A ++ x :: B))] σ2 := h4
    rw [← bytesV_rob (v := x.sv) (x := x.b) (by intro e; rw [e] at hxb; simp at hxb)] at h5
    have h6 := item_in (r := clean x) hkl (H_sep.2 h5)
    have h7 := (H_star (l := [Disk dv (D.fling x.pl x.b), I0])).2 (h6.pick [1, 2, 0, 3, 4, 5] (by decide))
    unfold CO
    rw [pairs_mod (x := x) (y := clean x) rfl rfl, ptrs_set (y := clean x) hk rfl, List.length_set]
    exact h7.pick [2, 3, 1, 4, 0] (by decide)
theorem room_no (h : H (CO cb dv nn now mb rowv R M I0) σ) (hlt : R.length < nn) (hQ : Q (.int .i64 0) σ) : E f_cache_Cache_room [.pointer (some ⟨cb, 0, none⟩)] σ Q := by
  apply o_cache_Cache_room_ev; unfold o_cache_Cache_room
  have r4 := load1 (n := 1) (o := 4) (h.row 0 rfl)
  have r1 := load1 (n := 1) (o := 1) (h.row 0 rfl)
  obtain ⟨_, _, a, c, rfl⟩ := h.own_src 1 rfl
  simp [r4, r1, hlt]
  exact hQ
theorem room_yes {x : Rec} (h : H (CO cb dv nn now mb rowv R (x :: M) (Star [Disk dv D, I0])) σ) (hc : COk R (x :: M) now) (hge : nn ≤ R.length) (hb : R.length < 1099511627776) (hD : DPlain D n) (hpl : x.pl < n) (hxb : x.b.length = 256) (hm : D.fly.length < 1099511627776)
    (hQ : ∀ rowv' R' σ', COk R' M now → H (CO cb dv nn now mb rowv' R' M (Star [Disk dv (wrote D x), I0])) σ' → Q (.int .i64 0) σ') : E f_cache_Cache_room [.pointer (some ⟨cb, 0, none⟩)] σ Q := by
  apply o_cache_Cache_room_ev; unfold o_cache_Cache_room
  have r4 := load1 (n := 1) (o := 4) (h.row 0 rfl)
  have r1 := load1 (n := 1) (o := 1) (h.row 0 rfl)
  have hl := hc.perm.length_eq
  simp only [List.length_cons] at hl
  obtain ⟨rb, rc, rfl, hrc, rest, hrow⟩ := h.own_form 1 rfl (by omega)
  have hnl : ¬ (R.length : Int) < (nn : Int) := by omega
  simp [r4, r1]
  refine wC_dec (fun g => absurd g (by omega)) fun _ => ?_
  have h0 := hc.top
  have rx := load1 (n := 1) (o := 0) hrow
  rw [List.getElem?_append_left (by rw [ptrs_len]; omega), ptrs_get h0] at rx
  rw [idxA (by omega)]
  simp [rx]
  refine witem_ok (A := []) (B := M) (k := 0) h h0 hD hpl hxb hm ?_
  intro σ1 h1
  simp
  rw [i_160 _ rfl, pu_some]
  have hc1 : COk (R.set 0 (clean x)) (clean x :: M) now := COk.mod (A := []) hc h0 rfl rfl
  have hl1 : (R.set 0 (clean x)).length = M.length + 1 := by rw [List.length_set]; exact hl
  refine hpop_ok (n := M.length) (x := clean x) (cs := c4 dv nn now mb) rfl (co_row.1 h1) hl1 hc1.top (by omega) (by rw [← hl1]; exact hc1.heap) ?_
  intro rowv' R' σ2 hp hok h2
  rw [a_121]
  have h3 : H [ItemA M.length (clean x), Star [MapA mb (pairs (clean x :: M)), Star [Disk dv (wrote D x), I0]], pt cb (.cells (c4 dv nn now mb ++ [rowv']) t_cache_Cache false), Own t_p_cache_item 1 rowv' R'.length (ptrs R'), Star (itemsL 0 R')] σ2 :=
    (H_star (l := [ItemA M.length (clean x), Star [MapA mb (pairs (clean x :: M)), Star [Disk dv (wrote D x), I0]]])).1 (h2.pick [3, 0, 1, 2] (by decide))
  have h4 : H [MapA mb (pairs (clean x :: M)), Star [Disk dv (wrote D x), I0], ItemA M.length (clean x), pt cb (.cells (c4 dv nn now mb ++ [rowv']) t_cache_Cache false), Own t_p_cache_item 1 rowv' R'.length (ptrs R'), Star (itemsL 0 R')] σ2 :=
    (H_star (l := [MapA mb (pairs (clean x :: M)), Star [Disk dv (wrote D x), I0]])).1 (h3.pick [1, 0, 2, 3, 4] (by decide))
  have e1 : (pairs (clean x :: M)).Perm (pairs M ++ [(x.pl, x.ib)]) := by
    exact (List.perm_append_singleton (x.pl, x.ib) (pairs M)).symm
  rw [mapA_perm e1] at h4
  have r3 := load1 (n := 1) (o := 3) (h4.row 3 rfl)
  have h5 := h4.pick [2, 0, 1, 3, 4, 5] (by decide)
  unfold ItemA at h5
  have q0 := load1 (n := 1) (o := 0) ((H_sep.1 h5).row 0 rfl)
  simp [r3, q0]
  refine delete_yes (p := (x.pl, x.ib)) h4 (i := 0) rfl ?_ ?_
  · intro q hq
    obtain ⟨r, hr, rfl⟩ := List.mem_map.1 hq
    have := hc.nd
    simp only [List.map_cons, List.nodup_cons] at this
    intro e
    exact this.1 (List.mem_map.2 ⟨r, hr, e⟩)
  · intro σ3 h6
    refine hQ rowv' R' σ3 (hc1.out hp hok) ?_
    exact h6.pick [3, 4, 5, 0, 1] (by decide)
end
end Go.Ax.O
set_option maxRecDepth 100000
namespace Go.Ax.O
open Go.Proofs Go.RowKit
variable {l m : List Assn} {σ : AHeap} {Q : WK}
section
variable {cb nn now mb n : Nat} {dv rowv : Value} {R M A B : List Rec} {I0 : Assn} {D : DM}
theorem co_disk : H (CO cb dv nn now mb rowv R M (Star [Disk dv D, I0])) σ ↔ H [pt cb (.cells [dv, .int .i64 nn, .int .u64 now, .map (some mb), rowv] t_cache_Cache false), Own t_p_cache_item 1 rowv R.length (ptrs R), Star (itemsL 0 R), MapA mb (pairs M), Disk dv D, I0] σ := by
  constructor
  · intro h
    exact ((H_star (l := [Disk dv D, I0])).1 (h.pick [4, 0, 1, 2, 3] (by decide) : H [Star [Disk dv D, I0], _, _, _, _] σ)).pick [2, 3, 4, 5, 0, 1] (by decide)
  · intro h
    have h1 : H [Disk dv D, I0, pt cb (.cells [dv, .int .i64 nn, .int .u64 now, .map (some mb), rowv] t_cache_Cache false), Own t_p_cache_item 1 rowv R.length (ptrs R), Star (itemsL 0 R), MapA mb (pairs M)] σ := h.pick [4, 5, 0, 1, 2, 3] (by decide)
    exact ((H_star (l := [Disk dv D, I0])).2 h1).pick [1, 2, 3, 4, 0] (by decide)
theorem disk_ptr (h : H l σ) (i : Nat) (hi : l[i]? = some (Disk dv D)) : ∃ b, dv = .pointer (some ⟨b, 0, none⟩) := by
  obtain ⟨b, _, _, _, e, _⟩ := disk_out (h.out i hi); exact ⟨b, e⟩
theorem cready_ok {a : Nat} (h : H (CO cb dv nn now mb rowv R M (Star [Disk dv D, I0])) σ) (hD : DPlain D n) (ha : a < n) (hQ : Q (.int .i64 0) σ) : E f_cache_Cache_ready [.pointer (some ⟨cb, 0, none⟩), .int .i64 a] σ Q := by
  have h1 := co_disk.1 h
  obtain ⟨db, hdb⟩ := disk_ptr h1 4 rfl
  have hlen := hD.ok.len
  have hn2 := hD.ok.hi
  apply o_cache_Cache_ready_ev; unfold o_cache_Cache_ready
  have c0 := load1 (n := 1) (o := 0) (h1.row 0 rfl)
  simp [c0]
  rw [hdb]
  simp
  unfold o_cache_Cache_ready_k2
  simp [c0]
  refine off_ok h1 4 rfl ?_
  rw [hD.off]
  have hna : ¬ (a : Int) < 0 := by omega
  simp [hna, c0]
  refine blocks_ok h1 4 rfl (by omega) ?_
  have : D.last.length / 256 = n := by omega
  rw [this]
  have hnn : ¬ n ≤ a := by omega
  unfold o_cache_Cache_ready_k4
  simpa [hnn] using hQ
theorem get_k12 {x : Rec} (h : H (CO cb dv nn now mb rowv R (A ++ x :: B) I0) σ) (hc : COk R (A ++ x :: B) now) (hnow : now + 1 < 18446744073709551616) (hb : R.length < 1099511627776) (hxb : x.b.length = 256)
    (hQ : ∀ R' w σ', COk R' (A ++ B ++ [{ x with used := now + 1 }]) (now + 1) → H (CO cb dv nn (now + 1) mb rowv R' (A ++ B ++ [{ x with used := now + 1 }]) (Star [I0, Own t_uint8 1 w 256 (bv x.b)])) σ' → Q (.tuple #[w, .int .i64 0]) σ') :
    o_cache_Cache_Get_k12 Q (.pointer (some ⟨cb, 0, none⟩)) (.int .i64 x.pl) σ := by
  unfold o_cache_Cache_Get_k12
  refine use_yes h hc hnow hb ?_
  intro R' σ1 hc1 h1
  have hm : { x with used := now + 1 } ∈ R' := hc1.perm.mem_iff.2 (by simp)
  obtain ⟨k, hk, hkx⟩ := List.getElem_of_mem hm
  have hk' : R'[k]? = some { x with used := now + 1 } := by rw [List.getElem?_eq_getElem hk, hkx]
  have h2 := item_out (h1.pick [2, 0, 1, 3, 4] (by decide)) hk'
  unfold ItemA at h2
  rw [H_sep, bytesV_rob (by intro e; simp only at e; rw [e] at hxb; simp at hxb)] at h2
  have r4 := load1 (n := 1) (o := 4) (h2.row 0 rfl)
  simp [r4]
  obtain ⟨sb, so, sc, cc, hsv, _⟩ := h2.rob 1 rfl
  simp only at hsv
  have hs := (h2.rob_rd 1 rfl).src
  simp only at hs
  rw [hsv] at hs ⊢
  rw [hxb] at hs ⊢
  refine clone_ok h1 hs (by omega) ?_
  intro w σ2 h3
  try simp
  refine hQ R' w σ2 hc1 ?_
  have h4 := (H_star (l := [I0, Own t_uint8 1 w 256 (bv x.b)])).2 (h3.pick [4, 5, 0, 1, 2, 3] (by decide))
  exact h4.pick [1, 2, 3, 4, 0] (by decide)
end
structure It where
  pl : Nat
  dirty : Bool
  b : List UInt8
structure CM where
  n : Nat
  its : List It
def toIt (r : Rec) : It := ⟨r.pl, r.dirty, r.b⟩
def CacheA (v dv : Value) (K : Nat) (C : CM) : Assn := ex fun p : (Nat × Nat × Nat) × Value × List Rec × List Rec =>
  sep (pure' (v = .pointer (some ⟨p.1.1, 0, none⟩) ∧ COk p.2.2.1 p.2.2.2 p.1.2.2 ∧ p.2.2.2.map toIt = C.its ∧ p.1.2.2 ≤ K))
    (Star [pt p.1.1 (.cells [dv, .int .i64 C.n, .int .u64 p.1.2.2, .map (some p.1.2.1), p.2.1] t_cache_Cache false), Own t_p_cache_item 1 p.2.1 p.2.2.1.length (ptrs p.2.2.1), Star (itemsL 0 p.2.2.1), MapA p.1.2.1 (pairs p.2.2.2)])
theorem cache_out {v dv : Value} {K : Nat} {C : CM} (h : H (CacheA v dv K C :: m) σ) : ∃ cb mb now rowv R M, v = .pointer (some ⟨cb, 0, none⟩) ∧ COk R M now ∧ M.map toIt = C.its ∧ now ≤ K ∧ H (CO cb dv C.n now mb rowv R M (Star m)) σ := by
  obtain ⟨⟨⟨cb, mb, now⟩, rowv, R, M⟩, h⟩ := H_ex.1 h
  rw [H_sep] at h
  obtain ⟨⟨h1, h2, h3, h4⟩, h⟩ := H_pure.1 h
  refine ⟨cb, mb, now, rowv, R, M, h1, h2, h3, h4, ?_⟩
  have h5 := (H_star.1 h).perm List.perm_append_comm
  exact (H_app.1 h5).pick [1, 2, 3, 4, 0] (by decide)
theorem cache_in {dv rowv : Value} {K cb mb now : Nat} {C : CM} {R M : List Rec} (h2 : COk R M now) (h3 : M.map toIt = C.its) (h4 : now ≤ K) (h : H (CO cb dv C.n now mb rowv R M (Star m)) σ) : H (CacheA (.pointer (some ⟨cb, 0, none⟩)) dv K C :: m) σ := by
  refine H_ex.2 ⟨((cb, mb, now), rowv, R, M), ?_⟩
  rw [H_sep]
  refine H_pure.2 ⟨⟨rfl, h2, h3, h4⟩, ?_⟩
  rw [H_star]
  have h5 : H [Star m, pt cb (.cells [dv, .int .i64 C.n, .int .u64 now, .map (some mb), rowv] t_cache_Cache false), Own t_p_cache_item 1 rowv R.length (ptrs R), Star (itemsL 0 R), MapA mb (pairs M)] σ := h.pick [4, 0, 1, 2, 3] (by decide)
  exact (H_star.1 h5).perm List.perm_append_comm
end Go.Ax.O
set_option maxRecDepth 100000
namespace Go.Ax.O
open Go.Proofs Go.RowKit
variable {l m : List Assn} {σ : AHeap} {Q : WK}
structure CM.Ok (C : CM) (n : Nat) : Prop where
  lo : 1 ≤ C.n
  hi : C.n ≤ 1024
  len : C.its.length ≤ C.n
  it : ∀ x ∈ C.its, x.pl < n ∧ x.b.length = 256
  nd : (C.its.map (·.pl)).Nodup
def wroteI (D : DM) (x : It) : DM := if x.dirty then D.fling x.pl x.b else D
def CM.room (C : CM) (D : DM) : List It × DM := if C.its.length < C.n then (C.its, D) else match C.its with
  | [] => ([], D)
  | x :: l => (l, wroteI D x)
theorem its_split {M : List Rec} {A B : List It} {it : It} (h : M.map toIt = A ++ it :: B) : ∃ A' x B', M = A' ++ x :: B' ∧ A'.map toIt = A ∧ toIt x = it ∧ B'.map toIt = B := by
  obtain ⟨A', T, rfl, h1, h2⟩ := List.map_eq_append_iff.1 h
  obtain ⟨x, B', rfl, h3, h4⟩ := List.map_eq_cons_iff.1 h2
  exact ⟨A', x, B', rfl, h1, h3, h4⟩
theorem get_hit {v dv : Value} {K n : Nat} {C : CM} {D : DM} {I0 : Assn} {A B : List It} {it : It} (h : H [CacheA v dv K C, Disk dv D, I0] σ) (hC : C.Ok n) (hits : C.its = A ++ it :: B) (hD : DPlain D n) (hK : K + 1 < 18446744073709551616)
    (hQ : ∀ w σ', H [CacheA v dv (K + 1) { C with its := A ++ B ++ [it] }, Disk dv D, I0, Own t_uint8 1 w 256 (bv it.b)] σ' → Q (.tuple #[w, .int .i64 0]) σ') : E f_cache_Cache_Get [v, .int .i64 it.pl] σ Q := by
  obtain ⟨cb, mb, now, rowv, R, M, rfl, hc, hM, hnow, h1⟩ := cache_out h
  rw [hits] at hM
  obtain ⟨A', x, B', rfl, hA', hx, hB'⟩ := its_split hM
  obtain ⟨hpl, hxb⟩ := hC.it it (by rw [hits]; simp)
  have hl := hc.perm.length_eq
  have hl2 : (A' ++ x :: B').length = C.its.length := by rw [hits, ← hM, List.length_map]
  have hlen := hC.len
  have hhi := hC.hi
  have e1 : it.pl = x.pl := by rw [← hx]; rfl
  have e2 : it.b = x.b := by rw [← hx]; rfl
  rw [e1] at hpl ⊢
  apply o_cache_Cache_Get_ev; unfold o_cache_Cache_Get
  refine cready_ok h1 hD hpl ?_
  simp
  have r3 := load1 (n := 1) (o := 3) (h1.row 0 rfl)
  simp [r3]
  have hlk := lookup_yes (p := (x.pl, x.ib)) false h1 (i := 3) rfl (by simp [pairs])
  simp only at hlk
  rw [hlk]
  simp [okV]
  refine get_k12 h1 hc (by omega) (by omega) (by rw [← e2]; exact hxb) ?_
  intro R' w σ1 hc1 h2
  refine hQ w σ1 ?_
  have h3 : H [CacheA (.pointer (some ⟨cb, 0, none⟩)) dv (K + 1) { C with its := A ++ B ++ [it] }, Star [Disk dv D, I0], Own t_uint8 1 w 256 (bv x.b)] σ1 := by
    refine cache_in hc1 ?_ (by omega) h2
    simp only [List.map_append, hA', hB', List.map_cons, List.map_nil]
    rw [← hx]; rfl
  rw [e2]
  exact ((H_star (l := [Disk dv D, I0])).1 (h3.pick [1, 0, 2] (by decide) : H (Star [Disk dv D, I0] :: [CacheA (.pointer (some ⟨cb, 0, none⟩)) dv (K + 1) { C with its := A ++ B ++ [it] }, Own t_uint8 1 w 256 (bv x.b)]) σ1)).pick [2, 0, 1, 3] (by decide)
theorem room_ok {cb mb now n : Nat} {dv rowv : Value} {R M : List Rec} {I0 : Assn} {D : DM} {C : CM} (h : H (CO cb dv C.n now mb rowv R M (Star [Disk dv D, I0])) σ) (hc : COk R M now) (hM : M.map toIt = C.its) (hC : C.Ok n) (hD : DPlain D n) (hm : D.fly.length < 1099511627776)
    (hQ : ∀ rowv' R' M' σ', COk R' M' now → M'.map toIt = (C.room D).1 → H (CO cb dv C.n now mb rowv' R' M' (Star [Disk dv (C.room D).2, I0])) σ' → Q (.int .i64 0) σ') : E f_cache_Cache_room [.pointer (some ⟨cb, 0, none⟩)] σ Q := by
  have hl := hc.perm.length_eq
  have hl2 : M.length = C.its.length := by rw [← hM, List.length_map]
  have hlen := hC.len
  have hhi := hC.hi
  have hlo := hC.lo
  by_cases hlt : C.its.length < C.n
  · have e : C.room D = (C.its, D) := by simp [CM.room, hlt]
    rw [e] at hQ
    refine room_no h (by omega) ?_
    exact hQ rowv R M σ hc hM h
  · cases M with
    | nil => simp at hl2; omega
    | cons x M0 =>
      have hM' := hM
      simp only [List.map_cons] at hM'
      have e : C.room D = (M0.map toIt, wrote D x) := by
        unfold CM.room
        rw [if_neg hlt, ← hM']
        rfl
      rw [e] at hQ
      obtain ⟨hpl, hxb⟩ := hC.it (toIt x) (by rw [← hM']; simp)
      refine room_yes h hc (by omega) (by omega) hD hpl hxb hm ?_
      intro rowv' R' σ1 hc1 h1
      exact hQ rowv' R' M0 σ1 hc1 rfl h1
theorem room_plain {n : Nat} {D : DM} {C : CM} (hC : C.Ok n) (hD : DPlain D n) : DPlain (C.room D).2 n ∧ (C.room D).2.fly.length ≤ D.fly.length + 4 ∧ (C.room D).1.length < C.n ∧ (∀ x ∈ (C.room D).1, x ∈ C.its) ∧ ((C.room D).1.map (·.pl)).Nodup := by
  have hlo := hC.lo
  have hlen := hC.len
  unfold CM.room
  split
  · rename_i h
    exact ⟨hD, by simp, h, fun x hx => hx, hC.nd⟩
  · rename_i h
    split
    · rename_i e; rw [e] at h; simp at h; omega
    · rename_i x l e
      have hx := hC.it x (by rw [e]; simp)
      have hnd := hC.nd
      rw [e] at hlen hnd ⊢
      simp only [List.length_cons] at hlen
      simp only [List.map_cons, List.nodup_cons] at hnd
      refine ⟨?_, ?_, by show l.length < C.n; omega, fun y hy => List.mem_cons_of_mem _ hy, hnd.2⟩
      · unfold wroteI; split
        · exact hD.fling hx.1 hx.2
        · exact hD
      · unfold wroteI; split
        · simp [DM.fling, parts]
        · simp
theorem get_miss {v dv : Value} {K n a : Nat} {C : CM} {D : DM} {I0 : Assn} (h : H [CacheA v dv K C, Disk dv D, I0] σ) (hC : C.Ok n) (hno : ∀ x ∈ C.its, x.pl ≠ a) (ha : a < n) (hD : DPlain D n) (hm : D.fly.length < 1099511627000) (hK : K + 2 < 18446744073709551616)
    (hQ : ∀ w σ', H [CacheA v dv (K + 2) { C with its := (C.room D).1 ++ [⟨a, false, (C.room D).2.block a⟩] }, Disk dv (C.room D).2, I0, Own t_uint8 1 w 256 (bv ((C.room D).2.block a))] σ' → Q (.tuple #[w, .int .i64 0]) σ') : E f_cache_Cache_Get [v, .int .i64 a] σ Q := by
  obtain ⟨cb, mb, now, rowv, R, M, rfl, hc, hM, hnow, h1⟩ := cache_out h
  have hhi := hC.hi
  have hnoM : ∀ p ∈ pairs M, p.1 ≠ a := by
    intro p hp
    obtain ⟨r, hr, rfl⟩ := List.mem_map.1 hp
    exact hno (toIt r) (by rw [← hM]; exact List.mem_map_of_mem hr)
  obtain ⟨hD1, hf1, hl1, hsub, hnd1⟩ := room_plain hC hD
  apply o_cache_Cache_Get_ev; unfold o_cache_Cache_Get
  refine cready_ok h1 hD ha ?_
  simp
  have r3 := load1 (n := 1) (o := 3) (h1.row 0 rfl)
  simp [r3]
  have hlk := lookup_no (a := a) false h1 (i := 3) rfl hnoM
  rw [hlk]
  simp [okV]
  refine room_ok h1 hc hM hC hD (by omega) ?_
  intro rowv1 R1 M1 σ1 hc1 hM1 h2
  simp
  generalize (C.room D).2 = D1 at hD1 hf1 h2 hQ
  generalize (C.room D).1 = its1 at hl1 hsub hnd1 hM1 hQ
  have h3 := co_disk.1 h2
  have c0 := load1 (n := 1) (o := 0) (h3.row 0 rfl)
  simp [c0]
  have hr := ready_in hD1.ok ha
  rw [hD1.off] at hr
  simp only [Bool.false_eq_true, if_false] at hr
  refine read_yes h3 4 rfl hD1.ok (by omega) hr ?_
  intro w0 σ2 h4
  simp
  simp only [Int.toNat_natCast] at h4
  have hbl := block_len hD1.ok ha
  have hl2 := hc1.perm.length_eq
  have hl3 : M1.length = its1.length := by rw [← hM1, List.length_map]
  have h5 : H (CO cb dv C.n now mb rowv1 R1 M1 (Star [Disk dv D1, Star [I0, Own t_uint8 1 w0 256 (bv (D1.block a))]])) σ2 := by
    refine co_disk.2 ?_
    have := (H_star (l := [I0, Own t_uint8 1 w0 256 (bv (D1.block a))])).2 (h4.pick [5, 6, 0, 1, 2, 3, 4] (by decide))
    exact this.pick [1, 2, 3, 4, 5, 0] (by decide)
  refine use_no h5 hc1 ?_ (by omega) (by omega) ?_
  · intro r hr
    exact hno (toIt r) (hsub _ (by rw [← hM1]; exact List.mem_map_of_mem hr))
  intro rowv2 R2 ib σ3 hc2 h6
  simp
  -- the block's bytes go into the item
  have h7 : H [Star [Disk dv D1, Star [I0, Own t_uint8 1 w0 256 (bv (D1.block a))]], pt cb (.cells [dv, .int .i64 C.n, .int .u64 (now + 1 : Nat), .map (some mb), rowv2] t_cache_Cache false), Own t_p_cache_item 1 rowv2 R2.length (ptrs R2), Star (itemsL 0 R2), MapA mb (pairs (M1 ++ [⟨ib, a, now + 1, false, .slice none 0 0, []⟩]))] σ3 := h6.pick [4, 0, 1, 2, 3] (by decide)
  have h8 := ((H_star (l := [Disk dv D1, Star [I0, Own t_uint8 1 w0 256 (bv (D1.block a))]])).1 h7).pick [1, 0, 2, 3, 4, 5] (by decide)
  have h9 : H [Own t_uint8 1 w0 256 (bv (D1.block a)), I0, Disk dv D1, pt cb (.cells [dv, .int .i64 C.n, .int .u64 (now + 1 : Nat), .map (some mb), rowv2] t_cache_Cache false), Own t_p_cache_item 1 rowv2 R2.length (ptrs R2), Star (itemsL 0 R2), MapA mb (pairs (M1 ++ [⟨ib, a, now + 1, false, .slice none 0 0, []⟩]))] σ3 :=
    ((H_star (l := [I0, Own t_uint8 1 w0 256 (bv (D1.block a))])).1 h8).pick [1, 0, 2, 3, 4, 5, 6] (by decide)
  obtain ⟨wb, wc, rfl, hwc, hro⟩ := own_freeze (by omega) h9
  have h10 := hro 0 256 wc hwc (by omega)
  rw [show (((D1.block a).drop 0).take 256) = D1.block a by rw [List.drop_zero, List.take_of_length_le (by omega)]] at h10
  have hm2 : (⟨ib, a, now + 1, false, .slice none 0 0, []⟩ : Rec) ∈ R2 := hc2.perm.mem_iff.2 (by simp)
  obtain ⟨k, hk, hkx⟩ := List.getElem_of_mem hm2
  have hk' : R2[k]? = some ⟨ib, a, now + 1, false, .slice none 0 0, []⟩ := by rw [List.getElem?_eq_getElem hk, hkx]
  have h11 := item_out (h10.pick [5, 0, 1, 2, 3, 4, 6] (by decide)) hk'
  unfold ItemA at h11
  rw [H_sep] at h11
  refine store1 h11 0 rfl rfl (by simp) ?_
  intro σ4 h12
  let x3 : Rec := ⟨ib, a, now + 1, false, .slice (some ⟨wb, 0, none⟩) 256 wc, D1.block a⟩
  have h13 : H [pt ib (.cells [.int .i64 a, .int .i64 k, .int .u64 (now + 1 : Nat), .bool false, .slice (some ⟨wb, 0, none⟩) 256 wc] t_cache_item false), RoB (.slice (some ⟨wb, 0, none⟩) 256 wc) (D1.block a), Star ((itemsL 0 R2).set k emp), I0, Disk dv D1, pt cb (.cells [dv, .int .i64 C.n, .int .u64 (now + 1 : Nat), .map (some mb), rowv2] t_cache_Cache false), Own t_p_cache_item 1 rowv2 R2.length (ptrs R2), MapA mb (pairs (M1 ++ [⟨ib, a, now + 1, false, .slice none 0 0, []⟩]))] σ4 := h12.pick [0, 3, 2, 4, 5, 6, 7, 8] (by decide)
  rw [← bytesV_rob (by intro e; rw [e] at hbl; simp at hbl)] at h13
  have h14 := item_in (r := x3) hk (H_sep.2 h13)
  have e3 : ptrs (R2.set k x3) = ptrs R2 := ptrs_set hk' rfl
  have e4 : pairs (M1 ++ [x3]) = pairs (M1 ++ [⟨ib, a, now + 1, false, .slice none 0 0, []⟩]) := by simp [pairs, x3]
  have h15 : H (CO cb dv C.n (now + 1) mb rowv2 (R2.set k x3) (M1 ++ [x3]) (Star [Disk dv D1, I0])) σ4 := by
    refine co_disk.2 ?_
    rw [e3, e4, List.length_set]
    exact h14.pick [3, 4, 0, 5, 2, 1] (by decide)
  have hc3 : COk (R2.set k x3) (M1 ++ [x3]) (now + 1) := COk.mod (B := []) hc2 hk' rfl rfl
  have hl4 := hc2.perm.length_eq
  simp only [List.length_append, List.length_cons, List.length_nil] at hl4
  refine get_k12 (A := M1) (B := []) (x := x3) h15 hc3 (by omega) (by simp; omega) hbl ?_
  intro R3 w σ5 hc4 h16
  refine hQ w σ5 ?_
  have h17 : H [CacheA (.pointer (some ⟨cb, 0, none⟩)) dv (K + 2) { C with its := its1 ++ [⟨a, false, D1.block a⟩] }, Star [Disk dv D1, I0], Own t_uint8 1 w 256 (bv (D1.block a))] σ5 := by
    refine cache_in hc4 ?_ (by omega) h16
    simp only [List.map_append, hM1, List.map_cons, List.map_nil, List.append_nil]
    rfl
  exact ((H_star (l := [Disk dv D1, I0])).1 (h17.pick [1, 0, 2] (by decide) : H (Star [Disk dv D1, I0] :: [CacheA (.pointer (some ⟨cb, 0, none⟩)) dv (K + 2) { C with its := its1 ++ [⟨a, false, D1.block a⟩] }, Own t_uint8 1 w 256 (bv (D1.block a))]) σ5)).pick [2, 0, 1, 3] (by decide)
end Go.Ax.O
set_option maxRecDepth 100000
namespace Go.Ax.O
open Go.Proofs Go.RowKit
variable {l m : List Assn} {σ : AHeap} {Q : WK}
theorem put_store {cb nn now mb : Nat} {dv rowv w : Value} {R A : List Rec} {x : Rec} {bs : List UInt8} {I0 : Assn} {K : WK} (h : H (CO cb dv nn now mb rowv R (A ++ [x]) (Star [Own t_uint8 1 w 256 (bv bs), I0])) σ) (hc : COk R (A ++ [x]) now)
    (hQ : ∀ sv R' σ', COk R' (A ++ [{ x with dirty := true, sv := sv, b := bs }]) now → H (CO cb dv nn now mb rowv R' (A ++ [{ x with dirty := true, sv := sv, b := bs }]) (Star [Own t_uint8 1 w 256 (bv bs), I0])) σ' → K (.int .i64 0) σ') :
    E f_bytes_Clone [w] σ fun v37 τ => pu (aStore 1 (.pointer (some ⟨x.ib, 4, none⟩)) v37 τ) fun τ => pu (aStore 1 (.pointer (some ⟨x.ib, 3, none⟩)) (.bool true) τ) fun τ => K (.int .i64 0) τ := by
  have h0 : H [Own t_uint8 1 w 256 (bv bs), I0, pt cb (.cells [dv, .int .i64 nn, .int .u64 now, .map (some mb), rowv] t_cache_Cache false), Own t_p_cache_item 1 rowv R.length (ptrs R), Star (itemsL 0 R), MapA mb (pairs (A ++ [x]))] σ :=
    (H_star (l := [Own t_uint8 1 w 256 (bv bs), I0])).1 (h.pick [4, 0, 1, 2, 3] (by decide))
  obtain ⟨hs, hbl, wa, wc, rfl⟩ := h0.own_src 0 rfl
  simp only [Nat.mul_one, bv_length] at hbl
  refine clone_ok h0 hs (by omega) ?_
  intro c σ1 h1
  obtain ⟨fb, fc, rfl, hfc, hro⟩ := own_freeze (by omega) (h1.pick [6, 0, 1, 2, 3, 4, 5] (by decide))
  have h2 := hro 0 256 fc hfc (by omega)
  rw [show ((bs.drop 0).take 256) = bs by rw [List.drop_zero, List.take_of_length_le (by omega)]] at h2
  have hm : x ∈ R := hc.perm.mem_iff.2 (by simp)
  obtain ⟨k, hk, hkx⟩ := List.getElem_of_mem hm
  have hk' : R[k]? = some x := by rw [List.getElem?_eq_getElem hk, hkx]
  have h3 := item_out (h2.pick [5, 0, 1, 2, 3, 4, 6] (by decide)) hk'
  unfold ItemA at h3
  rw [H_sep] at h3
  refine store1 h3 0 rfl rfl (by simp) ?_
  intro σ2 h4
  refine store1 h4 0 rfl rfl (by simp) ?_
  intro σ3 h5
  let y : Rec := { x with dirty := true, sv := .slice (some ⟨fb, 0, none⟩) 256 fc, b := bs }
  have h6 : H [pt x.ib (.cells [.int .i64 x.pl, .int .i64 k, .int .u64 x.used, .bool true, .slice (some ⟨fb, 0, none⟩) 256 fc] t_cache_item false), RoB (.slice (some ⟨fb, 0, none⟩) 256 fc) bs, Star ((itemsL 0 R).set k emp), Own t_uint8 1 (.slice wa 256 wc) 256 (bv bs), I0, pt cb (.cells [dv, .int .i64 nn, .int .u64 now, .map (some mb), rowv] t_cache_Cache false), Own t_p_cache_item 1 rowv R.length (ptrs R), MapA mb (pairs (A ++ [x]))] σ3 := h5.pick [0, 3, 2, 4, 5, 6, 7, 8] (by decide)
  rw [← bytesV_rob (by intro e; rw [e] at hbl; simp at hbl)] at h6
  have h7 := item_in (r := y) hk (H_sep.2 h6)
  have hc3 : COk (R.set k y) (A ++ [y]) now := COk.mod (B := []) hc hk' rfl rfl
  refine hQ (.slice (some ⟨fb, 0, none⟩) 256 fc) (R.set k y) σ3 hc3 ?_
  have e3 : ptrs (R.set k y) = ptrs R := ptrs_set hk' rfl
  have e4 : pairs (A ++ [y]) = pairs (A ++ [x]) := by simp [pairs, y]
  have h8 := (H_star (l := [Own t_uint8 1 (.slice wa 256 wc) 256 (bv bs), I0])).2 (h7.pick [1, 2, 0, 3, 4, 5] (by decide))
  show H (CO cb dv nn now mb rowv (R.set k y) (A ++ [y]) _) σ3
  unfold CO
  rw [e3, e4, List.length_set]
  exact h8.pick [2, 3, 1, 4, 0] (by decide)
theorem put_hit {v dv w : Value} {K n : Nat} {C : CM} {D : DM} {I0 : Assn} {A B : List It} {it : It} {bs : List UInt8} (h : H [CacheA v dv K C, Disk dv D, Own t_uint8 1 w 256 (bv bs), I0] σ) (hC : C.Ok n) (hits : C.its = A ++ it :: B) (hD : DPlain D n) (hK : K + 1 < 18446744073709551616)
    (hQ : ∀ σ', H [CacheA v dv (K + 1) { C with its := A ++ B ++ [⟨it.pl, true, bs⟩] }, Disk dv D, Own t_uint8 1 w 256 (bv bs), I0] σ' → Q (.int .i64 0) σ') : E f_cache_Cache_Put [v, .int .i64 it.pl, w] σ Q := by
  obtain ⟨cb, mb, now, rowv, R, M, rfl, hc, hM, hnow, h1⟩ := cache_out h
  rw [hits] at hM
  obtain ⟨A', x, B', rfl, hA', hx, hB'⟩ := its_split hM
  obtain ⟨hpl, hxb⟩ := hC.it it (by rw [hits]; simp)
  have hl := hc.perm.length_eq
  have hl2 : (A' ++ x :: B').length = C.its.length := by rw [hits, ← hM, List.length_map]
  have hlen := hC.len
  have hhi := hC.hi
  have e1 : it.pl = x.pl := by rw [← hx]; rfl
  rw [e1] at hpl hQ ⊢
  obtain ⟨hs, hbl, wa, wc, hw⟩ := h.own_src 2 rfl
  have h1 : H (CO cb dv C.n now mb rowv R (A' ++ x :: B') (Star [Disk dv D, Star [Own t_uint8 1 w 256 (bv bs), I0]])) σ := by
    have h2 : H (Star [Disk dv D, Own t_uint8 1 w 256 (bv bs), I0] :: [pt cb (.cells [dv, .int .i64 C.n, .int .u64 now, .map (some mb), rowv] t_cache_Cache false), Own t_p_cache_item 1 rowv R.length (ptrs R), Star (itemsL 0 R), MapA mb (pairs (A' ++ x :: B'))]) σ := h1.pick [4, 0, 1, 2, 3] (by decide)
    refine co_disk.2 ?_
    have h3 := ((H_star (l := [Disk dv D, Own t_uint8 1 w 256 (bv bs), I0])).1 h2).pick [1, 2, 0, 3, 4, 5, 6] (by decide)
    exact ((H_star (l := [Own t_uint8 1 w 256 (bv bs), I0])).2 h3).pick [2, 3, 4, 5, 1, 0] (by decide)
  apply o_cache_Cache_Put_ev; unfold o_cache_Cache_Put
  refine cready_ok h1 hD hpl ?_
  simp only [bin_neq, pu_some, hw, lenS_slice]
  rw [← hw]
  have r3 := load1 (n := 1) (o := 3) (h1.row 0 rfl)
  simp [r3]
  have hlk := lookup_yes (p := (x.pl, x.ib)) false h1 (i := 3) rfl (by simp [pairs])
  simp only at hlk
  rw [hlk]
  simp [okV]
  unfold o_cache_Cache_Put_k10
  refine use_yes h1 hc (by omega) (by omega) ?_
  intro R' σ1 hc1 h2
  have h3 : H (CO cb dv C.n (now + 1) mb rowv R' (A' ++ B' ++ [{ x with used := now + 1 }]) (Star [Own t_uint8 1 w 256 (bv bs), Star [Disk dv D, I0]])) σ1 := by
    have h4 := ((H_star (l := [Own t_uint8 1 w 256 (bv bs), I0])).1 ((co_disk.1 h2).pick [5, 0, 1, 2, 3, 4] (by decide))).pick [6, 1, 0, 2, 3, 4, 5] (by decide)
    have h5 := ((H_star (l := [Disk dv D, I0])).2 h4).pick [1, 0, 2, 3, 4, 5] (by decide)
    exact ((H_star (l := [Own t_uint8 1 w 256 (bv bs), Star [Disk dv D, I0]])).2 h5).pick [1, 2, 3, 4, 0] (by decide)
  simp
  refine put_store (A := A' ++ B') (x := { x with used := now + 1 }) h3 hc1 ?_
  intro sv R2 σ2 hc2 h4
  refine hQ σ2 ?_
  have h5 : H [CacheA (.pointer (some ⟨cb, 0, none⟩)) dv (K + 1) { C with its := A ++ B ++ [⟨x.pl, true, bs⟩] }, Own t_uint8 1 w 256 (bv bs), Star [Disk dv D, I0]] σ2 := by
    refine cache_in hc2 ?_ (by omega) h4
    simp only [List.map_append, hA', hB', List.map_cons, List.map_nil]
    rfl
  exact ((H_star (l := [Disk dv D, I0])).1 (h5.pick [2, 0, 1] (by decide) : H (Star [Disk dv D, I0] :: [CacheA (.pointer (some ⟨cb, 0, none⟩)) dv (K + 1) { C with its := A ++ B ++ [⟨x.pl, true, bs⟩] }, Own t_uint8 1 w 256 (bv bs)]) σ2)).pick [2, 0, 3, 1] (by decide)
theorem put_miss {v dv w : Value} {K n a : Nat} {C : CM} {D : DM} {I0 : Assn} {bs : List UInt8} (h : H [CacheA v dv K C, Disk dv D, Own t_uint8 1 w 256 (bv bs), I0] σ) (hC : C.Ok n) (hno : ∀ x ∈ C.its, x.pl ≠ a) (ha : a < n) (hD : DPlain D n) (hm : D.fly.length < 1099511627000) (hK : K + 1 < 18446744073709551616)
    (hQ : ∀ σ', H [CacheA v dv (K + 1) { C with its := (C.room D).1 ++ [⟨a, true, bs⟩] }, Disk dv (C.room D).2, Own t_uint8 1 w 256 (bv bs), I0] σ' → Q (.int .i64 0) σ') : E f_cache_Cache_Put [v, .int .i64 a, w] σ Q := by
  obtain ⟨cb, mb, now, rowv, R, M, rfl, hc, hM, hnow, h1⟩ := cache_out h
  have hhi := hC.hi
  have hnoM : ∀ p ∈ pairs M, p.1 ≠ a := by
    intro p hp
    obtain ⟨r, hr, rfl⟩ := List.mem_map.1 hp
    exact hno (toIt r) (by rw [← hM]; exact List.mem_map_of_mem hr)
  obtain ⟨hD1, hf1, hl1, hsub, hnd1⟩ := room_plain hC hD
  obtain ⟨hs, hbl, wa, wc, hw⟩ := h.own_src 2 rfl
  have h1 : H (CO cb dv C.n now mb rowv R M (Star [Disk dv D, Star [Own t_uint8 1 w 256 (bv bs), I0]])) σ := by
    have h2 : H (Star [Disk dv D, Own t_uint8 1 w 256 (bv bs), I0] :: [pt cb (.cells [dv, .int .i64 C.n, .int .u64 now, .map (some mb), rowv] t_cache_Cache false), Own t_p_cache_item 1 rowv R.length (ptrs R), Star (itemsL 0 R), MapA mb (pairs M)]) σ := h1.pick [4, 0, 1, 2, 3] (by decide)
    refine co_disk.2 ?_
    have h3 := ((H_star (l := [Disk dv D, Own t_uint8 1 w 256 (bv bs), I0])).1 h2).pick [1, 2, 0, 3, 4, 5, 6] (by decide)
    exact ((H_star (l := [Own t_uint8 1 w 256 (bv bs), I0])).2 h3).pick [2, 3, 4, 5, 1, 0] (by decide)
  apply o_cache_Cache_Put_ev; unfold o_cache_Cache_Put
  refine cready_ok h1 hD ha ?_
  simp only [bin_neq, pu_some, hw, lenS_slice]
  rw [← hw]
  have r3 := load1 (n := 1) (o := 3) (h1.row 0 rfl)
  simp [r3]
  have hlk := lookup_no (a := a) false h1 (i := 3) rfl hnoM
  rw [hlk]
  simp [okV]
  refine room_ok h1 hc hM hC hD (by omega) ?_
  intro rowv1 R1 M1 σ1 hc1 hM1 h2
  simp
  generalize (C.room D).2 = D1 at hD1 hf1 h2 hQ
  generalize (C.room D).1 = its1 at hl1 hsub hnd1 hM1 hQ
  have hl2 := hc1.perm.length_eq
  have hl3 : M1.length = its1.length := by rw [← hM1, List.length_map]
  unfold o_cache_Cache_Put_k10
  refine use_no h2 hc1 ?_ (by omega) (by omega) ?_
  · intro r hr
    exact hno (toIt r) (hsub _ (by rw [← hM1]; exact List.mem_map_of_mem hr))
  intro rowv2 R2 ib σ3 hc2 h6
  have h3 : H (CO cb dv C.n (now + 1) mb rowv2 R2 (M1 ++ [⟨ib, a, now + 1, false, .slice none 0 0, []⟩]) (Star [Own t_uint8 1 w 256 (bv bs), Star [Disk dv D1, I0]])) σ3 := by
    have h4 := ((H_star (l := [Own t_uint8 1 w 256 (bv bs), I0])).1 ((co_disk.1 h6).pick [5, 0, 1, 2, 3, 4] (by decide))).pick [6, 1, 0, 2, 3, 4, 5] (by decide)
    have h5 := ((H_star (l := [Disk dv D1, I0])).2 h4).pick [1, 0, 2, 3, 4, 5] (by decide)
    exact ((H_star (l := [Own t_uint8 1 w 256 (bv bs), Star [Disk dv D1, I0]])).2 h5).pick [1, 2, 3, 4, 0] (by decide)
  simp
  refine put_store (A := M1) (x := ⟨ib, a, now + 1, false, .slice none 0 0, []⟩) h3 hc2 ?_
  intro sv R3 σ4 hc3 h4
  refine hQ σ4 ?_
  have h5 : H [CacheA (.pointer (some ⟨cb, 0, none⟩)) dv (K + 1) { C with its := its1 ++ [⟨a, true, bs⟩] }, Own t_uint8 1 w 256 (bv bs), Star [Disk dv D1, I0]] σ4 := by
    refine cache_in hc3 ?_ (by omega) h4
    simp only [List.map_append, hM1, List.map_cons, List.map_nil]
    rfl
  exact ((H_star (l := [Disk dv D1, I0])).1 (h5.pick [2, 0, 1] (by decide) : H (Star [Disk dv D1, I0] :: [CacheA (.pointer (some ⟨cb, 0, none⟩)) dv (K + 1) { C with its := its1 ++ [⟨a, true, bs⟩] }, Own t_uint8 1 w 256 (bv bs)]) σ4)).pick [2, 0, 3, 1] (by decide)
theorem mkMap_eq (σ : AHeap) : aMakeMap P t_m_int_p_cache_item none σ = some (.map (some σ.size), σ.push (.map [] 0)) := rfl
theorem cnew_ok {dv : Value} {D : DM} {n k : Nat} {I0 : Assn} (h : H [Disk dv D, I0] σ) (hD : D.Ok n) (hk : 1 ≤ k ∧ k ≤ 1024) (hQ : ∀ v σ', H [CacheA v dv 0 ⟨k, []⟩, Disk dv D, I0] σ' → Q (.tuple #[v, .int .i64 0]) σ') : E f_cache_New [dv, .int .i64 k] σ Q := by
  obtain ⟨db, rfl⟩ := disk_ptr h 0 rfl
  have hlen := hD.len
  have hn := hD.lo
  have hn2 := hD.hi
  apply o_cache_New_ev; unfold o_cache_New
  simp
  refine blocks_ok h 0 rfl (by omega) ?_
  have : D.last.length / 256 = n := by omega
  rw [this]
  have hnz : ¬ n = 0 := by omega
  have h1 : ¬ k < 1 := by omega
  have h2 : ¬ 1024 < k := by omega
  unfold o_cache_New_k2 o_cache_New_k4
  have h3 : ¬ (k : Int) < 1 := by omega
  have h4 : ¬ 1024 < (k : Int) := by omega
  simp [hnz, h3, h4, mkMap_eq, splice]
  have hp := h.push (.map [] 0)
  refine new_ok hp ?_
  intro b σ1 h5
  have h6 := h5.own_nil t_p_cache_item 1
  refine hQ _ σ1 ?_
  have hc : COk [] [] 0 := ⟨List.Perm.refl _, List.Pairwise.nil, fun r hr => by simp at hr, fun k h0 hk => by simp at hk, by simp⟩
  refine cache_in (cb := b) (rowv := .slice none 0 0) (mb := σ.size) (now := 0) hc rfl (Nat.le_refl _) ?_
  have h7 : H [MapA σ.size [], pt b (.cells [.pointer (some ⟨db, 0, none⟩), .int .i64 k, .int .u64 0, .map (some σ.size), .slice none 0 0] t_cache_Cache false), Own t_p_cache_item 1 (.slice none 0 0) 0 [], Disk (.pointer (some ⟨db, 0, none⟩)) D, I0] σ1 := by
    refine H_ex.2 ⟨([], 0), ?_⟩
    rw [H_sep]
    refine H_pure.2 ⟨⟨by simp, fun e he => by simp at he, fun e he => by simp at he⟩, ?_⟩
    exact h6.pick [2, 3, 4, 0, 1] (by decide)
  have h8 := (H_star (l := [Disk (.pointer (some ⟨db, 0, none⟩)) D, I0])).2 (h7.emp_end.pick [3, 4, 0, 1, 2, 5] (by decide))
  exact h8.pick [2, 3, 4, 1, 0] (by decide)
end Go.Ax.O
set_option maxRecDepth 100000
namespace Go.Ax.O
theorem over_append (a : Nat) (L : List UInt8) (fs gs : List Flight) : over a L (fs ++ gs) = over a (over a L fs) gs := by simp [over]
theorem over_other {a c : Nat} (h : a ≠ c) (L b : List UInt8) (hb : b.length = 256) : over (a * 256) L (parts c b) = L := by
  simp only [over, parts, List.foldl_cons, List.foldl_nil]
  rw [if_neg (by omega), if_neg (by omega), if_neg (by omega), if_neg (by omega)]
theorem over_same {a : Nat} {L b : List UInt8} (hL : L.length = 256) (hb : b.length = 256) : over (a * 256) L (parts a b) = b := by
  simp only [over, parts, List.foldl_cons, List.foldl_nil]
  rw [if_pos (by omega), if_pos (by omega), if_pos (by omega), if_pos (by omega)]
  rw [show a * 256 - a * 256 = 0 by omega, show a * 256 + 64 - a * 256 = 64 by omega, show a * 256 + 128 - a * 256 = 128 by omega, show a * 256 + 192 - a * 256 = 192 by omega]
  have l0 : ((b.drop 0).take 64).length = 64 := by simp; omega
  have l1 : ((b.drop 64).take 64).length = 64 := by simp; omega
  have l2 : ((b.drop 128).take 64).length = 64 := by simp; omega
  have l3 : ((b.drop 192).take 64).length = 64 := by simp; omega
  have p0 : (put L 0 ((b.drop 0).take 64)).length = 256 := by rw [put_length _ _ _ (by omega), hL]
  have p1 : (put (put L 0 ((b.drop 0).take 64)) 64 ((b.drop 64).take 64)).length = 256 := by rw [put_length _ _ _ (by omega), p0]
  have p2 : (put (put (put L 0 ((b.drop 0).take 64)) 64 ((b.drop 64).take 64)) 128 ((b.drop 128).take 64)).length = 256 := by rw [put_length _ _ _ (by omega), p1]
  apply List.ext_getElem?
  intro i
  rw [put_get _ _ _ (by omega), put_get _ _ _ (by omega), put_get _ _ _ (by omega), put_get _ _ _ (by omega)]
  rw [l0, l1, l2, l3]
  simp only [List.getElem?_take, List.getElem?_drop]
  by_cases h3 : 192 ≤ i ∧ i < 192 + 64
  · rw [if_pos h3, if_pos (by omega)]; congr 1; omega
  · rw [if_neg h3]
    by_cases h2 : 128 ≤ i ∧ i < 128 + 64
    · rw [if_pos h2, if_pos (by omega)]; congr 1; omega
    · rw [if_neg h2]
      by_cases h1 : 64 ≤ i ∧ i < 64 + 64
      · rw [if_pos h1, if_pos (by omega)]; congr 1; omega
      · rw [if_neg h1]
        by_cases h0 : 0 ≤ i ∧ i < 0 + 64
        · rw [if_pos h0, if_pos (by omega)]; congr 1; omega
        · rw [if_neg h0, List.getElem?_eq_none (by omega), List.getElem?_eq_none (by omega)]
theorem block_fling {D : DM} {n a c : Nat} {b : List UInt8} (hD : D.Ok n) (ha : a < n) (hb : b.length = 256) : (D.fling c b).block a = if a = c then b else D.block a := by
  have h1 : (D.fling c b).block a = over (a * 256) (D.block a) (parts c b) := by
    unfold DM.block DM.fling
    simp only [over_append]
  rw [h1]
  split
  · rename_i e; subst e
    exact over_same (block_len hD ha) hb
  · rename_i e
    exact over_other e _ _ hb
end Go.Ax.O
set_option maxRecDepth 100000
namespace Go.Ax.C
open Go.Proofs Go.RowKit
open O (CacheA Disk It DPlain)
instance (v dv : Value) (K : Nat) (C : O.CM) (l : List Assn) : AtV (CacheA v dv K C :: l) v (CacheA v dv K C) l := ⟨.refl _⟩
instance (v : Value) (D : DM) (l : List Assn) : AtV (Disk v D :: l) v (Disk v D) l := ⟨.refl _⟩
variable {l r r2 : List Assn} {σ : AHeap} {Q : RK}
def content (C : O.CM) (D : DM) (a : Nat) : List UInt8 :=
  match C.its.find? fun x => x.pl == a with
  | some x => x.b
  | none => D.block a
structure CInv (C : O.CM) (D : DM) (n : Nat) : Prop where
  ok : C.Ok n
  dp : DPlain D n
  cl : ∀ x ∈ C.its, x.dirty = false → D.block x.pl = x.b
theorem content_mem {C : O.CM} {D : DM} {n : Nat} (h : C.Ok n) {x : It} (hx : x ∈ C.its) : content C D x.pl = x.b := by
  unfold content
  have hnd := h.nd
  obtain ⟨A, B, e⟩ := List.append_of_mem hx
  rw [e] at hnd ⊢
  simp only [List.map_append, List.map_cons, List.nodup_append] at hnd
  have hA : ∀ y ∈ A, ¬ (y.pl == x.pl) = true := fun y hy he => by
    have := hnd.2.2 y.pl (List.mem_map_of_mem hy) x.pl (by simp)
    simp at he; exact this he
  rw [List.find?_append, List.find?_eq_none.2 hA]
  simp
theorem content_no {C : O.CM} {D : DM} {a : Nat} (h : ∀ x ∈ C.its, x.pl ≠ a) : content C D a = D.block a := by
  unfold content
  rw [List.find?_eq_none.2 fun x hx => by simpa using h x hx]
theorem content_len {C : O.CM} {D : DM} {n a : Nat} (h : CInv C D n) (ha : a < n) : (content C D a).length = 256 := by
  by_cases hx : ∃ x ∈ C.its, x.pl = a
  · obtain ⟨x, hx, rfl⟩ := hx
    rw [content_mem h.ok hx]; exact (h.ok.it x hx).2
  · rw [content_no fun x hx' e => hx ⟨x, hx', e⟩]; exact O.block_len h.dp.ok ha
theorem cacheA_le {v dv : Value} {K K' : Nat} {C : O.CM} {m : List Assn} (hk : K ≤ K') (h : H (CacheA v dv K C :: m) σ) : H (CacheA v dv K' C :: m) σ := by
  obtain ⟨cb, mb, now, rowv, R, M, rfl, h2, h3, h4, h5⟩ := O.cache_out h
  exact O.cache_in h2 h3 (Nat.le_trans h4 hk) h5
theorem H_two {A B : Assn} : H (A :: B :: l) σ ↔ H [A, B, Star l] σ := by
  constructor
  · intro h
    exact (H_star.2 (h.perm (List.perm_append_comm (l₁ := [A, B]) (l₂ := l)))).perm (by
      exact (List.Perm.swap _ _ _).trans ((List.Perm.swap _ _ _).cons _))
  · intro h
    have h1 : H (Star l :: [A, B]) σ := h.perm ((List.perm_append_comm (l₁ := [A, B]) (l₂ := [Star l])))
    exact (H_star.1 h1).perm List.perm_append_comm
theorem H_thr {A B X : Assn} : H (A :: B :: X :: l) σ ↔ H [A, B, X, Star l] σ := by
  constructor
  · intro h
    have h1 := h.perm (List.perm_append_comm (l₁ := [A, B, X]) (l₂ := l))
    exact (H_star.2 h1).perm (List.perm_append_comm (l₁ := [Star l]) (l₂ := [A, B, X]))
  · intro h
    have h1 : H (Star l :: [A, B, X]) σ := h.perm ((List.perm_append_comm (l₁ := [A, B, X]) (l₂ := [Star l])))
    exact (H_star.1 h1).perm List.perm_append_comm
theorem room_inv {C : O.CM} {D : DM} {n : Nat} (h : CInv C D n) : CInv { C with its := (C.room D).1 } (C.room D).2 n ∧ (∀ a < n, content { C with its := (C.room D).1 } (C.room D).2 a = content C D a) ∧ (C.room D).2.fly.length ≤ D.fly.length + 4 ∧ (C.room D).1.length < C.n := by
  obtain ⟨h1, h2, h3, h4, h5⟩ := O.room_plain h.ok h.dp
  have hok : ({ C with its := (C.room D).1 } : O.CM).Ok n := ⟨h.ok.lo, h.ok.hi, by simp; omega, fun x hx => h.ok.it x (h4 x hx), h5⟩
  unfold O.CM.room at h1 h2 h3 h4 h5 hok ⊢
  by_cases hlt : C.its.length < C.n
  · simp only [if_pos hlt] at h1 h2 h3 h4 h5 hok ⊢
    exact ⟨h, by intros; trivial, by omega, hlt⟩
  · simp only [if_neg hlt] at h1 h2 h3 h4 h5 hok ⊢
    cases e : C.its with
    | nil =>
      rw [e] at h1 h2 h3 h4 h5 hok
      refine ⟨⟨hok, h.dp, fun x hx => by simp at hx⟩, fun a ha => ?_, by simp, h3⟩
      rw [content_no (by simp), content_no (by simp [e])]
    | cons x t =>
      rw [e] at h1 h2 h3 h4 h5 hok
      simp only at h1 h2 h3 h4 h5 hok ⊢
      have hx := h.ok.it x (by simp [e])
      have hnd := h.ok.nd
      rw [e] at hnd
      simp only [List.map_cons, List.nodup_cons] at hnd
      have hbl : ∀ a < n, (O.wroteI D x).block a = if a = x.pl then x.b else D.block a := by
        intro a ha
        unfold O.wroteI
        cases hd : x.dirty with
        | true => simp only [if_true]; exact O.block_fling h.dp.ok ha hx.2
        | false =>
          simp only [Bool.false_eq_true, if_false]
          split
          · rename_i e2; subst e2; exact h.cl x (by simp [e]) hd
          · rfl
      have hcl : ∀ y ∈ t, y.dirty = false → (O.wroteI D x).block y.pl = y.b := fun y hy hd => by
        have hyl := (h.ok.it y (by simp [e, hy])).1
        rw [hbl _ hyl, if_neg (fun e2 => hnd.1 (by rw [← e2]; exact List.mem_map_of_mem hy))]
        exact h.cl y (by simp [e, hy]) hd
      refine ⟨⟨hok, h1, hcl⟩, fun a ha => ?_, h2, h3⟩
      by_cases hm : ∃ y ∈ t, y.pl = a
      · obtain ⟨y, hy, rfl⟩ := hm
        rw [content_mem hok hy, content_mem h.ok (x := y) (by simp [e, hy])]
      · have hno : ∀ y ∈ t, y.pl ≠ a := fun y hy e2 => hm ⟨y, hy, e2⟩
        rw [content_no hno, hbl a ha]
        by_cases hax : a = x.pl
        · subst hax; rw [if_pos rfl, content_mem h.ok (x := x) (by simp [e])]
        · rw [if_neg hax, content_no (C := C)]
          intro y hy
          rw [e] at hy
          rcases List.mem_cons.1 hy with rfl | hy
          · exact fun e2 => hax e2.symm
          · exact hno y hy
theorem cget {v dv : Value} {K n a : Nat} {C : O.CM} {D : DM} (h : H l σ) [k1 : AtV l v (CacheA v dv K C) r] [k2 : AtV r dv (Disk dv D) r2] (hI : CInv C D n) (ha : a < n) (hm : D.fly.length < 1099511627000) (hK : K + 2 < 18446744073709551616)
    (hQ : ∀ w σ' C' D', CInv C' D' n → C'.n = C.n → (∀ x < n, content C' D' x = content C D x) → D'.fly.length ≤ D.fly.length + 4 → (∀ y ∈ C'.its, y.dirty = true → y ∈ C.its) → (C.its.length < C.n ∨ (∃ y ∈ C.its, y.pl = a) → D' = D ∧ ∀ y ∈ C.its, y ∈ C'.its) →
      H (Own t_uint8 1 w 256 (bv (content C D a)) :: CacheA v dv (K + 2) C' :: Disk dv D' :: r2) σ' → Q (.ret (.tuple #[w, .int .i64 0])) σ') : E f_cache_Cache_Get [v, .int .i64 a] σ Q := by
  have h1 := H_two.1 ((h.atv v).perm (k2.perm.cons _))
  refine O.up ?_
  by_cases hin : ∃ it ∈ C.its, it.pl = a
  · obtain ⟨it, hit, hpl⟩ := hin
    obtain ⟨A, B, hits⟩ := List.append_of_mem hit
    subst hpl
    refine O.get_hit h1 hI.ok hits hI.dp (by omega) ?_
    intro w σ' h2
    have hpm : (A ++ B ++ [it]).Perm C.its := by
      rw [hits, List.append_assoc]
      exact List.Perm.append_left A (by simp)
    have hok : ({ C with its := A ++ B ++ [it] } : O.CM).Ok n := ⟨hI.ok.lo, hI.ok.hi, by have := hpm.length_eq; have := hI.ok.len; simp only; omega, fun x hx => hI.ok.it x (hpm.mem_iff.1 hx), ((hpm.map _).nodup_iff).2 hI.ok.nd⟩
    refine hQ w σ' { C with its := A ++ B ++ [it] } D ⟨hok, hI.dp, fun x hx => hI.cl x (hpm.mem_iff.1 hx)⟩ rfl (fun x hx => ?_) (by omega) (fun y hy _ => hpm.mem_iff.1 hy) (fun _ => ⟨rfl, fun y hy => hpm.mem_iff.2 hy⟩) ?_
    · by_cases hm : ∃ y ∈ C.its, y.pl = x
      · obtain ⟨y, hy, rfl⟩ := hm
        rw [content_mem hok (hpm.mem_iff.2 hy), content_mem hI.ok hy]
      · have hno : ∀ y ∈ C.its, y.pl ≠ x := fun y hy e => hm ⟨y, hy, e⟩
        rw [content_no hno, content_no fun y hy => hno y (hpm.mem_iff.1 hy)]
    · rw [content_mem hI.ok hit]
      have h3 : H [Own t_uint8 1 w 256 (bv it.b), CacheA v dv (K + 1) { C with its := A ++ B ++ [it] }, Disk dv D, Star r2] σ' := h2.pick [3, 0, 1, 2] (by decide)
      have h4 := H_thr.2 h3
      exact ((cacheA_le (by omega) (h4.perm (List.Perm.swap _ _ _))).perm (List.Perm.swap _ _ _))
  · have hno : ∀ x ∈ C.its, x.pl ≠ a := fun x hx e => hin ⟨x, hx, e⟩
    obtain ⟨hR, hRc, hRf, hRl⟩ := room_inv hI
    refine O.get_miss h1 hI.ok hno ha hI.dp hm hK ?_
    intro w σ' h2
    obtain ⟨_, _, _, hsub, _⟩ := O.room_plain hI.ok hI.dp
    have hroom : C.its.length < C.n → C.room D = (C.its, D) := fun hl => by unfold O.CM.room; rw [if_pos hl]
    generalize hits : (C.room D).1 = its at hR hRc hRl hsub h2
    generalize hDD : (C.room D).2 = D' at hR hRc hRf h2
    have hno' : ∀ x ∈ its, x.pl ≠ a := fun x hx => hno x (hsub x hx)
    have hbl : D'.block a = content C D a := by rw [← hRc a ha, content_no hno']
    have hok : ({ C with its := its ++ [⟨a, false, D'.block a⟩] } : O.CM).Ok n := by
      refine ⟨hI.ok.lo, hI.ok.hi, by simp; omega, fun x hx => ?_, ?_⟩
      · rcases List.mem_append.1 hx with hx | hx
        · exact hR.ok.it x hx
        · simp at hx; subst hx; exact ⟨ha, O.block_len hR.dp.ok ha⟩
      · simp only [List.map_append, List.map_cons, List.map_nil]
        rw [List.nodup_append]
        refine ⟨hR.ok.nd, by simp, ?_⟩
        intro x hx y hy
        simp at hy; subst hy
        obtain ⟨z, hz, rfl⟩ := List.mem_map.1 hx
        exact hno' z hz
    refine hQ w σ' _ D' ⟨hok, hR.dp, fun x hx hd => ?_⟩ rfl (fun x hx => ?_) hRf (fun y hy hd => ?_) (fun hl => ?_) ?_
    · rcases List.mem_append.1 hx with hx | hx
      · exact hR.cl x hx hd
      · simp at hx; subst hx; rfl
    · rw [← hRc x hx]
      by_cases hm : ∃ y ∈ its, y.pl = x
      · obtain ⟨y, hy, rfl⟩ := hm
        rw [content_mem hok (x := y) (by simp [hy]), content_mem hR.ok hy]
      · have hn2 : ∀ y ∈ its, y.pl ≠ x := fun y hy e => hm ⟨y, hy, e⟩
        by_cases hxa : x = a
        · subst hxa
          rw [content_no (C := { C with its := its }) hn2]
          exact content_mem hok (x := ⟨x, false, D'.block x⟩) (by simp)
        · rw [content_no (C := { C with its := its }) hn2, content_no]
          intro y hy
          rcases List.mem_append.1 hy with hy | hy
          · exact hn2 y hy
          · simp at hy; subst hy; exact fun e => hxa e.symm
    · rcases List.mem_append.1 hy with hy | hy
      · exact hsub y hy
      · simp at hy; subst hy; simp at hd
    · have := hroom (hl.resolve_right fun ⟨y, hy, e⟩ => hno y hy e)
      rw [this] at hits hDD
      exact ⟨hDD.symm, fun y hy => by rw [← hits]; simp [hy]⟩
    · rw [← hbl]
      have h3 : H [Own t_uint8 1 w 256 (bv (D'.block a)), CacheA v dv (K + 2) { C with its := its ++ [⟨a, false, D'.block a⟩] }, Disk dv D', Star r2] σ' := h2.pick [3, 0, 1, 2] (by decide)
      exact H_thr.2 h3
theorem cput {v dv w : Value} {K n a : Nat} {C : O.CM} {D : DM} {r3 : List Assn} {bs : List UInt8} (h : H l σ) [k1 : AtV l v (CacheA v dv K C) r] [k2 : AtV r dv (Disk dv D) r2] [k3 : AtV r2 w (Own t_uint8 1 w 256 (bv bs)) r3] (hI : CInv C D n) (ha : a < n) (hb : bs.length = 256) (hm : D.fly.length < 1099511627000) (hK : K + 2 < 18446744073709551616)
    (hQ : ∀ σ' C' D', CInv C' D' n → C'.n = C.n → (∀ x < n, content C' D' x = if x = a then bs else content C D x) → D'.fly.length ≤ D.fly.length + 4 → (∀ y ∈ C'.its, y.dirty = true → y.pl = a ∨ y ∈ C.its) → (∃ y ∈ C'.its, y.pl = a ∧ y.dirty = true) → (C.its.length < C.n ∨ (∃ y ∈ C.its, y.pl = a) → D' = D ∧ ∀ y ∈ C.its, y.pl ≠ a → y ∈ C'.its) →
      H (Own t_uint8 1 w 256 (bv bs) :: CacheA v dv (K + 2) C' :: Disk dv D' :: r3) σ' → Q (.ret (.int .i64 0)) σ') : E f_cache_Cache_Put [v, .int .i64 a, w] σ Q := by
  have h1 := H_thr.1 (((h.atv v).perm (k2.perm.cons _)).perm ((k3.perm.cons _).cons _))
  refine O.up ?_
  -- what both ways share
  have go : ∀ (its : List It) (D' : DM) (σ' : AHeap) (K' : Nat), K' ≤ K + 2 → CInv { C with its := its } D' n → its.length < C.n → (∀ x ∈ its, x.pl ≠ a) → (∀ x ∈ its, x ∈ C.its) → (∀ x < n, x ≠ a → content { C with its := its } D' x = content C D x) → D'.fly.length ≤ D.fly.length + 4 →
      (C.its.length < C.n ∨ (∃ y ∈ C.its, y.pl = a) → D' = D ∧ ∀ y ∈ C.its, y.pl ≠ a → y ∈ its) →
      H [CacheA v dv K' { C with its := its ++ [⟨a, true, bs⟩] }, Disk dv D', Own t_uint8 1 w 256 (bv bs), Star r3] σ' → Q (.ret (.int .i64 0)) σ' := by
    intro its D' σ' K' hK' hR hl hno hsub hcon hf hst h2
    have hok : ({ C with its := its ++ [⟨a, true, bs⟩] } : O.CM).Ok n := by
      refine ⟨hI.ok.lo, hI.ok.hi, by simp; omega, fun x hx => ?_, ?_⟩
      · rcases List.mem_append.1 hx with hx | hx
        · exact hR.ok.it x hx
        · simp at hx; subst hx; exact ⟨ha, hb⟩
      · simp only [List.map_append, List.map_cons, List.map_nil]
        rw [List.nodup_append]
        refine ⟨hR.ok.nd, by simp, ?_⟩
        intro x hx y hy
        simp at hy; subst hy
        obtain ⟨z, hz, rfl⟩ := List.mem_map.1 hx
        exact hno z hz
    refine hQ σ' _ D' ⟨hok, hR.dp, fun x hx hd => ?_⟩ rfl (fun x hx => ?_) hf (fun y hy hd => ?_) ⟨⟨a, true, bs⟩, by simp, rfl, rfl⟩ (fun hh => ⟨(hst hh).1, fun y hy hya => List.mem_append_left _ ((hst hh).2 y hy hya)⟩) ?_
    · rcases List.mem_append.1 hx with hx | hx
      · exact hR.cl x hx hd
      · simp at hx; subst hx; cases hd
    · by_cases hxa : x = a
      · subst hxa
        rw [if_pos rfl]
        exact content_mem hok (x := ⟨x, true, bs⟩) (by simp)
      · rw [if_neg hxa, ← hcon x hx hxa]
        by_cases hm : ∃ y ∈ its, y.pl = x
        · obtain ⟨y, hy, rfl⟩ := hm
          rw [content_mem hok (x := y) (by simp [hy]), content_mem hR.ok hy]
        · have hn2 : ∀ y ∈ its, y.pl ≠ x := fun y hy e => hm ⟨y, hy, e⟩
          rw [content_no (C := { C with its := its }) hn2, content_no]
          intro y hy
          rcases List.mem_append.1 hy with hy | hy
          · exact hn2 y hy
          · simp at hy; subst hy; exact fun e => hxa e.symm
    · rcases List.mem_append.1 hy with hy | hy
      · exact .inr (hsub y hy)
      · simp at hy; subst hy; exact .inl rfl
    · have h3 : H [Own t_uint8 1 w 256 (bv bs), CacheA v dv K' { C with its := its ++ [⟨a, true, bs⟩] }, Disk dv D', Star r3] σ' := h2.pick [2, 0, 1, 3] (by decide)
      have h4 := H_thr.2 h3
      exact ((cacheA_le hK' (h4.perm (List.Perm.swap _ _ _))).perm (List.Perm.swap _ _ _))
  by_cases hin : ∃ it ∈ C.its, it.pl = a
  · obtain ⟨it, hit, hpl⟩ := hin
    obtain ⟨A, B, hits⟩ := List.append_of_mem hit
    subst hpl
    refine O.put_hit h1 hI.ok hits hI.dp (by omega) ?_
    intro σ' h2
    have hnd := hI.ok.nd
    rw [hits] at hnd
    simp only [List.map_append, List.map_cons, List.nodup_append, List.nodup_cons] at hnd
    have hno : ∀ x ∈ A ++ B, x.pl ≠ it.pl := by
      intro x hx
      rcases List.mem_append.1 hx with hx | hx
      · exact fun e => hnd.2.2 x.pl (List.mem_map_of_mem hx) it.pl (by simp) e
      · exact fun e => hnd.2.1.1 (by rw [← e]; exact List.mem_map_of_mem hx)
    have hsub : ∀ x ∈ A ++ B, x ∈ C.its := fun x hx => by rw [hits]; simp only [List.mem_append, List.mem_cons] at hx ⊢; exact hx.elim .inl fun h => .inr (.inr h)
    have hlen : (A ++ B).length + 1 = C.its.length := by rw [hits]; simp; omega
    have hok : ({ C with its := A ++ B } : O.CM).Ok n := ⟨hI.ok.lo, hI.ok.hi, by have := hI.ok.len; simp only; omega, fun x hx => hI.ok.it x (hsub x hx), by
      simp only [List.map_append]
      rw [List.nodup_append]
      exact ⟨hnd.1, hnd.2.1.2, fun x hx y hy => hnd.2.2 x hx y (by simp [hy])⟩⟩
    refine go (A ++ B) D σ' (K + 1) (by omega) ⟨hok, hI.dp, fun x hx => hI.cl x (hsub x hx)⟩ (by have := hI.ok.len; omega) hno hsub (fun x hx hxa => ?_) (by omega) (fun _ => ⟨rfl, fun y hy hya => ?_⟩) h2
    · by_cases hm : ∃ y ∈ A ++ B, y.pl = x
      · obtain ⟨y, hy, rfl⟩ := hm
        rw [content_mem hok hy, content_mem hI.ok (hsub y hy)]
      · have hn2 : ∀ y ∈ A ++ B, y.pl ≠ x := fun y hy e => hm ⟨y, hy, e⟩
        rw [content_no (C := { C with its := A ++ B }) hn2, content_no]
        intro y hy
        rw [hits] at hy
        simp only [List.mem_append, List.mem_cons] at hy
        rcases hy with hy | rfl | hy
        · exact hn2 y (by simp [hy])
        · exact fun e => hxa e.symm
        · exact hn2 y (by simp [hy])
    · rw [hits] at hy
      simp only [List.mem_append, List.mem_cons] at hy ⊢
      rcases hy with hy | rfl | hy
      · exact .inl hy
      · exact absurd rfl hya
      · exact .inr hy
  · have hno : ∀ x ∈ C.its, x.pl ≠ a := fun x hx e => hin ⟨x, hx, e⟩
    obtain ⟨hR, hRc, hRf, hRl⟩ := room_inv hI
    refine O.put_miss h1 hI.ok hno ha hI.dp hm (by omega) ?_
    intro σ' h2
    obtain ⟨_, _, _, hsub, _⟩ := O.room_plain hI.ok hI.dp
    refine go (C.room D).1 (C.room D).2 σ' (K + 1) (by omega) hR hRl (fun x hx => hno x (hsub x hx)) hsub (fun x hx _ => hRc x hx) hRf (fun hh => ?_) h2
    rcases hh with hl | ⟨y, hy, e⟩
    · unfold O.CM.room; rw [if_pos hl]; exact ⟨rfl, fun y hy _ => hy⟩
    · exact absurd e (hno y hy)
end Go.Ax.C
