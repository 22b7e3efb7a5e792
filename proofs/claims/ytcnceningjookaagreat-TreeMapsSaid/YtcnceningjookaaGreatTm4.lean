/- Texts of one proof,joined. No statement of the seat is proved here. -/
import Derived.Test.YtcnceningjookaaGreatTm3
set_option linter.unusedVariables false
set_option linter.unusedSimpArgs false
set_option linter.unnecessarySimpa false
set_option linter.constructorNameAsVariable false
set_option linter.unusedVariables false
set_option maxRecDepth 100000
namespace Go.Ax.O
open Go.Proofs
def RC (Q:WK) (x0:Value) (σ:AHeap):Prop :=
 pu (BF (some (.slice AL)) .eql x0 (.slice none 0 0)) fun v4_3 =>
 wC v4_3 (
 Q (.slice none 0 0) σ) (
 pu (BZ AL 1 1 (.slice (some ⟨ZB,0,some 0⟩) 0 0) x0 σ) fun r7_8 =>
 Q r7_8.1 r7_8.2)
theorem cJ (Q:WK) (x0:Value) (σ:AHeap):Y4 P C.E Tryz.f99 (fun _=>none) [x0] σ (RQ Q)=RC Q x0 σ:=by kernel_rfl
theorem bR {Q:WK} {x0:Value} {σ:AHeap} (h:RC Q x0 σ):E C5 [x0] σ Q:=NF Tryz.func99 _ (by kernel_rfl) (Eq.mpr (cJ Q x0 σ) h)
def FQ (Q:WK) (p0_57 p1_58:Value) (τ_56:AHeap):Prop :=
 E EM [p0_57,p1_58] τ_56 fun v48_59 τ_60 =>
 pu (B5 v48_59) fun v49_61 =>
 pu (AA 4 v49_61) fun v50_62 =>
 pu (AF false 1 v50_62 τ_60) fun v51_63 =>
 E C5 [v51_63] τ_60 fun v52_64 τ_65 =>
 Q (.tuple #[v52_64,(.int .i64 0)]) τ_65
def IG (Q:WK) (x0 x1:Value) (σ:AHeap):Prop :=
 E EW [x0,x1] σ fun v12_4 τ_5 =>
 pu (BF (some (.int .i64)) .neq v12_4 (.int .i64 0)) fun v14_8 =>
 wC v14_8 (
 Q (.tuple #[(.slice none 0 0),v12_4]) τ_5) (
 pu (B5 x0) fun v17_14 =>
 pu (AA 3 v17_14) fun v18_15 =>
 pu (AF false 1 v18_15 τ_5) fun v19_16 =>
 pu (EL P BD v19_16 x1 false τ_5) fun v21_18 =>
 pu (BF (some (.pointer EC)) .eql v21_18 (.pointer none)) fun v22_19 =>
 wC v22_19 (
 E EA [x0] τ_5 fun v24_23 τ_24 =>
 pu (BF (some (.int .i64)) .neq v24_23 (.int .i64 0)) fun v26_27 =>
 wC v26_27 (
 Q (.tuple #[(.slice none 0 0),v24_23]) τ_24) (
 pu (B5 x0) fun v30_33 =>
 pu (AA 0 v30_33) fun v31_34 =>
 pu (AF false 1 v31_34 τ_24) fun v32_35 =>
 E ML [v32_35,x1] τ_24 fun v34_37 τ_38 =>
 pu (CY v34_37 0) fun v35_39 =>
 pu (CY v34_37 1) fun v36_40 =>
 pu (BF (some (.int .i64)) .neq v36_40 (.int .i64 0)) fun v38_43 =>
 wC v38_43 (
 Q (.tuple #[(.slice none 0 0),v36_40]) τ_38) (
 E EM [x0,x1] τ_38 fun v42_50 τ_51 =>
 pu (B5 v42_50) fun v44_53 =>
 pu (AA 4 v44_53) fun v45_54 =>
 pu (AP 1 v45_54 v35_39 τ_51) fun τ_55 =>
 (FQ Q x0 x1 τ_55)))) (
 (FQ Q x0 x1 τ_5)))
theorem U5 (Q:WK) (x0 x1:Value) (σ:AHeap):Y4 P C.E Tryz.f66 (fun _=>none) [x0,x1] σ (RQ Q)=IG Q x0 x1 σ:=by kernel_rfl
theorem NM {Q:WK} {x0 x1:Value} {σ:AHeap} (h:IG Q x0 x1 σ):E F2 [x0,x1] σ Q:=NF Tryz.func66 _ (by kernel_rfl) (Eq.mpr (U5 Q x0 x1 σ) h)
def FP (Q:WK) (p0_38 p1_39 p2_54:Value) (τ_37:AHeap):Prop :=
 E EM [p0_38,p1_39] τ_37 fun v33_40 τ_41 =>
 E C5 [p2_54] τ_41 fun v37_45 τ_46 =>
 pu (B5 v33_40) fun v38_47 =>
 pu (AA 4 v38_47) fun v39_48 =>
 pu (AP 1 v39_48 v37_45 τ_46) fun τ_49 =>
 pu (B5 v33_40) fun v40_50 =>
 pu (AA 3 v40_50) fun v41_51 =>
 pu (AP 1 v41_51 (.bool true) τ_49) fun τ_52 =>
 Q (.int .i64 0) τ_52
def F1 (Q:WK) (x0 x1 x2:Value) (σ:AHeap):Prop :=
 E EW [x0,x1] σ fun v12_4 τ_5 =>
 pu (BF (some (.int .i64)) .neq v12_4 (.int .i64 0)) fun v14_8 =>
 wC v14_8 (
 Q v12_4 τ_5) (
 pu (BH x2) fun v17_14 =>
 pu (BF (some (.int .i64)) .neq v17_14 (.int .i64 256)) fun v18_15 =>
 wC v18_15 (
 Q (.int .i64 1) τ_5) (
 pu (B5 x0) fun v20_20 =>
 pu (AA 3 v20_20) fun v21_21 =>
 pu (AF false 1 v21_21 τ_5) fun v22_22 =>
 pu (EL P BD v22_22 x1 false τ_5) fun v24_24 =>
 pu (BF (some (.pointer EC)) .eql v24_24 (.pointer none)) fun v25_25 =>
 wC v25_25 (
 E EA [x0] τ_5 fun v27_29 τ_30 =>
 pu (BF (some (.int .i64)) .neq v27_29 (.int .i64 0)) fun v29_33 =>
 wC v29_33 (
 Q v27_29 τ_30) (
 (FP Q x0 x1 x2 τ_30))) (
 (FP Q x0 x1 x2 τ_5))))
theorem VM (Q:WK) (x0 x1 x2:Value) (σ:AHeap):Y4 P C.E Tryz.f62 (fun _=>none) [x0,x1,x2] σ (RQ Q)=F1 Q x0 x1 x2 σ:=by kernel_rfl
theorem IP {Q:WK} {x0 x1 x2:Value} {σ:AHeap} (h:F1 Q x0 x1 x2 σ):E ER [x0,x1,x2] σ Q:=NF Tryz.func62 _ (by kernel_rfl) (Eq.mpr (VM Q x0 x1 x2 σ) h)
def DU (Q:WK) (p21_19:Value) (τ_18:AHeap):Prop :=
 wC p21_19 (
 Q (.int .i64 6) τ_18) (
 Q (.int .i64 0) τ_18)
def DL (Q:WK) (p5_6 p0_7 p1_30:Value) (τ_5:AHeap):Prop :=
 wC p5_6 (
 Q (.int .i64 2) τ_5) (
 pu (B5 p0_7) fun v17_8 =>
 pu (AA 0 v17_8) fun v18_9 =>
 pu (AF false 1 v18_9 τ_5) fun v19_10 =>
 E OC [v19_10] τ_5 fun v20_11 τ_12 =>
 wC v20_11 (
 Q (.int .i64 9) τ_12) (
 pu (BF (some (.int .i64)) .lss p1_30 (.int .i64 0)) fun v23_16 =>
 wG v23_16 (
 (DU Q (.bool true) τ_12)) (
 pu (B5 p0_7) fun v27_22 =>
 pu (AA 0 v27_22) fun v28_23 =>
 pu (AF false 1 v28_23 τ_12) fun v29_24 =>
 E FM [v29_24] τ_12 fun v30_25 τ_26 =>
 pu (BF (some (.int .i64)) .geq p1_30 v30_25) fun v31_27 =>
 (DU Q v31_27 τ_26)) (
 wB v23_16 fun b_29 =>
 (DU Q (cond b_29 (.bool true) C7) τ_12))))
def GU (Q:WK) (x0 x1:Value) (σ:AHeap):Prop :=
 pu (BF (some (.pointer AZ)) .eql x0 (.pointer none)) fun v7_3 =>
 wG v7_3 (
 (DL Q (.bool true) x0 x1 σ)) (
 pu (B5 x0) fun v10_32 =>
 pu (AA 0 v10_32) fun v11_33 =>
 pu (AF false 1 v11_33 σ) fun v12_34 =>
 pu (BF (some (.pointer E8)) .eql v12_34 (.pointer none)) fun v13_35 =>
 (DL Q v13_35 x0 x1 σ)) (
 wB v7_3 fun b_37 =>
 (DL Q (cond b_37 (.bool true) C7) x0 x1 σ))
theorem ST (Q:WK) (x0 x1:Value) (σ:AHeap):Y4 P C.E Tryz.f120 (fun _=>none) [x0,x1] σ (RQ Q)=GU Q x0 x1 σ:=by kernel_rfl
theorem LJ {Q:WK} {x0 x1:Value} {σ:AHeap} (h:GU Q x0 x1 σ):E EW [x0,x1] σ Q:=NF Tryz.func120 _ (by kernel_rfl) (Eq.mpr (ST Q x0 x1 σ) h)
def HK (Q:WK) (x0:Value) (σ:AHeap):Prop :=
 pu (B5 x0) fun v6_3 =>
 pu (AA 4 v6_3) fun v7_4 =>
 pu (AF false 1 v7_4 σ) fun v8_5 =>
 pu (BH v8_5) fun v9_6 =>
 pu (B5 x0) fun v11_7 =>
 pu (AA 1 v11_7) fun v12_8 =>
 pu (AF false 1 v12_8 σ) fun v13_9 =>
 pu (BF (some (.int .i64)) .lss v9_6 v13_9) fun v14_10 =>
 wC v14_10 (
 Q (.int .i64 0) σ) (
 pu (B5 x0) fun v17_15 =>
 pu (AA 4 v17_15) fun v18_16 =>
 pu (AF false 1 v18_16 σ) fun v19_17 =>
 pu (AE 1 v19_17 (.int .i64 0)) fun v20_18 =>
 pu (AF false 1 v20_18 σ) fun v21_19 =>
 E JI [x0,v21_19] σ fun v22_20 τ_21 =>
 pu (BF (some (.int .i64)) .neq v22_20 (.int .i64 0)) fun v24_24 =>
 wC v24_24 (
 Q v22_20 τ_21) (
 pu (B5 x0) fun v27_30 =>
 pu (AA 4 v27_30) fun v28_31 =>
 pu (KT P BG v28_31) fun v29_32 =>
 E MM [v29_32] τ_21 fun v30_33 τ_34 =>
 pu (H8 P AN false v30_33) fun v31_35 =>
 pu (B5 x0) fun v33_38 =>
 pu (AA 3 v33_38) fun v34_39 =>
 pu (AF false 1 v34_39 τ_34) fun v35_40 =>
 pu (B5 v31_35) fun v37_42 =>
 pu (AA 0 v37_42) fun v38_43 =>
 pu (AF false 1 v38_43 τ_34) fun v39_44 =>
 pu (M8 P BD v35_40 v39_44 τ_34) fun τ_45 =>
 Q (.int .i64 0) τ_45))
theorem T0 (Q:WK) (x0:Value) (σ:AHeap):Y4 P C.E Tryz.f121 (hl [(0,.ord [(0,[]),(1,[]),(2,[]),(3,[]),(4,[]),(5,[]),(6,[]),(7,[]),(8,[]),(9,[])]),(3,.ord [(0,[]),(1,[]),(2,[]),(3,[]),(4,[]),(5,[]),(6,[]),(7,[]),(8,[])])]) [x0] σ (RQ Q)=HK Q x0 σ:=by kernel_rfl
theorem LP {Q:WK} {x0:Value} {σ:AHeap} (h:HK Q x0 σ):E EA [x0] σ Q:=NF Tryz.func121 _ (by kernel_rfl) (Eq.mpr (T0 Q x0 σ) h)
def GA (Q:WK) (p5_50 p0_51:Value) (τ_49:AHeap):Prop :=
 pu (B5 p0_51) fun v47_52 =>
 pu (AA 2 v47_52) fun v48_53 =>
 pu (AF false 1 v48_53 τ_49) fun v49_54 =>
 pu (B5 p5_50) fun v50_55 =>
 pu (AA 2 v50_55) fun v51_56 =>
 pu (AP 1 v51_56 v49_54 τ_49) fun τ_57 =>
 pu (B5 p0_51) fun v53_60 =>
 pu (AA 4 v53_60) fun v54_61 =>
 pu (KT P BG v54_61) fun v55_62 =>
 pu (B5 p5_50) fun v57_64 =>
 pu (AA 1 v57_64) fun v58_65 =>
 pu (AF false 1 v58_65 τ_57) fun v59_66 =>
 E YF [v55_62,v59_66] τ_57 fun v60_67 τ_68 =>
 Q p5_50 τ_68
def IF (Q:WK) (x0 x1:Value) (σ:AHeap):Prop :=
 pu (B5 x0) fun v8_3 =>
 pu (AA 2 v8_3) fun v9_4 =>
 pu (AF false 1 v9_4 σ) fun v10_5 =>
 pu (BF (some (.int .u64)) .add v10_5 (.int .u64 1)) fun v11_6 =>
 pu (B5 x0) fun v12_7 =>
 pu (AA 2 v12_7) fun v13_8 =>
 pu (AP 1 v13_8 v11_6 σ) fun τ_9 =>
 pu (B5 x0) fun v16_12 =>
 pu (AA 3 v16_12) fun v17_13 =>
 pu (AF false 1 v17_13 τ_9) fun v18_14 =>
 pu (EL P BD v18_14 x1 true τ_9) fun v20_16 =>
 pu (CY v20_16 0) fun v21_17 =>
 pu (CY v20_16 1) fun v22_18 =>
 pu (sB .not v22_18) fun v24_21 =>
 wC v24_21 (
 pu (B5 x0) fun v27_26 =>
 pu (AA 2 v27_26) fun v28_27 =>
 pu (AF false 1 v28_27 τ_9) fun v29_28 =>
 pu (XZ [(0,1),(1,1),(2,1),(3,1),(4,1)] [(.int .i64 0),(.int .i64 0),(.int .u64 0),(.bool false),(.slice none 0 0)] [(0,x1),(2,v29_28)]) fun v30_29 =>
 cond (DQ v30_29) (BE τ_9 (.cells (Value.cells v30_29).toList EC false) fun b_30 τ_31 =>
 pu (B5 x0) fun v33_34 =>
 pu (AA 3 v33_34) fun v34_35 =>
 pu (AF false 1 v34_35 τ_31) fun v35_36 =>
 pu (FL P BD v35_36 x1 (.pointer (some ⟨b_30,0,none⟩)) τ_31) fun τ_39 =>
 pu (B5 x0) fun v39_42 =>
 pu (AA 4 v39_42) fun v40_43 =>
 pu (KT P BG v40_43) fun v41_44 =>
 pu (KT P AN (.pointer (some ⟨b_30,0,none⟩))) fun v43_46 =>
 E KB [v41_44,v43_46] τ_39 fun v44_47 τ_48 =>
 (GA Q (.pointer (some ⟨b_30,0,none⟩)) x0 τ_48)) False) (
 (GA Q v21_17 x0 τ_9))
theorem U4 (Q:WK) (x0 x1:Value) (σ:AHeap):Y4 P C.E Tryz.f122 (hl [(1,.ord [(0,[]),(1,[]),(2,[]),(3,[]),(4,[]),(5,[]),(6,[]),(7,[]),(8,[])])]) [x0,x1] σ (RQ Q)=IF Q x0 x1 σ:=by kernel_rfl
theorem NU {Q:WK} {x0 x1:Value} {σ:AHeap} (h:IF Q x0 x1 σ):E EM [x0,x1] σ Q:=NF Tryz.func122 _ (by kernel_rfl) (Eq.mpr (U4 Q x0 x1 σ) h)
def JH (Q:WK) (x0 x1:Value) (σ:AHeap):Prop :=
 pu (B5 x1) fun v7_3 =>
 pu (AA 3 v7_3) fun v8_4 =>
 pu (AF false 1 v8_4 σ) fun v9_5 =>
 pu (sB .not v9_5) fun v10_6 =>
 wC v10_6 (
 Q (.int .i64 0) σ) (
 pu (B5 x0) fun v12_11 =>
 pu (AA 0 v12_11) fun v13_12 =>
 pu (AF false 1 v13_12 σ) fun v14_13 =>
 pu (B5 x1) fun v16_15 =>
 pu (AA 0 v16_15) fun v17_16 =>
 pu (AF false 1 v17_16 σ) fun v18_17 =>
 pu (B5 x1) fun v20_18 =>
 pu (AA 4 v20_18) fun v21_19 =>
 pu (AF false 1 v21_19 σ) fun v22_20 =>
 E KF [v14_13,v18_17,v22_20] σ fun v23_21 τ_22 =>
 pu (BF (some (.int .i64)) .neq v23_21 (.int .i64 0)) fun v26_26 =>
 pu (B5 x1) fun v27_27 =>
 pu (AA 3 v27_27) fun v28_28 =>
 pu (AP 1 v28_28 v26_26 τ_22) fun τ_29 =>
 Q v23_21 τ_29)
theorem S7 (Q:WK) (x0 x1:Value) (σ:AHeap):Y4 P C.E Tryz.f159 (hl [(1,.ord [(0,[]),(1,[]),(2,[]),(3,[]),(4,[]),(5,[]),(6,[]),(7,[]),(8,[]),(9,[]),(10,[]),(11,[]),(12,[]),(13,[])])]) [x0,x1] σ (RQ Q)=JH Q x0 x1 σ:=by kernel_rfl
theorem TG {Q:WK} {x0 x1:Value} {σ:AHeap} (h:JH Q x0 x1 σ):E JI [x0,x1] σ Q:=NF Tryz.func159 _ (by kernel_rfl) (Eq.mpr (S7 Q x0 x1 σ) h)
def KX (Q:WK) (p18_12 p0_20 p1_21:Value) (τ_11:AHeap):Prop :=
 wC p18_12 (
 Q (.tuple #[(.pointer none),(.int .i64 1)]) τ_11) (
 pu (JU P BD none τ_11) fun r21_16 =>
 pu (XZ [(0,1),(1,1),(2,1),(3,1),(4,1)] [(.pointer none),(.int .i64 0),(.int .u64 0),(.map none),(.slice none 0 0)] [(0,p0_20),(1,p1_21),(3,r21_16.1)]) fun v22_17 =>
 cond (DQ v22_17) (BE r21_16.2 (.cells (Value.cells v22_17).toList AZ false) fun b_18 τ_19 =>
 Q (.tuple #[(.pointer (some ⟨b_18,0,none⟩)),(.int .i64 0)]) τ_19) False)
def LE (Q:WK) (p12_6 p1_26 p0_27:Value) (τ_5:AHeap):Prop :=
 wC p12_6 (
 Q (.tuple #[(.pointer none),(.int .i64 2)]) τ_5) (
 pu (BF (some (.int .i64)) .lss p1_26 (.int .i64 1)) fun v14_9 =>
 wG v14_9 (
 (KX Q (.bool true) p0_27 p1_26 τ_5)) (
 pu (BF (some (.int .i64)) .gtr p1_26 (.int .i64 1024)) fun v17_23 =>
 (KX Q v17_23 p0_27 p1_26 τ_5)) (
 wB v14_9 fun b_25 =>
 (KX Q (cond b_25 (.bool true) C7) p0_27 p1_26 τ_5)))
def VD (Q:WK) (x0 x1:Value) (σ:AHeap):Prop :=
 pu (BF (some (.pointer E8)) .eql x0 (.pointer none)) fun v7_3 =>
 wG v7_3 (
 (LE Q (.bool true) x1 x0 σ)) (
 E FM [x0] σ fun v10_29 τ_30 =>
 pu (BF (some (.int .i64)) .eql v10_29 (.int .i64 0)) fun v11_31 =>
 (LE Q v11_31 x1 x0 τ_30)) (
 wB v7_3 fun b_33 =>
 (LE Q (cond b_33 (.bool true) C7) x1 x0 σ))
theorem iI (Q:WK) (x0 x1:Value) (σ:AHeap):Y4 P C.E Tryz.f60 (fun _=>none) [x0,x1] σ (RQ Q)=VD Q x0 x1 σ:=by kernel_rfl
theorem gF {Q:WK} {x0 x1:Value} {σ:AHeap} (h:VD Q x0 x1 σ):E QH [x0,x1] σ Q:=NF Tryz.func60 _ (by kernel_rfl) (Eq.mpr (iI Q x0 x1 σ) h)
def OA (Q:WK) (x0:Value) (σ:AHeap):Prop :=
 pu (BH x0) fun v4_3 =>
 Q v4_3 σ
theorem YU (Q:WK) (x0:Value) (σ:AHeap):Y4 P C.E Tryz.f214 (fun _=>none) [x0] σ (RQ Q)=OA Q x0 σ:=by kernel_rfl
theorem Y2 {Q:WK} {x0:Value} {σ:AHeap} (h:OA Q x0 σ):E NZ [x0] σ Q:=NF Tryz.func214 _ (by kernel_rfl) (Eq.mpr (YU Q x0 σ) h)
def MK (Q:WK) (x0 x1 x2:Value) (σ:AHeap):Prop :=
 pu (AE 1 x0 x1) fun v9_4 =>
 pu (AF false 1 v9_4 σ) fun v10_5 =>
 pu (B5 v10_5) fun v11_6 =>
 pu (AA 2 v11_6) fun v12_7 =>
 pu (AF false 1 v12_7 σ) fun v13_8 =>
 pu (AE 1 x0 x2) fun v16_10 =>
 pu (AF false 1 v16_10 σ) fun v17_11 =>
 pu (B5 v17_11) fun v18_12 =>
 pu (AA 2 v18_12) fun v19_13 =>
 pu (AF false 1 v19_13 σ) fun v20_14 =>
 pu (BF (some (.int .u64)) .lss v13_8 v20_14) fun v21_15 =>
 Q v21_15 σ
theorem W5 (Q:WK) (x0 x1 x2:Value) (σ:AHeap):Y4 P C.E Tryz.f215 (hl [(0,.ord [(0,[]),(1,[]),(2,[]),(3,[]),(4,[]),(5,[]),(6,[]),(7,[]),(8,[]),(9,[]),(10,[]),(11,[]),(12,[]),(13,[]),(14,[]),(15,[])])]) [x0,x1,x2] σ (RQ Q)=MK Q x0 x1 x2 σ:=by kernel_rfl
theorem W6 {Q:WK} {x0 x1 x2:Value} {σ:AHeap} (h:MK Q x0 x1 x2 σ):E L8 [x0,x1,x2] σ Q:=NF Tryz.func215 _ (by kernel_rfl) (Eq.mpr (W5 Q x0 x1 x2 σ) h)
def N7 (Q:WK) (x0:Value) (σ:AHeap):Prop :=
 pu (B5 x0) fun v6_3 =>
 pu (AF false 1 v6_3 σ) fun v7_4 =>
 pu (BH v7_4) fun v8_5 =>
 pu (BF (some (.int .i64)) .sub v8_5 (.int .i64 1)) fun v9_6 =>
 pu (B5 x0) fun v11_9 =>
 pu (AF false 1 v11_9 σ) fun v12_10 =>
 pu (AE 1 v12_10 v9_6) fun v14_12 =>
 pu (AF false 1 v14_12 σ) fun v15_13 =>
 pu (B5 x0) fun v18_16 =>
 pu (AF false 1 v18_16 σ) fun v19_17 =>
 pu (A7 1 v19_17 none (some v9_6) none) fun v21_19 =>
 pu (B5 x0) fun v22_20 =>
 pu (AP 1 v22_20 v21_19 σ) fun τ_21 =>
 pu (KT P AN v15_13) fun v24_24 =>
 Q v24_24 τ_21
theorem YQ (Q:WK) (x0:Value) (σ:AHeap):Y4 P C.E Tryz.f222 (fun _=>none) [x0] σ (RQ Q)=N7 Q x0 σ:=by kernel_rfl
theorem YY {Q:WK} {x0:Value} {σ:AHeap} (h:N7 Q x0 σ):E N9 [x0] σ Q:=NF Tryz.func222 _ (by kernel_rfl) (Eq.mpr (YQ Q x0 σ) h)
def MF (Q:WK) (x0 x1:Value) (σ:AHeap):Prop :=
 pu (H8 P AN false x1) fun v6_1 =>
 pu (B5 x0) fun v9_5 =>
 pu (AF false 1 v9_5 σ) fun v10_6 =>
 pu (BH v10_6) fun v11_7 =>
 pu (B5 v6_1) fun v12_8 =>
 pu (AA 1 v12_8) fun v13_9 =>
 pu (AP 1 v13_9 v11_7 σ) fun τ_10 =>
 pu (B5 x0) fun v16_13 =>
 pu (AF false 1 v16_13 τ_10) fun v17_14 =>
 pu (X3 AN 1 1 [(.pointer none)] [(0,v6_1)] τ_10) fun r19_16 =>
 pu (BZ AN 1 8 v17_14 r19_16.1 r19_16.2) fun r20_17 =>
 pu (B5 x0) fun v21_18 =>
 pu (AP 1 v21_18 r20_17.1 r20_17.2) fun τ_19 =>
 Q (.tuple #[]) τ_19
theorem WY (Q:WK) (x0 x1:Value) (σ:AHeap):Y4 P C.E Tryz.f223 (fun _=>none) [x0,x1] σ (RQ Q)=MF Q x0 x1 σ:=by kernel_rfl
theorem WZ {Q:WK} {x0 x1:Value} {σ:AHeap} (h:MF Q x0 x1 σ):E LS [x0,x1] σ Q:=NF Tryz.func223 _ (by kernel_rfl) (Eq.mpr (WY Q x0 x1 σ) h)
def L9 (Q:WK) (x0 x1 x2:Value) (σ:AHeap):Prop :=
 pu (AE 1 x0 x2) fun v12_1 =>
 pu (AF false 1 v12_1 σ) fun v13_2 =>
 pu (AE 1 x0 x1) fun v16_3 =>
 pu (AF false 1 v16_3 σ) fun v17_4 =>
 pu (AE 1 x0 x1) fun v18_5 =>
 pu (AP 1 v18_5 v13_2 σ) fun τ_6 =>
 pu (AE 1 x0 x2) fun v19_7 =>
 pu (AP 1 v19_7 v17_4 τ_6) fun τ_8 =>
 pu (AE 1 x0 x1) fun v22_12 =>
 pu (AF false 1 v22_12 τ_8) fun v23_13 =>
 pu (AE 1 x0 x2) fun v26_15 =>
 pu (AF false 1 v26_15 τ_8) fun v27_16 =>
 pu (B5 v23_13) fun v30_17 =>
 pu (AA 1 v30_17) fun v31_18 =>
 pu (AP 1 v31_18 x1 τ_8) fun τ_19 =>
 pu (B5 v27_16) fun v32_20 =>
 pu (AA 1 v32_20) fun v33_21 =>
 pu (AP 1 v33_21 x2 τ_19) fun τ_22 =>
 Q (.tuple #[]) τ_22
theorem W9 (Q:WK) (x0 x1 x2:Value) (σ:AHeap):Y4 P C.E Tryz.f216 (hl [(0,.ord [(0,[]),(1,[]),(2,[]),(3,[]),(4,[]),(5,[]),(6,[]),(7,[]),(8,[]),(9,[]),(10,[]),(11,[]),(12,[]),(13,[]),(14,[]),(15,[])]),(1,.ord [(0,[]),(1,[]),(2,[]),(3,[]),(4,[]),(5,[]),(6,[]),(7,[]),(8,[]),(9,[]),(10,[]),(11,[]),(12,[]),(13,[]),(14,[]),(15,[])])]) [x0,x1,x2] σ (RQ Q)=L9 Q x0 x1 x2 σ:=by kernel_rfl
theorem W2 {Q:WK} {x0 x1 x2:Value} {σ:AHeap} (h:L9 Q x0 x1 x2 σ):E MB [x0,x1,x2] σ Q:=NF Tryz.func216 _ (by kernel_rfl) (Eq.mpr (W9 Q x0 x1 x2 σ) h)
def J6 (Q:WK) (x0:Value) (σ:AHeap):Prop :=
 pu (BF (some (.pointer E8)) .eql x0 (.pointer none)) fun v4_3 =>
 wC v4_3 (
 Q (.int .i64 0) σ) (
 pu (B5 x0) fun v6_8 =>
 pu (AA 0 v6_8) fun v7_9 =>
 pu (AF false 1 v7_9 σ) fun v8_10 =>
 pu (BH v8_10) fun v9_11 =>
 pu (BF (some (.int .i64)) .quo v9_11 (.int .i64 256)) fun v10_12 =>
 Q v10_12 σ)
theorem T8 (Q:WK) (x0:Value) (σ:AHeap):Y4 P C.E Tryz.f119 (fun _=>none) [x0] σ (RQ Q)=J6 Q x0 σ:=by kernel_rfl
theorem TZ {Q:WK} {x0:Value} {σ:AHeap} (h:J6 Q x0 σ):E FM [x0] σ Q:=NF Tryz.func119 _ (by kernel_rfl) (Eq.mpr (T8 Q x0 σ) h)
def NW (Q:WK) (x0:Value) (σ:AHeap):Prop :=
 pu (BF (some (.pointer E8)) .eql x0 (.pointer none)) fun v4_3 =>
 wG v4_3 (
 Q (.bool true) σ) (
 pu (B5 x0) fun v7_5 =>
 pu (AA 3 v7_5) fun v8_6 =>
 pu (AF false 1 v8_6 σ) fun v9_7 =>
 Q v9_7 σ) (
 wB v4_3 fun b_9 =>
 Q (cond b_9 (.bool true) C7) σ)
theorem YJ (Q:WK) (x0:Value) (σ:AHeap):Y4 P C.E Tryz.f158 (fun _=>none) [x0] σ (RQ Q)=NW Q x0 σ:=by kernel_rfl
theorem YW {Q:WK} {x0:Value} {σ:AHeap} (h:NW Q x0 σ):E OC [x0] σ Q:=NF Tryz.func158 _ (by kernel_rfl) (Eq.mpr (YJ Q x0 σ) h)
def F3 (N1:Value→Value→Value→Value→Value→AHeap→Prop) (Q:WK) (p33_73 p7_75 p8_76 p31_77 p32_78:Value) (τ_72:AHeap):Prop :=
 pu (BF (some (.int .i64)) .add p33_73 (.int .i64 1)) fun v57_74 =>
 N1 p7_75 p8_76 p31_77 p32_78 v57_74 τ_72
def EF (N1:Value→Value→Value→Value→Value→AHeap→Prop) (Q:WK) (p47_61 p8_62 p10_63 p7_66 p33_79 p31_80 p32_81:Value) (τ_60:AHeap):Prop :=
 wC p47_61 (
 pu (AA 0 p10_63) fun v49_64 =>
 pu (AF false 1 v49_64 τ_60) fun v50_65 =>
 pu (BF (some (.int .i64)) .sub v50_65 p7_66) fun v52_67 =>
 pu (A7 1 p8_62 (some v52_67) none none) fun v53_68 =>
 pu (AA 1 p10_63) fun v54_69 =>
 pu (AF false 1 v54_69 τ_60) fun v55_70 =>
 pu (LM 1 v53_68 v55_70 τ_60) fun r56_71 =>
 (F3 N1 Q p33_79 p7_66 p8_62 p31_80 p32_81 r56_71.2)) (
 (F3 N1 Q p33_79 p7_66 p8_62 p31_80 p32_81 τ_60))
def JK (N1:Value→Value→Value→Value→Value→AHeap→Prop) (Q:WK) (x7_32 x8_33 x31_34 x32_35 x33_36:Value) (τ_37:AHeap):Prop :=
 pu (BF (some (.int .i64)) .lss x33_36 x32_35) fun v34_38 =>
 wC v34_38 (
 pu (AE 2 x31_34 x33_36) fun v35_44 =>
 pu (AF true 2 v35_44 τ_37) fun v36_45 =>
 BE τ_37 (.cells [(.int .i64 0),(.slice none 0 0)] E9 false) fun b_46 τ_47 =>
 pu (AP 2 (.pointer (some ⟨b_46,0,none⟩)) v36_45 τ_47) fun τ_48 =>
 pu (AA 0 (.pointer (some ⟨b_46,0,none⟩))) fun v37_51 =>
 pu (AF false 1 v37_51 τ_48) fun v38_52 =>
 pu (BF (some (.int .i64)) .geq v38_52 x7_32) fun v40_54 =>
 wG v40_54 (
 pu (AA 0 (.pointer (some ⟨b_46,0,none⟩))) fun v42_55 =>
 pu (AF false 1 v42_55 τ_48) fun v43_56 =>
 pu (BF (some (.int .i64)) .add x7_32 (.int .i64 256)) fun v45_57 =>
 pu (BF (some (.int .i64)) .lss v43_56 v45_57) fun v46_58 =>
 (EF N1 Q v46_58 x8_33 (.pointer (some ⟨b_46,0,none⟩)) x7_32 x33_36 x31_34 x32_35 τ_48)) (
 (EF N1 Q (.bool false) x8_33 (.pointer (some ⟨b_46,0,none⟩)) x7_32 x33_36 x31_34 x32_35 τ_48)) (
 wB v40_54 fun b_87 =>
 (EF N1 Q (cond b_87 C7 (.bool false)) x8_33 (.pointer (some ⟨b_46,0,none⟩)) x7_32 x33_36 x31_34 x32_35 τ_48))) (
 Q (.tuple #[x8_33,(.int .i64 0)]) τ_37)
def MJ (Q:WK) (x0 x1:Value) (σ:AHeap):Prop :=
 E IK [x0,x1] σ fun v13_4 τ_5 =>
 pu (BF (some (.int .i64)) .neq v13_4 (.int .i64 0)) fun v15_8 =>
 wC v15_8 (
 Q (.tuple #[(.slice none 0 0),v13_4]) τ_5) (
 pu (BF (some (.int .i64)) .mul x1 (.int .i64 256)) fun v18_14 =>
 pu (B5 x0) fun v20_17 =>
 pu (AA 0 v20_17) fun v21_18 =>
 pu (AF false 1 v21_18 τ_5) fun v22_19 =>
 pu (BF (some (.int .i64)) .add v18_14 (.int .i64 256)) fun v25_21 =>
 pu (A7 1 v22_19 (some v18_14) (some v25_21) none) fun v26_22 =>
 E C5 [v26_22] τ_5 fun v27_23 τ_24 =>
 pu (B5 x0) fun v29_27 =>
 pu (AA 1 v29_27) fun v30_28 =>
 pu (AF false 1 v30_28 τ_24) fun v31_29 =>
 pu (BH v31_29) fun v32_30 =>
 ∃ I_98:Nat→Value→Value→Value→Value→Value→AHeap→Prop,(∃ m,I_98 m v18_14 v27_23 v31_29 v32_30 (.int .i64 0) τ_24)∧∀ m (x7_32' x8_33' x31_34' x32_35' x33_36':Value) (σ':AHeap),I_98 m x7_32' x8_33' x31_34' x32_35' x33_36' σ'→(JK (fun x7_32' x8_33' x31_34' x32_35' x33_36' σ'=>∃ m',m'<m∧I_98 m' x7_32' x8_33' x31_34' x32_35' x33_36' σ') Q x7_32' x8_33' x31_34' x32_35' x33_36' σ'))
theorem W3 (Q:WK) (x0 x1:Value) (σ:AHeap):Y4 P C.E Tryz.f125 (hl [(2,.loopj [7,8,31,32,33] [8] [7,8,31,32,33]),(6,.ord [(0,[]),(1,[]),(2,[]),(3,[]),(4,[]),(5,[]),(6,[]),(7,[]),(8,[])])]) [x0,x1] σ (RQ Q)=MJ Q x0 x1 σ:=by kernel_rfl
theorem W8 {Q:WK} {x0 x1:Value} {σ:AHeap} (h:MJ Q x0 x1 σ):E ML [x0,x1] σ Q:=NF Tryz.func125 _ (by kernel_rfl) (Eq.mpr (W3 Q x0 x1 σ) h)
def LG (Q:WK) (x0 x1 x2:Value) (σ:AHeap):Prop :=
 cond (DQ x0) (BE σ (.cells (Value.cells x0).toList MU false) fun b_1 τ_2 =>
 cond (DQ x1) (BE τ_2 (.cells (Value.cells x1).toList BQ false) fun b_3 τ_4 =>
 cond (DQ x2) (BE τ_4 (.cells (Value.cells x2).toList Y0 false) fun b_5 τ_6 =>
 pu (AF false 1 (.pointer (some ⟨b_1,0,none⟩)) τ_6) fun v8_9 =>
 pu (AF false 1 (.pointer (some ⟨b_3,0,none⟩)) τ_6) fun v9_11 =>
 E IK [v8_9,v9_11] τ_6 fun v10_12 τ_13 =>
 pu (BF (some (.int .i64)) .neq v10_12 (.int .i64 0)) fun v12_16 =>
 wC v12_16 (
 Q v10_12 τ_13) (
 pu (AF false 1 (.pointer (some ⟨b_5,0,none⟩)) τ_13) fun v14_22 =>
 pu (BH v14_22) fun v15_23 =>
 pu (BF (some (.int .i64)) .neq v15_23 (.int .i64 256)) fun v16_24 =>
 wC v16_24 (
 Q (.int .i64 1) τ_13) (
 pu (AF false 1 (.pointer (some ⟨b_1,0,none⟩)) τ_13) fun v17_29 =>
 E MH [v17_29,(.func (.func IN) #[] #[(.pointer (some ⟨b_5,0,none⟩)),(.pointer (some ⟨b_1,0,none⟩)),(.pointer (some ⟨b_3,0,none⟩))])] τ_13 fun v19_32 τ_33 =>
 Q v19_32 τ_33))) False) False) False
theorem VG (Q:WK) (x0 x1 x2:Value) (σ:AHeap):Y4 P C.E Tryz.f185 (fun _=>none) [x0,x1,x2] σ (RQ Q)=LG Q x0 x1 x2 σ:=by kernel_rfl
theorem U8 {Q:WK} {x0 x1 x2:Value} {σ:AHeap} (h:LG Q x0 x1 x2 σ):E KF [x0,x1,x2] σ Q:=NF Tryz.func185 _ (by kernel_rfl) (Eq.mpr (VG Q x0 x1 x2 σ) h)
def G6 (N1:Value→Value→Value→Value→AHeap→Prop) (Q:WK) (x1_6 x2_7 x3_8 x4_9:Value) (τ_10:AHeap):Prop :=
 pu (BF (some (.int .i64)) .lss x4_9 (.int .i64 256)) fun v8_11 =>
 wC v8_11 (
 pu (AF false 1 x1_6 τ_10) fun v11_16 =>
 pu (AF false 1 x1_6 τ_10) fun v12_17 =>
 pu (B5 v12_17) fun v13_18 =>
 pu (AA 1 v13_18) fun v14_19 =>
 pu (AF false 1 v14_19 τ_10) fun v15_20 =>
 pu (AF false 1 x2_7 τ_10) fun v16_22 =>
 pu (BF (some (.int .i64)) .mul v16_22 (.int .i64 256)) fun v17_23 =>
 pu (BF (some (.int .i64)) .add v17_23 x4_9) fun v19_25 =>
 pu (BF (some (.int .i64)) .add x4_9 (.int .i64 64)) fun v23_27 =>
 pu (BF (some (.int .i64)) .add x4_9 (.int .i64 64)) fun v25_28 =>
 pu (A7 1 x3_8 (some x4_9) (some v23_27) (some v25_28)) fun v26_29 =>
 pu (XZ [(0,1),(1,1)] [(.int .i64 0),(.slice none 0 0)] [(0,v19_25),(1,v26_29)]) fun v27_30 =>
 pu (X3 E9 2 1 [(.int .i64 0),(.slice none 0 0)] [(0,v27_30)] τ_10) fun r28_31 =>
 pu (AF false 1 x1_6 r28_31.2) fun v11_32 =>
 AX v11_32 v11_16=true∧pu (AF false 1 x1_6 r28_31.2) fun v12_33 =>
 AX v12_33 v12_17=true∧pu (AF false 1 v14_19 r28_31.2) fun v15_34 =>
 AX v15_34 v15_20=true∧pu (BZ E9 2 32 v15_20 r28_31.1 r28_31.2) fun r29_35 =>
 pu (AF false 1 x1_6 r29_35.2) fun v11_36 =>
 AX v11_36 v11_16=true∧pu (B5 v11_16) fun v30_37 =>
 pu (AA 1 v30_37) fun v31_38 =>
 pu (AP 1 v31_38 r29_35.1 r29_35.2) fun τ_39 =>
 pu (BF (some (.int .i64)) .add x4_9 (.int .i64 64)) fun v10_42 =>
 N1 x1_6 x2_7 x3_8 v10_42 τ_39) (
 Q (.tuple #[]) τ_10)
def IS (Q:WK) (x0 x1 x2:Value) (σ:AHeap):Prop :=
 pu (AF false 1 x0 σ) fun v5_1 =>
 E C5 [v5_1] σ fun v6_2 τ_3 =>
 ∃ I_50:Nat→Value→Value→Value→Value→AHeap→Prop,(∃ m,I_50 m x1 x2 v6_2 (.int .i64 0) τ_3)∧∀ m (x1_6' x2_7' x3_8' x4_9':Value) (σ':AHeap),I_50 m x1_6' x2_7' x3_8' x4_9' σ'→(G6 (fun x1_6' x2_7' x3_8' x4_9' σ'=>∃ m',m'<m∧I_50 m' x1_6' x2_7' x3_8' x4_9' σ') Q x1_6' x2_7' x3_8' x4_9' σ')
theorem R7 (Q:WK) (x0 x1 x2:Value) (σ:AHeap):Y4 P C.E Tryz.f191 (hl [(1,.loopj [1,2,3,4] [] [1,2,3,4]),(4,.ord [(0,[]),(1,[]),(2,[]),(3,[]),(4,[]),(5,[]),(6,[]),(7,[]),(8,[]),(9,[]),(10,[]),(11,[]),(12,[]),(13,[]),(14,[]),(15,[]),(16,[]),(17,[0,1,4]),(18,[0]),(19,[]),(20,[]),(21,[])])]) [x0,x1,x2] σ (RQ Q)=IS Q x0 x1 x2 σ:=by kernel_rfl
theorem RN {Q:WK} {x0 x1 x2:Value} {σ:AHeap} (h:IS Q x0 x1 x2 σ):E IN [x0,x1,x2] σ Q:=NF Tryz.func191 _ (by kernel_rfl) (Eq.mpr (R7 Q x0 x1 x2 σ) h)
def GV (Q:WK) (p1_31:Value) (τ_30:AHeap):Prop :=
 wF p1_31 fun g_34 a_35 c_36=>E g_34 (a_35++[]++c_36) τ_30 fun v26_32 τ_33 =>
 Q (.int .i64 0) τ_33
def L0 (Q:WK) (x0 x1:Value) (σ:AHeap):Prop :=
 pu (B5 x0) fun v6_3 =>
 pu (AA 2 v6_3) fun v7_4 =>
 pu (AF false 1 v7_4 σ) fun v8_5 =>
 pu (BF (some (.int .i64)) .gtr v8_5 (.int .i64 0)) fun v9_6 =>
 wC v9_6 (
 pu (B5 x0) fun v11_10 =>
 pu (AA 2 v11_10) fun v12_11 =>
 pu (AF false 1 v12_11 σ) fun v13_12 =>
 pu (BF (some (.int .i64)) .sub v13_12 (.int .i64 1)) fun v14_13 =>
 pu (B5 x0) fun v15_14 =>
 pu (AA 2 v15_14) fun v16_15 =>
 pu (AP 1 v16_15 v14_13 σ) fun τ_16 =>
 pu (B5 x0) fun v18_19 =>
 pu (AA 2 v18_19) fun v19_20 =>
 pu (AF false 1 v19_20 τ_16) fun v20_21 =>
 pu (BF (some (.int .i64)) .eql v20_21 (.int .i64 0)) fun v21_22 =>
 wC v21_22 (
 pu (B5 x0) fun v23_26 =>
 pu (AA 3 v23_26) fun v24_27 =>
 pu (AP 1 v24_27 (.bool true) τ_16) fun τ_28 =>
 Q (.int .i64 9) τ_28) (
 (GV Q x1 τ_16))) (
 (GV Q x1 σ))
theorem W7 (Q:WK) (x0 x1:Value) (σ:AHeap):Y4 P C.E Tryz.f190 (fun _=>none) [x0,x1] σ (RQ Q)=L0 Q x0 x1 σ:=by kernel_rfl
theorem W0 {Q:WK} {x0 x1:Value} {σ:AHeap} (h:L0 Q x0 x1 σ):E MH [x0,x1] σ Q:=NF Tryz.func190 _ (by kernel_rfl) (Eq.mpr (W7 Q x0 x1 σ) h)
def EH (Q:WK) (p21_17:Value) (τ_16:AHeap):Prop :=
 wC p21_17 (
 Q (.int .i64 6) τ_16) (
 Q (.int .i64 0) τ_16)
def FW (Q:WK) (p5_6 p0_7 p1_25:Value) (τ_5:AHeap):Prop :=
 wC p5_6 (
 Q (.int .i64 2) τ_5) (
 pu (B5 p0_7) fun v18_8 =>
 pu (AA 3 v18_8) fun v19_9 =>
 pu (AF false 1 v19_9 τ_5) fun v20_10 =>
 wC v20_10 (
 Q (.int .i64 9) τ_5) (
 pu (BF (some (.int .i64)) .lss p1_25 (.int .i64 0)) fun v23_14 =>
 wG v23_14 (
 (EH Q (.bool true) τ_5)) (
 E FM [p0_7] τ_5 fun v27_20 τ_21 =>
 pu (BF (some (.int .i64)) .geq p1_25 v27_20) fun v28_22 =>
 (EH Q v28_22 τ_21)) (
 wB v23_14 fun b_24 =>
 (EH Q (cond b_24 (.bool true) C7) τ_5))))
def LD (Q:WK) (x0 x1:Value) (σ:AHeap):Prop :=
 pu (BF (some (.pointer E8)) .eql x0 (.pointer none)) fun v7_3 =>
 wG v7_3 (
 (FW Q (.bool true) x0 x1 σ)) (
 pu (B5 x0) fun v10_27 =>
 pu (AA 0 v10_27) fun v11_28 =>
 pu (AF false 1 v11_28 σ) fun v12_29 =>
 pu (BH v12_29) fun v13_30 =>
 pu (BF (some (.int .i64)) .eql v13_30 (.int .i64 0)) fun v14_31 =>
 (FW Q v14_31 x0 x1 σ)) (
 wB v7_3 fun b_33 =>
 (FW Q (cond b_33 (.bool true) C7) x0 x1 σ))
theorem UU (Q:WK) (x0 x1:Value) (σ:AHeap):Y4 P C.E Tryz.f164 (fun _=>none) [x0,x1] σ (RQ Q)=LD Q x0 x1 σ:=by kernel_rfl
theorem UK {Q:WK} {x0 x1:Value} {σ:AHeap} (h:LD Q x0 x1 σ):E IK [x0,x1] σ Q:=NF Tryz.func164 _ (by kernel_rfl) (Eq.mpr (UU Q x0 x1 σ) h)
def NA (Q:WK) (p9_6 p0_14:Value) (τ_5:AHeap):Prop :=
 wC p9_6 (
 Q (.tuple #[(.pointer none),(.int .i64 1)]) τ_5) (
 pu (BF (some (.int .i64)) .mul p0_14 (.int .i64 256)) fun v11_9 =>
 pu (PC AL 1 [(.int .u8 0)] v11_9 v11_9 τ_5) fun r12_10 =>
 pu (XZ [(0,1),(1,1),(2,1),(3,1)] [(.slice none 0 0),(.slice none 0 0),(.int .i64 0),(.bool false)] [(0,r12_10.1)]) fun v13_11 =>
 cond (DQ v13_11) (BE r12_10.2 (.cells (Value.cells v13_11).toList E8 false) fun b_12 τ_13 =>
 Q (.tuple #[(.pointer (some ⟨b_12,0,none⟩)),(.int .i64 0)]) τ_13) False)
def YZ (Q:WK) (x0:Value) (σ:AHeap):Prop :=
 pu (BF (some (.int .i64)) .lss x0 (.int .i64 1)) fun v5_3 =>
 wG v5_3 (
 (NA Q (.bool true) x0 σ)) (
 pu (BF (some (.int .i64)) .gtr x0 (.int .i64 1024)) fun v8_15 =>
 (NA Q v8_15 x0 σ)) (
 wB v5_3 fun b_17 =>
 (NA Q (cond b_17 (.bool true) C7) x0 σ))
theorem j8 (Q:WK) (x0:Value) (σ:AHeap):Y4 P C.E Tryz.f58 (fun _=>none) [x0] σ (RQ Q)=YZ Q x0 σ:=by kernel_rfl
theorem kI {Q:WK} {x0:Value} {σ:AHeap} (h:YZ Q x0 σ):E TI [x0] σ Q:=NF Tryz.func58 _ (by kernel_rfl) (Eq.mpr (j8 Q x0 σ) h)
def YK (Q:WK) (x0 x1:Value) (σ:AHeap):Prop :=
 pu (BX P x0 "Len" σ) fun r_3=>E r_3.1 (r_3.2::[]) σ fun v7_1 τ_2 =>
 E HD [x0,x1,v7_1] τ_2 fun v8_4 τ_5 =>
 pu (sB .not v8_4) fun v9_6 =>
 wC v9_6 (
 E LZ [x0,x1] τ_5 fun v12_11 τ_12 =>
 Q (.tuple #[]) τ_12) (
 Q (.tuple #[]) τ_5)
theorem jW (Q:WK) (x0 x1:Value) (σ:AHeap):Y4 P C.E Tryz.f161 (fun _=>none) [x0,x1] σ (RQ Q)=YK Q x0 x1 σ:=by kernel_rfl
theorem kD {Q:WK} {x0 x1:Value} {σ:AHeap} (h:YK Q x0 x1 σ):E YF [x0,x1] σ Q:=NF Tryz.func161 _ (by kernel_rfl) (Eq.mpr (jW Q x0 x1 σ) h)
def YI (Q:WK) (x0:Value) (σ:AHeap):Prop :=
 pu (BX P x0 "Len" σ) fun r_5=>E r_5.1 (r_5.2::[]) σ fun v5_3 τ_4 =>
 pu (BF (some (.int .i64)) .sub v5_3 (.int .i64 1)) fun v6_6 =>
 pu (BX P x0 "Swap" τ_4) fun r_12=>E r_12.1 (r_12.2::[(.int .i64 0),v6_6]) τ_4 fun v9_10 τ_11 =>
 E HD [x0,(.int .i64 0),v6_6] τ_11 fun v12_16 τ_17 =>
 pu (BX P x0 "Pop" τ_17) fun r_22=>E r_22.1 (r_22.2::[]) τ_17 fun v14_20 τ_21 =>
 Q v14_20 τ_21
theorem jX (Q:WK) (x0:Value) (σ:AHeap):Y4 P C.E Tryz.f129 (fun _=>none) [x0] σ (RQ Q)=YI Q x0 σ:=by kernel_rfl
theorem kK {Q:WK} {x0:Value} {σ:AHeap} (h:YI Q x0 σ):E MM [x0] σ Q:=NF Tryz.func129 _ (by kernel_rfl) (Eq.mpr (jX Q x0 σ) h)
def UJ (Q:WK) (x0 x1:Value) (σ:AHeap):Prop :=
 pu (BX P x0 "Push" σ) fun r_3=>E r_3.1 (r_3.2::[x1]) σ fun v6_1 τ_2 =>
 pu (BX P x0 "Len" τ_2) fun r_8=>E r_8.1 (r_8.2::[]) τ_2 fun v9_6 τ_7 =>
 pu (BF (some (.int .i64)) .sub v9_6 (.int .i64 1)) fun v10_9 =>
 E LZ [x0,v10_9] τ_7 fun v11_10 τ_11 =>
 Q (.tuple #[]) τ_11
theorem f9 (Q:WK) (x0 x1:Value) (σ:AHeap):Y4 P C.E Tryz.f160 (fun _=>none) [x0,x1] σ (RQ Q)=UJ Q x0 x1 σ:=by kernel_rfl
theorem gN {Q:WK} {x0 x1:Value} {σ:AHeap} (h:UJ Q x0 x1 σ):E KB [x0,x1] σ Q:=NF Tryz.func160 _ (by kernel_rfl) (Eq.mpr (f9 Q x0 x1 σ) h)
def KM (Q:WK) (p7_23 p1_24:Value) (τ_22:AHeap):Prop :=
 pu (BF (some (.int .i64)) .gtr p7_23 p1_24) fun v47_25 =>
 Q v47_25 τ_22
def JY (N1:Value→Value→Value→Value→AHeap→Prop) (Q:WK) (p0_45 p9_46 p7_47 p1_73 p2_74:Value) (τ_44:AHeap):Prop :=
 pu (BX P p0_45 "Less" τ_44) fun r_50=>E r_50.1 (r_50.2::[p9_46,p7_47]) τ_44 fun v38_48 τ_49 =>
 pu (sB .not v38_48) fun v39_51 =>
 wC v39_51 (
 (KM Q p7_47 p1_73 τ_49)) (
 pu (BX P p0_45 "Swap" τ_49) fun r_64=>E r_64.1 (r_64.2::[p7_47,p9_46]) τ_49 fun v43_62 τ_63 =>
 N1 p0_45 p1_73 p2_74 p9_46 τ_63)
def I3 (N1:Value→Value→Value→Value→AHeap→Prop) (Q:WK) (p33_42 p10_43 p0_75 p7_76 p1_77 p2_78 p9_79:Value) (τ_41:AHeap):Prop :=
 wC p33_42 (
 (JY N1 Q p0_75 p10_43 p7_76 p1_77 p2_78 τ_41)) (
 (JY N1 Q p0_75 p9_79 p7_76 p1_77 p2_78 τ_41))
def I2 (N1:Value→Value→Value→Value→AHeap→Prop) (Q:WK) (p21_17 p0_18 p1_19 p2_20 p7_21 p8_94:Value) (τ_16:AHeap):Prop :=
 wC p21_17 (
 (KM Q p7_21 p1_19 τ_16)) (
 pu (BF (some (.int .i64)) .add p8_94 (.int .i64 1)) fun v24_30 =>
 pu (BF (some (.int .i64)) .lss v24_30 p2_20) fun v27_34 =>
 wG v27_34 (
 pu (BX P p0_18 "Less" τ_16) fun r_39=>E r_39.1 (r_39.2::[v24_30,p8_94]) τ_16 fun v32_37 τ_38 =>
 (I3 N1 Q v32_37 v24_30 p0_18 p7_21 p1_19 p2_20 p8_94 τ_38)) (
 (I3 N1 Q (.bool false) v24_30 p0_18 p7_21 p1_19 p2_20 p8_94 τ_16)) (
 wB v27_34 fun b_84 =>
 (I3 N1 Q (cond b_84 C7 (.bool false)) v24_30 p0_18 p7_21 p1_19 p2_20 p8_94 τ_16)))
def O8 (N1:Value→Value→Value→Value→AHeap→Prop) (Q:WK) (x0_4 x1_5 x2_6 x7_7:Value) (τ_8:AHeap):Prop :=
 pu (BF (some (.int .i64)) .mul (.int .i64 2) x7_7) fun v13_9 =>
 pu (BF (some (.int .i64)) .add v13_9 (.int .i64 1)) fun v14_10 =>
 pu (BF (some (.int .i64)) .geq v14_10 x2_6) fun v17_14 =>
 wG v17_14 (
 (I2 N1 Q (.bool true) x0_4 x1_5 x2_6 x7_7 v14_10 τ_8)) (
 pu (BF (some (.int .i64)) .lss v14_10 (.int .i64 0)) fun v20_98 =>
 (I2 N1 Q v20_98 x0_4 x1_5 x2_6 x7_7 v14_10 τ_8)) (
 wB v17_14 fun b_100 =>
 (I2 N1 Q (cond b_100 (.bool true) C7) x0_4 x1_5 x2_6 x7_7 v14_10 τ_8))
def VQ (Q:WK) (x0 x1 x2:Value) (σ:AHeap):Prop :=
 ∃ I_101:Nat→Value→Value→Value→Value→AHeap→Prop,(∃ m,I_101 m x0 x1 x2 x1 σ)∧∀ m (x0_4' x1_5' x2_6' x7_7':Value) (σ':AHeap),I_101 m x0_4' x1_5' x2_6' x7_7' σ'→(O8 (fun x0_4' x1_5' x2_6' x7_7' σ'=>∃ m',m'<m∧I_101 m' x0_4' x1_5' x2_6' x7_7' σ') Q x0_4' x1_5' x2_6' x7_7' σ')
theorem fW (Q:WK) (x0 x1 x2:Value) (σ:AHeap):Y4 P C.E Tryz.f165 (hl [(1,.loopj [0,1,2,7] [1,7] [0,1,2,7])]) [x0,x1,x2] σ (RQ Q)=VQ Q x0 x1 x2 σ:=by kernel_rfl
theorem gD {Q:WK} {x0 x1 x2:Value} {σ:AHeap} (h:VQ Q x0 x1 x2 σ):E HD [x0,x1,x2] σ Q:=NF Tryz.func165 _ (by kernel_rfl) (Eq.mpr (fW Q x0 x1 x2 σ) h)
def KG (N1:Value→Value→AHeap→Prop) (Q:WK) (p17_12 p0_13 p1_14 p4_25:Value) (τ_11:AHeap):Prop :=
 wC p17_12 (
 Q (.tuple #[]) τ_11) (
 pu (BX P p0_13 "Swap" τ_11) fun r_21=>E r_21.1 (r_21.2::[p4_25,p1_14]) τ_11 fun v21_19 τ_20 =>
 N1 p0_13 p4_25 τ_20)
def S5 (N1:Value→Value→AHeap→Prop) (Q:WK) (x0_1 x1_2:Value) (τ_3:AHeap):Prop :=
 pu (BF (some (.int .i64)) .sub x1_2 (.int .i64 1)) fun v6_4 =>
 pu (BF (some (.int .i64)) .quo v6_4 (.int .i64 2)) fun v7_5 =>
 pu (BF (some (.int .i64)) .eql v7_5 x1_2) fun v10_9 =>
 wG v10_9 (
 (KG N1 Q (.bool true) x0_1 x1_2 v7_5 τ_3)) (
 pu (BX P x0_1 "Less" τ_3) fun r_29=>E r_29.1 (r_29.2::[x1_2,v7_5]) τ_3 fun v15_27 τ_28 =>
 pu (sB .not v15_27) fun v16_30 =>
 (KG N1 Q v16_30 x0_1 x1_2 v7_5 τ_28)) (
 wB v10_9 fun b_32 =>
 (KG N1 Q (cond b_32 (.bool true) C7) x0_1 x1_2 v7_5 τ_3))
def bE (Q:WK) (x0 x1:Value) (σ:AHeap):Prop :=
 ∃ I_33:Nat→Value→Value→AHeap→Prop,(∃ m,I_33 m x0 x1 σ)∧∀ m (x0_1' x1_2':Value) (σ':AHeap),I_33 m x0_1' x1_2' σ'→(S5 (fun x0_1' x1_2' σ'=>∃ m',m'<m∧I_33 m' x0_1' x1_2' σ') Q x0_1' x1_2' σ')
theorem oJ (Q:WK) (x0 x1:Value) (σ:AHeap):Y4 P C.E Tryz.f186 (hl [(1,.loopj [0,1] [] [0,1])]) [x0,x1] σ (RQ Q)=bE Q x0 x1 σ:=by kernel_rfl
theorem m7 {Q:WK} {x0 x1:Value} {σ:AHeap} (h:bE Q x0 x1 σ):E LZ [x0,x1] σ Q:=NF Tryz.func186 _ (by kernel_rfl) (Eq.mpr (oJ Q x0 x1 σ) h)
end Go.Ax.O
set_option maxRecDepth 100000
namespace Go.Ax.O
open Go.Proofs
variable {l:List AK} {σ:AHeap} {Q:WK}
theorem NE {a:Option Addr} {n c:Nat} {bs:List UInt8} (h:H l σ) (hs:D5 1 (.slice a n c) σ=some (n,bv bs)) (hn:n≤1099511627776)
 (hk:∀ v σ',H (l++[AU AL 1 v n (bv bs)]) σ'→Q v σ'):E C5 [.slice a n c] σ Q:=by
 apply bR; unfold RC
 cases a with
 | none =>
   simp
   have:n=0∧bs=[]:=by
    simp only [D5] at hs
    split at hs
    ·rename_i e; subst e
     simp only [Option.some.injEq,Prod.mk.injEq] at hs
     exact ⟨rfl,by have:=congrArg List.length hs.2; simpa using this.symm⟩
    ·cases hs
   obtain ⟨rfl,rfl⟩:=this
   exact hk _ _ (h.own_nil AL 1)
 | some a =>
   simp
   refine DR (n:=0) (xs:=[]) (h.own_zb AL 1) l.length (by simp) hs (by omega) (by omega) (uK _) ?_
   intro v' σ' h'
   simp at h'
   exact hk _ _ h'
end Go.Ax.O
namespace Go.Ax
def put (l:List UInt8) (a:Nat) (x:List UInt8):List UInt8:=l.take a++x++l.drop (a+x.length)
theorem SS (l:List UInt8) (a:Nat) (x:List UInt8) (h:a+x.length≤l.length):(put l a x).length=l.length:=by
 simp [put]; omega
theorem uW (l x:List UInt8) (a:Nat):splice (bv l) a (bv x)=bv (put l a x):=by simp [splice,put]
abbrev G4:=Nat×List UInt8
structure DM where
 last:List UInt8
 fly:List G4
 fuse:Nat
 off:Bool
structure ADN (n:Nat) (f:G4):Prop where
 len:f.2.length=64
 fit:f.1+64≤256*n
 al:f.1 % 64=0
structure DM.Ok (D:DM) (n:Nat):Prop where
 lo:1≤n
 hi:n≤1024
 len:D.last.length=256*n
 fly:∀ f∈D.fly,ADN n f
def SL (from':Nat) (out:List UInt8) (fs:List G4):List UInt8:=fs.foldl (fun out f=>if from'≤f.1∧f.1<from'+256 then put out (f.1 - from') f.2 else out) out
def BW (at':Nat) (b:List UInt8):List G4:=[(at'*256,(b.drop 0).take 64),(at'*256+64,(b.drop 64).take 64),(at'*256+128,(b.drop 128).take 64),(at'*256+192,(b.drop 192).take 64)]
namespace DM
def new (n:Nat):DM:=⟨List.replicate (256*n) 0,[],0,false⟩
def ready (D:DM) (at':Int):Int:=if D.off then 9 else if at'<0∨(D.last.length / 256:Nat)≤at' then 6 else 0
def burn (D:DM):DM×Bool:=if D.fuse=0 then (D,true) else if D.fuse=1 then ({ D with fuse:=0,off:=true },false) else ({ D with fuse:=D.fuse - 1 },true)
def fling (D:DM) (at':Nat) (b:List UInt8):DM:={ D with fly:=D.fly++BW at' b }
def write (D:DM) (at':Int) (b:List UInt8):DM×Int :=
 if D.ready at'≠0 then (D,D.ready at') else if b.length≠256 then (D,1) else if D.burn.2 then (D.burn.1.fling at'.toNat b,0) else (D.burn.1,9)
def block (D:DM) (at':Nat):List UInt8:=SL (at'*256) ((D.last.drop (at'*256)).take 256) D.fly
end DM
theorem bF (a:Nat) (l:List UInt8) (fs:List G4) (k:Nat) (f:G4) (h:fs[k]?=some f) :
 SL a l (fs.take (k+1))=if a≤f.1∧f.1<a+256 then put (SL a l (fs.take k)) (f.1 - a) f.2 else SL a l (fs.take k):=by
 rw [List.take_add_one,h]; simp [SL]
theorem V0 (a:Nat):∀ (fs:List G4) (l:List UInt8),l.length=256→(∀ f∈fs,f.2.length=64)→(∀ f∈fs,a≤f.1→f.1<a+256→f.1+64≤a+256)→(SL a l fs).length=256
 | [],l,h,_,_=>h
 | f::fs,l,h,hf,hg=>by
   have h1:=hf f (by simp)
   have h2:=hg f (by simp)
   have ih:=V0 a fs (if a≤f.1∧f.1<a+256 then put l (f.1 - a) f.2 else l) (by
    split
    ·rename_i hc
     have:=h2 hc.1 hc.2
     rw [SS _ _ _ (by omega),h]
    ·exact h) (fun g hh=>hf g (by simp [hh])) (fun g hh=>hg g (by simp [hh]))
   exact ih
end Go.Ax
set_option maxRecDepth 100000
namespace Go.Ax.O
open Go.Proofs
variable {l:List AK} {σ:AHeap} {Q:WK}
def yX:List G4→List Value→List Value
 | f::fs,s::ss=>.int .i64 (f.1:Nat)::s::yX fs ss
 | _,_=>[]
def UL:List G4→List Value→AK
 | f::fs,s::ss=>sep (jI s f.2) (UL fs ss)
 | _,_=>emp
theorem wE:∀ (fs:List G4) (ss:List Value) (k:Nat) (f:G4) (s:Value),fs[k]?=some f→ss[k]?=some s→((yX fs ss).drop (k*2)).take 2=[.int .i64 (f.1:Nat),s]
 | [],_,k,f,s,h,_=>by simp at h
 | _::_,[],k,f,s,_,h=>by simp at h
 | f::fs,s::ss,0,f',s',h,h'=>by simp at h h'; subst h; subst h'; simp [yX]
 | f::fs,s::ss,k+1,f',s',h,h'=>by
   simp at h h'
   have:=wE fs ss k f' s' h h'
   simp only [yX]
   rw [show (k+1)*2=k*2+1+1 by omega,List.drop_succ_cons,List.drop_succ_cons]
   exact this
theorem gC:∀ (fs:List G4) (ss:List Value) (gs:List G4) (ts:List Value),fs.length=ss.length→yX (fs++gs) (ss++ts)=yX fs ss++yX gs ts
 | [],[],gs,ts,_=>rfl
 | [],_::_,gs,ts,h=>by simp at h
 | _::_,[],gs,ts,h=>by simp at h
 | f::fs,s::ss,gs,ts,h=>by simp [yX,gC fs ss gs ts (by simpa using h)]
theorem dP:∀ (fs:List G4) (ss:List Value) (gs:List G4) (ts:List Value),fs.length=ss.length→UL (fs++gs) (ss++ts)=sep (UL fs ss) (UL gs ts)
 | [],[],gs,ts,_=>by simp [UL,M9]
 | [],_::_,gs,ts,h=>by simp at h
 | _::_,[],gs,ts,h=>by simp at h
 | f::fs,s::ss,gs,ts,h=>by simp [UL,dP fs ss gs ts (by simpa using h),EO]
theorem AFc:∀ {fs:List G4} {ss:List Value} {l:List AK} {σ:AHeap} {k:Nat} {f:G4} {s:Value},H (UL fs ss::l) σ→fs[k]?=some f→ss[k]?=some s→H (jI s f.2::l) σ
 | [],_,l,σ,k,f,s,h,hf,hs=>by simp at hf
 | _::_,[],l,σ,k,f,s,h,hf,hs=>by simp at hs
 | f::fs,s::ss,l,σ,0,f',s',h,hf,hs=>by
   simp at hf hs; subst hf; subst hs
   simp only [UL,BB] at h
   exact h.second
 | f::fs,s::ss,l,σ,k+1,f',s',h,hf,hs=>by
   simp at hf hs
   simp only [UL,BB] at h
   exact AFc h.tail hf hs
theorem AAd {fs:List G4} {ss:List Value} (h:H l σ) (i:Nat) (hi:l[i]?=some (UL fs ss)) {k:Nat} {f:G4} {s:Value} (hf:fs[k]?=some f) (hs:ss[k]?=some s) :
 ∃ b o cap c,s=.slice (some ⟨b,o,none⟩) f.2.length cap∧HF 1 f.2.length cap∧σ.row b=some c∧(c.drop o).take f.2.length=bv f.2∧o+f.2.length≤c.length:=(AFc (h.front i hi) hf hs).rob0
def qK (b:Nat) (lv fv:Value) (ss:List Value) (D:DM):List AK :=
 [pt b (.cells [lv,fv,.int .i64 D.fuse,.bool D.off] E8 false),AU AL 1 lv D.last.length (bv D.last),AU E9 2 fv D.fly.length (yX D.fly ss),UL D.fly ss]
def Disk (v:Value) (D:DM):AK:=ex fun p:Nat×Value×Value×List Value =>
 sep (HZ (v=.pointer (some ⟨p.1,0,none⟩)∧p.2.2.2.length=D.fly.length)) (AY (qK p.1 p.2.1 p.2.2.1 p.2.2.2 D))
theorem NL {v:Value} {D:DM} {m:List AK} (h:H (Disk v D::m) σ):∃ b lv fv ss,v=.pointer (some ⟨b,0,none⟩)∧ss.length=D.fly.length∧H (qK b lv fv ss D++m) σ:=by
 obtain ⟨p,h⟩:=JM.1 h
 rw [BB] at h
 obtain ⟨⟨h1,h2⟩,h⟩:=BK.1 h
 exact ⟨_,_,_,_,h1,h2,A8.1 h⟩
theorem aT {D:DM} {b:Nat} (lv fv:Value) (ss:List Value) {m:List AK} (hs:ss.length=D.fly.length) (h:H (qK b lv fv ss D++m) σ):H (Disk (.pointer (some ⟨b,0,none⟩)) D::m) σ :=
 JM.2 ⟨(b,lv,fv,ss),by rw [BB]; exact BK.2 ⟨⟨rfl,hs⟩,A8.2 h⟩⟩
theorem ACG {A:AK} {m:List AK} (i:Nat) (hi:l[i]?=some A) (h:H (A::AY (l.set i emp)::m) σ):H (l++m) σ:=by
 rw [AA4]
 have e:AY l=sep A (AY (l.set i emp)):=by
  conv=>lhs; rw [LY l i]
  simp [List.getD,hi]
 rw [e,BB]; exact h
theorem nK (n:Nat) (b:UInt8):List.replicate n (by8 b)=bv (List.replicate n b):=by simp [bv]
theorem ACk {n:Int} (h:H l σ) (hn:1≤n∧n≤1024) (hk:∀ v σ',H (l++[Disk v (.new n.toNat)]) σ'→Q (.tuple #[v,.int .i64 0]) σ'):E TI [.int .i64 n] σ Q:=by
 apply kI; unfold YZ
 have h1:¬ n<1:=by omega
 have h2:¬ 1024<n:=by omega
 simp [h1]
 unfold NA
 simp [h2]
 rw [wrap_i64 (by omega)]
 refine QO (AFy.2 h) (by omega) ?_
 intro b σ1 h3
 simp [splice]
 refine UC h3 ?_
 intro b2 σ2 h4
 refine hk _ _ (AA4.2 ?_)
 have e1:(n*256).toNat=256*n.toNat:=by omega
 rw [e1,PD] at h4
 have h5:=((h4.to_own 1 rfl (n:=256*n.toNat) (z:=1) (by simp) (by unfold A4; omega)).own_nil E9 2).emp_end
 have h6:=h5.pick [2,1,3,4,0] (by decide)
 refine (aT (D:=.new n.toNat) (.slice (some ⟨b,0,none⟩) (256*n.toNat) (256*n.toNat)) (.slice none 0 0) [] rfl ?_:H [_,_] _).pick [1,0] (by decide)
 rw [show (Value.int .u8 0)=by8 0 from rfl,nK] at h6
 simpa [dD,qK,DM.new,UL,yX] using h6
theorem WJ {v:Value} {D:DM} (h:H l σ) (i:Nat) (hi:l[i]?=some (Disk v D)) (hD:D.last.length<1099511627776) (hk:Q (.int .i64 (D.last.length / 256:Nat)) σ):E FM [v] σ Q:=by
 obtain ⟨b,lv,fv,ss,rfl,hs,h⟩:=NL (h.out i hi)
 apply TZ; unfold J6
 have r0:=BO (n:=1) (o:=0) (h.row 0 rfl)
 obtain ⟨_,_,a,c,rfl⟩:=h.own_src 1 rfl
 simp [r0]
 rw [wrap_i64 (by omega)]
 simpa using hk
theorem AAO {v:Value} {D:DM} (h:H l σ) (i:Nat) (hi:l[i]?=some (Disk v D)) (hk:Q (.bool D.off) σ):E OC [v] σ Q:=by
 obtain ⟨b,lv,fv,ss,rfl,hs,h⟩:=NL (h.out i hi)
 apply YW; unfold NW
 have r3:=BO (n:=1) (o:=3) (h.row 0 rfl)
 simp [r3]
 exact hk
theorem rH {v:Value} {D:DM} {n:Nat} {a:Int} (h:H l σ) (i:Nat) (hi:l[i]?=some (Disk v D)) (hD:D.Ok n) (hk:Q (.int .i64 (D.ready a)) σ):E IK [v,.int .i64 a] σ Q:=by
 have h0:=h
 have hv0:=hi
 obtain ⟨b,lv,fv,ss,rfl,hs,h⟩:=NL (h.out i hi)
 have hlen:=hD.len
 have hn:=hD.lo
 have hn2:=hD.hi
 apply UK; unfold LD
 have r0:=BO (n:=1) (o:=0) (h.row 0 rfl)
 have r3:=BO (n:=1) (o:=3) (h.row 0 rfl)
 obtain ⟨_,_,x,c,rfl⟩:=h.own_src 1 rfl
 have hz:¬ D.last.length=0:=by omega
 simp [r0]
 unfold FW
 have hz2:D.last≠[]:=fun e=>by rw [e] at hz; simp at hz
 simp [hz2,r3]
 unfold DM.ready at hk
 cases hoff:D.off with
 | true=>simpa [hoff] using hk
 | false =>
   simp only [hoff,Bool.false_eq_true,if_false] at hk
   simp
   refine nF (fun h1=>?_) fun h1=>?_
   ·unfold EH; simpa [h1] using hk
   ·refine WJ h0 i hv0 (by omega) ?_
    unfold EH
    simp
    refine VH (fun h2=>?_) fun h2=>?_
    ·rw [if_pos (.inr (by omega))] at hk; exact hk
    ·rw [if_neg (by omega)] at hk; exact hk
theorem AC6 {v:Value} {D:DM} {g:FuncId} {a c:Array Value} (h:H l σ) (i:Nat) (hi:l[i]?=some (Disk v D)) (hf:D.fuse<9223372036854775808)
 (hw:D.burn.2=true→∀ σ',H (l.set i (Disk v D.burn.1)) σ'→E g (a.toList++[]++c.toList) σ' fun _ τ=>Q (.int .i64 0) τ)
 (ho:D.burn.2=false→∀ σ',H (l.set i (Disk v D.burn.1)) σ'→Q (.int .i64 9) σ'):E MH [v,.func (.func g) a c] σ Q:=by
 have h0:=h
 obtain ⟨b,lv,fv,ss,rfl,hs,h⟩:=NL (h.out i hi)
 apply W0; unfold L0
 have r2:=BO (n:=1) (o:=2) (h.row 0 rfl)
 simp [r2]
 refine VH (fun h1=>?_) fun h1=>?_
 ·rw [wrap_i64 (by omega)]
  refine FU h 0 rfl rfl (by simp) ?_
  intro σ1 h2
  have r2:=BO (n:=1) (o:=2) (h2.row 0 rfl)
  simp [r2]
  refine VH (fun h3=>?_) fun h3=>?_
  ·refine FU h2 0 rfl rfl (by simp) ?_
   intro σ2 h4
   have h5:D.fuse=1:=by omega
   have hb:D.burn=({ D with fuse:=0,off:=true },false):=by simp [DM.burn,h5]
   refine ho (by rw [hb]) _ (H.in' i hi ?_)
   rw [hb]
   refine aT lv fv ss hs ?_
   have e:(D.fuse:Int) - 1=0:=by omega
   rw [e] at h4
   exact h4
  ·unfold GV
   simp
   have hb:D.burn=({ D with fuse:=D.fuse - 1 },true):=by
    unfold DM.burn
    rw [if_neg (by omega),if_neg (by omega)]
   have:=hw (by rw [hb]) σ1 (by
    refine H.in' i hi ?_
    rw [hb]
    refine aT lv fv ss hs ?_
    have e:(D.fuse:Int) - 1=((D.fuse - 1:Nat):Int):=by omega
    rw [e] at h2
    exact h2)
   simpa using this
 ·unfold GV
  simp
  have hb:D.burn=(D,true):=by
   unfold DM.burn
   rw [if_pos (by omega)]
  have:=hw (by rw [hb]) σ (by
   have:l.set i (Disk (.pointer (some ⟨b,0,none⟩)) D)=l:=by
    apply List.ext_getElem?
    intro j
    rw [List.getElem?_set]
    split
    ·rename_i e; subst e; split
     ·exact hi.symm
     ·rename_i hh; exact absurd (List.getElem?_eq_some_iff.1 hi).1 hh
    ·rfl
   rw [hb]; simp only [this]; exact h0)
  simpa using this
end Go.Ax.O
set_option maxRecDepth 100000
namespace Go.Ax.O
open Go.Proofs
variable {l:List AK} {σ:AHeap} {Q:WK}
theorem ABQ {v:Value} {D:DM} {n:Nat} {a:Int} (h:H l σ) (i:Nat) (hi:l[i]?=some (Disk v D)) (hD:D.Ok n) (hm:D.fly.length<1099511627776) (hr:D.ready a=0)
 (hk:∀ w σ',H (l++[AU AL 1 w 256 (bv (D.block a.toNat))]) σ'→Q (.tuple #[w,.int .i64 0]) σ'):E ML [v,.int .i64 a] σ Q:=by
 apply W8; unfold MJ
 refine rH h i hi hD ?_
 simp [hr]
 have hlen:=hD.len
 have hn:=hD.lo
 have hn2:=hD.hi
 have ha:0≤a∧a<n:=by
  unfold DM.ready at hr
  split at hr
  ·simp at hr
  ·split at hr
   ·simp at hr
   ·rename_i hx
    have:D.last.length / 256=n:=by omega
    omega
 have h0:=h
 obtain ⟨b,lv,fv,ss,rfl,hs,h⟩:=NL (h.out i hi)
 have r0:=BO (n:=1) (o:=0) (h.row 0 rfl)
 have r1:=BO (n:=1) (o:=1) (h.row 0 rfl)
 obtain ⟨_,_,x,c,rfl⟩:=h.own_src 2 rfl
 obtain ⟨lb,lc,rfl,hcap,rest,hrow⟩:=h.own_form 1 rfl (by omega)
 obtain ⟨A,rfl⟩:∃ A:Nat,a=A:=⟨a.toNat,by omega⟩
 simp at hk
 rw [wrap_i64 (by omega),wrap_i64 (by omega)]
 obtain ⟨dc,hsl,_⟩:=zB (z:=1) (b:=lb) (o:=0) (lo:=(A:Int)*256) (hi:=(A:Int)*256+256) (k:=.i64) (k':=.i64) hcap (by omega)
 have e1:((A:Int)*256+256).toNat - ((A:Int)*256).toNat=256:=by omega
 have e2:((A:Int)*256).toNat=A*256:=by omega
 rw [e1,e2] at hsl
 simp [r0,hsl]
 refine NE (bs:=(D.last.drop (A*256)).take 256) h (n:=256) ?_ (by omega) ?_
 ·rw [FO hrow (by simp; omega),List.drop_append_of_le_length (by simp; omega),List.take_append_of_le_length (by simp; omega)]; simp
 intro w σ1 h1
 have r1:=BO (n:=1) (o:=1) (h1.row 0 rfl)
 simp [r1]
 let J:Nat→List AK:=fun k=>pt b (.cells [.slice (some ⟨lb,0,none⟩) D.last.length lc,.slice x D.fly.length c,.int .i64 D.fuse,.bool D.off] E8 false)::AU AL 1 (.slice (some ⟨lb,0,none⟩) D.last.length lc) D.last.length (bv D.last)::AU E9 2 (.slice x D.fly.length c) D.fly.length (yX D.fly ss)::UL D.fly ss::[AY (l.set i emp),AU AL 1 w 256 (bv (SL (A*256) ((D.last.drop (A*256)).take 256) (D.fly.take k)))]
 obtain ⟨wb,wc,rfl,hwcap,_⟩:=h1.own_form 5 rfl (by omega)
 refine ⟨fun m x0 x1 x7 x8 x9 τ=>∃ k:Nat,m=D.fly.length - k∧k≤D.fly.length∧x0=.int .i64 ((A:Int)*256)∧x1=.slice (some ⟨wb,0,none⟩) 256 wc∧x7=.slice x D.fly.length c∧x8=.int .i64 D.fly.length∧x9=.int .i64 k∧H (J k) τ,⟨_,0,rfl,by omega,rfl,rfl,rfl,rfl,rfl,?_⟩,?_⟩
 ·exact h1
 ·rintro m _ _ _ _ _ τ ⟨k,rfl,hkl,rfl,rfl,rfl,rfl,rfl,h⟩
  suffices hb:∀ N:Value→Value→Value→Value→Value→AHeap→Prop,(∀ τ',k<D.fly.length→H (J (k+1)) τ'→N (.int .i64 ((A:Int)*256)) (.slice (some ⟨wb,0,none⟩) 256 wc) (.slice x D.fly.length c) (.int .i64 D.fly.length) (.int .i64 (k+1:Nat)) τ')→JK N Q (.int .i64 ((A:Int)*256)) (.slice (some ⟨wb,0,none⟩) 256 wc) (.slice x D.fly.length c) (.int .i64 D.fly.length) (.int .i64 k) τ from
   hb _ fun τ' hlt h'=>⟨_,by omega,k+1,rfl,by omega,rfl,rfl,rfl,rfl,rfl,h'⟩
  intro N hN
  unfold JK
  simp
  have hov:(SL (A*256) ((D.last.drop (A*256)).take 256) (D.fly.take k)).length=256:=by
   refine V0 _ _ _ (by simp; omega) (fun f hf=>(hD.fly f (List.mem_of_mem_take hf)).len) fun f hf g1 g2=>?_
   have:=(hD.fly f (List.mem_of_mem_take hf)).al
   omega
  refine VH (fun h1=>?_) fun h1=>?_
  ·obtain ⟨b2,e1,e2,e3⟩:=h.own_elem 2 rfl (k:=k) h1
   have hf:=List.getElem?_eq_getElem h1
   have hsk:=List.getElem?_eq_getElem (show k<ss.length by omega)
   have hfo:=hD.fly _ (List.getElem_mem h1)
   rw [wE _ _ k _ _ hf hsk] at e2
   have hfit:=hfo.fit
   have hl64:=hfo.len
   have hal:=hfo.al
   simp [e1,e2]
   refine UC h ?_
   intro tb σ1 h2
   obtain ⟨fb,fo,fcap,fc,hse,hfcap,hfr,hfd,hfl⟩:=AAd h2 3 rfl hf hsk
   refine VJ h2 6 rfl (by simp) (by omega) (by simp [hse]) (by simp) ?_
   intro σ2 h3
   obtain ⟨fb,fo,fcap,fc,hse,hfcap,hfr,hfd,hfl⟩:=AAd h3 3 rfl hf hsk
   have t0:=BO (n:=1) (o:=0) (h3.row 6 rfl)
   have t1:=BO (n:=1) (o:=1) (h3.row 6 rfl)
   have hfin:∀ τ,H (J (k+1)) τ→F3 N Q (.int .i64 k) (.int .i64 ((A:Int)*256)) (.slice (some ⟨wb,0,none⟩) 256 wc) (.slice x D.fly.length c) (.int .i64 D.fly.length) τ:=by
    intro τ hτ
    unfold F3
    simp
    rw [wrap_i64 (by omega)]
    exact hN _ h1 hτ
   simp [t0,splice]
   refine nF (fun g1=>?_) fun g1=>?_
   ·try simp [t0,splice]
    rw [wrap_i64 (by omega)]
    unfold EF
    simp
    refine VH (fun g2=>?_) fun g2=>?_
    ·have g1':A*256≤D.fly[k].1:=by omega
     obtain ⟨dc,hsl,_⟩:=O6 (z:=1) (b:=wb) (o:=0) (lo:=((D.fly[k].1 - A*256:Nat):Int)) (k:=.i64) hwcap (by omega)
     have hw:IntKind.i64.wrap ((D.fly[k].1:Int) - (A:Int)*256)=((D.fly[k].1 - A*256:Nat):Int):=by rw [wrap_i64 (by omega)]; omega
     simp only [Int.toNat_natCast] at hsl
     simp [t0,t1,splice,hw,hsl,hse]
     have hmin:Nat.min D.fly[k].2.length (256 - (D.fly[k].1 - A*256))=64:=by rw [hl64]; exact Nat.min_eq_left (by omega)
     refine rD (ys:=bv D.fly[k].2) h3 5 rfl (by omega) (by rw [hmin,vM (n:=64) hfr hfd hfl (by omega),List.take_of_length_le (by omega)]) (uK _) (by simp; omega) ?_
     intro σ3 h4
     refine hfin _ ?_
     simp only [J]
     rw [bF _ _ _ _ _ hf,if_pos (by omega),← uW]
     exact h4.pick [0,1,2,3,4,5] (by decide)
    ·refine hfin _ ?_
     simp only [J]
     rw [bF _ _ _ _ _ hf,if_neg (by omega)]
     exact h3.pick [0,1,2,3,4,5] (by decide)
   ·try simp
    unfold EF
    simp
    refine hfin _ ?_
    simp only [J]
    rw [bF _ _ _ _ _ hf,if_neg (by omega)]
    exact h3.pick [0,1,2,3,4,5] (by decide)
  ·have:k=D.fly.length:=by omega
   subst this
   refine hk _ _ (ACG i hi (aT (.slice (some ⟨lb,0,none⟩) D.last.length lc) (.slice x D.fly.length c) ss hs ?_))
   simp only [J,List.take_length] at h
   exact h
theorem SY {i:Nat} {e z n:Nat} {v:Value} {xs:List Value} (h:H l σ) (hi:l[i]?=some (AU e z v n xs)):one v=true:=by
 obtain ⟨_,_,a,c,rfl⟩:=h.own_src i hi; rfl
theorem xS (a:Nat) (bs:List UInt8) (k:Nat) (h:k<4):(BW a bs)[k]?=some (a*256+64*k,(bs.drop (64*k)).take 64):=by
 have:k=0∨k=1∨k=2∨k=3:=by omega
 rcases this with rfl | rfl | rfl | rfl<;>rfl
theorem tG (a:Nat) (bs:List UInt8) (k:Nat) (h:k<4):(BW a bs).take (k+1)=(BW a bs).take k++[(a*256+64*k,(bs.drop (64*k)).take 64)]:=by
 rw [List.take_add_one,xS a bs k h]; rfl
theorem zP {v bv':Value} {D:DM} {n a:Nat} {bs:List UInt8} {x0 x1 x2:Nat} (h:H l σ) (i:Nat) (hi:l[i]?=some (Disk v D)) (hD:D.Ok n) (hm:D.fly.length<1099511627776)
 (i0:Nat) (h0:l[i0]?=some (pt x0 (.cells [bv'] Y0 false))) (i1:Nat) (h1:l[i1]?=some (pt x1 (.cells [v] MU false))) (i2:Nat) (h2:l[i2]?=some (pt x2 (.cells [.int .i64 (a:Nat)] BQ false)))
 (n0:i0≠i) (n1:i1≠i) (n2:i2≠i) (hb:Rd σ bv' bs) (hbs:bs.length=256) (ha:a<n)
 (hk:∀ σ',H (l.set i (Disk v (D.fling a bs))) σ'→Q (.tuple #[]) σ'):E IN [.pointer (some ⟨x0,0,none⟩),.pointer (some ⟨x1,0,none⟩),.pointer (some ⟨x2,0,none⟩)] σ Q:=by
 have hlen:=hD.len
 have hn:=hD.lo
 have hn2:=hD.hi
 have r0:=BO (n:=1) (o:=0) (h.row i0 h0)
 apply RN; unfold IS
 obtain ⟨hsrc,⟨ba,bc,rfl⟩,_⟩:=hb
 simp [r0]
 obtain ⟨b,lv,fv,ss,rfl,hs,h⟩:=NL (h.out i hi)
 refine NE h hsrc (by omega) ?_
 intro w σ1 h3
 obtain ⟨wb,wc,rfl,hwc,_⟩:=h3.own_form 5 rfl (by omega)
 -- the clone is never written again
 obtain ⟨rest,e5,opn5,h4⟩:∃ rest e opn,H [pt b (.cells [lv,fv,.int .i64 D.fuse,.bool D.off] E8 false),AU AL 1 lv D.last.length (bv D.last),AU E9 2 fv D.fly.length (yX D.fly ss),UL D.fly ss,AY (l.set i emp),ro wb (.cells (bv bs++rest) e opn)] σ1:=by
  rcases FT.1 (h3.front 5 rfl) with ⟨⟨e,_⟩,_⟩ | ⟨b',c',opn,rest,h5,_,_,hv,_,_⟩
  ·omega
  ·cases hv
   exact ⟨rest,5,opn,(h5.freeze 0 rfl).pick [1,2,3,4,5,0] (by decide)⟩
 let J:Nat→Value→List Value→List AK:=fun k fv ss=>[pt b (.cells [lv,fv,.int .i64 D.fuse,.bool D.off] E8 false),AU AL 1 lv D.last.length (bv D.last),AU E9 2 fv (D.fly.length+k) (yX (D.fly++(BW a bs).take k) ss),UL (D.fly++(BW a bs).take k) ss,AY (l.set i emp),ro wb (.cells (bv bs++rest) e5 opn5)]
 refine ⟨fun m y1 y2 y3 y4 τ=>∃ k:Nat,m=4 - k∧k≤4∧y1=.pointer (some ⟨x1,0,none⟩)∧y2=.pointer (some ⟨x2,0,none⟩)∧y3=.slice (some ⟨wb,0,none⟩) bs.length wc∧y4=.int .i64 (64*k:Nat)∧∃ fv ss,ss.length=D.fly.length+k∧H (J k fv ss) τ,⟨_,0,rfl,by omega,rfl,rfl,rfl,rfl,fv,ss,hs,?_⟩,?_⟩
 ·simpa [J] using h4
 ·rintro m _ _ _ _ τ ⟨k,rfl,hkl,rfl,rfl,rfl,rfl,fv,ss,hs,h⟩
  suffices hb:∀ N:Value→Value→Value→Value→AHeap→Prop,(∀ τ' fv' ss',k<4→ss'.length=D.fly.length+(k+1)→H (J (k+1) fv' ss') τ'→N (.pointer (some ⟨x1,0,none⟩)) (.pointer (some ⟨x2,0,none⟩)) (.slice (some ⟨wb,0,none⟩) bs.length wc) (.int .i64 (64*(k+1):Nat)) τ')→G6 N Q (.pointer (some ⟨x1,0,none⟩)) (.pointer (some ⟨x2,0,none⟩)) (.slice (some ⟨wb,0,none⟩) bs.length wc) (.int .i64 (64*k:Nat)) τ from
   hb _ fun τ' fv' ss' hlt hs' h'=>⟨_,by omega,k+1,rfl,by omega,rfl,rfl,rfl,rfl,fv',ss',hs',h'⟩
  intro N hN
  have hl:∀ {τ:AHeap} {m:List AK},H (m++[AY (l.set i emp)]) τ→True:=fun _=>trivial
  have hx:∀ {τ:AHeap},H (l.set i emp) τ→AF false 1 (.pointer (some ⟨x1,0,none⟩)) τ=some (.pointer (some ⟨b,0,none⟩))∧AF false 1 (.pointer (some ⟨x2,0,none⟩)) τ=some (.int .i64 (a:Nat)):=by
   intro τ hτ
   have g1:(l.set i emp)[i1]?=some (pt x1 (.cells [.pointer (some ⟨b,0,none⟩)] MU false)):=by rw [List.getElem?_set_ne (Ne.symm n1)]; exact h1
   have g2:(l.set i emp)[i2]?=some (pt x2 (.cells [.int .i64 (a:Nat)] BQ false)):=by rw [List.getElem?_set_ne (Ne.symm n2)]; exact h2
   have l1:=BO (n:=1) (o:=0) (hτ.row i1 g1)
   have l2:=BO (n:=1) (o:=0) (hτ.row i2 g2)
   exact ⟨by rw [l1]; rfl,by rw [l2]; rfl⟩
  unfold G6
  simp
  refine VH (fun hlt=>?_) fun hlt=>?_
  ·have hk4:k<4:=by omega
   obtain ⟨l1,l2⟩:=hx (h.beside 4 rfl)
   have b1:=BO (n:=1) (o:=1) (h.row 0 rfl)
   obtain ⟨_,_,fa,fc,rfl⟩:=h.own_src 2 rfl
   have w1:IntKind.i64.wrap ((a:Int)*256)=(a:Int)*256:=wrap_i64 (by omega)
   have w2:IntKind.i64.wrap ((a:Int)*256+64*(k:Int))=((a*256+64*k:Nat):Int):=by rw [wrap_i64 (by omega)]; omega
   have w3:IntKind.i64.wrap (64*(k:Int)+64)=((64*(k+1):Nat):Int):=by rw [wrap_i64 (by omega)]; omega
   have sl:=vU (z:=1) (b:=wb) (o:=0) (n:=bs.length) (c:=wc) (lo:=64*(k:Int)) (hi:=((64*(k+1):Nat):Int)) (mx:=((64*(k+1):Nat):Int)) (k:=.i64) (k':=.i64) (k'':=.i64) hwc (by omega)
   have z1:(64*(k:Int)).toNat=64*k:=by omega
   have z2:((64*(k+1):Nat):Int).toNat - 64*k=64:=by omega
   rw [z1,z2,Nat.zero_add,Nat.mul_one] at sl
   simp only [l1,l2,b1,w1,w2,w3,A5,ED,AO,vB,ACi,sl,Nat.zero_add,List.getElem?_cons_succ,List.getElem?_cons_zero]
   generalize hat:a*256+64*k=at'
   simp [splice]
   refine kW h (by rfl) (cs:=[.int .i64 (at':Nat),.slice (some ⟨wb,64*k,none⟩) 64 64]) (by simp [reps,splice]) ?_
   intro nb σ2 h5
   obtain ⟨l1,l2⟩:=hx (h5.beside 4 rfl)
   have b1:=BO (n:=1) (o:=1) (h5.row 0 rfl)
   simp [l1,b1,AX,xE,aQ]
   refine DR h5 2 rfl (FO (n:=1) (z:=2) (h5.row 6 rfl) (by simp)) (by omega) (by omega) (by simp) ?_
   intro fv' σ3 h6
   obtain ⟨l1,l2⟩:=hx (h6.beside 4 rfl)
   have hfv:=SY h6 (i:=2) rfl
   simp [l1]
   refine FU (o:=1) h6 0 rfl hfv (by simp) ?_
   intro σ4 h7
   have hrob:=(h7.dup 5 rfl (Y5.ro _ _)).unsnoc
   have h8:=nQ (o:=64*k) (cap:=64) (x:=(bs.drop (64*k)).take 64) (by simp [hbs]; rw [show min 64 (256 - 64*k)=64 by omega]; exact HF.exact (by unfold A4; omega)) (by
    simp only [List.length_take,List.length_drop,hbs]
    rw [show min 64 (256 - 64*k)=64 by omega,List.drop_append_of_le_length (by simp; omega),List.take_append_of_le_length (by simp; omega)]; simp) (by simp [hbs]; omega) hrob
   have h9:=h8.pick [1,2,3,4,0,5,6] (by decide)
   refine hN σ4 fv' (ss++[.slice (some ⟨wb,64*k,none⟩) 64 64]) hk4 (by simp [hs]; omega) ?_
   have hlk:((BW a bs).take k).length=k:=by simp [BW]; omega
   have e64:((bs.drop (64*k)).take 64).length=64:=by simp [hbs]; omega
   rw [e64] at h9
   simp only [J]
   rw [tG a bs k hk4,← List.append_assoc,gC _ _ _ _ (by simp [hlk,hs]),dP _ _ _ _ (by simp [hlk,hs]),hat]
   have eF:∀ (p:Nat) (y:List UInt8) (s:Value),UL [(p,y)] [s]=jI s y:=fun p y s=>by
    simp only [UL]; rw [PJ,M9]
   rw [eF]
   have h10:=(BB.2 (h9.pick [3,4,0,1,2,5,6] (by decide))).pick [1,2,3,0,4,5] (by decide)
   exact h10
  ·obtain rfl:k=4:=by omega
   refine hk _ (H.in' i hi (aT lv fv ss ?_ ?_))
   ·simpa [DM.fling,BW] using hs
   ·have:=h.pick [0,1,2,3,4] (by decide)
    simpa [Ax.dD,J,qK,DM.fling,BW] using this
theorem AAI {v bv':Value} {D:DM} {n:Nat} {a:Int} {bs:List UInt8} (h:H l σ) (i:Nat) (hi:l[i]?=some (Disk v D)) (hD:D.Ok n) (hf:D.fuse<9223372036854775808) (hm:D.fly.length<1099511627776) (hl:bs.length≤140737488355328)
 (hb:∀ τ,H (l.set i emp) τ→Rd τ bv' bs) (hk:∀ σ',H (l.set i (Disk v (D.write a bs).1)) σ'→Q (.int .i64 (D.write a bs).2) σ'):E KF [v,.int .i64 a,bv'] σ Q:=by
 have hlt:=(List.getElem?_eq_some_iff.1 hi).1
 obtain ⟨ba,bc,rfl⟩:=(hb σ (by
  have:=(h.front i hi).tail
  exact this)).form
 obtain ⟨pb,hv⟩:∃ pb,v=.pointer (some ⟨pb,0,none⟩):=by
  obtain ⟨b,_,_,_,e,_⟩:=NL (h.out i hi); exact ⟨b,e⟩
 subst hv
 have h':=h.out i hi
 apply U8; unfold LG
 simp
 refine UC h' ?_
 intro x1 σ1 h1
 refine UC h1 ?_
 intro x2 σ2 h2
 refine UC h2 ?_
 intro x0 σ3 h3
 have q1:=BO (n:=1) (o:=0) (h3.row 2 rfl)
 have q2:=BO (n:=1) (o:=0) (h3.row 3 rfl)
 have q0:=BO (n:=1) (o:=0) (h3.row 4 rfl)
 simp [q1,q2]
 have back:∀ {τ D'},H [Disk (.pointer (some ⟨pb,0,none⟩)) D',AY (l.set i emp),pt x1 (.cells [.pointer (some ⟨pb,0,none⟩)] MU false),pt x2 (.cells [.int .i64 a] BQ false),pt x0 (.cells [.slice ba bs.length bc] Y0 false)] τ→H (l.set i (Disk (.pointer (some ⟨pb,0,none⟩)) D')) τ :=
  fun h=>H.in' i hi (h.pick [0,1] (by decide))
 refine rH h3 0 rfl hD ?_
 simp
 by_cases hr:D.ready a=0
 ·simp [hr,q0]
  by_cases hbl:bs.length=256
  ·have hz:(256:Int)=(bs.length:Int):=by omega
   simp [hbl,q1]
   refine AC6 h3 0 rfl hf (fun hb1 σ4 h4=>?_) fun hb1 σ4 h4=>?_
   ·have hD2:D.burn.1.Ok n:=by
     unfold DM.burn; split
     ·exact hD
     ·split<;>exact ⟨hD.lo,hD.hi,hD.len,hD.fly⟩
    have hfl:D.burn.1.fly=D.fly:=by unfold DM.burn; split; rfl; split<;>rfl
    have ha:0≤a∧a<n:=by
     have hlen:=hD.len
     unfold DM.ready at hr
     split at hr
     ·simp at hr
     ·split at hr
      ·simp at hr
      ·rename_i hx
       have:D.last.length / 256=n:=by omega
       omega
    obtain ⟨A,rfl⟩:∃ A:Nat,a=A:=⟨a.toNat,by omega⟩
    refine zP (bs:=bs) h4 0 rfl hD2 (by rw [hfl]; exact hm) 4 rfl 2 rfl 3 rfl (by decide) (by decide) (by decide) (hb _ (h4.beside 1 rfl)) hbl (by omega) ?_
    intro σ5 h5
    have e:D.write A bs=(D.burn.1.fling A bs,0):=by simp [DM.write,hr,hbl,hb1]
    rw [e] at hk
    exact hk _ (back h5)
   ·have e:D.write a bs=(D.burn.1,9):=by simp [DM.write,hr,hbl,hb1]
    rw [e] at hk
    exact hk _ (back h4)
  ·have:¬ (bs.length:Int)=256:=by omega
   simp [this]
   have e:D.write a bs=(D,1):=by simp [DM.write,hr,hbl]
   rw [e] at hk
   exact hk _ (back h3)
 ·simp [hr]
  have e:D.write a bs=(D,D.ready a):=by simp [DM.write,hr]
  rw [e] at hk
  exact hk _ (back h3)
end Go.Ax.O
set_option maxRecDepth 100000
namespace Go.Ax.O
open Go.Proofs Go.RowKit
variable {l m:List AK} {σ:AHeap} {Q:WK}
theorem eV (L:List UInt8) (a:Nat) (x:List UInt8) (h:a+x.length≤L.length) (i:Nat):(put L a x)[i]?=if a≤i∧i<a+x.length then x[i - a]? else L[i]?:=by
 unfold put
 rw [List.append_assoc,List.getElem?_append]
 simp only [List.length_take,Nat.min_eq_left (show a≤L.length by omega)]
 split
 ·rename_i hi
  rw [if_neg (by omega),List.getElem?_take,if_pos hi]
 ·rw [List.getElem?_append]
  split
  ·rw [if_pos (by omega)]
  ·rw [if_neg (by omega),List.getElem?_drop]; congr 1; omega
theorem ABK {n a:Nat} {bs:List UInt8} (ha:a<n) (hb:bs.length=256):∀ f∈BW a bs,ADN n f:=by
 intro f hf
 simp only [BW,List.mem_cons,List.not_mem_nil,or_false] at hf
 rcases hf with rfl | rfl | rfl | rfl<;>refine ⟨by simp [hb],?_,?_⟩<;>simp<;>omega
theorem rK {D:DM} {n:Nat} (hD:D.Ok n) {a:Nat} (ha:a<n):D.ready a=if D.off then 9 else 0:=by
 unfold DM.ready
 have:=hD.len
 have:D.last.length / 256=n:=by omega
 cases D.off with
 | true=>rfl
 | false=>simp only [Bool.false_eq_true,if_false]; rw [if_neg (by omega)]
theorem ABO {D:DM} {n a:Nat} {bs:List UInt8} (hD:D.Ok n) (ha:a<n) (hb:bs.length=256):(D.fling a bs).Ok n :=
 ⟨hD.lo,hD.hi,hD.len,fun f hf=>by
  simp only [DM.fling,List.mem_append] at hf
  rcases hf with hf | hf
  ·exact hD.fly f hf
  ·exact ABK ha hb f hf⟩
theorem WT {D:DM} {n a:Nat} (hD:D.Ok n) (ha:a<n):(D.block a).length=256:=by
 have:=hD.len
 refine V0 _ _ _ (by simp; omega) (fun f hf=>(hD.fly f hf).len) fun f hf g1 g2=>?_
 have:=(hD.fly f hf).al
 omega
theorem iQ {v:Value} {n:Nat} {x:List UInt8} (hn:0<n) (h:H (AU AL 1 v n (bv x)::m) σ):∃ b c,v=.slice (some ⟨b,0,none⟩) n c∧HF 1 n c∧∀ o k c',HF 1 k c'→o+k≤n→H (jI (.slice (some ⟨b,o,none⟩) k c') ((x.drop o).take k)::m) σ:=by
 rcases FT.1 h with ⟨⟨rfl,_⟩,_⟩ | ⟨b,c,opn,rest,hp,hx,hr,rfl,hn2,ho⟩
 ·omega
 ·refine ⟨b,c,rfl,⟨hn2,by rcases ho with ⟨_,_,x⟩ | x; exact .inr x; exact .inl x⟩,fun o k c' hc hk=>?_⟩
  have hxl:x.length=n:=by simpa using hx
  have hl:((x.drop o).take k).length=k:=by simp; omega
  have:=nQ (b:=b) (o:=o) (cap:=c') (x:=(x.drop o).take k) (c:=bv x++rest) (e:=AL) (opn:=opn) (by rw [hl]; exact hc) (by
   rw [hl,List.drop_append_of_le_length (by simp; omega),List.take_append_of_le_length (by simp; omega)]; simp) (by rw [hl]; simp; omega) hp.freeze0
  rw [hl] at this
  exact this
theorem pE {D:DM} {n a:Nat} {bs:List UInt8} (hD:D.Ok n) (ho:D.off=false) (hf:D.fuse=0) (ha:a<n) (hb:bs.length=256):D.write a bs=(D.fling a bs,0):=by
 have hr:=rK hD ha
 rw [ho] at hr
 simp at hr
 simp [DM.write,hr,hb,DM.burn,hf]
theorem AFo {B:AK} {i j:Nat} (hj:l[j]?=some B) (hij:i≠j):AY (l.set i emp)=sep B (AY ((l.set i emp).set j emp)):=by
 conv=>lhs; rw [LY _ j]
 simp [List.getD,List.getElem?_set,hij,hj]
end Go.Ax.O
namespace Go.Ax
section
variable {α:Type} (key:α→Nat)
def jF (R:List α) (i j:Nat):List α :=
 match R[i]?,R[j]? with
 | some x,some y=>(R.set i y).set j x
 | _,_=>R
variable {key}
theorem sG {R:List α} {i j:Nat} (hi:i<R.length) (hj:j<R.length):jF R i j=(R.set i R[j]).set j R[i]:=by
 unfold jF
 rw [List.getElem?_eq_getElem hi,List.getElem?_eq_getElem hj]
theorem J3 (R:List α) (i j:Nat):(jF R i j).length=R.length:=by
 unfold jF; split<;>simp
theorem QD {R:List α} {i j:Nat} (hi:i<R.length) (hj:j<R.length) (k:Nat):(jF R i j)[k]?=if k=j then R[i]? else if k=i then R[j]? else R[k]?:=by
 rw [sG hi hj,List.getElem?_set,List.getElem?_set]
 by_cases h1:j=k
 ·subst h1; simp [hj,List.getElem?_eq_getElem hi]
 ·rw [if_neg h1,if_neg (Ne.symm h1)]
  by_cases h2:i=k
  ·subst h2; simp [hi,List.getElem?_eq_getElem hj]
  ·rw [if_neg h2,if_neg (Ne.symm h2)]
theorem UR (R:List α) {i j:Nat} (hi:i<R.length) (hj:j<R.length):(jF R i j).Perm R:=by
 rw [sG hi hj]
 exact List.set_set_perm hi hj
variable (key)
def Ky (R:List α) (k:Nat):Nat:=((R[k]?).map key).getD 0
variable {key}
theorem YO {R:List α} {i j:Nat} (hi:i<R.length) (hj:j<R.length) (k:Nat):Ky key (jF R i j) k=if k=j then Ky key R i else if k=i then Ky key R j else Ky key R k:=by
 unfold Ky
 rw [QD hi hj]
 split
 ·rfl
 ·split<;>rfl
variable (key)
def LH (R:List α) (n i:Nat):Prop:=(∀ k,0<k→k<n→(k - 1) / 2≠i→Ky key R ((k - 1) / 2)≤Ky key R k)∧(∀ k,0<k→k<n→(k - 1) / 2=i→0<i→Ky key R ((i - 1) / 2)≤Ky key R k)
def C0 (R:List α) (n:Nat):Prop:=∀ k,0<k→k<n→Ky key R ((k - 1) / 2)≤Ky key R k
variable {key}
theorem LH.step {R:List α} {n i j:Nat} (h:LH key R n i) (hn:n≤R.length) (hj:j<n) (hp:(j - 1) / 2=i) (hj0:0<j) (hmin:∀ k,0<k→k<n→(k - 1) / 2=i→Ky key R j≤Ky key R k) (hlt:Ky key R j<Ky key R i):LH key (jF R i j) n j:=by
 obtain ⟨h1,h2⟩:=h
 have hij:i<j:=by omega
 refine ⟨fun k hk0 hkn hpk=>?_,fun k hk0 hkn hpk _=>?_⟩
 ·rw [YO (by omega) (by omega),YO (by omega) (by omega)]
  by_cases e1:k=j
  ·subst e1
   rw [if_neg (by omega),if_pos hp,if_pos rfl]; omega
  ·by_cases e2:k=i
   ·subst e2
    rw [if_neg (by omega),if_neg (by omega),if_neg (by omega),if_pos rfl]
    exact h2 j hj0 hj hp hk0
   ·rw [if_neg hpk,if_neg e1,if_neg e2]
    by_cases e3:(k - 1) / 2=i
    ·rw [if_pos e3]; exact hmin k hk0 hkn e3
    ·rw [if_neg e3]; exact h1 k hk0 hkn e3
 ·rw [YO (by omega) (by omega),YO (by omega) (by omega)]
  rw [if_neg (by omega),if_pos hp,if_neg (by omega),if_neg (by omega)]
  have:=h1 k hk0 hkn (by omega)
  rw [hpk] at this
  exact this
theorem LH.done {R:List α} {n i:Nat} (h:LH key R n i) (hmin:∀ k,0<k→k<n→(k - 1) / 2=i→Ky key R i≤Ky key R k):C0 key R n:=by
 intro k hk0 hkn
 by_cases e:(k - 1) / 2=i
 ·rw [e]; exact hmin k hk0 hkn e
 ·exact h.1 k hk0 hkn e
theorem C0.top {R:List α} {n:Nat} (h:C0 key R n):∀ k,k<n→Ky key R 0≤Ky key R k:=by
 intro k
 induction k using Nat.strongRecOn with
 | ind k ih =>
   intro hk
   rcases Nat.eq_zero_or_pos k with rfl | h0
   ·exact Nat.le_refl _
   ·exact Nat.le_trans (ih ((k - 1) / 2) (by omega) (by omega)) (h k h0 hk)
theorem aV {R S:List α} {n:Nat} (h:∀ k,k<n→R[k]?=S[k]?) {k:Nat} (hk:k<n):Ky key R k=Ky key S k:=by unfold Ky; rw [h k hk]
theorem C0.congr {R S:List α} {n:Nat} (h:C0 key R n) (e:∀ k,k<n→R[k]?=S[k]?):C0 key S n:=fun k h0 hk=>by
 rw [← aV e hk,← aV e (show (k - 1) / 2<n by omega)]; exact h k h0 hk
theorem C0.grow {R:List α} {n p:Nat} {x:α} (h:C0 key R n) (hp:p<R.length) (hx:Ky key R p≤key x):LH key (R.set p x) n p:=by
 have hK:∀ k,Ky key (R.set p x) k=if k=p then key x else Ky key R k:=by
  intro k
  unfold Ky
  rw [List.getElem?_set]
  by_cases e:p=k
  ·subst e; simp [hp]
  ·rw [if_neg e,if_neg (Ne.symm e)]
 refine ⟨fun k h0 hk hpk=>?_,fun k h0 hk hpk hp0=>?_⟩
 ·rw [hK,hK,if_neg hpk]
  have:=h k h0 hk
  split
  ·rename_i e; subst e; omega
  ·exact this
 ·rw [hK,hK,if_neg (by omega)]
  have h1:=h k h0 hk
  have h2:=h p hp0 (by omega)
  rw [hpk] at h1
  rw [if_neg (by omega)]
  omega
theorem C0.pop {R:List α} {n:Nat} (h:C0 key R (n+1)) (hn:n<R.length):LH key (jF R 0 n) n 0:=by
 refine ⟨fun k h0 hk hpk=>?_,fun k h0 hk hpk hp0=>by omega⟩
 rw [YO (by omega) hn,YO (by omega) hn,if_neg (by omega),if_neg hpk,if_neg (by omega),if_neg (by omega)]
 exact h k h0 (by omega)
end
end Go.Ax
set_option maxRecDepth 100000
namespace Go.Ax.O
open Go.Proofs Go.RowKit
variable {l m:List AK} {σ:AHeap} {Q:WK}
structure HU where
 ib:Nat
 pl:Nat
 used:Nat
 dirty:Bool
 sv:Value
 b:List UInt8
abbrev ku:HU→Nat:=HU.used
def sE (v:Value) (x:List UInt8):AK:=fun r=>HZ (v=.slice none 0 0∧x=[]) r∨jI v x r
def B6 (k:Nat) (r:HU):AK:=sep (pt r.ib (.cells [.int .i64 r.pl,.int .i64 k,.int .u64 r.used,.bool r.dirty,r.sv] EC false)) (sE r.sv r.b)
def BC:Nat→List HU→List AK
 | _,[]=>[]
 | o,r::R=>B6 o r::BC (o+1) R
theorem YG:∀ (R:List HU) (o k:Nat),(BC o R)[k]?=R[k]?.map (B6 (o+k))
 | [],o,k=>by simp [BC]
 | r::R,o,0=>by simp [BC]
 | r::R,o,k+1=>by simp [BC,YG R (o+1) k]; rw [show o+1+k=o+(k+1) by omega]
theorem S3:∀ (R:List HU) (o k:Nat) (r:HU),(BC o R).set k (B6 (o+k) r)=BC o (R.set k r)
 | [],o,k,r=>by simp [BC]
 | x::R,o,0,r=>by simp [BC]
 | x::R,o,k+1,r=>by
   have:=S3 R (o+1) k r
   rw [show o+1+k=o+(k+1) by omega] at this
   simp [BC,this]
theorem Q9:∀ (R S:List HU) (o:Nat),BC o (R++S)=BC o R++BC (o+R.length) S
 | [],S,o=>by simp [BC]
 | r::R,S,o=>by simp [BC,Q9 R S (o+1)]; rw [show o+1+R.length=o+(R.length+1) by omega]
theorem MW:∀ (R:List HU) (o:Nat),(BC o R).length=R.length
 | [],o=>rfl
 | r::R,o=>by simp [BC,MW R (o+1)]
theorem KO {R:List HU} {k:Nat} {r:HU} (h:H (AY (BC 0 R)::m) σ) (hr:R[k]?=some r):H (B6 k r::AY ((BC 0 R).set k emp)::m) σ:=by
 have e:(BC 0 R)[k]?=some (B6 k r):=by rw [YG,hr]; simp
 rw [LY _ k,BB] at h
 simpa only [List.getD,e,Option.getD_some] using h
theorem aP {R:List HU} {k:Nat} {r:HU} (hk:k<R.length) (h:H (B6 k r::AY ((BC 0 R).set k emp)::m) σ):H (AY (BC 0 (R.set k r))::m) σ:=by
 have e:=S3 R 0 k r
 rw [Nat.zero_add] at e
 rw [← e,UN _ _ _ (by rw [MW]; exact hk),BB]
 exact h
def DJ (R:List HU):List Value:=R.map fun r=>.pointer (some ⟨r.ib,0,none⟩)
theorem NN {R:List HU} {k:Nat} {r:HU} (h:R[k]?=some r):(DJ R)[k]?=some (.pointer (some ⟨r.ib,0,none⟩)):=by simp [DJ,h]
theorem JT (R:List HU):(DJ R).length=R.length:=by simp [DJ]
def L7 (cb:Nat) (cs:List Value) (rowv:Value) (R:List HU) (I0:AK):List AK:=[pt cb (.cells (cs++[rowv]) AZ false),AU AN 1 rowv R.length (DJ R),AY (BC 0 R),I0]
section
variable {cb:Nat} {cs:List Value} {rowv:Value} {R:List HU} {I0:AK}
theorem JO (hcs:cs.length=4) (h:H (L7 cb cs rowv R I0) σ):AF false 1 (.pointer (some ⟨cb,4,none⟩)) σ=some rowv:=by
 rw [BO (h.row 0 rfl),List.getElem?_append_right (by omega),hcs]; rfl
theorem gG (h:H (L7 cb cs rowv R I0) σ):∃ a c,rowv=.slice a R.length c:=(h.own_src 1 rfl).2.2
theorem AAk (v:Value) (σ:AHeap):BX P (.iface BG v) "Len" σ=(AF false 1 v σ).bind fun u=>some (NZ,u):=by kernel_rfl
theorem tY (v:Value) (σ:AHeap):BX P (.iface BG v) "Less" σ=(AF false 1 v σ).bind fun u=>some (L8,u):=by kernel_rfl
theorem AAT (v:Value) (σ:AHeap):BX P (.iface BG v) "Swap" σ=(AF false 1 v σ).bind fun u=>some (MB,u):=by kernel_rfl
theorem AFP (v:Value) (σ:AHeap):BX P (.iface BG v) "Pop" σ=some (N9,v):=by kernel_rfl
theorem AD6 (v:Value) (σ:AHeap):BX P (.iface BG v) "Push" σ=some (LS,v):=by kernel_rfl
theorem tA (h:H (L7 cb cs rowv R I0) σ) (hk:Q (.int .i64 R.length) σ):E NZ [rowv] σ Q:=by
 obtain ⟨a,c,rfl⟩:=gG h
 apply Y2; unfold OA
 simpa using hk
theorem mM {i j:Nat} {x y:HU} (h:H (L7 cb cs rowv R I0) σ) (hi:R[i]?=some x) (hj:R[j]?=some y) (hk:Q (.bool (decide (x.used<y.used))) σ):E L8 [rowv,.int .i64 i,.int .i64 j] σ Q:=by
 have hil:=(List.getElem?_eq_some_iff.1 hi).1
 have hjl:=(List.getElem?_eq_some_iff.1 hj).1
 apply W6; unfold MK
 obtain ⟨b,c,rfl,hc,rest,hrow⟩:=h.own_form 1 rfl (by omega)
 have r1:=BO (n:=1) (o:=i) hrow
 have r2:=BO (n:=1) (o:=j) hrow
 rw [List.getElem?_append_left (by rw [JT]; omega),NN hi] at r1
 rw [List.getElem?_append_left (by rw [JT]; omega),NN hj] at r2
 rw [S6 (by omega),S6 (by omega)]
 have h1:=KO (h.pick [2,0,1,3] (by decide)) hi
 unfold B6 at h1
 rw [BB] at h1
 have h2:=KO (h.pick [2,0,1,3] (by decide)) hj
 unfold B6 at h2
 rw [BB] at h2
 have u1:=BO (n:=1) (o:=2) (h1.row 0 rfl)
 have u2:=BO (n:=1) (o:=2) (h2.row 0 rfl)
 simp [r1,r2,u1,u2]
 have e:decide ((x.used:Int)<(y.used:Int))=decide (x.used<y.used):=by
  by_cases g:x.used<y.used
  ·rw [decide_eq_true g,decide_eq_true (by omega)]
  ·rw [decide_eq_false g,decide_eq_false (by omega)]
 simpa [e] using hk
theorem sQ {i j:Nat} {x y:HU} (hij:i≠j) (hi:R[i]?=some x) (hj:R[j]?=some y) (h:H (AY (BC 0 R)::m) σ):H (B6 i x::B6 j y::AY (((BC 0 R).set i emp).set j emp)::m) σ:=by
 have h1:=KO h hi
 have e:AY ((BC 0 R).set i emp)=sep (B6 j y) (AY (((BC 0 R).set i emp).set j emp)):=by
  refine AFo ?_ hij
  rw [YG,hj]; simp
 rw [e] at h1
 have h2:=h1.perm (List.Perm.swap _ _ _)
 rw [BB] at h2
 have h3:H ([B6 j y,AY (((BC 0 R).set i emp).set j emp)]++B6 i x::m) σ:=h2
 exact h3.perm (by
  show (B6 j y::AY (((BC 0 R).set i emp).set j emp)::B6 i x::m).Perm (B6 i x::B6 j y::AY (((BC 0 R).set i emp).set j emp)::m)
  exact ((List.Perm.swap _ _ _).cons _).trans (List.Perm.swap _ _ _))
theorem yM {i j:Nat} {x y:HU} (hij:i≠j) (hi:i<R.length) (hj:j<R.length) (h:H (B6 j x::B6 i y::AY (((BC 0 R).set i emp).set j emp)::m) σ):H (AY (BC 0 ((R.set i y).set j x))::m) σ:=by
 have e1:=S3 (R.set i y) 0 j x
 have e2:=S3 R 0 i y
 rw [Nat.zero_add] at e1 e2
 rw [← e1,← e2,UN _ j _ (by simp [MW]; exact hj),BB,List.set_comm _ _ hij,UN _ i _ (by simp [MW]; exact hi)]
 have h2:=h.perm ((List.Perm.cons _ (List.Perm.refl _)))
 rw [List.set_comm _ _ hij] at h2
 have h3:H ((sep (B6 i y) (AY (((BC 0 R).set j emp).set i emp)))::B6 j x::m) σ:=by
  rw [BB]
  exact h2.perm (by
   show (B6 j x::B6 i y::AY (((BC 0 R).set j emp).set i emp)::m).Perm (B6 i y::AY (((BC 0 R).set j emp).set i emp)::B6 j x::m)
   exact (List.Perm.swap _ _ _).trans ((List.Perm.swap _ _ _).cons _))
 exact h3.perm (List.Perm.swap _ _ _)
theorem AAH {i j:Nat} {x y:HU} (hi:R[i]?=some x) (hj:R[j]?=some y):((DJ R).set i (.pointer (some ⟨y.ib,0,none⟩))).set j (.pointer (some ⟨x.ib,0,none⟩))=DJ (jF R i j):=by
 unfold jF DJ
 rw [hi,hj]
 simp only [List.map_set]
theorem vQ {i j:Nat} {x y:HU} (h:H (L7 cb cs rowv R I0) σ) (hi:R[i]?=some x) (hj:R[j]?=some y) (hk:∀ σ',H (L7 cb cs rowv (jF R i j) I0) σ'→Q (.tuple #[]) σ'):E MB [rowv,.int .i64 i,.int .i64 j] σ Q:=by
 have hil:=(List.getElem?_eq_some_iff.1 hi).1
 have hjl:=(List.getElem?_eq_some_iff.1 hj).1
 apply W2; unfold L9
 obtain ⟨b,c,rfl,hc,rest,hrow⟩:=h.own_form 1 rfl (by omega)
 have r1:=BO (n:=1) (o:=i) hrow
 have r2:=BO (n:=1) (o:=j) hrow
 rw [List.getElem?_append_left (by rw [JT]; omega),NN hi] at r1
 rw [List.getElem?_append_left (by rw [JT]; omega),NN hj] at r2
 rw [S6 (by omega),S6 (by omega)]
 simp [r1,r2]
 refine KA h 1 rfl (by omega) rfl (by rw [JT]; omega) ?_
 intro σ1 h1
 refine KA h1 1 rfl (by omega) rfl (by rw [List.length_set,JT]; omega) ?_
 intro σ2 h2
 rw [AAH hi hj] at h2
 obtain ⟨_,_,hv,_,rest,hrow⟩:=h2.own_form 1 rfl (by omega)
 cases hv
 have si:(jF R i j)[i]?=some (if i=j then x else y):=by
  rw [QD hil hjl]; split
  ·exact hi
  ·rw [if_pos rfl,hj]
 have sj:(jF R i j)[j]?=some x:=by rw [QD hil hjl,if_pos rfl,hi]
 have r1:=BO (n:=1) (o:=i) hrow
 have r2:=BO (n:=1) (o:=j) hrow
 rw [List.getElem?_append_left (by rw [JT,J3]; omega),NN si] at r1
 rw [List.getElem?_append_left (by rw [JT,J3]; omega),NN sj] at r2
 simp only [r1,r2,A5,ED,AO,Nat.zero_add]
 by_cases hij:i=j
 ·subst hij
  have hxy:x=y:=by rw [hi] at hj; cases hj; rfl
  subst hxy
  have hs:jF R i i=R:=by
   apply List.ext_getElem?
   intro k
   rw [QD hil hil]
   split
   ·rename_i e; subst e; rfl
   ·rfl
  rw [hs] at hk h2
  simp only [if_true]
  have h3:=KO (h2.pick [2,0,1,3] (by decide)) hi
  unfold B6 at h3
  rw [BB] at h3
  refine FU h3 0 rfl rfl (by simp) ?_
  intro σ3 h4
  refine FU h4 0 rfl rfl (by simp) ?_
  intro σ4 h5
  refine hk σ4 ?_
  have h6:=aP (r:=x) hil (BB.2 h5)
  have:R.set i x=R:=by
   apply List.ext_getElem?
   intro k
   rw [List.getElem?_set]
   split
   ·rename_i e; subst e; rw [hi]
   ·rfl
  rw [this] at h6
  exact h6.pick [1,2,0,3] (by decide)
 ·rw [if_neg hij]
  have h3:=sQ hij hi hj (h2.pick [2,0,1,3] (by decide))
  unfold B6 at h3
  rw [BB] at h3
  have h4:=BB.1 (h3.pick [2,0,1,3,4,5,6] (by decide))
  refine FU h4 0 rfl rfl (by simp) ?_
  intro σ3 h5
  refine FU h5 2 rfl rfl (by simp) ?_
  intro σ4 h6
  refine hk σ4 ?_
  have h7:H (B6 j x::_) σ4:=BB.2 (h6.pick [2,3,0,1,4,5,6,7] (by decide))
  have h8:H (B6 i y::_) σ4:=BB.2 (h7.pick [1,2,0,3,4,5,6] (by decide))
  have h9:=yM hij hil hjl (h8.pick [1,0,2,3,4,5] (by decide))
  have e:(R.set i y).set j x=jF R i j:=by unfold jF; rw [hi,hj]
  rw [e] at h9
  have h10:=h9.pick [1,2,0,3] (by decide)
  unfold L7
  rw [J3]
  exact h10
end
end Go.Ax.O
set_option maxRecDepth 100000
namespace Go.Ax.O
open Go.Proofs Go.RowKit
variable {l m:List AK} {σ:AHeap} {Q:WK}
theorem ABL {e z n k i:Nat} {v:Value} {xs:List Value} (h:H l σ) (hi:l[i]?=some (AU e z v n xs)) (hn:0<n) (hk:k≤n) :
 ∃ v',(∀ kd,A7 z v none (some (.int kd k)) none=some v')∧one v'=true∧H (l.set i (AU e z v' k (xs.take (k*z)))) σ:=by
 rcases FT.1 (h.front i hi) with ⟨⟨rfl,_⟩,_⟩ | ⟨b,c,opn,rest,hp,hx,hr,rfl,hn2,ho⟩
 ·omega
 ·have hcap:c<A4∨c / A4=z:=by rcases ho with ⟨_,_,q⟩ | q; exact .inr q; exact .inl q
  refine ⟨.slice (some ⟨b,0,none⟩) k c,fun kd=>?_,rfl,H.back i hi (FT.2 (.inr ⟨b,c,opn,xs.drop (k*z)++rest,?_,?_,?_,rfl,by omega,ho⟩))⟩
  ·simp only [A7,J2]
   rw [DG (y:=BU c) (by omega)]
   simp only [Option.bind_some,Int.toNat_natCast]
   rcases Nat.lt_or_ge c A4 with hlt | hge
   ·have:=C6 hlt
    rw [if_pos hlt,if_pos (by omega),if_neg (by omega)]
    simp [FF]
   ·have:¬ c<A4:=by omega
    rw [if_neg this,if_pos ⟨by omega,hcap.resolve_left this⟩]
    simp [FF]
  ·rw [← List.append_assoc,List.take_append_drop]; exact hp
  ·have:k*z≤n*z:=Nat.mul_le_mul_right _ hk
   simp; omega
  ·have h1:k*z≤n*z:=Nat.mul_le_mul_right _ hk
   have h2:n*z≤BU c*z:=Nat.mul_le_mul_right _ hn2
   rw [List.length_append,List.length_drop,hx,hr,Nat.sub_mul,Nat.sub_mul]
   omega
theorem ADO (v:Value) (hv:DQ v=true):KT P AN v=some (.iface AN v):=by
 have:KT P AN v=cond (DQ v) (some (.iface AN v)) none:=by kernel_rfl
 rw [this,hv]; rfl
theorem AAY (v:Value) (hv:DQ v=true):KT P BG v=some (.iface BG v):=by
 have:KT P BG v=cond (DQ v) (some (.iface BG v)) none:=by kernel_rfl
 rw [this,hv]; rfl
theorem ADY (v:Value):H8 P AN false (.iface AN v)=some v:=by kernel_rfl
section
variable {cb:Nat} {cs:List Value} {rowv:Value} {R:List HU} {I0:AK}
theorem ACT {n:Nat} {x:HU} (hcs:cs.length=4) (h:H (L7 cb cs rowv R I0) σ) (hn:R.length=n+1) (hx:R[n]?=some x) (hb:n<1099511627776)
 (hk:∀ rowv' σ',H (L7 cb cs rowv' (R.take n) (AY [B6 n x,I0])) σ'→Q (.iface AN (.pointer (some ⟨x.ib,0,none⟩))) σ'):E N9 [.pointer (some ⟨cb,4,none⟩)] σ Q:=by
 apply YY; unfold N7
 have rl:=JO hcs h
 obtain ⟨a,c,hv⟩:=gG h
 subst hv
 simp [rl]
 rw [wrap_i64 (by omega),show ((R.length:Nat):Int) - 1=(n:Int) by omega]
 obtain ⟨b,c',hv,hc,rest,hrow⟩:=h.own_form 1 rfl (by omega)
 cases hv
 have r1:=BO (n:=1) (o:=n) hrow
 rw [List.getElem?_append_left (by rw [JT]; omega),NN hx] at r1
 rw [S6 (by omega)]
 simp [r1]
 obtain ⟨v',e1,ho,h2⟩:=ABL (k:=n) h (i:=1) rfl (by omega) (by omega)
 rw [e1]
 simp
 refine FU h2 0 rfl ho (by simp [hcs]) ?_
 intro σ1 h3
 rw [ADO _ rfl,A5]
 refine hk v' σ1 ?_
 have e2:(cs++[Value.slice (some ⟨b,0,none⟩) R.length c]).set 4 v'=cs++[v']:=by
  rw [List.set_append_right _ _ (by omega),hcs]; rfl
 have e3:(DJ R).take (n*1)=DJ (R.take n):=by simp [DJ]
 have e4:BC 0 R=BC 0 (R.take n)++[B6 n x]:=by
  have:R=R.take n++[x]:=by
   have h5:R.take (n+1)=R.take n++[x]:=by rw [List.take_add_one,hx]; rfl
   rw [← h5,← hn,List.take_length]
  conv=>lhs; rw [this]
  rw [Q9,List.length_take,Nat.min_eq_left (by omega)]
  simp [BC]
 rw [e2,e3] at h3
 have h3:H [pt cb (.cells (cs++[v']) AZ false),AU AN 1 v' n (DJ (R.take n)),AY (BC 0 R),I0] σ1:=h3
 rw [e4,NJ] at h3
 have h4:=BB.1 (h3.pick [2,0,1,3] (by decide))
 have h6:H [AY [B6 n x],I0,pt cb (.cells (cs++[v']) AZ false),AU AN 1 v' n (DJ (R.take n)),AY (BC 0 (R.take n))] σ1:=h4.pick [1,4,2,3,0] (by decide)
 have h5:H [AY [B6 n x,I0],pt cb (.cells (cs++[v']) AZ false),AU AN 1 v' n (DJ (R.take n)),AY (BC 0 (R.take n))] σ1:=(A8 (l:=[B6 n x,I0])).2 ((A8 (l:=[B6 n x])).1 h6)
 unfold L7
 rw [List.length_take,Nat.min_eq_left (by omega)]
 exact h5.pick [1,2,3,0] (by decide)
theorem AAE {p:Nat} {x:HU} (hcs:cs.length=4) (h:H (L7 cb cs rowv R (AY [B6 p x,I0])) σ) (hb:R.length<1099511627776)
 (hk:∀ rowv' σ',H (L7 cb cs rowv' (R++[x]) I0) σ'→Q (.tuple #[]) σ'):E LS [.pointer (some ⟨cb,4,none⟩),.iface AN (.pointer (some ⟨x.ib,0,none⟩))] σ Q:=by
 apply WZ; unfold MF
 have rl:=JO hcs h
 obtain ⟨a,c,hv⟩:=gG h
 rw [ADY]
 subst hv
 simp [rl]
 have h1:H (B6 p x::I0::_) σ:=A8.1 (h.pick [3,0,1,2] (by decide))
 unfold B6 at h1
 rw [BB] at h1
 refine FU h1 0 rfl rfl (by simp) ?_
 intro σ1 h2
 have h3:H (B6 R.length x::I0::pt cb (.cells (cs++[.slice a R.length c]) AZ false)::AU AN 1 (.slice a R.length c) R.length (DJ R)::AY (BC 0 R)::[]) σ1:=BB.2 h2
 have rl:=BO (n:=1) (o:=4) (h3.row 2 rfl)
 rw [List.getElem?_append_right (by omega),hcs] at rl
 simp at rl
 simp [rl]
 refine kW (cs:=[.pointer (some ⟨x.ib,0,none⟩)]) h3 (by decide) (by rfl) ?_
 intro tb σ2 h4
 have ht:D5 1 (.slice (some ⟨tb,0,none⟩) 1 1) σ2=some (1,[.pointer (some ⟨x.ib,0,none⟩)]):=by
  rw [FO (h4.row 5 rfl) (by simp)]; rfl
 refine DR h4 3 rfl ht (by omega) (by omega) (by rfl) ?_
 intro w σ3 h5
 have ho:=SY h5 (i:=3) rfl
 simp
 refine FU h5 2 rfl ho (by simp [hcs]) ?_
 intro σ4 h6
 refine hk w σ4 ?_
 have e2:(cs++[Value.slice a R.length c]).set 4 w=cs++[w]:=by
  rw [List.set_append_right _ _ (by omega),hcs]; rfl
 rw [e2] at h6
 have e3:DJ R++[.pointer (some ⟨x.ib,0,none⟩)]=DJ (R++[x]):=by simp [DJ]
 rw [e3] at h6
 unfold L7
 rw [Q9,NJ,List.length_append]
 simp only [BC,Nat.zero_add]
 have h7:H (sep (AY (BC 0 R)) (AY [B6 R.length x])::_) σ4:=BB.2 (by
  have:H (AY [B6 R.length x]::_) σ4:=(A8 (l:=[B6 R.length x])).2 (h6.pick [0,1,2,3,4] (by decide))
  exact this.pick [4,0,1,2,3] (by decide))
 exact h7.pick [2,3,0,1] (by decide)
theorem GP {k:Nat} {x:HU} (h:R[k]?=some x):Ky ku R k=x.used:=by unfold Ky; rw [h]; rfl
theorem ADQ {j:Nat} {x:HU} (hcs:cs.length=4) (h:H (L7 cb cs rowv R I0) σ) (hj:R[j]?=some x) (hb:R.length<1099511627776) (hmax:∀ k,k<j→Ky ku R k≤x.used)
 (hk:Q (.tuple #[]) σ):E LZ [.iface BG (.pointer (some ⟨cb,4,none⟩)),.int .i64 j] σ Q:=by
 have hjl:=(List.getElem?_eq_some_iff.1 hj).1
 apply m7; unfold bE
 refine ⟨fun m x0 x1 τ=>x0=.iface BG (.pointer (some ⟨cb,4,none⟩))∧x1=.int .i64 j∧τ=σ,⟨0,rfl,rfl,rfl⟩,?_⟩
 rintro m _ _ τ ⟨rfl,rfl,rfl⟩
 suffices hb:∀ N,S5 N Q (.iface BG (.pointer (some ⟨cb,4,none⟩))) (.int .i64 j) τ from hb _
 intro N
 unfold S5
 simp
 rw [wrap_i64 (n:=(j:Int) - 1) (by omega)]
 obtain ⟨i,hi,hi2⟩:∃ i:Nat,IntKind.i64.wrap (((j:Int) - 1).tdiv 2)=(i:Int)∧(i=j∧j=0∨i<j):=by
  rcases Nat.eq_zero_or_pos j with rfl | h0
  ·exact ⟨0,by decide,.inl ⟨rfl,rfl⟩⟩
  ·refine ⟨(j - 1) / 2,?_,.inr (by omega)⟩
   rw [show (j:Int) - 1=((j - 1:Nat):Int) by omega,show (((j - 1:Nat):Int)).tdiv 2=(((j - 1) / 2:Nat):Int) from rfl,wrap_i64 (by omega)]
 rw [hi]
 refine nF (fun g=>?_) fun g=>?_
 ·unfold KG; simpa using hk
 ·have hij:i<j:=by omega
  have hx:=List.getElem?_eq_getElem (show i<R.length by omega)
  rw [tY,JO hcs h]
  simp
  refine mM h hj hx ?_
  have hle:=hmax i hij
  rw [GP hx] at hle
  have:decide (x.used<R[i].used)=false:=decide_eq_false (by omega)
  rw [this]
  simp
  unfold KG
  simpa using hk
theorem WP {n i0:Nat} {R0:List HU} (hcs:cs.length=4) (h:H (L7 cb cs rowv R0 I0) σ) (hn:n≤R0.length) (hb:R0.length<1099511627776) (hi0:i0≤n) (hex:LH ku R0 n i0)
 (hk:∀ (R':List HU) (i:Nat) σ',i0≤i→R'.Perm R0→C0 ku R' n→(∀ k,n≤k→R'[k]?=R0[k]?)→(i=i0→R'=R0)→H (L7 cb cs rowv R' I0) σ'→Q (.bool (decide (i0<i))) σ') :
 E HD [.iface BG (.pointer (some ⟨cb,4,none⟩)),.int .i64 i0,.int .i64 n] σ Q:=by
 apply gD; unfold VQ
 refine ⟨fun m x0 x1 x2 x7 τ=>∃ (R:List HU) (i:Nat),m=n - i∧i≤n∧x0=.iface BG (.pointer (some ⟨cb,4,none⟩))∧x1=.int .i64 i0∧x2=.int .i64 n∧x7=.int .i64 i∧R.Perm R0∧LH ku R n i∧(∀ k,n≤k→R[k]?=R0[k]?)∧i0≤i∧(i=i0→R=R0)∧H (L7 cb cs rowv R I0) τ,
  ⟨_,R0,i0,rfl,hi0,rfl,rfl,rfl,rfl,List.Perm.refl _,hex,fun _ _=>rfl,Nat.le_refl _,fun _=>rfl,h⟩,?_⟩
 clear h hex
 rintro m _ _ _ _ τ ⟨R,i,rfl,hin,rfl,rfl,rfl,rfl,hp,hex,htl,hii,hsame,h⟩
 suffices hb:∀ N:Value→Value→Value→Value→AHeap→Prop,(∀ R' j τ',i<j→j<n→R'.Perm R0→LH ku R' n j→(∀ k,n≤k→R'[k]?=R0[k]?)→H (L7 cb cs rowv R' I0) τ'→N (.iface BG (.pointer (some ⟨cb,4,none⟩))) (.int .i64 i0) (.int .i64 n) (.int .i64 j) τ')→O8 N Q (.iface BG (.pointer (some ⟨cb,4,none⟩))) (.int .i64 i0) (.int .i64 n) (.int .i64 i) τ from
  hb _ fun R' j τ' h1 h2 a b c h'=>⟨_,by omega,R',j,rfl,by omega,rfl,rfl,rfl,rfl,a,b,c,by omega,fun e=>by omega,h'⟩
 intro N hN
 have hRl:=hp.length_eq
 have k5:(∀ k,0<k→k<n→(k - 1) / 2=i→Ky ku R i≤Ky ku R k)→∀ τ',H (L7 cb cs rowv R I0) τ'→KM Q (.int .i64 i) (.int .i64 i0) τ':=by
  intro hmin τ' h'
  unfold KM
  simp
  have e:decide ((i0:Int)<(i:Int))=decide (i0<i):=by
   by_cases g:i0<i
   ·rw [decide_eq_true g,decide_eq_true (by omega)]
   ·rw [decide_eq_false g,decide_eq_false (by omega)]
  have:=hk R i τ' hii hp (hex.done hmin) htl hsame h'
  simpa [e] using this
 unfold O8
 simp
 have w1:IntKind.i64.wrap (2*(i:Int))=2*(i:Int):=wrap_i64 (by omega)
 have w2:IntKind.i64.wrap (2*(i:Int)+1)=((2*i+1:Nat):Int):=by rw [wrap_i64 (by omega)]; omega
 simp only [w1,w2]
 refine nF (fun g=>?_) fun g=>?_
 ·unfold I2
  simp
  exact k5 (fun k h0 hk2 hp2=>by omega) τ h
 ·have hlt:¬ ((2*i+1:Nat):Int)<0:=by omega
  rw [decide_eq_false hlt]
  unfold I2
  simp only [pJ,vB,A5,ACh]
  have w3:IntKind.i64.wrap (((2*i+1:Nat):Int)+1)=((2*i+2:Nat):Int):=by rw [wrap_i64 (by omega)]; omega
  simp only [w3]
  have hj1:2*i+1<n:=by omega
  have x1:=List.getElem?_eq_getElem (show 2*i+1<R.length by omega)
  have xi:=List.getElem?_eq_getElem (show i<R.length by omega)
  -- with the XL child
  have k10:∀ j,j<n→(j - 1) / 2=i→0<j→(∀ k,0<k→k<n→(k - 1) / 2=i→Ky ku R j≤Ky ku R k)→JY N Q (.iface BG (.pointer (some ⟨cb,4,none⟩))) (.int .i64 j) (.int .i64 i) (.int .i64 i0) (.int .i64 n) τ:=by
   intro j hjn hpj hj0 hmin
   have xj:=List.getElem?_eq_getElem (show j<R.length by omega)
   unfold JY
   rw [tY,JO hcs h]
   simp
   refine mM h xj xi ?_
   simp only [AAM,A5]
   by_cases hl:R[j].used<R[i].used
   ·rw [decide_eq_true hl]
    simp
    rw [AAT,JO hcs h]
    simp
    refine vQ h xi xj ?_
    intro τ1 h1
    refine hN _ j τ1 (by omega) hjn ((UR R (by omega) (by omega)).trans hp) (hex.step (by omega) hjn hpj hj0 hmin (by rw [GP xj,GP xi]; exact hl)) ?_ h1
    intro k hk2
    rw [QD (by omega) (by omega),if_neg (by omega),if_neg (by omega)]
    exact htl k hk2
   ·rw [decide_eq_false hl]
    simp
    refine k5 (fun k h0 hk2 hp2=>?_) τ h
    have:=hmin k h0 hk2 hp2
    rw [GP xj] at this
    rw [GP xi]; omega
  by_cases h2:2*i+2<n
  ·rw [decide_eq_true (show ((2*i+2:Nat):Int)<(n:Int) by omega)]
   simp only [AB7]
   have x2:=List.getElem?_eq_getElem (show 2*i+2<R.length by omega)
   rw [tY,JO hcs h]
   simp only [Option.bind_some,A5]
   refine mM h x2 x1 ?_
   unfold I3
   refine VH (fun g2=>?_) fun g2=>?_
   ·refine k10 (2*i+2) h2 (by omega) (by omega) ?_
    intro k h0 hk2 hp2
    rcases (show k=2*i+1∨k=2*i+2 by omega) with rfl | rfl
    ·rw [GP x1,GP x2]; omega
    ·exact Nat.le_refl _
   ·refine k10 (2*i+1) hj1 (by omega) (by omega) ?_
    intro k h0 hk2 hp2
    rcases (show k=2*i+1∨k=2*i+2 by omega) with rfl | rfl
    ·exact Nat.le_refl _
    ·rw [GP x1,GP x2]; omega
  ·rw [decide_eq_false (show ¬ ((2*i+2:Nat):Int)<(n:Int) by omega)]
   simp only [ABj]
   unfold I3
   simp only [pJ]
   refine k10 (2*i+1) hj1 (by omega) (by omega) ?_
   intro k h0 hk2 hp2
   have:k=2*i+1:=by omega
   rw [this]; exact Nat.le_refl _
end
end Go.Ax.O
set_option maxRecDepth 100000
namespace Go.Ax.O
open Go.Proofs Go.RowKit
variable {l m:List AK} {σ:AHeap} {Q:WK}
section
variable {cb:Nat} {cs:List Value} {rowv:Value} {R:List HU} {I0:AK}
abbrev hv (cb:Nat):Value:=.iface BG (.pointer (some ⟨cb,4,none⟩))
theorem ADs {p:Nat} {x:HU} (hcs:cs.length=4) (h:H (L7 cb cs rowv R I0) σ) (hx:R[p]?=some x) (hb:R.length<1099511627776) (hex:LH ku R R.length p) (hmax:∀ k,k<R.length→Ky ku R k≤x.used)
 (hk:∀ R' σ',R'.Perm R→C0 ku R' R'.length→H (L7 cb cs rowv R' I0) σ'→Q (.tuple #[]) σ'):E YF [hv cb,.int .i64 p] σ Q:=by
 have hpl:=(List.getElem?_eq_some_iff.1 hx).1
 apply kD; unfold YK
 rw [AAk,JO hcs h]
 simp only [Option.bind_some,A5]
 refine tA h ?_
 refine WP hcs h (Nat.le_refl _) hb (by omega) hex ?_
 intro R' i σ1 hi hp hok _ hsame h1
 simp only [AAM,A5]
 have hl:=hp.length_eq
 by_cases hlt:p<i
 ·rw [decide_eq_true hlt]
  simp
  exact hk R' σ1 hp (by rw [hl]; exact hok) h1
 ·have hip:i=p:=by omega
  have hR:=hsame hip
  subst hR
  rw [decide_eq_false hlt]
  simp
  refine ADQ hcs h1 hx hb (fun k hk=>hmax k (by omega)) ?_
  exact hk R' σ1 hp hok h1
theorem AAb {p:Nat} {x:HU} (hcs:cs.length=4) (h:H (L7 cb cs rowv R (AY [B6 p x,I0])) σ) (hb:R.length<1099511627775) (hmax:∀ k,k<R.length→Ky ku R k≤x.used)
 (hk:∀ rowv' σ',H (L7 cb cs rowv' (R++[x]) I0) σ'→Q (.tuple #[]) σ'):E KB [hv cb,.iface AN (.pointer (some ⟨x.ib,0,none⟩))] σ Q:=by
 apply gN; unfold UJ
 rw [AD6]
 simp only [A5]
 refine AAE hcs h (by omega) ?_
 intro rowv' σ1 h1
 rw [AAk,JO hcs h1]
 simp only [Option.bind_some,A5]
 refine tA h1 ?_
 simp
 rw [wrap_i64 (by omega)]
 refine ADQ (x:=x) hcs h1 (by simp) (by simp; omega) (fun k hk=>?_) (hk rowv' σ1 h1)
 have:=hmax k hk
 unfold Ky at this ⊢
 rw [List.getElem?_append_left hk]; exact this
theorem ACO {n:Nat} {x:HU} (hcs:cs.length=4) (h:H (L7 cb cs rowv R I0) σ) (hn:R.length=n+1) (hx:R[0]?=some x) (hb:R.length<1099511627776) (hok:C0 ku R (n+1))
 (hk:∀ rowv' R' σ',(R'++[x]).Perm R→C0 ku R' R'.length→H (L7 cb cs rowv' R' (AY [B6 n x,I0])) σ'→Q (.iface AN (.pointer (some ⟨x.ib,0,none⟩))) σ'):E MM [hv cb] σ Q:=by
 apply kK; unfold YI
 rw [AAk,JO hcs h]
 simp only [Option.bind_some,A5]
 refine tA h ?_
 simp only [ADD,A5]
 rw [wrap_i64 (by omega),show (R.length:Int) - 1=(n:Int) by omega,AAT,JO hcs h]
 simp only [Option.bind_some,A5]
 have hy:=List.getElem?_eq_getElem (show n<R.length by omega)
 refine vQ (i:=0) h hx hy ?_
 intro σ1 h1
 have hsl:=J3 R 0 n
 refine WP (i0:=0) hcs h1 (by rw [hsl]; omega) (by rw [hsl]; exact hb) (by omega) (hok.pop (by omega)) ?_
 intro R' i σ2 _ hp hok2 htl _ h2
 rw [AFP]
 simp only [A5]
 have hl:R'.length=n+1:=by rw [hp.length_eq,hsl,hn]
 have hx2:R'[n]?=some x:=by rw [htl n (Nat.le_refl _),QD (by omega) (by omega),if_pos rfl,hx]
 refine ACT hcs h2 hl hx2 (by omega) ?_
 intro rowv' σ3 h3
 refine hk rowv' (R'.take n) σ3 ?_ ?_ h3
 ·have e:R'.take n++[x]=R':=by
   have h5:R'.take (n+1)=R'.take n++[x]:=by rw [List.take_add_one,hx2]; rfl
   rw [← h5,← hl,List.take_length]
  rw [e]
  exact hp.trans (UR R (by omega) (by omega))
 ·rw [List.length_take,Nat.min_eq_left (by omega)]
  refine hok2.congr fun k hk=>?_
  rw [List.getElem?_take,if_pos hk]
end
abbrev Ent:=Nat×Value×Nat
def yA (e:Ent):MapEntry:={ key:=.int .i64 e.1,val:=e.2.1,born:=e.2.2 }
theorem nU (a:Nat):∀ (es:List Ent) (i:Nat),(∀ e∈es,e.1≠a)→Instr.findNow (.int .i64) (.int .i64 a) (es.map yA) i=some none
 | [],i,_=>rfl
 | e::es,i,h=>by
   have h1:e.1≠a:=h e (by simp)
   have:Instr.sameNow (.int .i64) (.int .i64 a) (yA e).key=some false:=by
    simp [Instr.sameNow,yA]; omega
   simp only [List.map_cons,Instr.findNow,this]
   exact nU a es (i+1) fun x hx=>h x (by simp [hx])
theorem gA (a:Nat):∀ (es:List Ent) (i k:Nat) (e:Ent),(es.map (·.1)).Nodup→es[k]?=some e→e.1=a→Instr.findNow (.int .i64) (.int .i64 a) (es.map yA) i=some (some (i+k,e.2.1))
 | [],i,k,e,_,h,_=>by simp at h
 | x::es,i,0,e,_,h,h1=>by
   simp at h; subst h; subst h1
   have:Instr.sameNow (.int .i64) (.int .i64 (x.1:Nat)) (yA x).key=some true:=by simp [Instr.sameNow,yA]
   simp only [List.map_cons,Instr.findNow,this]
   simp [yA]
 | x::es,i,k+1,e,hn,h,h1=>by
   simp at h
   simp only [List.map_cons,List.nodup_cons] at hn
   have hx:x.1≠a:=by
    intro e2
    exact hn.1 (List.mem_map.2 ⟨e,List.mem_of_getElem? h,by rw [h1,e2]⟩)
   have:Instr.sameNow (.int .i64) (.int .i64 a) (yA x).key=some false:=by
    simp [Instr.sameNow,yA]; omega
   simp only [List.map_cons,Instr.findNow,this]
   rw [gA a es (i+1) k e hn.2 h h1]
   congr 3; omega
theorem wZ {b clock:Nat} {es:List MapEntry} (hm:H (pt b (.map es clock)::m) σ):JQ (.map (some b)) σ=some es:=by
 simp [JQ,hm.get0.1]
theorem l9 (x k:Value) (ok:Bool) (σ:AHeap):EL P BD x k ok σ=(JQ x σ).bind fun es=>(OE (.int .i64) k es).bind fun r=>match r with
 | some (_,v)=>some (okV ok v true)
 | none=>some (okV ok (.pointer none) false):=by kernel_rfl
theorem xP (r:Nat) (k v:Value) (σ:AHeap):FL P BD (.map (some r)) k v σ=match σ.get r with
 | some (.map es clock)=>cond (kC k) ((OE (.int .i64) k es).bind fun f=>match f with
   | some (i,_)=>some (σ.set r (.map (es.modify i fun e=>{ e with key:=k,val:=v }) clock))
   | none=>some (σ.set r (.map (es++[{ key:=k,val:=v,born:=clock }]) (clock+1)))) none
 | _=>none:=by kernel_rfl
theorem xU (r:Nat) (k:Value) (σ:AHeap):M8 P BD (.map (some r)) k σ=match σ.get r with
 | some (.map es clock)=>(OE (.int .i64) k es).bind fun f=>match f with
   | some (i,_)=>some (σ.set r (.map (es.eraseIdx i) clock))
   | none=>some (σ.set r (.map es clock))
 | _=>none:=by kernel_rfl
structure bZ (es:List Ent) (L:List (Nat×Nat)):Prop where
 nd:(es.map (·.1)).Nodup
 to:∀ e∈es,∃ p∈L,e.1=p.1∧e.2.1=.pointer (some ⟨p.2,0,none⟩)
 from':∀ p∈L,∃ e∈es,e.1=p.1∧e.2.1=.pointer (some ⟨p.2,0,none⟩)
theorem bZ.perm {es:List Ent} {L M:List (Nat×Nat)} (h:bZ es L) (hp:L.Perm M):bZ es M :=
 ⟨h.nd,fun e he=>by obtain ⟨p,hp1,hp2⟩:=h.to e he; exact ⟨p,hp.mem_iff.1 hp1,hp2⟩,fun p hp1=>h.from' p (hp.mem_iff.2 hp1)⟩
def G7 (mb:Nat) (L:List (Nat×Nat)):AK:=ex fun p:List Ent×Nat=>sep (HZ (bZ p.1 L)) (pt mb (.map (p.1.map yA) p.2))
theorem lY {mb:Nat} {L M:List (Nat×Nat)} (hp:L.Perm M):G7 mb L=G7 mb M:=by
 funext r; apply propext
 constructor
 ·rintro ⟨p,a,b,j,⟨rfl,h1⟩,h2⟩; exact ⟨p,_,b,j,⟨rfl,h1.perm hp⟩,h2⟩
 ·rintro ⟨p,a,b,j,⟨rfl,h1⟩,h2⟩; exact ⟨p,_,b,j,⟨rfl,h1.perm hp.symm⟩,h2⟩
theorem bV {mb a i:Nat} {L:List (Nat×Nat)} (ok:Bool) (h:H l σ) (hi:l[i]?=some (G7 mb L)) (hno:∀ p∈L,p.1≠a):EL P BD (.map (some mb)) (.int .i64 a) ok σ=some (okV ok (.pointer none) false):=by
 obtain ⟨⟨es,clock⟩,h1⟩:=JM.1 (h.front i hi)
 rw [BB] at h1
 obtain ⟨hm,h2⟩:=BK.1 h1
 rw [l9,wZ h2]
 simp only [Option.bind_some,OE,U9,cond_true]
 rw [nU a es 0 fun e he=>by obtain ⟨p,hp,e1,_⟩:=hm.to e he; rw [e1]; exact hno p hp]
 rfl
theorem YT {mb i:Nat} {L:List (Nat×Nat)} {p:Nat×Nat} (ok:Bool) (h:H l σ) (hi:l[i]?=some (G7 mb L)) (hp:p∈L):EL P BD (.map (some mb)) (.int .i64 p.1) ok σ=some (okV ok (.pointer (some ⟨p.2,0,none⟩)) true):=by
 obtain ⟨⟨es,clock⟩,h1⟩:=JM.1 (h.front i hi)
 rw [BB] at h1
 obtain ⟨hm,h2⟩:=BK.1 h1
 rw [l9,wZ h2]
 simp only [Option.bind_some,OE,U9,cond_true]
 obtain ⟨e,he,e1,e2⟩:=hm.from' p hp
 obtain ⟨k,hk,hke⟩:=List.getElem_of_mem he
 rw [gA p.1 es 0 k e hm.nd (by rw [List.getElem?_eq_getElem hk,hke]) e1,e2]
 rfl
theorem tZ {mb a ib i:Nat} {L:List (Nat×Nat)} {k:AHeap→Prop} (h:H l σ) (hi:l[i]?=some (G7 mb L)) (hno:∀ p∈L,p.1≠a) (hk:∀ σ',H (l.set i (G7 mb (L++[(a,ib)]))) σ'→k σ') :
 pu (FL P BD (.map (some mb)) (.int .i64 a) (.pointer (some ⟨ib,0,none⟩)) σ) k:=by
 obtain ⟨⟨es,clock⟩,h1⟩:=JM.1 (h.front i hi)
 rw [BB] at h1
 obtain ⟨hm,h2⟩:=BK.1 h1
 have hm:bZ es L:=hm
 rw [xP,h2.get0.1]
 simp only [kC,cond_true,OE,U9]
 have hne:∀ e∈es,e.1≠a:=fun e he=>by obtain ⟨p,hp,e1,_⟩:=hm.to e he; rw [e1]; exact hno p hp
 rw [nU a es 0 hne]
 simp only [Option.bind_some,A5]
 have h3:=h2.set0 (.map ((es++[((a,.pointer (some ⟨ib,0,none⟩),clock):Ent)]).map yA) (clock+1))
 refine hk _ (H.back i hi (JM.2 ⟨(es++[(a,.pointer (some ⟨ib,0,none⟩),clock)],clock+1),?_⟩))
 rw [BB]
 refine BK.2 ⟨⟨?_,?_,?_⟩,?_⟩
 ·simp only [List.map_append,List.map_cons,List.map_nil]
  rw [List.nodup_append]
  refine ⟨hm.nd,by simp,?_⟩
  intro x hx y hy
  simp at hy; subst hy
  obtain ⟨e,he,rfl⟩:=List.mem_map.1 hx
  exact hne e he
 ·intro e he
  rcases List.mem_append.1 he with he | he
  ·obtain ⟨p,hp,hpe⟩:=hm.to e he
   exact ⟨p,List.mem_append_left _ hp,hpe⟩
  ·simp at he; subst he
   exact ⟨(a,ib),by simp,rfl,rfl⟩
 ·intro p hp
  rcases List.mem_append.1 hp with hp | hp
  ·obtain ⟨e,he,hpe⟩:=hm.from' p hp
   exact ⟨e,List.mem_append_left _ he,hpe⟩
  ·simp at hp; subst hp
   exact ⟨(a,.pointer (some ⟨ib,0,none⟩),clock),by simp,rfl,rfl⟩
 ·simpa [yA] using h3
theorem WI {α β:Type} (f:α→β):∀ (l:List α) (j:Nat),(l.eraseIdx j).map f=(l.map f).eraseIdx j
 | [],j=>by simp
 | x::l,0=>by simp
 | x::l,j+1=>by simp [WI f l j]
theorem uL {mb i:Nat} {L:List (Nat×Nat)} {p:Nat×Nat} {k:AHeap→Prop} (h:H l σ) (hi:l[i]?=some (G7 mb (L++[p]))) (hno:∀ q∈L,q.1≠p.1) (hk:∀ σ',H (l.set i (G7 mb L)) σ'→k σ') :
 pu (M8 P BD (.map (some mb)) (.int .i64 p.1) σ) k:=by
 obtain ⟨⟨es,clock⟩,h1⟩:=JM.1 (h.front i hi)
 rw [BB] at h1
 obtain ⟨hm,h2⟩:=BK.1 h1
 have hm:bZ es (L++[p]):=hm
 rw [xU,h2.get0.1]
 simp only [OE,U9,cond_true]
 obtain ⟨e,he,e1,e2⟩:=hm.from' p (by simp)
 obtain ⟨j,hj,hje⟩:=List.getElem_of_mem he
 rw [gA p.1 es 0 j e hm.nd (by rw [List.getElem?_eq_getElem hj,hje]) e1]
 simp only [Option.bind_some,A5,Nat.zero_add]
 have h3:=h2.set0 (.map ((es.eraseIdx j).map yA) clock)
 refine hk _ (H.back i hi (JM.2 ⟨(es.eraseIdx j,clock),?_⟩))
 rw [BB]
 have hsub:∀ x∈es.eraseIdx j,x∈es∧x.1≠p.1:=by
  intro x hx
  have hxe:=List.mem_of_mem_eraseIdx hx
  refine ⟨hxe,fun e3=>?_⟩
  obtain ⟨k,hk,hkj⟩:=List.mem_eraseIdx_iff_getElem.1 hx
  have h5:(es.map (·.1))[k]'(by simpa using hk)=(es.map (·.1))[j]'(by simpa using hj):=by
   simp only [List.getElem_map,hkj.2,hje,e3,e1]
  exact hkj.1 ((List.getElem_inj hm.nd).1 h5)
 refine BK.2 ⟨⟨?_,?_,?_⟩,?_⟩
 ·rw [WI]
  exact hm.nd.sublist (List.eraseIdx_sublist _ _)
 ·intro x hx
  obtain ⟨hxe,hxn⟩:=hsub x hx
  obtain ⟨q,hq,hq1,hq2⟩:=hm.to x hxe
  rcases List.mem_append.1 hq with hq | hq
  ·exact ⟨q,hq,hq1,hq2⟩
  ·simp at hq; subst hq; exact absurd hq1 hxn
 ·intro q hq
  obtain ⟨x,hx,hx1,hx2⟩:=hm.from' q (List.mem_append_left _ hq)
  refine ⟨x,?_,hx1,hx2⟩
  obtain ⟨k,hk,hkx⟩:=List.getElem_of_mem hx
  refine List.mem_eraseIdx_iff_getElem.2 ⟨k,hk,?_,hkx⟩
  intro e3
  subst e3
  have:x=e:=by rw [← hkx,← hje]
  exact hno q hq (by rw [← hx1,this,e1])
 ·rw [WI]  at h3
  rw [WI]; exact h3
end Go.Ax.O
set_option maxRecDepth 100000
namespace Go.Ax.O
open Go.Proofs Go.RowKit
variable {l m:List AK} {σ:AHeap} {Q:WK}
theorem qY {α:Type} {R A B:List α} {k:Nat} {x y:α} (hk:R[k]?=some x) (hp:R.Perm (A++x::B)):(R.set k y).Perm (A++y::B):=by
 have hlt:=(List.getElem?_eq_some_iff.1 hk).1
 have e1:R=R.take k++x::R.drop (k+1):=by
  have:=List.getElem_cons_drop hlt
  rw [(List.getElem?_eq_some_iff.1 hk).2] at this
  rw [this,List.take_append_drop]
 have e2:R.set k y=R.take k++y::R.drop (k+1):=by
  rw [List.set_eq_take_append_cons_drop,if_pos hlt]
 rw [e2]
 rw [e1] at hp
 have h1:=(List.perm_middle.symm.trans hp).trans List.perm_middle
 have h2:=h1.cons_inv
 exact (List.perm_middle.trans (h2.cons y)).trans List.perm_middle.symm
def pairs (R:List HU):List (Nat×Nat):=R.map fun r=>(r.pl,r.ib)
structure T9 (R M:List HU) (now:Nat):Prop where
 perm:R.Perm M
 srt:M.Pairwise fun a b=>a.used<b.used
 le:∀ r∈M,r.used≤now
 heap:C0 ku R R.length
 nd:(M.map (·.pl)).Nodup
theorem T9.top {R M:List HU} {now:Nat} {x:HU} (h:T9 R (x::M) now):R[0]?=some x:=by
 have hl:=h.perm.length_eq
 have h0:=List.getElem?_eq_getElem (show 0<R.length by rw [hl]; simp)
 have hm:R[0]'(by rw [hl]; simp)∈x::M:=h.perm.mem_iff.1 (List.getElem_mem _)
 rcases List.mem_cons.1 hm with e | hm
 ·rw [h0,e]
 ·exfalso
  have hs:=List.pairwise_cons.1 h.srt
  have h1:=hs.1 _ hm
  have hx:x∈R:=h.perm.mem_iff.2 (by simp)
  obtain ⟨k,hk,hkx⟩:=List.getElem_of_mem hx
  have h2:=h.heap.top k hk
  rw [GP h0,GP (x:=x) (by rw [List.getElem?_eq_getElem hk,hkx])] at h2
  omega
theorem T9.use {R R' A B:List HU} {x x':HU} {now:Nat} (h:T9 R (A++x::B) now) (hu:x'.used=now+1) (hpl:x'.pl=x.pl) (hp:R'.Perm (A++x'::B)) (hok:C0 ku R' R'.length):T9 R' (A++B++[x']) (now+1):=by
 have hs:=h.srt
 have hsub:(A++B).Sublist (A++x::B):=List.Sublist.append (List.Sublist.refl _) (List.sublist_cons_self _ _)
 refine ⟨?_,?_,?_,hok,?_⟩
 ·refine hp.trans ?_
  rw [List.append_assoc]
  exact List.Perm.append_left A (by simpa using (List.perm_append_comm (l₁:=[x']) (l₂:=B)))
 ·rw [List.pairwise_append]
  refine ⟨hs.sublist hsub,List.pairwise_singleton _ _,?_⟩
  intro a ha b hb
  simp at hb; subst hb
  have:=h.le a (hsub.subset ha)
  omega
 ·intro r hr
  rcases List.mem_append.1 hr with hr | hr
  ·have:=h.le r (hsub.subset hr); omega
  ·simp at hr; subst hr; omega
 ·have h1:=h.nd
  simp only [List.map_append,List.map_cons,List.map_nil] at h1 ⊢
  rw [hpl]
  refine (List.Perm.nodup_iff ?_).1 h1
  rw [List.append_assoc]
  exact List.Perm.append_left _ (by simpa using (List.perm_append_comm (l₁:=[x.pl]) (l₂:=B.map (·.pl))))
theorem T9.new {R R' M:List HU} {x:HU} {now:Nat} (h:T9 R M now) (hu:x.used=now+1) (hpl:∀ r∈M,r.pl≠x.pl) (hp:R'.Perm (M++[x])) (hok:C0 ku R' R'.length):T9 R' (M++[x]) (now+1):=by
 refine ⟨hp,?_,?_,hok,?_⟩
 ·rw [List.pairwise_append]
  refine ⟨h.srt,List.pairwise_singleton _ _,?_⟩
  intro a ha b hb
  simp at hb; subst hb
  have:=h.le a ha
  omega
 ·intro r hr
  rcases List.mem_append.1 hr with hr | hr
  ·have:=h.le r hr; omega
  ·simp at hr; subst hr; omega
 ·simp only [List.map_append,List.map_cons,List.map_nil]
  rw [List.nodup_append]
  refine ⟨h.nd,by simp,?_⟩
  intro a ha b hb
  simp at hb; subst hb
  obtain ⟨r,hr,rfl⟩:=List.mem_map.1 ha
  exact hpl r hr
theorem T9.out {R R' M:List HU} {x:HU} {now:Nat} (h:T9 R (x::M) now) (hp:(R'++[x]).Perm R) (hok:C0 ku R' R'.length):T9 R' M now:=by
 refine ⟨?_,(List.pairwise_cons.1 h.srt).2,fun r hr=>h.le r (by simp [hr]),hok,?_⟩
 ·have h1:(x::R').Perm (x::M):=((List.perm_append_comm (l₁:=[x]) (l₂:=R')).trans hp).trans h.perm
  exact h1.cons_inv
 ·have:=h.nd
  simp only [List.map_cons,List.nodup_cons] at this
  exact this.2
theorem T9.mod {R A B:List HU} {x y:HU} {k now:Nat} (h:T9 R (A++x::B) now) (hk:R[k]?=some x) (hu:y.used=x.used) (hpl:y.pl=x.pl):T9 (R.set k y) (A++y::B) now:=by
 have hlt:=(List.getElem?_eq_some_iff.1 hk).1
 refine ⟨qY hk h.perm,?_,?_,?_,?_⟩
 ·have hs:=h.srt
  rw [List.pairwise_append,List.pairwise_cons] at hs ⊢
  obtain ⟨a,⟨b,c⟩,d⟩:=hs
  refine ⟨a,⟨fun z hz=>by rw [hu]; exact b z hz,c⟩,fun z hz w hw=>?_⟩
  rcases List.mem_cons.1 hw with rfl | hw
  ·rw [hu]; exact d z hz x (by simp)
  ·exact d z hz w (by simp [hw])
 ·intro r hr
  rcases List.mem_append.1 hr with hr | hr
  ·exact h.le r (by simp [hr])
  ·rcases List.mem_cons.1 hr with rfl | hr
   ·rw [hu]; exact h.le x (by simp)
   ·exact h.le r (by simp [hr])
 ·have e:∀ j,Ky ku (R.set k y) j=Ky ku R j:=by
   intro j
   unfold Ky
   rw [List.getElem?_set]
   by_cases e:k=j
   ·subst e; rw [if_pos rfl,if_pos hlt,hk]; simp only [Option.map_some,Option.getD_some]; exact hu
   ·rw [if_neg e]
  rw [List.length_set]
  intro j h0 hj
  rw [e,e]; exact h.heap j h0 hj
 ·have:=h.nd
  simp only [List.map_append,List.map_cons] at this ⊢
  rw [hpl]; exact this
end Go.Ax.O
set_option maxRecDepth 100000
namespace Go.Ax.O
open Go.Proofs Go.RowKit
variable {l m:List AK} {σ:AHeap} {Q:WK}
def CO (cb:Nat) (dv:Value) (nn now mb:Nat) (rowv:Value) (R M:List HU) (I0:AK):List AK :=
 [pt cb (.cells [dv,.int .i64 nn,.int .u64 now,.map (some mb),rowv] AZ false),AU AN 1 rowv R.length (DJ R),AY (BC 0 R),G7 mb (pairs M),I0]
section
variable {cb nn now mb:Nat} {dv rowv:Value} {R M:List HU} {I0:AK}
abbrev c4 (dv:Value) (nn now mb:Nat):List Value:=[dv,.int .i64 nn,.int .u64 now,.map (some mb)]
theorem mY:H (CO cb dv nn now mb rowv R M I0) σ↔H (L7 cb (c4 dv nn now mb) rowv R (AY [G7 mb (pairs M),I0])) σ:=by
 constructor
 ·intro h
  have h1:H [G7 mb (pairs M),I0,pt cb (.cells (c4 dv nn now mb++[rowv]) AZ false),AU AN 1 rowv R.length (DJ R),AY (BC 0 R)] σ:=h.pick [3,4,0,1,2] (by decide)
  exact ((A8 (l:=[G7 mb (pairs M),I0])).2 h1).pick [1,2,3,0] (by decide)
 ·intro h
  have h1:H [AY [G7 mb (pairs M),I0],pt cb (.cells (c4 dv nn now mb++[rowv]) AZ false),AU AN 1 rowv R.length (DJ R),AY (BC 0 R)] σ:=h.pick [3,0,1,2] (by decide)
  exact ((A8 (l:=[G7 mb (pairs M),I0])).1 h1).pick [2,3,4,0,1] (by decide)
theorem AB6 {M':List HU} (hp:(pairs M).Perm (pairs M')):CO cb dv nn now mb rowv R M I0=CO cb dv nn now mb rowv R M' I0:=by
 unfold CO; rw [lY hp]
theorem AAU {k:Nat} {x:HU} (h:H (CO cb dv nn now mb rowv R M I0) σ) (hk:R[k]?=some x) (hle:∀ r∈R,r.used≤now) (hok:C0 ku R R.length) (hb:R.length<1099511627776)
 (hQ:∀ R' σ',R'.Perm (R.set k { x with used:=now })→C0 ku R' R'.length→H (CO cb dv nn now mb rowv R' M I0) σ'→Q (.pointer (some ⟨x.ib,0,none⟩)) σ'):GA Q (.pointer (some ⟨x.ib,0,none⟩)) (.pointer (some ⟨cb,0,none⟩)) σ:=by
 have hkl:=(List.getElem?_eq_some_iff.1 hk).1
 unfold GA
 have r2:=BO (n:=1) (o:=2) (h.row 0 rfl)
 simp [r2]
 have h1:=KO (h.pick [2,0,1,3,4] (by decide)) hk
 unfold B6 at h1
 rw [BB] at h1
 refine FU h1 0 rfl rfl (by simp) ?_
 intro σ1 h2
 rw [AAY _ rfl]
 simp
 have r1:=BO (n:=1) (o:=1) (h2.row 0 rfl)
 simp [r1]
 have h3:=aP (r:={ x with used:=now }) hkl (BB.2 h2)
 have h4:H (CO cb dv nn now mb rowv (R.set k { x with used:=now }) M I0) σ1:=by
  have h5:=h3.pick [1,2,0,3,4] (by decide)
  have e:DJ (R.set k { x with used:=now })=DJ R:=by
   unfold DJ
   rw [List.map_set]
   apply List.ext_getElem?
   intro j
   rw [List.getElem?_set]
   split
   ·rename_i e; subst e
    rw [List.length_map,if_pos hkl,List.getElem?_map,hk]; rfl
   ·rfl
  unfold CO
  rw [e,List.length_set]
  exact h5
 have hx:(R.set k { x with used:=now })[k]?=some { x with used:=now }:=by rw [List.getElem?_set,if_pos rfl,if_pos hkl]
 have hxle:=hle x (List.mem_of_getElem? hk)
 refine ADs (cs:=c4 dv nn now mb) rfl (mY.1 h4) hx (by simpa using hb) ?_ ?_ ?_
 ·rw [List.length_set]
  exact hok.grow hkl (by rw [GP hk]; exact hxle)
 ·intro j hj
  obtain ⟨y,hy⟩:∃ y,(R.set k { x with used:=now })[j]?=some y:=⟨_,List.getElem?_eq_getElem hj⟩
  rw [GP hy]
  have hym:=List.mem_of_getElem? hy
  rcases List.mem_or_eq_of_mem_set hym with q | q
  ·exact hle y q
  ·rw [q]; exact Nat.le_refl _
 ·intro R' σ2 hp hok2 h5
  exact hQ R' σ2 hp hok2 (mY.2 h5)
theorem vX {A B:List HU} {x:HU} (h:H (CO cb dv nn now mb rowv R (A++x::B) I0) σ) (hc:T9 R (A++x::B) now) (hnow:now+1<18446744073709551616) (hb:R.length<1099511627776)
 (hQ:∀ R' σ',T9 R' (A++B++[{ x with used:=now+1 }]) (now+1)→H (CO cb dv nn (now+1) mb rowv R' (A++B++[{ x with used:=now+1 }]) I0) σ'→Q (.pointer (some ⟨x.ib,0,none⟩)) σ') :
 E EM [.pointer (some ⟨cb,0,none⟩),.int .i64 x.pl] σ Q:=by
 apply NU; unfold IF
 have r2:=BO (n:=1) (o:=2) (h.row 0 rfl)
 simp [r2]
 rw [aD (by omega)]
 refine FU h 0 rfl rfl (by simp) ?_
 intro σ1 h1
 have r3:=BO (n:=1) (o:=3) (h1.row 0 rfl)
 simp [r3]
 have hl:=YT (p:=(x.pl,x.ib)) true h1 (i:=3) rfl (by simp [pairs])
 simp only at hl
 rw [hl]
 simp [okV]
 have hm:x∈R:=hc.perm.mem_iff.2 (by simp)
 obtain ⟨k,hk,hkx⟩:=List.getElem_of_mem hm
 have hk':R[k]?=some x:=by rw [List.getElem?_eq_getElem hk,hkx]
 have h2:H (CO cb dv nn (now+1) mb rowv R (A++x::B) I0) σ1:=h1
 refine AAU h2 hk' (fun r hr=>by have:=hc.le r (hc.perm.mem_iff.1 hr); omega) hc.heap hb ?_
 intro R' σ2 hp hok h3
 have hp2:=hp.trans (qY (y:={ x with used:=now+1 }) hk' hc.perm)
 refine hQ R' σ2 (hc.use rfl rfl hp2 hok) ?_
 rw [AB6 (M':=A++x::B)]
 ·exact h3
 ·unfold pairs
  simp only [List.map_append,List.map_cons,List.map_nil,List.append_assoc]
  exact List.Perm.append_left _ (by simp)
theorem ABV {a:Nat} (h:H (CO cb dv nn now mb rowv R M I0) σ) (hc:T9 R M now) (hno:∀ r∈M,r.pl≠a) (hnow:now+1<18446744073709551616) (hb:R.length<1099511627775)
 (hQ:∀ rowv' R' ib σ',T9 R' (M++[⟨ib,a,now+1,false,.slice none 0 0,[]⟩]) (now+1)→H (CO cb dv nn (now+1) mb rowv' R' (M++[⟨ib,a,now+1,false,.slice none 0 0,[]⟩]) I0) σ'→Q (.pointer (some ⟨ib,0,none⟩)) σ') :
 E EM [.pointer (some ⟨cb,0,none⟩),.int .i64 a] σ Q:=by
 apply NU; unfold IF
 have r2:=BO (n:=1) (o:=2) (h.row 0 rfl)
 simp [r2]
 rw [aD (by omega)]
 refine FU h 0 rfl rfl (by simp) ?_
 intro σ1 h1
 have r3:=BO (n:=1) (o:=3) (h1.row 0 rfl)
 have r2:=BO (n:=1) (o:=2) (h1.row 0 rfl)
 simp [r3]
 have hnp:∀ p∈pairs M,p.1≠a:=by
  intro p hp
  obtain ⟨r,hr,rfl⟩:=List.mem_map.1 hp
  exact hno r hr
 have hl:=bV (a:=a) true h1 (i:=3) rfl hnp
 rw [hl]
 simp [okV,r2,splice]
 refine UC h1 ?_
 intro ib σ2 h2
 have r3:=BO (n:=1) (o:=3) (h2.row 0 rfl)
 simp [r3]
 refine tZ h2 (i:=3) rfl hnp ?_
 intro σ3 h3
 rw [AAY _ rfl,ADO _ rfl]
 simp
 let x:HU:=⟨ib,a,now+1,false,.slice none 0 0,[]⟩
 have e1:pairs M++[(a,ib)]=pairs (M++[x]):=by simp [pairs,x]
 rw [e1] at h3
 have h4:H (L7 cb (c4 dv nn (now+1) mb) rowv R (AY [B6 0 x,AY [G7 mb (pairs (M++[x])),I0]])) σ3:=by
  have h5:H [B6 0 x,AY [G7 mb (pairs (M++[x])),I0],pt cb (.cells (c4 dv nn (now+1) mb++[rowv]) AZ false),AU AN 1 rowv R.length (DJ R),AY (BC 0 R)] σ3:=by
   have h6:H [G7 mb (pairs (M++[x])),I0,pt cb (.cells (c4 dv nn (now+1) mb++[rowv]) AZ false),AU AN 1 rowv R.length (DJ R),AY (BC 0 R),pt ib (.cells [.int .i64 a,.int .i64 0,.int .u64 (now+1),.bool false,.slice none 0 0] EC false)] σ3:=h3.pick [3,4,0,1,2,5] (by decide)
   have h7:=(A8 (l:=[G7 mb (pairs (M++[x])),I0])).2 h6
   have h8:H [pt ib (.cells [.int .i64 a,.int .i64 0,.int .u64 (now+1),.bool false,.slice none 0 0] EC false),AY [G7 mb (pairs (M++[x])),I0],pt cb (.cells (c4 dv nn (now+1) mb++[rowv]) AZ false),AU AN 1 rowv R.length (DJ R),AY (BC 0 R)] σ3:=h7.pick [4,0,1,2,3] (by decide)
   have hB:Ax.H (sE (.slice none 0 0) []::[pt ib (.cells [.int .i64 a,.int .i64 0,.int .u64 (now+1),.bool false,.slice none 0 0] EC false),AY [G7 mb (pairs (M++[x])),I0],pt cb (.cells (c4 dv nn (now+1) mb++[rowv]) AZ false),AU AN 1 rowv R.length (DJ R),AY (BC 0 R)]) σ3 :=
    (BK.2 ⟨⟨rfl,rfl⟩,h8⟩:H (HZ (Value.slice none 0 0=.slice none 0 0∧([]:List UInt8)=[])::_) σ3).map0 fun r hr=>.inl hr
   unfold B6
   rw [BB]
   exact hB.pick [1,0,2,3,4,5] (by decide)
  exact ((A8 (l:=[B6 0 x,AY [G7 mb (pairs (M++[x])),I0]])).2 h5).pick [1,2,3,0] (by decide)
 have hleR:∀ r∈R,r.used≤now:=fun r hr=>hc.le r (hc.perm.mem_iff.1 hr)
 refine AAb (cs:=c4 dv nn (now+1) mb) (x:=x) rfl h4 hb ?_ ?_
 ·intro k hk
  rw [GP (List.getElem?_eq_getElem hk)]
  have:=hleR _ (List.getElem_mem hk)
  show _≤now+1
  omega
 ·intro rowv' σ4 h5
  have h6:H (CO cb dv nn (now+1) mb rowv' (R++[x]) (M++[x]) I0) σ4:=mY.2 h5
  have hx:(R++[x])[R.length]?=some x:=by simp
  have hheap:C0 ku (R++[x]) (R++[x]).length:=by
   intro k h0 hk
   simp only [List.length_append,List.length_cons,List.length_nil] at hk
   by_cases e:k=R.length
   ·subst e
    rw [GP hx]
    have hp:(R.length - 1) / 2<R.length:=by omega
    rw [GP (x:=R[(R.length - 1) / 2]) (by rw [List.getElem?_append_left hp,List.getElem?_eq_getElem hp])]
    have:=hleR _ (List.getElem_mem hp)
    show _≤now+1
    omega
   ·have:=hc.heap k h0 (by omega)
    unfold Ky at this ⊢
    rw [List.getElem?_append_left (by omega),List.getElem?_append_left (by omega)]
    exact this
  refine AAU h6 hx ?_ hheap (by simp; omega) ?_
  ·intro r hr
   rcases List.mem_append.1 hr with hr | hr
   ·have:=hleR r hr; omega
   ·simp at hr; subst hr; exact Nat.le_refl _
  ·intro R' σ5 hp hok h7
   have e2:(R++[x]).set R.length { x with used:=now+1 }=R++[x]:=by simp [x]
   rw [e2] at hp
   refine hQ rowv' R' ib σ5 (hc.new rfl hno (hp.trans (hc.perm.append_right [x])) hok) h7
end
end Go.Ax.O
set_option maxRecDepth 100000
namespace Go.Ax.O
open Go.Proofs Go.RowKit
variable {l m:List AK} {σ:AHeap} {Q:WK}
theorem O5 {v:Value} {x:List UInt8} (hx:x≠[]):sE v x=jI v x:=by
 funext r; apply propext
 constructor
 ·rintro (⟨_,_,h⟩ | h)
  ·exact absurd h hx
  ·exact h
 ·exact .inr
structure DPlain (D:DM) (n:Nat):Prop where
 ok:D.Ok n
 off:D.off=false
 fuse:D.fuse=0
theorem DPlain.fling {D:DM} {n a:Nat} {bs:List UInt8} (h:DPlain D n) (ha:a<n) (hb:bs.length=256):DPlain (D.fling a bs) n:=⟨ABO h.ok ha hb,h.off,h.fuse⟩
theorem VA {α:Type} {R:List α} {k:Nat} {x:α} (hk:R[k]?=some x):R.set k x=R:=by
 apply List.ext_getElem?
 intro j
 rw [List.getElem?_set]
 split
 ·rename_i e; subst e; rw [hk,if_pos (List.getElem?_eq_some_iff.1 hk).1]
 ·rfl
theorem jH {R:List HU} {k:Nat} {x y:HU} (hk:R[k]?=some x) (hy:y.ib=x.ib):DJ (R.set k y)=DJ R:=by
 unfold DJ
 rw [List.map_set,hy]
 exact VA (by rw [List.getElem?_map,hk]; rfl)
section
variable {cb nn now mb n:Nat} {dv rowv:Value} {R M A B:List HU} {I0:AK} {D:DM}
def UW (D:DM) (x:HU):DM:=if x.dirty then D.fling x.pl x.b else D
abbrev KK (x:HU):HU:={ x with dirty:=false }
theorem yO {x y:HU} (hpl:y.pl=x.pl) (hib:y.ib=x.ib):pairs (A++y::B)=pairs (A++x::B):=by simp [pairs,hpl,hib]
theorem AAB {k:Nat} {x:HU} (h:H (CO cb dv nn now mb rowv R (A++x::B) (AY [Disk dv D,I0])) σ) (hk:R[k]?=some x) (hD:DPlain D n) (hpl:x.pl<n) (hxb:x.b.length=256) (hm:D.fly.length<1099511627776)
 (hQ:∀ σ',H (CO cb dv nn now mb rowv (R.set k (KK x)) (A++KK x::B) (AY [Disk dv (UW D x),I0])) σ'→Q (.int .i64 0) σ'):E JI [.pointer (some ⟨cb,0,none⟩),.pointer (some ⟨x.ib,0,none⟩)] σ Q:=by
 have hkl:=(List.getElem?_eq_some_iff.1 hk).1
 apply TG; unfold JH
 have h0:H [AY [Disk dv D,I0],AY (BC 0 R),pt cb (.cells [dv,.int .i64 nn,.int .u64 now,.map (some mb),rowv] AZ false),AU AN 1 rowv R.length (DJ R),G7 mb (pairs (A++x::B))] σ:=h.pick [4,2,0,1,3] (by decide)
 have h1:H [AY (BC 0 R),Disk dv D,I0,pt cb (.cells [dv,.int .i64 nn,.int .u64 now,.map (some mb),rowv] AZ false),AU AN 1 rowv R.length (DJ R),G7 mb (pairs (A++x::B))] σ:=((A8 (l:=[Disk dv D,I0])).1 h0).pick [2,0,1,3,4,5] (by decide)
 have h2:=KO h1 hk
 unfold B6 at h2
 rw [BB,O5 (by intro e; rw [e] at hxb; simp at hxb)] at h2
 have r3:=BO (n:=1) (o:=3) (h2.row 0 rfl)
 have r0:=BO (n:=1) (o:=0) (h2.row 0 rfl)
 have r4:=BO (n:=1) (o:=4) (h2.row 0 rfl)
 have c0:=BO (n:=1) (o:=0) (h2.row 5 rfl)
 simp [r3]
 cases hd:x.dirty with
 | false =>
   simp
   have e:KK x=x:=by cases x; simp_all [KK]
   have e2:UW D x=D:=by simp [UW,hd]
   rw [e,e2,VA hk] at hQ
   exact hQ σ h
 | true =>
   simp [r0,r4,c0]
   refine AAI (bs:=x.b) h2 3 rfl hD.ok (by rw [hD.fuse]; omega) hm (by omega) (fun τ hτ=>hτ.rob_rd 1 rfl) ?_
   rw [pE hD.ok hD.off hD.fuse hpl hxb]
   intro σ1 h3
   simp
   refine FU h3 0 rfl rfl (by simp) ?_
   intro σ2 h4
   have e2:UW D x=D.fling x.pl x.b:=by simp [UW,hd]
   rw [e2] at hQ
   refine hQ σ2 ?_
   have h5:H [pt x.ib (.cells [.int .i64 x.pl,.int .i64 k,.int .u64 x.used,.bool false,x.sv] EC false),jI x.sv x.b,AY ((BC 0 R).set k emp),Disk dv (D.fling x.pl x.b),I0,pt cb (.cells [dv,.int .i64 nn,.int .u64 now,.map (some mb),rowv] AZ false),AU AN 1 rowv R.length (DJ R),G7 mb (pairs (A++x::B))] σ2:=h4
   rw [← O5 (v:=x.sv) (x:=x.b) (by intro e; rw [e] at hxb; simp at hxb)] at h5
   have h6:=aP (r:=KK x) hkl (BB.2 h5)
   have h7:=(A8 (l:=[Disk dv (D.fling x.pl x.b),I0])).2 (h6.pick [1,2,0,3,4,5] (by decide))
   unfold CO
   rw [yO (x:=x) (y:=KK x) rfl rfl,jH (y:=KK x) hk rfl,List.length_set]
   exact h7.pick [2,3,1,4,0] (by decide)
theorem ACJ (h:H (CO cb dv nn now mb rowv R M I0) σ) (hlt:R.length<nn) (hQ:Q (.int .i64 0) σ):E EA [.pointer (some ⟨cb,0,none⟩)] σ Q:=by
 apply LP; unfold HK
 have r4:=BO (n:=1) (o:=4) (h.row 0 rfl)
 have r1:=BO (n:=1) (o:=1) (h.row 0 rfl)
 obtain ⟨_,_,a,c,rfl⟩:=h.own_src 1 rfl
 simp [r4,r1,hlt]
 exact hQ
theorem ABb {x:HU} (h:H (CO cb dv nn now mb rowv R (x::M) (AY [Disk dv D,I0])) σ) (hc:T9 R (x::M) now) (hge:nn≤R.length) (hb:R.length<1099511627776) (hD:DPlain D n) (hpl:x.pl<n) (hxb:x.b.length=256) (hm:D.fly.length<1099511627776)
 (hQ:∀ rowv' R' σ',T9 R' M now→H (CO cb dv nn now mb rowv' R' M (AY [Disk dv (UW D x),I0])) σ'→Q (.int .i64 0) σ'):E EA [.pointer (some ⟨cb,0,none⟩)] σ Q:=by
 apply LP; unfold HK
 have r4:=BO (n:=1) (o:=4) (h.row 0 rfl)
 have r1:=BO (n:=1) (o:=1) (h.row 0 rfl)
 have hl:=hc.perm.length_eq
 simp only [List.length_cons] at hl
 obtain ⟨rb,rc,rfl,hrc,rest,hrow⟩:=h.own_form 1 rfl (by omega)
 have hnl:¬ (R.length:Int)<(nn:Int):=by omega
 simp [r4,r1]
 refine VH (fun g=>absurd g (by omega)) fun _=>?_
 have h0:=hc.top
 have rx:=BO (n:=1) (o:=0) hrow
 rw [List.getElem?_append_left (by rw [JT]; omega),NN h0] at rx
 rw [S6 (by omega)]
 simp [rx]
 refine AAB (A:=[]) (B:=M) (k:=0) h h0 hD hpl hxb hm ?_
 intro σ1 h1
 simp
 rw [AAY _ rfl,A5]
 have hc1:T9 (R.set 0 (KK x)) (KK x::M) now:=T9.mod (A:=[]) hc h0 rfl rfl
 have hl1:(R.set 0 (KK x)).length=M.length+1:=by rw [List.length_set]; exact hl
 refine ACO (n:=M.length) (x:=KK x) (cs:=c4 dv nn now mb) rfl (mY.1 h1) hl1 hc1.top (by omega) (by rw [← hl1]; exact hc1.heap) ?_
 intro rowv' R' σ2 hp hok h2
 rw [ADY]
 have h3:H [B6 M.length (KK x),AY [G7 mb (pairs (KK x::M)),AY [Disk dv (UW D x),I0]],pt cb (.cells (c4 dv nn now mb++[rowv']) AZ false),AU AN 1 rowv' R'.length (DJ R'),AY (BC 0 R')] σ2 :=
  (A8 (l:=[B6 M.length (KK x),AY [G7 mb (pairs (KK x::M)),AY [Disk dv (UW D x),I0]]])).1 (h2.pick [3,0,1,2] (by decide))
 have h4:H [G7 mb (pairs (KK x::M)),AY [Disk dv (UW D x),I0],B6 M.length (KK x),pt cb (.cells (c4 dv nn now mb++[rowv']) AZ false),AU AN 1 rowv' R'.length (DJ R'),AY (BC 0 R')] σ2 :=
  (A8 (l:=[G7 mb (pairs (KK x::M)),AY [Disk dv (UW D x),I0]])).1 (h3.pick [1,0,2,3,4] (by decide))
 have e1:(pairs (KK x::M)).Perm (pairs M++[(x.pl,x.ib)]):=by
  exact (List.perm_append_singleton (x.pl,x.ib) (pairs M)).symm
 rw [lY e1] at h4
 have r3:=BO (n:=1) (o:=3) (h4.row 3 rfl)
 have h5:=h4.pick [2,0,1,3,4,5] (by decide)
 unfold B6 at h5
 have q0:=BO (n:=1) (o:=0) ((BB.1 h5).row 0 rfl)
 simp [r3,q0]
 refine uL (p:=(x.pl,x.ib)) h4 (i:=0) rfl ?_ ?_
 ·intro q hq
  obtain ⟨r,hr,rfl⟩:=List.mem_map.1 hq
  have:=hc.nd
  simp only [List.map_cons,List.nodup_cons] at this
  intro e
  exact this.1 (List.mem_map.2 ⟨r,hr,e⟩)
 ·intro σ3 h6
  refine hQ rowv' R' σ3 (hc1.out hp hok) ?_
  exact h6.pick [3,4,5,0,1] (by decide)
end
end Go.Ax.O
set_option maxRecDepth 100000
namespace Go.Ax.O
open Go.Proofs Go.RowKit
variable {l m:List AK} {σ:AHeap} {Q:WK}
section
variable {cb nn now mb n:Nat} {dv rowv:Value} {R M A B:List HU} {I0:AK} {D:DM}
theorem OQ:H (CO cb dv nn now mb rowv R M (AY [Disk dv D,I0])) σ↔H [pt cb (.cells [dv,.int .i64 nn,.int .u64 now,.map (some mb),rowv] AZ false),AU AN 1 rowv R.length (DJ R),AY (BC 0 R),G7 mb (pairs M),Disk dv D,I0] σ:=by
 constructor
 ·intro h
  exact ((A8 (l:=[Disk dv D,I0])).1 (h.pick [4,0,1,2,3] (by decide):H [AY [Disk dv D,I0],_,_,_,_] σ)).pick [2,3,4,5,0,1] (by decide)
 ·intro h
  have h1:H [Disk dv D,I0,pt cb (.cells [dv,.int .i64 nn,.int .u64 now,.map (some mb),rowv] AZ false),AU AN 1 rowv R.length (DJ R),AY (BC 0 R),G7 mb (pairs M)] σ:=h.pick [4,5,0,1,2,3] (by decide)
  exact ((A8 (l:=[Disk dv D,I0])).2 h1).pick [1,2,3,4,0] (by decide)
theorem gY (h:H l σ) (i:Nat) (hi:l[i]?=some (Disk dv D)):∃ b,dv=.pointer (some ⟨b,0,none⟩):=by
 obtain ⟨b,_,_,_,e,_⟩:=NL (h.out i hi); exact ⟨b,e⟩
theorem V8 {a:Nat} (h:H (CO cb dv nn now mb rowv R M (AY [Disk dv D,I0])) σ) (hD:DPlain D n) (ha:a<n) (hQ:Q (.int .i64 0) σ):E EW [.pointer (some ⟨cb,0,none⟩),.int .i64 a] σ Q:=by
 have h1:=OQ.1 h
 obtain ⟨db,hdb⟩:=gY h1 4 rfl
 have hlen:=hD.ok.len
 have hn2:=hD.ok.hi
 apply LJ; unfold GU
 have c0:=BO (n:=1) (o:=0) (h1.row 0 rfl)
 simp [c0]
 rw [hdb]
 simp
 unfold DL
 simp [c0]
 refine AAO h1 4 rfl ?_
 rw [hD.off]
 have hna:¬ (a:Int)<0:=by omega
 simp [hna,c0]
 refine WJ h1 4 rfl (by omega) ?_
 have:D.last.length / 256=n:=by omega
 rw [this]
 have hnn:¬ n≤a:=by omega
 unfold DU
 simpa [hnn] using hQ
theorem vN {x:HU} (h:H (CO cb dv nn now mb rowv R (A++x::B) I0) σ) (hc:T9 R (A++x::B) now) (hnow:now+1<18446744073709551616) (hb:R.length<1099511627776) (hxb:x.b.length=256)
 (hQ:∀ R' w σ',T9 R' (A++B++[{ x with used:=now+1 }]) (now+1)→H (CO cb dv nn (now+1) mb rowv R' (A++B++[{ x with used:=now+1 }]) (AY [I0,AU AL 1 w 256 (bv x.b)])) σ'→Q (.tuple #[w,.int .i64 0]) σ') :
 FQ Q (.pointer (some ⟨cb,0,none⟩)) (.int .i64 x.pl) σ:=by
 unfold FQ
 refine vX h hc hnow hb ?_
 intro R' σ1 hc1 h1
 have hm:{ x with used:=now+1 }∈R':=hc1.perm.mem_iff.2 (by simp)
 obtain ⟨k,hk,hkx⟩:=List.getElem_of_mem hm
 have hk':R'[k]?=some { x with used:=now+1 }:=by rw [List.getElem?_eq_getElem hk,hkx]
 have h2:=KO (h1.pick [2,0,1,3,4] (by decide)) hk'
 unfold B6 at h2
 rw [BB,O5 (by intro e; simp only at e; rw [e] at hxb; simp at hxb)] at h2
 have r4:=BO (n:=1) (o:=4) (h2.row 0 rfl)
 simp [r4]
 obtain ⟨sb,so,sc,cc,hsv,_⟩:=h2.rob 1 rfl
 simp only at hsv
 have hs:=(h2.rob_rd 1 rfl).src
 simp only at hs
 rw [hsv] at hs ⊢
 rw [hxb] at hs ⊢
 refine NE h1 hs (by omega) ?_
 intro w σ2 h3
 try simp
 refine hQ R' w σ2 hc1 ?_
 have h4:=(A8 (l:=[I0,AU AL 1 w 256 (bv x.b)])).2 (h3.pick [4,5,0,1,2,3] (by decide))
 exact h4.pick [1,2,3,4,0] (by decide)
end
structure It where
 pl:Nat
 dirty:Bool
 b:List UInt8
structure CM where
 n:Nat
 its:List It
def XV (r:HU):It:=⟨r.pl,r.dirty,r.b⟩
def CacheA (v dv:Value) (K:Nat) (C:CM):AK:=ex fun p:(Nat×Nat×Nat)×Value×List HU×List HU =>
 sep (HZ (v=.pointer (some ⟨p.1.1,0,none⟩)∧T9 p.2.2.1 p.2.2.2 p.1.2.2∧p.2.2.2.map XV=C.its∧p.1.2.2≤K))
  (AY [pt p.1.1 (.cells [dv,.int .i64 C.n,.int .u64 p.1.2.2,.map (some p.1.2.1),p.2.1] AZ false),AU AN 1 p.2.1 p.2.2.1.length (DJ p.2.2.1),AY (BC 0 p.2.2.1),G7 p.1.2.1 (pairs p.2.2.2)])
theorem LW {v dv:Value} {K:Nat} {C:CM} (h:H (CacheA v dv K C::m) σ):∃ cb mb now rowv R M,v=.pointer (some ⟨cb,0,none⟩)∧T9 R M now∧M.map XV=C.its∧now≤K∧H (CO cb dv C.n now mb rowv R M (AY m)) σ:=by
 obtain ⟨⟨⟨cb,mb,now⟩,rowv,R,M⟩,h⟩:=JM.1 h
 rw [BB] at h
 obtain ⟨⟨h1,h2,h3,h4⟩,h⟩:=BK.1 h
 refine ⟨cb,mb,now,rowv,R,M,h1,h2,h3,h4,?_⟩
 have h5:=(A8.1 h).perm List.perm_append_comm
 exact (AA4.1 h5).pick [1,2,3,4,0] (by decide)
theorem RR {dv rowv:Value} {K cb mb now:Nat} {C:CM} {R M:List HU} (h2:T9 R M now) (h3:M.map XV=C.its) (h4:now≤K) (h:H (CO cb dv C.n now mb rowv R M (AY m)) σ):H (CacheA (.pointer (some ⟨cb,0,none⟩)) dv K C::m) σ:=by
 refine JM.2 ⟨((cb,mb,now),rowv,R,M),?_⟩
 rw [BB]
 refine BK.2 ⟨⟨rfl,h2,h3,h4⟩,?_⟩
 rw [A8]
 have h5:H [AY m,pt cb (.cells [dv,.int .i64 C.n,.int .u64 now,.map (some mb),rowv] AZ false),AU AN 1 rowv R.length (DJ R),AY (BC 0 R),G7 mb (pairs M)] σ:=h.pick [4,0,1,2,3] (by decide)
 exact (A8.1 h5).perm List.perm_append_comm
end Go.Ax.O
set_option maxRecDepth 100000
namespace Go.Ax.O
open Go.Proofs Go.RowKit
variable {l m:List AK} {σ:AHeap} {Q:WK}
structure CM.Ok (C:CM) (n:Nat):Prop where
 lo:1≤C.n
 hi:C.n≤1024
 len:C.its.length≤C.n
 it:∀ x∈C.its,x.pl<n∧x.b.length=256
 nd:(C.its.map (·.pl)).Nodup
def cR (D:DM) (x:It):DM:=if x.dirty then D.fling x.pl x.b else D
def CM.room (C:CM) (D:DM):List It×DM:=if C.its.length<C.n then (C.its,D) else match C.its with
 | []=>([],D)
 | x::l=>(l,cR D x)
theorem kX {M:List HU} {A B:List It} {it:It} (h:M.map XV=A++it::B):∃ A' x B',M=A'++x::B'∧A'.map XV=A∧XV x=it∧B'.map XV=B:=by
 obtain ⟨A',T,rfl,h1,h2⟩:=List.map_eq_append_iff.1 h
 obtain ⟨x,B',rfl,h3,h4⟩:=List.map_eq_cons_iff.1 h2
 exact ⟨A',x,B',rfl,h1,h3,h4⟩
theorem ACR {v dv:Value} {K n:Nat} {C:CM} {D:DM} {I0:AK} {A B:List It} {it:It} (h:H [CacheA v dv K C,Disk dv D,I0] σ) (hC:C.Ok n) (hits:C.its=A++it::B) (hD:DPlain D n) (hK:K+1<18446744073709551616)
 (hQ:∀ w σ',H [CacheA v dv (K+1) { C with its:=A++B++[it] },Disk dv D,I0,AU AL 1 w 256 (bv it.b)] σ'→Q (.tuple #[w,.int .i64 0]) σ'):E F2 [v,.int .i64 it.pl] σ Q:=by
 obtain ⟨cb,mb,now,rowv,R,M,rfl,hc,hM,hnow,h1⟩:=LW h
 rw [hits] at hM
 obtain ⟨A',x,B',rfl,hA',hx,hB'⟩:=kX hM
 obtain ⟨hpl,hxb⟩:=hC.it it (by rw [hits]; simp)
 have hl:=hc.perm.length_eq
 have hl2:(A'++x::B').length=C.its.length:=by rw [hits,← hM,List.length_map]
 have hlen:=hC.len
 have hhi:=hC.hi
 have e1:it.pl=x.pl:=by rw [← hx]; rfl
 have e2:it.b=x.b:=by rw [← hx]; rfl
 rw [e1] at hpl ⊢
 apply NM; unfold IG
 refine V8 h1 hD hpl ?_
 simp
 have r3:=BO (n:=1) (o:=3) (h1.row 0 rfl)
 simp [r3]
 have hlk:=YT (p:=(x.pl,x.ib)) false h1 (i:=3) rfl (by simp [pairs])
 simp only at hlk
 rw [hlk]
 simp [okV]
 refine vN h1 hc (by omega) (by omega) (by rw [← e2]; exact hxb) ?_
 intro R' w σ1 hc1 h2
 refine hQ w σ1 ?_
 have h3:H [CacheA (.pointer (some ⟨cb,0,none⟩)) dv (K+1) { C with its:=A++B++[it] },AY [Disk dv D,I0],AU AL 1 w 256 (bv x.b)] σ1:=by
  refine RR hc1 ?_ (by omega) h2
  simp only [List.map_append,hA',hB',List.map_cons,List.map_nil]
  rw [← hx]; rfl
 rw [e2]
 exact ((A8 (l:=[Disk dv D,I0])).1 (h3.pick [1,0,2] (by decide):H (AY [Disk dv D,I0]::[CacheA (.pointer (some ⟨cb,0,none⟩)) dv (K+1) { C with its:=A++B++[it] },AU AL 1 w 256 (bv x.b)]) σ1)).pick [2,0,1,3] (by decide)
theorem vG {cb mb now n:Nat} {dv rowv:Value} {R M:List HU} {I0:AK} {D:DM} {C:CM} (h:H (CO cb dv C.n now mb rowv R M (AY [Disk dv D,I0])) σ) (hc:T9 R M now) (hM:M.map XV=C.its) (hC:C.Ok n) (hD:DPlain D n) (hm:D.fly.length<1099511627776)
 (hQ:∀ rowv' R' M' σ',T9 R' M' now→M'.map XV=(C.room D).1→H (CO cb dv C.n now mb rowv' R' M' (AY [Disk dv (C.room D).2,I0])) σ'→Q (.int .i64 0) σ'):E EA [.pointer (some ⟨cb,0,none⟩)] σ Q:=by
 have hl:=hc.perm.length_eq
 have hl2:M.length=C.its.length:=by rw [← hM,List.length_map]
 have hlen:=hC.len
 have hhi:=hC.hi
 have hlo:=hC.lo
 by_cases hlt:C.its.length<C.n
 ·have e:C.room D=(C.its,D):=by simp [CM.room,hlt]
  rw [e] at hQ
  refine ACJ h (by omega) ?_
  exact hQ rowv R M σ hc hM h
 ·cases M with
  | nil=>simp at hl2; omega
  | cons x M0 =>
    have hM':=hM
    simp only [List.map_cons] at hM'
    have e:C.room D=(M0.map XV,UW D x):=by
     unfold CM.room
     rw [if_neg hlt,← hM']
     rfl
    rw [e] at hQ
    obtain ⟨hpl,hxb⟩:=hC.it (XV x) (by rw [← hM']; simp)
    refine ABb h hc (by omega) (by omega) hD hpl hxb hm ?_
    intro rowv' R' σ1 hc1 h1
    exact hQ rowv' R' M0 σ1 hc1 rfl h1
theorem O1 {n:Nat} {D:DM} {C:CM} (hC:C.Ok n) (hD:DPlain D n):DPlain (C.room D).2 n∧(C.room D).2.fly.length≤D.fly.length+4∧(C.room D).1.length<C.n∧(∀ x∈(C.room D).1,x∈C.its)∧((C.room D).1.map (·.pl)).Nodup:=by
 have hlo:=hC.lo
 have hlen:=hC.len
 unfold CM.room
 split
 ·rename_i h
  exact ⟨hD,by simp,h,fun x hx=>hx,hC.nd⟩
 ·rename_i h
  split
  ·rename_i e; rw [e] at h; simp at h; omega
  ·rename_i x l e
   have hx:=hC.it x (by rw [e]; simp)
   have hnd:=hC.nd
   rw [e] at hlen hnd ⊢
   simp only [List.length_cons] at hlen
   simp only [List.map_cons,List.nodup_cons] at hnd
   refine ⟨?_,?_,by show l.length<C.n; omega,fun y hy=>List.mem_cons_of_mem _ hy,hnd.2⟩
   ·unfold cR; split
    ·exact hD.fling hx.1 hx.2
    ·exact hD
   ·unfold cR; split
    ·simp [DM.fling,BW]
    ·simp
theorem AAq {v dv:Value} {K n a:Nat} {C:CM} {D:DM} {I0:AK} (h:H [CacheA v dv K C,Disk dv D,I0] σ) (hC:C.Ok n) (hno:∀ x∈C.its,x.pl≠a) (ha:a<n) (hD:DPlain D n) (hm:D.fly.length<1099511627000) (hK:K+2<18446744073709551616)
 (hQ:∀ w σ',H [CacheA v dv (K+2) { C with its:=(C.room D).1++[⟨a,false,(C.room D).2.block a⟩] },Disk dv (C.room D).2,I0,AU AL 1 w 256 (bv ((C.room D).2.block a))] σ'→Q (.tuple #[w,.int .i64 0]) σ'):E F2 [v,.int .i64 a] σ Q:=by
 obtain ⟨cb,mb,now,rowv,R,M,rfl,hc,hM,hnow,h1⟩:=LW h
 have hhi:=hC.hi
 have hnoM:∀ p∈pairs M,p.1≠a:=by
  intro p hp
  obtain ⟨r,hr,rfl⟩:=List.mem_map.1 hp
  exact hno (XV r) (by rw [← hM]; exact List.mem_map_of_mem hr)
 obtain ⟨hD1,hf1,hl1,hsub,hnd1⟩:=O1 hC hD
 apply NM; unfold IG
 refine V8 h1 hD ha ?_
 simp
 have r3:=BO (n:=1) (o:=3) (h1.row 0 rfl)
 simp [r3]
 have hlk:=bV (a:=a) false h1 (i:=3) rfl hnoM
 rw [hlk]
 simp [okV]
 refine vG h1 hc hM hC hD (by omega) ?_
 intro rowv1 R1 M1 σ1 hc1 hM1 h2
 simp
 generalize (C.room D).2=D1 at hD1 hf1 h2 hQ
 generalize (C.room D).1=its1 at hl1 hsub hnd1 hM1 hQ
 have h3:=OQ.1 h2
 have c0:=BO (n:=1) (o:=0) (h3.row 0 rfl)
 simp [c0]
 have hr:=rK hD1.ok ha
 rw [hD1.off] at hr
 simp only [Bool.false_eq_true,if_false] at hr
 refine ABQ h3 4 rfl hD1.ok (by omega) hr ?_
 intro w0 σ2 h4
 simp
 simp only [Int.toNat_natCast] at h4
 have hbl:=WT hD1.ok ha
 have hl2:=hc1.perm.length_eq
 have hl3:M1.length=its1.length:=by rw [← hM1,List.length_map]
 have h5:H (CO cb dv C.n now mb rowv1 R1 M1 (AY [Disk dv D1,AY [I0,AU AL 1 w0 256 (bv (D1.block a))]])) σ2:=by
  refine OQ.2 ?_
  have:=(A8 (l:=[I0,AU AL 1 w0 256 (bv (D1.block a))])).2 (h4.pick [5,6,0,1,2,3,4] (by decide))
  exact this.pick [1,2,3,4,5,0] (by decide)
 refine ABV h5 hc1 ?_ (by omega) (by omega) ?_
 ·intro r hr
  exact hno (XV r) (hsub _ (by rw [← hM1]; exact List.mem_map_of_mem hr))
 intro rowv2 R2 ib σ3 hc2 h6
 simp
 -- the block's bytes go into the item
 have h7:H [AY [Disk dv D1,AY [I0,AU AL 1 w0 256 (bv (D1.block a))]],pt cb (.cells [dv,.int .i64 C.n,.int .u64 (now+1:Nat),.map (some mb),rowv2] AZ false),AU AN 1 rowv2 R2.length (DJ R2),AY (BC 0 R2),G7 mb (pairs (M1++[⟨ib,a,now+1,false,.slice none 0 0,[]⟩]))] σ3:=h6.pick [4,0,1,2,3] (by decide)
 have h8:=((A8 (l:=[Disk dv D1,AY [I0,AU AL 1 w0 256 (bv (D1.block a))]])).1 h7).pick [1,0,2,3,4,5] (by decide)
 have h9:H [AU AL 1 w0 256 (bv (D1.block a)),I0,Disk dv D1,pt cb (.cells [dv,.int .i64 C.n,.int .u64 (now+1:Nat),.map (some mb),rowv2] AZ false),AU AN 1 rowv2 R2.length (DJ R2),AY (BC 0 R2),G7 mb (pairs (M1++[⟨ib,a,now+1,false,.slice none 0 0,[]⟩]))] σ3 :=
  ((A8 (l:=[I0,AU AL 1 w0 256 (bv (D1.block a))])).1 h8).pick [1,0,2,3,4,5,6] (by decide)
 obtain ⟨wb,wc,rfl,hwc,hro⟩:=iQ (by omega) h9
 have h10:=hro 0 256 wc hwc (by omega)
 rw [show (((D1.block a).drop 0).take 256)=D1.block a by rw [List.drop_zero,List.take_of_length_le (by omega)]] at h10
 have hm2:(⟨ib,a,now+1,false,.slice none 0 0,[]⟩:HU)∈R2:=hc2.perm.mem_iff.2 (by simp)
 obtain ⟨k,hk,hkx⟩:=List.getElem_of_mem hm2
 have hk':R2[k]?=some ⟨ib,a,now+1,false,.slice none 0 0,[]⟩:=by rw [List.getElem?_eq_getElem hk,hkx]
 have h11:=KO (h10.pick [5,0,1,2,3,4,6] (by decide)) hk'
 unfold B6 at h11
 rw [BB] at h11
 refine FU h11 0 rfl rfl (by simp) ?_
 intro σ4 h12
 let x3:HU:=⟨ib,a,now+1,false,.slice (some ⟨wb,0,none⟩) 256 wc,D1.block a⟩
 have h13:H [pt ib (.cells [.int .i64 a,.int .i64 k,.int .u64 (now+1:Nat),.bool false,.slice (some ⟨wb,0,none⟩) 256 wc] EC false),jI (.slice (some ⟨wb,0,none⟩) 256 wc) (D1.block a),AY ((BC 0 R2).set k emp),I0,Disk dv D1,pt cb (.cells [dv,.int .i64 C.n,.int .u64 (now+1:Nat),.map (some mb),rowv2] AZ false),AU AN 1 rowv2 R2.length (DJ R2),G7 mb (pairs (M1++[⟨ib,a,now+1,false,.slice none 0 0,[]⟩]))] σ4:=h12.pick [0,3,2,4,5,6,7,8] (by decide)
 rw [← O5 (by intro e; rw [e] at hbl; simp at hbl)] at h13
 have h14:=aP (r:=x3) hk (BB.2 h13)
 have e3:DJ (R2.set k x3)=DJ R2:=jH hk' rfl
 have e4:pairs (M1++[x3])=pairs (M1++[⟨ib,a,now+1,false,.slice none 0 0,[]⟩]):=by simp [pairs,x3]
 have h15:H (CO cb dv C.n (now+1) mb rowv2 (R2.set k x3) (M1++[x3]) (AY [Disk dv D1,I0])) σ4:=by
  refine OQ.2 ?_
  rw [e3,e4,List.length_set]
  exact h14.pick [3,4,0,5,2,1] (by decide)
 have hc3:T9 (R2.set k x3) (M1++[x3]) (now+1):=T9.mod (B:=[]) hc2 hk' rfl rfl
 have hl4:=hc2.perm.length_eq
 simp only [List.length_append,List.length_cons,List.length_nil] at hl4
 refine vN (A:=M1) (B:=[]) (x:=x3) h15 hc3 (by omega) (by simp; omega) hbl ?_
 intro R3 w σ5 hc4 h16
 refine hQ w σ5 ?_
 have h17:H [CacheA (.pointer (some ⟨cb,0,none⟩)) dv (K+2) { C with its:=its1++[⟨a,false,D1.block a⟩] },AY [Disk dv D1,I0],AU AL 1 w 256 (bv (D1.block a))] σ5:=by
  refine RR hc4 ?_ (by omega) h16
  simp only [List.map_append,hM1,List.map_cons,List.map_nil,List.append_nil]
  rfl
 exact ((A8 (l:=[Disk dv D1,I0])).1 (h17.pick [1,0,2] (by decide):H (AY [Disk dv D1,I0]::[CacheA (.pointer (some ⟨cb,0,none⟩)) dv (K+2) { C with its:=its1++[⟨a,false,D1.block a⟩] },AU AL 1 w 256 (bv (D1.block a))]) σ5)).pick [2,0,1,3] (by decide)
end Go.Ax.O
set_option maxRecDepth 100000
namespace Go.Ax.O
open Go.Proofs Go.RowKit
variable {l m:List AK} {σ:AHeap} {Q:WK}
theorem lN {cb nn now mb:Nat} {dv rowv w:Value} {R A:List HU} {x:HU} {bs:List UInt8} {I0:AK} {K:WK} (h:H (CO cb dv nn now mb rowv R (A++[x]) (AY [AU AL 1 w 256 (bv bs),I0])) σ) (hc:T9 R (A++[x]) now)
 (hQ:∀ sv R' σ',T9 R' (A++[{ x with dirty:=true,sv:=sv,b:=bs }]) now→H (CO cb dv nn now mb rowv R' (A++[{ x with dirty:=true,sv:=sv,b:=bs }]) (AY [AU AL 1 w 256 (bv bs),I0])) σ'→K (.int .i64 0) σ') :
 E C5 [w] σ fun v37 τ=>pu (AP 1 (.pointer (some ⟨x.ib,4,none⟩)) v37 τ) fun τ=>pu (AP 1 (.pointer (some ⟨x.ib,3,none⟩)) (.bool true) τ) fun τ=>K (.int .i64 0) τ:=by
 have h0:H [AU AL 1 w 256 (bv bs),I0,pt cb (.cells [dv,.int .i64 nn,.int .u64 now,.map (some mb),rowv] AZ false),AU AN 1 rowv R.length (DJ R),AY (BC 0 R),G7 mb (pairs (A++[x]))] σ :=
  (A8 (l:=[AU AL 1 w 256 (bv bs),I0])).1 (h.pick [4,0,1,2,3] (by decide))
 obtain ⟨hs,hbl,wa,wc,rfl⟩:=h0.own_src 0 rfl
 simp only [Nat.mul_one,yI] at hbl
 refine NE h0 hs (by omega) ?_
 intro c σ1 h1
 obtain ⟨fb,fc,rfl,hfc,hro⟩:=iQ (by omega) (h1.pick [6,0,1,2,3,4,5] (by decide))
 have h2:=hro 0 256 fc hfc (by omega)
 rw [show ((bs.drop 0).take 256)=bs by rw [List.drop_zero,List.take_of_length_le (by omega)]] at h2
 have hm:x∈R:=hc.perm.mem_iff.2 (by simp)
 obtain ⟨k,hk,hkx⟩:=List.getElem_of_mem hm
 have hk':R[k]?=some x:=by rw [List.getElem?_eq_getElem hk,hkx]
 have h3:=KO (h2.pick [5,0,1,2,3,4,6] (by decide)) hk'
 unfold B6 at h3
 rw [BB] at h3
 refine FU h3 0 rfl rfl (by simp) ?_
 intro σ2 h4
 refine FU h4 0 rfl rfl (by simp) ?_
 intro σ3 h5
 let y:HU:={ x with dirty:=true,sv:=.slice (some ⟨fb,0,none⟩) 256 fc,b:=bs }
 have h6:H [pt x.ib (.cells [.int .i64 x.pl,.int .i64 k,.int .u64 x.used,.bool true,.slice (some ⟨fb,0,none⟩) 256 fc] EC false),jI (.slice (some ⟨fb,0,none⟩) 256 fc) bs,AY ((BC 0 R).set k emp),AU AL 1 (.slice wa 256 wc) 256 (bv bs),I0,pt cb (.cells [dv,.int .i64 nn,.int .u64 now,.map (some mb),rowv] AZ false),AU AN 1 rowv R.length (DJ R),G7 mb (pairs (A++[x]))] σ3:=h5.pick [0,3,2,4,5,6,7,8] (by decide)
 rw [← O5 (by intro e; rw [e] at hbl; simp at hbl)] at h6
 have h7:=aP (r:=y) hk (BB.2 h6)
 have hc3:T9 (R.set k y) (A++[y]) now:=T9.mod (B:=[]) hc hk' rfl rfl
 refine hQ (.slice (some ⟨fb,0,none⟩) 256 fc) (R.set k y) σ3 hc3 ?_
 have e3:DJ (R.set k y)=DJ R:=jH hk' rfl
 have e4:pairs (A++[y])=pairs (A++[x]):=by simp [pairs,y]
 have h8:=(A8 (l:=[AU AL 1 (.slice wa 256 wc) 256 (bv bs),I0])).2 (h7.pick [1,2,0,3,4,5] (by decide))
 show H (CO cb dv nn now mb rowv (R.set k y) (A++[y]) _) σ3
 unfold CO
 rw [e3,e4,List.length_set]
 exact h8.pick [2,3,1,4,0] (by decide)
theorem ACp {v dv w:Value} {K n:Nat} {C:CM} {D:DM} {I0:AK} {A B:List It} {it:It} {bs:List UInt8} (h:H [CacheA v dv K C,Disk dv D,AU AL 1 w 256 (bv bs),I0] σ) (hC:C.Ok n) (hits:C.its=A++it::B) (hD:DPlain D n) (hK:K+1<18446744073709551616)
 (hQ:∀ σ',H [CacheA v dv (K+1) { C with its:=A++B++[⟨it.pl,true,bs⟩] },Disk dv D,AU AL 1 w 256 (bv bs),I0] σ'→Q (.int .i64 0) σ'):E ER [v,.int .i64 it.pl,w] σ Q:=by
 obtain ⟨cb,mb,now,rowv,R,M,rfl,hc,hM,hnow,h1⟩:=LW h
 rw [hits] at hM
 obtain ⟨A',x,B',rfl,hA',hx,hB'⟩:=kX hM
 obtain ⟨hpl,hxb⟩:=hC.it it (by rw [hits]; simp)
 have hl:=hc.perm.length_eq
 have hl2:(A'++x::B').length=C.its.length:=by rw [hits,← hM,List.length_map]
 have hlen:=hC.len
 have hhi:=hC.hi
 have e1:it.pl=x.pl:=by rw [← hx]; rfl
 rw [e1] at hpl hQ ⊢
 obtain ⟨hs,hbl,wa,wc,hw⟩:=h.own_src 2 rfl
 have h1:H (CO cb dv C.n now mb rowv R (A'++x::B') (AY [Disk dv D,AY [AU AL 1 w 256 (bv bs),I0]])) σ:=by
  have h2:H (AY [Disk dv D,AU AL 1 w 256 (bv bs),I0]::[pt cb (.cells [dv,.int .i64 C.n,.int .u64 now,.map (some mb),rowv] AZ false),AU AN 1 rowv R.length (DJ R),AY (BC 0 R),G7 mb (pairs (A'++x::B'))]) σ:=h1.pick [4,0,1,2,3] (by decide)
  refine OQ.2 ?_
  have h3:=((A8 (l:=[Disk dv D,AU AL 1 w 256 (bv bs),I0])).1 h2).pick [1,2,0,3,4,5,6] (by decide)
  exact ((A8 (l:=[AU AL 1 w 256 (bv bs),I0])).2 h3).pick [2,3,4,5,1,0] (by decide)
 apply IP; unfold F1
 refine V8 h1 hD hpl ?_
 simp only [wO,A5,hw,PI]
 rw [← hw]
 have r3:=BO (n:=1) (o:=3) (h1.row 0 rfl)
 simp [r3]
 have hlk:=YT (p:=(x.pl,x.ib)) false h1 (i:=3) rfl (by simp [pairs])
 simp only at hlk
 rw [hlk]
 simp [okV]
 unfold FP
 refine vX h1 hc (by omega) (by omega) ?_
 intro R' σ1 hc1 h2
 have h3:H (CO cb dv C.n (now+1) mb rowv R' (A'++B'++[{ x with used:=now+1 }]) (AY [AU AL 1 w 256 (bv bs),AY [Disk dv D,I0]])) σ1:=by
  have h4:=((A8 (l:=[AU AL 1 w 256 (bv bs),I0])).1 ((OQ.1 h2).pick [5,0,1,2,3,4] (by decide))).pick [6,1,0,2,3,4,5] (by decide)
  have h5:=((A8 (l:=[Disk dv D,I0])).2 h4).pick [1,0,2,3,4,5] (by decide)
  exact ((A8 (l:=[AU AL 1 w 256 (bv bs),AY [Disk dv D,I0]])).2 h5).pick [1,2,3,4,0] (by decide)
 simp
 refine lN (A:=A'++B') (x:={ x with used:=now+1 }) h3 hc1 ?_
 intro sv R2 σ2 hc2 h4
 refine hQ σ2 ?_
 have h5:H [CacheA (.pointer (some ⟨cb,0,none⟩)) dv (K+1) { C with its:=A++B++[⟨x.pl,true,bs⟩] },AU AL 1 w 256 (bv bs),AY [Disk dv D,I0]] σ2:=by
  refine RR hc2 ?_ (by omega) h4
  simp only [List.map_append,hA',hB',List.map_cons,List.map_nil]
  rfl
 exact ((A8 (l:=[Disk dv D,I0])).1 (h5.pick [2,0,1] (by decide):H (AY [Disk dv D,I0]::[CacheA (.pointer (some ⟨cb,0,none⟩)) dv (K+1) { C with its:=A++B++[⟨x.pl,true,bs⟩] },AU AL 1 w 256 (bv bs)]) σ2)).pick [2,0,3,1] (by decide)
theorem ABo {v dv w:Value} {K n a:Nat} {C:CM} {D:DM} {I0:AK} {bs:List UInt8} (h:H [CacheA v dv K C,Disk dv D,AU AL 1 w 256 (bv bs),I0] σ) (hC:C.Ok n) (hno:∀ x∈C.its,x.pl≠a) (ha:a<n) (hD:DPlain D n) (hm:D.fly.length<1099511627000) (hK:K+1<18446744073709551616)
 (hQ:∀ σ',H [CacheA v dv (K+1) { C with its:=(C.room D).1++[⟨a,true,bs⟩] },Disk dv (C.room D).2,AU AL 1 w 256 (bv bs),I0] σ'→Q (.int .i64 0) σ'):E ER [v,.int .i64 a,w] σ Q:=by
 obtain ⟨cb,mb,now,rowv,R,M,rfl,hc,hM,hnow,h1⟩:=LW h
 have hhi:=hC.hi
 have hnoM:∀ p∈pairs M,p.1≠a:=by
  intro p hp
  obtain ⟨r,hr,rfl⟩:=List.mem_map.1 hp
  exact hno (XV r) (by rw [← hM]; exact List.mem_map_of_mem hr)
 obtain ⟨hD1,hf1,hl1,hsub,hnd1⟩:=O1 hC hD
 obtain ⟨hs,hbl,wa,wc,hw⟩:=h.own_src 2 rfl
 have h1:H (CO cb dv C.n now mb rowv R M (AY [Disk dv D,AY [AU AL 1 w 256 (bv bs),I0]])) σ:=by
  have h2:H (AY [Disk dv D,AU AL 1 w 256 (bv bs),I0]::[pt cb (.cells [dv,.int .i64 C.n,.int .u64 now,.map (some mb),rowv] AZ false),AU AN 1 rowv R.length (DJ R),AY (BC 0 R),G7 mb (pairs M)]) σ:=h1.pick [4,0,1,2,3] (by decide)
  refine OQ.2 ?_
  have h3:=((A8 (l:=[Disk dv D,AU AL 1 w 256 (bv bs),I0])).1 h2).pick [1,2,0,3,4,5,6] (by decide)
  exact ((A8 (l:=[AU AL 1 w 256 (bv bs),I0])).2 h3).pick [2,3,4,5,1,0] (by decide)
 apply IP; unfold F1
 refine V8 h1 hD ha ?_
 simp only [wO,A5,hw,PI]
 rw [← hw]
 have r3:=BO (n:=1) (o:=3) (h1.row 0 rfl)
 simp [r3]
 have hlk:=bV (a:=a) false h1 (i:=3) rfl hnoM
 rw [hlk]
 simp [okV]
 refine vG h1 hc hM hC hD (by omega) ?_
 intro rowv1 R1 M1 σ1 hc1 hM1 h2
 simp
 generalize (C.room D).2=D1 at hD1 hf1 h2 hQ
 generalize (C.room D).1=its1 at hl1 hsub hnd1 hM1 hQ
 have hl2:=hc1.perm.length_eq
 have hl3:M1.length=its1.length:=by rw [← hM1,List.length_map]
 unfold FP
 refine ABV h2 hc1 ?_ (by omega) (by omega) ?_
 ·intro r hr
  exact hno (XV r) (hsub _ (by rw [← hM1]; exact List.mem_map_of_mem hr))
 intro rowv2 R2 ib σ3 hc2 h6
 have h3:H (CO cb dv C.n (now+1) mb rowv2 R2 (M1++[⟨ib,a,now+1,false,.slice none 0 0,[]⟩]) (AY [AU AL 1 w 256 (bv bs),AY [Disk dv D1,I0]])) σ3:=by
  have h4:=((A8 (l:=[AU AL 1 w 256 (bv bs),I0])).1 ((OQ.1 h6).pick [5,0,1,2,3,4] (by decide))).pick [6,1,0,2,3,4,5] (by decide)
  have h5:=((A8 (l:=[Disk dv D1,I0])).2 h4).pick [1,0,2,3,4,5] (by decide)
  exact ((A8 (l:=[AU AL 1 w 256 (bv bs),AY [Disk dv D1,I0]])).2 h5).pick [1,2,3,4,0] (by decide)
 simp
 refine lN (A:=M1) (x:=⟨ib,a,now+1,false,.slice none 0 0,[]⟩) h3 hc2 ?_
 intro sv R3 σ4 hc3 h4
 refine hQ σ4 ?_
 have h5:H [CacheA (.pointer (some ⟨cb,0,none⟩)) dv (K+1) { C with its:=its1++[⟨a,true,bs⟩] },AU AL 1 w 256 (bv bs),AY [Disk dv D1,I0]] σ4:=by
  refine RR hc3 ?_ (by omega) h4
  simp only [List.map_append,hM1,List.map_cons,List.map_nil]
  rfl
 exact ((A8 (l:=[Disk dv D1,I0])).1 (h5.pick [2,0,1] (by decide):H (AY [Disk dv D1,I0]::[CacheA (.pointer (some ⟨cb,0,none⟩)) dv (K+1) { C with its:=its1++[⟨a,true,bs⟩] },AU AL 1 w 256 (bv bs)]) σ4)).pick [2,0,3,1] (by decide)
theorem AAp (σ:AHeap):JU P BD none σ=some (.map (some σ.size),σ.push (.map [] 0)):=rfl
theorem ACz {dv:Value} {D:DM} {n k:Nat} {I0:AK} (h:H [Disk dv D,I0] σ) (hD:D.Ok n) (hk:1≤k∧k≤1024) (hQ:∀ v σ',H [CacheA v dv 0 ⟨k,[]⟩,Disk dv D,I0] σ'→Q (.tuple #[v,.int .i64 0]) σ'):E QH [dv,.int .i64 k] σ Q:=by
 obtain ⟨db,rfl⟩:=gY h 0 rfl
 have hlen:=hD.len
 have hn:=hD.lo
 have hn2:=hD.hi
 apply gF; unfold VD
 simp
 refine WJ h 0 rfl (by omega) ?_
 have:D.last.length / 256=n:=by omega
 rw [this]
 have hnz:¬ n=0:=by omega
 have h1:¬ k<1:=by omega
 have h2:¬ 1024<k:=by omega
 unfold LE KX
 have h3:¬ (k:Int)<1:=by omega
 have h4:¬ 1024<(k:Int):=by omega
 simp [hnz,h3,h4,AAp,splice]
 have hp:=h.push (.map [] 0)
 refine UC hp ?_
 intro b σ1 h5
 have h6:=h5.own_nil AN 1
 refine hQ _ σ1 ?_
 have hc:T9 [] [] 0:=⟨List.Perm.refl _,List.Pairwise.nil,fun r hr=>by simp at hr,fun k h0 hk=>by simp at hk,by simp⟩
 refine RR (cb:=b) (rowv:=.slice none 0 0) (mb:=σ.size) (now:=0) hc rfl (Nat.le_refl _) ?_
 have h7:H [G7 σ.size [],pt b (.cells [.pointer (some ⟨db,0,none⟩),.int .i64 k,.int .u64 0,.map (some σ.size),.slice none 0 0] AZ false),AU AN 1 (.slice none 0 0) 0 [],Disk (.pointer (some ⟨db,0,none⟩)) D,I0] σ1:=by
  refine JM.2 ⟨([],0),?_⟩
  rw [BB]
  refine BK.2 ⟨⟨by simp,fun e he=>by simp at he,fun e he=>by simp at he⟩,?_⟩
  exact h6.pick [2,3,4,0,1] (by decide)
 have h8:=(A8 (l:=[Disk (.pointer (some ⟨db,0,none⟩)) D,I0])).2 (h7.emp_end.pick [3,4,0,1,2,5] (by decide))
 exact h8.pick [2,3,4,1,0] (by decide)
end Go.Ax.O
set_option maxRecDepth 100000
namespace Go.Ax.O
theorem o9 (a:Nat) (L:List UInt8) (fs gs:List G4):SL a L (fs++gs)=SL a (SL a L fs) gs:=by simp [SL]
theorem uI {a c:Nat} (h:a≠c) (L b:List UInt8) (hb:b.length=256):SL (a*256) L (BW c b)=L:=by
 simp only [SL,BW,List.foldl_cons,List.foldl_nil]
 rw [if_neg (by omega),if_neg (by omega),if_neg (by omega),if_neg (by omega)]
theorem yF {a:Nat} {L b:List UInt8} (hL:L.length=256) (hb:b.length=256):SL (a*256) L (BW a b)=b:=by
 simp only [SL,BW,List.foldl_cons,List.foldl_nil]
 rw [if_pos (by omega),if_pos (by omega),if_pos (by omega),if_pos (by omega)]
 rw [show a*256 - a*256=0 by omega,show a*256+64 - a*256=64 by omega,show a*256+128 - a*256=128 by omega,show a*256+192 - a*256=192 by omega]
 have l0:((b.drop 0).take 64).length=64:=by simp; omega
 have l1:((b.drop 64).take 64).length=64:=by simp; omega
 have l2:((b.drop 128).take 64).length=64:=by simp; omega
 have l3:((b.drop 192).take 64).length=64:=by simp; omega
 have p0:(put L 0 ((b.drop 0).take 64)).length=256:=by rw [SS _ _ _ (by omega),hL]
 have p1:(put (put L 0 ((b.drop 0).take 64)) 64 ((b.drop 64).take 64)).length=256:=by rw [SS _ _ _ (by omega),p0]
 have p2:(put (put (put L 0 ((b.drop 0).take 64)) 64 ((b.drop 64).take 64)) 128 ((b.drop 128).take 64)).length=256:=by rw [SS _ _ _ (by omega),p1]
 apply List.ext_getElem?
 intro i
 rw [eV _ _ _ (by omega),eV _ _ _ (by omega),eV _ _ _ (by omega),eV _ _ _ (by omega)]
 rw [l0,l1,l2,l3]
 simp only [List.getElem?_take,List.getElem?_drop]
 by_cases h3:192≤i∧i<192+64
 ·rw [if_pos h3,if_pos (by omega)]; congr 1; omega
 ·rw [if_neg h3]
  by_cases h2:128≤i∧i<128+64
  ·rw [if_pos h2,if_pos (by omega)]; congr 1; omega
  ·rw [if_neg h2]
   by_cases h1:64≤i∧i<64+64
   ·rw [if_pos h1,if_pos (by omega)]; congr 1; omega
   ·rw [if_neg h1]
    by_cases h0:0≤i∧i<0+64
    ·rw [if_pos h0,if_pos (by omega)]; congr 1; omega
    ·rw [if_neg h0,List.getElem?_eq_none (by omega),List.getElem?_eq_none (by omega)]
theorem qO {D:DM} {n a c:Nat} {b:List UInt8} (hD:D.Ok n) (ha:a<n) (hb:b.length=256):(D.fling c b).block a=if a=c then b else D.block a:=by
 have h1:(D.fling c b).block a=SL (a*256) (D.block a) (BW c b):=by
  unfold DM.block DM.fling
  simp only [o9]
 rw [h1]
 split
 ·rename_i e; subst e
  exact yF (WT hD ha) hb
 ·rename_i e
  exact uI e _ _ hb
end Go.Ax.O
set_option maxRecDepth 100000
namespace Go.Ax.C
open Go.Proofs Go.RowKit
open O (CacheA Disk It DPlain)
instance (v dv:Value) (K:Nat) (C:O.CM) (l:List AK):sA (CacheA v dv K C::l) v (CacheA v dv K C) l:=⟨.refl _⟩
instance (v:Value) (D:DM) (l:List AK):sA (Disk v D::l) v (Disk v D) l:=⟨.refl _⟩
variable {l r r2:List AK} {σ:AHeap} {Q:RK}
def DA (C:O.CM) (D:DM) (a:Nat):List UInt8 :=
 match C.its.find? fun x=>x.pl == a with
 | some x=>x.b
 | none=>D.block a
structure iZ (C:O.CM) (D:DM) (n:Nat):Prop where
 ok:C.Ok n
 dp:DPlain D n
 cl:∀ x∈C.its,x.dirty=false→D.block x.pl=x.b
theorem CT {C:O.CM} {D:DM} {n:Nat} (h:C.Ok n) {x:It} (hx:x∈C.its):DA C D x.pl=x.b:=by
 unfold DA
 have hnd:=h.nd
 obtain ⟨A,B,e⟩:=List.append_of_mem hx
 rw [e] at hnd ⊢
 simp only [List.map_append,List.map_cons,List.nodup_append] at hnd
 have hA:∀ y∈A,¬ (y.pl == x.pl)=true:=fun y hy he=>by
  have:=hnd.2.2 y.pl (List.mem_map_of_mem hy) x.pl (by simp)
  simp at he; exact this he
 rw [List.find?_append,List.find?_eq_none.2 hA]
 simp
theorem C1 {C:O.CM} {D:DM} {a:Nat} (h:∀ x∈C.its,x.pl≠a):DA C D a=D.block a:=by
 unfold DA
 rw [List.find?_eq_none.2 fun x hx=>by simpa using h x hx]
theorem oW {C:O.CM} {D:DM} {n a:Nat} (h:iZ C D n) (ha:a<n):(DA C D a).length=256:=by
 by_cases hx:∃ x∈C.its,x.pl=a
 ·obtain ⟨x,hx,rfl⟩:=hx
  rw [CT h.ok hx]; exact (h.ok.it x hx).2
 ·rw [C1 fun x hx' e=>hx ⟨x,hx',e⟩]; exact O.WT h.dp.ok ha
theorem lW {v dv:Value} {K K':Nat} {C:O.CM} {m:List AK} (hk:K≤K') (h:H (CacheA v dv K C::m) σ):H (CacheA v dv K' C::m) σ:=by
 obtain ⟨cb,mb,now,rowv,R,M,rfl,h2,h3,h4,h5⟩:=O.LW h
 exact O.RR h2 h3 (Nat.le_trans h4 hk) h5
theorem ABa {A B:AK}:H (A::B::l) σ↔H [A,B,AY l] σ:=by
 constructor
 ·intro h
  exact (A8.2 (h.perm (List.perm_append_comm (l₁:=[A,B]) (l₂:=l)))).perm (by
   exact (List.Perm.swap _ _ _).trans ((List.Perm.swap _ _ _).cons _))
 ·intro h
  have h1:H (AY l::[A,B]) σ:=h.perm ((List.perm_append_comm (l₁:=[A,B]) (l₂:=[AY l])))
  exact (A8.1 h1).perm List.perm_append_comm
theorem vE {A B X:AK}:H (A::B::X::l) σ↔H [A,B,X,AY l] σ:=by
 constructor
 ·intro h
  have h1:=h.perm (List.perm_append_comm (l₁:=[A,B,X]) (l₂:=l))
  exact (A8.2 h1).perm (List.perm_append_comm (l₁:=[AY l]) (l₂:=[A,B,X]))
 ·intro h
  have h1:H (AY l::[A,B,X]) σ:=h.perm ((List.perm_append_comm (l₁:=[A,B,X]) (l₂:=[AY l])))
  exact (A8.1 h1).perm List.perm_append_comm
theorem pF {C:O.CM} {D:DM} {n:Nat} (h:iZ C D n):iZ { C with its:=(C.room D).1 } (C.room D).2 n∧(∀ a<n,DA { C with its:=(C.room D).1 } (C.room D).2 a=DA C D a)∧(C.room D).2.fly.length≤D.fly.length+4∧(C.room D).1.length<C.n:=by
 obtain ⟨h1,h2,h3,h4,h5⟩:=O.O1 h.ok h.dp
 have hok:({ C with its:=(C.room D).1 }:O.CM).Ok n:=⟨h.ok.lo,h.ok.hi,by simp; omega,fun x hx=>h.ok.it x (h4 x hx),h5⟩
 unfold O.CM.room at h1 h2 h3 h4 h5 hok ⊢
 by_cases hlt:C.its.length<C.n
 ·simp only [if_pos hlt] at h1 h2 h3 h4 h5 hok ⊢
  exact ⟨h,by intros; trivial,by omega,hlt⟩
 ·simp only [if_neg hlt] at h1 h2 h3 h4 h5 hok ⊢
  cases e:C.its with
  | nil =>
    rw [e] at h1 h2 h3 h4 h5 hok
    refine ⟨⟨hok,h.dp,fun x hx=>by simp at hx⟩,fun a ha=>?_,by simp,h3⟩
    rw [C1 (by simp),C1 (by simp [e])]
  | cons x t =>
    rw [e] at h1 h2 h3 h4 h5 hok
    simp only at h1 h2 h3 h4 h5 hok ⊢
    have hx:=h.ok.it x (by simp [e])
    have hnd:=h.ok.nd
    rw [e] at hnd
    simp only [List.map_cons,List.nodup_cons] at hnd
    have hbl:∀ a<n,(O.cR D x).block a=if a=x.pl then x.b else D.block a:=by
     intro a ha
     unfold O.cR
     cases hd:x.dirty with
     | true=>simp only [if_true]; exact O.qO h.dp.ok ha hx.2
     | false =>
       simp only [Bool.false_eq_true,if_false]
       split
       ·rename_i e2; subst e2; exact h.cl x (by simp [e]) hd
       ·rfl
    have hcl:∀ y∈t,y.dirty=false→(O.cR D x).block y.pl=y.b:=fun y hy hd=>by
     have hyl:=(h.ok.it y (by simp [e,hy])).1
     rw [hbl _ hyl,if_neg (fun e2=>hnd.1 (by rw [← e2]; exact List.mem_map_of_mem hy))]
     exact h.cl y (by simp [e,hy]) hd
    refine ⟨⟨hok,h1,hcl⟩,fun a ha=>?_,h2,h3⟩
    by_cases hm:∃ y∈t,y.pl=a
    ·obtain ⟨y,hy,rfl⟩:=hm
     rw [CT hok hy,CT h.ok (x:=y) (by simp [e,hy])]
    ·have hno:∀ y∈t,y.pl≠a:=fun y hy e2=>hm ⟨y,hy,e2⟩
     rw [C1 hno,hbl a ha]
     by_cases hax:a=x.pl
     ·subst hax; rw [if_pos rfl,CT h.ok (x:=x) (by simp [e])]
     ·rw [if_neg hax,C1 (C:=C)]
      intro y hy
      rw [e] at hy
      rcases List.mem_cons.1 hy with rfl | hy
      ·exact fun e2=>hax e2.symm
      ·exact hno y hy
theorem AG5 {v dv:Value} {K n a:Nat} {C:O.CM} {D:DM} (h:H l σ) [k1:sA l v (CacheA v dv K C) r] [k2:sA r dv (Disk dv D) r2] (hI:iZ C D n) (ha:a<n) (hm:D.fly.length<1099511627000) (hK:K+2<18446744073709551616)
 (hQ:∀ w σ' C' D',iZ C' D' n→C'.n=C.n→(∀ x<n,DA C' D' x=DA C D x)→D'.fly.length≤D.fly.length+4→(∀ y∈C'.its,y.dirty=true→y∈C.its)→(C.its.length<C.n∨(∃ y∈C.its,y.pl=a)→D'=D∧∀ y∈C.its,y∈C'.its)→H (AU AL 1 w 256 (bv (DA C D a))::CacheA v dv (K+2) C'::Disk dv D'::r2) σ'→Q (.ret (.tuple #[w,.int .i64 0])) σ'):E F2 [v,.int .i64 a] σ Q:=by
 have h1:=ABa.1 ((h.atv v).perm (k2.perm.cons _))
 refine O.up ?_
 by_cases hin:∃ it∈C.its,it.pl=a
 ·obtain ⟨it,hit,hpl⟩:=hin
  obtain ⟨A,B,hits⟩:=List.append_of_mem hit
  subst hpl
  refine O.ACR h1 hI.ok hits hI.dp (by omega) ?_
  intro w σ' h2
  have hpm:(A++B++[it]).Perm C.its:=by
   rw [hits,List.append_assoc]
   exact List.Perm.append_left A (by simp)
  have hok:({ C with its:=A++B++[it] }:O.CM).Ok n:=⟨hI.ok.lo,hI.ok.hi,by have:=hpm.length_eq; have:=hI.ok.len; simp only; omega,fun x hx=>hI.ok.it x (hpm.mem_iff.1 hx),((hpm.map _).nodup_iff).2 hI.ok.nd⟩
  refine hQ w σ' { C with its:=A++B++[it] } D ⟨hok,hI.dp,fun x hx=>hI.cl x (hpm.mem_iff.1 hx)⟩ rfl (fun x hx=>?_) (by omega) (fun y hy _=>hpm.mem_iff.1 hy) (fun _=>⟨rfl,fun y hy=>hpm.mem_iff.2 hy⟩) ?_
  ·by_cases hm:∃ y∈C.its,y.pl=x
   ·obtain ⟨y,hy,rfl⟩:=hm
    rw [CT hok (hpm.mem_iff.2 hy),CT hI.ok hy]
   ·have hno:∀ y∈C.its,y.pl≠x:=fun y hy e=>hm ⟨y,hy,e⟩
    rw [C1 hno,C1 fun y hy=>hno y (hpm.mem_iff.1 hy)]
  ·rw [CT hI.ok hit]
   have h3:H [AU AL 1 w 256 (bv it.b),CacheA v dv (K+1) { C with its:=A++B++[it] },Disk dv D,AY r2] σ':=h2.pick [3,0,1,2] (by decide)
   have h4:=vE.2 h3
   exact ((lW (by omega) (h4.perm (List.Perm.swap _ _ _))).perm (List.Perm.swap _ _ _))
 ·have hno:∀ x∈C.its,x.pl≠a:=fun x hx e=>hin ⟨x,hx,e⟩
  obtain ⟨hR,hRc,hRf,hRl⟩:=pF hI
  refine O.AAq h1 hI.ok hno ha hI.dp hm hK ?_
  intro w σ' h2
  obtain ⟨_,_,_,hsub,_⟩:=O.O1 hI.ok hI.dp
  have hroom:C.its.length<C.n→C.room D=(C.its,D):=fun hl=>by unfold O.CM.room; rw [if_pos hl]
  generalize hits:(C.room D).1=its at hR hRc hRl hsub h2
  generalize hDD:(C.room D).2=D' at hR hRc hRf h2
  have hno':∀ x∈its,x.pl≠a:=fun x hx=>hno x (hsub x hx)
  have hbl:D'.block a=DA C D a:=by rw [← hRc a ha,C1 hno']
  have hok:({ C with its:=its++[⟨a,false,D'.block a⟩] }:O.CM).Ok n:=by
   refine ⟨hI.ok.lo,hI.ok.hi,by simp; omega,fun x hx=>?_,?_⟩
   ·rcases List.mem_append.1 hx with hx | hx
    ·exact hR.ok.it x hx
    ·simp at hx; subst hx; exact ⟨ha,O.WT hR.dp.ok ha⟩
   ·simp only [List.map_append,List.map_cons,List.map_nil]
    rw [List.nodup_append]
    refine ⟨hR.ok.nd,by simp,?_⟩
    intro x hx y hy
    simp at hy; subst hy
    obtain ⟨z,hz,rfl⟩:=List.mem_map.1 hx
    exact hno' z hz
  refine hQ w σ' _ D' ⟨hok,hR.dp,fun x hx hd=>?_⟩ rfl (fun x hx=>?_) hRf (fun y hy hd=>?_) (fun hl=>?_) ?_
  ·rcases List.mem_append.1 hx with hx | hx
   ·exact hR.cl x hx hd
   ·simp at hx; subst hx; rfl
  ·rw [← hRc x hx]
   by_cases hm:∃ y∈its,y.pl=x
   ·obtain ⟨y,hy,rfl⟩:=hm
    rw [CT hok (x:=y) (by simp [hy]),CT hR.ok hy]
   ·have hn2:∀ y∈its,y.pl≠x:=fun y hy e=>hm ⟨y,hy,e⟩
    by_cases hxa:x=a
    ·subst hxa
     rw [C1 (C:={ C with its:=its }) hn2]
     exact CT hok (x:=⟨x,false,D'.block x⟩) (by simp)
    ·rw [C1 (C:={ C with its:=its }) hn2,C1]
     intro y hy
     rcases List.mem_append.1 hy with hy | hy
     ·exact hn2 y hy
     ·simp at hy; subst hy; exact fun e=>hxa e.symm
  ·rcases List.mem_append.1 hy with hy | hy
   ·exact hsub y hy
   ·simp at hy; subst hy; simp at hd
  ·have:=hroom (hl.resolve_right fun ⟨y,hy,e⟩=>hno y hy e)
   rw [this] at hits hDD
   exact ⟨hDD.symm,fun y hy=>by rw [← hits]; simp [hy]⟩
  ·rw [← hbl]
   have h3:H [AU AL 1 w 256 (bv (D'.block a)),CacheA v dv (K+2) { C with its:=its++[⟨a,false,D'.block a⟩] },Disk dv D',AY r2] σ':=h2.pick [3,0,1,2] (by decide)
   exact vE.2 h3
theorem AG6 {v dv w:Value} {K n a:Nat} {C:O.CM} {D:DM} {r3:List AK} {bs:List UInt8} (h:H l σ) [k1:sA l v (CacheA v dv K C) r] [k2:sA r dv (Disk dv D) r2] [k3:sA r2 w (AU AL 1 w 256 (bv bs)) r3] (hI:iZ C D n) (ha:a<n) (hb:bs.length=256) (hm:D.fly.length<1099511627000) (hK:K+2<18446744073709551616)
 (hQ:∀ σ' C' D',iZ C' D' n→C'.n=C.n→(∀ x<n,DA C' D' x=if x=a then bs else DA C D x)→D'.fly.length≤D.fly.length+4→(∀ y∈C'.its,y.dirty=true→y.pl=a∨y∈C.its)→(∃ y∈C'.its,y.pl=a∧y.dirty=true)→(C.its.length<C.n∨(∃ y∈C.its,y.pl=a)→D'=D∧∀ y∈C.its,y.pl≠a→y∈C'.its)→H (AU AL 1 w 256 (bv bs)::CacheA v dv (K+2) C'::Disk dv D'::r3) σ'→Q (.ret (.int .i64 0)) σ'):E ER [v,.int .i64 a,w] σ Q:=by
 have h1:=vE.1 (((h.atv v).perm (k2.perm.cons _)).perm ((k3.perm.cons _).cons _))
 refine O.up ?_
 -- what both ways share
 have go:∀ (its:List It) (D':DM) (σ':AHeap) (K':Nat),K'≤K+2→iZ { C with its:=its } D' n→its.length<C.n→(∀ x∈its,x.pl≠a)→(∀ x∈its,x∈C.its)→(∀ x<n,x≠a→DA { C with its:=its } D' x=DA C D x)→D'.fly.length≤D.fly.length+4→(C.its.length<C.n∨(∃ y∈C.its,y.pl=a)→D'=D∧∀ y∈C.its,y.pl≠a→y∈its)→H [CacheA v dv K' { C with its:=its++[⟨a,true,bs⟩] },Disk dv D',AU AL 1 w 256 (bv bs),AY r3] σ'→Q (.ret (.int .i64 0)) σ':=by
  intro its D' σ' K' hK' hR hl hno hsub hcon hf hst h2
  have hok:({ C with its:=its++[⟨a,true,bs⟩] }:O.CM).Ok n:=by
   refine ⟨hI.ok.lo,hI.ok.hi,by simp; omega,fun x hx=>?_,?_⟩
   ·rcases List.mem_append.1 hx with hx | hx
    ·exact hR.ok.it x hx
    ·simp at hx; subst hx; exact ⟨ha,hb⟩
   ·simp only [List.map_append,List.map_cons,List.map_nil]
    rw [List.nodup_append]
    refine ⟨hR.ok.nd,by simp,?_⟩
    intro x hx y hy
    simp at hy; subst hy
    obtain ⟨z,hz,rfl⟩:=List.mem_map.1 hx
    exact hno z hz
  refine hQ σ' _ D' ⟨hok,hR.dp,fun x hx hd=>?_⟩ rfl (fun x hx=>?_) hf (fun y hy hd=>?_) ⟨⟨a,true,bs⟩,by simp,rfl,rfl⟩ (fun hh=>⟨(hst hh).1,fun y hy hya=>List.mem_append_left _ ((hst hh).2 y hy hya)⟩) ?_
  ·rcases List.mem_append.1 hx with hx | hx
   ·exact hR.cl x hx hd
   ·simp at hx; subst hx; cases hd
  ·by_cases hxa:x=a
   ·subst hxa
    rw [if_pos rfl]
    exact CT hok (x:=⟨x,true,bs⟩) (by simp)
   ·rw [if_neg hxa,← hcon x hx hxa]
    by_cases hm:∃ y∈its,y.pl=x
    ·obtain ⟨y,hy,rfl⟩:=hm
     rw [CT hok (x:=y) (by simp [hy]),CT hR.ok hy]
    ·have hn2:∀ y∈its,y.pl≠x:=fun y hy e=>hm ⟨y,hy,e⟩
     rw [C1 (C:={ C with its:=its }) hn2,C1]
     intro y hy
     rcases List.mem_append.1 hy with hy | hy
     ·exact hn2 y hy
     ·simp at hy; subst hy; exact fun e=>hxa e.symm
  ·rcases List.mem_append.1 hy with hy | hy
   ·exact .inr (hsub y hy)
   ·simp at hy; subst hy; exact .inl rfl
  ·have h3:H [AU AL 1 w 256 (bv bs),CacheA v dv K' { C with its:=its++[⟨a,true,bs⟩] },Disk dv D',AY r3] σ':=h2.pick [2,0,1,3] (by decide)
   have h4:=vE.2 h3
   exact ((lW hK' (h4.perm (List.Perm.swap _ _ _))).perm (List.Perm.swap _ _ _))
 by_cases hin:∃ it∈C.its,it.pl=a
 ·obtain ⟨it,hit,hpl⟩:=hin
  obtain ⟨A,B,hits⟩:=List.append_of_mem hit
  subst hpl
  refine O.ACp h1 hI.ok hits hI.dp (by omega) ?_
  intro σ' h2
  have hnd:=hI.ok.nd
  rw [hits] at hnd
  simp only [List.map_append,List.map_cons,List.nodup_append,List.nodup_cons] at hnd
  have hno:∀ x∈A++B,x.pl≠it.pl:=by
   intro x hx
   rcases List.mem_append.1 hx with hx | hx
   ·exact fun e=>hnd.2.2 x.pl (List.mem_map_of_mem hx) it.pl (by simp) e
   ·exact fun e=>hnd.2.1.1 (by rw [← e]; exact List.mem_map_of_mem hx)
  have hsub:∀ x∈A++B,x∈C.its:=fun x hx=>by rw [hits]; simp only [List.mem_append,List.mem_cons] at hx ⊢; exact hx.elim .inl fun h=>.inr (.inr h)
  have hlen:(A++B).length+1=C.its.length:=by rw [hits]; simp; omega
  have hok:({ C with its:=A++B }:O.CM).Ok n:=⟨hI.ok.lo,hI.ok.hi,by have:=hI.ok.len; simp only; omega,fun x hx=>hI.ok.it x (hsub x hx),by
   simp only [List.map_append]
   rw [List.nodup_append]
   exact ⟨hnd.1,hnd.2.1.2,fun x hx y hy=>hnd.2.2 x hx y (by simp [hy])⟩⟩
  refine go (A++B) D σ' (K+1) (by omega) ⟨hok,hI.dp,fun x hx=>hI.cl x (hsub x hx)⟩ (by have:=hI.ok.len; omega) hno hsub (fun x hx hxa=>?_) (by omega) (fun _=>⟨rfl,fun y hy hya=>?_⟩) h2
  ·by_cases hm:∃ y∈A++B,y.pl=x
   ·obtain ⟨y,hy,rfl⟩:=hm
    rw [CT hok hy,CT hI.ok (hsub y hy)]
   ·have hn2:∀ y∈A++B,y.pl≠x:=fun y hy e=>hm ⟨y,hy,e⟩
    rw [C1 (C:={ C with its:=A++B }) hn2,C1]
    intro y hy
    rw [hits] at hy
    simp only [List.mem_append,List.mem_cons] at hy
    rcases hy with hy | rfl | hy
    ·exact hn2 y (by simp [hy])
    ·exact fun e=>hxa e.symm
    ·exact hn2 y (by simp [hy])
  ·rw [hits] at hy
   simp only [List.mem_append,List.mem_cons] at hy ⊢
   rcases hy with hy | rfl | hy
   ·exact .inl hy
   ·exact absurd rfl hya
   ·exact .inr hy
 ·have hno:∀ x∈C.its,x.pl≠a:=fun x hx e=>hin ⟨x,hx,e⟩
  obtain ⟨hR,hRc,hRf,hRl⟩:=pF hI
  refine O.ABo h1 hI.ok hno ha hI.dp hm (by omega) ?_
  intro σ' h2
  obtain ⟨_,_,_,hsub,_⟩:=O.O1 hI.ok hI.dp
  refine go (C.room D).1 (C.room D).2 σ' (K+1) (by omega) hR hRl (fun x hx=>hno x (hsub x hx)) hsub (fun x hx _=>hRc x hx) hRf (fun hh=>?_) h2
  rcases hh with hl | ⟨y,hy,e⟩
  ·unfold O.CM.room; rw [if_pos hl]; exact ⟨rfl,fun y hy _=>hy⟩
  ·exact absurd e (hno y hy)
end Go.Ax.C
set_option maxRecDepth 100000
namespace Go.Ax.C
open Go.Proofs Go.RowKit
variable {l r m:List AK} {σ:AHeap} {Q:RK}
def bS (σ:AHeap) (v:Value) (x:List UInt8):Prop:=(x=[]∧∃ a c,v=.slice a 0 c∧(a=none∨a=some ⟨ZB,0,some 0⟩)) ∨
 ∃ b o c row,v=.slice (some ⟨b,o,none⟩) x.length c∧HF 1 x.length c∧σ.row b=some row∧(row.drop o).take x.length=bv x∧o+x.length≤row.length
theorem WB {e n:Nat} {v:Value} {x:List UInt8} (h:H (AU e 1 v n (bv x)::l) σ):bS σ v x:=by
 rcases FT.1 h with ⟨⟨_,e1,h2⟩,_⟩ | ⟨b,c,opn,rest,h1,h2,h3,rfl,h4,h5⟩
 ·have:x=[]:=by cases x<;>simp_all
  refine .inl ⟨this,?_⟩
  rcases h2 with rfl | rfl
  ·exact ⟨_,_,rfl,.inl rfl⟩
  ·exact ⟨_,_,rfl,.inr rfl⟩
 ·have hn:x.length=n:=by simpa using h2
  subst hn
  refine .inr ⟨b,0,c,_,rfl,⟨h4,?_⟩,h1.row 0 rfl,?_,by simp⟩
  ·rcases h5 with h5 | h5
   ·exact .inr h5.2.2
   ·exact .inl h5
  ·rw [List.drop_zero,List.take_append_of_le_length (by simp),List.take_of_length_le (by simp)]
theorem IT {v:Value} {x:List UInt8} (h:bS σ v x):∃ a c,v=.slice a x.length c:=by
 rcases h with ⟨rfl,a,c,rfl,_⟩ | ⟨b,o,c,row,rfl,_⟩
 ·exact ⟨a,c,rfl⟩
 ·exact ⟨_,_,rfl⟩
theorem SU {v:Value} {x:List UInt8} (h:bS σ v x):Rd σ v x:=by
 rcases h with ⟨rfl,a,c,rfl,ha⟩ | ⟨b,o,c,row,rfl,hc,h1,h2,h3⟩
 ·rcases ha with rfl | rfl
  ·exact Rd.nil σ c
  ·exact ⟨aM σ 1 c _,⟨_,_,rfl⟩,fun k b h=>by simp at h⟩
 ·exact AA1 h1 h2 h3
theorem O7 {v:Value} {x:List UInt8} {a:Nat} {k:IntKind} (h:bS σ v x) (ha:a<x.length) :
 ∃ w,A7 1 v (some (.int k (a:Nat))) none none=some w∧bS σ w (x.drop a):=by
 rcases h with ⟨rfl,_⟩ | ⟨b,o,c,row,rfl,hc,h1,h2,h3⟩
 ·simp at ha
 ·obtain ⟨c',e,hc'⟩:=O6 (b:=b) (o:=o) (k:=k) (lo:=(a:Nat)) hc (by omega)
  simp only [Int.toNat_natCast,Nat.mul_one] at e hc'
  refine ⟨_,e,.inr ⟨b,o+a,c',row,by simp,by simpa using hc',h1,?_,by simp; omega⟩⟩
  have:(row.drop (o+a)).take (x.length - a)=((row.drop o).take x.length).drop a:=by
   rw [List.drop_take,List.drop_drop]
  rw [List.length_drop,this,h2,ACt]
theorem ABn {v:Value} {x:List UInt8} {a:Nat} {k:IntKind} (h:bS σ v x) (hx:0<x.length) (ha:a≤x.length) :
 ∃ w,A7 1 v none (some (.int k (a:Nat))) none=some w∧bS σ w (x.take a):=by
 rcases h with ⟨rfl,_⟩ | ⟨b,o,c,row,rfl,hc,h1,h2,h3⟩
 ·simp at hx
 ·obtain ⟨c',hs,hc'⟩:=AAf (b:=b) (o:=o) (k:=k) (hi:=(a:Nat)) hc hx (by omega)
  simp only [Int.toNat_natCast] at hs hc'
  refine ⟨_,hs,.inr ⟨b,o,c',row,?_,?_,h1,?_,?_⟩⟩
  ·rw [List.length_take,Nat.min_eq_left ha]
  ·rw [List.length_take,Nat.min_eq_left ha]; exact hc'
  ·rw [List.length_take,Nat.min_eq_left ha,← mT,← h2,List.take_take,Nat.min_eq_left ha]
  ·rw [List.length_take,Nat.min_eq_left ha]; omega
def be (n:Nat):Nat→List UInt8
 | 0=>[]
 | k+1=>UInt8.ofNat (n / 256 ^ k)::be n k
def LQ (x:List UInt8):Nat:=x.foldl (fun n b=>n*256+b.toNat) 0
theorem G0 (n k:Nat):(be n k).length=k:=by induction k<;>simp_all [be]
theorem yU (x:List UInt8) (n:Nat):x.foldl (fun n b=>n*256+b.toNat) n=n*256 ^ x.length+LQ x:=by
 induction x generalizing n with
 | nil=>simp [LQ]
 | cons b x ih =>
   simp only [LQ,List.foldl_cons,List.length_cons]
   rw [ih,ih (0*256+b.toNat),Nat.pow_succ]
   simp only [Nat.add_mul,Nat.zero_mul,Nat.zero_add,Nat.mul_assoc,Nat.add_assoc]
   rw [Nat.mul_comm 256]
theorem aH (b:UInt8) (x:List UInt8):LQ (b::x)=b.toNat*256 ^ x.length+LQ x:=by
 simp only [LQ,List.foldl_cons]; rw [yU]; simp [LQ]
theorem bI (n k:Nat):LQ (be n k)=n % 256 ^ k:=by
 induction k with
 | zero=>simp [be,LQ,Nat.mod_one]
 | succ k ih =>
   rw [be,aH,G0,ih,UInt8.toNat_ofNat']
   have e:n % 256 ^ (k+1)=n % 256 ^ k+256 ^ k*(n / 256 ^ k % 256):=Nat.mod_pow_succ
   rw [e,Nat.add_comm,Nat.mul_comm]
theorem hJ (x:List UInt8):LQ x<256 ^ x.length:=by
 induction x with
 | nil=>simp [LQ]
 | cons b x ih =>
   rw [aH,List.length_cons,Nat.pow_succ]
   have:=b.toNat_lt
   have h1:b.toNat*256 ^ x.length+256 ^ x.length≤256*256 ^ x.length:=by
    rw [← Nat.succ_mul]; exact Nat.mul_le_mul_right _ (by omega)
   rw [Nat.mul_comm (256 ^ x.length)]; omega
theorem zS (x:List UInt8) (b:UInt8):LQ (x++[b])=LQ x*256+b.toNat:=by
 simp only [LQ,List.foldl_append,List.foldl_cons,List.foldl_nil]
theorem ABA {n:Int} (hQ:Q (.ret (.bool (decide (1≤n∧n≤8)))) σ):E M3 [.int .i64 n] σ Q:=by
 apply jZ; unfold XU
 refine AS (fun h=>?_) (fun h=>?_)
 ·by_cases h2:n≤8
  ·simpa [h,h2] using hQ
  ·simpa [h,h2] using hQ
 ·simpa [h] using hQ
theorem AF1 (n k:Nat) (hk:k≤64):BF (some (.int .u64)) .shr (.int .u64 n) (.int .u64 k)=some (.int .u64 (n / 2 ^ k:Nat)):=by
 have e:∀ (d:Option TypeDesc) (a b:Int),BF d .shr (.int .u64 a) (.int .u64 b)=VW .shr .u64 a b:=fun _ _ _=>rfl
 rw [e,VW,if_neg (by omega)]
 have hb:IntKind.u64.bits=64:=rfl
 simp only [hb,Int.toNat_natCast,Nat.min_eq_left hk,Option.some.injEq,Value.int.injEq,true_and]
 rw [Int.fdiv_eq_ediv_of_nonneg _ (Int.le_of_lt (Int.pow_pos (by omega)))]
 simp
theorem AGw (n:Nat) (hn:n*256<18446744073709551616):BF (some (.int .u64)) .shl (.int .u64 n) (.int .u64 8)=some (.int .u64 (n*256:Nat)):=by
 have e:∀ (d:Option TypeDesc) (a b:Int),BF d .shl (.int .u64 a) (.int .u64 b)=VW .shl .u64 a b:=fun _ _ _=>rfl
 rw [e,VW,if_neg (by omega)]
 have hb:IntKind.u64.bits=64:=rfl
 have e2:(n:Int)*2 ^ (min (8:Int).toNat 64)=((n*256:Nat):Int):=by
  have:min (8:Int).toNat 64=8:=by decide
  rw [this]; simp
 simp only [hb,e2]
 rw [aD (by omega)]
theorem ACg (n:Nat):wu8 (n:Int)=((UInt8.ofNat n).toNat:Int):=by
 rw [UInt8.toNat_ofNat']
 show IntKind.u8.wrap n=_
 simp [IntKind.wrap,IntKind.bits,IntKind.signed]
theorem ABp {v:Value} {x:List UInt8} {n k:Nat} (h:H l σ) (hb:bS σ v x) (hk:1≤k∧k≤8) (hx:x.length≤1099511627000)
 (hQ:∀ w σ',H (AU AL 1 w (x.length+k) (bv (x++be n k))::l) σ'→Q (.ret w) σ'):E I1 [v,.int .u64 n,.int .i64 k] σ Q:=by
 apply p6; unfold cY
 obtain ⟨a,c,rfl⟩:=IT hb
 refine O.up (O.NE h (SU hb).src (by omega) ?_)
 intro v1 σ1 h1
 replace h1:=h1.unsnoc
 rw [CC]
 refine ABA ?_
 rw [GY]
 refine B7 (by simp; omega) ?_
 refine E1 ((k:Int) - 1) (by omega) ?_
 refine ⟨fun m v j τ=>∃ ys,m≤k∧j=(m:Int) - 1∧ys.length+m=k∧ys++be n m=be n k∧H (AU AL 1 v (x.length+ys.length) (bv (x++ys))::l) τ,⟨k,[],by omega,by omega,by simp,rfl,by simpa using h1⟩,?_⟩
 rintro m v j τ ⟨ys,hm,rfl,hyl,hys,h2⟩
 unfold V3
 refine AS (fun hj=>?_) (fun hj=>?_)
 ·obtain ⟨i,rfl⟩:∃ i,m=i+1:=⟨m - 1,by omega⟩
  refine E1 ((8*i:Nat):Int) (by omega) ?_
  refine PQ ((8*i:Nat):Int) (by omega) ?_
  rw [AF1 n (8*i) (by omega),AH]
  have e8:n / 2 ^ (8*i)=n / 256 ^ i:=by rw [Nat.pow_mul]
  rw [e8]
  refine bi (ACg _) ?_
  refine nw h2 ?_
  intro b σ2 h3
  have hs:D5 1 (.slice (some ⟨b,0,none⟩) 1 1) σ2=some (1,[.int .u8 ((UInt8.ofNat (n / 256 ^ i)).toNat:Int)]):=by
   rw [FO (h3.row 0 rfl) (by simp)]; simp
  refine DR h3 1 rfl hs (by omega) (by omega) rfl ?_
  intro v' σ3 h4
  refine E1 ((i:Int) - 1) (by omega) ?_
  refine ⟨i,by omega,ys++[UInt8.ofNat (n / 256 ^ i)],by omega,rfl,by simp; omega,?_,?_⟩
  ·rw [← hys,be]; simp
  ·simp only [List.set_cons_succ,List.set_cons_zero] at h4
   have h5:=h4.tail
   have e:bv (x++ys)++[Value.int .u8 ((UInt8.ofNat (n / 256 ^ i)).toNat:Int)]=bv (x++(ys++[UInt8.ofNat (n / 256 ^ i)])):=by simp [bv,by8]
   rw [e] at h5
   simpa [Nat.add_assoc] using h5
 ·have h0:m=0:=by omega
  subst h0
  simp only [be,List.append_nil] at hys
  rw [hys,G0] at h2
  exact hQ _ _ h2
theorem ACc (n:Nat) (b:UInt8) (hn:n*256+256≤18446744073709551616):((BitVec.ofInt 64 ((n*256:Nat):Int) ||| BitVec.ofInt 64 ((b.toNat:Nat):Int)).toNat:Int)=((n*256+b.toNat:Nat):Int):=by
 have:=b.toNat_lt
 have h1:(BitVec.ofInt 64 ((n*256:Nat):Int)).toNat=n*256:=by rw [BitVec.ofInt_natCast,BitVec.toNat_ofNat,Nat.mod_eq_of_lt (by omega)]
 have h2:(BitVec.ofInt 64 ((b.toNat:Nat):Int)).toNat=b.toNat:=by rw [BitVec.ofInt_natCast,BitVec.toNat_ofNat,Nat.mod_eq_of_lt (by omega)]
 rw [BitVec.toNat_or,h1,h2]
 have h3:=Nat.shiftLeft_add_eq_or_of_lt (i:=8) (b:=b.toNat) (by omega) n
 rw [Nat.shiftLeft_eq] at h3
 have e:(2:Nat) ^ 8=256:=rfl
 rw [e] at h3
 rw [← h3]
theorem AC9 {v:Value} {x:List UInt8} {k:Nat} (hb:bS σ v x) (hk:1≤k∧k≤8) (hx:x.length≤1099511627000)
 (hno:x.length<k→Q (.ret (.tuple #[.int .u64 0,.int .i64 4])) σ)
 (hQ:k≤x.length→Q (.ret (.tuple #[.int .u64 (LQ (x.take k)),.int .i64 0])) σ):E J9 [v,.int .i64 k] σ Q:=by
 apply pX; unfold cZ
 refine ABA ?_
 rw [GY]
 refine B7 (by simp; omega) ?_
 have hlen:BH v=some (.int .i64 x.length):=by obtain ⟨a,c,rfl⟩:=IT hb; rfl
 rw [hlen,AH]
 refine AS (fun hlt=>hno (by omega)) fun hge=>?_
 obtain ⟨w,hw,hb2⟩:=ABn (k:=.i64) (a:=k) hb (by omega) (by omega)
 have hwl:BH w=some (.int .i64 k):=by
  obtain ⟨a,c,rfl⟩:=IT hb2
  rw [List.length_take,Nat.min_eq_left (by omega)]; rfl
 rw [hw,AD,hwl,AH]
 refine ⟨fun m n j τ=>τ=σ∧∃ i:Nat,j=i∧i≤k∧m=k - i∧n=LQ (x.take i),⟨k,rfl,0,rfl,by omega,by omega,by simp [LQ]⟩,?_⟩
 rintro m n j τ ⟨rfl,i,rfl,hik,rfl,rfl⟩
 unfold UB
 refine AS (fun hlt=>?_) (fun hge=>?_)
 ·have hik2:i<k:=by omega
  have hxi:(x.take k)[i]?=some x[i]:=by rw [List.getElem?_take,if_pos hik2,List.getElem?_eq_getElem (by omega)]
  obtain ⟨p,hp,hl⟩:=(SU hb2).elem i x[i] hxi
  rw [hp,AD,hl]
  have hlt2:LQ (x.take i)<256 ^ i:=by have:=hJ (x.take i); rwa [List.length_take,Nat.min_eq_left (by omega)] at this
  have h7:(256:Nat) ^ i≤256 ^ 7:=Nat.pow_le_pow_right (by omega) (by omega)
  have h77:(256:Nat) ^ 7=72057594037927936:=by decide
  have hbl:=(x[i]).toNat_lt
  show A2 .u8 (some (.int .u8 (x[i].toNat:Int))) _
  rw [AH,AGw _ (by omega),AH]
  refine PQ ((x[i].toNat:Nat):Int) (by omega) ?_
  rw [ACc _ _ (by omega)]
  refine PQ ((LQ (x.take i)*256+x[i].toNat:Nat):Int) (by omega) ?_
  refine E1 ((i+1:Nat):Int) (by omega) ?_
  refine ⟨k - (i+1),by omega,rfl,i+1,rfl,by omega,rfl,?_⟩
  rw [List.take_add_one,List.getElem?_eq_getElem (by omega),Option.toList_some,zS]
 ·have:i=k:=by omega
  subst this
  exact hQ (by omega)
def AE7 (n:Int):Int :=
 aX ((BitVec.ofInt 32 (n.fdiv 2) ^^^ BitVec.ofInt 32 (aX ((BitVec.ofInt 32 2197175160 &&& BitVec.ofInt 32 (aX (0 - aX ((BitVec.ofInt 32 n &&& BitVec.ofInt 32 1).toNat)))).toNat))).toNat)
def xO (n:Int):Nat→Int
 | 0=>n
 | k+1=>xO (AE7 n) k
def AFx (n:Int) (b:UInt8):Int:=xO (aX ((BitVec.ofInt 32 n ^^^ BitVec.ofInt 32 (aX ((b.toNat:Nat):Int))).toNat)) 8
def AAL (n:Int):Int:=IntKind.u32.wrap (BitVec.ofInt IntKind.u32.bits (if IntKind.u32.signed then -1 else IntKind.u32.max) ^^^ BitVec.ofInt IntKind.u32.bits n).toNat
def AAV (x:List UInt8):Int:=AAL (x.foldl AFx (AAL 0))
theorem AA7 (n:Int):0≤aX n∧aX n<4294967296:=by
 show 0≤IntKind.u32.wrap n∧IntKind.u32.wrap n<4294967296
 simp [IntKind.wrap,IntKind.bits,IntKind.signed]
 omega
theorem qX (x:List UInt8):0≤AAV x∧AAV x<4294967296:=AA7 _
def jS (x:List UInt8):Nat:=(AAV x).toNat
theorem wS (x:List UInt8):AAV x=(jS x:Nat):=by unfold jS; have:=qX x; omega
theorem ADA {n:Int} (hQ:Q (.ret (.int .u32 (xO n 8))) σ):E SX [.int .u32 n] σ Q:=by
 apply mV; unfold ZM
 refine ⟨fun m a j τ=>τ=σ∧m≤8∧j=8 - (m:Int)∧xO a m=xO n 8,⟨8,rfl,by omega,by omega,rfl⟩,?_⟩
 rintro m a j τ ⟨rfl,hm,rfl,he⟩
 unfold TJ
 refine AS (fun hj=>?_) (fun hj=>?_)
 ·obtain ⟨i,rfl⟩:∃ i,m=i+1:=⟨m - 1,by omega⟩
  have e:BF (some (.int .u32)) .shr (.int .u32 a) (.int .u64 1)=some (.int .u32 (a.fdiv 2)):=rfl
  rw [e,AH]
  unfold Bi
  refine ⟨i,by omega,rfl,by omega,?_,he⟩
  rw [sV (by omega)]; omega
 ·have:m=0:=by omega
  subst this
  rw [xO] at he
  rw [he]; exact hQ
theorem AFj {v:Value} {x:List UInt8} (hb:bS σ v x) (hx:x.length≤1099511627000) (hQ:Q (.ret (.int .u32 (AAV x))) σ):E WA [v] σ Q:=by
 apply yS; unfold lD
 apply tD; unfold iX
 have hlen:BH v=some (.int .i64 x.length):=by obtain ⟨a,c,rfl⟩:=IT hb; rfl
 have e0:sB .xor (.int .u32 0)=some (.int .u32 (AAL 0)):=rfl
 rw [e0,AH,hlen,AH]
 refine ⟨fun m a j τ=>τ=σ∧∃ i:Nat,j=i∧i≤x.length∧m=x.length - i∧a=(x.take i).foldl AFx (AAL 0),⟨x.length,rfl,0,rfl,by omega,by omega,rfl⟩,?_⟩
 rintro m a j τ ⟨rfl,i,rfl,hi,rfl,rfl⟩
 unfold XK
 refine AS (fun hlt=>?_) (fun hge=>?_)
 ·have hi2:i<x.length:=by omega
  obtain ⟨p,hp,hl⟩:=(SU hb).elem i x[i] (List.getElem?_eq_getElem hi2)
  rw [hp,AD,hl]
  show A2 .u8 (some (.int .u8 (x[i].toNat:Int))) _
  rw [AH]
  unfold Bi
  refine ADA ?_
  rw [A9]
  refine ⟨x.length - (i+1),by omega,rfl,i+1,?_,by omega,rfl,?_⟩
  ·rw [sV (by omega)]; omega
  ·rw [List.take_add_one,List.getElem?_eq_getElem hi2,Option.toList_some,List.foldl_append]; rfl
 ·have:i=x.length:=by omega
  subst this
  have e1:∀ a,sB .xor (.int .u32 a)=some (.int .u32 (AAL a)):=fun a=>rfl
  rw [e1,AH,A9,List.take_length]
  exact hQ
end Go.Ax.C
