/- Texts of one proof,joined. No statement of the seat is proved here. -/
import Derived.Test.YtcnceningjookaaGreatTe3
set_option linter.unusedVariables false
set_option linter.unusedSimpArgs false
set_option linter.unnecessarySimpa false
set_option linter.constructorNameAsVariable false
set_option linter.unusedVariables false
set_option maxRecDepth 100000
namespace Go.Ax.C
open Go.Proofs
def WC (E:BP) (Q:RK) (x0:Int) (σ:AHeap):Prop :=
 If (decide (1≤x0)) (
 Q (.ret (.bool (decide (x0≤8)))) σ) (
 Q (.ret (.bool false)) σ)
theorem gZ {Q:RK} {x0:Int} {σ:AHeap} (h:WC E Q x0 σ):E LY [(.int .i64 x0)] σ Q :=
 BT Tryz.func162 (fun _=>none) (fun _=>.v) (by kernel_rfl) (Eq.mpr (by kernel_rfl) h)
def TH (N1:Value→Int→AHeap→Prop) (E:BP) (Q:RK) (n26:Int) (v19:Value) (n20:Int) (τ27:AHeap):Prop :=
 If (decide (0≤n20)) (
 Bi (F3 (8*n20)) fun n37 =>
 Bi (VN (n37)) fun n38 =>
 A3 .u64 (BA (some (.int .u64)) .shr (.int .u64 n26) (.int .u64 n38)) fun n39 =>
 Bi (wu8 (n39)) fun n40 =>
 BB τ27 (.cells [(.int .u8 n40)] AI false) fun b41 τ42 =>
 pu (BN AI 1 1 v19 (.slice (some ⟨b41,0,none⟩) 1 1) τ42) fun r43 =>
 Bi (F3 (n20 - 1)) fun n46 =>
 N1 r43.1 n46 r43.2) (
 Q (.ret v19) τ27)
def bQ (E:BP) (Q:RK) (x0:Value) (x1 x2:Int) (σ:AHeap):Prop :=
 E CU [x0] σ (cV Q fun v4 τ3 =>
 E LY [(.int .i64 x2)] τ3 (cB Q fun c9 τ8 =>
 If (!c9) (
 Q (.ret v4) τ8) (
 Bi (F3 (x2 - 1)) fun n17 =>
 ∃ I50:Nat→Value→Int→AHeap→Prop,(∃ m,I50 m v4 n17 τ8) ∧
 ∀ m (v19:Value) (n20:Int) (σ':AHeap),I50 m v19 n20 σ'→(TH (fun v19 n20 σ'=>∃ m',m'<m∧I50 m' v19 n20 σ') E Q x1 v19 n20 σ'))))
theorem pE {Q:RK} {x0:Value} {x1 x2:Int} {σ:AHeap} (h:bQ E Q x0 x1 x2 σ):E HY [x0,(.int .u64 x1),(.int .i64 x2)] σ Q :=
 BT Tryz.func123 (hl [(2,.loopr [1] [7,8] [7] [7,8])]) (fun | 8=>(.i .i64) | _=>.v) (by kernel_rfl) (Eq.mpr (by kernel_rfl) h)
def TT (N1:Int→Int→AHeap→Prop) (E:BP) (Q:RK) (v30:Value) (n32 n27 n28:Int) (τ33:AHeap):Prop :=
 If (decide (n28<n32)) (
 om (AG 1 v30 (.int .i64 n28)) fun v41 =>
 A3 .u8 (AD false 1 v41 τ33) fun n42 =>
 A3 .u64 (BA (some (.int .u64)) .shl (.int .u64 n27) (.int .u64 8)) fun n47 =>
 Bi (VN (n42)) fun n49 =>
 Bi (VN ((BitVec.ofInt 64 n47 ||| BitVec.ofInt 64 n49).toNat)) fun n50 =>
 Bi (F3 (n28+1)) fun n54 =>
 N1 n50 n54 τ33) (
 Q (.ret (.tuple #[(.int .u64 n27),(.int .i64 0)])) τ33)
def bN (E:BP) (Q:RK) (x0:Value) (x1:Int) (σ:AHeap):Prop :=
 E LY [(.int .i64 x1)] σ (cB Q fun c4 τ3 =>
 If (!c4) (
 Q (.ret (.tuple #[(.int .u64 0),(.int .i64 1)])) τ3) (
 A3 .i64 (BJ x0) fun n11 =>
 If (decide (n11<x1)) (
 Q (.ret (.tuple #[(.int .u64 0),(.int .i64 4)])) τ3) (
 om (AY 1 x0 none (some (.int .i64 x1)) none) fun v24 =>
 A3 .i64 (BJ v24) fun n25 =>
 ∃ I58:Nat→Int→Int→AHeap→Prop,(∃ m,I58 m 0 0 τ3) ∧
 ∀ m (n27:Int) (n28:Int) (σ':AHeap),I58 m n27 n28 σ'→(TT (fun n27 n28 σ'=>∃ m',m'<m∧I58 m' n27 n28 σ') E Q v24 n25 n27 n28 σ'))))
theorem o8 {Q:RK} {x0:Value} {x1:Int} {σ:AHeap} (h:bN E Q x0 x1 σ):E JE [x0,(.int .i64 x1)] σ Q :=
 BT Tryz.func126 (hl [(3,.loopr [18,19] [6,20] [6] [6,20])]) (fun | 6=>(.i .u64) | 20=>(.i .i64) | _=>.v) (by kernel_rfl) (Eq.mpr (by kernel_rfl) h)
def SK (N1:Int→Int→AHeap→Prop) (E:BP) (Q:RK) (n3 n4:Int) (τ5:AHeap):Prop :=
 If (decide (n4<8)) (
 A3 .u32 (BA (some (.int .u32)) .shr (.int .u32 n3) (.int .u64 1)) fun n11 =>
 Bi (Y3 ((BitVec.ofInt 32 n3 &&& BitVec.ofInt 32 1).toNat)) fun n12 =>
 Bi (Y3 (0 - n12)) fun n13 =>
 Bi (Y3 ((BitVec.ofInt 32 2197175160 &&& BitVec.ofInt 32 n13).toNat)) fun n14 =>
 Bi (Y3 ((BitVec.ofInt 32 n11 ^^^ BitVec.ofInt 32 n14).toNat)) fun n15 =>
 Bi (F3 (n4+1)) fun n20 =>
 N1 n15 n20 τ5) (
 Q (.ret (.int .u32 n3)) τ5)
def ZE (E:BP) (Q:RK) (x0:Int) (σ:AHeap):Prop :=
 ∃ I24:Nat→Int→Int→AHeap→Prop,(∃ m,I24 m x0 0 σ) ∧
 ∀ m (n3:Int) (n4:Int) (σ':AHeap),I24 m n3 n4 σ'→(SK (fun n3 n4 σ'=>∃ m',m'<m∧I24 m' n3 n4 σ') E Q  n3 n4 σ')
theorem kY {Q:RK} {x0:Int} {σ:AHeap} (h:ZE E Q x0 σ):E SA [(.int .u32 x0)] σ Q :=
 BT Tryz.func187 (hl [(1,.loopr [] [0,3] [0] [0,3])]) (fun | 0=>(.i .u32) | 3=>(.i .i64) | _=>.v) (by kernel_rfl) (Eq.mpr (by kernel_rfl) h)
def WA (N1:Int→Int→AHeap→Prop) (E:BP) (Q:RK) (v12:Value) (n14 n9 n10:Int) (τ15:AHeap):Prop :=
 If (decide (n10<n14)) (
 om (AG 1 v12 (.int .i64 n10)) fun v23 =>
 A3 .u8 (AD false 1 v23 τ15) fun n24 =>
 Bi (Y3 (n24)) fun n30 =>
 Bi (Y3 ((BitVec.ofInt 32 n9 ^^^ BitVec.ofInt 32 n30).toNat)) fun n31 =>
 E SA [(.int .u32 n31)] τ15 (cI Q .u32 fun n33 τ32 =>
 Bi (F3 (n10+1)) fun n37 =>
 N1 n33 n37 τ32)) (
 A3 .u32 (pJ .xor (.int .u32 n9)) fun n41 =>
 Q (.ret (.int .u32 n41)) τ15)
def fO (E:BP) (Q:RK) (x0:Int) (x1:Value) (σ:AHeap):Prop :=
 A3 .u32 (pJ .xor (.int .u32 x0)) fun n3 =>
 A3 .i64 (BJ x1) fun n7 =>
 ∃ I42:Nat→Int→Int→AHeap→Prop,(∃ m,I42 m n3 0 σ) ∧
 ∀ m (n9:Int) (n10:Int) (σ':AHeap),I42 m n9 n10 σ'→(WA (fun n9 n10 σ'=>∃ m',m'<m∧I42 m' n9 n10 σ') E Q x1 n7 n9 n10 σ')
theorem rH {Q:RK} {x0:Int} {x1:Value} {σ:AHeap} (h:fO E Q x0 x1 σ):E f4 [(.int .u32 x0),x1] σ Q :=
 BT Tryz.func163 (hl [(1,.loopr [10,11] [5,12] [5] [5,12])]) (fun | 5=>(.i .u32) | 12=>(.i .i64) | _=>.v) (by kernel_rfl) (Eq.mpr (by kernel_rfl) h)
def iT (E:BP) (Q:RK) (x0:Value) (σ:AHeap):Prop :=
 E f4 [(.int .u32 0),x0] σ (cI Q .u32 fun n4 τ3 =>
 Q (.ret (.int .u32 n4)) τ3)
theorem vJ {Q:RK} {x0:Value} {σ:AHeap} (h:iT E Q x0 σ):E U9 [x0] σ Q :=
 BT Tryz.func124 (fun _=>none) (fun _=>.v) (by kernel_rfl) (Eq.mpr (by kernel_rfl) h)
def ZT (E:BP) (Q:RK) (x0:Value) (x1 x2:Int) (σ:AHeap):Prop :=
 A3 .i64 (BJ x0) fun n3 =>
 If (decide (240<n3)) (
 Q (.ret (.tuple #[(.slice none 0 0),(.int .i64 3)])) σ) (
 pu (OU AI 1 [(.int .u8 0)] (.int .i64 240) (.int .i64 256) σ) fun r7 =>
 pu (KJ 1 r7.1 x0 r7.2) fun r13 =>
 Bi (VN (x1)) fun n21 =>
 E HY [r7.1,(.int .u64 n21),(.int .i64 8)] r13.2 (cV Q fun v23 τ22 =>
 Bi (VN (x2)) fun n32 =>
 E HY [v23,(.int .u64 n32),(.int .i64 4)] τ22 (cV Q fun v34 τ33 =>
 E U9 [v34] τ33 (cI Q .u32 fun n38 τ37 =>
 Bi (VN (n38)) fun n39 =>
 E HY [v34,(.int .u64 n39),(.int .i64 4)] τ37 (cV Q fun v41 τ40 =>
 Q (.ret (.tuple #[v41,(.int .i64 0)])) τ40)))))
theorem kG {Q:RK} {x0:Value} {x1 x2:Int} {σ:AHeap} (h:ZT E Q x0 x1 x2 σ):E RF [x0,(.int .i64 x1),(.int .u8 x2)] σ Q :=
 BT Tryz.func65 (fun _=>none) (fun _=>.v) (by kernel_rfl) (Eq.mpr (by kernel_rfl) h)
def ZF (E:BP) (Q:RK) (x0:Value) (x1 x2:Int) (σ:AHeap):Prop :=
 A3 .i64 (BJ x0) fun n3 =>
 If (decide (n3<256)) (
 Q (.ret (.tuple #[(.slice none 0 0),(.int .i64 4)])) σ) (
 A3 .i64 (BJ x0) fun n7 =>
 If (decide (256<n7)) (
 Q (.ret (.tuple #[(.slice none 0 0),(.int .i64 3)])) σ) (
 om (AY 1 x0 (some (.int .i64 252)) none none) fun v13 =>
 E JE [v13,(.int .i64 4)] σ (c2 Q fun v15 v17 τ14 =>
 tI .u64 (fun n16 =>
 tI .i64 (fun n18 =>
 om (AY 1 x0 (some (.int .i64 240)) none none) fun v21 =>
 E JE [v21,(.int .i64 8)] τ14 (c2 Q fun v23 v25 τ22 =>
 tI .u64 (fun n24 =>
 tI .i64 (fun n26 =>
 om (AY 1 x0 (some (.int .i64 248)) none none) fun v29 =>
 E JE [v29,(.int .i64 4)] τ22 (c2 Q fun v31 v33 τ30 =>
 tI .u64 (fun n32 =>
 tI .i64 (fun n34 =>
 om (AY 1 x0 none (some (.int .i64 252)) none) fun v40 =>
 E U9 [v40] τ30 (cI Q .u32 fun n42 τ41 =>
 Bi (VN (n42)) fun n43 =>
 If (!decide (n16=n43)) (
 Q (.ret (.tuple #[(.slice none 0 0),(.int .i64 20)])) τ41) (
 Bi (VN (x1)) fun n57 =>
 If (!decide (n24=n57)) (
 Q (.ret (.tuple #[(.slice none 0 0),(.int .i64 21)])) τ41) (
 Bi (VN (x2)) fun n72 =>
 If (!decide (n32=n72)) (
 Q (.ret (.tuple #[(.slice none 0 0),(.int .i64 22)])) τ41) (
 om (AY 1 x0 none (some (.int .i64 240)) (some (.int .i64 240))) fun v80 =>
 E CU [v80] τ41 (cV Q fun v82 τ81 =>
 Q (.ret (.tuple #[v82,(.int .i64 0)])) τ81)))))) v33) v31)) v25) v23)) v17) v15)))
theorem lG {Q:RK} {x0:Value} {x1 x2:Int} {σ:AHeap} (h:ZF E Q x0 x1 x2 σ):E R6 [x0,(.int .i64 x1),(.int .u8 x2)] σ Q :=
 BT Tryz.func67 (fun _=>none) (fun _=>.v) (by kernel_rfl) (Eq.mpr (by kernel_rfl) h)
def HA (N1:Int→AHeap→Prop) (E:BP) (Q:RK) (c43:Bool) (n45:Int) (τ42:AHeap):Prop :=
 If c43 (
 Q (.ret (.bool false)) τ42) (
 Bi (F3 (n45+1)) fun n48 =>
 N1 n48 τ42)
def WP (N1:Int→AHeap→Prop) (E:BP) (Q:RK) (b17:Nat) (v19:Value) (n21 n15:Int) (τ22:AHeap):Prop :=
 If (decide (n15<n21)) (
 om (AG 1 v19 (.int .i64 n15)) fun v30 =>
 A3 .u64 (AD false 1 v30 τ22) fun n31 =>
 If (decide (0<n15)) (
 om (L b17 1 τ22) fun v38 =>
 Bi (F3 (n15 - 1)) fun n39 =>
 om (AG 1 v38 (.int .i64 n39)) fun v40 =>
 A3 .u64 (AD false 1 v40 τ22) fun n41 =>
 If (decide (n31≤n41)) (
 (HA N1 E Q true n15 τ22)) (
 om (L b17 2 τ22) fun v49 =>
 om (AG 1 v49 (.int .i64 n15)) fun v50 =>
 A3 .u64 (AD false 1 v50 τ22) fun n51 =>
 (HA N1 E Q (decide (n51=0)) n15 τ22))) (
 om (L b17 2 τ22) fun v52 =>
 om (AG 1 v52 (.int .i64 n15)) fun v53 =>
 A3 .u64 (AD false 1 v53 τ22) fun n54 =>
 (HA N1 E Q (decide (n54=0)) n15 τ22))) (
 Q (.ret (.bool true)) τ22)
def HB (E:BP) (Q:RK) (c8:Bool) (b10:Nat) (τ7:AHeap):Prop :=
 If c8 (
 Q (.ret (.bool false)) τ7) (
 om (L b10 1 τ7) fun v12 =>
 A3 .i64 (BJ v12) fun n13 =>
 ∃ I56:Nat→Int→AHeap→Prop,(∃ m,I56 m 0 τ7) ∧
 ∀ m (n15:Int) (σ':AHeap),I56 m n15 σ'→(WP (fun n15 σ'=>∃ m',m'<m∧I56 m' n15 σ') E Q b10 v12 n13 n15 σ'))
def gA (E:BP) (Q:RK) (x0_0:Bool) (x0_1 x0_2:Value) (σ:AHeap):Prop :=
 BB σ (.cells [(.bool x0_0),x0_1,x0_2] AE false) fun b1 τ2 =>
 om (L b1 1 τ2) fun v5 =>
 A3 .i64 (BJ v5) fun n6 =>
 If (decide (n6<1)) (
 (HB E Q true b1 τ2)) (
 om (L b1 1 τ2) fun v58 =>
 A3 .i64 (BJ v58) fun n59 =>
 If (decide (8<n59)) (
 (HB E Q true b1 τ2)) (
 om (L b1 2 τ2) fun v60 =>
 A3 .i64 (BJ v60) fun n61 =>
 om (L b1 1 τ2) fun v62 =>
 A3 .i64 (BJ v62) fun n63 =>
 (HB E Q (!decide (n61=n63)) b1 τ2)))
theorem qS {Q:RK} {x0_0:Bool} {x0_1 x0_2:Value} {σ:AHeap} (h:gA E Q x0_0 x0_1 x0_2 σ):E RY [(.agg #[(.bool x0_0),x0_1,x0_2])] σ Q :=
 BT Tryz.func69 (hl [(2,.loopr [1,25,26] [27] [2] [2,27])]) (fun | 27=>(.i .i64) | _=>.v) (by kernel_rfl) (Eq.mpr (by kernel_rfl) h)
def WQ (N1:Value→Int→AHeap→Prop) (E:BP) (Q:RK) (b38:Nat) (v40:Value) (n42:Int) (v35:Value) (n36:Int) (τ43:AHeap):Prop :=
 If (decide (n36<n42)) (
 om (AG 1 v40 (.int .i64 n36)) fun v51 =>
 A3 .u64 (AD false 1 v51 τ43) fun n52 =>
 om (L b38 2 τ43) fun v61 =>
 om (AG 1 v61 (.int .i64 n36)) fun v63 =>
 A3 .u64 (AD false 1 v63 τ43) fun n64 =>
 E HY [v35,(.int .u64 n52),(.int .i64 8)] τ43 (cV Q fun v66 τ65 =>
 om (L b38 2 τ65) fun v67 =>
 AQ v67 v61=true ∧
 A3 .u64 (AD false 1 v63 τ65) fun n68 =>
 AQ (.int .u64 n68) (.int .u64 n64)=true ∧
 E HY [v66,(.int .u64 n64),(.int .i64 8)] τ65 (cV Q fun v70 τ69 =>
 Bi (F3 (n36+1)) fun n74 =>
 N1 v70 n74 τ69))) (
 Q (.ret (.tuple #[v35,(.int .i64 0)])) τ43)
def L0 (E:BP) (Q:RK) (b31:Nat) (v79:Value) (τ29:AHeap):Prop :=
 om (L b31 1 τ29) fun v32 =>
 A3 .i64 (BJ v32) fun n33 =>
 ∃ I78:Nat→Value→Int→AHeap→Prop,(∃ m,I78 m v79 0 τ29) ∧
 ∀ m (v35:Value) (n36:Int) (σ':AHeap),I78 m v35 n36 σ'→(WQ (fun v35 n36 σ'=>∃ m',m'<m∧I78 m' v35 n36 σ') E Q b31 v32 n33 v35 n36 σ')
def gG (E:BP) (Q:RK) (x0_0:Bool) (x0_1 x0_2:Value) (σ:AHeap):Prop :=
 BB σ (.cells [(.bool x0_0),x0_1,x0_2] AE false) fun b1 τ2 =>
 DJ (L b1 0 τ2) fun c5 =>
 om (L b1 1 τ2) fun v6 =>
 om (L b1 2 τ2) fun v7 =>
 E RY [(.agg #[(.bool c5),v6,v7])] τ2 (cB Q fun c9 τ8 =>
 If (!c9) (
 Q (.ret (.tuple #[(.slice none 0 0),(.int .i64 1)])) τ8) (
 om (L b1 1 τ8) fun v15 =>
 A3 .i64 (BJ v15) fun n16 =>
 Bi (wu8 (n16)) fun n17 =>
 BB τ8 (.cells [(.int .u8 0),(.int .u8 n17)] AI false) fun b18 τ19 =>
 DJ (L b1 0 τ19) fun c22 =>
 If c22 (
 om (AG 1 (.slice (some ⟨b18,0,none⟩) 2 2) (.int .i64 0)) fun v27 =>
 pu (AN 1 v27 (.int .u8 1) τ19) fun τ28 =>
 (L0 E Q b1 (.slice (some ⟨b18,0,none⟩) 2 2) τ28)) (
 (L0 E Q b1 (.slice (some ⟨b18,0,none⟩) 2 2) τ19))))
theorem qF {Q:RK} {x0_0:Bool} {x0_1 x0_2:Value} {σ:AHeap} (h:gG E Q x0_0 x0_1 x0_2 σ):E XP [(.agg #[(.bool x0_0),x0_1,x0_2])] σ Q :=
 BT Tryz.func64 (hl [(3,.loopr [1,20,21] [4,22] [4] [4,22]),(6,.ord ([(0,[]),(1,[])]++il 3 5++[(2,[4,7]),(8,[]),(9,[])]))]) (fun | 22=>(.i .i64) | _=>.v) (by kernel_rfl) (Eq.mpr (by kernel_rfl) h)
def GC (E:BP) (Q:RK) (n21 n23:Int) (τ18:AHeap):Prop :=
 Q (.ret (.tuple #[(.int .u64 n21),(.int .i64 n23)])) τ18
def MN (E:BP) (Q:RK) (x0:Nat) (σ:AHeap):Prop :=
 om (L x0 0 σ) fun v3 =>
 E JE [v3,(.int .i64 8)] σ (c2 Q fun v5 v7 τ4 =>
 tI .u64 (fun n6 =>
 tI .i64 (fun n8 =>
 If (decide (n8=0)) (
 om (L x0 0 τ4) fun v15 =>
 om (AY 1 v15 (some (.int .i64 8)) none none) fun v16 =>
 St x0 0 v16 τ4 fun τ17 =>
 (GC E Q n6 n8 τ17)) (
 (GC E Q n6 n8 τ4))) v7) v5)
theorem SZ {Q:RK} {x0:Nat} {σ:AHeap} (h:MN E Q x0 σ):E CF [(.pointer (some ⟨x0,0,none⟩))] σ Q :=
 BT Tryz.func127 (fun _=>none) (fun _=>.v) (by kernel_rfl) (Eq.mpr (by kernel_rfl) h)
def G5 (N1:Int→AHeap→Prop) (E:BP) (Q:RK) (n224:Int) (b227 b228 b230:Nat) (τ222:AHeap):Prop :=
 Bi (F3 (n224+1)) fun n225 =>
 N1 n225 τ222
def FC (N1:Int→AHeap→Prop) (E:BP) (Q:RK) (c140:Bool) (b142 b144 b146:Nat) (n148:Int) (v154:Value) (n199:Int) (τ139:AHeap):Prop :=
 If c140 (
 pu (AN 3 (.pointer (some ⟨b142,0,none⟩)) (.agg #[(.bool false),(.slice none 0 0),(.slice none 0 0)]) τ139) fun τ143 =>
 pu (AD true 3 (.pointer (some ⟨b142,0,none⟩)) τ143) fun v149 =>
 Q (.ret (.tuple #[v149,(.int .i64 5)])) τ143) (
 wF v154 fun g253 a254 c255 =>
 E g253 (a254++[]++c255) τ139 (c2 Q fun v157 v159 τ156 =>
 tI .u64 (fun n158 =>
 tI .i64 (fun n160 =>
 If (!decide (n160=0)) (
 pu (AN 3 (.pointer (some ⟨b142,0,none⟩)) (.agg #[(.bool false),(.slice none 0 0),(.slice none 0 0)]) τ156) fun τ169 =>
 pu (AD true 3 (.pointer (some ⟨b142,0,none⟩)) τ169) fun v179 =>
 Q (.ret (.tuple #[v179,(.int .i64 n160)])) τ169) (
 If (decide (n158=0)) (
 pu (AN 3 (.pointer (some ⟨b142,0,none⟩)) (.agg #[(.bool false),(.slice none 0 0),(.slice none 0 0)]) τ156) fun τ188 =>
 pu (AD true 3 (.pointer (some ⟨b142,0,none⟩)) τ188) fun v195 =>
 Q (.ret (.tuple #[v195,(.int .i64 5)])) τ188) (
 om (L b144 1 τ156) fun v198 =>
 om (L b144 2 τ156) fun v206 =>
 (
 BB τ156 (.cells [(.int .u64 n199)] AL false) fun b209 τ210 =>
 om (L b144 1 τ210) fun v211 =>
 AQ v211 v198=true ∧
 om (L b144 2 τ210) fun v212 =>
 AQ v212 v206=true ∧
 (
 pu (BN AL 1 8 v198 (.slice (some ⟨b209,0,none⟩) 1 1) τ210) fun r213 =>
 om (L b144 2 r213.2) fun v214 =>
 AQ v214 v206=true ∧
 BB r213.2 (.cells [(.int .u64 n158)] AL false) fun b215 τ216 =>
 om (L b144 1 τ216) fun v217 =>
 AQ v217 v198=true ∧
 om (L b144 2 τ216) fun v218 =>
 AQ v218 v206=true ∧
 pu (BN AL 1 8 v206 (.slice (some ⟨b215,0,none⟩) 1 1) τ216) fun r219 =>
 St b144 1 r213.1 r219.2 fun τ220 =>
 St b144 2 r219.1 τ220 fun τ221 =>
 (G5 N1 E Q n148 b142 b144 b146 τ221))∧(
 BB τ210 (.cells [(.int .u64 n158)] AL false) fun b231 τ232 =>
 om (L b144 1 τ232) fun v233 =>
 AQ v233 v198=true ∧
 om (L b144 2 τ232) fun v234 =>
 AQ v234 v206=true ∧
 pu (BN AL 1 8 v198 (.slice (some ⟨b209,0,none⟩) 1 1) τ232) fun r235 =>
 om (L b144 2 r235.2) fun v236 =>
 AQ v236 v206=true ∧
 pu (BN AL 1 8 v206 (.slice (some ⟨b231,0,none⟩) 1 1) r235.2) fun r237 =>
 St b144 1 r235.1 r237.2 fun τ238 =>
 St b144 2 r237.1 τ238 fun τ239 =>
 (G5 N1 E Q n148 b142 b144 b146 τ239)))∧(
 BB τ156 (.cells [(.int .u64 n158)] AL false) fun b240 τ241 =>
 om (L b144 1 τ241) fun v242 =>
 AQ v242 v198=true ∧
 om (L b144 2 τ241) fun v243 =>
 AQ v243 v206=true ∧
 BB τ241 (.cells [(.int .u64 n199)] AL false) fun b244 τ245 =>
 om (L b144 1 τ245) fun v246 =>
 AQ v246 v198=true ∧
 om (L b144 2 τ245) fun v247 =>
 AQ v247 v206=true ∧
 pu (BN AL 1 8 v198 (.slice (some ⟨b244,0,none⟩) 1 1) τ245) fun r248 =>
 om (L b144 2 r248.2) fun v249 =>
 AQ v249 v206=true ∧
 pu (BN AL 1 8 v206 (.slice (some ⟨b240,0,none⟩) 1 1) r248.2) fun r250 =>
 St b144 1 r248.1 r250.2 fun τ251 =>
 St b144 2 r250.1 τ251 fun τ252 =>
 (G5 N1 E Q n148 b142 b144 b146 τ252))))) v159) v157))
def TO (N2:Int→AHeap→Prop) (E:BP) (Q:RK) (b267 b270:Nat) (v272:Value) (n274 n264:Int) (τ275:AHeap):Prop :=
 If (decide (n264<n274)) (
 om (AG 1 v272 (.int .i64 n264)) fun v283 =>
 A3 .u8 (AD false 1 v283 τ275) fun n284 =>
 If (!decide (n284=0)) (
 pu (AN 3 (.pointer (some ⟨b267,0,none⟩)) (.agg #[(.bool false),(.slice none 0 0),(.slice none 0 0)]) τ275) fun τ293 =>
 pu (AD true 3 (.pointer (some ⟨b267,0,none⟩)) τ293) fun v300 =>
 Q (.ret (.tuple #[v300,(.int .i64 5)])) τ293) (
 Bi (F3 (n264+1)) fun n303 =>
 N2 n303 τ275)) (
 DJ (L b270 0 τ275) fun c308 =>
 om (L b270 1 τ275) fun v309 =>
 om (L b270 2 τ275) fun v310 =>
 pu (AN 3 (.pointer (some ⟨b267,0,none⟩)) (.agg #[(.bool c308),v309,v310]) τ275) fun τ312 =>
 pu (AD true 3 (.pointer (some ⟨b267,0,none⟩)) τ312) fun v313 =>
 Q (.ret (.tuple #[v313,(.int .i64 0)])) τ312)
def UA (N1:Int→AHeap→Prop) (E:BP) (Q:RK) (b72 b77 b80:Nat) (v83:Value) (n85 n66:Int) (τ86:AHeap):Prop :=
 If (decide (n66<n85)) (
 wF v83 fun g256 a257 c258 =>
 E g256 (a257++[]++c258) τ86 (c2 Q fun v97 v99 τ96 =>
 tI .u64 (fun n98 =>
 tI .i64 (fun n100 =>
 If (!decide (n100=0)) (
 pu (AN 3 (.pointer (some ⟨b72,0,none⟩)) (.agg #[(.bool false),(.slice none 0 0),(.slice none 0 0)]) τ96) fun τ111 =>
 pu (AD true 3 (.pointer (some ⟨b72,0,none⟩)) τ111) fun v125 =>
 Q (.ret (.tuple #[v125,(.int .i64 n100)])) τ111) (
 If (decide (0<n66)) (
 om (L b77 1 τ96) fun v135 =>
 Bi (F3 (n66 - 1)) fun n136 =>
 om (AG 1 v135 (.int .i64 n136)) fun v137 =>
 A3 .u64 (AD false 1 v137 τ96) fun n138 =>
 (FC N1 E Q (decide (n98≤n138)) b72 b77 b80 n66 v83 n98 τ96)) (
 (FC N1 E Q false b72 b77 b80 n66 v83 n98 τ96)))) v99) v97)) (
 om (L b80 0 τ86) fun v261 =>
 A3 .i64 (BJ v261) fun n262 =>
 ∃ I314:Nat→Int→AHeap→Prop,(∃ m,I314 m 0 τ86) ∧
 ∀ m (n264:Int) (σ':AHeap),I314 m n264 σ'→(TO (fun n264 σ'=>∃ m',m'<m∧I314 m' n264 σ') E Q b72 b77 v261 n262 n264 σ'))
def H1 (E:BP) (Q:RK) (c39:Bool) (b41:Nat) (v45:Value) (τ38:AHeap):Prop :=
 If c39 (
 pu (AN 3 (.pointer (some ⟨b41,0,none⟩)) (.agg #[(.bool false),(.slice none 0 0),(.slice none 0 0)]) τ38) fun τ42 =>
 pu (AD true 3 (.pointer (some ⟨b41,0,none⟩)) τ42) fun v43 =>
 Q (.ret (.tuple #[v43,(.int .i64 5)])) τ42) (
 om (AG 1 v45 (.int .i64 0)) fun v47 =>
 A3 .u8 (AD false 1 v47 τ38) fun n48 =>
 BB τ38 (.cells [(.bool false),(.slice none 0 0),(.slice none 0 0)] AE false) fun b49 τ50 =>
 pu (AN 3 (.pointer (some ⟨b49,0,none⟩)) (.agg #[(.bool (decide (n48=1))),(.slice none 0 0),(.slice none 0 0)]) τ50) fun τ51 =>
 om (AY 1 v45 (some (.int .i64 2)) none none) fun v54 =>
 On v54 (
 BB τ51 (.cells [v54] G9 false) fun b55 τ56 =>
 om (AG 1 v45 (.int .i64 1)) fun v62 =>
 A3 .u8 (AD false 1 v62 τ56) fun n63 =>
 Bi (F3 (n63)) fun n64 =>
 ∃ I316:Nat→Int→AHeap→Prop,(∃ m,I316 m 0 τ56) ∧
 ∀ m (n66:Int) (σ':AHeap),I316 m n66 σ'→(UA (fun n66 σ'=>∃ m',m'<m∧I316 m' n66 σ') E Q b41 b49 b55 (.func (.func CF) #[(.pointer (some ⟨b55,0,none⟩))] #[]) n64 n66 σ')))
def bV (E:BP) (Q:RK) (x0:Value) (σ:AHeap):Prop :=
 BB σ (.cells [(.bool false),(.slice none 0 0),(.slice none 0 0)] AE false) fun b1 τ2 =>
 A3 .i64 (BJ x0) fun n5 =>
 If (decide (n5<1)) (
 pu (AN 3 (.pointer (some ⟨b1,0,none⟩)) (.agg #[(.bool false),(.slice none 0 0),(.slice none 0 0)]) τ2) fun τ10 =>
 pu (AD true 3 (.pointer (some ⟨b1,0,none⟩)) τ10) fun v11 =>
 Q (.ret (.tuple #[v11,(.int .i64 4)])) τ10) (
 om (AG 1 x0 (.int .i64 0)) fun v15 =>
 A3 .u8 (AD false 1 v15 τ2) fun n16 =>
 If (decide (1<n16)) (
 pu (AN 3 (.pointer (some ⟨b1,0,none⟩)) (.agg #[(.bool false),(.slice none 0 0),(.slice none 0 0)]) τ2) fun τ21 =>
 pu (AD true 3 (.pointer (some ⟨b1,0,none⟩)) τ21) fun v22 =>
 Q (.ret (.tuple #[v22,(.int .i64 5)])) τ21) (
 A3 .i64 (BJ x0) fun n26 =>
 If (decide (n26<2)) (
 pu (AN 3 (.pointer (some ⟨b1,0,none⟩)) (.agg #[(.bool false),(.slice none 0 0),(.slice none 0 0)]) τ2) fun τ31 =>
 pu (AD true 3 (.pointer (some ⟨b1,0,none⟩)) τ31) fun v32 =>
 Q (.ret (.tuple #[v32,(.int .i64 4)])) τ31) (
 om (AG 1 x0 (.int .i64 1)) fun v36 =>
 A3 .u8 (AD false 1 v36 τ2) fun n37 =>
 If (decide (n37<1)) (
 (H1 E Q true b1 x0 τ2)) (
 om (AG 1 x0 (.int .i64 1)) fun v318 =>
 A3 .u8 (AD false 1 v318 τ2) fun n319 =>
 (H1 E Q (decide (8<n319)) b1 x0 τ2)))))
theorem m9 {Q:RK} {x0:Value} {σ:AHeap} (h:bV E Q x0 σ):E TN [x0] σ Q :=
 BT Tryz.func68 (hl [(5,.loopr [2,4,5,6,51] [52] [2,3,4,5] [2,3,4,5,52]),(12,.tree (.step 0 [] (.step 1 [] (.step 2 [] (.step 5 [] (.step 6 [] (.step 7 [] (.alt (.step 3 [1,6] (.alt (.step 4 [6] (.step 10 [] (.step 8 [1,6] (.step 9 [] (.step 11 [] (.step 12 [] (.step 13 [] .nil))))))) (.step 8 [1,6] (.step 4 [6] (.step 10 [] (.step 9 [] (.step 11 [] (.step 12 [] (.step 13 [] .nil))))))))) (.step 8 [1,6] (.step 3 [1,6] (.step 4 [6] (.step 10 [] (.step 9 [] (.step 11 [] (.step 12 [] (.step 13 [] .nil)))))))))))))))),(14,.loopr [2,4,105,106] [107] [2,3,4] [2,3,4,107])]) (fun | 52=>(.i .i64) | 107=>(.i .i64) | _=>.v) (by kernel_rfl) (Eq.mpr (by kernel_rfl) h)
def ZS (E:BP) (Q:RK) (x0_0:Bool) (x0_1 x0_2:Value) (σ:AHeap):Prop :=
 BB σ (.cells [(.bool x0_0),x0_1,x0_2] AE false) fun b1 τ2 =>
 om (L b1 1 τ2) fun v5 =>
 A3 .i64 (BJ v5) fun n6 =>
 om (L b1 2 τ2) fun v7 =>
 A3 .i64 (BJ v7) fun n8 =>
 Q (.ret (.int .i64 (if n8<n6 then n8 else n6))) τ2
theorem kK {Q:RK} {x0_0:Bool} {x0_1 x0_2:Value} {σ:AHeap} (h:ZS E Q x0_0 x0_1 x0_2 σ):E GQ [(.agg #[(.bool x0_0),x0_1,x0_2])] σ Q :=
 BT Tryz.func130 (fun _=>none) (fun _=>.v) (by kernel_rfl) (Eq.mpr (by kernel_rfl) h)
def bU (E:BP) (Q:RK) (x0_0:Bool) (x0_1 x0_2 x1:Value) (σ:AHeap):Prop :=
 BB σ (.cells [(.bool x0_0),x0_1,x0_2] AE false) fun b1 τ2 =>
 BB τ2 (.cells [(.bool false),(.slice none 0 0),(.slice none 0 0)] AE false) fun b3 τ4 =>
 DJ (L b1 0 τ4) fun c7 =>
 om (L b1 1 τ4) fun v8 =>
 om (L b1 2 τ4) fun v9 =>
 E GQ [(.agg #[(.bool c7),v8,v9])] τ4 (cI Q .i64 fun n11 τ10 =>
 DJ (L b1 0 τ10) fun c14 =>
 om (L b1 1 τ10) fun v17 =>
 om (AY 1 v17 none (some (.int .i64 n11)) (some (.int .i64 n11))) fun v19 =>
 om (L b1 2 τ10) fun v20 =>
 om (AY 1 v20 none (some (.int .i64 n11)) (some (.int .i64 n11))) fun v21 =>
 E CA [v19] τ10 (cV Q fun v23 τ22 =>
 DJ (L b1 0 τ22) fun c24 =>
 AQ (.bool c24) (.bool c14)=true ∧
 om (L b1 2 τ22) fun v25 =>
 AQ v25 v20=true ∧
 wF x1 fun g43 a44 c45 =>
 E g43 (a44++[v23,(.bool true)]++c45) τ22 (cV Q fun v27 τ26 =>
 DJ (L b1 0 τ26) fun c28 =>
 AQ (.bool c28) (.bool c14)=true ∧
 om (L b1 2 τ26) fun v29 =>
 AQ v29 v20=true ∧
 E CA [v21] τ26 (cV Q fun v31 τ30 =>
 DJ (L b1 0 τ30) fun c32 =>
 AQ (.bool c32) (.bool c14)=true ∧
 wF x1 fun g40 a41 c42 =>
 E g40 (a41++[v31,(.bool false)]++c42) τ30 (cV Q fun v34 τ33 =>
 DJ (L b1 0 τ33) fun c35 =>
 AQ (.bool c35) (.bool c14)=true ∧
 On v27 (
 On v34 (
 pu (AN 3 (.pointer (some ⟨b3,0,none⟩)) (.agg #[(.bool c14),v27,v34]) τ33) fun τ38 =>
 pu (AD true 3 (.pointer (some ⟨b3,0,none⟩)) τ38) fun v39 =>
 Q (.ret v39) τ38)))))))
theorem o9 {Q:RK} {x0_0:Bool} {x0_1 x0_2 x1:Value} {σ:AHeap} (h:bU E Q x0_0 x0_1 x0_2 x1 σ):E FI [(.agg #[(.bool x0_0),x0_1,x0_2]),x1] σ Q :=
 BT Tryz.func132 (hl [(0,.ord (il 0 8++il 10 6++[(8,[1,12]),(9,[1,12]),(16,[1]),(17,[1]),(18,[]),(19,[])]))]) (fun _=>.v) (by kernel_rfl) (Eq.mpr (by kernel_rfl) h)
def gK (E:BP) (Q:RK) (x0:Bool) (x1 x2:Int) (σ:AHeap):Prop :=
 If x0 (
 Q (.ret (.int .u64 x1)) σ) (
 Q (.ret (.int .u64 x2)) σ)
theorem qC {Q:RK} {x0:Bool} {x1 x2:Int} {σ:AHeap} (h:gK E Q x0 x1 x2 σ):E RD [(.bool x0),(.int .u64 x1),(.int .u64 x2)] σ Q :=
 BT Tryz.func135 (fun _=>none) (fun _=>.v) (by kernel_rfl) (Eq.mpr (by kernel_rfl) h)
def S5 (N1:Int→AHeap→Prop) (E:BP) (Q:RK) (n17:Int) (b20:Nat) (n22 n24 n13:Int) (τ25:AHeap):Prop :=
 If (decide (n13<n24)) (
 om (L b20 1 τ25) fun v35 =>
 om (AG 1 v35 (.int .i64 n13)) fun v37 =>
 A3 .u64 (AD false 1 v37 τ25) fun n38 =>
 If (decide (n17≤n38)) (
 om (L b20 1 τ25) fun v46 =>
 om (AG 1 v46 (.int .i64 n13)) fun v47 =>
 A3 .u64 (AD false 1 v47 τ25) fun n48 =>
 Q (.ret (.tuple #[(.int .i64 n13),(.bool (decide (n48=n17)))])) τ25) (
 Bi (F3 (n13+1)) fun n58 =>
 N1 n58 τ25)) (
 Q (.ret (.tuple #[(.int .i64 n22),(.bool false)])) τ25)
def bP (E:BP) (Q:RK) (x0_0:Bool) (x0_1 x0_2:Value) (x1:Int) (σ:AHeap):Prop :=
 BB σ (.cells [(.bool x0_0),x0_1,x0_2] AE false) fun b1 τ2 =>
 DJ (L b1 0 τ2) fun c5 =>
 om (L b1 1 τ2) fun v6 =>
 om (L b1 2 τ2) fun v7 =>
 E GQ [(.agg #[(.bool c5),v6,v7])] τ2 (cI Q .i64 fun n9 τ8 =>
 ∃ I62:Nat→Int→AHeap→Prop,(∃ m,I62 m 0 τ8) ∧
 ∀ m (n13:Int) (σ':AHeap),I62 m n13 σ'→(S5 (fun n13 σ'=>∃ m',m'<m∧I62 m' n13 σ') E Q x1 b1 n9 n9 n13 σ'))
theorem nC {Q:RK} {x0_0:Bool} {x0_1 x0_2:Value} {x1:Int} {σ:AHeap} (h:bP E Q x0_0 x0_1 x0_2 x1 σ):E ML [(.agg #[(.bool x0_0),x0_1,x0_2]),(.int .u64 x1)] σ Q :=
 BT Tryz.func75 (hl [(1,.loopr [1,2,6,10] [11] [4,5,6] [4,5,6,11]),(5,.ord (il 0 10))]) (fun | 11=>(.i .i64) | _=>.v) (by kernel_rfl) (Eq.mpr (by kernel_rfl) h)
def IY (E:BP) (Q:RK) (n49:Int) (τ48:AHeap):Prop :=
 Q (.ret (.int .i64 n49)) τ48
def SL (N1:Int→Int→AHeap→Prop) (E:BP) (Q:RK) (n18:Int) (b20:Nat) (n22 n13 n14:Int) (τ23:AHeap):Prop :=
 If (decide (n14<n22)) (
 om (L b20 1 τ23) fun v33 =>
 om (AG 1 v33 (.int .i64 n14)) fun v35 =>
 A3 .u64 (AD false 1 v35 τ23) fun n36 =>
 If (decide (n18<n36)) (
 (IY E Q n13 τ23)) (
 Bi (F3 (n14+1)) fun n56 =>
 N1 n14 n56 τ23)) (
 (IY E Q n13 τ23))
def YW (E:BP) (Q:RK) (x0_0:Bool) (x0_1 x0_2:Value) (x1:Int) (σ:AHeap):Prop :=
 BB σ (.cells [(.bool x0_0),x0_1,x0_2] AE false) fun b1 τ2 =>
 DJ (L b1 0 τ2) fun c7 =>
 om (L b1 1 τ2) fun v8 =>
 om (L b1 2 τ2) fun v9 =>
 E GQ [(.agg #[(.bool c7),v8,v9])] τ2 (cI Q .i64 fun n11 τ10 =>
 ∃ I58:Nat→Int→Int→AHeap→Prop,(∃ m,I58 m 0 0 τ10) ∧
 ∀ m (n13:Int) (n14:Int) (σ':AHeap),I58 m n13 n14 σ'→(SL (fun n13 n14 σ'=>∃ m',m'<m∧I58 m' n13 n14 σ') E Q x1 b1 n11 n13 n14 σ'))
theorem kZ {Q:RK} {x0_0:Bool} {x0_1 x0_2:Value} {x1:Int} {σ:AHeap} (h:YW E Q x0_0 x0_1 x0_2 x1 σ):E NL [(.agg #[(.bool x0_0),x0_1,x0_2]),(.int .u64 x1)] σ Q :=
 BT Tryz.func81 (hl [(1,.loopr [1,2,8] [5,9] [5] [5,9])]) (fun | 5=>(.i .i64) | 9=>(.i .i64) | _=>.v) (by kernel_rfl) (Eq.mpr (by kernel_rfl) h)
def WD (E:BP) (Q:RK) (x0_0:Bool) (x0_1 x0_2:Value) (x1 x2 x3:Int) (σ:AHeap):Prop :=
 BB σ (.cells [(.bool x0_0),x0_1,x0_2] AE false) fun b1 τ2 =>
 BB τ2 (.cells [(.int .i64 x1)] DN false) fun b3 τ4 =>
 BB τ4 (.cells [(.int .u64 x2)] AL false) fun b5 τ6 =>
 BB τ6 (.cells [(.int .u64 x3)] AL false) fun b7 τ8 =>
 BB τ8 (.cells [(.bool false),(.slice none 0 0),(.slice none 0 0)] AE false) fun b9 τ10 =>
 A3 .i64 (L b3 0 τ10) fun n13 =>
 DJ (L b1 0 τ10) fun c15 =>
 om (L b1 1 τ10) fun v16 =>
 om (L b1 2 τ10) fun v17 =>
 E GQ [(.agg #[(.bool c15),v16,v17])] τ10 (cI Q .i64 fun n19 τ18 =>
 A3 .i64 (L b3 0 τ18) fun n20 =>
 AQ (.int .i64 n20) (.int .i64 n13)=true ∧
 St b3 0 (.int .i64 (if n19<(if 0 > n13 then 0 else n13) then n19 else (if 0 > n13 then 0 else n13))) τ18 fun τ21 =>
 DJ (L b1 0 τ21) fun c24 =>
 om (L b1 1 τ21) fun v25 =>
 om (L b1 2 τ21) fun v26 =>
 E FI [(.agg #[(.bool c24),v25,v26]),(.func (.func LG) #[] #[(.pointer (some ⟨b3,0,none⟩)),(.pointer (some ⟨b5,0,none⟩)),(.pointer (some ⟨b7,0,none⟩))])] τ21 (cV Q fun v33 τ32 =>
 pu (AN 3 (.pointer (some ⟨b9,0,none⟩)) v33 τ32) fun τ36 =>
 pu (AD true 3 (.pointer (some ⟨b9,0,none⟩)) τ36) fun v37 =>
 Q (.ret v37) τ36))
theorem hY {Q:RK} {x0_0:Bool} {x0_1 x0_2:Value} {x1 x2 x3:Int} {σ:AHeap} (h:WD E Q x0_0 x0_1 x0_2 x1 x2 x3 σ):E LU [(.agg #[(.bool x0_0),x0_1,x0_2]),(.int .i64 x1),(.int .u64 x2),(.int .u64 x3)] σ Q :=
 BT Tryz.func78 (hl [(0,.ord ([(0,[]),(1,[]),(2,[]),(3,[0]),(4,[]),(5,[])]))]) (fun _=>.v) (by kernel_rfl) (Eq.mpr (by kernel_rfl) h)
def QR (E:BP) (Q:RK) (x0:Value) (x1:Bool) (x2 x3 x4:Nat) (σ:AHeap):Prop :=
 A3 .i64 (L x2 0 σ) fun n4 =>
 A3 .u64 (L x3 0 σ) fun n7 =>
 A3 .u64 (L x4 0 σ) fun n9 =>
 E RD [(.bool x1),(.int .u64 n7),(.int .u64 n9)] σ (cI Q .u64 fun n11 τ10 =>
 A3 .i64 (L x2 0 τ10) fun n12 =>
 AQ (.int .i64 n12) (.int .i64 n4)=true ∧
 BB τ10 (.cells [(.int .u64 n11)] AL false) fun b13 τ14 =>
 A3 .i64 (L x2 0 τ14) fun n15 =>
 AQ (.int .i64 n15) (.int .i64 n4)=true ∧
 E B8 [x0,(.int .i64 n4),(.slice (some ⟨b13,0,none⟩) 1 1)] τ14 (cV Q fun v17 τ16 =>
 Q (.ret v17) τ16))
theorem aK {Q:RK} {x0:Value} {x1:Bool} {x2 x3 x4:Nat} {σ:AHeap} (h:QR E Q x0 x1 x2 x3 x4 σ):E LG [x0,(.bool x1),(.pointer (some ⟨x2,0,none⟩)),(.pointer (some ⟨x3,0,none⟩)),(.pointer (some ⟨x4,0,none⟩))] σ Q :=
 BT Tryz.func133 (hl [(0,.ord (il 0 5++[(5,[1]),(6,[1]),(7,[]),(8,[])]))]) (fun _=>.v) (by kernel_rfl) (Eq.mpr (by kernel_rfl) h)
def fT (E:BP) (Q:RK) (x0_0:Bool) (x0_1 x0_2:Value) (x1 x2 x3:Int) (σ:AHeap):Prop :=
 BB σ (.cells [(.bool x0_0),x0_1,x0_2] AE false) fun b1 τ2 =>
 BB τ2 (.cells [(.int .i64 x1)] DN false) fun b3 τ4 =>
 BB τ4 (.cells [(.int .u64 x2)] AL false) fun b5 τ6 =>
 BB τ6 (.cells [(.int .u64 x3)] AL false) fun b7 τ8 =>
 BB τ8 (.cells [(.bool false),(.slice none 0 0),(.slice none 0 0)] AE false) fun b9 τ10 =>
 DJ (L b1 0 τ10) fun c13 =>
 om (L b1 1 τ10) fun v14 =>
 om (L b1 2 τ10) fun v15 =>
 E FI [(.agg #[(.bool c13),v14,v15]),(.func (.func PP) #[] #[(.pointer (some ⟨b3,0,none⟩)),(.pointer (some ⟨b5,0,none⟩)),(.pointer (some ⟨b7,0,none⟩))])] τ10 (cV Q fun v20 τ19 =>
 pu (AN 3 (.pointer (some ⟨b9,0,none⟩)) v20 τ19) fun τ22 =>
 pu (AD true 3 (.pointer (some ⟨b9,0,none⟩)) τ22) fun v23 =>
 Q (.ret v23) τ22)
theorem p7 {Q:RK} {x0_0:Bool} {x0_1 x0_2:Value} {x1 x2 x3:Int} {σ:AHeap} (h:fT E Q x0_0 x0_1 x0_2 x1 x2 x3 σ):E K9 [(.agg #[(.bool x0_0),x0_1,x0_2]),(.int .i64 x1),(.int .u64 x2),(.int .u64 x3)] σ Q :=
 BT Tryz.func131 (fun _=>none) (fun _=>.v) (by kernel_rfl) (Eq.mpr (by kernel_rfl) h)
def KQ (E:BP) (Q:RK) (v26:Value) (τ25:AHeap):Prop :=
 Q (.ret v26) τ25
def KU (E:BP) (Q:RK) (c8:Bool) (v9:Value) (b10:Nat) (c13:Bool) (b15 b18:Nat) (τ7:AHeap):Prop :=
 If c8 (
 A3 .i64 (L b10 0 τ7) fun n11 =>
 A3 .u64 (L b15 0 τ7) fun n16 =>
 A3 .u64 (L b18 0 τ7) fun n19 =>
 E RD [(.bool c13),(.int .u64 n16),(.int .u64 n19)] τ7 (cI Q .u64 fun n21 τ20 =>
 A3 .i64 (L b10 0 τ20) fun n22 =>
 AQ (.int .i64 n22) (.int .i64 n11)=true ∧
 om (AG 1 v9 (.int .i64 n11)) fun v23 =>
 pu (AN 1 v23 (.int .u64 n21) τ20) fun τ24 =>
 (KQ E Q v9 τ24))) (
 (KQ E Q v9 τ7))
def WO (E:BP) (Q:RK) (x0:Value) (x1:Bool) (x2 x3 x4:Nat) (σ:AHeap):Prop :=
 A3 .i64 (L x2 0 σ) fun n3 =>
 If (decide (0≤n3)) (
 A3 .i64 (L x2 0 σ) fun n4 =>
 A3 .i64 (BJ x0) fun n6 =>
 (KU E Q (decide (n4<n6)) x0 x2 x1 x3 x4 σ)) (
 (KU E Q false x0 x2 x1 x3 x4 σ))
theorem gS {Q:RK} {x0:Value} {x1:Bool} {x2 x3 x4:Nat} {σ:AHeap} (h:WO E Q x0 x1 x2 x3 x4 σ):E PP [x0,(.bool x1),(.pointer (some ⟨x2,0,none⟩)),(.pointer (some ⟨x3,0,none⟩)),(.pointer (some ⟨x4,0,none⟩))] σ Q :=
 BT Tryz.func166 (hl [(1,.ord (il 0 5++[(5,[1]),(6,[]),(7,[])]))]) (fun _=>.v) (by kernel_rfl) (Eq.mpr (by kernel_rfl) h)
def WF (E:BP) (Q:RK) (x0_0:Bool) (x0_1 x0_2:Value) (x1:Int) (σ:AHeap):Prop :=
 BB σ (.cells [(.bool x0_0),x0_1,x0_2] AE false) fun b1 τ2 =>
 BB τ2 (.cells [(.int .i64 x1)] DN false) fun b3 τ4 =>
 BB τ4 (.cells [(.bool false),(.slice none 0 0),(.slice none 0 0)] AE false) fun b5 τ6 =>
 DJ (L b1 0 τ6) fun c9 =>
 om (L b1 1 τ6) fun v10 =>
 om (L b1 2 τ6) fun v11 =>
 E FI [(.agg #[(.bool c9),v10,v11]),(.func (.func LK) #[] #[(.pointer (some ⟨b3,0,none⟩))])] τ6 (cV Q fun v14 τ13 =>
 pu (AN 3 (.pointer (some ⟨b5,0,none⟩)) v14 τ13) fun τ16 =>
 pu (AD true 3 (.pointer (some ⟨b5,0,none⟩)) τ16) fun v17 =>
 Q (.ret v17) τ16)
theorem iG {Q:RK} {x0_0:Bool} {x0_1 x0_2:Value} {x1:Int} {σ:AHeap} (h:WF E Q x0_0 x0_1 x0_2 x1 σ):E LM [(.agg #[(.bool x0_0),x0_1,x0_2]),(.int .i64 x1)] σ Q :=
 BT Tryz.func83 (fun _=>none) (fun _=>.v) (by kernel_rfl) (Eq.mpr (by kernel_rfl) h)
def IJ (E:BP) (Q:RK) (c5:Bool) (v7:Value) (b10:Nat) (τ4:AHeap):Prop :=
 If c5 (
 Q (.ret v7) τ4) (
 A3 .i64 (L b10 0 τ4) fun n12 =>
 A3 .i64 (L b10 0 τ4) fun n13 =>
 Bi (F3 (n13+1)) fun n14 =>
 E C5 [v7,(.int .i64 n12),(.int .i64 n14)] τ4 (cV Q fun v16 τ15 =>
 Q (.ret v16) τ15))
def Q8 (E:BP) (Q:RK) (x0:Value) (x1:Bool) (x2:Nat) (σ:AHeap):Prop :=
 A3 .i64 (L x2 0 σ) fun n3 =>
 If (decide (n3<0)) (
 (IJ E Q true x0 x2 σ)) (
 A3 .i64 (L x2 0 σ) fun n17 =>
 A3 .i64 (BJ x0) fun n18 =>
 (IJ E Q (decide (n18≤n17)) x0 x2 σ))
theorem bF {Q:RK} {x0:Value} {x1:Bool} {x2:Nat} {σ:AHeap} (h:Q8 E Q x0 x1 x2 σ):E LK [x0,(.bool x1),(.pointer (some ⟨x2,0,none⟩))] σ Q :=
 BT Tryz.func137 (fun _=>none) (fun _=>.v) (by kernel_rfl) (Eq.mpr (by kernel_rfl) h)
def YM (E:BP) (Q:RK) (x0_0:Bool) (x0_1 x0_2:Value) (σ:AHeap):Prop :=
 BB σ (.cells [(.bool x0_0),x0_1,x0_2] AE false) fun b1 τ2 =>
 BB τ2 (.cells [(.bool false),(.slice none 0 0),(.slice none 0 0)] AE false) fun b3 τ4 =>
 BB τ4 (.cells [(.bool false),(.slice none 0 0),(.slice none 0 0)] AE false) fun b5 τ6 =>
 DJ (L b1 0 τ6) fun c9 =>
 om (L b1 1 τ6) fun v10 =>
 om (L b1 2 τ6) fun v11 =>
 E GQ [(.agg #[(.bool c9),v10,v11])] τ6 (cI Q .i64 fun n13 τ12 =>
 Bi (F3 (n13+1)) fun n14 =>
 Bi (F3 (Int.tdiv n14 2)) fun n15 =>
 BB τ12 (.cells [(.int .i64 0)] DN false) fun b16 τ17 =>
 St b16 0 (.int .i64 n15) τ17 fun τ18 =>
 DJ (L b1 0 τ18) fun c21 =>
 om (L b1 1 τ18) fun v22 =>
 om (L b1 2 τ18) fun v23 =>
 E FI [(.agg #[(.bool c21),v22,v23]),(.func (.func MY) #[] #[(.pointer (some ⟨b16,0,none⟩))])] τ18 (cV Q fun v26 τ25 =>
 BB τ25 (.cells [(.bool false),(.slice none 0 0),(.slice none 0 0)] AE false) fun b27 τ28 =>
 pu (AN 3 (.pointer (some ⟨b27,0,none⟩)) v26 τ28) fun τ29 =>
 DJ (L b1 0 τ29) fun c32 =>
 om (L b1 1 τ29) fun v33 =>
 om (L b1 2 τ29) fun v34 =>
 E FI [(.agg #[(.bool c32),v33,v34]),(.func (.func MW) #[] #[(.pointer (some ⟨b16,0,none⟩))])] τ29 (cV Q fun v37 τ36 =>
 BB τ36 (.cells [(.bool false),(.slice none 0 0),(.slice none 0 0)] AE false) fun b38 τ39 =>
 pu (AN 3 (.pointer (some ⟨b38,0,none⟩)) v37 τ39) fun τ40 =>
 DJ (L b27 0 τ40) fun c44 =>
 om (L b27 1 τ40) fun v45 =>
 om (L b27 2 τ40) fun v46 =>
 DJ (L b38 0 τ40) fun c48 =>
 om (L b38 1 τ40) fun v49 =>
 om (L b38 2 τ40) fun v50 =>
 pu (AN 3 (.pointer (some ⟨b3,0,none⟩)) (.agg #[(.bool c44),v45,v46]) τ40) fun τ55 =>
 DJ (L b38 0 τ55) fun c56 =>
 om (L b38 1 τ55) fun v57 =>
 om (L b38 2 τ55) fun v58 =>
 AQ (.agg #[(.bool c56),v57,v58]) (.agg #[(.bool c48),v49,v50])=true ∧
 pu (AN 3 (.pointer (some ⟨b5,0,none⟩)) (.agg #[(.bool c48),v49,v50]) τ55) fun τ63 =>
 pu (AD true 3 (.pointer (some ⟨b3,0,none⟩)) τ63) fun v64 =>
 pu (AD true 3 (.pointer (some ⟨b5,0,none⟩)) τ63) fun v65 =>
 Q (.ret (.tuple #[v64,v65])) τ63)))
theorem mC {Q:RK} {x0_0:Bool} {x0_1 x0_2:Value} {σ:AHeap} (h:YM E Q x0_0 x0_1 x0_2 σ):E NM [(.agg #[(.bool x0_0),x0_1,x0_2])] σ Q :=
 BT Tryz.func136 (hl [(0,.ord ([(0,[]),(1,[]),(2,[1]),(3,[])]))]) (fun _=>.v) (by kernel_rfl) (Eq.mpr (by kernel_rfl) h)
def SO (E:BP) (Q:RK) (x0:Value) (x1:Bool) (x2:Nat) (σ:AHeap):Prop :=
 A3 .i64 (L x2 0 σ) fun n4 =>
 A3 .i64 (L x2 0 σ) fun n5 =>
 om (AY 1 x0 none (some (.int .i64 n4)) (some (.int .i64 n5))) fun v6 =>
 Q (.ret v6) σ
theorem cM {Q:RK} {x0:Value} {x1:Bool} {x2:Nat} {σ:AHeap} (h:SO E Q x0 x1 x2 σ):E MY [x0,(.bool x1),(.pointer (some ⟨x2,0,none⟩))] σ Q :=
 BT Tryz.func170 (fun _=>none) (fun _=>.v) (by kernel_rfl) (Eq.mpr (by kernel_rfl) h)
def SU (E:BP) (Q:RK) (x0:Value) (x1:Bool) (x2:Nat) (σ:AHeap):Prop :=
 A3 .i64 (L x2 0 σ) fun n4 =>
 om (AY 1 x0 (some (.int .i64 n4)) none none) fun v5 =>
 Q (.ret v5) σ
theorem cO {Q:RK} {x0:Value} {x1:Bool} {x2:Nat} {σ:AHeap} (h:SU E Q x0 x1 x2 σ):E MW [x0,(.bool x1),(.pointer (some ⟨x2,0,none⟩))] σ Q :=
 BT Tryz.func171 (fun _=>none) (fun _=>.v) (by kernel_rfl) (Eq.mpr (by kernel_rfl) h)
def cH (E:BP) (Q:RK) (x0_0:Bool) (x0_1 x0_2:Value) (x1_0:Bool) (x1_1 x1_2:Value) (σ:AHeap):Prop :=
 BB σ (.cells [(.bool x0_0),x0_1,x0_2] AE false) fun b1 τ2 =>
 BB τ2 (.cells [(.bool x1_0),x1_1,x1_2] AE false) fun b3 τ4 =>
 BB τ4 (.cells [(.bool false),(.slice none 0 0),(.slice none 0 0)] AE false) fun b5 τ6 =>
 DJ (L b3 0 τ6) fun c9 =>
 om (L b3 1 τ6) fun v10 =>
 om (L b3 2 τ6) fun v11 =>
 E FI [(.agg #[(.bool c9),v10,v11]),(.func (.func OE) #[] #[])] τ6 (cV Q fun v13 τ12 =>
 BB τ12 (.cells [(.bool false),(.slice none 0 0),(.slice none 0 0)] AE false) fun b14 τ15 =>
 pu (AN 3 (.pointer (some ⟨b14,0,none⟩)) v13 τ15) fun τ16 =>
 DJ (L b1 0 τ16) fun c20 =>
 om (L b1 1 τ16) fun v21 =>
 om (L b1 2 τ16) fun v22 =>
 E FI [(.agg #[(.bool c20),v21,v22]),(.func (.func OD) #[] #[(.pointer (some ⟨b14,0,none⟩))])] τ16 (cV Q fun v25 τ24 =>
 pu (AN 3 (.pointer (some ⟨b5,0,none⟩)) v25 τ24) fun τ28 =>
 pu (AD true 3 (.pointer (some ⟨b5,0,none⟩)) τ28) fun v29 =>
 Q (.ret v29) τ28))
theorem mK {Q:RK} {x0_0:Bool} {x0_1 x0_2:Value} {x1_0:Bool} {x1_1 x1_2:Value} {σ:AHeap} (h:cH E Q x0_0 x0_1 x0_2 x1_0 x1_1 x1_2 σ):E OQ [(.agg #[(.bool x0_0),x0_1,x0_2]),(.agg #[(.bool x1_0),x1_1,x1_2])] σ Q :=
 BT Tryz.func140 (fun _=>none) (fun _=>.v) (by kernel_rfl) (Eq.mpr (by kernel_rfl) h)
def TR (E:BP) (Q:RK) (x0:Value) (x1:Bool) (σ:AHeap):Prop :=
 Q (.ret x0) σ
theorem eD {Q:RK} {x0:Value} {x1:Bool} {σ:AHeap} (h:TR E Q x0 x1 σ):E OE [x0,(.bool x1)] σ Q :=
 BT Tryz.func172 (fun _=>none) (fun _=>.v) (by kernel_rfl) (Eq.mpr (by kernel_rfl) h)
def TJ (E:BP) (Q:RK) (x0:Value) (x1:Bool) (x2:Nat) (σ:AHeap):Prop :=
 If x1 (
 om (L x2 1 σ) fun v9 =>
 pu (BN AL 1 8 x0 v9 σ) fun r10 =>
 Q (.ret r10.1) r10.2) (
 om (L x2 2 σ) fun v14 =>
 pu (BN AL 1 8 x0 v14 σ) fun r15 =>
 Q (.ret r15.1) r15.2)
theorem eC {Q:RK} {x0:Value} {x1:Bool} {x2:Nat} {σ:AHeap} (h:TJ E Q x0 x1 x2 σ):E OD [x0,(.bool x1),(.pointer (some ⟨x2,0,none⟩))] σ Q :=
 BT Tryz.func173 (fun _=>none) (fun _=>.v) (by kernel_rfl) (Eq.mpr (by kernel_rfl) h)
def bW (E:BP) (Q:RK) (x0_0:Bool) (x0_1 x0_2:Value) (x1_0:Bool) (x1_1 x1_2:Value) (σ:AHeap):Prop :=
 BB σ (.cells [(.bool x0_0),x0_1,x0_2] AE false) fun b1 τ2 =>
 BB τ2 (.cells [(.bool x1_0),x1_1,x1_2] AE false) fun b3 τ4 =>
 BB τ4 (.cells [(.bool false),(.slice none 0 0),(.slice none 0 0)] AE false) fun b5 τ6 =>
 BB τ6 (.cells [(.bool false),(.slice none 0 0),(.slice none 0 0)] AE false) fun b7 τ8 =>
 DJ (L b1 0 τ8) fun c11 =>
 om (L b1 1 τ8) fun v12 =>
 om (L b1 2 τ8) fun v13 =>
 DJ (L b3 0 τ8) fun c15 =>
 om (L b3 1 τ8) fun v16 =>
 om (L b3 2 τ8) fun v17 =>
 E OQ [(.agg #[(.bool c11),v12,v13]),(.agg #[(.bool c15),v16,v17])] τ8 (cV Q fun v19 τ18 =>
 E NM [v19] τ18 (c2 Q fun v21 v22 τ20 =>
 pu (AN 3 (.pointer (some ⟨b5,0,none⟩)) v21 τ20) fun τ24 =>
 pu (AN 3 (.pointer (some ⟨b7,0,none⟩)) v22 τ24) fun τ26 =>
 pu (AD true 3 (.pointer (some ⟨b5,0,none⟩)) τ26) fun v27 =>
 pu (AD true 3 (.pointer (some ⟨b7,0,none⟩)) τ26) fun v28 =>
 Q (.ret (.tuple #[v27,v28])) τ26))
theorem mL {Q:RK} {x0_0:Bool} {x0_1 x0_2:Value} {x1_0:Bool} {x1_1 x1_2:Value} {σ:AHeap} (h:bW E Q x0_0 x0_1 x0_2 x1_0 x1_1 x1_2 σ):E TX [(.agg #[(.bool x0_0),x0_1,x0_2]),(.agg #[(.bool x1_0),x1_1,x1_2])] σ Q :=
 BT Tryz.func141 (fun _=>none) (fun _=>.v) (by kernel_rfl) (Eq.mpr (by kernel_rfl) h)
def C6 (E:BP) (Q:RK) (x0:Value) (x1:Int) (x2:Value) (σ:AHeap):Prop :=
 om (AY 1 x0 (some (.int .i64 x1)) none none) fun v4 =>
 A3 .i64 (BJ x2) fun n8 =>
 If (decide (n8=0)) (
 Q (.ret x0) σ) (
 A3 .i64 (BJ x0) fun n18 =>
 If (decide (x1=n18)) (
 pu (BN AL 1 8 x0 x2 σ) fun r35 =>
 Q (.ret r35.1) r35.2) (
 Bi (F3 (n18+n8)) fun n44 =>
 A3 .i64 (mQ x0) fun n46 =>
 If (decide (n46<n44)) (
 om (AY 1 x0 none (some (.int .i64 x1)) none) fun v53 =>
 Bi (F3 (n18+n8)) fun n56 =>
 Bi (F3 (n56 - x1)) fun n57 =>
 pu (N8 AL 1 8 [(.int .u64 0)] v53 (.int .i64 n57) σ) fun r58 =>
 om (AY 1 r58.1 (some (.int .i64 x1)) none none) fun v62 =>
 pu (KJ 1 v62 x2 r58.2) fun r66 =>
 Bi (F3 (x1+n8)) fun n72 =>
 om (AY 1 r58.1 (some (.int .i64 n72)) none none) fun v73 =>
 om (AY 1 x0 (some (.int .i64 x1)) none none) fun v76 =>
 pu (KJ 1 v73 v76 r66.2) fun r77 =>
 Q (.ret r58.1) r77.2) (
 Bi (F3 (n18+n8)) fun n84 =>
 om (AY 1 x0 none (some (.int .i64 n84)) none) fun v85 =>
 Bi (F3 (x1+n8)) fun n93 =>
 om (AY 1 v85 (some (.int .i64 n93)) none none) fun v94 =>
 E IV [x2,v94] σ (cB Q fun c96 τ95 =>
 If (!c96) (
 Bi (F3 (x1+n8)) fun n102 =>
 om (AY 1 v85 (some (.int .i64 n102)) none none) fun v103 =>
 om (AY 1 v85 (some (.int .i64 x1)) none none) fun v104 =>
 pu (KJ 1 v103 v104 τ95) fun r105 =>
 om (AY 1 v85 (some (.int .i64 x1)) none none) fun v109 =>
 pu (KJ 1 v109 x2 r105.2) fun r112 =>
 Q (.ret v85) r112.2) (
 om (AY 1 v85 (some (.int .i64 n18)) none none) fun v120 =>
 pu (KJ 1 v120 x2 τ95) fun r122 =>
 om (AY 1 v85 (some (.int .i64 x1)) none none) fun v127 =>
 E EN [v127,(.int .i64 n8)] r122.2 (c0 Q fun τ130 =>
 Q (.ret v85) τ130))))))
theorem FP {Q:RK} {x0:Value} {x1:Int} {x2:Value} {σ:AHeap} (h:C6 E Q x0 x1 x2 σ):E B8 [x0,(.int .i64 x1),x2] σ Q :=
 BT Tryz.func134 (hl [(3,.ord (il 0 9)),(5,.ord (il 0 9))]) (fun _=>.v) (by kernel_rfl) (Eq.mpr (by kernel_rfl) h)
def FH (E:BP) (Q:RK) (x0:Value) (x1 x2:Int) (σ:AHeap):Prop :=
 A3 .i64 (BJ x0) fun n5 =>
 om (AY 1 x0 (some (.int .i64 x1)) (some (.int .i64 x2)) (some (.int .i64 n5))) fun v6 =>
 If (decide (x1=x2)) (
 Q (.ret x0) σ) (
 A3 .i64 (BJ x0) fun n16 =>
 om (AY 1 x0 none (some (.int .i64 x1)) none) fun v22 =>
 om (AY 1 x0 (some (.int .i64 x2)) none none) fun v26 =>
 pu (BN AL 1 8 v22 v26 σ) fun r27 =>
 A3 .i64 (BJ r27.1) fun n30 =>
 om (AY 1 r27.1 (some (.int .i64 n30)) (some (.int .i64 n16)) none) fun v33 =>
 pu (aV [(.int .u64 0)] v33 r27.2) fun τ34 =>
 Q (.ret r27.1) τ34)
theorem JP {Q:RK} {x0:Value} {x1 x2:Int} {σ:AHeap} (h:FH E Q x0 x1 x2 σ):E C5 [x0,(.int .i64 x1),(.int .i64 x2)] σ Q :=
 BT Tryz.func138 (hl [(1,.ord (il 0 8))]) (fun _=>.v) (by kernel_rfl) (Eq.mpr (by kernel_rfl) h)
def FZ (E:BP) (Q:RK) (x0:Value) (σ:AHeap):Prop :=
 DJ (BA (some (.slice AL)) .eql x0 (.slice none 0 0)) fun c3 =>
 If c3 (
 Q (.ret (.slice none 0 0)) σ) (
 pu (BN AL 1 8 (.slice (some ⟨ZB,0,some 0⟩) 0 0) x0 σ) fun r9 =>
 Q (.ret r9.1) r9.2)
theorem KG {Q:RK} {x0:Value} {σ:AHeap} (h:FZ E Q x0 σ):E CA [x0] σ Q :=
 BT Tryz.func167 (fun _=>none) (fun _=>.v) (by kernel_rfl) (Eq.mpr (by kernel_rfl) h)
def HI (E:BP) (Q:RK) (x0:Value) (x1:Int) (σ:AHeap):Prop :=
 A3 .i64 (BJ x0) fun n1 =>
 Bi (F3 (n1 - x1)) fun n2 =>
 E HZ [x0,(.int .i64 n2)] σ (c0 Q fun τ3 =>
 Q (.ret (.tuple #[])) τ3)
theorem NI {Q:RK} {x0:Value} {x1:Int} {σ:AHeap} (h:HI E Q x0 x1 σ):E EN [x0,(.int .i64 x1)] σ Q :=
 BT Tryz.func169 (fun _=>none) (fun _=>.v) (by kernel_rfl) (Eq.mpr (by kernel_rfl) h)
def H4 (E:BP) (Q:RK) (x0:Value) (x1:Int) (σ:AHeap):Prop :=
 om (AY 1 x0 none (some (.int .i64 x1)) none) fun v1 =>
 E BS [v1] σ (c0 Q fun τ2 =>
 om (AY 1 x0 (some (.int .i64 x1)) none none) fun v6 =>
 E BS [v6] τ2 (c0 Q fun τ7 =>
 E BS [x0] τ7 (c0 Q fun τ10 =>
 Q (.ret (.tuple #[])) τ10)))
theorem N4 {Q:RK} {x0:Value} {x1:Int} {σ:AHeap} (h:H4 E Q x0 x1 σ):E HZ [x0,(.int .i64 x1)] σ Q :=
 BT Tryz.func188 (fun _=>none) (fun _=>.v) (by kernel_rfl) (Eq.mpr (by kernel_rfl) h)
def EI (N1:Int→Int→AHeap→Prop) (E:BP) (Q:RK) (v7:Value) (n4 n5:Int) (τ8:AHeap):Prop :=
 If (decide (n4<n5)) (
 om (AG 1 v7 (.int .i64 n5)) fun v18 =>
 A3 .u64 (AD false 1 v18 τ8) fun n19 =>
 om (AG 1 v7 (.int .i64 n4)) fun v20 =>
 A3 .u64 (AD false 1 v20 τ8) fun n21 =>
 om (AG 1 v7 (.int .i64 n4)) fun v22 =>
 pu (AN 1 v22 (.int .u64 n19) τ8) fun τ23 =>
 om (AG 1 v7 (.int .i64 n5)) fun v24 =>
 pu (AN 1 v24 (.int .u64 n21) τ23) fun τ25 =>
 Bi (F3 (n4+1)) fun n28 =>
 Bi (F3 (n5 - 1)) fun n30 =>
 N1 n28 n30 τ25) (
 Q (.ret (.tuple #[])) τ8)
def E7 (E:BP) (Q:RK) (x0:Value) (σ:AHeap):Prop :=
 A3 .i64 (BJ x0) fun n1 =>
 Bi (F3 (n1 - 1)) fun n2 =>
 ∃ I31:Nat→Int→Int→AHeap→Prop,(∃ m,I31 m 0 n2 σ) ∧
 ∀ m (n4:Int) (n5:Int) (σ':AHeap),I31 m n4 n5 σ'→(EI (fun n4 n5 σ'=>∃ m',m'<m∧I31 m' n4 n5 σ') E Q x0 n4 n5 σ')
theorem JF {Q:RK} {x0:Value} {σ:AHeap} (h:E7 E Q x0 σ):E BS [x0] σ Q :=
 BT Tryz.func192 (hl [(1,.loopr [0] [2,3] [] [2,3]),(4,.ord (il 0 16))]) (fun | 2=>(.i .i64) | 3=>(.i .i64) | _=>.v) (by kernel_rfl) (Eq.mpr (by kernel_rfl) h)
end Go.Ax.C
namespace Go.Ax
def RQ (Q:WK):RK:=RP Q noP
end Go.Ax
namespace Go.Ax.O
open Go.Proofs
noncomputable abbrev P:Program:=C.P
noncomputable def E (f:FuncId) (a:List Value) (σ:AHeap) (Q:WK):Prop:=C.E f a σ (RP Q noP)
theorem ACa {f:FuncId} {args:List Value} {σ:AHeap} {Q Q':RK} (h:C.E f args σ Q) (hq:∀ r σ',Q r σ'→Q' r σ'):C.E f args σ Q':=by
 rw [C.gU] at h ⊢
 exact h.mono hq
@[congr] theorem AEV {f:FuncId} {a a':List Value} {σ σ':AHeap} {Q:WK} (h:a=a') (g:σ=σ'):E f a σ Q=E f a' σ' Q:=by rw [h,g]
theorem MR {f:FuncId} {fn:Func} (hf:P.funcs[f]?=some fn) (h:Nat→Option QY) (hc:WI fn h=true) {args:List Value} {σ:AHeap} {Q:WK} (hx:X1 P C.E fn h args σ (RQ Q)):E f args σ Q:=by
 unfold E
 rw [C.gU] at hx ⊢
 exact Ev.fn C.mixed hf h hc hx
theorem up {f:FuncId} {args:List Value} {σ:AHeap} {Q:RK} (h:E f args σ fun v τ=>Q (.ret v) τ):C.E f args σ Q :=
 ACa h fun r σ' hr=>by
  cases r with
  | ret v=>exact hr
  | pan v=>exact hr.elim
theorem down {f:FuncId} {args:List Value} {σ:AHeap} {Q:WK} (h:C.E f args σ (RP Q noP)):E f args σ Q:=h
end Go.Ax.O
set_option linter.unusedVariables false
set_option maxRecDepth 100000
namespace Go.Ax.O
open Go.Proofs
def PQ (Q:WK) (x0:Value) (σ:AHeap):Prop :=
 pu (BA (some (.slice AI)) .eql x0 (.slice none 0 0)) fun v4_3 =>
 wC v4_3 (
 Q (.slice none 0 0) σ) (
 pu (BN AI 1 1 (.slice (some ⟨ZB,0,some 0⟩) 0 0) x0 σ) fun r7_8 =>
 Q r7_8.1 r7_8.2)
theorem aR (Q:WK) (x0:Value) (σ:AHeap):X1 P C.E Tryz.f99 (fun _=>none) [x0] σ (RQ Q)=PQ Q x0 σ:=by kernel_rfl
theorem Z0 {Q:WK} {x0:Value} {σ:AHeap} (h:PQ Q x0 σ):E CU [x0] σ Q:=MR Tryz.func99 _ (by kernel_rfl) (Eq.mpr (aR Q x0 σ) h)
def E6 (Q:WK) (p0_57 p1_58:Value) (τ_56:AHeap):Prop :=
 E D9 [p0_57,p1_58] τ_56 fun v48_59 τ_60 =>
 pu (BX v48_59) fun v49_61 =>
 pu (AB 4 v49_61) fun v50_62 =>
 pu (AD false 1 v50_62 τ_60) fun v51_63 =>
 E CU [v51_63] τ_60 fun v52_64 τ_65 =>
 Q (.tuple #[v52_64,(.int .i64 0)]) τ_65
def HP (Q:WK) (x0 x1:Value) (σ:AHeap):Prop :=
 E EH [x0,x1] σ fun v12_4 τ_5 =>
 pu (BA (some (.int .i64)) .neq v12_4 (.int .i64 0)) fun v14_8 =>
 wC v14_8 (
 Q (.tuple #[(.slice none 0 0),v12_4]) τ_5) (
 pu (BX x0) fun v17_14 =>
 pu (AB 3 v17_14) fun v18_15 =>
 pu (AD false 1 v18_15 τ_5) fun v19_16 =>
 pu (IW P A9 v19_16 x1 false τ_5) fun v21_18 =>
 pu (BA (some (.pointer DY)) .eql v21_18 (.pointer none)) fun v22_19 =>
 wC v22_19 (
 E DU [x0] τ_5 fun v24_23 τ_24 =>
 pu (BA (some (.int .i64)) .neq v24_23 (.int .i64 0)) fun v26_27 =>
 wC v26_27 (
 Q (.tuple #[(.slice none 0 0),v24_23]) τ_24) (
 pu (BX x0) fun v30_33 =>
 pu (AB 0 v30_33) fun v31_34 =>
 pu (AD false 1 v31_34 τ_24) fun v32_35 =>
 E KY [v32_35,x1] τ_24 fun v34_37 τ_38 =>
 pu (CL v34_37 0) fun v35_39 =>
 pu (CL v34_37 1) fun v36_40 =>
 pu (BA (some (.int .i64)) .neq v36_40 (.int .i64 0)) fun v38_43 =>
 wC v38_43 (
 Q (.tuple #[(.slice none 0 0),v36_40]) τ_38) (
 E D9 [x0,x1] τ_38 fun v42_50 τ_51 =>
 pu (BX v42_50) fun v44_53 =>
 pu (AB 4 v44_53) fun v45_54 =>
 pu (AN 1 v45_54 v35_39 τ_51) fun τ_55 =>
 (E6 Q x0 x1 τ_55)))) (
 (E6 Q x0 x1 τ_5)))
theorem UP (Q:WK) (x0 x1:Value) (σ:AHeap):X1 P C.E Tryz.f66 (fun _=>none) [x0,x1] σ (RQ Q)=HP Q x0 x1 σ:=by kernel_rfl
theorem MH {Q:WK} {x0 x1:Value} {σ:AHeap} (h:HP Q x0 x1 σ):E FT [x0,x1] σ Q:=MR Tryz.func66 _ (by kernel_rfl) (Eq.mpr (UP Q x0 x1 σ) h)
def E5 (Q:WK) (p0_38 p1_39 p2_54:Value) (τ_37:AHeap):Prop :=
 E D9 [p0_38,p1_39] τ_37 fun v33_40 τ_41 =>
 E CU [p2_54] τ_41 fun v37_45 τ_46 =>
 pu (BX v33_40) fun v38_47 =>
 pu (AB 4 v38_47) fun v39_48 =>
 pu (AN 1 v39_48 v37_45 τ_46) fun τ_49 =>
 pu (BX v33_40) fun v40_50 =>
 pu (AB 3 v40_50) fun v41_51 =>
 pu (AN 1 v41_51 (.bool true) τ_49) fun τ_52 =>
 Q (.int .i64 0) τ_52
def FL (Q:WK) (x0 x1 x2:Value) (σ:AHeap):Prop :=
 E EH [x0,x1] σ fun v12_4 τ_5 =>
 pu (BA (some (.int .i64)) .neq v12_4 (.int .i64 0)) fun v14_8 =>
 wC v14_8 (
 Q v12_4 τ_5) (
 pu (BJ x2) fun v17_14 =>
 pu (BA (some (.int .i64)) .neq v17_14 (.int .i64 256)) fun v18_15 =>
 wC v18_15 (
 Q (.int .i64 1) τ_5) (
 pu (BX x0) fun v20_20 =>
 pu (AB 3 v20_20) fun v21_21 =>
 pu (AD false 1 v21_21 τ_5) fun v22_22 =>
 pu (IW P A9 v22_22 x1 false τ_5) fun v24_24 =>
 pu (BA (some (.pointer DY)) .eql v24_24 (.pointer none)) fun v25_25 =>
 wC v25_25 (
 E DU [x0] τ_5 fun v27_29 τ_30 =>
 pu (BA (some (.int .i64)) .neq v27_29 (.int .i64 0)) fun v29_33 =>
 wC v29_33 (
 Q v27_29 τ_30) (
 (E5 Q x0 x1 x2 τ_30))) (
 (E5 Q x0 x1 x2 τ_5))))
theorem S3 (Q:WK) (x0 x1 x2:Value) (σ:AHeap):X1 P C.E Tryz.f62 (fun _=>none) [x0,x1,x2] σ (RQ Q)=FL Q x0 x1 x2 σ:=by kernel_rfl
theorem H5 {Q:WK} {x0 x1 x2:Value} {σ:AHeap} (h:FL Q x0 x1 x2 σ):E EB [x0,x1,x2] σ Q:=MR Tryz.func62 _ (by kernel_rfl) (Eq.mpr (S3 Q x0 x1 x2 σ) h)
def C4 (Q:WK) (p21_19:Value) (τ_18:AHeap):Prop :=
 wC p21_19 (
 Q (.int .i64 6) τ_18) (
 Q (.int .i64 0) τ_18)
def DE (Q:WK) (p5_6 p0_7 p1_30:Value) (τ_5:AHeap):Prop :=
 wC p5_6 (
 Q (.int .i64 2) τ_5) (
 pu (BX p0_7) fun v17_8 =>
 pu (AB 0 v17_8) fun v18_9 =>
 pu (AD false 1 v18_9 τ_5) fun v19_10 =>
 E M3 [v19_10] τ_5 fun v20_11 τ_12 =>
 wC v20_11 (
 Q (.int .i64 9) τ_12) (
 pu (BA (some (.int .i64)) .lss p1_30 (.int .i64 0)) fun v23_16 =>
 wG v23_16 (
 (C4 Q (.bool true) τ_12)) (
 pu (BX p0_7) fun v27_22 =>
 pu (AB 0 v27_22) fun v28_23 =>
 pu (AD false 1 v28_23 τ_12) fun v29_24 =>
 E E0 [v29_24] τ_12 fun v30_25 τ_26 =>
 pu (BA (some (.int .i64)) .geq p1_30 v30_25) fun v31_27 =>
 (C4 Q v31_27 τ_26)) (
 wB v23_16 fun b_29 =>
 (C4 Q (cond b_29 (.bool true) F2) τ_12))))
def F6 (Q:WK) (x0 x1:Value) (σ:AHeap):Prop :=
 pu (BA (some (.pointer AU)) .eql x0 (.pointer none)) fun v7_3 =>
 wG v7_3 (
 (DE Q (.bool true) x0 x1 σ)) (
 pu (BX x0) fun v10_32 =>
 pu (AB 0 v10_32) fun v11_33 =>
 pu (AD false 1 v11_33 σ) fun v12_34 =>
 pu (BA (some (.pointer ER)) .eql v12_34 (.pointer none)) fun v13_35 =>
 (DE Q v13_35 x0 x1 σ)) (
 wB v7_3 fun b_37 =>
 (DE Q (cond b_37 (.bool true) F2) x0 x1 σ))
theorem RG (Q:WK) (x0 x1:Value) (σ:AHeap):X1 P C.E Tryz.f120 (fun _=>none) [x0,x1] σ (RQ Q)=F6 Q x0 x1 σ:=by kernel_rfl
theorem JO {Q:WK} {x0 x1:Value} {σ:AHeap} (h:F6 Q x0 x1 σ):E EH [x0,x1] σ Q:=MR Tryz.func120 _ (by kernel_rfl) (Eq.mpr (RG Q x0 x1 σ) h)
def GY (Q:WK) (x0:Value) (σ:AHeap):Prop :=
 pu (BX x0) fun v6_3 =>
 pu (AB 4 v6_3) fun v7_4 =>
 pu (AD false 1 v7_4 σ) fun v8_5 =>
 pu (BJ v8_5) fun v9_6 =>
 pu (BX x0) fun v11_7 =>
 pu (AB 1 v11_7) fun v12_8 =>
 pu (AD false 1 v12_8 σ) fun v13_9 =>
 pu (BA (some (.int .i64)) .lss v9_6 v13_9) fun v14_10 =>
 wC v14_10 (
 Q (.int .i64 0) σ) (
 pu (BX x0) fun v17_15 =>
 pu (AB 4 v17_15) fun v18_16 =>
 pu (AD false 1 v18_16 σ) fun v19_17 =>
 pu (AG 1 v19_17 (.int .i64 0)) fun v20_18 =>
 pu (AD false 1 v20_18 σ) fun v21_19 =>
 E IG [x0,v21_19] σ fun v22_20 τ_21 =>
 pu (BA (some (.int .i64)) .neq v22_20 (.int .i64 0)) fun v24_24 =>
 wC v24_24 (
 Q v22_20 τ_21) (
 pu (BX x0) fun v27_30 =>
 pu (AB 4 v27_30) fun v28_31 =>
 pu (KA P BD v28_31) fun v29_32 =>
 E KT [v29_32] τ_21 fun v30_33 τ_34 =>
 pu (HH P AK false v30_33) fun v31_35 =>
 pu (BX x0) fun v33_38 =>
 pu (AB 3 v33_38) fun v34_39 =>
 pu (AD false 1 v34_39 τ_34) fun v35_40 =>
 pu (BX v31_35) fun v37_42 =>
 pu (AB 0 v37_42) fun v38_43 =>
 pu (AD false 1 v38_43 τ_34) fun v39_44 =>
 pu (R7 P A9 v35_40 v39_44 τ_34) fun τ_45 =>
 Q (.int .i64 0) τ_45))
theorem SV (Q:WK) (x0:Value) (σ:AHeap):X1 P C.E Tryz.f121 (hl [(0,.ord [(0,[]),(1,[]),(2,[]),(3,[]),(4,[]),(5,[]),(6,[]),(7,[]),(8,[]),(9,[])]),(3,.ord [(0,[]),(1,[]),(2,[]),(3,[]),(4,[]),(5,[]),(6,[]),(7,[]),(8,[])])]) [x0] σ (RQ Q)=GY Q x0 σ:=by kernel_rfl
theorem KH {Q:WK} {x0:Value} {σ:AHeap} (h:GY Q x0 σ):E DU [x0] σ Q:=MR Tryz.func121 _ (by kernel_rfl) (Eq.mpr (SV Q x0 σ) h)
def FM (Q:WK) (p5_50 p0_51:Value) (τ_49:AHeap):Prop :=
 pu (BX p0_51) fun v47_52 =>
 pu (AB 2 v47_52) fun v48_53 =>
 pu (AD false 1 v48_53 τ_49) fun v49_54 =>
 pu (BX p5_50) fun v50_55 =>
 pu (AB 2 v50_55) fun v51_56 =>
 pu (AN 1 v51_56 v49_54 τ_49) fun τ_57 =>
 pu (BX p0_51) fun v53_60 =>
 pu (AB 4 v53_60) fun v54_61 =>
 pu (KA P BD v54_61) fun v55_62 =>
 pu (BX p5_50) fun v57_64 =>
 pu (AB 1 v57_64) fun v58_65 =>
 pu (AD false 1 v58_65 τ_57) fun v59_66 =>
 E WV [v55_62,v59_66] τ_57 fun v60_67 τ_68 =>
 Q p5_50 τ_68
def HR (Q:WK) (x0 x1:Value) (σ:AHeap):Prop :=
 pu (BX x0) fun v8_3 =>
 pu (AB 2 v8_3) fun v9_4 =>
 pu (AD false 1 v9_4 σ) fun v10_5 =>
 pu (BA (some (.int .u64)) .add v10_5 (.int .u64 1)) fun v11_6 =>
 pu (BX x0) fun v12_7 =>
 pu (AB 2 v12_7) fun v13_8 =>
 pu (AN 1 v13_8 v11_6 σ) fun τ_9 =>
 pu (BX x0) fun v16_12 =>
 pu (AB 3 v16_12) fun v17_13 =>
 pu (AD false 1 v17_13 τ_9) fun v18_14 =>
 pu (IW P A9 v18_14 x1 true τ_9) fun v20_16 =>
 pu (CL v20_16 0) fun v21_17 =>
 pu (CL v20_16 1) fun v22_18 =>
 pu (pJ .not v22_18) fun v24_21 =>
 wC v24_21 (
 pu (BX x0) fun v27_26 =>
 pu (AB 2 v27_26) fun v28_27 =>
 pu (AD false 1 v28_27 τ_9) fun v29_28 =>
 pu (XE [(0,1),(1,1),(2,1),(3,1),(4,1)] [(.int .i64 0),(.int .i64 0),(.int .u64 0),(.bool false),(.slice none 0 0)] [(0,x1),(2,v29_28)]) fun v30_29 =>
 cond (DB v30_29) (BB τ_9 (.cells (Value.cells v30_29).toList DY false) fun b_30 τ_31 =>
 pu (BX x0) fun v33_34 =>
 pu (AB 3 v33_34) fun v34_35 =>
 pu (AD false 1 v34_35 τ_31) fun v35_36 =>
 pu (I8 P A9 v35_36 x1 (.pointer (some ⟨b_30,0,none⟩)) τ_31) fun τ_39 =>
 pu (BX x0) fun v39_42 =>
 pu (AB 4 v39_42) fun v40_43 =>
 pu (KA P BD v40_43) fun v41_44 =>
 pu (KA P AK (.pointer (some ⟨b_30,0,none⟩))) fun v43_46 =>
 E I9 [v41_44,v43_46] τ_39 fun v44_47 τ_48 =>
 (FM Q (.pointer (some ⟨b_30,0,none⟩)) x0 τ_48)) False) (
 (FM Q v21_17 x0 τ_9))
theorem TV (Q:WK) (x0 x1:Value) (σ:AHeap):X1 P C.E Tryz.f122 (hl [(1,.ord [(0,[]),(1,[]),(2,[]),(3,[]),(4,[]),(5,[]),(6,[]),(7,[]),(8,[])])]) [x0,x1] σ (RQ Q)=HR Q x0 x1 σ:=by kernel_rfl
theorem MO {Q:WK} {x0 x1:Value} {σ:AHeap} (h:HR Q x0 x1 σ):E D9 [x0,x1] σ Q:=MR Tryz.func122 _ (by kernel_rfl) (Eq.mpr (TV Q x0 x1 σ) h)
def IK (Q:WK) (x0 x1:Value) (σ:AHeap):Prop :=
 pu (BX x1) fun v7_3 =>
 pu (AB 3 v7_3) fun v8_4 =>
 pu (AD false 1 v8_4 σ) fun v9_5 =>
 pu (pJ .not v9_5) fun v10_6 =>
 wC v10_6 (
 Q (.int .i64 0) σ) (
 pu (BX x0) fun v12_11 =>
 pu (AB 0 v12_11) fun v13_12 =>
 pu (AD false 1 v13_12 σ) fun v14_13 =>
 pu (BX x1) fun v16_15 =>
 pu (AB 0 v16_15) fun v17_16 =>
 pu (AD false 1 v17_16 σ) fun v18_17 =>
 pu (BX x1) fun v20_18 =>
 pu (AB 4 v20_18) fun v21_19 =>
 pu (AD false 1 v21_19 σ) fun v22_20 =>
 E JV [v14_13,v18_17,v22_20] σ fun v23_21 τ_22 =>
 pu (BA (some (.int .i64)) .neq v23_21 (.int .i64 0)) fun v26_26 =>
 pu (BX x1) fun v27_27 =>
 pu (AB 3 v27_27) fun v28_28 =>
 pu (AN 1 v28_28 v26_26 τ_22) fun τ_29 =>
 Q v23_21 τ_29)
theorem RM (Q:WK) (x0 x1:Value) (σ:AHeap):X1 P C.E Tryz.f159 (hl [(1,.ord [(0,[]),(1,[]),(2,[]),(3,[]),(4,[]),(5,[]),(6,[]),(7,[]),(8,[]),(9,[]),(10,[]),(11,[]),(12,[]),(13,[])])]) [x0,x1] σ (RQ Q)=IK Q x0 x1 σ:=by kernel_rfl
theorem RZ {Q:WK} {x0 x1:Value} {σ:AHeap} (h:IK Q x0 x1 σ):E IG [x0,x1] σ Q:=MR Tryz.func159 _ (by kernel_rfl) (Eq.mpr (RM Q x0 x1 σ) h)
def J0 (Q:WK) (p18_12 p0_20 p1_21:Value) (τ_11:AHeap):Prop :=
 wC p18_12 (
 Q (.tuple #[(.pointer none),(.int .i64 1)]) τ_11) (
 pu (QZ P A9 none τ_11) fun r21_16 =>
 pu (XE [(0,1),(1,1),(2,1),(3,1),(4,1)] [(.pointer none),(.int .i64 0),(.int .u64 0),(.map none),(.slice none 0 0)] [(0,p0_20),(1,p1_21),(3,r21_16.1)]) fun v22_17 =>
 cond (DB v22_17) (BB r21_16.2 (.cells (Value.cells v22_17).toList AU false) fun b_18 τ_19 =>
 Q (.tuple #[(.pointer (some ⟨b_18,0,none⟩)),(.int .i64 0)]) τ_19) False)
def JM (Q:WK) (p12_6 p1_26 p0_27:Value) (τ_5:AHeap):Prop :=
 wC p12_6 (
 Q (.tuple #[(.pointer none),(.int .i64 2)]) τ_5) (
 pu (BA (some (.int .i64)) .lss p1_26 (.int .i64 1)) fun v14_9 =>
 wG v14_9 (
 (J0 Q (.bool true) p0_27 p1_26 τ_5)) (
 pu (BA (some (.int .i64)) .gtr p1_26 (.int .i64 1024)) fun v17_23 =>
 (J0 Q v17_23 p0_27 p1_26 τ_5)) (
 wB v14_9 fun b_25 =>
 (J0 Q (cond b_25 (.bool true) F2) p0_27 p1_26 τ_5)))
def S1 (Q:WK) (x0 x1:Value) (σ:AHeap):Prop :=
 pu (BA (some (.pointer ER)) .eql x0 (.pointer none)) fun v7_3 =>
 wG v7_3 (
 (JM Q (.bool true) x1 x0 σ)) (
 E E0 [x0] σ fun v10_29 τ_30 =>
 pu (BA (some (.int .i64)) .eql v10_29 (.int .i64 0)) fun v11_31 =>
 (JM Q v11_31 x1 x0 τ_30)) (
 wB v7_3 fun b_33 =>
 (JM Q (cond b_33 (.bool true) F2) x1 x0 σ))
theorem eI (Q:WK) (x0 x1:Value) (σ:AHeap):X1 P C.E Tryz.f60 (fun _=>none) [x0,x1] σ (RQ Q)=S1 Q x0 x1 σ:=by kernel_rfl
theorem fZ {Q:WK} {x0 x1:Value} {σ:AHeap} (h:S1 Q x0 x1 σ):E OY [x0,x1] σ Q:=MR Tryz.func60 _ (by kernel_rfl) (Eq.mpr (eI Q x0 x1 σ) h)
def MT (Q:WK) (x0:Value) (σ:AHeap):Prop :=
 pu (BJ x0) fun v4_3 =>
 Q v4_3 σ
theorem W9 (Q:WK) (x0:Value) (σ:AHeap):X1 P C.E Tryz.f214 (fun _=>none) [x0] σ (RQ Q)=MT Q x0 σ:=by kernel_rfl
theorem XK {Q:WK} {x0:Value} {σ:AHeap} (h:MT Q x0 σ):E M6 [x0] σ Q:=MR Tryz.func214 _ (by kernel_rfl) (Eq.mpr (W9 Q x0 σ) h)
def LE (Q:WK) (x0 x1 x2:Value) (σ:AHeap):Prop :=
 pu (AG 1 x0 x1) fun v9_4 =>
 pu (AD false 1 v9_4 σ) fun v10_5 =>
 pu (BX v10_5) fun v11_6 =>
 pu (AB 2 v11_6) fun v12_7 =>
 pu (AD false 1 v12_7 σ) fun v13_8 =>
 pu (AG 1 x0 x2) fun v16_10 =>
 pu (AD false 1 v16_10 σ) fun v17_11 =>
 pu (BX v17_11) fun v18_12 =>
 pu (AB 2 v18_12) fun v19_13 =>
 pu (AD false 1 v19_13 σ) fun v20_14 =>
 pu (BA (some (.int .u64)) .lss v13_8 v20_14) fun v21_15 =>
 Q v21_15 σ
theorem VP (Q:WK) (x0 x1 x2:Value) (σ:AHeap):X1 P C.E Tryz.f215 (hl [(0,.ord [(0,[]),(1,[]),(2,[]),(3,[]),(4,[]),(5,[]),(6,[]),(7,[]),(8,[]),(9,[]),(10,[]),(11,[]),(12,[]),(13,[]),(14,[]),(15,[])])]) [x0,x1,x2] σ (RQ Q)=LE Q x0 x1 x2 σ:=by kernel_rfl
theorem V4 {Q:WK} {x0 x1 x2:Value} {σ:AHeap} (h:LE Q x0 x1 x2 σ):E LC [x0,x1,x2] σ Q:=MR Tryz.func215 _ (by kernel_rfl) (Eq.mpr (VP Q x0 x1 x2 σ) h)
def MS (Q:WK) (x0:Value) (σ:AHeap):Prop :=
 pu (BX x0) fun v6_3 =>
 pu (AD false 1 v6_3 σ) fun v7_4 =>
 pu (BJ v7_4) fun v8_5 =>
 pu (BA (some (.int .i64)) .sub v8_5 (.int .i64 1)) fun v9_6 =>
 pu (BX x0) fun v11_9 =>
 pu (AD false 1 v11_9 σ) fun v12_10 =>
 pu (AG 1 v12_10 v9_6) fun v14_12 =>
 pu (AD false 1 v14_12 σ) fun v15_13 =>
 pu (BX x0) fun v18_16 =>
 pu (AD false 1 v18_16 σ) fun v19_17 =>
 pu (AY 1 v19_17 none (some v9_6) none) fun v21_19 =>
 pu (BX x0) fun v22_20 =>
 pu (AN 1 v22_20 v21_19 σ) fun τ_21 =>
 pu (KA P AK v15_13) fun v24_24 =>
 Q v24_24 τ_21
theorem WY (Q:WK) (x0:Value) (σ:AHeap):X1 P C.E Tryz.f222 (fun _=>none) [x0] σ (RQ Q)=MS Q x0 σ:=by kernel_rfl
theorem W8 {Q:WK} {x0:Value} {σ:AHeap} (h:MS Q x0 σ):E MX [x0] σ Q:=MR Tryz.func222 _ (by kernel_rfl) (Eq.mpr (WY Q x0 σ) h)
def KM (Q:WK) (x0 x1:Value) (σ:AHeap):Prop :=
 pu (HH P AK false x1) fun v6_1 =>
 pu (BX x0) fun v9_5 =>
 pu (AD false 1 v9_5 σ) fun v10_6 =>
 pu (BJ v10_6) fun v11_7 =>
 pu (BX v6_1) fun v12_8 =>
 pu (AB 1 v12_8) fun v13_9 =>
 pu (AN 1 v13_9 v11_7 σ) fun τ_10 =>
 pu (BX x0) fun v16_13 =>
 pu (AD false 1 v16_13 τ_10) fun v17_14 =>
 pu (WT AK 1 1 [(.pointer none)] [(0,v6_1)] τ_10) fun r19_16 =>
 pu (BN AK 1 8 v17_14 r19_16.1 r19_16.2) fun r20_17 =>
 pu (BX x0) fun v21_18 =>
 pu (AN 1 v21_18 r20_17.1 r20_17.2) fun τ_19 =>
 Q (.tuple #[]) τ_19
theorem V5 (Q:WK) (x0 x1:Value) (σ:AHeap):X1 P C.E Tryz.f223 (fun _=>none) [x0,x1] σ (RQ Q)=KM Q x0 x1 σ:=by kernel_rfl
theorem VU {Q:WK} {x0 x1:Value} {σ:AHeap} (h:KM Q x0 x1 σ):E KX [x0,x1] σ Q:=MR Tryz.func223 _ (by kernel_rfl) (Eq.mpr (V5 Q x0 x1 σ) h)
def KW (Q:WK) (x0 x1 x2:Value) (σ:AHeap):Prop :=
 pu (AG 1 x0 x2) fun v12_1 =>
 pu (AD false 1 v12_1 σ) fun v13_2 =>
 pu (AG 1 x0 x1) fun v16_3 =>
 pu (AD false 1 v16_3 σ) fun v17_4 =>
 pu (AG 1 x0 x1) fun v18_5 =>
 pu (AN 1 v18_5 v13_2 σ) fun τ_6 =>
 pu (AG 1 x0 x2) fun v19_7 =>
 pu (AN 1 v19_7 v17_4 τ_6) fun τ_8 =>
 pu (AG 1 x0 x1) fun v22_12 =>
 pu (AD false 1 v22_12 τ_8) fun v23_13 =>
 pu (AG 1 x0 x2) fun v26_15 =>
 pu (AD false 1 v26_15 τ_8) fun v27_16 =>
 pu (BX v23_13) fun v30_17 =>
 pu (AB 1 v30_17) fun v31_18 =>
 pu (AN 1 v31_18 x1 τ_8) fun τ_19 =>
 pu (BX v27_16) fun v32_20 =>
 pu (AB 1 v32_20) fun v33_21 =>
 pu (AN 1 v33_21 x2 τ_19) fun τ_22 =>
 Q (.tuple #[]) τ_22
theorem VQ (Q:WK) (x0 x1 x2:Value) (σ:AHeap):X1 P C.E Tryz.f216 (hl [(0,.ord [(0,[]),(1,[]),(2,[]),(3,[]),(4,[]),(5,[]),(6,[]),(7,[]),(8,[]),(9,[]),(10,[]),(11,[]),(12,[]),(13,[]),(14,[]),(15,[])]),(1,.ord [(0,[]),(1,[]),(2,[]),(3,[]),(4,[]),(5,[]),(6,[]),(7,[]),(8,[]),(9,[]),(10,[]),(11,[]),(12,[]),(13,[]),(14,[]),(15,[])])]) [x0,x1,x2] σ (RQ Q)=KW Q x0 x1 x2 σ:=by kernel_rfl
theorem V3 {Q:WK} {x0 x1 x2:Value} {σ:AHeap} (h:KW Q x0 x1 x2 σ):E KR [x0,x1,x2] σ Q:=MR Tryz.func216 _ (by kernel_rfl) (Eq.mpr (VQ Q x0 x1 x2 σ) h)
def I3 (Q:WK) (x0:Value) (σ:AHeap):Prop :=
 pu (BA (some (.pointer ER)) .eql x0 (.pointer none)) fun v4_3 =>
 wC v4_3 (
 Q (.int .i64 0) σ) (
 pu (BX x0) fun v6_8 =>
 pu (AB 0 v6_8) fun v7_9 =>
 pu (AD false 1 v7_9 σ) fun v8_10 =>
 pu (BJ v8_10) fun v9_11 =>
 pu (BA (some (.int .i64)) .quo v9_11 (.int .i64 256)) fun v10_12 =>
 Q v10_12 σ)
theorem SW (Q:WK) (x0:Value) (σ:AHeap):X1 P C.E Tryz.f119 (fun _=>none) [x0] σ (RQ Q)=I3 Q x0 σ:=by kernel_rfl
theorem SX {Q:WK} {x0:Value} {σ:AHeap} (h:I3 Q x0 σ):E E0 [x0] σ Q:=MR Tryz.func119 _ (by kernel_rfl) (Eq.mpr (SW Q x0 σ) h)
def M5 (Q:WK) (x0:Value) (σ:AHeap):Prop :=
 pu (BA (some (.pointer ER)) .eql x0 (.pointer none)) fun v4_3 =>
 wG v4_3 (
 Q (.bool true) σ) (
 pu (BX x0) fun v7_5 =>
 pu (AB 3 v7_5) fun v8_6 =>
 pu (AD false 1 v8_6 σ) fun v9_7 =>
 Q v9_7 σ) (
 wB v4_3 fun b_9 =>
 Q (cond b_9 (.bool true) F2) σ)
theorem XI (Q:WK) (x0:Value) (σ:AHeap):X1 P C.E Tryz.f158 (fun _=>none) [x0] σ (RQ Q)=M5 Q x0 σ:=by kernel_rfl
theorem W5 {Q:WK} {x0:Value} {σ:AHeap} (h:M5 Q x0 σ):E M3 [x0] σ Q:=MR Tryz.func158 _ (by kernel_rfl) (Eq.mpr (XI Q x0 σ) h)
def FQ (N1:Value→Value→Value→Value→Value→AHeap→Prop) (Q:WK) (p33_73 p7_75 p8_76 p31_77 p32_78:Value) (τ_72:AHeap):Prop :=
 pu (BA (some (.int .i64)) .add p33_73 (.int .i64 1)) fun v57_74 =>
 N1 p7_75 p8_76 p31_77 p32_78 v57_74 τ_72
def D4 (N1:Value→Value→Value→Value→Value→AHeap→Prop) (Q:WK) (p47_61 p8_62 p10_63 p7_66 p33_79 p31_80 p32_81:Value) (τ_60:AHeap):Prop :=
 wC p47_61 (
 pu (AB 0 p10_63) fun v49_64 =>
 pu (AD false 1 v49_64 τ_60) fun v50_65 =>
 pu (BA (some (.int .i64)) .sub v50_65 p7_66) fun v52_67 =>
 pu (AY 1 p8_62 (some v52_67) none none) fun v53_68 =>
 pu (AB 1 p10_63) fun v54_69 =>
 pu (AD false 1 v54_69 τ_60) fun v55_70 =>
 pu (KJ 1 v53_68 v55_70 τ_60) fun r56_71 =>
 (FQ N1 Q p33_79 p7_66 p8_62 p31_80 p32_81 r56_71.2)) (
 (FQ N1 Q p33_79 p7_66 p8_62 p31_80 p32_81 τ_60))
def II (N1:Value→Value→Value→Value→Value→AHeap→Prop) (Q:WK) (x7_32 x8_33 x31_34 x32_35 x33_36:Value) (τ_37:AHeap):Prop :=
 pu (BA (some (.int .i64)) .lss x33_36 x32_35) fun v34_38 =>
 wC v34_38 (
 pu (AG 2 x31_34 x33_36) fun v35_44 =>
 pu (AD true 2 v35_44 τ_37) fun v36_45 =>
 BB τ_37 (.cells [(.int .i64 0),(.slice none 0 0)] EQ false) fun b_46 τ_47 =>
 pu (AN 2 (.pointer (some ⟨b_46,0,none⟩)) v36_45 τ_47) fun τ_48 =>
 pu (AB 0 (.pointer (some ⟨b_46,0,none⟩))) fun v37_51 =>
 pu (AD false 1 v37_51 τ_48) fun v38_52 =>
 pu (BA (some (.int .i64)) .geq v38_52 x7_32) fun v40_54 =>
 wG v40_54 (
 pu (AB 0 (.pointer (some ⟨b_46,0,none⟩))) fun v42_55 =>
 pu (AD false 1 v42_55 τ_48) fun v43_56 =>
 pu (BA (some (.int .i64)) .add x7_32 (.int .i64 256)) fun v45_57 =>
 pu (BA (some (.int .i64)) .lss v43_56 v45_57) fun v46_58 =>
 (D4 N1 Q v46_58 x8_33 (.pointer (some ⟨b_46,0,none⟩)) x7_32 x33_36 x31_34 x32_35 τ_48)) (
 (D4 N1 Q (.bool false) x8_33 (.pointer (some ⟨b_46,0,none⟩)) x7_32 x33_36 x31_34 x32_35 τ_48)) (
 wB v40_54 fun b_87 =>
 (D4 N1 Q (cond b_87 F2 (.bool false)) x8_33 (.pointer (some ⟨b_46,0,none⟩)) x7_32 x33_36 x31_34 x32_35 τ_48))) (
 Q (.tuple #[x8_33,(.int .i64 0)]) τ_37)
def KL (Q:WK) (x0 x1:Value) (σ:AHeap):Prop :=
 E HN [x0,x1] σ fun v13_4 τ_5 =>
 pu (BA (some (.int .i64)) .neq v13_4 (.int .i64 0)) fun v15_8 =>
 wC v15_8 (
 Q (.tuple #[(.slice none 0 0),v13_4]) τ_5) (
 pu (BA (some (.int .i64)) .mul x1 (.int .i64 256)) fun v18_14 =>
 pu (BX x0) fun v20_17 =>
 pu (AB 0 v20_17) fun v21_18 =>
 pu (AD false 1 v21_18 τ_5) fun v22_19 =>
 pu (BA (some (.int .i64)) .add v18_14 (.int .i64 256)) fun v25_21 =>
 pu (AY 1 v22_19 (some v18_14) (some v25_21) none) fun v26_22 =>
 E CU [v26_22] τ_5 fun v27_23 τ_24 =>
 pu (BX x0) fun v29_27 =>
 pu (AB 1 v29_27) fun v30_28 =>
 pu (AD false 1 v30_28 τ_24) fun v31_29 =>
 pu (BJ v31_29) fun v32_30 =>
 ∃ I_98:Nat→Value→Value→Value→Value→Value→AHeap→Prop,(∃ m,I_98 m v18_14 v27_23 v31_29 v32_30 (.int .i64 0) τ_24) ∧
 ∀ m (x7_32' x8_33' x31_34' x32_35' x33_36':Value) (σ':AHeap),I_98 m x7_32' x8_33' x31_34' x32_35' x33_36' σ'→(II (fun x7_32' x8_33' x31_34' x32_35' x33_36' σ'=>∃ m',m'<m∧I_98 m' x7_32' x8_33' x31_34' x32_35' x33_36' σ') Q x7_32' x8_33' x31_34' x32_35' x33_36' σ'))
theorem VV (Q:WK) (x0 x1:Value) (σ:AHeap):X1 P C.E Tryz.f125 (hl [(2,.loopj [7,8,31,32,33] [8] [7,8,31,32,33]),(6,.ord [(0,[]),(1,[]),(2,[]),(3,[]),(4,[]),(5,[]),(6,[]),(7,[]),(8,[])])]) [x0,x1] σ (RQ Q)=KL Q x0 x1 σ:=by kernel_rfl
theorem V1 {Q:WK} {x0 x1:Value} {σ:AHeap} (h:KL Q x0 x1 σ):E KY [x0,x1] σ Q:=MR Tryz.func125 _ (by kernel_rfl) (Eq.mpr (VV Q x0 x1 σ) h)
def J2 (Q:WK) (x0 x1 x2:Value) (σ:AHeap):Prop :=
 cond (DB x0) (BB σ (.cells (Value.cells x0).toList LQ false) fun b_1 τ_2 =>
 cond (DB x1) (BB τ_2 (.cells (Value.cells x1).toList DN false) fun b_3 τ_4 =>
 cond (DB x2) (BB τ_4 (.cells (Value.cells x2).toList WX false) fun b_5 τ_6 =>
 pu (AD false 1 (.pointer (some ⟨b_1,0,none⟩)) τ_6) fun v8_9 =>
 pu (AD false 1 (.pointer (some ⟨b_3,0,none⟩)) τ_6) fun v9_11 =>
 E HN [v8_9,v9_11] τ_6 fun v10_12 τ_13 =>
 pu (BA (some (.int .i64)) .neq v10_12 (.int .i64 0)) fun v12_16 =>
 wC v12_16 (
 Q v10_12 τ_13) (
 pu (AD false 1 (.pointer (some ⟨b_5,0,none⟩)) τ_13) fun v14_22 =>
 pu (BJ v14_22) fun v15_23 =>
 pu (BA (some (.int .i64)) .neq v15_23 (.int .i64 256)) fun v16_24 =>
 wC v16_24 (
 Q (.int .i64 1) τ_13) (
 pu (AD false 1 (.pointer (some ⟨b_1,0,none⟩)) τ_13) fun v17_29 =>
 E LH [v17_29,(.func (.func HW) #[] #[(.pointer (some ⟨b_5,0,none⟩)),(.pointer (some ⟨b_1,0,none⟩)),(.pointer (some ⟨b_3,0,none⟩))])] τ_13 fun v19_32 τ_33 =>
 Q v19_32 τ_33))) False) False) False
theorem UC (Q:WK) (x0 x1 x2:Value) (σ:AHeap):X1 P C.E Tryz.f185 (fun _=>none) [x0,x1,x2] σ (RQ Q)=J2 Q x0 x1 x2 σ:=by kernel_rfl
theorem TF {Q:WK} {x0 x1 x2:Value} {σ:AHeap} (h:J2 Q x0 x1 x2 σ):E JV [x0,x1,x2] σ Q:=MR Tryz.func185 _ (by kernel_rfl) (Eq.mpr (UC Q x0 x1 x2 σ) h)
def GD (N1:Value→Value→Value→Value→AHeap→Prop) (Q:WK) (x1_6 x2_7 x3_8 x4_9:Value) (τ_10:AHeap):Prop :=
 pu (BA (some (.int .i64)) .lss x4_9 (.int .i64 256)) fun v8_11 =>
 wC v8_11 (
 pu (AD false 1 x1_6 τ_10) fun v11_16 =>
 pu (AD false 1 x1_6 τ_10) fun v12_17 =>
 pu (BX v12_17) fun v13_18 =>
 pu (AB 1 v13_18) fun v14_19 =>
 pu (AD false 1 v14_19 τ_10) fun v15_20 =>
 pu (AD false 1 x2_7 τ_10) fun v16_22 =>
 pu (BA (some (.int .i64)) .mul v16_22 (.int .i64 256)) fun v17_23 =>
 pu (BA (some (.int .i64)) .add v17_23 x4_9) fun v19_25 =>
 pu (BA (some (.int .i64)) .add x4_9 (.int .i64 64)) fun v23_27 =>
 pu (BA (some (.int .i64)) .add x4_9 (.int .i64 64)) fun v25_28 =>
 pu (AY 1 x3_8 (some x4_9) (some v23_27) (some v25_28)) fun v26_29 =>
 pu (XE [(0,1),(1,1)] [(.int .i64 0),(.slice none 0 0)] [(0,v19_25),(1,v26_29)]) fun v27_30 =>
 pu (WT EQ 2 1 [(.int .i64 0),(.slice none 0 0)] [(0,v27_30)] τ_10) fun r28_31 =>
 pu (AD false 1 x1_6 r28_31.2) fun v11_32 =>
 AQ v11_32 v11_16=true ∧
 pu (AD false 1 x1_6 r28_31.2) fun v12_33 =>
 AQ v12_33 v12_17=true ∧
 pu (AD false 1 v14_19 r28_31.2) fun v15_34 =>
 AQ v15_34 v15_20=true ∧
 pu (BN EQ 2 32 v15_20 r28_31.1 r28_31.2) fun r29_35 =>
 pu (AD false 1 x1_6 r29_35.2) fun v11_36 =>
 AQ v11_36 v11_16=true ∧
 pu (BX v11_16) fun v30_37 =>
 pu (AB 1 v30_37) fun v31_38 =>
 pu (AN 1 v31_38 r29_35.1 r29_35.2) fun τ_39 =>
 pu (BA (some (.int .i64)) .add x4_9 (.int .i64 64)) fun v10_42 =>
 N1 x1_6 x2_7 x3_8 v10_42 τ_39) (
 Q (.tuple #[]) τ_10)
def H7 (Q:WK) (x0 x1 x2:Value) (σ:AHeap):Prop :=
 pu (AD false 1 x0 σ) fun v5_1 =>
 E CU [v5_1] σ fun v6_2 τ_3 =>
 ∃ I_50:Nat→Value→Value→Value→Value→AHeap→Prop,(∃ m,I_50 m x1 x2 v6_2 (.int .i64 0) τ_3) ∧
 ∀ m (x1_6' x2_7' x3_8' x4_9':Value) (σ':AHeap),I_50 m x1_6' x2_7' x3_8' x4_9' σ'→(GD (fun x1_6' x2_7' x3_8' x4_9' σ'=>∃ m',m'<m∧I_50 m' x1_6' x2_7' x3_8' x4_9' σ') Q x1_6' x2_7' x3_8' x4_9' σ')
theorem P6 (Q:WK) (x0 x1 x2:Value) (σ:AHeap):X1 P C.E Tryz.f191 (hl [(1,.loopj [1,2,3,4] [] [1,2,3,4]),(4,.ord [(0,[]),(1,[]),(2,[]),(3,[]),(4,[]),(5,[]),(6,[]),(7,[]),(8,[]),(9,[]),(10,[]),(11,[]),(12,[]),(13,[]),(14,[]),(15,[]),(16,[]),(17,[0,1,4]),(18,[0]),(19,[]),(20,[]),(21,[])])]) [x0,x1,x2] σ (RQ Q)=H7 Q x0 x1 x2 σ:=by kernel_rfl
theorem QS {Q:WK} {x0 x1 x2:Value} {σ:AHeap} (h:H7 Q x0 x1 x2 σ):E HW [x0,x1,x2] σ Q:=MR Tryz.func191 _ (by kernel_rfl) (Eq.mpr (P6 Q x0 x1 x2 σ) h)
def F4 (Q:WK) (p1_31:Value) (τ_30:AHeap):Prop :=
 wF p1_31 fun g_34 a_35 c_36=>E g_34 (a_35++[]++c_36) τ_30 fun v26_32 τ_33 =>
 Q (.int .i64 0) τ_33
def K4 (Q:WK) (x0 x1:Value) (σ:AHeap):Prop :=
 pu (BX x0) fun v6_3 =>
 pu (AB 2 v6_3) fun v7_4 =>
 pu (AD false 1 v7_4 σ) fun v8_5 =>
 pu (BA (some (.int .i64)) .gtr v8_5 (.int .i64 0)) fun v9_6 =>
 wC v9_6 (
 pu (BX x0) fun v11_10 =>
 pu (AB 2 v11_10) fun v12_11 =>
 pu (AD false 1 v12_11 σ) fun v13_12 =>
 pu (BA (some (.int .i64)) .sub v13_12 (.int .i64 1)) fun v14_13 =>
 pu (BX x0) fun v15_14 =>
 pu (AB 2 v15_14) fun v16_15 =>
 pu (AN 1 v16_15 v14_13 σ) fun τ_16 =>
 pu (BX x0) fun v18_19 =>
 pu (AB 2 v18_19) fun v19_20 =>
 pu (AD false 1 v19_20 τ_16) fun v20_21 =>
 pu (BA (some (.int .i64)) .eql v20_21 (.int .i64 0)) fun v21_22 =>
 wC v21_22 (
 pu (BX x0) fun v23_26 =>
 pu (AB 3 v23_26) fun v24_27 =>
 pu (AN 1 v24_27 (.bool true) τ_16) fun τ_28 =>
 Q (.int .i64 9) τ_28) (
 (F4 Q x1 τ_16))) (
 (F4 Q x1 σ))
theorem VX (Q:WK) (x0 x1:Value) (σ:AHeap):X1 P C.E Tryz.f190 (fun _=>none) [x0,x1] σ (RQ Q)=K4 Q x0 x1 σ:=by kernel_rfl
theorem V6 {Q:WK} {x0 x1:Value} {σ:AHeap} (h:K4 Q x0 x1 σ):E LH [x0,x1] σ Q:=MR Tryz.func190 _ (by kernel_rfl) (Eq.mpr (VX Q x0 x1 σ) h)
def DZ (Q:WK) (p21_17:Value) (τ_16:AHeap):Prop :=
 wC p21_17 (
 Q (.int .i64 6) τ_16) (
 Q (.int .i64 0) τ_16)
def FU (Q:WK) (p5_6 p0_7 p1_25:Value) (τ_5:AHeap):Prop :=
 wC p5_6 (
 Q (.int .i64 2) τ_5) (
 pu (BX p0_7) fun v18_8 =>
 pu (AB 3 v18_8) fun v19_9 =>
 pu (AD false 1 v19_9 τ_5) fun v20_10 =>
 wC v20_10 (
 Q (.int .i64 9) τ_5) (
 pu (BA (some (.int .i64)) .lss p1_25 (.int .i64 0)) fun v23_14 =>
 wG v23_14 (
 (DZ Q (.bool true) τ_5)) (
 E E0 [p0_7] τ_5 fun v27_20 τ_21 =>
 pu (BA (some (.int .i64)) .geq p1_25 v27_20) fun v28_22 =>
 (DZ Q v28_22 τ_21)) (
 wB v23_14 fun b_24 =>
 (DZ Q (cond b_24 (.bool true) F2) τ_5))))
def KC (Q:WK) (x0 x1:Value) (σ:AHeap):Prop :=
 pu (BA (some (.pointer ER)) .eql x0 (.pointer none)) fun v7_3 =>
 wG v7_3 (
 (FU Q (.bool true) x0 x1 σ)) (
 pu (BX x0) fun v10_27 =>
 pu (AB 0 v10_27) fun v11_28 =>
 pu (AD false 1 v11_28 σ) fun v12_29 =>
 pu (BJ v12_29) fun v13_30 =>
 pu (BA (some (.int .i64)) .eql v13_30 (.int .i64 0)) fun v14_31 =>
 (FU Q v14_31 x0 x1 σ)) (
 wB v7_3 fun b_33 =>
 (FU Q (cond b_33 (.bool true) F2) x0 x1 σ))
theorem T0 (Q:WK) (x0 x1:Value) (σ:AHeap):X1 P C.E Tryz.f164 (fun _=>none) [x0,x1] σ (RQ Q)=KC Q x0 x1 σ:=by kernel_rfl
theorem UI {Q:WK} {x0 x1:Value} {σ:AHeap} (h:KC Q x0 x1 σ):E HN [x0,x1] σ Q:=MR Tryz.func164 _ (by kernel_rfl) (Eq.mpr (T0 Q x0 x1 σ) h)
def LN (Q:WK) (p9_6 p0_14:Value) (τ_5:AHeap):Prop :=
 wC p9_6 (
 Q (.tuple #[(.pointer none),(.int .i64 1)]) τ_5) (
 pu (BA (some (.int .i64)) .mul p0_14 (.int .i64 256)) fun v11_9 =>
 pu (OU AI 1 [(.int .u8 0)] v11_9 v11_9 τ_5) fun r12_10 =>
 pu (XE [(0,1),(1,1),(2,1),(3,1)] [(.slice none 0 0),(.slice none 0 0),(.int .i64 0),(.bool false)] [(0,r12_10.1)]) fun v13_11 =>
 cond (DB v13_11) (BB r12_10.2 (.cells (Value.cells v13_11).toList ER false) fun b_12 τ_13 =>
 Q (.tuple #[(.pointer (some ⟨b_12,0,none⟩)),(.int .i64 0)]) τ_13) False)
def XH (Q:WK) (x0:Value) (σ:AHeap):Prop :=
 pu (BA (some (.int .i64)) .lss x0 (.int .i64 1)) fun v5_3 =>
 wG v5_3 (
 (LN Q (.bool true) x0 σ)) (
 pu (BA (some (.int .i64)) .gtr x0 (.int .i64 1024)) fun v8_15 =>
 (LN Q v8_15 x0 σ)) (
 wB v5_3 fun b_17 =>
 (LN Q (cond b_17 (.bool true) F2) x0 σ))
theorem iR (Q:WK) (x0:Value) (σ:AHeap):X1 P C.E Tryz.f58 (fun _=>none) [x0] σ (RQ Q)=XH Q x0 σ:=by kernel_rfl
theorem iL {Q:WK} {x0:Value} {σ:AHeap} (h:XH Q x0 σ):E SD [x0] σ Q:=MR Tryz.func58 _ (by kernel_rfl) (Eq.mpr (iR Q x0 σ) h)
def W3 (Q:WK) (x0 x1:Value) (σ:AHeap):Prop :=
 pu (BR P x0 "Len" σ) fun r_3=>E r_3.1 (r_3.2::[]) σ fun v7_1 τ_2 =>
 E GK [x0,x1,v7_1] τ_2 fun v8_4 τ_5 =>
 pu (pJ .not v8_4) fun v9_6 =>
 wC v9_6 (
 E K2 [x0,x1] τ_5 fun v12_11 τ_12 =>
 Q (.tuple #[]) τ_12) (
 Q (.tuple #[]) τ_5)
theorem iC (Q:WK) (x0 x1:Value) (σ:AHeap):X1 P C.E Tryz.f161 (fun _=>none) [x0,x1] σ (RQ Q)=W3 Q x0 x1 σ:=by kernel_rfl
theorem iB {Q:WK} {x0 x1:Value} {σ:AHeap} (h:W3 Q x0 x1 σ):E WV [x0,x1] σ Q:=MR Tryz.func161 _ (by kernel_rfl) (Eq.mpr (iC Q x0 x1 σ) h)
def W4 (Q:WK) (x0:Value) (σ:AHeap):Prop :=
 pu (BR P x0 "Len" σ) fun r_5=>E r_5.1 (r_5.2::[]) σ fun v5_3 τ_4 =>
 pu (BA (some (.int .i64)) .sub v5_3 (.int .i64 1)) fun v6_6 =>
 pu (BR P x0 "Swap" τ_4) fun r_12=>E r_12.1 (r_12.2::[(.int .i64 0),v6_6]) τ_4 fun v9_10 τ_11 =>
 E GK [x0,(.int .i64 0),v6_6] τ_11 fun v12_16 τ_17 =>
 pu (BR P x0 "Pop" τ_17) fun r_22=>E r_22.1 (r_22.2::[]) τ_17 fun v14_20 τ_21 =>
 Q v14_20 τ_21
theorem iM (Q:WK) (x0:Value) (σ:AHeap):X1 P C.E Tryz.f129 (fun _=>none) [x0] σ (RQ Q)=W4 Q x0 σ:=by kernel_rfl
theorem gV {Q:WK} {x0:Value} {σ:AHeap} (h:W4 Q x0 σ):E KT [x0] σ Q:=MR Tryz.func129 _ (by kernel_rfl) (Eq.mpr (iM Q x0 σ) h)
def TA (Q:WK) (x0 x1:Value) (σ:AHeap):Prop :=
 pu (BR P x0 "Push" σ) fun r_3=>E r_3.1 (r_3.2::[x1]) σ fun v6_1 τ_2 =>
 pu (BR P x0 "Len" τ_2) fun r_8=>E r_8.1 (r_8.2::[]) τ_2 fun v9_6 τ_7 =>
 pu (BA (some (.int .i64)) .sub v9_6 (.int .i64 1)) fun v10_9 =>
 E K2 [x0,v10_9] τ_7 fun v11_10 τ_11 =>
 Q (.tuple #[]) τ_11
theorem fA (Q:WK) (x0 x1:Value) (σ:AHeap):X1 P C.E Tryz.f160 (fun _=>none) [x0,x1] σ (RQ Q)=TA Q x0 x1 σ:=by kernel_rfl
theorem gI {Q:WK} {x0 x1:Value} {σ:AHeap} (h:TA Q x0 x1 σ):E I9 [x0,x1] σ Q:=MR Tryz.func160 _ (by kernel_rfl) (Eq.mpr (fA Q x0 x1 σ) h)
def JL (Q:WK) (p7_23 p1_24:Value) (τ_22:AHeap):Prop :=
 pu (BA (some (.int .i64)) .gtr p7_23 p1_24) fun v47_25 =>
 Q v47_25 τ_22
def I2 (N1:Value→Value→Value→Value→AHeap→Prop) (Q:WK) (p0_45 p9_46 p7_47 p1_73 p2_74:Value) (τ_44:AHeap):Prop :=
 pu (BR P p0_45 "Less" τ_44) fun r_50=>E r_50.1 (r_50.2::[p9_46,p7_47]) τ_44 fun v38_48 τ_49 =>
 pu (pJ .not v38_48) fun v39_51 =>
 wC v39_51 (
 (JL Q p7_47 p1_73 τ_49)) (
 pu (BR P p0_45 "Swap" τ_49) fun r_64=>E r_64.1 (r_64.2::[p7_47,p9_46]) τ_49 fun v43_62 τ_63 =>
 N1 p0_45 p1_73 p2_74 p9_46 τ_63)
def H3 (N1:Value→Value→Value→Value→AHeap→Prop) (Q:WK) (p33_42 p10_43 p0_75 p7_76 p1_77 p2_78 p9_79:Value) (τ_41:AHeap):Prop :=
 wC p33_42 (
 (I2 N1 Q p0_75 p10_43 p7_76 p1_77 p2_78 τ_41)) (
 (I2 N1 Q p0_75 p9_79 p7_76 p1_77 p2_78 τ_41))
def H2 (N1:Value→Value→Value→Value→AHeap→Prop) (Q:WK) (p21_17 p0_18 p1_19 p2_20 p7_21 p8_94:Value) (τ_16:AHeap):Prop :=
 wC p21_17 (
 (JL Q p7_21 p1_19 τ_16)) (
 pu (BA (some (.int .i64)) .add p8_94 (.int .i64 1)) fun v24_30 =>
 pu (BA (some (.int .i64)) .lss v24_30 p2_20) fun v27_34 =>
 wG v27_34 (
 pu (BR P p0_18 "Less" τ_16) fun r_39=>E r_39.1 (r_39.2::[v24_30,p8_94]) τ_16 fun v32_37 τ_38 =>
 (H3 N1 Q v32_37 v24_30 p0_18 p7_21 p1_19 p2_20 p8_94 τ_38)) (
 (H3 N1 Q (.bool false) v24_30 p0_18 p7_21 p1_19 p2_20 p8_94 τ_16)) (
 wB v27_34 fun b_84 =>
 (H3 N1 Q (cond b_84 F2 (.bool false)) v24_30 p0_18 p7_21 p1_19 p2_20 p8_94 τ_16)))
def N7 (N1:Value→Value→Value→Value→AHeap→Prop) (Q:WK) (x0_4 x1_5 x2_6 x7_7:Value) (τ_8:AHeap):Prop :=
 pu (BA (some (.int .i64)) .mul (.int .i64 2) x7_7) fun v13_9 =>
 pu (BA (some (.int .i64)) .add v13_9 (.int .i64 1)) fun v14_10 =>
 pu (BA (some (.int .i64)) .geq v14_10 x2_6) fun v17_14 =>
 wG v17_14 (
 (H2 N1 Q (.bool true) x0_4 x1_5 x2_6 x7_7 v14_10 τ_8)) (
 pu (BA (some (.int .i64)) .lss v14_10 (.int .i64 0)) fun v20_98 =>
 (H2 N1 Q v20_98 x0_4 x1_5 x2_6 x7_7 v14_10 τ_8)) (
 wB v17_14 fun b_100 =>
 (H2 N1 Q (cond b_100 (.bool true) F2) x0_4 x1_5 x2_6 x7_7 v14_10 τ_8))
def UQ (Q:WK) (x0 x1 x2:Value) (σ:AHeap):Prop :=
 ∃ I_101:Nat→Value→Value→Value→Value→AHeap→Prop,(∃ m,I_101 m x0 x1 x2 x1 σ) ∧
 ∀ m (x0_4' x1_5' x2_6' x7_7':Value) (σ':AHeap),I_101 m x0_4' x1_5' x2_6' x7_7' σ'→(N7 (fun x0_4' x1_5' x2_6' x7_7' σ'=>∃ m',m'<m∧I_101 m' x0_4' x1_5' x2_6' x7_7' σ') Q x0_4' x1_5' x2_6' x7_7' σ')
theorem eZ (Q:WK) (x0 x1 x2:Value) (σ:AHeap):X1 P C.E Tryz.f165 (hl [(1,.loopj [0,1,2,7] [1,7] [0,1,2,7])]) [x0,x1,x2] σ (RQ Q)=UQ Q x0 x1 x2 σ:=by kernel_rfl
theorem dM {Q:WK} {x0 x1 x2:Value} {σ:AHeap} (h:UQ Q x0 x1 x2 σ):E GK [x0,x1,x2] σ Q:=MR Tryz.func165 _ (by kernel_rfl) (Eq.mpr (eZ Q x0 x1 x2 σ) h)
def J8 (N1:Value→Value→AHeap→Prop) (Q:WK) (p17_12 p0_13 p1_14 p4_25:Value) (τ_11:AHeap):Prop :=
 wC p17_12 (
 Q (.tuple #[]) τ_11) (
 pu (BR P p0_13 "Swap" τ_11) fun r_21=>E r_21.1 (r_21.2::[p4_25,p1_14]) τ_11 fun v21_19 τ_20 =>
 N1 p0_13 p4_25 τ_20)
def RT (N1:Value→Value→AHeap→Prop) (Q:WK) (x0_1 x1_2:Value) (τ_3:AHeap):Prop :=
 pu (BA (some (.int .i64)) .sub x1_2 (.int .i64 1)) fun v6_4 =>
 pu (BA (some (.int .i64)) .quo v6_4 (.int .i64 2)) fun v7_5 =>
 pu (BA (some (.int .i64)) .eql v7_5 x1_2) fun v10_9 =>
 wG v10_9 (
 (J8 N1 Q (.bool true) x0_1 x1_2 v7_5 τ_3)) (
 pu (BR P x0_1 "Less" τ_3) fun r_29=>E r_29.1 (r_29.2::[x1_2,v7_5]) τ_3 fun v15_27 τ_28 =>
 pu (pJ .not v15_27) fun v16_30 =>
 (J8 N1 Q v16_30 x0_1 x1_2 v7_5 τ_28)) (
 wB v10_9 fun b_32 =>
 (J8 N1 Q (cond b_32 (.bool true) F2) x0_1 x1_2 v7_5 τ_3))
def aY (Q:WK) (x0 x1:Value) (σ:AHeap):Prop :=
 ∃ I_33:Nat→Value→Value→AHeap→Prop,(∃ m,I_33 m x0 x1 σ) ∧
 ∀ m (x0_1' x1_2':Value) (σ':AHeap),I_33 m x0_1' x1_2' σ'→(RT (fun x0_1' x1_2' σ'=>∃ m',m'<m∧I_33 m' x0_1' x1_2' σ') Q x0_1' x1_2' σ')
theorem lR (Q:WK) (x0 x1:Value) (σ:AHeap):X1 P C.E Tryz.f186 (hl [(1,.loopj [0,1] [] [0,1])]) [x0,x1] σ (RQ Q)=aY Q x0 x1 σ:=by kernel_rfl
theorem l6 {Q:WK} {x0 x1:Value} {σ:AHeap} (h:aY Q x0 x1 σ):E K2 [x0,x1] σ Q:=MR Tryz.func186 _ (by kernel_rfl) (Eq.mpr (lR Q x0 x1 σ) h)
end Go.Ax.O
set_option maxRecDepth 100000
namespace Go.Ax.O
open Go.Proofs
variable {l:List AJ} {σ:AHeap} {Q:WK}
theorem L7 {a:Option Addr} {n c:Nat} {bs:List UInt8} (h:H l σ) (hs:DC 1 (.slice a n c) σ=some (n,bv bs)) (hn:n≤1099511627776)
 (hk:∀ v σ',H (l++[A5 AI 1 v n (bv bs)]) σ'→Q v σ'):E CU [.slice a n c] σ Q:=by
 apply Z0; unfold PQ
 cases a with
 | none =>
   simp
   have:n=0∧bs=[]:=by
    simp only [DC] at hs
    split at hs
    ·rename_i e; subst e
     simp only [Option.some.injEq,Prod.mk.injEq] at hs
     exact ⟨rfl,by have:=congrArg List.length hs.2; simpa using this.symm⟩
    ·cases hs
   obtain ⟨rfl,rfl⟩:=this
   exact hk _ _ (h.own_nil AI 1)
 | some a =>
   simp
   refine DS (n:=0) (xs:=[]) (h.own_zb AI 1) l.length (by simp) hs (by omega) (by omega) (qI _) ?_
   intro v' σ' h'
   simp at h'
   exact hk _ _ h'
end Go.Ax.O
namespace Go.Ax
def put (l:List UInt8) (a:Nat) (x:List UInt8):List UInt8:=l.take a++x++l.drop (a+x.length)
theorem RS (l:List UInt8) (a:Nat) (x:List UInt8) (h:a+x.length≤l.length):(put l a x).length=l.length:=by
 simp [put]; omega
theorem rL (l x:List UInt8) (a:Nat):splice (bv l) a (bv x)=bv (put l a x):=by simp [splice,put]
abbrev GE:=Nat×List UInt8
structure DM where
 last:List UInt8
 fly:List GE
 fuse:Nat
 off:Bool
structure ABl (n:Nat) (f:GE):Prop where
 len:f.2.length=64
 fit:f.1+64≤256*n
 al:f.1 % 64=0
structure DM.Ok (D:DM) (n:Nat):Prop where
 lo:1≤n
 hi:n≤1024
 len:D.last.length=256*n
 fly:∀ f∈D.fly,ABl n f
def QM (from':Nat) (out:List UInt8) (fs:List GE):List UInt8:=fs.foldl (fun out f=>if from'≤f.1∧f.1<from'+256 then put out (f.1 - from') f.2 else out) out
def BM (at':Nat) (b:List UInt8):List GE:=[(at'*256,(b.drop 0).take 64),(at'*256+64,(b.drop 64).take 64),(at'*256+128,(b.drop 128).take 64),(at'*256+192,(b.drop 192).take 64)]
namespace DM
def new (n:Nat):DM:=⟨List.replicate (256*n) 0,[],0,false⟩
def ready (D:DM) (at':Int):Int:=if D.off then 9 else if at'<0∨(D.last.length / 256:Nat)≤at' then 6 else 0
def burn (D:DM):DM×Bool:=if D.fuse=0 then (D,true) else if D.fuse=1 then ({ D with fuse:=0,off:=true },false) else ({ D with fuse:=D.fuse - 1 },true)
def fling (D:DM) (at':Nat) (b:List UInt8):DM:={ D with fly:=D.fly++BM at' b }
def write (D:DM) (at':Int) (b:List UInt8):DM×Int :=
 if D.ready at'≠0 then (D,D.ready at') else if b.length≠256 then (D,1) else if D.burn.2 then (D.burn.1.fling at'.toNat b,0) else (D.burn.1,9)
def block (D:DM) (at':Nat):List UInt8:=QM (at'*256) ((D.last.drop (at'*256)).take 256) D.fly
end DM
theorem aD (a:Nat) (l:List UInt8) (fs:List GE) (k:Nat) (f:GE) (h:fs[k]?=some f) :
 QM a l (fs.take (k+1))=if a≤f.1∧f.1<a+256 then put (QM a l (fs.take k)) (f.1 - a) f.2 else QM a l (fs.take k):=by
 rw [List.take_add_one,h]; simp [QM]
theorem TL (a:Nat):∀ (fs:List GE) (l:List UInt8),l.length=256→(∀ f∈fs,f.2.length=64)→(∀ f∈fs,a≤f.1→f.1<a+256→f.1+64≤a+256)→(QM a l fs).length=256
 | [],l,h,_,_=>h
 | f::fs,l,h,hf,hg=>by
   have h1:=hf f (by simp)
   have h2:=hg f (by simp)
   have ih:=TL a fs (if a≤f.1∧f.1<a+256 then put l (f.1 - a) f.2 else l) (by
    split
    ·rename_i hc
     have:=h2 hc.1 hc.2
     rw [RS _ _ _ (by omega),h]
    ·exact h) (fun g hh=>hf g (by simp [hh])) (fun g hh=>hg g (by simp [hh]))
   exact ih
end Go.Ax
set_option maxRecDepth 100000
namespace Go.Ax.O
open Go.Proofs
variable {l:List AJ} {σ:AHeap} {Q:WK}
def vP:List GE→List Value→List Value
 | f::fs,s::ss=>.int .i64 (f.1:Nat)::s::vP fs ss
 | _,_=>[]
def TB:List GE→List Value→AJ
 | f::fs,s::ss=>sep (gO s f.2) (TB fs ss)
 | _,_=>emp
theorem sH:∀ (fs:List GE) (ss:List Value) (k:Nat) (f:GE) (s:Value),fs[k]?=some f→ss[k]?=some s→((vP fs ss).drop (k*2)).take 2=[.int .i64 (f.1:Nat),s]
 | [],_,k,f,s,h,_=>by simp at h
 | _::_,[],k,f,s,_,h=>by simp at h
 | f::fs,s::ss,0,f',s',h,h'=>by simp at h h'; subst h; subst h'; simp [vP]
 | f::fs,s::ss,k+1,f',s',h,h'=>by
   simp at h h'
   have:=sH fs ss k f' s' h h'
   simp only [vP]
   rw [show (k+1)*2=k*2+1+1 by omega,List.drop_succ_cons,List.drop_succ_cons]
   exact this
theorem dW:∀ (fs:List GE) (ss:List Value) (gs:List GE) (ts:List Value),fs.length=ss.length→vP (fs++gs) (ss++ts)=vP fs ss++vP gs ts
 | [],[],gs,ts,_=>rfl
 | [],_::_,gs,ts,h=>by simp at h
 | _::_,[],gs,ts,h=>by simp at h
 | f::fs,s::ss,gs,ts,h=>by simp [vP,dW fs ss gs ts (by simpa using h)]
theorem bL:∀ (fs:List GE) (ss:List Value) (gs:List GE) (ts:List Value),fs.length=ss.length→TB (fs++gs) (ss++ts)=sep (TB fs ss) (TB gs ts)
 | [],[],gs,ts,_=>by simp [TB,LS]
 | [],_::_,gs,ts,h=>by simp at h
 | _::_,[],gs,ts,h=>by simp at h
 | f::fs,s::ss,gs,ts,h=>by simp [TB,bL fs ss gs ts (by simpa using h),D7]
theorem ADW:∀ {fs:List GE} {ss:List Value} {l:List AJ} {σ:AHeap} {k:Nat} {f:GE} {s:Value},H (TB fs ss::l) σ→fs[k]?=some f→ss[k]?=some s→H (gO s f.2::l) σ
 | [],_,l,σ,k,f,s,h,hf,hs=>by simp at hf
 | _::_,[],l,σ,k,f,s,h,hf,hs=>by simp at hs
 | f::fs,s::ss,l,σ,0,f',s',h,hf,hs=>by
   simp at hf hs; subst hf; subst hs
   simp only [TB,BE] at h
   exact h.second
 | f::fs,s::ss,l,σ,k+1,f',s',h,hf,hs=>by
   simp at hf hs
   simp only [TB,BE] at h
   exact ADW h.tail hf hs
theorem w9 {fs:List GE} {ss:List Value} (h:H l σ) (i:Nat) (hi:l[i]?=some (TB fs ss)) {k:Nat} {f:GE} {s:Value} (hf:fs[k]?=some f) (hs:ss[k]?=some s) :
 ∃ b o cap c,s=.slice (some ⟨b,o,none⟩) f.2.length cap∧GP 1 f.2.length cap∧σ.row b=some c∧(c.drop o).take f.2.length=bv f.2∧o+f.2.length≤c.length:=(ADW (h.front i hi) hf hs).rob0
def nV (b:Nat) (lv fv:Value) (ss:List Value) (D:DM):List AJ :=
 [pt b (.cells [lv,fv,.int .i64 D.fuse,.bool D.off] ER false),A5 AI 1 lv D.last.length (bv D.last),A5 EQ 2 fv D.fly.length (vP D.fly ss),TB D.fly ss]
def Disk (v:Value) (D:DM):AJ:=ex fun p:Nat×Value×Value×List Value =>
 sep (IU (v=.pointer (some ⟨p.1,0,none⟩)∧p.2.2.2.length=D.fly.length)) (AW (nV p.1 p.2.1 p.2.2.1 p.2.2.2 D))
theorem MK {v:Value} {D:DM} {m:List AJ} (h:H (Disk v D::m) σ):∃ b lv fv ss,v=.pointer (some ⟨b,0,none⟩)∧ss.length=D.fly.length∧H (nV b lv fv ss D++m) σ:=by
 obtain ⟨p,h⟩:=KN.1 h
 rw [BE] at h
 obtain ⟨⟨h1,h2⟩,h⟩:=BZ.1 h
 exact ⟨_,_,_,_,h1,h2,BC.1 h⟩
theorem YD {D:DM} {b:Nat} (lv fv:Value) (ss:List Value) {m:List AJ} (hs:ss.length=D.fly.length) (h:H (nV b lv fv ss D++m) σ):H (Disk (.pointer (some ⟨b,0,none⟩)) D::m) σ :=
 KN.2 ⟨(b,lv,fv,ss),by rw [BE]; exact BZ.2 ⟨⟨rfl,hs⟩,BC.2 h⟩⟩
theorem ABD {A:AJ} {m:List AJ} (i:Nat) (hi:l[i]?=some A) (h:H (A::AW (l.set i emp)::m) σ):H (l++m) σ:=by
 rw [y7]
 have e:AW l=sep A (AW (l.set i emp)):=by
  conv=>lhs; rw [K6 l i]
  simp [List.getD,hi]
 rw [e,BE]; exact h
theorem kE (n:Nat) (b:UInt8):List.replicate n (yD b)=bv (List.replicate n b):=by simp [bv]
theorem ABE {n:Int} (h:H l σ) (hn:1≤n∧n≤1024) (hk:∀ v σ',H (l++[Disk v (.new n.toNat)]) σ'→Q (.tuple #[v,.int .i64 0]) σ'):E SD [.int .i64 n] σ Q:=by
 apply iL; unfold XH
 have h1:¬ n<1:=by omega
 have h2:¬ 1024<n:=by omega
 simp [h1]
 unfold LN
 simp [h2]
 rw [wrap_i64 (by omega)]
 refine RR (ADX.2 h) (by omega) ?_
 intro b σ1 h3
 simp [splice]
 refine S7 h3 ?_
 intro b2 σ2 h4
 refine hk _ _ (y7.2 ?_)
 have e1:(n*256).toNat=256*n.toNat:=by omega
 rw [e1,QO] at h4
 have h5:=((h4.to_own 1 rfl (n:=256*n.toNat) (z:=1) (by simp) (by unfold AX; omega)).own_nil EQ 2).emp_end
 have h6:=h5.pick [2,1,3,4,0] (by decide)
 refine (YD (D:=.new n.toNat) (.slice (some ⟨b,0,none⟩) (256*n.toNat) (256*n.toNat)) (.slice none 0 0) [] rfl ?_:H [_,_] _).pick [1,0] (by decide)
 rw [show (Value.int .u8 0)=yD 0 from rfl,kE] at h6
 simpa [bK,nV,DM.new,TB,vP] using h6
theorem UW {v:Value} {D:DM} (h:H l σ) (i:Nat) (hi:l[i]?=some (Disk v D)) (hD:D.last.length<1099511627776) (hk:Q (.int .i64 (D.last.length / 256:Nat)) σ):E E0 [v] σ Q:=by
 obtain ⟨b,lv,fv,ss,rfl,hs,h⟩:=MK (h.out i hi)
 apply SX; unfold I3
 have r0:=BK (n:=1) (o:=0) (h.row 0 rfl)
 obtain ⟨_,_,a,c,rfl⟩:=h.own_src 1 rfl
 simp [r0]
 rw [wrap_i64 (by omega)]
 simpa using hk
theorem yK {v:Value} {D:DM} (h:H l σ) (i:Nat) (hi:l[i]?=some (Disk v D)) (hk:Q (.bool D.off) σ):E M3 [v] σ Q:=by
 obtain ⟨b,lv,fv,ss,rfl,hs,h⟩:=MK (h.out i hi)
 apply W5; unfold M5
 have r3:=BK (n:=1) (o:=3) (h.row 0 rfl)
 simp [r3]
 exact hk
theorem nL {v:Value} {D:DM} {n:Nat} {a:Int} (h:H l σ) (i:Nat) (hi:l[i]?=some (Disk v D)) (hD:D.Ok n) (hk:Q (.int .i64 (D.ready a)) σ):E HN [v,.int .i64 a] σ Q:=by
 have h0:=h
 have hv0:=hi
 obtain ⟨b,lv,fv,ss,rfl,hs,h⟩:=MK (h.out i hi)
 have hlen:=hD.len
 have hn:=hD.lo
 have hn2:=hD.hi
 apply UI; unfold KC
 have r0:=BK (n:=1) (o:=0) (h.row 0 rfl)
 have r3:=BK (n:=1) (o:=3) (h.row 0 rfl)
 obtain ⟨_,_,x,c,rfl⟩:=h.own_src 1 rfl
 have hz:¬ D.last.length=0:=by omega
 simp [r0]
 unfold FU
 have hz2:D.last≠[]:=fun e=>by rw [e] at hz; simp at hz
 simp [hz2,r3]
 unfold DM.ready at hk
 cases hoff:D.off with
 | true=>simpa [hoff] using hk
 | false =>
   simp only [hoff,Bool.false_eq_true,if_false] at hk
   simp
   refine kU (fun h1=>?_) fun h1=>?_
   ·unfold DZ; simpa [h1] using hk
   ·refine UW h0 i hv0 (by omega) ?_
    unfold DZ
    simp
    refine UT (fun h2=>?_) fun h2=>?_
    ·rw [if_pos (.inr (by omega))] at hk; exact hk
    ·rw [if_neg (by omega)] at hk; exact hk
theorem AAy {v:Value} {D:DM} {g:FuncId} {a c:Array Value} (h:H l σ) (i:Nat) (hi:l[i]?=some (Disk v D)) (hf:D.fuse<9223372036854775808)
 (hw:D.burn.2=true→∀ σ',H (l.set i (Disk v D.burn.1)) σ'→E g (a.toList++[]++c.toList) σ' fun _ τ=>Q (.int .i64 0) τ)
 (ho:D.burn.2=false→∀ σ',H (l.set i (Disk v D.burn.1)) σ'→Q (.int .i64 9) σ'):E LH [v,.func (.func g) a c] σ Q:=by
 have h0:=h
 obtain ⟨b,lv,fv,ss,rfl,hs,h⟩:=MK (h.out i hi)
 apply V6; unfold K4
 have r2:=BK (n:=1) (o:=2) (h.row 0 rfl)
 simp [r2]
 refine UT (fun h1=>?_) fun h1=>?_
 ·rw [wrap_i64 (by omega)]
  refine E9 h 0 rfl rfl (by simp) ?_
  intro σ1 h2
  have r2:=BK (n:=1) (o:=2) (h2.row 0 rfl)
  simp [r2]
  refine UT (fun h3=>?_) fun h3=>?_
  ·refine E9 h2 0 rfl rfl (by simp) ?_
   intro σ2 h4
   have h5:D.fuse=1:=by omega
   have hb:D.burn=({ D with fuse:=0,off:=true },false):=by simp [DM.burn,h5]
   refine ho (by rw [hb]) _ (H.in' i hi ?_)
   rw [hb]
   refine YD lv fv ss hs ?_
   have e:(D.fuse:Int) - 1=0:=by omega
   rw [e] at h4
   exact h4
  ·unfold F4
   simp
   have hb:D.burn=({ D with fuse:=D.fuse - 1 },true):=by
    unfold DM.burn
    rw [if_neg (by omega),if_neg (by omega)]
   have:=hw (by rw [hb]) σ1 (by
    refine H.in' i hi ?_
    rw [hb]
    refine YD lv fv ss hs ?_
    have e:(D.fuse:Int) - 1=((D.fuse - 1:Nat):Int):=by omega
    rw [e] at h2
    exact h2)
   simpa using this
 ·unfold F4
  simp
  have hb:D.burn=(D,true):=by
   unfold DM.burn
   rw [if_pos (by omega)]
  have:=hw (by rw [hb]) σ (by
   have:l.set i (Disk (.pointer (some ⟨b,0,none⟩)) D)=l:=by
    apply List.ext_getElem?
    intro j
    rw [List.getElem?_set]
    split
    ·rename_i e; subst e; split
     ·exact hi.symm
     ·rename_i hh; exact absurd (List.getElem?_eq_some_iff.1 hi).1 hh
    ·rfl
   rw [hb]; simp only [this]; exact h0)
  simpa using this
end Go.Ax.O
set_option maxRecDepth 100000
namespace Go.Ax.O
open Go.Proofs
variable {l:List AJ} {σ:AHeap} {Q:WK}
theorem yG {v:Value} {D:DM} {n:Nat} {a:Int} (h:H l σ) (i:Nat) (hi:l[i]?=some (Disk v D)) (hD:D.Ok n) (hm:D.fly.length<1099511627776) (hr:D.ready a=0)
 (hk:∀ w σ',H (l++[A5 AI 1 w 256 (bv (D.block a.toNat))]) σ'→Q (.tuple #[w,.int .i64 0]) σ'):E KY [v,.int .i64 a] σ Q:=by
 apply V1; unfold KL
 refine nL h i hi hD ?_
 simp [hr]
 have hlen:=hD.len
 have hn:=hD.lo
 have hn2:=hD.hi
 have ha:0≤a∧a<n:=by
  unfold DM.ready at hr
  split at hr
  ·simp at hr
  ·split at hr
   ·simp at hr
   ·rename_i hx
    have:D.last.length / 256=n:=by omega
    omega
 have h0:=h
 obtain ⟨b,lv,fv,ss,rfl,hs,h⟩:=MK (h.out i hi)
 have r0:=BK (n:=1) (o:=0) (h.row 0 rfl)
 have r1:=BK (n:=1) (o:=1) (h.row 0 rfl)
 obtain ⟨_,_,x,c,rfl⟩:=h.own_src 2 rfl
 obtain ⟨lb,lc,rfl,hcap,rest,hrow⟩:=h.own_form 1 rfl (by omega)
 obtain ⟨A,rfl⟩:∃ A:Nat,a=A:=⟨a.toNat,by omega⟩
 simp at hk
 rw [wrap_i64 (by omega),wrap_i64 (by omega)]
 obtain ⟨dc,hsl,_⟩:=uF (z:=1) (b:=lb) (o:=0) (lo:=(A:Int)*256) (hi:=(A:Int)*256+256) (k:=.i64) (k':=.i64) hcap (by omega)
 have e1:((A:Int)*256+256).toNat - ((A:Int)*256).toNat=256:=by omega
 have e2:((A:Int)*256).toNat=A*256:=by omega
 rw [e1,e2] at hsl
 simp [r0,hsl]
 refine L7 (bs:=(D.last.drop (A*256)).take 256) h (n:=256) ?_ (by omega) ?_
 ·rw [E3 hrow (by simp; omega),List.drop_append_of_le_length (by simp; omega),List.take_append_of_le_length (by simp; omega)]; simp
 intro w σ1 h1
 have r1:=BK (n:=1) (o:=1) (h1.row 0 rfl)
 simp [r1]
 let J:Nat→List AJ:=fun k=>pt b (.cells [.slice (some ⟨lb,0,none⟩) D.last.length lc,.slice x D.fly.length c,.int .i64 D.fuse,.bool D.off] ER false)::A5 AI 1 (.slice (some ⟨lb,0,none⟩) D.last.length lc) D.last.length (bv D.last)::A5 EQ 2 (.slice x D.fly.length c) D.fly.length (vP D.fly ss)::TB D.fly ss::[AW (l.set i emp),A5 AI 1 w 256 (bv (QM (A*256) ((D.last.drop (A*256)).take 256) (D.fly.take k)))]
 obtain ⟨wb,wc,rfl,hwcap,_⟩:=h1.own_form 5 rfl (by omega)
 refine ⟨fun m x0 x1 x7 x8 x9 τ=>∃ k:Nat,m=D.fly.length - k∧k≤D.fly.length∧x0=.int .i64 ((A:Int)*256)∧x1=.slice (some ⟨wb,0,none⟩) 256 wc∧x7=.slice x D.fly.length c∧x8=.int .i64 D.fly.length∧x9=.int .i64 k∧H (J k) τ,⟨_,0,rfl,by omega,rfl,rfl,rfl,rfl,rfl,?_⟩,?_⟩
 ·exact h1
 ·rintro m _ _ _ _ _ τ ⟨k,rfl,hkl,rfl,rfl,rfl,rfl,rfl,h⟩
  suffices hb:∀ N:Value→Value→Value→Value→Value→AHeap→Prop,(∀ τ',k<D.fly.length→H (J (k+1)) τ' →
   N (.int .i64 ((A:Int)*256)) (.slice (some ⟨wb,0,none⟩) 256 wc) (.slice x D.fly.length c) (.int .i64 D.fly.length) (.int .i64 (k+1:Nat)) τ')→II N Q (.int .i64 ((A:Int)*256)) (.slice (some ⟨wb,0,none⟩) 256 wc) (.slice x D.fly.length c) (.int .i64 D.fly.length) (.int .i64 k) τ from
   hb _ fun τ' hlt h'=>⟨_,by omega,k+1,rfl,by omega,rfl,rfl,rfl,rfl,rfl,h'⟩
  intro N hN
  unfold II
  simp
  have hov:(QM (A*256) ((D.last.drop (A*256)).take 256) (D.fly.take k)).length=256:=by
   refine TL _ _ _ (by simp; omega) (fun f hf=>(hD.fly f (List.mem_of_mem_take hf)).len) fun f hf g1 g2=>?_
   have:=(hD.fly f (List.mem_of_mem_take hf)).al
   omega
  refine UT (fun h1=>?_) fun h1=>?_
  ·obtain ⟨b2,e1,e2,e3⟩:=h.own_elem 2 rfl (k:=k) h1
   have hf:=List.getElem?_eq_getElem h1
   have hsk:=List.getElem?_eq_getElem (show k<ss.length by omega)
   have hfo:=hD.fly _ (List.getElem_mem h1)
   rw [sH _ _ k _ _ hf hsk] at e2
   have hfit:=hfo.fit
   have hl64:=hfo.len
   have hal:=hfo.al
   simp [e1,e2]
   refine S7 h ?_
   intro tb σ1 h2
   obtain ⟨fb,fo,fcap,fc,hse,hfcap,hfr,hfd,hfl⟩:=w9 h2 3 rfl hf hsk
   refine XM h2 6 rfl (by simp) (by omega) (by simp [hse]) (by simp) ?_
   intro σ2 h3
   obtain ⟨fb,fo,fcap,fc,hse,hfcap,hfr,hfd,hfl⟩:=w9 h3 3 rfl hf hsk
   have t0:=BK (n:=1) (o:=0) (h3.row 6 rfl)
   have t1:=BK (n:=1) (o:=1) (h3.row 6 rfl)
   have hfin:∀ τ,H (J (k+1)) τ→FQ N Q (.int .i64 k) (.int .i64 ((A:Int)*256)) (.slice (some ⟨wb,0,none⟩) 256 wc) (.slice x D.fly.length c) (.int .i64 D.fly.length) τ:=by
    intro τ hτ
    unfold FQ
    simp
    rw [wrap_i64 (by omega)]
    exact hN _ h1 hτ
   simp [t0,splice]
   refine kU (fun g1=>?_) fun g1=>?_
   ·try simp [t0,splice]
    rw [wrap_i64 (by omega)]
    unfold D4
    simp
    refine UT (fun g2=>?_) fun g2=>?_
    ·have g1':A*256≤D.fly[k].1:=by omega
     obtain ⟨dc,hsl,_⟩:=NY (z:=1) (b:=wb) (o:=0) (lo:=((D.fly[k].1 - A*256:Nat):Int)) (k:=.i64) hwcap (by omega)
     have hw:IntKind.i64.wrap ((D.fly[k].1:Int) - (A:Int)*256)=((D.fly[k].1 - A*256:Nat):Int):=by rw [wrap_i64 (by omega)]; omega
     simp only [Int.toNat_natCast] at hsl
     simp [t0,t1,splice,hw,hsl,hse]
     have hmin:Nat.min D.fly[k].2.length (256 - (D.fly[k].1 - A*256))=64:=by rw [hl64]; exact Nat.min_eq_left (by omega)
     refine m5 (ys:=bv D.fly[k].2) h3 5 rfl (by omega) (by rw [hmin,sY (n:=64) hfr hfd hfl (by omega),List.take_of_length_le (by omega)]) (qI _) (by simp; omega) ?_
     intro σ3 h4
     refine hfin _ ?_
     simp only [J]
     rw [aD _ _ _ _ _ hf,if_pos (by omega),← rL]
     exact h4.pick [0,1,2,3,4,5] (by decide)
    ·refine hfin _ ?_
     simp only [J]
     rw [aD _ _ _ _ _ hf,if_neg (by omega)]
     exact h3.pick [0,1,2,3,4,5] (by decide)
   ·try simp
    unfold D4
    simp
    refine hfin _ ?_
    simp only [J]
    rw [aD _ _ _ _ _ hf,if_neg (by omega)]
    exact h3.pick [0,1,2,3,4,5] (by decide)
  ·have:k=D.fly.length:=by omega
   subst this
   refine hk _ _ (ABD i hi (YD (.slice (some ⟨lb,0,none⟩) D.last.length lc) (.slice x D.fly.length c) ss hs ?_))
   simp only [J,List.take_length] at h
   exact h
theorem RN {i:Nat} {e z n:Nat} {v:Value} {xs:List Value} (h:H l σ) (hi:l[i]?=some (A5 e z v n xs)):one v=true:=by
 obtain ⟨_,_,a,c,rfl⟩:=h.own_src i hi; rfl
theorem vC (a:Nat) (bs:List UInt8) (k:Nat) (h:k<4):(BM a bs)[k]?=some (a*256+64*k,(bs.drop (64*k)).take 64):=by
 have:k=0∨k=1∨k=2∨k=3:=by omega
 rcases this with rfl | rfl | rfl | rfl<;>rfl
theorem qK (a:Nat) (bs:List UInt8) (k:Nat) (h:k<4):(BM a bs).take (k+1)=(BM a bs).take k++[(a*256+64*k,(bs.drop (64*k)).take 64)]:=by
 rw [List.take_add_one,vC a bs k h]; rfl
theorem zG {v bv':Value} {D:DM} {n a:Nat} {bs:List UInt8} {x0 x1 x2:Nat} (h:H l σ) (i:Nat) (hi:l[i]?=some (Disk v D)) (hD:D.Ok n) (hm:D.fly.length<1099511627776)
 (i0:Nat) (h0:l[i0]?=some (pt x0 (.cells [bv'] WX false))) (i1:Nat) (h1:l[i1]?=some (pt x1 (.cells [v] LQ false))) (i2:Nat) (h2:l[i2]?=some (pt x2 (.cells [.int .i64 (a:Nat)] DN false)))
 (n0:i0≠i) (n1:i1≠i) (n2:i2≠i) (hb:Rd σ bv' bs) (hbs:bs.length=256) (ha:a<n)
 (hk:∀ σ',H (l.set i (Disk v (D.fling a bs))) σ'→Q (.tuple #[]) σ'):E HW [.pointer (some ⟨x0,0,none⟩),.pointer (some ⟨x1,0,none⟩),.pointer (some ⟨x2,0,none⟩)] σ Q:=by
 have hlen:=hD.len
 have hn:=hD.lo
 have hn2:=hD.hi
 have r0:=BK (n:=1) (o:=0) (h.row i0 h0)
 apply QS; unfold H7
 obtain ⟨hsrc,⟨ba,bc,rfl⟩,_⟩:=hb
 simp [r0]
 obtain ⟨b,lv,fv,ss,rfl,hs,h⟩:=MK (h.out i hi)
 refine L7 h hsrc (by omega) ?_
 intro w σ1 h3
 obtain ⟨wb,wc,rfl,hwc,_⟩:=h3.own_form 5 rfl (by omega)
 -- the clone is never written again
 obtain ⟨rest,e5,opn5,h4⟩:∃ rest e opn,H [pt b (.cells [lv,fv,.int .i64 D.fuse,.bool D.off] ER false),A5 AI 1 lv D.last.length (bv D.last),A5 EQ 2 fv D.fly.length (vP D.fly ss),TB D.fly ss,AW (l.set i emp),ro wb (.cells (bv bs++rest) e opn)] σ1:=by
  rcases EX.1 (h3.front 5 rfl) with ⟨⟨e,_⟩,_⟩ | ⟨b',c',opn,rest,h5,_,_,hv,_,_⟩
  ·omega
  ·cases hv
   exact ⟨rest,5,opn,(h5.freeze 0 rfl).pick [1,2,3,4,5,0] (by decide)⟩
 let J:Nat→Value→List Value→List AJ:=fun k fv ss=>[pt b (.cells [lv,fv,.int .i64 D.fuse,.bool D.off] ER false),A5 AI 1 lv D.last.length (bv D.last),A5 EQ 2 fv (D.fly.length+k) (vP (D.fly++(BM a bs).take k) ss),TB (D.fly++(BM a bs).take k) ss,AW (l.set i emp),ro wb (.cells (bv bs++rest) e5 opn5)]
 refine ⟨fun m y1 y2 y3 y4 τ=>∃ k:Nat,m=4 - k∧k≤4∧y1=.pointer (some ⟨x1,0,none⟩)∧y2=.pointer (some ⟨x2,0,none⟩)∧y3=.slice (some ⟨wb,0,none⟩) bs.length wc∧y4=.int .i64 (64*k:Nat)∧∃ fv ss,ss.length=D.fly.length+k∧H (J k fv ss) τ,⟨_,0,rfl,by omega,rfl,rfl,rfl,rfl,fv,ss,hs,?_⟩,?_⟩
 ·simpa [J] using h4
 ·rintro m _ _ _ _ τ ⟨k,rfl,hkl,rfl,rfl,rfl,rfl,fv,ss,hs,h⟩
  suffices hb:∀ N:Value→Value→Value→Value→AHeap→Prop,(∀ τ' fv' ss',k<4→ss'.length=D.fly.length+(k+1)→H (J (k+1) fv' ss') τ' →
   N (.pointer (some ⟨x1,0,none⟩)) (.pointer (some ⟨x2,0,none⟩)) (.slice (some ⟨wb,0,none⟩) bs.length wc) (.int .i64 (64*(k+1):Nat)) τ')→GD N Q (.pointer (some ⟨x1,0,none⟩)) (.pointer (some ⟨x2,0,none⟩)) (.slice (some ⟨wb,0,none⟩) bs.length wc) (.int .i64 (64*k:Nat)) τ from
   hb _ fun τ' fv' ss' hlt hs' h'=>⟨_,by omega,k+1,rfl,by omega,rfl,rfl,rfl,rfl,fv',ss',hs',h'⟩
  intro N hN
  have hl:∀ {τ:AHeap} {m:List AJ},H (m++[AW (l.set i emp)]) τ→True:=fun _=>trivial
  have hx:∀ {τ:AHeap},H (l.set i emp) τ→AD false 1 (.pointer (some ⟨x1,0,none⟩)) τ=some (.pointer (some ⟨b,0,none⟩))∧AD false 1 (.pointer (some ⟨x2,0,none⟩)) τ=some (.int .i64 (a:Nat)):=by
   intro τ hτ
   have g1:(l.set i emp)[i1]?=some (pt x1 (.cells [.pointer (some ⟨b,0,none⟩)] LQ false)):=by rw [List.getElem?_set_ne (Ne.symm n1)]; exact h1
   have g2:(l.set i emp)[i2]?=some (pt x2 (.cells [.int .i64 (a:Nat)] DN false)):=by rw [List.getElem?_set_ne (Ne.symm n2)]; exact h2
   have l1:=BK (n:=1) (o:=0) (hτ.row i1 g1)
   have l2:=BK (n:=1) (o:=0) (hτ.row i2 g2)
   exact ⟨by rw [l1]; rfl,by rw [l2]; rfl⟩
  unfold GD
  simp
  refine UT (fun hlt=>?_) fun hlt=>?_
  ·have hk4:k<4:=by omega
   obtain ⟨l1,l2⟩:=hx (h.beside 4 rfl)
   have b1:=BK (n:=1) (o:=1) (h.row 0 rfl)
   obtain ⟨_,_,fa,fc,rfl⟩:=h.own_src 2 rfl
   have w1:IntKind.i64.wrap ((a:Int)*256)=(a:Int)*256:=wrap_i64 (by omega)
   have w2:IntKind.i64.wrap ((a:Int)*256+64*(k:Int))=((a*256+64*k:Nat):Int):=by rw [wrap_i64 (by omega)]; omega
   have w3:IntKind.i64.wrap (64*(k:Int)+64)=((64*(k+1):Nat):Int):=by rw [wrap_i64 (by omega)]; omega
   have sl:=sL (z:=1) (b:=wb) (o:=0) (n:=bs.length) (c:=wc) (lo:=64*(k:Int)) (hi:=((64*(k+1):Nat):Int)) (mx:=((64*(k+1):Nat):Int)) (k:=.i64) (k':=.i64) (k'':=.i64) hwc (by omega)
   have z1:(64*(k:Int)).toNat=64*k:=by omega
   have z2:((64*(k+1):Nat):Int).toNat - 64*k=64:=by omega
   rw [z1,z2,Nat.zero_add,Nat.mul_one] at sl
   simp only [l1,l2,b1,w1,w2,w3,A4,DX,AM,t4,AA1,sl,Nat.zero_add,List.getElem?_cons_succ,List.getElem?_cons_zero]
   generalize hat:a*256+64*k=at'
   simp [splice]
   refine jI h (by rfl) (cs:=[.int .i64 (at':Nat),.slice (some ⟨wb,64*k,none⟩) 64 64]) (by simp [reps,splice]) ?_
   intro nb σ2 h5
   obtain ⟨l1,l2⟩:=hx (h5.beside 4 rfl)
   have b1:=BK (n:=1) (o:=1) (h5.row 0 rfl)
   simp [l1,b1,AQ,t3,X5]
   refine DS h5 2 rfl (E3 (n:=1) (z:=2) (h5.row 6 rfl) (by simp)) (by omega) (by omega) (by simp) ?_
   intro fv' σ3 h6
   obtain ⟨l1,l2⟩:=hx (h6.beside 4 rfl)
   have hfv:=RN h6 (i:=2) rfl
   simp [l1]
   refine E9 (o:=1) h6 0 rfl hfv (by simp) ?_
   intro σ4 h7
   have hrob:=(h7.dup 5 rfl (X0.ro _ _)).unsnoc
   have h8:=kL (o:=64*k) (cap:=64) (x:=(bs.drop (64*k)).take 64) (by simp [hbs]; rw [show min 64 (256 - 64*k)=64 by omega]; exact GP.exact (by unfold AX; omega)) (by
    simp only [List.length_take,List.length_drop,hbs]
    rw [show min 64 (256 - 64*k)=64 by omega,List.drop_append_of_le_length (by simp; omega),List.take_append_of_le_length (by simp; omega)]; simp) (by simp [hbs]; omega) hrob
   have h9:=h8.pick [1,2,3,4,0,5,6] (by decide)
   refine hN σ4 fv' (ss++[.slice (some ⟨wb,64*k,none⟩) 64 64]) hk4 (by simp [hs]; omega) ?_
   have hlk:((BM a bs).take k).length=k:=by simp [BM]; omega
   have e64:((bs.drop (64*k)).take 64).length=64:=by simp [hbs]; omega
   rw [e64] at h9
   simp only [J]
   rw [qK a bs k hk4,← List.append_assoc,dW _ _ _ _ (by simp [hlk,hs]),bL _ _ _ _ (by simp [hlk,hs]),hat]
   have eF:∀ (p:Nat) (y:List UInt8) (s:Value),TB [(p,y)] [s]=gO s y:=fun p y s=>by
    simp only [TB]; rw [NX,LS]
   rw [eF]
   have h10:=(BE.2 (h9.pick [3,4,0,1,2,5,6] (by decide))).pick [1,2,3,0,4,5] (by decide)
   exact h10
  ·obtain rfl:k=4:=by omega
   refine hk _ (H.in' i hi (YD lv fv ss ?_ ?_))
   ·simpa [DM.fling,BM] using hs
   ·have:=h.pick [0,1,2,3,4] (by decide)
    simpa [Ax.bK,J,nV,DM.fling,BM] using this
theorem vX {v bv':Value} {D:DM} {n:Nat} {a:Int} {bs:List UInt8} (h:H l σ) (i:Nat) (hi:l[i]?=some (Disk v D)) (hD:D.Ok n) (hf:D.fuse<9223372036854775808) (hm:D.fly.length<1099511627776) (hl:bs.length≤140737488355328)
 (hb:∀ τ,H (l.set i emp) τ→Rd τ bv' bs) (hk:∀ σ',H (l.set i (Disk v (D.write a bs).1)) σ'→Q (.int .i64 (D.write a bs).2) σ'):E JV [v,.int .i64 a,bv'] σ Q:=by
 have hlt:=(List.getElem?_eq_some_iff.1 hi).1
 obtain ⟨ba,bc,rfl⟩:=(hb σ (by
  have:=(h.front i hi).tail
  exact this)).form
 obtain ⟨pb,hv⟩:∃ pb,v=.pointer (some ⟨pb,0,none⟩):=by
  obtain ⟨b,_,_,_,e,_⟩:=MK (h.out i hi); exact ⟨b,e⟩
 subst hv
 have h':=h.out i hi
 apply TF; unfold J2
 simp
 refine S7 h' ?_
 intro x1 σ1 h1
 refine S7 h1 ?_
 intro x2 σ2 h2
 refine S7 h2 ?_
 intro x0 σ3 h3
 have q1:=BK (n:=1) (o:=0) (h3.row 2 rfl)
 have q2:=BK (n:=1) (o:=0) (h3.row 3 rfl)
 have q0:=BK (n:=1) (o:=0) (h3.row 4 rfl)
 simp [q1,q2]
 have back:∀ {τ D'},H [Disk (.pointer (some ⟨pb,0,none⟩)) D',AW (l.set i emp),pt x1 (.cells [.pointer (some ⟨pb,0,none⟩)] LQ false),pt x2 (.cells [.int .i64 a] DN false),pt x0 (.cells [.slice ba bs.length bc] WX false)] τ→H (l.set i (Disk (.pointer (some ⟨pb,0,none⟩)) D')) τ :=
  fun h=>H.in' i hi (h.pick [0,1] (by decide))
 refine nL h3 0 rfl hD ?_
 simp
 by_cases hr:D.ready a=0
 ·simp [hr,q0]
  by_cases hbl:bs.length=256
  ·have hz:(256:Int)=(bs.length:Int):=by omega
   simp [hbl,q1]
   refine AAy h3 0 rfl hf (fun hb1 σ4 h4=>?_) fun hb1 σ4 h4=>?_
   ·have hD2:D.burn.1.Ok n:=by
     unfold DM.burn; split
     ·exact hD
     ·split<;>exact ⟨hD.lo,hD.hi,hD.len,hD.fly⟩
    have hfl:D.burn.1.fly=D.fly:=by unfold DM.burn; split; rfl; split<;>rfl
    have ha:0≤a∧a<n:=by
     have hlen:=hD.len
     unfold DM.ready at hr
     split at hr
     ·simp at hr
     ·split at hr
      ·simp at hr
      ·rename_i hx
       have:D.last.length / 256=n:=by omega
       omega
    obtain ⟨A,rfl⟩:∃ A:Nat,a=A:=⟨a.toNat,by omega⟩
    refine zG (bs:=bs) h4 0 rfl hD2 (by rw [hfl]; exact hm) 4 rfl 2 rfl 3 rfl (by decide) (by decide) (by decide) (hb _ (h4.beside 1 rfl)) hbl (by omega) ?_
    intro σ5 h5
    have e:D.write A bs=(D.burn.1.fling A bs,0):=by simp [DM.write,hr,hbl,hb1]
    rw [e] at hk
    exact hk _ (back h5)
   ·have e:D.write a bs=(D.burn.1,9):=by simp [DM.write,hr,hbl,hb1]
    rw [e] at hk
    exact hk _ (back h4)
  ·have:¬ (bs.length:Int)=256:=by omega
   simp [this]
   have e:D.write a bs=(D,1):=by simp [DM.write,hr,hbl]
   rw [e] at hk
   exact hk _ (back h3)
 ·simp [hr]
  have e:D.write a bs=(D,D.ready a):=by simp [DM.write,hr]
  rw [e] at hk
  exact hk _ (back h3)
end Go.Ax.O
set_option maxRecDepth 100000
namespace Go.Ax.O
open Go.Proofs Go.RowKit
variable {l m:List AJ} {σ:AHeap} {Q:WK}
theorem dF (L:List UInt8) (a:Nat) (x:List UInt8) (h:a+x.length≤L.length) (i:Nat):(put L a x)[i]?=if a≤i∧i<a+x.length then x[i - a]? else L[i]?:=by
 unfold put
 rw [List.append_assoc,List.getElem?_append]
 simp only [List.length_take,Nat.min_eq_left (show a≤L.length by omega)]
 split
 ·rename_i hi
  rw [if_neg (by omega),List.getElem?_take,if_pos hi]
 ·rw [List.getElem?_append]
  split
  ·rw [if_pos (by omega)]
  ·rw [if_neg (by omega),List.getElem?_drop]; congr 1; omega
theorem xM {n a:Nat} {bs:List UInt8} (ha:a<n) (hb:bs.length=256):∀ f∈BM a bs,ABl n f:=by
 intro f hf
 simp only [BM,List.mem_cons,List.not_mem_nil,or_false] at hf
 rcases hf with rfl | rfl | rfl | rfl<;>refine ⟨by simp [hb],?_,?_⟩<;>simp<;>omega
theorem oX {D:DM} {n:Nat} (hD:D.Ok n) {a:Nat} (ha:a<n):D.ready a=if D.off then 9 else 0:=by
 unfold DM.ready
 have:=hD.len
 have:D.last.length / 256=n:=by omega
 cases D.off with
 | true=>rfl
 | false=>simp only [Bool.false_eq_true,if_false]; rw [if_neg (by omega)]
theorem yS {D:DM} {n a:Nat} {bs:List UInt8} (hD:D.Ok n) (ha:a<n) (hb:bs.length=256):(D.fling a bs).Ok n :=
 ⟨hD.lo,hD.hi,hD.len,fun f hf=>by
  simp only [DM.fling,List.mem_append] at hf
  rcases hf with hf | hf
  ·exact hD.fly f hf
  ·exact xM ha hb f hf⟩
theorem VH {D:DM} {n a:Nat} (hD:D.Ok n) (ha:a<n):(D.block a).length=256:=by
 have:=hD.len
 refine TL _ _ _ (by simp; omega) (fun f hf=>(hD.fly f hf).len) fun f hf g1 g2=>?_
 have:=(hD.fly f hf).al
 omega
theorem fS {v:Value} {n:Nat} {x:List UInt8} (hn:0<n) (h:H (A5 AI 1 v n (bv x)::m) σ):∃ b c,v=.slice (some ⟨b,0,none⟩) n c∧GP 1 n c ∧
 ∀ o k c',GP 1 k c'→o+k≤n→H (gO (.slice (some ⟨b,o,none⟩) k c') ((x.drop o).take k)::m) σ:=by
 rcases EX.1 h with ⟨⟨rfl,_⟩,_⟩ | ⟨b,c,opn,rest,hp,hx,hr,rfl,hn2,ho⟩
 ·omega
 ·refine ⟨b,c,rfl,⟨hn2,by rcases ho with ⟨_,_,x⟩ | x; exact .inr x; exact .inl x⟩,fun o k c' hc hk=>?_⟩
  have hxl:x.length=n:=by simpa using hx
  have hl:((x.drop o).take k).length=k:=by simp; omega
  have:=kL (b:=b) (o:=o) (cap:=c') (x:=(x.drop o).take k) (c:=bv x++rest) (e:=AI) (opn:=opn) (by rw [hl]; exact hc) (by
   rw [hl,List.drop_append_of_le_length (by simp; omega),List.take_append_of_le_length (by simp; omega)]; simp) (by rw [hl]; simp; omega) hp.freeze0
  rw [hl] at this
  exact this
theorem oD {D:DM} {n a:Nat} {bs:List UInt8} (hD:D.Ok n) (ho:D.off=false) (hf:D.fuse=0) (ha:a<n) (hb:bs.length=256):D.write a bs=(D.fling a bs,0):=by
 have hr:=oX hD ha
 rw [ho] at hr
 simp at hr
 simp [DM.write,hr,hb,DM.burn,hf]
theorem ADk {B:AJ} {i j:Nat} (hj:l[j]?=some B) (hij:i≠j):AW (l.set i emp)=sep B (AW ((l.set i emp).set j emp)):=by
 conv=>lhs; rw [K6 _ j]
 simp [List.getD,List.getElem?_set,hij,hj]
end Go.Ax.O
namespace Go.Ax
section
variable {α:Type} (key:α→Nat)
def dN (R:List α) (i j:Nat):List α :=
 match R[i]?,R[j]? with
 | some x,some y=>(R.set i y).set j x
 | _,_=>R
variable {key}
theorem qE {R:List α} {i j:Nat} (hi:i<R.length) (hj:j<R.length):dN R i j=(R.set i R[j]).set j R[i]:=by
 unfold dN
 rw [List.getElem?_eq_getElem hi,List.getElem?_eq_getElem hj]
theorem I5 (R:List α) (i j:Nat):(dN R i j).length=R.length:=by
 unfold dN; split<;>simp
theorem O8 {R:List α} {i j:Nat} (hi:i<R.length) (hj:j<R.length) (k:Nat):(dN R i j)[k]?=if k=j then R[i]? else if k=i then R[j]? else R[k]?:=by
 rw [qE hi hj,List.getElem?_set,List.getElem?_set]
 by_cases h1:j=k
 ·subst h1; simp [hj,List.getElem?_eq_getElem hi]
 ·rw [if_neg h1,if_neg (Ne.symm h1)]
  by_cases h2:i=k
  ·subst h2; simp [hi,List.getElem?_eq_getElem hj]
  ·rw [if_neg h2,if_neg (Ne.symm h2)]
theorem TQ (R:List α) {i j:Nat} (hi:i<R.length) (hj:j<R.length):(dN R i j).Perm R:=by
 rw [qE hi hj]
 exact List.set_set_perm hi hj
variable (key)
def Ky (R:List α) (k:Nat):Nat:=((R[k]?).map key).getD 0
variable {key}
theorem XY {R:List α} {i j:Nat} (hi:i<R.length) (hj:j<R.length) (k:Nat):Ky key (dN R i j) k=if k=j then Ky key R i else if k=i then Ky key R j else Ky key R k:=by
 unfold Ky
 rw [O8 hi hj]
 split
 ·rfl
 ·split<;>rfl
variable (key)
def JH (R:List α) (n i:Nat):Prop:=(∀ k,0<k→k<n→(k - 1) / 2≠i→Ky key R ((k - 1) / 2)≤Ky key R k)∧(∀ k,0<k→k<n→(k - 1) / 2=i→0<i→Ky key R ((i - 1) / 2)≤Ky key R k)
def CR (R:List α) (n:Nat):Prop:=∀ k,0<k→k<n→Ky key R ((k - 1) / 2)≤Ky key R k
variable {key}
theorem JH.step {R:List α} {n i j:Nat} (h:JH key R n i) (hn:n≤R.length) (hj:j<n) (hp:(j - 1) / 2=i) (hj0:0<j) (hmin:∀ k,0<k→k<n→(k - 1) / 2=i→Ky key R j≤Ky key R k) (hlt:Ky key R j<Ky key R i):JH key (dN R i j) n j:=by
 obtain ⟨h1,h2⟩:=h
 have hij:i<j:=by omega
 refine ⟨fun k hk0 hkn hpk=>?_,fun k hk0 hkn hpk _=>?_⟩
 ·rw [XY (by omega) (by omega),XY (by omega) (by omega)]
  by_cases e1:k=j
  ·subst e1
   rw [if_neg (by omega),if_pos hp,if_pos rfl]; omega
  ·by_cases e2:k=i
   ·subst e2
    rw [if_neg (by omega),if_neg (by omega),if_neg (by omega),if_pos rfl]
    exact h2 j hj0 hj hp hk0
   ·rw [if_neg hpk,if_neg e1,if_neg e2]
    by_cases e3:(k - 1) / 2=i
    ·rw [if_pos e3]; exact hmin k hk0 hkn e3
    ·rw [if_neg e3]; exact h1 k hk0 hkn e3
 ·rw [XY (by omega) (by omega),XY (by omega) (by omega)]
  rw [if_neg (by omega),if_pos hp,if_neg (by omega),if_neg (by omega)]
  have:=h1 k hk0 hkn (by omega)
  rw [hpk] at this
  exact this
theorem JH.done {R:List α} {n i:Nat} (h:JH key R n i) (hmin:∀ k,0<k→k<n→(k - 1) / 2=i→Ky key R i≤Ky key R k):CR key R n:=by
 intro k hk0 hkn
 by_cases e:(k - 1) / 2=i
 ·rw [e]; exact hmin k hk0 hkn e
 ·exact h.1 k hk0 hkn e
theorem CR.top {R:List α} {n:Nat} (h:CR key R n):∀ k,k<n→Ky key R 0≤Ky key R k:=by
 intro k
 induction k using Nat.strongRecOn with
 | ind k ih =>
   intro hk
   rcases Nat.eq_zero_or_pos k with rfl | h0
   ·exact Nat.le_refl _
   ·exact Nat.le_trans (ih ((k - 1) / 2) (by omega) (by omega)) (h k h0 hk)
theorem YR {R S:List α} {n:Nat} (h:∀ k,k<n→R[k]?=S[k]?) {k:Nat} (hk:k<n):Ky key R k=Ky key S k:=by unfold Ky; rw [h k hk]
theorem CR.congr {R S:List α} {n:Nat} (h:CR key R n) (e:∀ k,k<n→R[k]?=S[k]?):CR key S n:=fun k h0 hk=>by
 rw [← YR e hk,← YR e (show (k - 1) / 2<n by omega)]; exact h k h0 hk
theorem CR.grow {R:List α} {n p:Nat} {x:α} (h:CR key R n) (hp:p<R.length) (hx:Ky key R p≤key x):JH key (R.set p x) n p:=by
 have hK:∀ k,Ky key (R.set p x) k=if k=p then key x else Ky key R k:=by
  intro k
  unfold Ky
  rw [List.getElem?_set]
  by_cases e:p=k
  ·subst e; simp [hp]
  ·rw [if_neg e,if_neg (Ne.symm e)]
 refine ⟨fun k h0 hk hpk=>?_,fun k h0 hk hpk hp0=>?_⟩
 ·rw [hK,hK,if_neg hpk]
  have:=h k h0 hk
  split
  ·rename_i e; subst e; omega
  ·exact this
 ·rw [hK,hK,if_neg (by omega)]
  have h1:=h k h0 hk
  have h2:=h p hp0 (by omega)
  rw [hpk] at h1
  rw [if_neg (by omega)]
  omega
theorem CR.pop {R:List α} {n:Nat} (h:CR key R (n+1)) (hn:n<R.length):JH key (dN R 0 n) n 0:=by
 refine ⟨fun k h0 hk hpk=>?_,fun k h0 hk hpk hp0=>by omega⟩
 rw [XY (by omega) hn,XY (by omega) hn,if_neg (by omega),if_neg hpk,if_neg (by omega),if_neg (by omega)]
 exact h k h0 (by omega)
end
end Go.Ax
set_option maxRecDepth 100000
namespace Go.Ax.O
open Go.Proofs Go.RowKit
variable {l m:List AJ} {σ:AHeap} {Q:WK}
structure G6 where
 ib:Nat
 pl:Nat
 used:Nat
 dirty:Bool
 sv:Value
 b:List UInt8
abbrev ku:G6→Nat:=G6.used
def pX (v:Value) (x:List UInt8):AJ:=fun r=>IU (v=.slice none 0 0∧x=[]) r∨gO v x r
def BV (k:Nat) (r:G6):AJ:=sep (pt r.ib (.cells [.int .i64 r.pl,.int .i64 k,.int .u64 r.used,.bool r.dirty,r.sv] DY false)) (pX r.sv r.b)
def A8:Nat→List G6→List AJ
 | _,[]=>[]
 | o,r::R=>BV o r::A8 (o+1) R
theorem XX:∀ (R:List G6) (o k:Nat),(A8 o R)[k]?=R[k]?.map (BV (o+k))
 | [],o,k=>by simp [A8]
 | r::R,o,0=>by simp [A8]
 | r::R,o,k+1=>by simp [A8,XX R (o+1) k]; rw [show o+1+k=o+(k+1) by omega]
theorem RU:∀ (R:List G6) (o k:Nat) (r:G6),(A8 o R).set k (BV (o+k) r)=A8 o (R.set k r)
 | [],o,k,r=>by simp [A8]
 | x::R,o,0,r=>by simp [A8]
 | x::R,o,k+1,r=>by
   have:=RU R (o+1) k r
   rw [show o+1+k=o+(k+1) by omega] at this
   simp [A8,this]
theorem PZ:∀ (R S:List G6) (o:Nat),A8 o (R++S)=A8 o R++A8 (o+R.length) S
 | [],S,o=>by simp [A8]
 | r::R,S,o=>by simp [A8,PZ R S (o+1)]; rw [show o+1+R.length=o+(R.length+1) by omega]
theorem LO:∀ (R:List G6) (o:Nat),(A8 o R).length=R.length
 | [],o=>rfl
 | r::R,o=>by simp [A8,LO R (o+1)]
theorem KE {R:List G6} {k:Nat} {r:G6} (h:H (AW (A8 0 R)::m) σ) (hr:R[k]?=some r):H (BV k r::AW ((A8 0 R).set k emp)::m) σ:=by
 have e:(A8 0 R)[k]?=some (BV k r):=by rw [XX,hr]; simp
 rw [K6 _ k,BE] at h
 simpa only [List.getD,e,Option.getD_some] using h
theorem ZU {R:List G6} {k:Nat} {r:G6} (hk:k<R.length) (h:H (BV k r::AW ((A8 0 R).set k emp)::m) σ):H (AW (A8 0 (R.set k r))::m) σ:=by
 have e:=RU R 0 k r
 rw [Nat.zero_add] at e
 rw [← e,T8 _ _ _ (by rw [LO]; exact hk),BE]
 exact h
def DA (R:List G6):List Value:=R.map fun r=>.pointer (some ⟨r.ib,0,none⟩)
theorem MP {R:List G6} {k:Nat} {r:G6} (h:R[k]?=some r):(DA R)[k]?=some (.pointer (some ⟨r.ib,0,none⟩)):=by simp [DA,h]
theorem IS (R:List G6):(DA R).length=R.length:=by simp [DA]
def K7 (cb:Nat) (cs:List Value) (rowv:Value) (R:List G6) (I0:AJ):List AJ:=[pt cb (.cells (cs++[rowv]) AU false),A5 AK 1 rowv R.length (DA R),AW (A8 0 R),I0]
section
variable {cb:Nat} {cs:List Value} {rowv:Value} {R:List G6} {I0:AJ}
theorem IT (hcs:cs.length=4) (h:H (K7 cb cs rowv R I0) σ):AD false 1 (.pointer (some ⟨cb,4,none⟩)) σ=some rowv:=by
 rw [BK (h.row 0 rfl),List.getElem?_append_right (by omega),hcs]; rfl
theorem fG (h:H (K7 cb cs rowv R I0) σ):∃ a c,rowv=.slice a R.length c:=(h.own_src 1 rfl).2.2
theorem zR (v:Value) (σ:AHeap):BR P (.iface BD v) "Len" σ=(AD false 1 v σ).bind fun u=>some (M6,u):=by kernel_rfl
theorem pT (v:Value) (σ:AHeap):BR P (.iface BD v) "Less" σ=(AD false 1 v σ).bind fun u=>some (LC,u):=by kernel_rfl
theorem AAA (v:Value) (σ:AHeap):BR P (.iface BD v) "Swap" σ=(AD false 1 v σ).bind fun u=>some (KR,u):=by kernel_rfl
theorem ADa (v:Value) (σ:AHeap):BR P (.iface BD v) "Pop" σ=some (MX,v):=by kernel_rfl
theorem ACq (v:Value) (σ:AHeap):BR P (.iface BD v) "Push" σ=some (KX,v):=by kernel_rfl
theorem qB (h:H (K7 cb cs rowv R I0) σ) (hk:Q (.int .i64 R.length) σ):E M6 [rowv] σ Q:=by
 obtain ⟨a,c,rfl⟩:=fG h
 apply XK; unfold MT
 simpa using hk
theorem j5 {i j:Nat} {x y:G6} (h:H (K7 cb cs rowv R I0) σ) (hi:R[i]?=some x) (hj:R[j]?=some y) (hk:Q (.bool (decide (x.used<y.used))) σ):E LC [rowv,.int .i64 i,.int .i64 j] σ Q:=by
 have hil:=(List.getElem?_eq_some_iff.1 hi).1
 have hjl:=(List.getElem?_eq_some_iff.1 hj).1
 apply V4; unfold LE
 obtain ⟨b,c,rfl,hc,rest,hrow⟩:=h.own_form 1 rfl (by omega)
 have r1:=BK (n:=1) (o:=i) hrow
 have r2:=BK (n:=1) (o:=j) hrow
 rw [List.getElem?_append_left (by rw [IS]; omega),MP hi] at r1
 rw [List.getElem?_append_left (by rw [IS]; omega),MP hj] at r2
 rw [TG (by omega),TG (by omega)]
 have h1:=KE (h.pick [2,0,1,3] (by decide)) hi
 unfold BV at h1
 rw [BE] at h1
 have h2:=KE (h.pick [2,0,1,3] (by decide)) hj
 unfold BV at h2
 rw [BE] at h2
 have u1:=BK (n:=1) (o:=2) (h1.row 0 rfl)
 have u2:=BK (n:=1) (o:=2) (h2.row 0 rfl)
 simp [r1,r2,u1,u2]
 have e:decide ((x.used:Int)<(y.used:Int))=decide (x.used<y.used):=by
  by_cases g:x.used<y.used
  ·rw [decide_eq_true g,decide_eq_true (by omega)]
  ·rw [decide_eq_false g,decide_eq_false (by omega)]
 simpa [e] using hk
theorem rK {i j:Nat} {x y:G6} (hij:i≠j) (hi:R[i]?=some x) (hj:R[j]?=some y) (h:H (AW (A8 0 R)::m) σ):H (BV i x::BV j y::AW (((A8 0 R).set i emp).set j emp)::m) σ:=by
 have h1:=KE h hi
 have e:AW ((A8 0 R).set i emp)=sep (BV j y) (AW (((A8 0 R).set i emp).set j emp)):=by
  refine ADk ?_ hij
  rw [XX,hj]; simp
 rw [e] at h1
 have h2:=h1.perm (List.Perm.swap _ _ _)
 rw [BE] at h2
 have h3:H ([BV j y,AW (((A8 0 R).set i emp).set j emp)]++BV i x::m) σ:=h2
 exact h3.perm (by
  show (BV j y::AW (((A8 0 R).set i emp).set j emp)::BV i x::m).Perm (BV i x::BV j y::AW (((A8 0 R).set i emp).set j emp)::m)
  exact ((List.Perm.swap _ _ _).cons _).trans (List.Perm.swap _ _ _))
theorem vE {i j:Nat} {x y:G6} (hij:i≠j) (hi:i<R.length) (hj:j<R.length) (h:H (BV j x::BV i y::AW (((A8 0 R).set i emp).set j emp)::m) σ):H (AW (A8 0 ((R.set i y).set j x))::m) σ:=by
 have e1:=RU (R.set i y) 0 j x
 have e2:=RU R 0 i y
 rw [Nat.zero_add] at e1 e2
 rw [← e1,← e2,T8 _ j _ (by simp [LO]; exact hj),BE,List.set_comm _ _ hij,T8 _ i _ (by simp [LO]; exact hi)]
 have h2:=h.perm ((List.Perm.cons _ (List.Perm.refl _)))
 rw [List.set_comm _ _ hij] at h2
 have h3:H ((sep (BV i y) (AW (((A8 0 R).set j emp).set i emp)))::BV j x::m) σ:=by
  rw [BE]
  exact h2.perm (by
   show (BV j x::BV i y::AW (((A8 0 R).set j emp).set i emp)::m).Perm (BV i y::AW (((A8 0 R).set j emp).set i emp)::BV j x::m)
   exact (List.Perm.swap _ _ _).trans ((List.Perm.swap _ _ _).cons _))
 exact h3.perm (List.Perm.swap _ _ _)
theorem zU {i j:Nat} {x y:G6} (hi:R[i]?=some x) (hj:R[j]?=some y):((DA R).set i (.pointer (some ⟨y.ib,0,none⟩))).set j (.pointer (some ⟨x.ib,0,none⟩))=DA (dN R i j):=by
 unfold dN DA
 rw [hi,hj]
 simp only [List.map_set]
theorem tV {i j:Nat} {x y:G6} (h:H (K7 cb cs rowv R I0) σ) (hi:R[i]?=some x) (hj:R[j]?=some y) (hk:∀ σ',H (K7 cb cs rowv (dN R i j) I0) σ'→Q (.tuple #[]) σ'):E KR [rowv,.int .i64 i,.int .i64 j] σ Q:=by
 have hil:=(List.getElem?_eq_some_iff.1 hi).1
 have hjl:=(List.getElem?_eq_some_iff.1 hj).1
 apply V3; unfold KW
 obtain ⟨b,c,rfl,hc,rest,hrow⟩:=h.own_form 1 rfl (by omega)
 have r1:=BK (n:=1) (o:=i) hrow
 have r2:=BK (n:=1) (o:=j) hrow
 rw [List.getElem?_append_left (by rw [IS]; omega),MP hi] at r1
 rw [List.getElem?_append_left (by rw [IS]; omega),MP hj] at r2
 rw [TG (by omega),TG (by omega)]
 simp [r1,r2]
 refine NN h 1 rfl (by omega) rfl (by rw [IS]; omega) ?_
 intro σ1 h1
 refine NN h1 1 rfl (by omega) rfl (by rw [List.length_set,IS]; omega) ?_
 intro σ2 h2
 rw [zU hi hj] at h2
 obtain ⟨_,_,hv,_,rest,hrow⟩:=h2.own_form 1 rfl (by omega)
 cases hv
 have si:(dN R i j)[i]?=some (if i=j then x else y):=by
  rw [O8 hil hjl]; split
  ·exact hi
  ·rw [if_pos rfl,hj]
 have sj:(dN R i j)[j]?=some x:=by rw [O8 hil hjl,if_pos rfl,hi]
 have r1:=BK (n:=1) (o:=i) hrow
 have r2:=BK (n:=1) (o:=j) hrow
 rw [List.getElem?_append_left (by rw [IS,I5]; omega),MP si] at r1
 rw [List.getElem?_append_left (by rw [IS,I5]; omega),MP sj] at r2
 simp only [r1,r2,A4,DX,AM,Nat.zero_add]
 by_cases hij:i=j
 ·subst hij
  have hxy:x=y:=by rw [hi] at hj; cases hj; rfl
  subst hxy
  have hs:dN R i i=R:=by
   apply List.ext_getElem?
   intro k
   rw [O8 hil hil]
   split
   ·rename_i e; subst e; rfl
   ·rfl
  rw [hs] at hk h2
  simp only [if_true]
  have h3:=KE (h2.pick [2,0,1,3] (by decide)) hi
  unfold BV at h3
  rw [BE] at h3
  refine E9 h3 0 rfl rfl (by simp) ?_
  intro σ3 h4
  refine E9 h4 0 rfl rfl (by simp) ?_
  intro σ4 h5
  refine hk σ4 ?_
  have h6:=ZU (r:=x) hil (BE.2 h5)
  have:R.set i x=R:=by
   apply List.ext_getElem?
   intro k
   rw [List.getElem?_set]
   split
   ·rename_i e; subst e; rw [hi]
   ·rfl
  rw [this] at h6
  exact h6.pick [1,2,0,3] (by decide)
 ·rw [if_neg hij]
  have h3:=rK hij hi hj (h2.pick [2,0,1,3] (by decide))
  unfold BV at h3
  rw [BE] at h3
  have h4:=BE.1 (h3.pick [2,0,1,3,4,5,6] (by decide))
  refine E9 h4 0 rfl rfl (by simp) ?_
  intro σ3 h5
  refine E9 h5 2 rfl rfl (by simp) ?_
  intro σ4 h6
  refine hk σ4 ?_
  have h7:H (BV j x::_) σ4:=BE.2 (h6.pick [2,3,0,1,4,5,6,7] (by decide))
  have h8:H (BV i y::_) σ4:=BE.2 (h7.pick [1,2,0,3,4,5,6] (by decide))
  have h9:=vE hij hil hjl (h8.pick [1,0,2,3,4,5] (by decide))
  have e:(R.set i y).set j x=dN R i j:=by unfold dN; rw [hi,hj]
  rw [e] at h9
  have h10:=h9.pick [1,2,0,3] (by decide)
  unfold K7
  rw [I5]
  exact h10
end
end Go.Ax.O
set_option maxRecDepth 100000
namespace Go.Ax.O
open Go.Proofs Go.RowKit
variable {l m:List AJ} {σ:AHeap} {Q:WK}
theorem xK {e z n k i:Nat} {v:Value} {xs:List Value} (h:H l σ) (hi:l[i]?=some (A5 e z v n xs)) (hn:0<n) (hk:k≤n) :
 ∃ v',(∀ kd,AY z v none (some (.int kd k)) none=some v')∧one v'=true∧H (l.set i (A5 e z v' k (xs.take (k*z)))) σ:=by
 rcases EX.1 (h.front i hi) with ⟨⟨rfl,_⟩,_⟩ | ⟨b,c,opn,rest,hp,hx,hr,rfl,hn2,ho⟩
 ·omega
 ·have hcap:c<AX∨c / AX=z:=by rcases ho with ⟨_,_,q⟩ | q; exact .inr q; exact .inl q
  refine ⟨.slice (some ⟨b,0,none⟩) k c,fun kd=>?_,rfl,H.back i hi (EX.2 (.inr ⟨b,c,opn,xs.drop (k*z)++rest,?_,?_,?_,rfl,by omega,ho⟩))⟩
  ·simp only [AY,IQ]
   rw [CS (y:=BH c) (by omega)]
   simp only [Option.bind_some,Int.toNat_natCast]
   rcases Nat.lt_or_ge c AX with hlt | hge
   ·have:=CI hlt
    rw [if_pos hlt,if_pos (by omega),if_neg (by omega)]
    simp [EP]
   ·have:¬ c<AX:=by omega
    rw [if_neg this,if_pos ⟨by omega,hcap.resolve_left this⟩]
    simp [EP]
  ·rw [← List.append_assoc,List.take_append_drop]; exact hp
  ·have:k*z≤n*z:=Nat.mul_le_mul_right _ hk
   simp; omega
  ·have h1:k*z≤n*z:=Nat.mul_le_mul_right _ hk
   have h2:n*z≤BH c*z:=Nat.mul_le_mul_right _ hn2
   rw [List.length_append,List.length_drop,hx,hr,Nat.sub_mul,Nat.sub_mul]
   omega
theorem ABh (v:Value) (hv:DB v=true):KA P AK v=some (.iface AK v):=by
 have:KA P AK v=cond (DB v) (some (.iface AK v)) none:=by kernel_rfl
 rw [this,hv]; rfl
theorem zQ (v:Value) (hv:DB v=true):KA P BD v=some (.iface BD v):=by
 have:KA P BD v=cond (DB v) (some (.iface BD v)) none:=by kernel_rfl
 rw [this,hv]; rfl
theorem ABv (v:Value):HH P AK false (.iface AK v)=some v:=by kernel_rfl
section
variable {cb:Nat} {cs:List Value} {rowv:Value} {R:List G6} {I0:AJ}
theorem AAT {n:Nat} {x:G6} (hcs:cs.length=4) (h:H (K7 cb cs rowv R I0) σ) (hn:R.length=n+1) (hx:R[n]?=some x) (hb:n<1099511627776)
 (hk:∀ rowv' σ',H (K7 cb cs rowv' (R.take n) (AW [BV n x,I0])) σ'→Q (.iface AK (.pointer (some ⟨x.ib,0,none⟩))) σ'):E MX [.pointer (some ⟨cb,4,none⟩)] σ Q:=by
 apply W8; unfold MS
 have rl:=IT hcs h
 obtain ⟨a,c,hv⟩:=fG h
 subst hv
 simp [rl]
 rw [wrap_i64 (by omega),show ((R.length:Nat):Int) - 1=(n:Int) by omega]
 obtain ⟨b,c',hv,hc,rest,hrow⟩:=h.own_form 1 rfl (by omega)
 cases hv
 have r1:=BK (n:=1) (o:=n) hrow
 rw [List.getElem?_append_left (by rw [IS]; omega),MP hx] at r1
 rw [TG (by omega)]
 simp [r1]
 obtain ⟨v',e1,ho,h2⟩:=xK (k:=n) h (i:=1) rfl (by omega) (by omega)
 rw [e1]
 simp
 refine E9 h2 0 rfl ho (by simp [hcs]) ?_
 intro σ1 h3
 rw [ABh _ rfl,A4]
 refine hk v' σ1 ?_
 have e2:(cs++[Value.slice (some ⟨b,0,none⟩) R.length c]).set 4 v'=cs++[v']:=by
  rw [List.set_append_right _ _ (by omega),hcs]; rfl
 have e3:(DA R).take (n*1)=DA (R.take n):=by simp [DA]
 have e4:A8 0 R=A8 0 (R.take n)++[BV n x]:=by
  have:R=R.take n++[x]:=by
   have h5:R.take (n+1)=R.take n++[x]:=by rw [List.take_add_one,hx]; rfl
   rw [← h5,← hn,List.take_length]
  conv=>lhs; rw [this]
  rw [PZ,List.length_take,Nat.min_eq_left (by omega)]
  simp [A8]
 rw [e2,e3] at h3
 have h3:H [pt cb (.cells (cs++[v']) AU false),A5 AK 1 v' n (DA (R.take n)),AW (A8 0 R),I0] σ1:=h3
 rw [e4,MA] at h3
 have h4:=BE.1 (h3.pick [2,0,1,3] (by decide))
 have h6:H [AW [BV n x],I0,pt cb (.cells (cs++[v']) AU false),A5 AK 1 v' n (DA (R.take n)),AW (A8 0 (R.take n))] σ1:=h4.pick [1,4,2,3,0] (by decide)
 have h5:H [AW [BV n x,I0],pt cb (.cells (cs++[v']) AU false),A5 AK 1 v' n (DA (R.take n)),AW (A8 0 (R.take n))] σ1:=(BC (l:=[BV n x,I0])).2 ((BC (l:=[BV n x])).1 h6)
 unfold K7
 rw [List.length_take,Nat.min_eq_left (by omega)]
 exact h5.pick [1,2,3,0] (by decide)
theorem zY {p:Nat} {x:G6} (hcs:cs.length=4) (h:H (K7 cb cs rowv R (AW [BV p x,I0])) σ) (hb:R.length<1099511627776)
 (hk:∀ rowv' σ',H (K7 cb cs rowv' (R++[x]) I0) σ'→Q (.tuple #[]) σ'):E KX [.pointer (some ⟨cb,4,none⟩),.iface AK (.pointer (some ⟨x.ib,0,none⟩))] σ Q:=by
 apply VU; unfold KM
 have rl:=IT hcs h
 obtain ⟨a,c,hv⟩:=fG h
 rw [ABv]
 subst hv
 simp [rl]
 have h1:H (BV p x::I0::_) σ:=BC.1 (h.pick [3,0,1,2] (by decide))
 unfold BV at h1
 rw [BE] at h1
 refine E9 h1 0 rfl rfl (by simp) ?_
 intro σ1 h2
 have h3:H (BV R.length x::I0::pt cb (.cells (cs++[.slice a R.length c]) AU false)::A5 AK 1 (.slice a R.length c) R.length (DA R)::AW (A8 0 R)::[]) σ1:=BE.2 h2
 have rl:=BK (n:=1) (o:=4) (h3.row 2 rfl)
 rw [List.getElem?_append_right (by omega),hcs] at rl
 simp at rl
 simp [rl]
 refine jI (cs:=[.pointer (some ⟨x.ib,0,none⟩)]) h3 (by decide) (by rfl) ?_
 intro tb σ2 h4
 have ht:DC 1 (.slice (some ⟨tb,0,none⟩) 1 1) σ2=some (1,[.pointer (some ⟨x.ib,0,none⟩)]):=by
  rw [E3 (h4.row 5 rfl) (by simp)]; rfl
 refine DS h4 3 rfl ht (by omega) (by omega) (by rfl) ?_
 intro w σ3 h5
 have ho:=RN h5 (i:=3) rfl
 simp
 refine E9 h5 2 rfl ho (by simp [hcs]) ?_
 intro σ4 h6
 refine hk w σ4 ?_
 have e2:(cs++[Value.slice a R.length c]).set 4 w=cs++[w]:=by
  rw [List.set_append_right _ _ (by omega),hcs]; rfl
 rw [e2] at h6
 have e3:DA R++[.pointer (some ⟨x.ib,0,none⟩)]=DA (R++[x]):=by simp [DA]
 rw [e3] at h6
 unfold K7
 rw [PZ,MA,List.length_append]
 simp only [A8,Nat.zero_add]
 have h7:H (sep (AW (A8 0 R)) (AW [BV R.length x])::_) σ4:=BE.2 (by
  have:H (AW [BV R.length x]::_) σ4:=(BC (l:=[BV R.length x])).2 (h6.pick [0,1,2,3,4] (by decide))
  exact this.pick [4,0,1,2,3] (by decide))
 exact h7.pick [2,3,0,1] (by decide)
theorem F7 {k:Nat} {x:G6} (h:R[k]?=some x):Ky ku R k=x.used:=by unfold Ky; rw [h]; rfl
theorem ABf {j:Nat} {x:G6} (hcs:cs.length=4) (h:H (K7 cb cs rowv R I0) σ) (hj:R[j]?=some x) (hb:R.length<1099511627776) (hmax:∀ k,k<j→Ky ku R k≤x.used)
 (hk:Q (.tuple #[]) σ):E K2 [.iface BD (.pointer (some ⟨cb,4,none⟩)),.int .i64 j] σ Q:=by
 have hjl:=(List.getElem?_eq_some_iff.1 hj).1
 apply l6; unfold aY
 refine ⟨fun m x0 x1 τ=>x0=.iface BD (.pointer (some ⟨cb,4,none⟩))∧x1=.int .i64 j∧τ=σ,⟨0,rfl,rfl,rfl⟩,?_⟩
 rintro m _ _ τ ⟨rfl,rfl,rfl⟩
 suffices hb:∀ N,RT N Q (.iface BD (.pointer (some ⟨cb,4,none⟩))) (.int .i64 j) τ from hb _
 intro N
 unfold RT
 simp
 rw [wrap_i64 (n:=(j:Int) - 1) (by omega)]
 obtain ⟨i,hi,hi2⟩:∃ i:Nat,IntKind.i64.wrap (((j:Int) - 1).tdiv 2)=(i:Int)∧(i=j∧j=0∨i<j):=by
  rcases Nat.eq_zero_or_pos j with rfl | h0
  ·exact ⟨0,by decide,.inl ⟨rfl,rfl⟩⟩
  ·refine ⟨(j - 1) / 2,?_,.inr (by omega)⟩
   rw [show (j:Int) - 1=((j - 1:Nat):Int) by omega,show (((j - 1:Nat):Int)).tdiv 2=(((j - 1) / 2:Nat):Int) from rfl,wrap_i64 (by omega)]
 rw [hi]
 refine kU (fun g=>?_) fun g=>?_
 ·unfold J8; simpa using hk
 ·have hij:i<j:=by omega
  have hx:=List.getElem?_eq_getElem (show i<R.length by omega)
  rw [pT,IT hcs h]
  simp
  refine j5 h hj hx ?_
  have hle:=hmax i hij
  rw [F7 hx] at hle
  have:decide (x.used<R[i].used)=false:=decide_eq_false (by omega)
  rw [this]
  simp
  unfold J8
  simpa using hk
theorem VL {n i0:Nat} {R0:List G6} (hcs:cs.length=4) (h:H (K7 cb cs rowv R0 I0) σ) (hn:n≤R0.length) (hb:R0.length<1099511627776) (hi0:i0≤n) (hex:JH ku R0 n i0)
 (hk:∀ (R':List G6) (i:Nat) σ',i0≤i→R'.Perm R0→CR ku R' n→(∀ k,n≤k→R'[k]?=R0[k]?)→(i=i0→R'=R0)→H (K7 cb cs rowv R' I0) σ'→Q (.bool (decide (i0<i))) σ') :
 E GK [.iface BD (.pointer (some ⟨cb,4,none⟩)),.int .i64 i0,.int .i64 n] σ Q:=by
 apply dM; unfold UQ
 refine ⟨fun m x0 x1 x2 x7 τ=>∃ (R:List G6) (i:Nat),m=n - i∧i≤n∧x0=.iface BD (.pointer (some ⟨cb,4,none⟩))∧x1=.int .i64 i0∧x2=.int .i64 n∧x7=.int .i64 i∧R.Perm R0∧JH ku R n i∧(∀ k,n≤k→R[k]?=R0[k]?)∧i0≤i∧(i=i0→R=R0)∧H (K7 cb cs rowv R I0) τ,
  ⟨_,R0,i0,rfl,hi0,rfl,rfl,rfl,rfl,List.Perm.refl _,hex,fun _ _=>rfl,Nat.le_refl _,fun _=>rfl,h⟩,?_⟩
 clear h hex
 rintro m _ _ _ _ τ ⟨R,i,rfl,hin,rfl,rfl,rfl,rfl,hp,hex,htl,hii,hsame,h⟩
 suffices hb:∀ N:Value→Value→Value→Value→AHeap→Prop,(∀ R' j τ',i<j→j<n→R'.Perm R0→JH ku R' n j→(∀ k,n≤k→R'[k]?=R0[k]?)→H (K7 cb cs rowv R' I0) τ'→N (.iface BD (.pointer (some ⟨cb,4,none⟩))) (.int .i64 i0) (.int .i64 n) (.int .i64 j) τ') →
  N7 N Q (.iface BD (.pointer (some ⟨cb,4,none⟩))) (.int .i64 i0) (.int .i64 n) (.int .i64 i) τ from
  hb _ fun R' j τ' h1 h2 a b c h'=>⟨_,by omega,R',j,rfl,by omega,rfl,rfl,rfl,rfl,a,b,c,by omega,fun e=>by omega,h'⟩
 intro N hN
 have hRl:=hp.length_eq
 have k5:(∀ k,0<k→k<n→(k - 1) / 2=i→Ky ku R i≤Ky ku R k)→∀ τ',H (K7 cb cs rowv R I0) τ'→JL Q (.int .i64 i) (.int .i64 i0) τ':=by
  intro hmin τ' h'
  unfold JL
  simp
  have e:decide ((i0:Int)<(i:Int))=decide (i0<i):=by
   by_cases g:i0<i
   ·rw [decide_eq_true g,decide_eq_true (by omega)]
   ·rw [decide_eq_false g,decide_eq_false (by omega)]
  have:=hk R i τ' hii hp (hex.done hmin) htl hsame h'
  simpa [e] using this
 unfold N7
 simp
 have w1:IntKind.i64.wrap (2*(i:Int))=2*(i:Int):=wrap_i64 (by omega)
 have w2:IntKind.i64.wrap (2*(i:Int)+1)=((2*i+1:Nat):Int):=by rw [wrap_i64 (by omega)]; omega
 simp only [w1,w2]
 refine kU (fun g=>?_) fun g=>?_
 ·unfold H2
  simp
  exact k5 (fun k h0 hk2 hp2=>by omega) τ h
 ·have hlt:¬ ((2*i+1:Nat):Int)<0:=by omega
  rw [decide_eq_false hlt]
  unfold H2
  simp only [m7,t4,A4,AAj]
  have w3:IntKind.i64.wrap (((2*i+1:Nat):Int)+1)=((2*i+2:Nat):Int):=by rw [wrap_i64 (by omega)]; omega
  simp only [w3]
  have hj1:2*i+1<n:=by omega
  have x1:=List.getElem?_eq_getElem (show 2*i+1<R.length by omega)
  have xi:=List.getElem?_eq_getElem (show i<R.length by omega)
  -- with the SM child
  have k10:∀ j,j<n→(j - 1) / 2=i→0<j→(∀ k,0<k→k<n→(k - 1) / 2=i→Ky ku R j≤Ky ku R k)→I2 N Q (.iface BD (.pointer (some ⟨cb,4,none⟩))) (.int .i64 j) (.int .i64 i) (.int .i64 i0) (.int .i64 n) τ:=by
   intro j hjn hpj hj0 hmin
   have xj:=List.getElem?_eq_getElem (show j<R.length by omega)
   unfold I2
   rw [pT,IT hcs h]
   simp
   refine j5 h xj xi ?_
   simp only [xF,A4]
   by_cases hl:R[j].used<R[i].used
   ·rw [decide_eq_true hl]
    simp
    rw [AAA,IT hcs h]
    simp
    refine tV h xi xj ?_
    intro τ1 h1
    refine hN _ j τ1 (by omega) hjn ((TQ R (by omega) (by omega)).trans hp) (hex.step (by omega) hjn hpj hj0 hmin (by rw [F7 xj,F7 xi]; exact hl)) ?_ h1
    intro k hk2
    rw [O8 (by omega) (by omega),if_neg (by omega),if_neg (by omega)]
    exact htl k hk2
   ·rw [decide_eq_false hl]
    simp
    refine k5 (fun k h0 hk2 hp2=>?_) τ h
    have:=hmin k h0 hk2 hp2
    rw [F7 xj] at this
    rw [F7 xi]; omega
  by_cases h2:2*i+2<n
  ·rw [decide_eq_true (show ((2*i+2:Nat):Int)<(n:Int) by omega)]
   simp only [ABL]
   have x2:=List.getElem?_eq_getElem (show 2*i+2<R.length by omega)
   rw [pT,IT hcs h]
   simp only [Option.bind_some,A4]
   refine j5 h x2 x1 ?_
   unfold H3
   refine UT (fun g2=>?_) fun g2=>?_
   ·refine k10 (2*i+2) h2 (by omega) (by omega) ?_
    intro k h0 hk2 hp2
    rcases (show k=2*i+1∨k=2*i+2 by omega) with rfl | rfl
    ·rw [F7 x1,F7 x2]; omega
    ·exact Nat.le_refl _
   ·refine k10 (2*i+1) hj1 (by omega) (by omega) ?_
    intro k h0 hk2 hp2
    rcases (show k=2*i+1∨k=2*i+2 by omega) with rfl | rfl
    ·exact Nat.le_refl _
    ·rw [F7 x1,F7 x2]; omega
  ·rw [decide_eq_false (show ¬ ((2*i+2:Nat):Int)<(n:Int) by omega)]
   simp only [yN]
   unfold H3
   simp only [m7]
   refine k10 (2*i+1) hj1 (by omega) (by omega) ?_
   intro k h0 hk2 hp2
   have:k=2*i+1:=by omega
   rw [this]; exact Nat.le_refl _
end
end Go.Ax.O
set_option maxRecDepth 100000
namespace Go.Ax.O
open Go.Proofs Go.RowKit
variable {l m:List AJ} {σ:AHeap} {Q:WK}
section
variable {cb:Nat} {cs:List Value} {rowv:Value} {R:List G6} {I0:AJ}
abbrev hv (cb:Nat):Value:=.iface BD (.pointer (some ⟨cb,4,none⟩))
theorem ACT {p:Nat} {x:G6} (hcs:cs.length=4) (h:H (K7 cb cs rowv R I0) σ) (hx:R[p]?=some x) (hb:R.length<1099511627776) (hex:JH ku R R.length p) (hmax:∀ k,k<R.length→Ky ku R k≤x.used)
 (hk:∀ R' σ',R'.Perm R→CR ku R' R'.length→H (K7 cb cs rowv R' I0) σ'→Q (.tuple #[]) σ'):E WV [hv cb,.int .i64 p] σ Q:=by
 have hpl:=(List.getElem?_eq_some_iff.1 hx).1
 apply iB; unfold W3
 rw [zR,IT hcs h]
 simp only [Option.bind_some,A4]
 refine qB h ?_
 refine VL hcs h (Nat.le_refl _) hb (by omega) hex ?_
 intro R' i σ1 hi hp hok _ hsame h1
 simp only [xF,A4]
 have hl:=hp.length_eq
 by_cases hlt:p<i
 ·rw [decide_eq_true hlt]
  simp
  exact hk R' σ1 hp (by rw [hl]; exact hok) h1
 ·have hip:i=p:=by omega
  have hR:=hsame hip
  subst hR
  rw [decide_eq_false hlt]
  simp
  refine ABf hcs h1 hx hb (fun k hk=>hmax k (by omega)) ?_
  exact hk R' σ1 hp hok h1
theorem wP {p:Nat} {x:G6} (hcs:cs.length=4) (h:H (K7 cb cs rowv R (AW [BV p x,I0])) σ) (hb:R.length<1099511627775) (hmax:∀ k,k<R.length→Ky ku R k≤x.used)
 (hk:∀ rowv' σ',H (K7 cb cs rowv' (R++[x]) I0) σ'→Q (.tuple #[]) σ'):E I9 [hv cb,.iface AK (.pointer (some ⟨x.ib,0,none⟩))] σ Q:=by
 apply gI; unfold TA
 rw [ACq]
 simp only [A4]
 refine zY hcs h (by omega) ?_
 intro rowv' σ1 h1
 rw [zR,IT hcs h1]
 simp only [Option.bind_some,A4]
 refine qB h1 ?_
 simp
 rw [wrap_i64 (by omega)]
 refine ABf (x:=x) hcs h1 (by simp) (by simp; omega) (fun k hk=>?_) (hk rowv' σ1 h1)
 have:=hmax k hk
 unfold Ky at this ⊢
 rw [List.getElem?_append_left hk]; exact this
theorem AAU {n:Nat} {x:G6} (hcs:cs.length=4) (h:H (K7 cb cs rowv R I0) σ) (hn:R.length=n+1) (hx:R[0]?=some x) (hb:R.length<1099511627776) (hok:CR ku R (n+1))
 (hk:∀ rowv' R' σ',(R'++[x]).Perm R→CR ku R' R'.length→H (K7 cb cs rowv' R' (AW [BV n x,I0])) σ'→Q (.iface AK (.pointer (some ⟨x.ib,0,none⟩))) σ'):E KT [hv cb] σ Q:=by
 apply gV; unfold W4
 rw [zR,IT hcs h]
 simp only [Option.bind_some,A4]
 refine qB h ?_
 simp only [AAQ,A4]
 rw [wrap_i64 (by omega),show (R.length:Int) - 1=(n:Int) by omega,AAA,IT hcs h]
 simp only [Option.bind_some,A4]
 have hy:=List.getElem?_eq_getElem (show n<R.length by omega)
 refine tV (i:=0) h hx hy ?_
 intro σ1 h1
 have hsl:=I5 R 0 n
 refine VL (i0:=0) hcs h1 (by rw [hsl]; omega) (by rw [hsl]; exact hb) (by omega) (hok.pop (by omega)) ?_
 intro R' i σ2 _ hp hok2 htl _ h2
 rw [ADa]
 simp only [A4]
 have hl:R'.length=n+1:=by rw [hp.length_eq,hsl,hn]
 have hx2:R'[n]?=some x:=by rw [htl n (Nat.le_refl _),O8 (by omega) (by omega),if_pos rfl,hx]
 refine AAT hcs h2 hl hx2 (by omega) ?_
 intro rowv' σ3 h3
 refine hk rowv' (R'.take n) σ3 ?_ ?_ h3
 ·have e:R'.take n++[x]=R':=by
   have h5:R'.take (n+1)=R'.take n++[x]:=by rw [List.take_add_one,hx2]; rfl
   rw [← h5,← hl,List.take_length]
  rw [e]
  exact hp.trans (TQ R (by omega) (by omega))
 ·rw [List.length_take,Nat.min_eq_left (by omega)]
  refine hok2.congr fun k hk=>?_
  rw [List.getElem?_take,if_pos hk]
end
abbrev Ent:=Nat×Value×Nat
def u7 (e:Ent):MapEntry:={ key:=.int .i64 e.1,val:=e.2.1,born:=e.2.2 }
theorem mI (a:Nat):∀ (es:List Ent) (i:Nat),(∀ e∈es,e.1≠a)→Instr.findNow (.int .i64) (.int .i64 a) (es.map u7) i=some none
 | [],i,_=>rfl
 | e::es,i,h=>by
   have h1:e.1≠a:=h e (by simp)
   have:Instr.sameNow (.int .i64) (.int .i64 a) (u7 e).key=some false:=by
    simp [Instr.sameNow,u7]; omega
   simp only [List.map_cons,Instr.findNow,this]
   exact mI a es (i+1) fun x hx=>h x (by simp [hx])
theorem d9 (a:Nat):∀ (es:List Ent) (i k:Nat) (e:Ent),(es.map (·.1)).Nodup→es[k]?=some e→e.1=a→Instr.findNow (.int .i64) (.int .i64 a) (es.map u7) i=some (some (i+k,e.2.1))
 | [],i,k,e,_,h,_=>by simp at h
 | x::es,i,0,e,_,h,h1=>by
   simp at h; subst h; subst h1
   have:Instr.sameNow (.int .i64) (.int .i64 (x.1:Nat)) (u7 x).key=some true:=by simp [Instr.sameNow,u7]
   simp only [List.map_cons,Instr.findNow,this]
   simp [u7]
 | x::es,i,k+1,e,hn,h,h1=>by
   simp at h
   simp only [List.map_cons,List.nodup_cons] at hn
   have hx:x.1≠a:=by
    intro e2
    exact hn.1 (List.mem_map.2 ⟨e,List.mem_of_getElem? h,by rw [h1,e2]⟩)
   have:Instr.sameNow (.int .i64) (.int .i64 a) (u7 x).key=some false:=by
    simp [Instr.sameNow,u7]; omega
   simp only [List.map_cons,Instr.findNow,this]
   rw [d9 a es (i+1) k e hn.2 h h1]
   congr 3; omega
theorem tG {b clock:Nat} {es:List MapEntry} (hm:H (pt b (.map es clock)::m) σ):MJ (.map (some b)) σ=some es:=by
 simp [MJ,hm.get0.1]
theorem jQ (x k:Value) (ok:Bool) (σ:AHeap):IW P A9 x k ok σ=(MJ x σ).bind fun es=>(P7 (.int .i64) k es).bind fun r=>match r with
 | some (_,v)=>some (okV ok v true)
 | none=>some (okV ok (.pointer none) false):=by kernel_rfl
theorem t9 (r:Nat) (k v:Value) (σ:AHeap):I8 P A9 (.map (some r)) k v σ=match σ.get r with
 | some (.map es clock)=>cond (oF k) ((P7 (.int .i64) k es).bind fun f=>match f with
   | some (i,_)=>some (σ.set r (.map (es.modify i fun e=>{ e with key:=k,val:=v }) clock))
   | none=>some (σ.set r (.map (es++[{ key:=k,val:=v,born:=clock }]) (clock+1)))) none
 | _=>none:=by kernel_rfl
theorem u9 (r:Nat) (k:Value) (σ:AHeap):R7 P A9 (.map (some r)) k σ=match σ.get r with
 | some (.map es clock)=>(P7 (.int .i64) k es).bind fun f=>match f with
   | some (i,_)=>some (σ.set r (.map (es.eraseIdx i) clock))
   | none=>some (σ.set r (.map es clock))
 | _=>none:=by kernel_rfl
structure bC (es:List Ent) (L:List (Nat×Nat)):Prop where
 nd:(es.map (·.1)).Nodup
 to:∀ e∈es,∃ p∈L,e.1=p.1∧e.2.1=.pointer (some ⟨p.2,0,none⟩)
 from':∀ p∈L,∃ e∈es,e.1=p.1∧e.2.1=.pointer (some ⟨p.2,0,none⟩)
theorem bC.perm {es:List Ent} {L M:List (Nat×Nat)} (h:bC es L) (hp:L.Perm M):bC es M :=
 ⟨h.nd,fun e he=>by obtain ⟨p,hp1,hp2⟩:=h.to e he; exact ⟨p,hp.mem_iff.1 hp1,hp2⟩,fun p hp1=>h.from' p (hp.mem_iff.2 hp1)⟩
def GJ (mb:Nat) (L:List (Nat×Nat)):AJ:=ex fun p:List Ent×Nat=>sep (IU (bC p.1 L)) (pt mb (.map (p.1.map u7) p.2))
theorem iU {mb:Nat} {L M:List (Nat×Nat)} (hp:L.Perm M):GJ mb L=GJ mb M:=by
 funext r; apply propext
 constructor
 ·rintro ⟨p,a,b,j,⟨rfl,h1⟩,h2⟩; exact ⟨p,_,b,j,⟨rfl,h1.perm hp⟩,h2⟩
 ·rintro ⟨p,a,b,j,⟨rfl,h1⟩,h2⟩; exact ⟨p,_,b,j,⟨rfl,h1.perm hp.symm⟩,h2⟩
theorem aG {mb a i:Nat} {L:List (Nat×Nat)} (ok:Bool) (h:H l σ) (hi:l[i]?=some (GJ mb L)) (hno:∀ p∈L,p.1≠a):IW P A9 (.map (some mb)) (.int .i64 a) ok σ=some (okV ok (.pointer none) false):=by
 obtain ⟨⟨es,clock⟩,h1⟩:=KN.1 (h.front i hi)
 rw [BE] at h1
 obtain ⟨hm,h2⟩:=BZ.1 h1
 rw [jQ,tG h2]
 simp only [Option.bind_some,P7,V2,cond_true]
 rw [mI a es 0 fun e he=>by obtain ⟨p,hp,e1,_⟩:=hm.to e he; rw [e1]; exact hno p hp]
 rfl
theorem XN {mb i:Nat} {L:List (Nat×Nat)} {p:Nat×Nat} (ok:Bool) (h:H l σ) (hi:l[i]?=some (GJ mb L)) (hp:p∈L):IW P A9 (.map (some mb)) (.int .i64 p.1) ok σ=some (okV ok (.pointer (some ⟨p.2,0,none⟩)) true):=by
 obtain ⟨⟨es,clock⟩,h1⟩:=KN.1 (h.front i hi)
 rw [BE] at h1
 obtain ⟨hm,h2⟩:=BZ.1 h1
 rw [jQ,tG h2]
 simp only [Option.bind_some,P7,V2,cond_true]
 obtain ⟨e,he,e1,e2⟩:=hm.from' p hp
 obtain ⟨k,hk,hke⟩:=List.getElem_of_mem he
 rw [d9 p.1 es 0 k e hm.nd (by rw [List.getElem?_eq_getElem hk,hke]) e1,e2]
 rfl
theorem rO {mb a ib i:Nat} {L:List (Nat×Nat)} {k:AHeap→Prop} (h:H l σ) (hi:l[i]?=some (GJ mb L)) (hno:∀ p∈L,p.1≠a) (hk:∀ σ',H (l.set i (GJ mb (L++[(a,ib)]))) σ'→k σ') :
 pu (I8 P A9 (.map (some mb)) (.int .i64 a) (.pointer (some ⟨ib,0,none⟩)) σ) k:=by
 obtain ⟨⟨es,clock⟩,h1⟩:=KN.1 (h.front i hi)
 rw [BE] at h1
 obtain ⟨hm,h2⟩:=BZ.1 h1
 have hm:bC es L:=hm
 rw [t9,h2.get0.1]
 simp only [oF,cond_true,P7,V2]
 have hne:∀ e∈es,e.1≠a:=fun e he=>by obtain ⟨p,hp,e1,_⟩:=hm.to e he; rw [e1]; exact hno p hp
 rw [mI a es 0 hne]
 simp only [Option.bind_some,A4]
 have h3:=h2.set0 (.map ((es++[((a,.pointer (some ⟨ib,0,none⟩),clock):Ent)]).map u7) (clock+1))
 refine hk _ (H.back i hi (KN.2 ⟨(es++[(a,.pointer (some ⟨ib,0,none⟩),clock)],clock+1),?_⟩))
 rw [BE]
 refine BZ.2 ⟨⟨?_,?_,?_⟩,?_⟩
 ·simp only [List.map_append,List.map_cons,List.map_nil]
  rw [List.nodup_append]
  refine ⟨hm.nd,by simp,?_⟩
  intro x hx y hy
  simp at hy; subst hy
  obtain ⟨e,he,rfl⟩:=List.mem_map.1 hx
  exact hne e he
 ·intro e he
  rcases List.mem_append.1 he with he | he
  ·obtain ⟨p,hp,hpe⟩:=hm.to e he
   exact ⟨p,List.mem_append_left _ hp,hpe⟩
  ·simp at he; subst he
   exact ⟨(a,ib),by simp,rfl,rfl⟩
 ·intro p hp
  rcases List.mem_append.1 hp with hp | hp
  ·obtain ⟨e,he,hpe⟩:=hm.from' p hp
   exact ⟨e,List.mem_append_left _ he,hpe⟩
  ·simp at hp; subst hp
   exact ⟨(a,.pointer (some ⟨ib,0,none⟩),clock),by simp,rfl,rfl⟩
 ·simpa [u7] using h3
theorem U4 {α β:Type} (f:α→β):∀ (l:List α) (j:Nat),(l.eraseIdx j).map f=(l.map f).eraseIdx j
 | [],j=>by simp
 | x::l,0=>by simp
 | x::l,j+1=>by simp [U4 f l j]
theorem qX {mb i:Nat} {L:List (Nat×Nat)} {p:Nat×Nat} {k:AHeap→Prop} (h:H l σ) (hi:l[i]?=some (GJ mb (L++[p]))) (hno:∀ q∈L,q.1≠p.1) (hk:∀ σ',H (l.set i (GJ mb L)) σ'→k σ') :
 pu (R7 P A9 (.map (some mb)) (.int .i64 p.1) σ) k:=by
 obtain ⟨⟨es,clock⟩,h1⟩:=KN.1 (h.front i hi)
 rw [BE] at h1
 obtain ⟨hm,h2⟩:=BZ.1 h1
 have hm:bC es (L++[p]):=hm
 rw [u9,h2.get0.1]
 simp only [P7,V2,cond_true]
 obtain ⟨e,he,e1,e2⟩:=hm.from' p (by simp)
 obtain ⟨j,hj,hje⟩:=List.getElem_of_mem he
 rw [d9 p.1 es 0 j e hm.nd (by rw [List.getElem?_eq_getElem hj,hje]) e1]
 simp only [Option.bind_some,A4,Nat.zero_add]
 have h3:=h2.set0 (.map ((es.eraseIdx j).map u7) clock)
 refine hk _ (H.back i hi (KN.2 ⟨(es.eraseIdx j,clock),?_⟩))
 rw [BE]
 have hsub:∀ x∈es.eraseIdx j,x∈es∧x.1≠p.1:=by
  intro x hx
  have hxe:=List.mem_of_mem_eraseIdx hx
  refine ⟨hxe,fun e3=>?_⟩
  obtain ⟨k,hk,hkj⟩:=List.mem_eraseIdx_iff_getElem.1 hx
  have h5:(es.map (·.1))[k]'(by simpa using hk)=(es.map (·.1))[j]'(by simpa using hj):=by
   simp only [List.getElem_map,hkj.2,hje,e3,e1]
  exact hkj.1 ((List.getElem_inj hm.nd).1 h5)
 refine BZ.2 ⟨⟨?_,?_,?_⟩,?_⟩
 ·rw [U4]
  exact hm.nd.sublist (List.eraseIdx_sublist _ _)
 ·intro x hx
  obtain ⟨hxe,hxn⟩:=hsub x hx
  obtain ⟨q,hq,hq1,hq2⟩:=hm.to x hxe
  rcases List.mem_append.1 hq with hq | hq
  ·exact ⟨q,hq,hq1,hq2⟩
  ·simp at hq; subst hq; exact absurd hq1 hxn
 ·intro q hq
  obtain ⟨x,hx,hx1,hx2⟩:=hm.from' q (List.mem_append_left _ hq)
  refine ⟨x,?_,hx1,hx2⟩
  obtain ⟨k,hk,hkx⟩:=List.getElem_of_mem hx
  refine List.mem_eraseIdx_iff_getElem.2 ⟨k,hk,?_,hkx⟩
  intro e3
  subst e3
  have:x=e:=by rw [← hkx,← hje]
  exact hno q hq (by rw [← hx1,this,e1])
 ·rw [U4]  at h3
  rw [U4]; exact h3
end Go.Ax.O
set_option maxRecDepth 100000
namespace Go.Ax.O
open Go.Proofs Go.RowKit
variable {l m:List AJ} {σ:AHeap} {Q:WK}
theorem nU {α:Type} {R A B:List α} {k:Nat} {x y:α} (hk:R[k]?=some x) (hp:R.Perm (A++x::B)):(R.set k y).Perm (A++y::B):=by
 have hlt:=(List.getElem?_eq_some_iff.1 hk).1
 have e1:R=R.take k++x::R.drop (k+1):=by
  have:=List.getElem_cons_drop hlt
  rw [(List.getElem?_eq_some_iff.1 hk).2] at this
  rw [this,List.take_append_drop]
 have e2:R.set k y=R.take k++y::R.drop (k+1):=by
  rw [List.set_eq_take_append_cons_drop,if_pos hlt]
 rw [e2]
 rw [e1] at hp
 have h1:=(List.perm_middle.symm.trans hp).trans List.perm_middle
 have h2:=h1.cons_inv
 exact (List.perm_middle.trans (h2.cons y)).trans List.perm_middle.symm
def pairs (R:List G6):List (Nat×Nat):=R.map fun r=>(r.pl,r.ib)
structure SY (R M:List G6) (now:Nat):Prop where
 perm:R.Perm M
 srt:M.Pairwise fun a b=>a.used<b.used
 le:∀ r∈M,r.used≤now
 heap:CR ku R R.length
 nd:(M.map (·.pl)).Nodup
theorem SY.top {R M:List G6} {now:Nat} {x:G6} (h:SY R (x::M) now):R[0]?=some x:=by
 have hl:=h.perm.length_eq
 have h0:=List.getElem?_eq_getElem (show 0<R.length by rw [hl]; simp)
 have hm:R[0]'(by rw [hl]; simp)∈x::M:=h.perm.mem_iff.1 (List.getElem_mem _)
 rcases List.mem_cons.1 hm with e | hm
 ·rw [h0,e]
 ·exfalso
  have hs:=List.pairwise_cons.1 h.srt
  have h1:=hs.1 _ hm
  have hx:x∈R:=h.perm.mem_iff.2 (by simp)
  obtain ⟨k,hk,hkx⟩:=List.getElem_of_mem hx
  have h2:=h.heap.top k hk
  rw [F7 h0,F7 (x:=x) (by rw [List.getElem?_eq_getElem hk,hkx])] at h2
  omega
theorem SY.use {R R' A B:List G6} {x x':G6} {now:Nat} (h:SY R (A++x::B) now) (hu:x'.used=now+1) (hpl:x'.pl=x.pl) (hp:R'.Perm (A++x'::B)) (hok:CR ku R' R'.length):SY R' (A++B++[x']) (now+1):=by
 have hs:=h.srt
 have hsub:(A++B).Sublist (A++x::B):=List.Sublist.append (List.Sublist.refl _) (List.sublist_cons_self _ _)
 refine ⟨?_,?_,?_,hok,?_⟩
 ·refine hp.trans ?_
  rw [List.append_assoc]
  exact List.Perm.append_left A (by simpa using (List.perm_append_comm (l₁:=[x']) (l₂:=B)))
 ·rw [List.pairwise_append]
  refine ⟨hs.sublist hsub,List.pairwise_singleton _ _,?_⟩
  intro a ha b hb
  simp at hb; subst hb
  have:=h.le a (hsub.subset ha)
  omega
 ·intro r hr
  rcases List.mem_append.1 hr with hr | hr
  ·have:=h.le r (hsub.subset hr); omega
  ·simp at hr; subst hr; omega
 ·have h1:=h.nd
  simp only [List.map_append,List.map_cons,List.map_nil] at h1 ⊢
  rw [hpl]
  refine (List.Perm.nodup_iff ?_).1 h1
  rw [List.append_assoc]
  exact List.Perm.append_left _ (by simpa using (List.perm_append_comm (l₁:=[x.pl]) (l₂:=B.map (·.pl))))
theorem SY.new {R R' M:List G6} {x:G6} {now:Nat} (h:SY R M now) (hu:x.used=now+1) (hpl:∀ r∈M,r.pl≠x.pl) (hp:R'.Perm (M++[x])) (hok:CR ku R' R'.length):SY R' (M++[x]) (now+1):=by
 refine ⟨hp,?_,?_,hok,?_⟩
 ·rw [List.pairwise_append]
  refine ⟨h.srt,List.pairwise_singleton _ _,?_⟩
  intro a ha b hb
  simp at hb; subst hb
  have:=h.le a ha
  omega
 ·intro r hr
  rcases List.mem_append.1 hr with hr | hr
  ·have:=h.le r hr; omega
  ·simp at hr; subst hr; omega
 ·simp only [List.map_append,List.map_cons,List.map_nil]
  rw [List.nodup_append]
  refine ⟨h.nd,by simp,?_⟩
  intro a ha b hb
  simp at hb; subst hb
  obtain ⟨r,hr,rfl⟩:=List.mem_map.1 ha
  exact hpl r hr
theorem SY.out {R R' M:List G6} {x:G6} {now:Nat} (h:SY R (x::M) now) (hp:(R'++[x]).Perm R) (hok:CR ku R' R'.length):SY R' M now:=by
 refine ⟨?_,(List.pairwise_cons.1 h.srt).2,fun r hr=>h.le r (by simp [hr]),hok,?_⟩
 ·have h1:(x::R').Perm (x::M):=((List.perm_append_comm (l₁:=[x]) (l₂:=R')).trans hp).trans h.perm
  exact h1.cons_inv
 ·have:=h.nd
  simp only [List.map_cons,List.nodup_cons] at this
  exact this.2
theorem SY.mod {R A B:List G6} {x y:G6} {k now:Nat} (h:SY R (A++x::B) now) (hk:R[k]?=some x) (hu:y.used=x.used) (hpl:y.pl=x.pl):SY (R.set k y) (A++y::B) now:=by
 have hlt:=(List.getElem?_eq_some_iff.1 hk).1
 refine ⟨nU hk h.perm,?_,?_,?_,?_⟩
 ·have hs:=h.srt
  rw [List.pairwise_append,List.pairwise_cons] at hs ⊢
  obtain ⟨a,⟨b,c⟩,d⟩:=hs
  refine ⟨a,⟨fun z hz=>by rw [hu]; exact b z hz,c⟩,fun z hz w hw=>?_⟩
  rcases List.mem_cons.1 hw with rfl | hw
  ·rw [hu]; exact d z hz x (by simp)
  ·exact d z hz w (by simp [hw])
 ·intro r hr
  rcases List.mem_append.1 hr with hr | hr
  ·exact h.le r (by simp [hr])
  ·rcases List.mem_cons.1 hr with rfl | hr
   ·rw [hu]; exact h.le x (by simp)
   ·exact h.le r (by simp [hr])
 ·have e:∀ j,Ky ku (R.set k y) j=Ky ku R j:=by
   intro j
   unfold Ky
   rw [List.getElem?_set]
   by_cases e:k=j
   ·subst e; rw [if_pos rfl,if_pos hlt,hk]; simp only [Option.map_some,Option.getD_some]; exact hu
   ·rw [if_neg e]
  rw [List.length_set]
  intro j h0 hj
  rw [e,e]; exact h.heap j h0 hj
 ·have:=h.nd
  simp only [List.map_append,List.map_cons] at this ⊢
  rw [hpl]; exact this
end Go.Ax.O
set_option maxRecDepth 100000
namespace Go.Ax.O
open Go.Proofs Go.RowKit
variable {l m:List AJ} {σ:AHeap} {Q:WK}
def CO (cb:Nat) (dv:Value) (nn now mb:Nat) (rowv:Value) (R M:List G6) (I0:AJ):List AJ :=
 [pt cb (.cells [dv,.int .i64 nn,.int .u64 now,.map (some mb),rowv] AU false),A5 AK 1 rowv R.length (DA R),AW (A8 0 R),GJ mb (pairs M),I0]
section
variable {cb nn now mb:Nat} {dv rowv:Value} {R M:List G6} {I0:AJ}
abbrev c4 (dv:Value) (nn now mb:Nat):List Value:=[dv,.int .i64 nn,.int .u64 now,.map (some mb)]
theorem k9:H (CO cb dv nn now mb rowv R M I0) σ↔H (K7 cb (c4 dv nn now mb) rowv R (AW [GJ mb (pairs M),I0])) σ:=by
 constructor
 ·intro h
  have h1:H [GJ mb (pairs M),I0,pt cb (.cells (c4 dv nn now mb++[rowv]) AU false),A5 AK 1 rowv R.length (DA R),AW (A8 0 R)] σ:=h.pick [3,4,0,1,2] (by decide)
  exact ((BC (l:=[GJ mb (pairs M),I0])).2 h1).pick [1,2,3,0] (by decide)
 ·intro h
  have h1:H [AW [GJ mb (pairs M),I0],pt cb (.cells (c4 dv nn now mb++[rowv]) AU false),A5 AK 1 rowv R.length (DA R),AW (A8 0 R)] σ:=h.pick [3,0,1,2] (by decide)
  exact ((BC (l:=[GJ mb (pairs M),I0])).1 h1).pick [2,3,4,0,1] (by decide)
theorem ABQ {M':List G6} (hp:(pairs M).Perm (pairs M')):CO cb dv nn now mb rowv R M I0=CO cb dv nn now mb rowv R M' I0:=by
 unfold CO; rw [iU hp]
theorem xW {k:Nat} {x:G6} (h:H (CO cb dv nn now mb rowv R M I0) σ) (hk:R[k]?=some x) (hle:∀ r∈R,r.used≤now) (hok:CR ku R R.length) (hb:R.length<1099511627776)
 (hQ:∀ R' σ',R'.Perm (R.set k { x with used:=now })→CR ku R' R'.length→H (CO cb dv nn now mb rowv R' M I0) σ'→Q (.pointer (some ⟨x.ib,0,none⟩)) σ'):FM Q (.pointer (some ⟨x.ib,0,none⟩)) (.pointer (some ⟨cb,0,none⟩)) σ:=by
 have hkl:=(List.getElem?_eq_some_iff.1 hk).1
 unfold FM
 have r2:=BK (n:=1) (o:=2) (h.row 0 rfl)
 simp [r2]
 have h1:=KE (h.pick [2,0,1,3,4] (by decide)) hk
 unfold BV at h1
 rw [BE] at h1
 refine E9 h1 0 rfl rfl (by simp) ?_
 intro σ1 h2
 rw [zQ _ rfl]
 simp
 have r1:=BK (n:=1) (o:=1) (h2.row 0 rfl)
 simp [r1]
 have h3:=ZU (r:={ x with used:=now }) hkl (BE.2 h2)
 have h4:H (CO cb dv nn now mb rowv (R.set k { x with used:=now }) M I0) σ1:=by
  have h5:=h3.pick [1,2,0,3,4] (by decide)
  have e:DA (R.set k { x with used:=now })=DA R:=by
   unfold DA
   rw [List.map_set]
   apply List.ext_getElem?
   intro j
   rw [List.getElem?_set]
   split
   ·rename_i e; subst e
    rw [List.length_map,if_pos hkl,List.getElem?_map,hk]; rfl
   ·rfl
  unfold CO
  rw [e,List.length_set]
  exact h5
 have hx:(R.set k { x with used:=now })[k]?=some { x with used:=now }:=by rw [List.getElem?_set,if_pos rfl,if_pos hkl]
 have hxle:=hle x (List.mem_of_getElem? hk)
 refine ACT (cs:=c4 dv nn now mb) rfl (k9.1 h4) hx (by simpa using hb) ?_ ?_ ?_
 ·rw [List.length_set]
  exact hok.grow hkl (by rw [F7 hk]; exact hxle)
 ·intro j hj
  obtain ⟨y,hy⟩:∃ y,(R.set k { x with used:=now })[j]?=some y:=⟨_,List.getElem?_eq_getElem hj⟩
  rw [F7 hy]
  have hym:=List.mem_of_getElem? hy
  rcases List.mem_or_eq_of_mem_set hym with q | q
  ·exact hle y q
  ·rw [q]; exact Nat.le_refl _
 ·intro R' σ2 hp hok2 h5
  exact hQ R' σ2 hp hok2 (k9.2 h5)
theorem rX {A B:List G6} {x:G6} (h:H (CO cb dv nn now mb rowv R (A++x::B) I0) σ) (hc:SY R (A++x::B) now) (hnow:now+1<18446744073709551616) (hb:R.length<1099511627776)
 (hQ:∀ R' σ',SY R' (A++B++[{ x with used:=now+1 }]) (now+1)→H (CO cb dv nn (now+1) mb rowv R' (A++B++[{ x with used:=now+1 }]) I0) σ'→Q (.pointer (some ⟨x.ib,0,none⟩)) σ') :
 E D9 [.pointer (some ⟨cb,0,none⟩),.int .i64 x.pl] σ Q:=by
 apply MO; unfold HR
 have r2:=BK (n:=1) (o:=2) (h.row 0 rfl)
 simp [r2]
 rw [X6 (by omega)]
 refine E9 h 0 rfl rfl (by simp) ?_
 intro σ1 h1
 have r3:=BK (n:=1) (o:=3) (h1.row 0 rfl)
 simp [r3]
 have hl:=XN (p:=(x.pl,x.ib)) true h1 (i:=3) rfl (by simp [pairs])
 simp only at hl
 rw [hl]
 simp [okV]
 have hm:x∈R:=hc.perm.mem_iff.2 (by simp)
 obtain ⟨k,hk,hkx⟩:=List.getElem_of_mem hm
 have hk':R[k]?=some x:=by rw [List.getElem?_eq_getElem hk,hkx]
 have h2:H (CO cb dv nn (now+1) mb rowv R (A++x::B) I0) σ1:=h1
 refine xW h2 hk' (fun r hr=>by have:=hc.le r (hc.perm.mem_iff.1 hr); omega) hc.heap hb ?_
 intro R' σ2 hp hok h3
 have hp2:=hp.trans (nU (y:={ x with used:=now+1 }) hk' hc.perm)
 refine hQ R' σ2 (hc.use rfl rfl hp2 hok) ?_
 rw [ABQ (M':=A++x::B)]
 ·exact h3
 ·unfold pairs
  simp only [List.map_append,List.map_cons,List.map_nil,List.append_assoc]
  exact List.Perm.append_left _ (by simp)
theorem AAC {a:Nat} (h:H (CO cb dv nn now mb rowv R M I0) σ) (hc:SY R M now) (hno:∀ r∈M,r.pl≠a) (hnow:now+1<18446744073709551616) (hb:R.length<1099511627775)
 (hQ:∀ rowv' R' ib σ',SY R' (M++[⟨ib,a,now+1,false,.slice none 0 0,[]⟩]) (now+1)→H (CO cb dv nn (now+1) mb rowv' R' (M++[⟨ib,a,now+1,false,.slice none 0 0,[]⟩]) I0) σ'→Q (.pointer (some ⟨ib,0,none⟩)) σ') :
 E D9 [.pointer (some ⟨cb,0,none⟩),.int .i64 a] σ Q:=by
 apply MO; unfold HR
 have r2:=BK (n:=1) (o:=2) (h.row 0 rfl)
 simp [r2]
 rw [X6 (by omega)]
 refine E9 h 0 rfl rfl (by simp) ?_
 intro σ1 h1
 have r3:=BK (n:=1) (o:=3) (h1.row 0 rfl)
 have r2:=BK (n:=1) (o:=2) (h1.row 0 rfl)
 simp [r3]
 have hnp:∀ p∈pairs M,p.1≠a:=by
  intro p hp
  obtain ⟨r,hr,rfl⟩:=List.mem_map.1 hp
  exact hno r hr
 have hl:=aG (a:=a) true h1 (i:=3) rfl hnp
 rw [hl]
 simp [okV,r2,splice]
 refine S7 h1 ?_
 intro ib σ2 h2
 have r3:=BK (n:=1) (o:=3) (h2.row 0 rfl)
 simp [r3]
 refine rO h2 (i:=3) rfl hnp ?_
 intro σ3 h3
 rw [zQ _ rfl,ABh _ rfl]
 simp
 let x:G6:=⟨ib,a,now+1,false,.slice none 0 0,[]⟩
 have e1:pairs M++[(a,ib)]=pairs (M++[x]):=by simp [pairs,x]
 rw [e1] at h3
 have h4:H (K7 cb (c4 dv nn (now+1) mb) rowv R (AW [BV 0 x,AW [GJ mb (pairs (M++[x])),I0]])) σ3:=by
  have h5:H [BV 0 x,AW [GJ mb (pairs (M++[x])),I0],pt cb (.cells (c4 dv nn (now+1) mb++[rowv]) AU false),A5 AK 1 rowv R.length (DA R),AW (A8 0 R)] σ3:=by
   have h6:H [GJ mb (pairs (M++[x])),I0,pt cb (.cells (c4 dv nn (now+1) mb++[rowv]) AU false),A5 AK 1 rowv R.length (DA R),AW (A8 0 R),pt ib (.cells [.int .i64 a,.int .i64 0,.int .u64 (now+1),.bool false,.slice none 0 0] DY false)] σ3:=h3.pick [3,4,0,1,2,5] (by decide)
   have h7:=(BC (l:=[GJ mb (pairs (M++[x])),I0])).2 h6
   have h8:H [pt ib (.cells [.int .i64 a,.int .i64 0,.int .u64 (now+1),.bool false,.slice none 0 0] DY false),AW [GJ mb (pairs (M++[x])),I0],pt cb (.cells (c4 dv nn (now+1) mb++[rowv]) AU false),A5 AK 1 rowv R.length (DA R),AW (A8 0 R)] σ3:=h7.pick [4,0,1,2,3] (by decide)
   have hB:Ax.H (pX (.slice none 0 0) []::[pt ib (.cells [.int .i64 a,.int .i64 0,.int .u64 (now+1),.bool false,.slice none 0 0] DY false),AW [GJ mb (pairs (M++[x])),I0],pt cb (.cells (c4 dv nn (now+1) mb++[rowv]) AU false),A5 AK 1 rowv R.length (DA R),AW (A8 0 R)]) σ3 :=
    (BZ.2 ⟨⟨rfl,rfl⟩,h8⟩:H (IU (Value.slice none 0 0=.slice none 0 0∧([]:List UInt8)=[])::_) σ3).map0 fun r hr=>.inl hr
   unfold BV
   rw [BE]
   exact hB.pick [1,0,2,3,4,5] (by decide)
  exact ((BC (l:=[BV 0 x,AW [GJ mb (pairs (M++[x])),I0]])).2 h5).pick [1,2,3,0] (by decide)
 have hleR:∀ r∈R,r.used≤now:=fun r hr=>hc.le r (hc.perm.mem_iff.1 hr)
 refine wP (cs:=c4 dv nn (now+1) mb) (x:=x) rfl h4 hb ?_ ?_
 ·intro k hk
  rw [F7 (List.getElem?_eq_getElem hk)]
  have:=hleR _ (List.getElem_mem hk)
  show _≤now+1
  omega
 ·intro rowv' σ4 h5
  have h6:H (CO cb dv nn (now+1) mb rowv' (R++[x]) (M++[x]) I0) σ4:=k9.2 h5
  have hx:(R++[x])[R.length]?=some x:=by simp
  have hheap:CR ku (R++[x]) (R++[x]).length:=by
   intro k h0 hk
   simp only [List.length_append,List.length_cons,List.length_nil] at hk
   by_cases e:k=R.length
   ·subst e
    rw [F7 hx]
    have hp:(R.length - 1) / 2<R.length:=by omega
    rw [F7 (x:=R[(R.length - 1) / 2]) (by rw [List.getElem?_append_left hp,List.getElem?_eq_getElem hp])]
    have:=hleR _ (List.getElem_mem hp)
    show _≤now+1
    omega
   ·have:=hc.heap k h0 (by omega)
    unfold Ky at this ⊢
    rw [List.getElem?_append_left (by omega),List.getElem?_append_left (by omega)]
    exact this
  refine xW h6 hx ?_ hheap (by simp; omega) ?_
  ·intro r hr
   rcases List.mem_append.1 hr with hr | hr
   ·have:=hleR r hr; omega
   ·simp at hr; subst hr; exact Nat.le_refl _
  ·intro R' σ5 hp hok h7
   have e2:(R++[x]).set R.length { x with used:=now+1 }=R++[x]:=by simp [x]
   rw [e2] at hp
   refine hQ rowv' R' ib σ5 (hc.new rfl hno (hp.trans (hc.perm.append_right [x])) hok) h7
end
end Go.Ax.O
set_option maxRecDepth 100000
namespace Go.Ax.O
open Go.Proofs Go.RowKit
variable {l m:List AJ} {σ:AHeap} {Q:WK}
theorem OA {v:Value} {x:List UInt8} (hx:x≠[]):pX v x=gO v x:=by
 funext r; apply propext
 constructor
 ·rintro (⟨_,_,h⟩ | h)
  ·exact absurd h hx
  ·exact h
 ·exact .inr
structure DPlain (D:DM) (n:Nat):Prop where
 ok:D.Ok n
 off:D.off=false
 fuse:D.fuse=0
theorem DPlain.fling {D:DM} {n a:Nat} {bs:List UInt8} (h:DPlain D n) (ha:a<n) (hb:bs.length=256):DPlain (D.fling a bs) n:=⟨yS h.ok ha hb,h.off,h.fuse⟩
theorem o7 {α:Type} {R:List α} {k:Nat} {x:α} (hk:R[k]?=some x):R.set k x=R:=by
 apply List.ext_getElem?
 intro j
 rw [List.getElem?_set]
 split
 ·rename_i e; subst e; rw [hk,if_pos (List.getElem?_eq_some_iff.1 hk).1]
 ·rfl
theorem gB {R:List G6} {k:Nat} {x y:G6} (hk:R[k]?=some x) (hy:y.ib=x.ib):DA (R.set k y)=DA R:=by
 unfold DA
 rw [List.map_set,hy]
 exact o7 (by rw [List.getElem?_map,hk]; rfl)
section
variable {cb nn now mb n:Nat} {dv rowv:Value} {R M A B:List G6} {I0:AJ} {D:DM}
def UF (D:DM) (x:G6):DM:=if x.dirty then D.fling x.pl x.b else D
abbrev JT (x:G6):G6:={ x with dirty:=false }
theorem uC {x y:G6} (hpl:y.pl=x.pl) (hib:y.ib=x.ib):pairs (A++y::B)=pairs (A++x::B):=by simp [pairs,hpl,hib]
theorem AAG {k:Nat} {x:G6} (h:H (CO cb dv nn now mb rowv R (A++x::B) (AW [Disk dv D,I0])) σ) (hk:R[k]?=some x) (hD:DPlain D n) (hpl:x.pl<n) (hxb:x.b.length=256) (hm:D.fly.length<1099511627776)
 (hQ:∀ σ',H (CO cb dv nn now mb rowv (R.set k (JT x)) (A++JT x::B) (AW [Disk dv (UF D x),I0])) σ'→Q (.int .i64 0) σ'):E IG [.pointer (some ⟨cb,0,none⟩),.pointer (some ⟨x.ib,0,none⟩)] σ Q:=by
 have hkl:=(List.getElem?_eq_some_iff.1 hk).1
 apply RZ; unfold IK
 have h0:H [AW [Disk dv D,I0],AW (A8 0 R),pt cb (.cells [dv,.int .i64 nn,.int .u64 now,.map (some mb),rowv] AU false),A5 AK 1 rowv R.length (DA R),GJ mb (pairs (A++x::B))] σ:=h.pick [4,2,0,1,3] (by decide)
 have h1:H [AW (A8 0 R),Disk dv D,I0,pt cb (.cells [dv,.int .i64 nn,.int .u64 now,.map (some mb),rowv] AU false),A5 AK 1 rowv R.length (DA R),GJ mb (pairs (A++x::B))] σ:=((BC (l:=[Disk dv D,I0])).1 h0).pick [2,0,1,3,4,5] (by decide)
 have h2:=KE h1 hk
 unfold BV at h2
 rw [BE,OA (by intro e; rw [e] at hxb; simp at hxb)] at h2
 have r3:=BK (n:=1) (o:=3) (h2.row 0 rfl)
 have r0:=BK (n:=1) (o:=0) (h2.row 0 rfl)
 have r4:=BK (n:=1) (o:=4) (h2.row 0 rfl)
 have c0:=BK (n:=1) (o:=0) (h2.row 5 rfl)
 simp [r3]
 cases hd:x.dirty with
 | false =>
   simp
   have e:JT x=x:=by cases x; simp_all [JT]
   have e2:UF D x=D:=by simp [UF,hd]
   rw [e,e2,o7 hk] at hQ
   exact hQ σ h
 | true =>
   simp [r0,r4,c0]
   refine vX (bs:=x.b) h2 3 rfl hD.ok (by rw [hD.fuse]; omega) hm (by omega) (fun τ hτ=>hτ.rob_rd 1 rfl) ?_
   rw [oD hD.ok hD.off hD.fuse hpl hxb]
   intro σ1 h3
   simp
   refine E9 h3 0 rfl rfl (by simp) ?_
   intro σ2 h4
   have e2:UF D x=D.fling x.pl x.b:=by simp [UF,hd]
   rw [e2] at hQ
   refine hQ σ2 ?_
   have h5:H [pt x.ib (.cells [.int .i64 x.pl,.int .i64 k,.int .u64 x.used,.bool false,x.sv] DY false),gO x.sv x.b,AW ((A8 0 R).set k emp),Disk dv (D.fling x.pl x.b),I0,pt cb (.cells [dv,.int .i64 nn,.int .u64 now,.map (some mb),rowv] AU false),A5 AK 1 rowv R.length (DA R),GJ mb (pairs (A++x::B))] σ2:=h4
   rw [← OA (v:=x.sv) (x:=x.b) (by intro e; rw [e] at hxb; simp at hxb)] at h5
   have h6:=ZU (r:=JT x) hkl (BE.2 h5)
   have h7:=(BC (l:=[Disk dv (D.fling x.pl x.b),I0])).2 (h6.pick [1,2,0,3,4,5] (by decide))
   unfold CO
   rw [uC (x:=x) (y:=JT x) rfl rfl,gB (y:=JT x) hk rfl,List.length_set]
   exact h7.pick [2,3,1,4,0] (by decide)
theorem AAZ (h:H (CO cb dv nn now mb rowv R M I0) σ) (hlt:R.length<nn) (hQ:Q (.int .i64 0) σ):E DU [.pointer (some ⟨cb,0,none⟩)] σ Q:=by
 apply KH; unfold GY
 have r4:=BK (n:=1) (o:=4) (h.row 0 rfl)
 have r1:=BK (n:=1) (o:=1) (h.row 0 rfl)
 obtain ⟨_,_,a,c,rfl⟩:=h.own_src 1 rfl
 simp [r4,r1,hlt]
 exact hQ
theorem yF {x:G6} (h:H (CO cb dv nn now mb rowv R (x::M) (AW [Disk dv D,I0])) σ) (hc:SY R (x::M) now) (hge:nn≤R.length) (hb:R.length<1099511627776) (hD:DPlain D n) (hpl:x.pl<n) (hxb:x.b.length=256) (hm:D.fly.length<1099511627776)
 (hQ:∀ rowv' R' σ',SY R' M now→H (CO cb dv nn now mb rowv' R' M (AW [Disk dv (UF D x),I0])) σ'→Q (.int .i64 0) σ'):E DU [.pointer (some ⟨cb,0,none⟩)] σ Q:=by
 apply KH; unfold GY
 have r4:=BK (n:=1) (o:=4) (h.row 0 rfl)
 have r1:=BK (n:=1) (o:=1) (h.row 0 rfl)
 have hl:=hc.perm.length_eq
 simp only [List.length_cons] at hl
 obtain ⟨rb,rc,rfl,hrc,rest,hrow⟩:=h.own_form 1 rfl (by omega)
 have hnl:¬ (R.length:Int)<(nn:Int):=by omega
 simp [r4,r1]
 refine UT (fun g=>absurd g (by omega)) fun _=>?_
 have h0:=hc.top
 have rx:=BK (n:=1) (o:=0) hrow
 rw [List.getElem?_append_left (by rw [IS]; omega),MP h0] at rx
 rw [TG (by omega)]
 simp [rx]
 refine AAG (A:=[]) (B:=M) (k:=0) h h0 hD hpl hxb hm ?_
 intro σ1 h1
 simp
 rw [zQ _ rfl,A4]
 have hc1:SY (R.set 0 (JT x)) (JT x::M) now:=SY.mod (A:=[]) hc h0 rfl rfl
 have hl1:(R.set 0 (JT x)).length=M.length+1:=by rw [List.length_set]; exact hl
 refine AAU (n:=M.length) (x:=JT x) (cs:=c4 dv nn now mb) rfl (k9.1 h1) hl1 hc1.top (by omega) (by rw [← hl1]; exact hc1.heap) ?_
 intro rowv' R' σ2 hp hok h2
 rw [ABv]
 have h3:H [BV M.length (JT x),AW [GJ mb (pairs (JT x::M)),AW [Disk dv (UF D x),I0]],pt cb (.cells (c4 dv nn now mb++[rowv']) AU false),A5 AK 1 rowv' R'.length (DA R'),AW (A8 0 R')] σ2 :=
  (BC (l:=[BV M.length (JT x),AW [GJ mb (pairs (JT x::M)),AW [Disk dv (UF D x),I0]]])).1 (h2.pick [3,0,1,2] (by decide))
 have h4:H [GJ mb (pairs (JT x::M)),AW [Disk dv (UF D x),I0],BV M.length (JT x),pt cb (.cells (c4 dv nn now mb++[rowv']) AU false),A5 AK 1 rowv' R'.length (DA R'),AW (A8 0 R')] σ2 :=
  (BC (l:=[GJ mb (pairs (JT x::M)),AW [Disk dv (UF D x),I0]])).1 (h3.pick [1,0,2,3,4] (by decide))
 have e1:(pairs (JT x::M)).Perm (pairs M++[(x.pl,x.ib)]):=by
  exact (List.perm_append_singleton (x.pl,x.ib) (pairs M)).symm
 rw [iU e1] at h4
 have r3:=BK (n:=1) (o:=3) (h4.row 3 rfl)
 have h5:=h4.pick [2,0,1,3,4,5] (by decide)
 unfold BV at h5
 have q0:=BK (n:=1) (o:=0) ((BE.1 h5).row 0 rfl)
 simp [r3,q0]
 refine qX (p:=(x.pl,x.ib)) h4 (i:=0) rfl ?_ ?_
 ·intro q hq
  obtain ⟨r,hr,rfl⟩:=List.mem_map.1 hq
  have:=hc.nd
  simp only [List.map_cons,List.nodup_cons] at this
  intro e
  exact this.1 (List.mem_map.2 ⟨r,hr,e⟩)
 ·intro σ3 h6
  refine hQ rowv' R' σ3 (hc1.out hp hok) ?_
  exact h6.pick [3,4,5,0,1] (by decide)
end
end Go.Ax.O
