/- Texts of one proof, joined. No statement of the seat is proved here. -/
import Derived.Test.YtcnceningjookaaGreatSg3
set_option linter.unusedVariables false
set_option linter.unusedSimpArgs false
set_option linter.unnecessarySimpa false
set_option linter.constructorNameAsVariable false
set_option linter.unusedVariables false
set_option maxRecDepth 100000
namespace Go.Ax.C
open Go.Proofs
def s_order_right (E : EvT) (Q : RK) (x0 : Int) (σ : AHeap) : Prop :=
 If (decide (1 ≤ x0)) (
 Q (.ret (.bool (decide (x0 ≤ 8)))) σ) (
 Q (.ret (.bool false)) σ)
theorem q_order_right (E : EvT) (Q : RK) (x0 : Int) (σ : AHeap) : xfn P E Tryz.f162 (fun _ => none) (fun _ => .v) [(.int .i64 x0)] σ Q = s_order_right E Q x0 σ := by kernel_rfl
theorem e_order_right {Q : RK} {x0 : Int} {σ : AHeap} (h : s_order_right E Q x0 σ) : E f_order_right [(.int .i64 x0)] σ Q :=
  exfn Tryz.func162 _ _ (by kernel_rfl) (Eq.mpr (q_order_right E Q x0 σ) h)
def s_order_Put_b1 (N1 : Value → Int → AHeap → Prop) (E : EvT) (Q : RK) (n26 : Int) (v19 : Value) (n20 : Int) (τ27 : AHeap) : Prop :=
 If (decide (0 ≤ n20)) (
 Bi (w64 (8 * n20)) fun n37 =>
 Bi (wu64 (n37)) fun n38 =>
 ldI .u64 (aBin (some (.int .u64)) .shr (.int .u64 n26) (.int .u64 n38)) fun n39 =>
 Bi (wu8 (n39)) fun n40 =>
 wNew τ27 (.cells [(.int .u8 n40)] t_uint8 false) fun b41 τ42 =>
 pu (aAppend t_uint8 1 1 v19 (.slice (some ⟨b41, 0, none⟩) 1 1) τ42) fun r43 =>
 Bi (w64 (n20 - 1)) fun n46 =>
 N1 r43.1 n46 r43.2) (
 Q (.ret v19) τ27)
def s_order_Put (E : EvT) (Q : RK) (x0 : Value) (x1 x2 : Int) (σ : AHeap) : Prop :=
 E f_bytes_Clone [x0] σ (cV Q fun v4 τ3 =>
 E f_order_right [(.int .i64 x2)] τ3 (cB Q fun c9 τ8 =>
 If (!c9) (
 Q (.ret v4) τ8) (
 Bi (w64 (x2 - 1)) fun n17 =>
 ∃ I50 : Nat → Value → Int → AHeap → Prop, (∃ m, I50 m v4 n17 τ8) ∧
 ∀ m (v19 : Value) (n20 : Int) (σ' : AHeap), I50 m v19 n20 σ' → (s_order_Put_b1 (fun v19 n20 σ' => ∃ m', m' < m ∧ I50 m' v19 n20 σ') E Q x1 v19 n20 σ'))))
theorem q_order_Put (E : EvT) (Q : RK) (x0 : Value) (x1 x2 : Int) (σ : AHeap) : xfn P E Tryz.f123 (hl [(2, .loopr [1] [7, 8] [7] [7, 8])]) (fun | 8 => (.i .i64) | _ => .v) [x0, (.int .u64 x1), (.int .i64 x2)] σ Q = s_order_Put E Q x0 x1 x2 σ := by kernel_rfl
theorem e_order_Put {Q : RK} {x0 : Value} {x1 x2 : Int} {σ : AHeap} (h : s_order_Put E Q x0 x1 x2 σ) : E f_order_Put [x0, (.int .u64 x1), (.int .i64 x2)] σ Q :=
  exfn Tryz.func123 _ _ (by kernel_rfl) (Eq.mpr (q_order_Put E Q x0 x1 x2 σ) h)
def s_order_Get_b1 (N1 : Int → Int → AHeap → Prop) (E : EvT) (Q : RK) (v30 : Value) (n32 n27 n28 : Int) (τ33 : AHeap) : Prop :=
 If (decide (n28 < n32)) (
 om (aIndexAddr 1 v30 (.int .i64 n28)) fun v41 =>
 ldI .u8 (aLoad false 1 v41 τ33) fun n42 =>
 ldI .u64 (aBin (some (.int .u64)) .shl (.int .u64 n27) (.int .u64 8)) fun n47 =>
 Bi (wu64 (n42)) fun n49 =>
 Bi (wu64 ((BitVec.ofInt 64 n47 ||| BitVec.ofInt 64 n49).toNat)) fun n50 =>
 Bi (w64 (n28 + 1)) fun n54 =>
 N1 n50 n54 τ33) (
 Q (.ret (.tuple #[(.int .u64 n27), (.int .i64 0)])) τ33)
def s_order_Get (E : EvT) (Q : RK) (x0 : Value) (x1 : Int) (σ : AHeap) : Prop :=
 E f_order_right [(.int .i64 x1)] σ (cB Q fun c4 τ3 =>
 If (!c4) (
 Q (.ret (.tuple #[(.int .u64 0), (.int .i64 1)])) τ3) (
 ldI .i64 (lenS x0) fun n11 =>
 If (decide (n11 < x1)) (
 Q (.ret (.tuple #[(.int .u64 0), (.int .i64 4)])) τ3) (
 om (aSlice 1 x0 none (some (.int .i64 x1)) none) fun v24 =>
 ldI .i64 (lenS v24) fun n25 =>
 ∃ I58 : Nat → Int → Int → AHeap → Prop, (∃ m, I58 m 0 0 τ3) ∧
 ∀ m (n27 : Int) (n28 : Int) (σ' : AHeap), I58 m n27 n28 σ' → (s_order_Get_b1 (fun n27 n28 σ' => ∃ m', m' < m ∧ I58 m' n27 n28 σ') E Q v24 n25 n27 n28 σ'))))
theorem q_order_Get (E : EvT) (Q : RK) (x0 : Value) (x1 : Int) (σ : AHeap) : xfn P E Tryz.f126 (hl [(3, .loopr [18, 19] [6, 20] [6] [6, 20])]) (fun | 6 => (.i .u64) | 20 => (.i .i64) | _ => .v) [x0, (.int .i64 x1)] σ Q = s_order_Get E Q x0 x1 σ := by kernel_rfl
theorem e_order_Get {Q : RK} {x0 : Value} {x1 : Int} {σ : AHeap} (h : s_order_Get E Q x0 x1 σ) : E f_order_Get [x0, (.int .i64 x1)] σ Q :=
  exfn Tryz.func126 _ _ (by kernel_rfl) (Eq.mpr (q_order_Get E Q x0 x1 σ) h)
def s_crc_behind_b1 (N1 : Int → Int → AHeap → Prop) (E : EvT) (Q : RK) (n3 n4 : Int) (τ5 : AHeap) : Prop :=
 If (decide (n4 < 8)) (
 ldI .u32 (aBin (some (.int .u32)) .shr (.int .u32 n3) (.int .u64 1)) fun n11 =>
 Bi (wu32 ((BitVec.ofInt 32 n3 &&& BitVec.ofInt 32 1).toNat)) fun n12 =>
 Bi (wu32 (0 - n12)) fun n13 =>
 Bi (wu32 ((BitVec.ofInt 32 2197175160 &&& BitVec.ofInt 32 n13).toNat)) fun n14 =>
 Bi (wu32 ((BitVec.ofInt 32 n11 ^^^ BitVec.ofInt 32 n14).toNat)) fun n15 =>
 Bi (w64 (n4 + 1)) fun n20 =>
 N1 n15 n20 τ5) (
 Q (.ret (.int .u32 n3)) τ5)
def s_crc_behind (E : EvT) (Q : RK) (x0 : Int) (σ : AHeap) : Prop :=
 ∃ I24 : Nat → Int → Int → AHeap → Prop, (∃ m, I24 m x0 0 σ) ∧
 ∀ m (n3 : Int) (n4 : Int) (σ' : AHeap), I24 m n3 n4 σ' → (s_crc_behind_b1 (fun n3 n4 σ' => ∃ m', m' < m ∧ I24 m' n3 n4 σ') E Q  n3 n4 σ')
theorem q_crc_behind (E : EvT) (Q : RK) (x0 : Int) (σ : AHeap) : xfn P E Tryz.f187 (hl [(1, .loopr [] [0, 3] [0] [0, 3])]) (fun | 0 => (.i .u32) | 3 => (.i .i64) | _ => .v) [(.int .u32 x0)] σ Q = s_crc_behind E Q x0 σ := by kernel_rfl
theorem e_crc_behind {Q : RK} {x0 : Int} {σ : AHeap} (h : s_crc_behind E Q x0 σ) : E f_crc_behind [(.int .u32 x0)] σ Q :=
  exfn Tryz.func187 _ _ (by kernel_rfl) (Eq.mpr (q_crc_behind E Q x0 σ) h)
def s_crc_More_b1 (N1 : Int → Int → AHeap → Prop) (E : EvT) (Q : RK) (v12 : Value) (n14 n9 n10 : Int) (τ15 : AHeap) : Prop :=
 If (decide (n10 < n14)) (
 om (aIndexAddr 1 v12 (.int .i64 n10)) fun v23 =>
 ldI .u8 (aLoad false 1 v23 τ15) fun n24 =>
 Bi (wu32 (n24)) fun n30 =>
 Bi (wu32 ((BitVec.ofInt 32 n9 ^^^ BitVec.ofInt 32 n30).toNat)) fun n31 =>
 E f_crc_behind [(.int .u32 n31)] τ15 (cI Q .u32 fun n33 τ32 =>
 Bi (w64 (n10 + 1)) fun n37 =>
 N1 n33 n37 τ32)) (
 ldI .u32 (aUn .xor (.int .u32 n9)) fun n41 =>
 Q (.ret (.int .u32 n41)) τ15)
def s_crc_More (E : EvT) (Q : RK) (x0 : Int) (x1 : Value) (σ : AHeap) : Prop :=
 ldI .u32 (aUn .xor (.int .u32 x0)) fun n3 =>
 ldI .i64 (lenS x1) fun n7 =>
 ∃ I42 : Nat → Int → Int → AHeap → Prop, (∃ m, I42 m n3 0 σ) ∧
 ∀ m (n9 : Int) (n10 : Int) (σ' : AHeap), I42 m n9 n10 σ' → (s_crc_More_b1 (fun n9 n10 σ' => ∃ m', m' < m ∧ I42 m' n9 n10 σ') E Q x1 n7 n9 n10 σ')
theorem q_crc_More (E : EvT) (Q : RK) (x0 : Int) (x1 : Value) (σ : AHeap) : xfn P E Tryz.f163 (hl [(1, .loopr [10, 11] [5, 12] [5] [5, 12])]) (fun | 5 => (.i .u32) | 12 => (.i .i64) | _ => .v) [(.int .u32 x0), x1] σ Q = s_crc_More E Q x0 x1 σ := by kernel_rfl
theorem e_crc_More {Q : RK} {x0 : Int} {x1 : Value} {σ : AHeap} (h : s_crc_More E Q x0 x1 σ) : E f_crc_More [(.int .u32 x0), x1] σ Q :=
  exfn Tryz.func163 _ _ (by kernel_rfl) (Eq.mpr (q_crc_More E Q x0 x1 σ) h)
def s_crc_Sum (E : EvT) (Q : RK) (x0 : Value) (σ : AHeap) : Prop :=
 E f_crc_More [(.int .u32 0), x0] σ (cI Q .u32 fun n4 τ3 =>
 Q (.ret (.int .u32 n4)) τ3)
theorem q_crc_Sum (E : EvT) (Q : RK) (x0 : Value) (σ : AHeap) : xfn P E Tryz.f124 (fun _ => none) (fun _ => .v) [x0] σ Q = s_crc_Sum E Q x0 σ := by kernel_rfl
theorem e_crc_Sum {Q : RK} {x0 : Value} {σ : AHeap} (h : s_crc_Sum E Q x0 σ) : E f_crc_Sum [x0] σ Q :=
  exfn Tryz.func124 _ _ (by kernel_rfl) (Eq.mpr (q_crc_Sum E Q x0 σ) h)
def s_stamp_Seal (E : EvT) (Q : RK) (x0 : Value) (x1 x2 : Int) (σ : AHeap) : Prop :=
 ldI .i64 (lenS x0) fun n3 =>
 If (decide (240 < n3)) (
 Q (.ret (.tuple #[(.slice none 0 0), (.int .i64 3)])) σ) (
 pu (aMake t_uint8 1 [(.int .u8 0)] (.int .i64 240) (.int .i64 256) σ) fun r7 =>
 pu (aCopy 1 r7.1 x0 r7.2) fun r13 =>
 Bi (wu64 (x1)) fun n21 =>
 E f_order_Put [r7.1, (.int .u64 n21), (.int .i64 8)] r13.2 (cV Q fun v23 τ22 =>
 Bi (wu64 (x2)) fun n32 =>
 E f_order_Put [v23, (.int .u64 n32), (.int .i64 4)] τ22 (cV Q fun v34 τ33 =>
 E f_crc_Sum [v34] τ33 (cI Q .u32 fun n38 τ37 =>
 Bi (wu64 (n38)) fun n39 =>
 E f_order_Put [v34, (.int .u64 n39), (.int .i64 4)] τ37 (cV Q fun v41 τ40 =>
 Q (.ret (.tuple #[v41, (.int .i64 0)])) τ40)))))
theorem q_stamp_Seal (E : EvT) (Q : RK) (x0 : Value) (x1 x2 : Int) (σ : AHeap) : xfn P E Tryz.f65 (fun _ => none) (fun _ => .v) [x0, (.int .i64 x1), (.int .u8 x2)] σ Q = s_stamp_Seal E Q x0 x1 x2 σ := by kernel_rfl
theorem e_stamp_Seal {Q : RK} {x0 : Value} {x1 x2 : Int} {σ : AHeap} (h : s_stamp_Seal E Q x0 x1 x2 σ) : E f_stamp_Seal [x0, (.int .i64 x1), (.int .u8 x2)] σ Q :=
  exfn Tryz.func65 _ _ (by kernel_rfl) (Eq.mpr (q_stamp_Seal E Q x0 x1 x2 σ) h)
def s_stamp_Open (E : EvT) (Q : RK) (x0 : Value) (x1 x2 : Int) (σ : AHeap) : Prop :=
 ldI .i64 (lenS x0) fun n3 =>
 If (decide (n3 < 256)) (
 Q (.ret (.tuple #[(.slice none 0 0), (.int .i64 4)])) σ) (
 ldI .i64 (lenS x0) fun n7 =>
 If (decide (256 < n7)) (
 Q (.ret (.tuple #[(.slice none 0 0), (.int .i64 3)])) σ) (
 om (aSlice 1 x0 (some (.int .i64 252)) none none) fun v13 =>
 E f_order_Get [v13, (.int .i64 4)] σ (c2 Q fun v15 v17 τ14 =>
 tI .u64 (fun n16 =>
 tI .i64 (fun n18 =>
 om (aSlice 1 x0 (some (.int .i64 240)) none none) fun v21 =>
 E f_order_Get [v21, (.int .i64 8)] τ14 (c2 Q fun v23 v25 τ22 =>
 tI .u64 (fun n24 =>
 tI .i64 (fun n26 =>
 om (aSlice 1 x0 (some (.int .i64 248)) none none) fun v29 =>
 E f_order_Get [v29, (.int .i64 4)] τ22 (c2 Q fun v31 v33 τ30 =>
 tI .u64 (fun n32 =>
 tI .i64 (fun n34 =>
 om (aSlice 1 x0 none (some (.int .i64 252)) none) fun v40 =>
 E f_crc_Sum [v40] τ30 (cI Q .u32 fun n42 τ41 =>
 Bi (wu64 (n42)) fun n43 =>
 If (!decide (n16 = n43)) (
 Q (.ret (.tuple #[(.slice none 0 0), (.int .i64 20)])) τ41) (
 Bi (wu64 (x1)) fun n57 =>
 If (!decide (n24 = n57)) (
 Q (.ret (.tuple #[(.slice none 0 0), (.int .i64 21)])) τ41) (
 Bi (wu64 (x2)) fun n72 =>
 If (!decide (n32 = n72)) (
 Q (.ret (.tuple #[(.slice none 0 0), (.int .i64 22)])) τ41) (
 om (aSlice 1 x0 none (some (.int .i64 240)) (some (.int .i64 240))) fun v80 =>
 E f_bytes_Clone [v80] τ41 (cV Q fun v82 τ81 =>
 Q (.ret (.tuple #[v82, (.int .i64 0)])) τ81)))))) v33) v31)) v25) v23)) v17) v15)))
theorem q_stamp_Open (E : EvT) (Q : RK) (x0 : Value) (x1 x2 : Int) (σ : AHeap) : xfn P E Tryz.f67 (fun _ => none) (fun _ => .v) [x0, (.int .i64 x1), (.int .u8 x2)] σ Q = s_stamp_Open E Q x0 x1 x2 σ := by kernel_rfl
theorem e_stamp_Open {Q : RK} {x0 : Value} {x1 x2 : Int} {σ : AHeap} (h : s_stamp_Open E Q x0 x1 x2 σ) : E f_stamp_Open [x0, (.int .i64 x1), (.int .u8 x2)] σ Q :=
  exfn Tryz.func67 _ _ (by kernel_rfl) (Eq.mpr (q_stamp_Open E Q x0 x1 x2 σ) h)
def s_node_May_k8 (N1 : Int → AHeap → Prop) (E : EvT) (Q : RK) (c43 : Bool) (n45 : Int) (τ42 : AHeap) : Prop :=
 If c43 (
 Q (.ret (.bool false)) τ42) (
 Bi (w64 (n45 + 1)) fun n48 =>
 N1 n48 τ42)
def s_node_May_b1 (N1 : Int → AHeap → Prop) (E : EvT) (Q : RK) (b17 : Nat) (v19 : Value) (n21 n15 : Int) (τ22 : AHeap) : Prop :=
 If (decide (n15 < n21)) (
 om (aIndexAddr 1 v19 (.int .i64 n15)) fun v30 =>
 ldI .u64 (aLoad false 1 v30 τ22) fun n31 =>
 If (decide (0 < n15)) (
 om (L b17 1 τ22) fun v38 =>
 Bi (w64 (n15 - 1)) fun n39 =>
 om (aIndexAddr 1 v38 (.int .i64 n39)) fun v40 =>
 ldI .u64 (aLoad false 1 v40 τ22) fun n41 =>
 If (decide (n31 ≤ n41)) (
 (s_node_May_k8 N1 E Q true n15 τ22)) (
 om (L b17 2 τ22) fun v49 =>
 om (aIndexAddr 1 v49 (.int .i64 n15)) fun v50 =>
 ldI .u64 (aLoad false 1 v50 τ22) fun n51 =>
 (s_node_May_k8 N1 E Q (decide (n51 = 0)) n15 τ22))) (
 om (L b17 2 τ22) fun v52 =>
 om (aIndexAddr 1 v52 (.int .i64 n15)) fun v53 =>
 ldI .u64 (aLoad false 1 v53 τ22) fun n54 =>
 (s_node_May_k8 N1 E Q (decide (n54 = 0)) n15 τ22))) (
 Q (.ret (.bool true)) τ22)
def s_node_May_k2 (E : EvT) (Q : RK) (c8 : Bool) (b10 : Nat) (τ7 : AHeap) : Prop :=
 If c8 (
 Q (.ret (.bool false)) τ7) (
 om (L b10 1 τ7) fun v12 =>
 ldI .i64 (lenS v12) fun n13 =>
 ∃ I56 : Nat → Int → AHeap → Prop, (∃ m, I56 m 0 τ7) ∧
 ∀ m (n15 : Int) (σ' : AHeap), I56 m n15 σ' → (s_node_May_b1 (fun n15 σ' => ∃ m', m' < m ∧ I56 m' n15 σ') E Q b10 v12 n13 n15 σ'))
def s_node_May (E : EvT) (Q : RK) (x0_0 : Bool) (x0_1 x0_2 : Value) (σ : AHeap) : Prop :=
 wNew σ (.cells [(.bool x0_0), x0_1, x0_2] t_api_Node false) fun b1 τ2 =>
 om (L b1 1 τ2) fun v5 =>
 ldI .i64 (lenS v5) fun n6 =>
 If (decide (n6 < 1)) (
 (s_node_May_k2 E Q true b1 τ2)) (
 om (L b1 1 τ2) fun v58 =>
 ldI .i64 (lenS v58) fun n59 =>
 If (decide (8 < n59)) (
 (s_node_May_k2 E Q true b1 τ2)) (
 om (L b1 2 τ2) fun v60 =>
 ldI .i64 (lenS v60) fun n61 =>
 om (L b1 1 τ2) fun v62 =>
 ldI .i64 (lenS v62) fun n63 =>
 (s_node_May_k2 E Q (!decide (n61 = n63)) b1 τ2)))
theorem q_node_May (E : EvT) (Q : RK) (x0_0 : Bool) (x0_1 x0_2 : Value) (σ : AHeap) : xfn P E Tryz.f69 (hl [(2, .loopr [1, 25, 26] [27] [2] [2, 27])]) (fun | 27 => (.i .i64) | _ => .v) [(.agg #[(.bool x0_0), x0_1, x0_2])] σ Q = s_node_May E Q x0_0 x0_1 x0_2 σ := by kernel_rfl
theorem e_node_May {Q : RK} {x0_0 : Bool} {x0_1 x0_2 : Value} {σ : AHeap} (h : s_node_May E Q x0_0 x0_1 x0_2 σ) : E f_node_May [(.agg #[(.bool x0_0), x0_1, x0_2])] σ Q :=
  exfn Tryz.func69 _ _ (by kernel_rfl) (Eq.mpr (q_node_May E Q x0_0 x0_1 x0_2 σ) h)
def s_node_Put_b1 (N1 : Value → Int → AHeap → Prop) (E : EvT) (Q : RK) (b38 : Nat) (v40 : Value) (n42 : Int) (v35 : Value) (n36 : Int) (τ43 : AHeap) : Prop :=
 If (decide (n36 < n42)) (
 om (aIndexAddr 1 v40 (.int .i64 n36)) fun v51 =>
 ldI .u64 (aLoad false 1 v51 τ43) fun n52 =>
 om (L b38 2 τ43) fun v61 =>
 om (aIndexAddr 1 v61 (.int .i64 n36)) fun v63 =>
 ldI .u64 (aLoad false 1 v63 τ43) fun n64 =>
 E f_order_Put [v35, (.int .u64 n52), (.int .i64 8)] τ43 (cV Q fun v66 τ65 =>
 om (L b38 2 τ65) fun v67 =>
 veq1 v67 v61 = true ∧
 ldI .u64 (aLoad false 1 v63 τ65) fun n68 =>
 veq1 (.int .u64 n68) (.int .u64 n64) = true ∧
 E f_order_Put [v66, (.int .u64 n64), (.int .i64 8)] τ65 (cV Q fun v70 τ69 =>
 Bi (w64 (n36 + 1)) fun n74 =>
 N1 v70 n74 τ69))) (
 Q (.ret (.tuple #[v35, (.int .i64 0)])) τ43)
def s_node_Put_k6 (E : EvT) (Q : RK) (b31 : Nat) (v79 : Value) (τ29 : AHeap) : Prop :=
 om (L b31 1 τ29) fun v32 =>
 ldI .i64 (lenS v32) fun n33 =>
 ∃ I78 : Nat → Value → Int → AHeap → Prop, (∃ m, I78 m v79 0 τ29) ∧
 ∀ m (v35 : Value) (n36 : Int) (σ' : AHeap), I78 m v35 n36 σ' → (s_node_Put_b1 (fun v35 n36 σ' => ∃ m', m' < m ∧ I78 m' v35 n36 σ') E Q b31 v32 n33 v35 n36 σ')
def s_node_Put (E : EvT) (Q : RK) (x0_0 : Bool) (x0_1 x0_2 : Value) (σ : AHeap) : Prop :=
 wNew σ (.cells [(.bool x0_0), x0_1, x0_2] t_api_Node false) fun b1 τ2 =>
 ldB (L b1 0 τ2) fun c5 =>
 om (L b1 1 τ2) fun v6 =>
 om (L b1 2 τ2) fun v7 =>
 E f_node_May [(.agg #[(.bool c5), v6, v7])] τ2 (cB Q fun c9 τ8 =>
 If (!c9) (
 Q (.ret (.tuple #[(.slice none 0 0), (.int .i64 1)])) τ8) (
 om (L b1 1 τ8) fun v15 =>
 ldI .i64 (lenS v15) fun n16 =>
 Bi (wu8 (n16)) fun n17 =>
 wNew τ8 (.cells [(.int .u8 0), (.int .u8 n17)] t_uint8 false) fun b18 τ19 =>
 ldB (L b1 0 τ19) fun c22 =>
 If c22 (
 om (aIndexAddr 1 (.slice (some ⟨b18, 0, none⟩) 2 2) (.int .i64 0)) fun v27 =>
 pu (aStore 1 v27 (.int .u8 1) τ19) fun τ28 =>
 (s_node_Put_k6 E Q b1 (.slice (some ⟨b18, 0, none⟩) 2 2) τ28)) (
 (s_node_Put_k6 E Q b1 (.slice (some ⟨b18, 0, none⟩) 2 2) τ19))))
theorem q_node_Put (E : EvT) (Q : RK) (x0_0 : Bool) (x0_1 x0_2 : Value) (σ : AHeap) : xfn P E Tryz.f64 (hl [(3, .loopr [1, 20, 21] [4, 22] [4] [4, 22]), (6, .ord [(0, []), (1, []), (3, []), (4, []), (5, []), (6, []), (7, []), (2, [4, 7]), (8, []), (9, [])])]) (fun | 22 => (.i .i64) | _ => .v) [(.agg #[(.bool x0_0), x0_1, x0_2])] σ Q = s_node_Put E Q x0_0 x0_1 x0_2 σ := by kernel_rfl
theorem e_node_Put {Q : RK} {x0_0 : Bool} {x0_1 x0_2 : Value} {σ : AHeap} (h : s_node_Put E Q x0_0 x0_1 x0_2 σ) : E f_node_Put [(.agg #[(.bool x0_0), x0_1, x0_2])] σ Q :=
  exfn Tryz.func64 _ _ (by kernel_rfl) (Eq.mpr (q_node_Put E Q x0_0 x0_1 x0_2 σ) h)
def s_node_reader_number_k4 (E : EvT) (Q : RK) (n21 n23 : Int) (τ18 : AHeap) : Prop :=
 Q (.ret (.tuple #[(.int .u64 n21), (.int .i64 n23)])) τ18
def s_node_reader_number (E : EvT) (Q : RK) (x0 : Nat) (σ : AHeap) : Prop :=
 om (L x0 0 σ) fun v3 =>
 E f_order_Get [v3, (.int .i64 8)] σ (c2 Q fun v5 v7 τ4 =>
 tI .u64 (fun n6 =>
 tI .i64 (fun n8 =>
 If (decide (n8 = 0)) (
 om (L x0 0 τ4) fun v15 =>
 om (aSlice 1 v15 (some (.int .i64 8)) none none) fun v16 =>
 St x0 0 v16 τ4 fun τ17 =>
 (s_node_reader_number_k4 E Q n6 n8 τ17)) (
 (s_node_reader_number_k4 E Q n6 n8 τ4))) v7) v5)
theorem q_node_reader_number (E : EvT) (Q : RK) (x0 : Nat) (σ : AHeap) : xfn P E Tryz.f127 (fun _ => none) (fun _ => .v) [(.pointer (some ⟨x0, 0, none⟩))] σ Q = s_node_reader_number E Q x0 σ := by kernel_rfl
theorem e_node_reader_number {Q : RK} {x0 : Nat} {σ : AHeap} (h : s_node_reader_number E Q x0 σ) : E f_node_reader_number [(.pointer (some ⟨x0, 0, none⟩))] σ Q :=
  exfn Tryz.func127 _ _ (by kernel_rfl) (Eq.mpr (q_node_reader_number E Q x0 σ) h)
def s_node_Take_k27 (N1 : Int → AHeap → Prop) (E : EvT) (Q : RK) (n224 : Int) (b227 b228 b230 : Nat) (τ222 : AHeap) : Prop :=
 Bi (w64 (n224 + 1)) fun n225 =>
 N1 n225 τ222
def s_node_Take_k20 (N1 : Int → AHeap → Prop) (E : EvT) (Q : RK) (c140 : Bool) (b142 b144 b146 : Nat) (n148 : Int) (v154 : Value) (n199 : Int) (τ139 : AHeap) : Prop :=
 If c140 (
 pu (aStore 3 (.pointer (some ⟨b142, 0, none⟩)) (.agg #[(.bool false), (.slice none 0 0), (.slice none 0 0)]) τ139) fun τ143 =>
 pu (aLoad true 3 (.pointer (some ⟨b142, 0, none⟩)) τ143) fun v149 =>
 Q (.ret (.tuple #[v149, (.int .i64 5)])) τ143) (
 wF v154 fun g253 a254 c255 =>
 E g253 (a254 ++ [] ++ c255) τ139 (c2 Q fun v157 v159 τ156 =>
 tI .u64 (fun n158 =>
 tI .i64 (fun n160 =>
 If (!decide (n160 = 0)) (
 pu (aStore 3 (.pointer (some ⟨b142, 0, none⟩)) (.agg #[(.bool false), (.slice none 0 0), (.slice none 0 0)]) τ156) fun τ169 =>
 pu (aLoad true 3 (.pointer (some ⟨b142, 0, none⟩)) τ169) fun v179 =>
 Q (.ret (.tuple #[v179, (.int .i64 n160)])) τ169) (
 If (decide (n158 = 0)) (
 pu (aStore 3 (.pointer (some ⟨b142, 0, none⟩)) (.agg #[(.bool false), (.slice none 0 0), (.slice none 0 0)]) τ156) fun τ188 =>
 pu (aLoad true 3 (.pointer (some ⟨b142, 0, none⟩)) τ188) fun v195 =>
 Q (.ret (.tuple #[v195, (.int .i64 5)])) τ188) (
 om (L b144 1 τ156) fun v198 =>
 om (L b144 2 τ156) fun v206 =>
 (
 wNew τ156 (.cells [(.int .u64 n199)] t_uint64 false) fun b209 τ210 =>
 om (L b144 1 τ210) fun v211 =>
 veq1 v211 v198 = true ∧
 om (L b144 2 τ210) fun v212 =>
 veq1 v212 v206 = true ∧
 (
 pu (aAppend t_uint64 1 8 v198 (.slice (some ⟨b209, 0, none⟩) 1 1) τ210) fun r213 =>
 om (L b144 2 r213.2) fun v214 =>
 veq1 v214 v206 = true ∧
 wNew r213.2 (.cells [(.int .u64 n158)] t_uint64 false) fun b215 τ216 =>
 om (L b144 1 τ216) fun v217 =>
 veq1 v217 v198 = true ∧
 om (L b144 2 τ216) fun v218 =>
 veq1 v218 v206 = true ∧
 pu (aAppend t_uint64 1 8 v206 (.slice (some ⟨b215, 0, none⟩) 1 1) τ216) fun r219 =>
 St b144 1 r213.1 r219.2 fun τ220 =>
 St b144 2 r219.1 τ220 fun τ221 =>
 (s_node_Take_k27 N1 E Q n148 b142 b144 b146 τ221)) ∧ (
 wNew τ210 (.cells [(.int .u64 n158)] t_uint64 false) fun b231 τ232 =>
 om (L b144 1 τ232) fun v233 =>
 veq1 v233 v198 = true ∧
 om (L b144 2 τ232) fun v234 =>
 veq1 v234 v206 = true ∧
 pu (aAppend t_uint64 1 8 v198 (.slice (some ⟨b209, 0, none⟩) 1 1) τ232) fun r235 =>
 om (L b144 2 r235.2) fun v236 =>
 veq1 v236 v206 = true ∧
 pu (aAppend t_uint64 1 8 v206 (.slice (some ⟨b231, 0, none⟩) 1 1) r235.2) fun r237 =>
 St b144 1 r235.1 r237.2 fun τ238 =>
 St b144 2 r237.1 τ238 fun τ239 =>
 (s_node_Take_k27 N1 E Q n148 b142 b144 b146 τ239))) ∧ (
 wNew τ156 (.cells [(.int .u64 n158)] t_uint64 false) fun b240 τ241 =>
 om (L b144 1 τ241) fun v242 =>
 veq1 v242 v198 = true ∧
 om (L b144 2 τ241) fun v243 =>
 veq1 v243 v206 = true ∧
 wNew τ241 (.cells [(.int .u64 n199)] t_uint64 false) fun b244 τ245 =>
 om (L b144 1 τ245) fun v246 =>
 veq1 v246 v198 = true ∧
 om (L b144 2 τ245) fun v247 =>
 veq1 v247 v206 = true ∧
 pu (aAppend t_uint64 1 8 v198 (.slice (some ⟨b244, 0, none⟩) 1 1) τ245) fun r248 =>
 om (L b144 2 r248.2) fun v249 =>
 veq1 v249 v206 = true ∧
 pu (aAppend t_uint64 1 8 v206 (.slice (some ⟨b240, 0, none⟩) 1 1) r248.2) fun r250 =>
 St b144 1 r248.1 r250.2 fun τ251 =>
 St b144 2 r250.1 τ251 fun τ252 =>
 (s_node_Take_k27 N1 E Q n148 b142 b144 b146 τ252))))) v159) v157))
def s_node_Take_b2 (N2 : Int → AHeap → Prop) (E : EvT) (Q : RK) (b267 b270 : Nat) (v272 : Value) (n274 n264 : Int) (τ275 : AHeap) : Prop :=
 If (decide (n264 < n274)) (
 om (aIndexAddr 1 v272 (.int .i64 n264)) fun v283 =>
 ldI .u8 (aLoad false 1 v283 τ275) fun n284 =>
 If (!decide (n284 = 0)) (
 pu (aStore 3 (.pointer (some ⟨b267, 0, none⟩)) (.agg #[(.bool false), (.slice none 0 0), (.slice none 0 0)]) τ275) fun τ293 =>
 pu (aLoad true 3 (.pointer (some ⟨b267, 0, none⟩)) τ293) fun v300 =>
 Q (.ret (.tuple #[v300, (.int .i64 5)])) τ293) (
 Bi (w64 (n264 + 1)) fun n303 =>
 N2 n303 τ275)) (
 ldB (L b270 0 τ275) fun c308 =>
 om (L b270 1 τ275) fun v309 =>
 om (L b270 2 τ275) fun v310 =>
 pu (aStore 3 (.pointer (some ⟨b267, 0, none⟩)) (.agg #[(.bool c308), v309, v310]) τ275) fun τ312 =>
 pu (aLoad true 3 (.pointer (some ⟨b267, 0, none⟩)) τ312) fun v313 =>
 Q (.ret (.tuple #[v313, (.int .i64 0)])) τ312)
def s_node_Take_b1 (N1 : Int → AHeap → Prop) (E : EvT) (Q : RK) (b72 b77 b80 : Nat) (v83 : Value) (n85 n66 : Int) (τ86 : AHeap) : Prop :=
 If (decide (n66 < n85)) (
 wF v83 fun g256 a257 c258 =>
 E g256 (a257 ++ [] ++ c258) τ86 (c2 Q fun v97 v99 τ96 =>
 tI .u64 (fun n98 =>
 tI .i64 (fun n100 =>
 If (!decide (n100 = 0)) (
 pu (aStore 3 (.pointer (some ⟨b72, 0, none⟩)) (.agg #[(.bool false), (.slice none 0 0), (.slice none 0 0)]) τ96) fun τ111 =>
 pu (aLoad true 3 (.pointer (some ⟨b72, 0, none⟩)) τ111) fun v125 =>
 Q (.ret (.tuple #[v125, (.int .i64 n100)])) τ111) (
 If (decide (0 < n66)) (
 om (L b77 1 τ96) fun v135 =>
 Bi (w64 (n66 - 1)) fun n136 =>
 om (aIndexAddr 1 v135 (.int .i64 n136)) fun v137 =>
 ldI .u64 (aLoad false 1 v137 τ96) fun n138 =>
 (s_node_Take_k20 N1 E Q (decide (n98 ≤ n138)) b72 b77 b80 n66 v83 n98 τ96)) (
 (s_node_Take_k20 N1 E Q false b72 b77 b80 n66 v83 n98 τ96)))) v99) v97)) (
 om (L b80 0 τ86) fun v261 =>
 ldI .i64 (lenS v261) fun n262 =>
 ∃ I314 : Nat → Int → AHeap → Prop, (∃ m, I314 m 0 τ86) ∧
 ∀ m (n264 : Int) (σ' : AHeap), I314 m n264 σ' → (s_node_Take_b2 (fun n264 σ' => ∃ m', m' < m ∧ I314 m' n264 σ') E Q b72 b77 v261 n262 n264 σ'))
def s_node_Take_k8 (E : EvT) (Q : RK) (c39 : Bool) (b41 : Nat) (v45 : Value) (τ38 : AHeap) : Prop :=
 If c39 (
 pu (aStore 3 (.pointer (some ⟨b41, 0, none⟩)) (.agg #[(.bool false), (.slice none 0 0), (.slice none 0 0)]) τ38) fun τ42 =>
 pu (aLoad true 3 (.pointer (some ⟨b41, 0, none⟩)) τ42) fun v43 =>
 Q (.ret (.tuple #[v43, (.int .i64 5)])) τ42) (
 om (aIndexAddr 1 v45 (.int .i64 0)) fun v47 =>
 ldI .u8 (aLoad false 1 v47 τ38) fun n48 =>
 wNew τ38 (.cells [(.bool false), (.slice none 0 0), (.slice none 0 0)] t_api_Node false) fun b49 τ50 =>
 pu (aStore 3 (.pointer (some ⟨b49, 0, none⟩)) (.agg #[(.bool (decide (n48 = 1))), (.slice none 0 0), (.slice none 0 0)]) τ50) fun τ51 =>
 om (aSlice 1 v45 (some (.int .i64 2)) none none) fun v54 =>
 On v54 (
 wNew τ51 (.cells [v54] t_node_reader false) fun b55 τ56 =>
 om (aIndexAddr 1 v45 (.int .i64 1)) fun v62 =>
 ldI .u8 (aLoad false 1 v62 τ56) fun n63 =>
 Bi (w64 (n63)) fun n64 =>
 ∃ I316 : Nat → Int → AHeap → Prop, (∃ m, I316 m 0 τ56) ∧
 ∀ m (n66 : Int) (σ' : AHeap), I316 m n66 σ' → (s_node_Take_b1 (fun n66 σ' => ∃ m', m' < m ∧ I316 m' n66 σ') E Q b41 b49 b55 (.func (.func f_node_reader_number) #[(.pointer (some ⟨b55, 0, none⟩))] #[]) n64 n66 σ')))
def s_node_Take (E : EvT) (Q : RK) (x0 : Value) (σ : AHeap) : Prop :=
 wNew σ (.cells [(.bool false), (.slice none 0 0), (.slice none 0 0)] t_api_Node false) fun b1 τ2 =>
 ldI .i64 (lenS x0) fun n5 =>
 If (decide (n5 < 1)) (
 pu (aStore 3 (.pointer (some ⟨b1, 0, none⟩)) (.agg #[(.bool false), (.slice none 0 0), (.slice none 0 0)]) τ2) fun τ10 =>
 pu (aLoad true 3 (.pointer (some ⟨b1, 0, none⟩)) τ10) fun v11 =>
 Q (.ret (.tuple #[v11, (.int .i64 4)])) τ10) (
 om (aIndexAddr 1 x0 (.int .i64 0)) fun v15 =>
 ldI .u8 (aLoad false 1 v15 τ2) fun n16 =>
 If (decide (1 < n16)) (
 pu (aStore 3 (.pointer (some ⟨b1, 0, none⟩)) (.agg #[(.bool false), (.slice none 0 0), (.slice none 0 0)]) τ2) fun τ21 =>
 pu (aLoad true 3 (.pointer (some ⟨b1, 0, none⟩)) τ21) fun v22 =>
 Q (.ret (.tuple #[v22, (.int .i64 5)])) τ21) (
 ldI .i64 (lenS x0) fun n26 =>
 If (decide (n26 < 2)) (
 pu (aStore 3 (.pointer (some ⟨b1, 0, none⟩)) (.agg #[(.bool false), (.slice none 0 0), (.slice none 0 0)]) τ2) fun τ31 =>
 pu (aLoad true 3 (.pointer (some ⟨b1, 0, none⟩)) τ31) fun v32 =>
 Q (.ret (.tuple #[v32, (.int .i64 4)])) τ31) (
 om (aIndexAddr 1 x0 (.int .i64 1)) fun v36 =>
 ldI .u8 (aLoad false 1 v36 τ2) fun n37 =>
 If (decide (n37 < 1)) (
 (s_node_Take_k8 E Q true b1 x0 τ2)) (
 om (aIndexAddr 1 x0 (.int .i64 1)) fun v318 =>
 ldI .u8 (aLoad false 1 v318 τ2) fun n319 =>
 (s_node_Take_k8 E Q (decide (8 < n319)) b1 x0 τ2)))))
theorem q_node_Take (E : EvT) (Q : RK) (x0 : Value) (σ : AHeap) : xfn P E Tryz.f68 (hl [(5, .loopr [2, 4, 5, 6, 51] [52] [2, 3, 4, 5] [2, 3, 4, 5, 52]), (12, .tree (.step 0 [] (.step 1 [] (.step 2 [] (.step 5 [] (.step 6 [] (.step 7 [] (.alt (.step 3 [1, 6] (.alt (.step 4 [6] (.step 10 [] (.step 8 [1, 6] (.step 9 [] (.step 11 [] (.step 12 [] (.step 13 [] .nil))))))) (.step 8 [1, 6] (.step 4 [6] (.step 10 [] (.step 9 [] (.step 11 [] (.step 12 [] (.step 13 [] .nil))))))))) (.step 8 [1, 6] (.step 3 [1, 6] (.step 4 [6] (.step 10 [] (.step 9 [] (.step 11 [] (.step 12 [] (.step 13 [] .nil)))))))))))))))), (14, .loopr [2, 4, 105, 106] [107] [2, 3, 4] [2, 3, 4, 107])]) (fun | 52 => (.i .i64) | 107 => (.i .i64) | _ => .v) [x0] σ Q = s_node_Take E Q x0 σ := by kernel_rfl
theorem e_node_Take {Q : RK} {x0 : Value} {σ : AHeap} (h : s_node_Take E Q x0 σ) : E f_node_Take [x0] σ Q :=
  exfn Tryz.func68 _ _ (by kernel_rfl) (Eq.mpr (q_node_Take E Q x0 σ) h)
def s_knot_count (E : EvT) (Q : RK) (x0_0 : Bool) (x0_1 x0_2 : Value) (σ : AHeap) : Prop :=
 wNew σ (.cells [(.bool x0_0), x0_1, x0_2] t_api_Node false) fun b1 τ2 =>
 om (L b1 1 τ2) fun v5 =>
 ldI .i64 (lenS v5) fun n6 =>
 om (L b1 2 τ2) fun v7 =>
 ldI .i64 (lenS v7) fun n8 =>
 Q (.ret (.int .i64 (if n8 < n6 then n8 else n6))) τ2
theorem q_knot_count (E : EvT) (Q : RK) (x0_0 : Bool) (x0_1 x0_2 : Value) (σ : AHeap) : xfn P E Tryz.f130 (fun _ => none) (fun _ => .v) [(.agg #[(.bool x0_0), x0_1, x0_2])] σ Q = s_knot_count E Q x0_0 x0_1 x0_2 σ := by kernel_rfl
theorem e_knot_count {Q : RK} {x0_0 : Bool} {x0_1 x0_2 : Value} {σ : AHeap} (h : s_knot_count E Q x0_0 x0_1 x0_2 σ) : E f_knot_count [(.agg #[(.bool x0_0), x0_1, x0_2])] σ Q :=
  exfn Tryz.func130 _ _ (by kernel_rfl) (Eq.mpr (q_knot_count E Q x0_0 x0_1 x0_2 σ) h)
def s_knot_both (E : EvT) (Q : RK) (x0_0 : Bool) (x0_1 x0_2 x1 : Value) (σ : AHeap) : Prop :=
 wNew σ (.cells [(.bool x0_0), x0_1, x0_2] t_api_Node false) fun b1 τ2 =>
 wNew τ2 (.cells [(.bool false), (.slice none 0 0), (.slice none 0 0)] t_api_Node false) fun b3 τ4 =>
 ldB (L b1 0 τ4) fun c7 =>
 om (L b1 1 τ4) fun v8 =>
 om (L b1 2 τ4) fun v9 =>
 E f_knot_count [(.agg #[(.bool c7), v8, v9])] τ4 (cI Q .i64 fun n11 τ10 =>
 ldB (L b1 0 τ10) fun c14 =>
 om (L b1 1 τ10) fun v17 =>
 om (aSlice 1 v17 none (some (.int .i64 n11)) (some (.int .i64 n11))) fun v19 =>
 om (L b1 2 τ10) fun v20 =>
 om (aSlice 1 v20 none (some (.int .i64 n11)) (some (.int .i64 n11))) fun v21 =>
 E f_slices_Clone_sl_uint64_uint64 [v19] τ10 (cV Q fun v23 τ22 =>
 ldB (L b1 0 τ22) fun c24 =>
 veq1 (.bool c24) (.bool c14) = true ∧
 om (L b1 2 τ22) fun v25 =>
 veq1 v25 v20 = true ∧
 wF x1 fun g43 a44 c45 =>
 E g43 (a44 ++ [v23, (.bool true)] ++ c45) τ22 (cV Q fun v27 τ26 =>
 ldB (L b1 0 τ26) fun c28 =>
 veq1 (.bool c28) (.bool c14) = true ∧
 om (L b1 2 τ26) fun v29 =>
 veq1 v29 v20 = true ∧
 E f_slices_Clone_sl_uint64_uint64 [v21] τ26 (cV Q fun v31 τ30 =>
 ldB (L b1 0 τ30) fun c32 =>
 veq1 (.bool c32) (.bool c14) = true ∧
 wF x1 fun g40 a41 c42 =>
 E g40 (a41 ++ [v31, (.bool false)] ++ c42) τ30 (cV Q fun v34 τ33 =>
 ldB (L b1 0 τ33) fun c35 =>
 veq1 (.bool c35) (.bool c14) = true ∧
 On v27 (
 On v34 (
 pu (aStore 3 (.pointer (some ⟨b3, 0, none⟩)) (.agg #[(.bool c14), v27, v34]) τ33) fun τ38 =>
 pu (aLoad true 3 (.pointer (some ⟨b3, 0, none⟩)) τ38) fun v39 =>
 Q (.ret v39) τ38)))))))
theorem q_knot_both (E : EvT) (Q : RK) (x0_0 : Bool) (x0_1 x0_2 x1 : Value) (σ : AHeap) : xfn P E Tryz.f132 (hl [(0, .ord [(0, []), (1, []), (2, []), (3, []), (4, []), (5, []), (6, []), (7, []), (10, []), (11, []), (12, []), (13, []), (14, []), (15, []), (8, [1, 12]), (9, [1, 12]), (16, [1]), (17, [1]), (18, []), (19, [])])]) (fun _ => .v) [(.agg #[(.bool x0_0), x0_1, x0_2]), x1] σ Q = s_knot_both E Q x0_0 x0_1 x0_2 x1 σ := by kernel_rfl
theorem e_knot_both {Q : RK} {x0_0 : Bool} {x0_1 x0_2 x1 : Value} {σ : AHeap} (h : s_knot_both E Q x0_0 x0_1 x0_2 x1 σ) : E f_knot_both [(.agg #[(.bool x0_0), x0_1, x0_2]), x1] σ Q :=
  exfn Tryz.func132 _ _ (by kernel_rfl) (Eq.mpr (q_knot_both E Q x0_0 x0_1 x0_2 x1 σ) h)
def s_knot_one (E : EvT) (Q : RK) (x0 : Bool) (x1 x2 : Int) (σ : AHeap) : Prop :=
 If x0 (
 Q (.ret (.int .u64 x1)) σ) (
 Q (.ret (.int .u64 x2)) σ)
theorem q_knot_one (E : EvT) (Q : RK) (x0 : Bool) (x1 x2 : Int) (σ : AHeap) : xfn P E Tryz.f135 (fun _ => none) (fun _ => .v) [(.bool x0), (.int .u64 x1), (.int .u64 x2)] σ Q = s_knot_one E Q x0 x1 x2 σ := by kernel_rfl
theorem e_knot_one {Q : RK} {x0 : Bool} {x1 x2 : Int} {σ : AHeap} (h : s_knot_one E Q x0 x1 x2 σ) : E f_knot_one [(.bool x0), (.int .u64 x1), (.int .u64 x2)] σ Q :=
  exfn Tryz.func135 _ _ (by kernel_rfl) (Eq.mpr (q_knot_one E Q x0 x1 x2 σ) h)
def s_knot_Find_b1 (N1 : Int → AHeap → Prop) (E : EvT) (Q : RK) (n17 : Int) (b20 : Nat) (n22 n24 n13 : Int) (τ25 : AHeap) : Prop :=
 If (decide (n13 < n24)) (
 om (L b20 1 τ25) fun v35 =>
 om (aIndexAddr 1 v35 (.int .i64 n13)) fun v37 =>
 ldI .u64 (aLoad false 1 v37 τ25) fun n38 =>
 If (decide (n17 ≤ n38)) (
 om (L b20 1 τ25) fun v46 =>
 om (aIndexAddr 1 v46 (.int .i64 n13)) fun v47 =>
 ldI .u64 (aLoad false 1 v47 τ25) fun n48 =>
 Q (.ret (.tuple #[(.int .i64 n13), (.bool (decide (n48 = n17)))])) τ25) (
 Bi (w64 (n13 + 1)) fun n58 =>
 N1 n58 τ25)) (
 Q (.ret (.tuple #[(.int .i64 n22), (.bool false)])) τ25)
def s_knot_Find (E : EvT) (Q : RK) (x0_0 : Bool) (x0_1 x0_2 : Value) (x1 : Int) (σ : AHeap) : Prop :=
 wNew σ (.cells [(.bool x0_0), x0_1, x0_2] t_api_Node false) fun b1 τ2 =>
 ldB (L b1 0 τ2) fun c5 =>
 om (L b1 1 τ2) fun v6 =>
 om (L b1 2 τ2) fun v7 =>
 E f_knot_count [(.agg #[(.bool c5), v6, v7])] τ2 (cI Q .i64 fun n9 τ8 =>
 ∃ I62 : Nat → Int → AHeap → Prop, (∃ m, I62 m 0 τ8) ∧
 ∀ m (n13 : Int) (σ' : AHeap), I62 m n13 σ' → (s_knot_Find_b1 (fun n13 σ' => ∃ m', m' < m ∧ I62 m' n13 σ') E Q x1 b1 n9 n9 n13 σ'))
theorem q_knot_Find (E : EvT) (Q : RK) (x0_0 : Bool) (x0_1 x0_2 : Value) (x1 : Int) (σ : AHeap) : xfn P E Tryz.f75 (hl [(1, .loopr [1, 2, 6, 10] [11] [4, 5, 6] [4, 5, 6, 11]), (5, .ord [(0, []), (1, []), (2, []), (3, []), (4, []), (5, []), (6, []), (7, []), (8, []), (9, [])])]) (fun | 11 => (.i .i64) | _ => .v) [(.agg #[(.bool x0_0), x0_1, x0_2]), (.int .u64 x1)] σ Q = s_knot_Find E Q x0_0 x0_1 x0_2 x1 σ := by kernel_rfl
theorem e_knot_Find {Q : RK} {x0_0 : Bool} {x0_1 x0_2 : Value} {x1 : Int} {σ : AHeap} (h : s_knot_Find E Q x0_0 x0_1 x0_2 x1 σ) : E f_knot_Find [(.agg #[(.bool x0_0), x0_1, x0_2]), (.int .u64 x1)] σ Q :=
  exfn Tryz.func75 _ _ (by kernel_rfl) (Eq.mpr (q_knot_Find E Q x0_0 x0_1 x0_2 x1 σ) h)
def s_knot_Child_k8 (E : EvT) (Q : RK) (n49 : Int) (τ48 : AHeap) : Prop :=
 Q (.ret (.int .i64 n49)) τ48
def s_knot_Child_b1 (N1 : Int → Int → AHeap → Prop) (E : EvT) (Q : RK) (n18 : Int) (b20 : Nat) (n22 n13 n14 : Int) (τ23 : AHeap) : Prop :=
 If (decide (n14 < n22)) (
 om (L b20 1 τ23) fun v33 =>
 om (aIndexAddr 1 v33 (.int .i64 n14)) fun v35 =>
 ldI .u64 (aLoad false 1 v35 τ23) fun n36 =>
 If (decide (n18 < n36)) (
 (s_knot_Child_k8 E Q n13 τ23)) (
 Bi (w64 (n14 + 1)) fun n56 =>
 N1 n14 n56 τ23)) (
 (s_knot_Child_k8 E Q n13 τ23))
def s_knot_Child (E : EvT) (Q : RK) (x0_0 : Bool) (x0_1 x0_2 : Value) (x1 : Int) (σ : AHeap) : Prop :=
 wNew σ (.cells [(.bool x0_0), x0_1, x0_2] t_api_Node false) fun b1 τ2 =>
 ldB (L b1 0 τ2) fun c7 =>
 om (L b1 1 τ2) fun v8 =>
 om (L b1 2 τ2) fun v9 =>
 E f_knot_count [(.agg #[(.bool c7), v8, v9])] τ2 (cI Q .i64 fun n11 τ10 =>
 ∃ I58 : Nat → Int → Int → AHeap → Prop, (∃ m, I58 m 0 0 τ10) ∧
 ∀ m (n13 : Int) (n14 : Int) (σ' : AHeap), I58 m n13 n14 σ' → (s_knot_Child_b1 (fun n13 n14 σ' => ∃ m', m' < m ∧ I58 m' n13 n14 σ') E Q x1 b1 n11 n13 n14 σ'))
theorem q_knot_Child (E : EvT) (Q : RK) (x0_0 : Bool) (x0_1 x0_2 : Value) (x1 : Int) (σ : AHeap) : xfn P E Tryz.f81 (hl [(1, .loopr [1, 2, 8] [5, 9] [5] [5, 9])]) (fun | 5 => (.i .i64) | 9 => (.i .i64) | _ => .v) [(.agg #[(.bool x0_0), x0_1, x0_2]), (.int .u64 x1)] σ Q = s_knot_Child E Q x0_0 x0_1 x0_2 x1 σ := by kernel_rfl
theorem e_knot_Child {Q : RK} {x0_0 : Bool} {x0_1 x0_2 : Value} {x1 : Int} {σ : AHeap} (h : s_knot_Child E Q x0_0 x0_1 x0_2 x1 σ) : E f_knot_Child [(.agg #[(.bool x0_0), x0_1, x0_2]), (.int .u64 x1)] σ Q :=
  exfn Tryz.func81 _ _ (by kernel_rfl) (Eq.mpr (q_knot_Child E Q x0_0 x0_1 x0_2 x1 σ) h)
def s_knot_Insert (E : EvT) (Q : RK) (x0_0 : Bool) (x0_1 x0_2 : Value) (x1 x2 x3 : Int) (σ : AHeap) : Prop :=
 wNew σ (.cells [(.bool x0_0), x0_1, x0_2] t_api_Node false) fun b1 τ2 =>
 wNew τ2 (.cells [(.int .i64 x1)] t_int false) fun b3 τ4 =>
 wNew τ4 (.cells [(.int .u64 x2)] t_uint64 false) fun b5 τ6 =>
 wNew τ6 (.cells [(.int .u64 x3)] t_uint64 false) fun b7 τ8 =>
 wNew τ8 (.cells [(.bool false), (.slice none 0 0), (.slice none 0 0)] t_api_Node false) fun b9 τ10 =>
 ldI .i64 (L b3 0 τ10) fun n13 =>
 ldB (L b1 0 τ10) fun c15 =>
 om (L b1 1 τ10) fun v16 =>
 om (L b1 2 τ10) fun v17 =>
 E f_knot_count [(.agg #[(.bool c15), v16, v17])] τ10 (cI Q .i64 fun n19 τ18 =>
 ldI .i64 (L b3 0 τ18) fun n20 =>
 veq1 (.int .i64 n20) (.int .i64 n13) = true ∧
 St b3 0 (.int .i64 (if n19 < (if 0 > n13 then 0 else n13) then n19 else (if 0 > n13 then 0 else n13))) τ18 fun τ21 =>
 ldB (L b1 0 τ21) fun c24 =>
 om (L b1 1 τ21) fun v25 =>
 om (L b1 2 τ21) fun v26 =>
 E f_knot_both [(.agg #[(.bool c24), v25, v26]), (.func (.func f_knot_Insert_c1) #[] #[(.pointer (some ⟨b3, 0, none⟩)), (.pointer (some ⟨b5, 0, none⟩)), (.pointer (some ⟨b7, 0, none⟩))])] τ21 (cV Q fun v33 τ32 =>
 pu (aStore 3 (.pointer (some ⟨b9, 0, none⟩)) v33 τ32) fun τ36 =>
 pu (aLoad true 3 (.pointer (some ⟨b9, 0, none⟩)) τ36) fun v37 =>
 Q (.ret v37) τ36))
theorem q_knot_Insert (E : EvT) (Q : RK) (x0_0 : Bool) (x0_1 x0_2 : Value) (x1 x2 x3 : Int) (σ : AHeap) : xfn P E Tryz.f78 (hl [(0, .ord [(0, []), (1, []), (2, []), (3, [0]), (4, []), (5, [])])]) (fun _ => .v) [(.agg #[(.bool x0_0), x0_1, x0_2]), (.int .i64 x1), (.int .u64 x2), (.int .u64 x3)] σ Q = s_knot_Insert E Q x0_0 x0_1 x0_2 x1 x2 x3 σ := by kernel_rfl
theorem e_knot_Insert {Q : RK} {x0_0 : Bool} {x0_1 x0_2 : Value} {x1 x2 x3 : Int} {σ : AHeap} (h : s_knot_Insert E Q x0_0 x0_1 x0_2 x1 x2 x3 σ) : E f_knot_Insert [(.agg #[(.bool x0_0), x0_1, x0_2]), (.int .i64 x1), (.int .u64 x2), (.int .u64 x3)] σ Q :=
  exfn Tryz.func78 _ _ (by kernel_rfl) (Eq.mpr (q_knot_Insert E Q x0_0 x0_1 x0_2 x1 x2 x3 σ) h)
def s_knot_Insert_c1 (E : EvT) (Q : RK) (x0 : Value) (x1 : Bool) (x2 x3 x4 : Nat) (σ : AHeap) : Prop :=
 ldI .i64 (L x2 0 σ) fun n4 =>
 ldI .u64 (L x3 0 σ) fun n7 =>
 ldI .u64 (L x4 0 σ) fun n9 =>
 E f_knot_one [(.bool x1), (.int .u64 n7), (.int .u64 n9)] σ (cI Q .u64 fun n11 τ10 =>
 ldI .i64 (L x2 0 τ10) fun n12 =>
 veq1 (.int .i64 n12) (.int .i64 n4) = true ∧
 wNew τ10 (.cells [(.int .u64 n11)] t_uint64 false) fun b13 τ14 =>
 ldI .i64 (L x2 0 τ14) fun n15 =>
 veq1 (.int .i64 n15) (.int .i64 n4) = true ∧
 E f_slices_Insert_sl_uint64_uint64 [x0, (.int .i64 n4), (.slice (some ⟨b13, 0, none⟩) 1 1)] τ14 (cV Q fun v17 τ16 =>
 Q (.ret v17) τ16))
theorem q_knot_Insert_c1 (E : EvT) (Q : RK) (x0 : Value) (x1 : Bool) (x2 x3 x4 : Nat) (σ : AHeap) : xfn P E Tryz.f133 (hl [(0, .ord [(0, []), (1, []), (2, []), (3, []), (4, []), (5, [1]), (6, [1]), (7, []), (8, [])])]) (fun _ => .v) [x0, (.bool x1), (.pointer (some ⟨x2, 0, none⟩)), (.pointer (some ⟨x3, 0, none⟩)), (.pointer (some ⟨x4, 0, none⟩))] σ Q = s_knot_Insert_c1 E Q x0 x1 x2 x3 x4 σ := by kernel_rfl
theorem e_knot_Insert_c1 {Q : RK} {x0 : Value} {x1 : Bool} {x2 x3 x4 : Nat} {σ : AHeap} (h : s_knot_Insert_c1 E Q x0 x1 x2 x3 x4 σ) : E f_knot_Insert_c1 [x0, (.bool x1), (.pointer (some ⟨x2, 0, none⟩)), (.pointer (some ⟨x3, 0, none⟩)), (.pointer (some ⟨x4, 0, none⟩))] σ Q :=
  exfn Tryz.func133 _ _ (by kernel_rfl) (Eq.mpr (q_knot_Insert_c1 E Q x0 x1 x2 x3 x4 σ) h)
def s_knot_Set (E : EvT) (Q : RK) (x0_0 : Bool) (x0_1 x0_2 : Value) (x1 x2 x3 : Int) (σ : AHeap) : Prop :=
 wNew σ (.cells [(.bool x0_0), x0_1, x0_2] t_api_Node false) fun b1 τ2 =>
 wNew τ2 (.cells [(.int .i64 x1)] t_int false) fun b3 τ4 =>
 wNew τ4 (.cells [(.int .u64 x2)] t_uint64 false) fun b5 τ6 =>
 wNew τ6 (.cells [(.int .u64 x3)] t_uint64 false) fun b7 τ8 =>
 wNew τ8 (.cells [(.bool false), (.slice none 0 0), (.slice none 0 0)] t_api_Node false) fun b9 τ10 =>
 ldB (L b1 0 τ10) fun c13 =>
 om (L b1 1 τ10) fun v14 =>
 om (L b1 2 τ10) fun v15 =>
 E f_knot_both [(.agg #[(.bool c13), v14, v15]), (.func (.func f_knot_Set_c1) #[] #[(.pointer (some ⟨b3, 0, none⟩)), (.pointer (some ⟨b5, 0, none⟩)), (.pointer (some ⟨b7, 0, none⟩))])] τ10 (cV Q fun v20 τ19 =>
 pu (aStore 3 (.pointer (some ⟨b9, 0, none⟩)) v20 τ19) fun τ22 =>
 pu (aLoad true 3 (.pointer (some ⟨b9, 0, none⟩)) τ22) fun v23 =>
 Q (.ret v23) τ22)
theorem q_knot_Set (E : EvT) (Q : RK) (x0_0 : Bool) (x0_1 x0_2 : Value) (x1 x2 x3 : Int) (σ : AHeap) : xfn P E Tryz.f131 (fun _ => none) (fun _ => .v) [(.agg #[(.bool x0_0), x0_1, x0_2]), (.int .i64 x1), (.int .u64 x2), (.int .u64 x3)] σ Q = s_knot_Set E Q x0_0 x0_1 x0_2 x1 x2 x3 σ := by kernel_rfl
theorem e_knot_Set {Q : RK} {x0_0 : Bool} {x0_1 x0_2 : Value} {x1 x2 x3 : Int} {σ : AHeap} (h : s_knot_Set E Q x0_0 x0_1 x0_2 x1 x2 x3 σ) : E f_knot_Set [(.agg #[(.bool x0_0), x0_1, x0_2]), (.int .i64 x1), (.int .u64 x2), (.int .u64 x3)] σ Q :=
  exfn Tryz.func131 _ _ (by kernel_rfl) (Eq.mpr (q_knot_Set E Q x0_0 x0_1 x0_2 x1 x2 x3 σ) h)
def s_knot_Set_c1_k3 (E : EvT) (Q : RK) (v26 : Value) (τ25 : AHeap) : Prop :=
 Q (.ret v26) τ25
def s_knot_Set_c1_k2 (E : EvT) (Q : RK) (c8 : Bool) (v9 : Value) (b10 : Nat) (c13 : Bool) (b15 b18 : Nat) (τ7 : AHeap) : Prop :=
 If c8 (
 ldI .i64 (L b10 0 τ7) fun n11 =>
 ldI .u64 (L b15 0 τ7) fun n16 =>
 ldI .u64 (L b18 0 τ7) fun n19 =>
 E f_knot_one [(.bool c13), (.int .u64 n16), (.int .u64 n19)] τ7 (cI Q .u64 fun n21 τ20 =>
 ldI .i64 (L b10 0 τ20) fun n22 =>
 veq1 (.int .i64 n22) (.int .i64 n11) = true ∧
 om (aIndexAddr 1 v9 (.int .i64 n11)) fun v23 =>
 pu (aStore 1 v23 (.int .u64 n21) τ20) fun τ24 =>
 (s_knot_Set_c1_k3 E Q v9 τ24))) (
 (s_knot_Set_c1_k3 E Q v9 τ7))
def s_knot_Set_c1 (E : EvT) (Q : RK) (x0 : Value) (x1 : Bool) (x2 x3 x4 : Nat) (σ : AHeap) : Prop :=
 ldI .i64 (L x2 0 σ) fun n3 =>
 If (decide (0 ≤ n3)) (
 ldI .i64 (L x2 0 σ) fun n4 =>
 ldI .i64 (lenS x0) fun n6 =>
 (s_knot_Set_c1_k2 E Q (decide (n4 < n6)) x0 x2 x1 x3 x4 σ)) (
 (s_knot_Set_c1_k2 E Q false x0 x2 x1 x3 x4 σ))
theorem q_knot_Set_c1 (E : EvT) (Q : RK) (x0 : Value) (x1 : Bool) (x2 x3 x4 : Nat) (σ : AHeap) : xfn P E Tryz.f166 (hl [(1, .ord [(0, []), (1, []), (2, []), (3, []), (4, []), (5, [1]), (6, []), (7, [])])]) (fun _ => .v) [x0, (.bool x1), (.pointer (some ⟨x2, 0, none⟩)), (.pointer (some ⟨x3, 0, none⟩)), (.pointer (some ⟨x4, 0, none⟩))] σ Q = s_knot_Set_c1 E Q x0 x1 x2 x3 x4 σ := by kernel_rfl
theorem e_knot_Set_c1 {Q : RK} {x0 : Value} {x1 : Bool} {x2 x3 x4 : Nat} {σ : AHeap} (h : s_knot_Set_c1 E Q x0 x1 x2 x3 x4 σ) : E f_knot_Set_c1 [x0, (.bool x1), (.pointer (some ⟨x2, 0, none⟩)), (.pointer (some ⟨x3, 0, none⟩)), (.pointer (some ⟨x4, 0, none⟩))] σ Q :=
  exfn Tryz.func166 _ _ (by kernel_rfl) (Eq.mpr (q_knot_Set_c1 E Q x0 x1 x2 x3 x4 σ) h)
def s_knot_Split (E : EvT) (Q : RK) (x0_0 : Bool) (x0_1 x0_2 : Value) (σ : AHeap) : Prop :=
 wNew σ (.cells [(.bool x0_0), x0_1, x0_2] t_api_Node false) fun b1 τ2 =>
 wNew τ2 (.cells [(.bool false), (.slice none 0 0), (.slice none 0 0)] t_api_Node false) fun b3 τ4 =>
 wNew τ4 (.cells [(.bool false), (.slice none 0 0), (.slice none 0 0)] t_api_Node false) fun b5 τ6 =>
 ldB (L b1 0 τ6) fun c9 =>
 om (L b1 1 τ6) fun v10 =>
 om (L b1 2 τ6) fun v11 =>
 E f_knot_count [(.agg #[(.bool c9), v10, v11])] τ6 (cI Q .i64 fun n13 τ12 =>
 Bi (w64 (n13 + 1)) fun n14 =>
 Bi (w64 (Int.tdiv n14 2)) fun n15 =>
 wNew τ12 (.cells [(.int .i64 0)] t_int false) fun b16 τ17 =>
 St b16 0 (.int .i64 n15) τ17 fun τ18 =>
 ldB (L b1 0 τ18) fun c21 =>
 om (L b1 1 τ18) fun v22 =>
 om (L b1 2 τ18) fun v23 =>
 E f_knot_both [(.agg #[(.bool c21), v22, v23]), (.func (.func f_knot_Split_c1) #[] #[(.pointer (some ⟨b16, 0, none⟩))])] τ18 (cV Q fun v26 τ25 =>
 wNew τ25 (.cells [(.bool false), (.slice none 0 0), (.slice none 0 0)] t_api_Node false) fun b27 τ28 =>
 pu (aStore 3 (.pointer (some ⟨b27, 0, none⟩)) v26 τ28) fun τ29 =>
 ldB (L b1 0 τ29) fun c32 =>
 om (L b1 1 τ29) fun v33 =>
 om (L b1 2 τ29) fun v34 =>
 E f_knot_both [(.agg #[(.bool c32), v33, v34]), (.func (.func f_knot_Split_c2) #[] #[(.pointer (some ⟨b16, 0, none⟩))])] τ29 (cV Q fun v37 τ36 =>
 wNew τ36 (.cells [(.bool false), (.slice none 0 0), (.slice none 0 0)] t_api_Node false) fun b38 τ39 =>
 pu (aStore 3 (.pointer (some ⟨b38, 0, none⟩)) v37 τ39) fun τ40 =>
 ldB (L b27 0 τ40) fun c44 =>
 om (L b27 1 τ40) fun v45 =>
 om (L b27 2 τ40) fun v46 =>
 ldB (L b38 0 τ40) fun c48 =>
 om (L b38 1 τ40) fun v49 =>
 om (L b38 2 τ40) fun v50 =>
 pu (aStore 3 (.pointer (some ⟨b3, 0, none⟩)) (.agg #[(.bool c44), v45, v46]) τ40) fun τ55 =>
 ldB (L b38 0 τ55) fun c56 =>
 om (L b38 1 τ55) fun v57 =>
 om (L b38 2 τ55) fun v58 =>
 veq1 (.agg #[(.bool c56), v57, v58]) (.agg #[(.bool c48), v49, v50]) = true ∧
 pu (aStore 3 (.pointer (some ⟨b5, 0, none⟩)) (.agg #[(.bool c48), v49, v50]) τ55) fun τ63 =>
 pu (aLoad true 3 (.pointer (some ⟨b3, 0, none⟩)) τ63) fun v64 =>
 pu (aLoad true 3 (.pointer (some ⟨b5, 0, none⟩)) τ63) fun v65 =>
 Q (.ret (.tuple #[v64, v65])) τ63)))
theorem q_knot_Split (E : EvT) (Q : RK) (x0_0 : Bool) (x0_1 x0_2 : Value) (σ : AHeap) : xfn P E Tryz.f136 (hl [(0, .ord [(0, []), (1, []), (2, [1]), (3, [])])]) (fun _ => .v) [(.agg #[(.bool x0_0), x0_1, x0_2])] σ Q = s_knot_Split E Q x0_0 x0_1 x0_2 σ := by kernel_rfl
theorem e_knot_Split {Q : RK} {x0_0 : Bool} {x0_1 x0_2 : Value} {σ : AHeap} (h : s_knot_Split E Q x0_0 x0_1 x0_2 σ) : E f_knot_Split [(.agg #[(.bool x0_0), x0_1, x0_2])] σ Q :=
  exfn Tryz.func136 _ _ (by kernel_rfl) (Eq.mpr (q_knot_Split E Q x0_0 x0_1 x0_2 σ) h)
def s_knot_Split_c1 (E : EvT) (Q : RK) (x0 : Value) (x1 : Bool) (x2 : Nat) (σ : AHeap) : Prop :=
 ldI .i64 (L x2 0 σ) fun n4 =>
 ldI .i64 (L x2 0 σ) fun n5 =>
 om (aSlice 1 x0 none (some (.int .i64 n4)) (some (.int .i64 n5))) fun v6 =>
 Q (.ret v6) σ
theorem q_knot_Split_c1 (E : EvT) (Q : RK) (x0 : Value) (x1 : Bool) (x2 : Nat) (σ : AHeap) : xfn P E Tryz.f170 (fun _ => none) (fun _ => .v) [x0, (.bool x1), (.pointer (some ⟨x2, 0, none⟩))] σ Q = s_knot_Split_c1 E Q x0 x1 x2 σ := by kernel_rfl
theorem e_knot_Split_c1 {Q : RK} {x0 : Value} {x1 : Bool} {x2 : Nat} {σ : AHeap} (h : s_knot_Split_c1 E Q x0 x1 x2 σ) : E f_knot_Split_c1 [x0, (.bool x1), (.pointer (some ⟨x2, 0, none⟩))] σ Q :=
  exfn Tryz.func170 _ _ (by kernel_rfl) (Eq.mpr (q_knot_Split_c1 E Q x0 x1 x2 σ) h)
def s_knot_Split_c2 (E : EvT) (Q : RK) (x0 : Value) (x1 : Bool) (x2 : Nat) (σ : AHeap) : Prop :=
 ldI .i64 (L x2 0 σ) fun n4 =>
 om (aSlice 1 x0 (some (.int .i64 n4)) none none) fun v5 =>
 Q (.ret v5) σ
theorem q_knot_Split_c2 (E : EvT) (Q : RK) (x0 : Value) (x1 : Bool) (x2 : Nat) (σ : AHeap) : xfn P E Tryz.f171 (fun _ => none) (fun _ => .v) [x0, (.bool x1), (.pointer (some ⟨x2, 0, none⟩))] σ Q = s_knot_Split_c2 E Q x0 x1 x2 σ := by kernel_rfl
theorem e_knot_Split_c2 {Q : RK} {x0 : Value} {x1 : Bool} {x2 : Nat} {σ : AHeap} (h : s_knot_Split_c2 E Q x0 x1 x2 σ) : E f_knot_Split_c2 [x0, (.bool x1), (.pointer (some ⟨x2, 0, none⟩))] σ Q :=
  exfn Tryz.func171 _ _ (by kernel_rfl) (Eq.mpr (q_knot_Split_c2 E Q x0 x1 x2 σ) h)
def s_slices_Insert_sl_uint64_uint64 (E : EvT) (Q : RK) (x0 : Value) (x1 : Int) (x2 : Value) (σ : AHeap) : Prop :=
 om (aSlice 1 x0 (some (.int .i64 x1)) none none) fun v4 =>
 ldI .i64 (lenS x2) fun n8 =>
 If (decide (n8 = 0)) (
 Q (.ret x0) σ) (
 ldI .i64 (lenS x0) fun n18 =>
 If (decide (x1 = n18)) (
 pu (aAppend t_uint64 1 8 x0 x2 σ) fun r35 =>
 Q (.ret r35.1) r35.2) (
 Bi (w64 (n18 + n8)) fun n44 =>
 ldI .i64 (aCap x0) fun n46 =>
 If (decide (n46 < n44)) (
 om (aSlice 1 x0 none (some (.int .i64 x1)) none) fun v53 =>
 Bi (w64 (n18 + n8)) fun n56 =>
 Bi (w64 (n56 - x1)) fun n57 =>
 pu (aAppendZ t_uint64 1 8 [(.int .u64 0)] v53 (.int .i64 n57) σ) fun r58 =>
 om (aSlice 1 r58.1 (some (.int .i64 x1)) none none) fun v62 =>
 pu (aCopy 1 v62 x2 r58.2) fun r66 =>
 Bi (w64 (x1 + n8)) fun n72 =>
 om (aSlice 1 r58.1 (some (.int .i64 n72)) none none) fun v73 =>
 om (aSlice 1 x0 (some (.int .i64 x1)) none none) fun v76 =>
 pu (aCopy 1 v73 v76 r66.2) fun r77 =>
 Q (.ret r58.1) r77.2) (
 Bi (w64 (n18 + n8)) fun n84 =>
 om (aSlice 1 x0 none (some (.int .i64 n84)) none) fun v85 =>
 Bi (w64 (x1 + n8)) fun n93 =>
 om (aSlice 1 v85 (some (.int .i64 n93)) none none) fun v94 =>
 E f_slices_overlaps_uint64 [x2, v94] σ (cB Q fun c96 τ95 =>
 If (!c96) (
 Bi (w64 (x1 + n8)) fun n102 =>
 om (aSlice 1 v85 (some (.int .i64 n102)) none none) fun v103 =>
 om (aSlice 1 v85 (some (.int .i64 x1)) none none) fun v104 =>
 pu (aCopy 1 v103 v104 τ95) fun r105 =>
 om (aSlice 1 v85 (some (.int .i64 x1)) none none) fun v109 =>
 pu (aCopy 1 v109 x2 r105.2) fun r112 =>
 Q (.ret v85) r112.2) (
 om (aSlice 1 v85 (some (.int .i64 n18)) none none) fun v120 =>
 pu (aCopy 1 v120 x2 τ95) fun r122 =>
 om (aSlice 1 v85 (some (.int .i64 x1)) none none) fun v127 =>
 E f_slices_rotateRight_uint64 [v127, (.int .i64 n8)] r122.2 (c0 Q fun τ130 =>
 Q (.ret v85) τ130))))))
theorem q_slices_Insert_sl_uint64_uint64 (E : EvT) (Q : RK) (x0 : Value) (x1 : Int) (x2 : Value) (σ : AHeap) : xfn P E Tryz.f134 (hl [(3, .ord [(0, []), (1, []), (2, []), (3, []), (4, []), (5, []), (6, []), (7, []), (8, [])]), (5, .ord [(0, []), (1, []), (2, []), (3, []), (4, []), (5, []), (6, []), (7, []), (8, [])])]) (fun _ => .v) [x0, (.int .i64 x1), x2] σ Q = s_slices_Insert_sl_uint64_uint64 E Q x0 x1 x2 σ := by kernel_rfl
theorem e_slices_Insert_sl_uint64_uint64 {Q : RK} {x0 : Value} {x1 : Int} {x2 : Value} {σ : AHeap} (h : s_slices_Insert_sl_uint64_uint64 E Q x0 x1 x2 σ) : E f_slices_Insert_sl_uint64_uint64 [x0, (.int .i64 x1), x2] σ Q :=
  exfn Tryz.func134 _ _ (by kernel_rfl) (Eq.mpr (q_slices_Insert_sl_uint64_uint64 E Q x0 x1 x2 σ) h)
def s_slices_Clone_sl_uint64_uint64 (E : EvT) (Q : RK) (x0 : Value) (σ : AHeap) : Prop :=
 ldB (aBin (some (.slice t_uint64)) .eql x0 (.slice none 0 0)) fun c3 =>
 If c3 (
 Q (.ret (.slice none 0 0)) σ) (
 pu (aAppend t_uint64 1 8 (.slice (some ⟨ZB, 0, some 0⟩) 0 0) x0 σ) fun r9 =>
 Q (.ret r9.1) r9.2)
theorem q_slices_Clone_sl_uint64_uint64 (E : EvT) (Q : RK) (x0 : Value) (σ : AHeap) : xfn P E Tryz.f167 (fun _ => none) (fun _ => .v) [x0] σ Q = s_slices_Clone_sl_uint64_uint64 E Q x0 σ := by kernel_rfl
theorem e_slices_Clone_sl_uint64_uint64 {Q : RK} {x0 : Value} {σ : AHeap} (h : s_slices_Clone_sl_uint64_uint64 E Q x0 σ) : E f_slices_Clone_sl_uint64_uint64 [x0] σ Q :=
  exfn Tryz.func167 _ _ (by kernel_rfl) (Eq.mpr (q_slices_Clone_sl_uint64_uint64 E Q x0 σ) h)
def s_slices_rotateRight_uint64 (E : EvT) (Q : RK) (x0 : Value) (x1 : Int) (σ : AHeap) : Prop :=
 ldI .i64 (lenS x0) fun n1 =>
 Bi (w64 (n1 - x1)) fun n2 =>
 E f_slices_rotateLeft_uint64 [x0, (.int .i64 n2)] σ (c0 Q fun τ3 =>
 Q (.ret (.tuple #[])) τ3)
theorem q_slices_rotateRight_uint64 (E : EvT) (Q : RK) (x0 : Value) (x1 : Int) (σ : AHeap) : xfn P E Tryz.f169 (fun _ => none) (fun _ => .v) [x0, (.int .i64 x1)] σ Q = s_slices_rotateRight_uint64 E Q x0 x1 σ := by kernel_rfl
theorem e_slices_rotateRight_uint64 {Q : RK} {x0 : Value} {x1 : Int} {σ : AHeap} (h : s_slices_rotateRight_uint64 E Q x0 x1 σ) : E f_slices_rotateRight_uint64 [x0, (.int .i64 x1)] σ Q :=
  exfn Tryz.func169 _ _ (by kernel_rfl) (Eq.mpr (q_slices_rotateRight_uint64 E Q x0 x1 σ) h)
def s_slices_rotateLeft_uint64 (E : EvT) (Q : RK) (x0 : Value) (x1 : Int) (σ : AHeap) : Prop :=
 om (aSlice 1 x0 none (some (.int .i64 x1)) none) fun v1 =>
 E f_slices_Reverse_sl_uint64_uint64 [v1] σ (c0 Q fun τ2 =>
 om (aSlice 1 x0 (some (.int .i64 x1)) none none) fun v6 =>
 E f_slices_Reverse_sl_uint64_uint64 [v6] τ2 (c0 Q fun τ7 =>
 E f_slices_Reverse_sl_uint64_uint64 [x0] τ7 (c0 Q fun τ10 =>
 Q (.ret (.tuple #[])) τ10)))
theorem q_slices_rotateLeft_uint64 (E : EvT) (Q : RK) (x0 : Value) (x1 : Int) (σ : AHeap) : xfn P E Tryz.f188 (fun _ => none) (fun _ => .v) [x0, (.int .i64 x1)] σ Q = s_slices_rotateLeft_uint64 E Q x0 x1 σ := by kernel_rfl
theorem e_slices_rotateLeft_uint64 {Q : RK} {x0 : Value} {x1 : Int} {σ : AHeap} (h : s_slices_rotateLeft_uint64 E Q x0 x1 σ) : E f_slices_rotateLeft_uint64 [x0, (.int .i64 x1)] σ Q :=
  exfn Tryz.func188 _ _ (by kernel_rfl) (Eq.mpr (q_slices_rotateLeft_uint64 E Q x0 x1 σ) h)
def s_slices_Reverse_sl_uint64_uint64_b1 (N1 : Int → Int → AHeap → Prop) (E : EvT) (Q : RK) (v7 : Value) (n4 n5 : Int) (τ8 : AHeap) : Prop :=
 If (decide (n4 < n5)) (
 om (aIndexAddr 1 v7 (.int .i64 n5)) fun v18 =>
 ldI .u64 (aLoad false 1 v18 τ8) fun n19 =>
 om (aIndexAddr 1 v7 (.int .i64 n4)) fun v20 =>
 ldI .u64 (aLoad false 1 v20 τ8) fun n21 =>
 om (aIndexAddr 1 v7 (.int .i64 n4)) fun v22 =>
 pu (aStore 1 v22 (.int .u64 n19) τ8) fun τ23 =>
 om (aIndexAddr 1 v7 (.int .i64 n5)) fun v24 =>
 pu (aStore 1 v24 (.int .u64 n21) τ23) fun τ25 =>
 Bi (w64 (n4 + 1)) fun n28 =>
 Bi (w64 (n5 - 1)) fun n30 =>
 N1 n28 n30 τ25) (
 Q (.ret (.tuple #[])) τ8)
def s_slices_Reverse_sl_uint64_uint64 (E : EvT) (Q : RK) (x0 : Value) (σ : AHeap) : Prop :=
 ldI .i64 (lenS x0) fun n1 =>
 Bi (w64 (n1 - 1)) fun n2 =>
 ∃ I31 : Nat → Int → Int → AHeap → Prop, (∃ m, I31 m 0 n2 σ) ∧
 ∀ m (n4 : Int) (n5 : Int) (σ' : AHeap), I31 m n4 n5 σ' → (s_slices_Reverse_sl_uint64_uint64_b1 (fun n4 n5 σ' => ∃ m', m' < m ∧ I31 m' n4 n5 σ') E Q x0 n4 n5 σ')
theorem q_slices_Reverse_sl_uint64_uint64 (E : EvT) (Q : RK) (x0 : Value) (σ : AHeap) : xfn P E Tryz.f192 (hl [(1, .loopr [0] [2, 3] [] [2, 3]), (4, .ord [(0, []), (1, []), (2, []), (3, []), (4, []), (5, []), (6, []), (7, []), (8, []), (9, []), (10, []), (11, []), (12, []), (13, []), (14, []), (15, [])])]) (fun | 2 => (.i .i64) | 3 => (.i .i64) | _ => .v) [x0] σ Q = s_slices_Reverse_sl_uint64_uint64 E Q x0 σ := by kernel_rfl
theorem e_slices_Reverse_sl_uint64_uint64 {Q : RK} {x0 : Value} {σ : AHeap} (h : s_slices_Reverse_sl_uint64_uint64 E Q x0 σ) : E f_slices_Reverse_sl_uint64_uint64 [x0] σ Q :=
  exfn Tryz.func192 _ _ (by kernel_rfl) (Eq.mpr (q_slices_Reverse_sl_uint64_uint64 E Q x0 σ) h)
end Go.Ax.C
namespace Go.Ax
def RQ (Q : WK) : RK := RP Q noP
end Go.Ax
namespace Go.Ax.O
open Go.Proofs
noncomputable abbrev P : Program := C.P
noncomputable def E (f : FuncId) (a : List Value) (σ : AHeap) (Q : WK) : Prop := C.E f a σ (RP Q noP)
theorem C_mono {f : FuncId} {args : List Value} {σ : AHeap} {Q Q' : RK} (h : C.E f args σ Q) (hq : ∀ r σ', Q r σ' → Q' r σ') : C.E f args σ Q' := by
  rw [C.E_eq] at h ⊢
  exact h.mono hq
@[congr] theorem E_congr {f : FuncId} {a a' : List Value} {σ σ' : AHeap} {Q : WK} (h : a = a') (g : σ = σ') : E f a σ Q = E f a' σ' Q := by rw [h, g]
theorem owfn {f : FuncId} {fn : Func} (hf : P.funcs[f]? = some fn) (h : Nat → Option Hint) (hc : fnChk fn h = true) {args : List Value} {σ : AHeap} {Q : WK} (hx : wfn P C.E fn h args σ (RQ Q)) : E f args σ Q := by
  unfold E
  rw [C.E_eq] at hx ⊢
  exact Ev.fn C.mixed hf h hc hx
theorem up {f : FuncId} {args : List Value} {σ : AHeap} {Q : RK} (h : E f args σ fun v τ => Q (.ret v) τ) : C.E f args σ Q :=
  C_mono h fun r σ' hr => by
    cases r with
    | ret v => exact hr
    | pan v => exact hr.elim
end Go.Ax.O
set_option linter.unusedVariables false
set_option maxRecDepth 100000
namespace Go.Ax.O
open Go.Proofs
def o_bytes_Clone (Q : WK) (x0 : Value) (σ : AHeap) : Prop :=
  pu (aBin (some (.slice t_uint8)) .eql x0 (.slice none 0 0)) fun v4_3 =>
  wC v4_3 (
  Q (.slice none 0 0) σ) (
  pu (aAppend t_uint8 1 1 (.slice (some ⟨ZB, 0, some 0⟩) 0 0) x0 σ) fun r7_8 =>
  Q r7_8.1 r7_8.2)
theorem o_bytes_Clone_eq (Q : WK) (x0 : Value) (σ : AHeap) : wfn P C.E Tryz.f99 (fun _ => none) [x0] σ (RQ Q) = o_bytes_Clone Q x0 σ := by kernel_rfl
theorem o_bytes_Clone_ev {Q : WK} {x0 : Value} {σ : AHeap} (h : o_bytes_Clone Q x0 σ) : E f_bytes_Clone [x0] σ Q := owfn Tryz.func99 _ (by kernel_rfl) (Eq.mpr (o_bytes_Clone_eq Q x0 σ) h)
def o_cache_Cache_Get_k12 (Q : WK) (p0_57 p1_58 : Value) (τ_56 : AHeap) : Prop :=
  E f_cache_Cache_use [p0_57, p1_58] τ_56 fun v48_59 τ_60 =>
  pu (aNil v48_59) fun v49_61 =>
  pu (aFieldAddr 4 v49_61) fun v50_62 =>
  pu (aLoad false 1 v50_62 τ_60) fun v51_63 =>
  E f_bytes_Clone [v51_63] τ_60 fun v52_64 τ_65 =>
  Q (.tuple #[v52_64, (.int .i64 0)]) τ_65
def o_cache_Cache_Get (Q : WK) (x0 x1 : Value) (σ : AHeap) : Prop :=
  E f_cache_Cache_ready [x0, x1] σ fun v12_4 τ_5 =>
  pu (aBin (some (.int .i64)) .neq v12_4 (.int .i64 0)) fun v14_8 =>
  wC v14_8 (
  Q (.tuple #[(.slice none 0 0), v12_4]) τ_5) (
  pu (aNil x0) fun v17_14 =>
  pu (aFieldAddr 3 v17_14) fun v18_15 =>
  pu (aLoad false 1 v18_15 τ_5) fun v19_16 =>
  pu (aLookup P t_m_int_p_cache_item v19_16 x1 false τ_5) fun v21_18 =>
  pu (aBin (some (.pointer t_cache_item)) .eql v21_18 (.pointer none)) fun v22_19 =>
  wC v22_19 (
  E f_cache_Cache_room [x0] τ_5 fun v24_23 τ_24 =>
  pu (aBin (some (.int .i64)) .neq v24_23 (.int .i64 0)) fun v26_27 =>
  wC v26_27 (
  Q (.tuple #[(.slice none 0 0), v24_23]) τ_24) (
  pu (aNil x0) fun v30_33 =>
  pu (aFieldAddr 0 v30_33) fun v31_34 =>
  pu (aLoad false 1 v31_34 τ_24) fun v32_35 =>
  E f_disk_Disk_Read [v32_35, x1] τ_24 fun v34_37 τ_38 =>
  pu (aExtract v34_37 0) fun v35_39 =>
  pu (aExtract v34_37 1) fun v36_40 =>
  pu (aBin (some (.int .i64)) .neq v36_40 (.int .i64 0)) fun v38_43 =>
  wC v38_43 (
  Q (.tuple #[(.slice none 0 0), v36_40]) τ_38) (
  E f_cache_Cache_use [x0, x1] τ_38 fun v42_50 τ_51 =>
  pu (aNil v42_50) fun v44_53 =>
  pu (aFieldAddr 4 v44_53) fun v45_54 =>
  pu (aStore 1 v45_54 v35_39 τ_51) fun τ_55 =>
  (o_cache_Cache_Get_k12 Q x0 x1 τ_55)))) (
  (o_cache_Cache_Get_k12 Q x0 x1 τ_5)))
theorem o_cache_Cache_Get_eq (Q : WK) (x0 x1 : Value) (σ : AHeap) : wfn P C.E Tryz.f66 (fun _ => none) [x0, x1] σ (RQ Q) = o_cache_Cache_Get Q x0 x1 σ := by kernel_rfl
theorem o_cache_Cache_Get_ev {Q : WK} {x0 x1 : Value} {σ : AHeap} (h : o_cache_Cache_Get Q x0 x1 σ) : E f_cache_Cache_Get [x0, x1] σ Q := owfn Tryz.func66 _ (by kernel_rfl) (Eq.mpr (o_cache_Cache_Get_eq Q x0 x1 σ) h)
def o_cache_Cache_Put_k10 (Q : WK) (p0_38 p1_39 p2_54 : Value) (τ_37 : AHeap) : Prop :=
  E f_cache_Cache_use [p0_38, p1_39] τ_37 fun v33_40 τ_41 =>
  E f_bytes_Clone [p2_54] τ_41 fun v37_45 τ_46 =>
  pu (aNil v33_40) fun v38_47 =>
  pu (aFieldAddr 4 v38_47) fun v39_48 =>
  pu (aStore 1 v39_48 v37_45 τ_46) fun τ_49 =>
  pu (aNil v33_40) fun v40_50 =>
  pu (aFieldAddr 3 v40_50) fun v41_51 =>
  pu (aStore 1 v41_51 (.bool true) τ_49) fun τ_52 =>
  Q (.int .i64 0) τ_52
def o_cache_Cache_Put (Q : WK) (x0 x1 x2 : Value) (σ : AHeap) : Prop :=
  E f_cache_Cache_ready [x0, x1] σ fun v12_4 τ_5 =>
  pu (aBin (some (.int .i64)) .neq v12_4 (.int .i64 0)) fun v14_8 =>
  wC v14_8 (
  Q v12_4 τ_5) (
  pu (lenS x2) fun v17_14 =>
  pu (aBin (some (.int .i64)) .neq v17_14 (.int .i64 256)) fun v18_15 =>
  wC v18_15 (
  Q (.int .i64 1) τ_5) (
  pu (aNil x0) fun v20_20 =>
  pu (aFieldAddr 3 v20_20) fun v21_21 =>
  pu (aLoad false 1 v21_21 τ_5) fun v22_22 =>
  pu (aLookup P t_m_int_p_cache_item v22_22 x1 false τ_5) fun v24_24 =>
  pu (aBin (some (.pointer t_cache_item)) .eql v24_24 (.pointer none)) fun v25_25 =>
  wC v25_25 (
  E f_cache_Cache_room [x0] τ_5 fun v27_29 τ_30 =>
  pu (aBin (some (.int .i64)) .neq v27_29 (.int .i64 0)) fun v29_33 =>
  wC v29_33 (
  Q v27_29 τ_30) (
  (o_cache_Cache_Put_k10 Q x0 x1 x2 τ_30))) (
  (o_cache_Cache_Put_k10 Q x0 x1 x2 τ_5))))
theorem o_cache_Cache_Put_eq (Q : WK) (x0 x1 x2 : Value) (σ : AHeap) : wfn P C.E Tryz.f62 (fun _ => none) [x0, x1, x2] σ (RQ Q) = o_cache_Cache_Put Q x0 x1 x2 σ := by kernel_rfl
theorem o_cache_Cache_Put_ev {Q : WK} {x0 x1 x2 : Value} {σ : AHeap} (h : o_cache_Cache_Put Q x0 x1 x2 σ) : E f_cache_Cache_Put [x0, x1, x2] σ Q := owfn Tryz.func62 _ (by kernel_rfl) (Eq.mpr (o_cache_Cache_Put_eq Q x0 x1 x2 σ) h)
def o_cache_Cache_ready_k4 (Q : WK) (p21_19 : Value) (τ_18 : AHeap) : Prop :=
  wC p21_19 (
  Q (.int .i64 6) τ_18) (
  Q (.int .i64 0) τ_18)
def o_cache_Cache_ready_k2 (Q : WK) (p5_6 p0_7 p1_30 : Value) (τ_5 : AHeap) : Prop :=
  wC p5_6 (
  Q (.int .i64 2) τ_5) (
  pu (aNil p0_7) fun v17_8 =>
  pu (aFieldAddr 0 v17_8) fun v18_9 =>
  pu (aLoad false 1 v18_9 τ_5) fun v19_10 =>
  E f_disk_Disk_Off [v19_10] τ_5 fun v20_11 τ_12 =>
  wC v20_11 (
  Q (.int .i64 9) τ_12) (
  pu (aBin (some (.int .i64)) .lss p1_30 (.int .i64 0)) fun v23_16 =>
  wG v23_16 (
  (o_cache_Cache_ready_k4 Q (.bool true) τ_12)) (
  pu (aNil p0_7) fun v27_22 =>
  pu (aFieldAddr 0 v27_22) fun v28_23 =>
  pu (aLoad false 1 v28_23 τ_12) fun v29_24 =>
  E f_disk_Disk_Blocks [v29_24] τ_12 fun v30_25 τ_26 =>
  pu (aBin (some (.int .i64)) .geq p1_30 v30_25) fun v31_27 =>
  (o_cache_Cache_ready_k4 Q v31_27 τ_26)) (
  wB v23_16 fun b_29 =>
  (o_cache_Cache_ready_k4 Q (cond b_29 (.bool true) skipV) τ_12))))
def o_cache_Cache_ready (Q : WK) (x0 x1 : Value) (σ : AHeap) : Prop :=
  pu (aBin (some (.pointer t_cache_Cache)) .eql x0 (.pointer none)) fun v7_3 =>
  wG v7_3 (
  (o_cache_Cache_ready_k2 Q (.bool true) x0 x1 σ)) (
  pu (aNil x0) fun v10_32 =>
  pu (aFieldAddr 0 v10_32) fun v11_33 =>
  pu (aLoad false 1 v11_33 σ) fun v12_34 =>
  pu (aBin (some (.pointer t_disk_Disk)) .eql v12_34 (.pointer none)) fun v13_35 =>
  (o_cache_Cache_ready_k2 Q v13_35 x0 x1 σ)) (
  wB v7_3 fun b_37 =>
  (o_cache_Cache_ready_k2 Q (cond b_37 (.bool true) skipV) x0 x1 σ))
theorem o_cache_Cache_ready_eq (Q : WK) (x0 x1 : Value) (σ : AHeap) : wfn P C.E Tryz.f120 (fun _ => none) [x0, x1] σ (RQ Q) = o_cache_Cache_ready Q x0 x1 σ := by kernel_rfl
theorem o_cache_Cache_ready_ev {Q : WK} {x0 x1 : Value} {σ : AHeap} (h : o_cache_Cache_ready Q x0 x1 σ) : E f_cache_Cache_ready [x0, x1] σ Q := owfn Tryz.func120 _ (by kernel_rfl) (Eq.mpr (o_cache_Cache_ready_eq Q x0 x1 σ) h)
def o_cache_Cache_room (Q : WK) (x0 : Value) (σ : AHeap) : Prop :=
  pu (aNil x0) fun v6_3 =>
  pu (aFieldAddr 4 v6_3) fun v7_4 =>
  pu (aLoad false 1 v7_4 σ) fun v8_5 =>
  pu (lenS v8_5) fun v9_6 =>
  pu (aNil x0) fun v11_7 =>
  pu (aFieldAddr 1 v11_7) fun v12_8 =>
  pu (aLoad false 1 v12_8 σ) fun v13_9 =>
  pu (aBin (some (.int .i64)) .lss v9_6 v13_9) fun v14_10 =>
  wC v14_10 (
  Q (.int .i64 0) σ) (
  pu (aNil x0) fun v17_15 =>
  pu (aFieldAddr 4 v17_15) fun v18_16 =>
  pu (aLoad false 1 v18_16 σ) fun v19_17 =>
  pu (aIndexAddr 1 v19_17 (.int .i64 0)) fun v20_18 =>
  pu (aLoad false 1 v20_18 σ) fun v21_19 =>
  E f_cache_Cache_write [x0, v21_19] σ fun v22_20 τ_21 =>
  pu (aBin (some (.int .i64)) .neq v22_20 (.int .i64 0)) fun v24_24 =>
  wC v24_24 (
  Q v22_20 τ_21) (
  pu (aNil x0) fun v27_30 =>
  pu (aFieldAddr 4 v27_30) fun v28_31 =>
  pu (aIface P t_p_cache_row v28_31) fun v29_32 =>
  E f_heap_Pop [v29_32] τ_21 fun v30_33 τ_34 =>
  pu (aAssert P t_p_cache_item false v30_33) fun v31_35 =>
  pu (aNil x0) fun v33_38 =>
  pu (aFieldAddr 3 v33_38) fun v34_39 =>
  pu (aLoad false 1 v34_39 τ_34) fun v35_40 =>
  pu (aNil v31_35) fun v37_42 =>
  pu (aFieldAddr 0 v37_42) fun v38_43 =>
  pu (aLoad false 1 v38_43 τ_34) fun v39_44 =>
  pu (aDelete P t_m_int_p_cache_item v35_40 v39_44 τ_34) fun τ_45 =>
  Q (.int .i64 0) τ_45))
theorem o_cache_Cache_room_eq (Q : WK) (x0 : Value) (σ : AHeap) : wfn P C.E Tryz.f121 (hl [(0, .ord [(0, []), (1, []), (2, []), (3, []), (4, []), (5, []), (6, []), (7, []), (8, []), (9, [])]), (3, .ord [(0, []), (1, []), (2, []), (3, []), (4, []), (5, []), (6, []), (7, []), (8, [])])]) [x0] σ (RQ Q) = o_cache_Cache_room Q x0 σ := by kernel_rfl
theorem o_cache_Cache_room_ev {Q : WK} {x0 : Value} {σ : AHeap} (h : o_cache_Cache_room Q x0 σ) : E f_cache_Cache_room [x0] σ Q := owfn Tryz.func121 _ (by kernel_rfl) (Eq.mpr (o_cache_Cache_room_eq Q x0 σ) h)
def o_cache_Cache_use_k7 (Q : WK) (p5_50 p0_51 : Value) (τ_49 : AHeap) : Prop :=
  pu (aNil p0_51) fun v47_52 =>
  pu (aFieldAddr 2 v47_52) fun v48_53 =>
  pu (aLoad false 1 v48_53 τ_49) fun v49_54 =>
  pu (aNil p5_50) fun v50_55 =>
  pu (aFieldAddr 2 v50_55) fun v51_56 =>
  pu (aStore 1 v51_56 v49_54 τ_49) fun τ_57 =>
  pu (aNil p0_51) fun v53_60 =>
  pu (aFieldAddr 4 v53_60) fun v54_61 =>
  pu (aIface P t_p_cache_row v54_61) fun v55_62 =>
  pu (aNil p5_50) fun v57_64 =>
  pu (aFieldAddr 1 v57_64) fun v58_65 =>
  pu (aLoad false 1 v58_65 τ_57) fun v59_66 =>
  E f_heap_Fix [v55_62, v59_66] τ_57 fun v60_67 τ_68 =>
  Q p5_50 τ_68
def o_cache_Cache_use (Q : WK) (x0 x1 : Value) (σ : AHeap) : Prop :=
  pu (aNil x0) fun v8_3 =>
  pu (aFieldAddr 2 v8_3) fun v9_4 =>
  pu (aLoad false 1 v9_4 σ) fun v10_5 =>
  pu (aBin (some (.int .u64)) .add v10_5 (.int .u64 1)) fun v11_6 =>
  pu (aNil x0) fun v12_7 =>
  pu (aFieldAddr 2 v12_7) fun v13_8 =>
  pu (aStore 1 v13_8 v11_6 σ) fun τ_9 =>
  pu (aNil x0) fun v16_12 =>
  pu (aFieldAddr 3 v16_12) fun v17_13 =>
  pu (aLoad false 1 v17_13 τ_9) fun v18_14 =>
  pu (aLookup P t_m_int_p_cache_item v18_14 x1 true τ_9) fun v20_16 =>
  pu (aExtract v20_16 0) fun v21_17 =>
  pu (aExtract v20_16 1) fun v22_18 =>
  pu (aUn .not v22_18) fun v24_21 =>
  wC v24_21 (
  pu (aNil x0) fun v27_26 =>
  pu (aFieldAddr 2 v27_26) fun v28_27 =>
  pu (aLoad false 1 v28_27 τ_9) fun v29_28 =>
  pu (buildR [(0, 1), (1, 1), (2, 1), (3, 1), (4, 1)] [(.int .i64 0), (.int .i64 0), (.int .u64 0), (.bool false), (.slice none 0 0)] [(0, x1), (2, v29_28)]) fun v30_29 =>
  cond (live v30_29) (wNew τ_9 (.cells (Value.cells v30_29).toList t_cache_item false) fun b_30 τ_31 =>
  pu (aNil x0) fun v33_34 =>
  pu (aFieldAddr 3 v33_34) fun v34_35 =>
  pu (aLoad false 1 v34_35 τ_31) fun v35_36 =>
  pu (aMapUpdate P t_m_int_p_cache_item v35_36 x1 (.pointer (some ⟨b_30, 0, none⟩)) τ_31) fun τ_39 =>
  pu (aNil x0) fun v39_42 =>
  pu (aFieldAddr 4 v39_42) fun v40_43 =>
  pu (aIface P t_p_cache_row v40_43) fun v41_44 =>
  pu (aIface P t_p_cache_item (.pointer (some ⟨b_30, 0, none⟩))) fun v43_46 =>
  E f_heap_Push [v41_44, v43_46] τ_39 fun v44_47 τ_48 =>
  (o_cache_Cache_use_k7 Q (.pointer (some ⟨b_30, 0, none⟩)) x0 τ_48)) False) (
  (o_cache_Cache_use_k7 Q v21_17 x0 τ_9))
theorem o_cache_Cache_use_eq (Q : WK) (x0 x1 : Value) (σ : AHeap) : wfn P C.E Tryz.f122 (hl [(1, .ord [(0, []), (1, []), (2, []), (3, []), (4, []), (5, []), (6, []), (7, []), (8, [])])]) [x0, x1] σ (RQ Q) = o_cache_Cache_use Q x0 x1 σ := by kernel_rfl
theorem o_cache_Cache_use_ev {Q : WK} {x0 x1 : Value} {σ : AHeap} (h : o_cache_Cache_use Q x0 x1 σ) : E f_cache_Cache_use [x0, x1] σ Q := owfn Tryz.func122 _ (by kernel_rfl) (Eq.mpr (o_cache_Cache_use_eq Q x0 x1 σ) h)
def o_cache_Cache_write (Q : WK) (x0 x1 : Value) (σ : AHeap) : Prop :=
  pu (aNil x1) fun v7_3 =>
  pu (aFieldAddr 3 v7_3) fun v8_4 =>
  pu (aLoad false 1 v8_4 σ) fun v9_5 =>
  pu (aUn .not v9_5) fun v10_6 =>
  wC v10_6 (
  Q (.int .i64 0) σ) (
  pu (aNil x0) fun v12_11 =>
  pu (aFieldAddr 0 v12_11) fun v13_12 =>
  pu (aLoad false 1 v13_12 σ) fun v14_13 =>
  pu (aNil x1) fun v16_15 =>
  pu (aFieldAddr 0 v16_15) fun v17_16 =>
  pu (aLoad false 1 v17_16 σ) fun v18_17 =>
  pu (aNil x1) fun v20_18 =>
  pu (aFieldAddr 4 v20_18) fun v21_19 =>
  pu (aLoad false 1 v21_19 σ) fun v22_20 =>
  E f_disk_Disk_Write [v14_13, v18_17, v22_20] σ fun v23_21 τ_22 =>
  pu (aBin (some (.int .i64)) .neq v23_21 (.int .i64 0)) fun v26_26 =>
  pu (aNil x1) fun v27_27 =>
  pu (aFieldAddr 3 v27_27) fun v28_28 =>
  pu (aStore 1 v28_28 v26_26 τ_22) fun τ_29 =>
  Q v23_21 τ_29)
theorem o_cache_Cache_write_eq (Q : WK) (x0 x1 : Value) (σ : AHeap) : wfn P C.E Tryz.f159 (hl [(1, .ord [(0, []), (1, []), (2, []), (3, []), (4, []), (5, []), (6, []), (7, []), (8, []), (9, []), (10, []), (11, []), (12, []), (13, [])])]) [x0, x1] σ (RQ Q) = o_cache_Cache_write Q x0 x1 σ := by kernel_rfl
theorem o_cache_Cache_write_ev {Q : WK} {x0 x1 : Value} {σ : AHeap} (h : o_cache_Cache_write Q x0 x1 σ) : E f_cache_Cache_write [x0, x1] σ Q := owfn Tryz.func159 _ (by kernel_rfl) (Eq.mpr (o_cache_Cache_write_eq Q x0 x1 σ) h)
def o_cache_New_k4 (Q : WK) (p18_12 p0_20 p1_21 : Value) (τ_11 : AHeap) : Prop :=
  wC p18_12 (
  Q (.tuple #[(.pointer none), (.int .i64 1)]) τ_11) (
  pu (aMakeMap P t_m_int_p_cache_item none τ_11) fun r21_16 =>
  pu (buildR [(0, 1), (1, 1), (2, 1), (3, 1), (4, 1)] [(.pointer none), (.int .i64 0), (.int .u64 0), (.map none), (.slice none 0 0)] [(0, p0_20), (1, p1_21), (3, r21_16.1)]) fun v22_17 =>
  cond (live v22_17) (wNew r21_16.2 (.cells (Value.cells v22_17).toList t_cache_Cache false) fun b_18 τ_19 =>
  Q (.tuple #[(.pointer (some ⟨b_18, 0, none⟩)), (.int .i64 0)]) τ_19) False)
def o_cache_New_k2 (Q : WK) (p12_6 p1_26 p0_27 : Value) (τ_5 : AHeap) : Prop :=
  wC p12_6 (
  Q (.tuple #[(.pointer none), (.int .i64 2)]) τ_5) (
  pu (aBin (some (.int .i64)) .lss p1_26 (.int .i64 1)) fun v14_9 =>
  wG v14_9 (
  (o_cache_New_k4 Q (.bool true) p0_27 p1_26 τ_5)) (
  pu (aBin (some (.int .i64)) .gtr p1_26 (.int .i64 1024)) fun v17_23 =>
  (o_cache_New_k4 Q v17_23 p0_27 p1_26 τ_5)) (
  wB v14_9 fun b_25 =>
  (o_cache_New_k4 Q (cond b_25 (.bool true) skipV) p0_27 p1_26 τ_5)))
def o_cache_New (Q : WK) (x0 x1 : Value) (σ : AHeap) : Prop :=
  pu (aBin (some (.pointer t_disk_Disk)) .eql x0 (.pointer none)) fun v7_3 =>
  wG v7_3 (
  (o_cache_New_k2 Q (.bool true) x1 x0 σ)) (
  E f_disk_Disk_Blocks [x0] σ fun v10_29 τ_30 =>
  pu (aBin (some (.int .i64)) .eql v10_29 (.int .i64 0)) fun v11_31 =>
  (o_cache_New_k2 Q v11_31 x1 x0 τ_30)) (
  wB v7_3 fun b_33 =>
  (o_cache_New_k2 Q (cond b_33 (.bool true) skipV) x1 x0 σ))
theorem o_cache_New_eq (Q : WK) (x0 x1 : Value) (σ : AHeap) : wfn P C.E Tryz.f60 (fun _ => none) [x0, x1] σ (RQ Q) = o_cache_New Q x0 x1 σ := by kernel_rfl
theorem o_cache_New_ev {Q : WK} {x0 x1 : Value} {σ : AHeap} (h : o_cache_New Q x0 x1 σ) : E f_cache_New [x0, x1] σ Q := owfn Tryz.func60 _ (by kernel_rfl) (Eq.mpr (o_cache_New_eq Q x0 x1 σ) h)
def o_cache_row_Len (Q : WK) (x0 : Value) (σ : AHeap) : Prop :=
  pu (lenS x0) fun v4_3 =>
  Q v4_3 σ
theorem o_cache_row_Len_eq (Q : WK) (x0 : Value) (σ : AHeap) : wfn P C.E Tryz.f214 (fun _ => none) [x0] σ (RQ Q) = o_cache_row_Len Q x0 σ := by kernel_rfl
theorem o_cache_row_Len_ev {Q : WK} {x0 : Value} {σ : AHeap} (h : o_cache_row_Len Q x0 σ) : E f_cache_row_Len [x0] σ Q := owfn Tryz.func214 _ (by kernel_rfl) (Eq.mpr (o_cache_row_Len_eq Q x0 σ) h)
def o_cache_row_Less (Q : WK) (x0 x1 x2 : Value) (σ : AHeap) : Prop :=
  pu (aIndexAddr 1 x0 x1) fun v9_4 =>
  pu (aLoad false 1 v9_4 σ) fun v10_5 =>
  pu (aNil v10_5) fun v11_6 =>
  pu (aFieldAddr 2 v11_6) fun v12_7 =>
  pu (aLoad false 1 v12_7 σ) fun v13_8 =>
  pu (aIndexAddr 1 x0 x2) fun v16_10 =>
  pu (aLoad false 1 v16_10 σ) fun v17_11 =>
  pu (aNil v17_11) fun v18_12 =>
  pu (aFieldAddr 2 v18_12) fun v19_13 =>
  pu (aLoad false 1 v19_13 σ) fun v20_14 =>
  pu (aBin (some (.int .u64)) .lss v13_8 v20_14) fun v21_15 =>
  Q v21_15 σ
theorem o_cache_row_Less_eq (Q : WK) (x0 x1 x2 : Value) (σ : AHeap) : wfn P C.E Tryz.f215 (hl [(0, .ord [(0, []), (1, []), (2, []), (3, []), (4, []), (5, []), (6, []), (7, []), (8, []), (9, []), (10, []), (11, []), (12, []), (13, []), (14, []), (15, [])])]) [x0, x1, x2] σ (RQ Q) = o_cache_row_Less Q x0 x1 x2 σ := by kernel_rfl
theorem o_cache_row_Less_ev {Q : WK} {x0 x1 x2 : Value} {σ : AHeap} (h : o_cache_row_Less Q x0 x1 x2 σ) : E f_cache_row_Less [x0, x1, x2] σ Q := owfn Tryz.func215 _ (by kernel_rfl) (Eq.mpr (o_cache_row_Less_eq Q x0 x1 x2 σ) h)
def o_cache_row_Pop (Q : WK) (x0 : Value) (σ : AHeap) : Prop :=
  pu (aNil x0) fun v6_3 =>
  pu (aLoad false 1 v6_3 σ) fun v7_4 =>
  pu (lenS v7_4) fun v8_5 =>
  pu (aBin (some (.int .i64)) .sub v8_5 (.int .i64 1)) fun v9_6 =>
  pu (aNil x0) fun v11_9 =>
  pu (aLoad false 1 v11_9 σ) fun v12_10 =>
  pu (aIndexAddr 1 v12_10 v9_6) fun v14_12 =>
  pu (aLoad false 1 v14_12 σ) fun v15_13 =>
  pu (aNil x0) fun v18_16 =>
  pu (aLoad false 1 v18_16 σ) fun v19_17 =>
  pu (aSlice 1 v19_17 none (some v9_6) none) fun v21_19 =>
  pu (aNil x0) fun v22_20 =>
  pu (aStore 1 v22_20 v21_19 σ) fun τ_21 =>
  pu (aIface P t_p_cache_item v15_13) fun v24_24 =>
  Q v24_24 τ_21
theorem o_cache_row_Pop_eq (Q : WK) (x0 : Value) (σ : AHeap) : wfn P C.E Tryz.f222 (fun _ => none) [x0] σ (RQ Q) = o_cache_row_Pop Q x0 σ := by kernel_rfl
theorem o_cache_row_Pop_ev {Q : WK} {x0 : Value} {σ : AHeap} (h : o_cache_row_Pop Q x0 σ) : E f_cache_row_Pop [x0] σ Q := owfn Tryz.func222 _ (by kernel_rfl) (Eq.mpr (o_cache_row_Pop_eq Q x0 σ) h)
def o_cache_row_Push (Q : WK) (x0 x1 : Value) (σ : AHeap) : Prop :=
  pu (aAssert P t_p_cache_item false x1) fun v6_1 =>
  pu (aNil x0) fun v9_5 =>
  pu (aLoad false 1 v9_5 σ) fun v10_6 =>
  pu (lenS v10_6) fun v11_7 =>
  pu (aNil v6_1) fun v12_8 =>
  pu (aFieldAddr 1 v12_8) fun v13_9 =>
  pu (aStore 1 v13_9 v11_7 σ) fun τ_10 =>
  pu (aNil x0) fun v16_13 =>
  pu (aLoad false 1 v16_13 τ_10) fun v17_14 =>
  pu (buildS t_p_cache_item 1 1 [(.pointer none)] [(0, v6_1)] τ_10) fun r19_16 =>
  pu (aAppend t_p_cache_item 1 8 v17_14 r19_16.1 r19_16.2) fun r20_17 =>
  pu (aNil x0) fun v21_18 =>
  pu (aStore 1 v21_18 r20_17.1 r20_17.2) fun τ_19 =>
  Q (.tuple #[]) τ_19
theorem o_cache_row_Push_eq (Q : WK) (x0 x1 : Value) (σ : AHeap) : wfn P C.E Tryz.f223 (fun _ => none) [x0, x1] σ (RQ Q) = o_cache_row_Push Q x0 x1 σ := by kernel_rfl
theorem o_cache_row_Push_ev {Q : WK} {x0 x1 : Value} {σ : AHeap} (h : o_cache_row_Push Q x0 x1 σ) : E f_cache_row_Push [x0, x1] σ Q := owfn Tryz.func223 _ (by kernel_rfl) (Eq.mpr (o_cache_row_Push_eq Q x0 x1 σ) h)
def o_cache_row_Swap (Q : WK) (x0 x1 x2 : Value) (σ : AHeap) : Prop :=
  pu (aIndexAddr 1 x0 x2) fun v12_1 =>
  pu (aLoad false 1 v12_1 σ) fun v13_2 =>
  pu (aIndexAddr 1 x0 x1) fun v16_3 =>
  pu (aLoad false 1 v16_3 σ) fun v17_4 =>
  pu (aIndexAddr 1 x0 x1) fun v18_5 =>
  pu (aStore 1 v18_5 v13_2 σ) fun τ_6 =>
  pu (aIndexAddr 1 x0 x2) fun v19_7 =>
  pu (aStore 1 v19_7 v17_4 τ_6) fun τ_8 =>
  pu (aIndexAddr 1 x0 x1) fun v22_12 =>
  pu (aLoad false 1 v22_12 τ_8) fun v23_13 =>
  pu (aIndexAddr 1 x0 x2) fun v26_15 =>
  pu (aLoad false 1 v26_15 τ_8) fun v27_16 =>
  pu (aNil v23_13) fun v30_17 =>
  pu (aFieldAddr 1 v30_17) fun v31_18 =>
  pu (aStore 1 v31_18 x1 τ_8) fun τ_19 =>
  pu (aNil v27_16) fun v32_20 =>
  pu (aFieldAddr 1 v32_20) fun v33_21 =>
  pu (aStore 1 v33_21 x2 τ_19) fun τ_22 =>
  Q (.tuple #[]) τ_22
theorem o_cache_row_Swap_eq (Q : WK) (x0 x1 x2 : Value) (σ : AHeap) : wfn P C.E Tryz.f216 (hl [(0, .ord [(0, []), (1, []), (2, []), (3, []), (4, []), (5, []), (6, []), (7, []), (8, []), (9, []), (10, []), (11, []), (12, []), (13, []), (14, []), (15, [])]), (1, .ord [(0, []), (1, []), (2, []), (3, []), (4, []), (5, []), (6, []), (7, []), (8, []), (9, []), (10, []), (11, []), (12, []), (13, []), (14, []), (15, [])])]) [x0, x1, x2] σ (RQ Q) = o_cache_row_Swap Q x0 x1 x2 σ := by kernel_rfl
theorem o_cache_row_Swap_ev {Q : WK} {x0 x1 x2 : Value} {σ : AHeap} (h : o_cache_row_Swap Q x0 x1 x2 σ) : E f_cache_row_Swap [x0, x1, x2] σ Q := owfn Tryz.func216 _ (by kernel_rfl) (Eq.mpr (o_cache_row_Swap_eq Q x0 x1 x2 σ) h)
def o_disk_Disk_Blocks (Q : WK) (x0 : Value) (σ : AHeap) : Prop :=
  pu (aBin (some (.pointer t_disk_Disk)) .eql x0 (.pointer none)) fun v4_3 =>
  wC v4_3 (
  Q (.int .i64 0) σ) (
  pu (aNil x0) fun v6_8 =>
  pu (aFieldAddr 0 v6_8) fun v7_9 =>
  pu (aLoad false 1 v7_9 σ) fun v8_10 =>
  pu (lenS v8_10) fun v9_11 =>
  pu (aBin (some (.int .i64)) .quo v9_11 (.int .i64 256)) fun v10_12 =>
  Q v10_12 σ)
theorem o_disk_Disk_Blocks_eq (Q : WK) (x0 : Value) (σ : AHeap) : wfn P C.E Tryz.f119 (fun _ => none) [x0] σ (RQ Q) = o_disk_Disk_Blocks Q x0 σ := by kernel_rfl
theorem o_disk_Disk_Blocks_ev {Q : WK} {x0 : Value} {σ : AHeap} (h : o_disk_Disk_Blocks Q x0 σ) : E f_disk_Disk_Blocks [x0] σ Q := owfn Tryz.func119 _ (by kernel_rfl) (Eq.mpr (o_disk_Disk_Blocks_eq Q x0 σ) h)
def o_disk_Disk_Off (Q : WK) (x0 : Value) (σ : AHeap) : Prop :=
  pu (aBin (some (.pointer t_disk_Disk)) .eql x0 (.pointer none)) fun v4_3 =>
  wG v4_3 (
  Q (.bool true) σ) (
  pu (aNil x0) fun v7_5 =>
  pu (aFieldAddr 3 v7_5) fun v8_6 =>
  pu (aLoad false 1 v8_6 σ) fun v9_7 =>
  Q v9_7 σ) (
  wB v4_3 fun b_9 =>
  Q (cond b_9 (.bool true) skipV) σ)
theorem o_disk_Disk_Off_eq (Q : WK) (x0 : Value) (σ : AHeap) : wfn P C.E Tryz.f158 (fun _ => none) [x0] σ (RQ Q) = o_disk_Disk_Off Q x0 σ := by kernel_rfl
theorem o_disk_Disk_Off_ev {Q : WK} {x0 : Value} {σ : AHeap} (h : o_disk_Disk_Off Q x0 σ) : E f_disk_Disk_Off [x0] σ Q := owfn Tryz.func158 _ (by kernel_rfl) (Eq.mpr (o_disk_Disk_Off_eq Q x0 σ) h)
def o_disk_Disk_Read_k12 (N1 : Value → Value → Value → Value → Value → AHeap → Prop) (Q : WK) (p33_73 p7_75 p8_76 p31_77 p32_78 : Value) (τ_72 : AHeap) : Prop :=
  pu (aBin (some (.int .i64)) .add p33_73 (.int .i64 1)) fun v57_74 =>
  N1 p7_75 p8_76 p31_77 p32_78 v57_74 τ_72
def o_disk_Disk_Read_k11 (N1 : Value → Value → Value → Value → Value → AHeap → Prop) (Q : WK) (p47_61 p8_62 p10_63 p7_66 p33_79 p31_80 p32_81 : Value) (τ_60 : AHeap) : Prop :=
  wC p47_61 (
  pu (aFieldAddr 0 p10_63) fun v49_64 =>
  pu (aLoad false 1 v49_64 τ_60) fun v50_65 =>
  pu (aBin (some (.int .i64)) .sub v50_65 p7_66) fun v52_67 =>
  pu (aSlice 1 p8_62 (some v52_67) none none) fun v53_68 =>
  pu (aFieldAddr 1 p10_63) fun v54_69 =>
  pu (aLoad false 1 v54_69 τ_60) fun v55_70 =>
  pu (aCopy 1 v53_68 v55_70 τ_60) fun r56_71 =>
  (o_disk_Disk_Read_k12 N1 Q p33_79 p7_66 p8_62 p31_80 p32_81 r56_71.2)) (
  (o_disk_Disk_Read_k12 N1 Q p33_79 p7_66 p8_62 p31_80 p32_81 τ_60))
def o_disk_Disk_Read_b1 (N1 : Value → Value → Value → Value → Value → AHeap → Prop) (Q : WK) (x7_32 x8_33 x31_34 x32_35 x33_36 : Value) (τ_37 : AHeap) : Prop :=
  pu (aBin (some (.int .i64)) .lss x33_36 x32_35) fun v34_38 =>
  wC v34_38 (
  pu (aIndexAddr 2 x31_34 x33_36) fun v35_44 =>
  pu (aLoad true 2 v35_44 τ_37) fun v36_45 =>
  wNew τ_37 (.cells [(.int .i64 0), (.slice none 0 0)] t_disk_flight false) fun b_46 τ_47 =>
  pu (aStore 2 (.pointer (some ⟨b_46, 0, none⟩)) v36_45 τ_47) fun τ_48 =>
  pu (aFieldAddr 0 (.pointer (some ⟨b_46, 0, none⟩))) fun v37_51 =>
  pu (aLoad false 1 v37_51 τ_48) fun v38_52 =>
  pu (aBin (some (.int .i64)) .geq v38_52 x7_32) fun v40_54 =>
  wG v40_54 (
  pu (aFieldAddr 0 (.pointer (some ⟨b_46, 0, none⟩))) fun v42_55 =>
  pu (aLoad false 1 v42_55 τ_48) fun v43_56 =>
  pu (aBin (some (.int .i64)) .add x7_32 (.int .i64 256)) fun v45_57 =>
  pu (aBin (some (.int .i64)) .lss v43_56 v45_57) fun v46_58 =>
  (o_disk_Disk_Read_k11 N1 Q v46_58 x8_33 (.pointer (some ⟨b_46, 0, none⟩)) x7_32 x33_36 x31_34 x32_35 τ_48)) (
  (o_disk_Disk_Read_k11 N1 Q (.bool false) x8_33 (.pointer (some ⟨b_46, 0, none⟩)) x7_32 x33_36 x31_34 x32_35 τ_48)) (
  wB v40_54 fun b_87 =>
  (o_disk_Disk_Read_k11 N1 Q (cond b_87 skipV (.bool false)) x8_33 (.pointer (some ⟨b_46, 0, none⟩)) x7_32 x33_36 x31_34 x32_35 τ_48))) (
  Q (.tuple #[x8_33, (.int .i64 0)]) τ_37)
def o_disk_Disk_Read (Q : WK) (x0 x1 : Value) (σ : AHeap) : Prop :=
  E f_disk_Disk_ready [x0, x1] σ fun v13_4 τ_5 =>
  pu (aBin (some (.int .i64)) .neq v13_4 (.int .i64 0)) fun v15_8 =>
  wC v15_8 (
  Q (.tuple #[(.slice none 0 0), v13_4]) τ_5) (
  pu (aBin (some (.int .i64)) .mul x1 (.int .i64 256)) fun v18_14 =>
  pu (aNil x0) fun v20_17 =>
  pu (aFieldAddr 0 v20_17) fun v21_18 =>
  pu (aLoad false 1 v21_18 τ_5) fun v22_19 =>
  pu (aBin (some (.int .i64)) .add v18_14 (.int .i64 256)) fun v25_21 =>
  pu (aSlice 1 v22_19 (some v18_14) (some v25_21) none) fun v26_22 =>
  E f_bytes_Clone [v26_22] τ_5 fun v27_23 τ_24 =>
  pu (aNil x0) fun v29_27 =>
  pu (aFieldAddr 1 v29_27) fun v30_28 =>
  pu (aLoad false 1 v30_28 τ_24) fun v31_29 =>
  pu (lenS v31_29) fun v32_30 =>
  ∃ I_98 : Nat → Value → Value → Value → Value → Value → AHeap → Prop, (∃ m, I_98 m v18_14 v27_23 v31_29 v32_30 (.int .i64 0) τ_24) ∧
  ∀ m (x7_32' x8_33' x31_34' x32_35' x33_36' : Value) (σ' : AHeap), I_98 m x7_32' x8_33' x31_34' x32_35' x33_36' σ' → (o_disk_Disk_Read_b1 (fun x7_32' x8_33' x31_34' x32_35' x33_36' σ' => ∃ m', m' < m ∧ I_98 m' x7_32' x8_33' x31_34' x32_35' x33_36' σ') Q x7_32' x8_33' x31_34' x32_35' x33_36' σ'))
theorem o_disk_Disk_Read_eq (Q : WK) (x0 x1 : Value) (σ : AHeap) : wfn P C.E Tryz.f125 (hl [(2, .loopj [7, 8, 31, 32, 33] [8] [7, 8, 31, 32, 33]), (6, .ord [(0, []), (1, []), (2, []), (3, []), (4, []), (5, []), (6, []), (7, []), (8, [])])]) [x0, x1] σ (RQ Q) = o_disk_Disk_Read Q x0 x1 σ := by kernel_rfl
theorem o_disk_Disk_Read_ev {Q : WK} {x0 x1 : Value} {σ : AHeap} (h : o_disk_Disk_Read Q x0 x1 σ) : E f_disk_Disk_Read [x0, x1] σ Q := owfn Tryz.func125 _ (by kernel_rfl) (Eq.mpr (o_disk_Disk_Read_eq Q x0 x1 σ) h)
def o_disk_Disk_Write (Q : WK) (x0 x1 x2 : Value) (σ : AHeap) : Prop :=
  cond (live x0) (wNew σ (.cells (Value.cells x0).toList t_p_disk_Disk false) fun b_1 τ_2 =>
  cond (live x1) (wNew τ_2 (.cells (Value.cells x1).toList t_int false) fun b_3 τ_4 =>
  cond (live x2) (wNew τ_4 (.cells (Value.cells x2).toList t_sl_uint8 false) fun b_5 τ_6 =>
  pu (aLoad false 1 (.pointer (some ⟨b_1, 0, none⟩)) τ_6) fun v8_9 =>
  pu (aLoad false 1 (.pointer (some ⟨b_3, 0, none⟩)) τ_6) fun v9_11 =>
  E f_disk_Disk_ready [v8_9, v9_11] τ_6 fun v10_12 τ_13 =>
  pu (aBin (some (.int .i64)) .neq v10_12 (.int .i64 0)) fun v12_16 =>
  wC v12_16 (
  Q v10_12 τ_13) (
  pu (aLoad false 1 (.pointer (some ⟨b_5, 0, none⟩)) τ_13) fun v14_22 =>
  pu (lenS v14_22) fun v15_23 =>
  pu (aBin (some (.int .i64)) .neq v15_23 (.int .i64 256)) fun v16_24 =>
  wC v16_24 (
  Q (.int .i64 1) τ_13) (
  pu (aLoad false 1 (.pointer (some ⟨b_1, 0, none⟩)) τ_13) fun v17_29 =>
  E f_disk_Disk_burn [v17_29, (.func (.func f_disk_Disk_Write_c1) #[] #[(.pointer (some ⟨b_5, 0, none⟩)), (.pointer (some ⟨b_1, 0, none⟩)), (.pointer (some ⟨b_3, 0, none⟩))])] τ_13 fun v19_32 τ_33 =>
  Q v19_32 τ_33))) False) False) False
theorem o_disk_Disk_Write_eq (Q : WK) (x0 x1 x2 : Value) (σ : AHeap) : wfn P C.E Tryz.f185 (fun _ => none) [x0, x1, x2] σ (RQ Q) = o_disk_Disk_Write Q x0 x1 x2 σ := by kernel_rfl
theorem o_disk_Disk_Write_ev {Q : WK} {x0 x1 x2 : Value} {σ : AHeap} (h : o_disk_Disk_Write Q x0 x1 x2 σ) : E f_disk_Disk_Write [x0, x1, x2] σ Q := owfn Tryz.func185 _ (by kernel_rfl) (Eq.mpr (o_disk_Disk_Write_eq Q x0 x1 x2 σ) h)
def o_disk_Disk_Write_c1_b1 (N1 : Value → Value → Value → Value → AHeap → Prop) (Q : WK) (x1_6 x2_7 x3_8 x4_9 : Value) (τ_10 : AHeap) : Prop :=
  pu (aBin (some (.int .i64)) .lss x4_9 (.int .i64 256)) fun v8_11 =>
  wC v8_11 (
  pu (aLoad false 1 x1_6 τ_10) fun v11_16 =>
  pu (aLoad false 1 x1_6 τ_10) fun v12_17 =>
  pu (aNil v12_17) fun v13_18 =>
  pu (aFieldAddr 1 v13_18) fun v14_19 =>
  pu (aLoad false 1 v14_19 τ_10) fun v15_20 =>
  pu (aLoad false 1 x2_7 τ_10) fun v16_22 =>
  pu (aBin (some (.int .i64)) .mul v16_22 (.int .i64 256)) fun v17_23 =>
  pu (aBin (some (.int .i64)) .add v17_23 x4_9) fun v19_25 =>
  pu (aBin (some (.int .i64)) .add x4_9 (.int .i64 64)) fun v23_27 =>
  pu (aBin (some (.int .i64)) .add x4_9 (.int .i64 64)) fun v25_28 =>
  pu (aSlice 1 x3_8 (some x4_9) (some v23_27) (some v25_28)) fun v26_29 =>
  pu (buildR [(0, 1), (1, 1)] [(.int .i64 0), (.slice none 0 0)] [(0, v19_25), (1, v26_29)]) fun v27_30 =>
  pu (buildS t_disk_flight 2 1 [(.int .i64 0), (.slice none 0 0)] [(0, v27_30)] τ_10) fun r28_31 =>
  pu (aLoad false 1 x1_6 r28_31.2) fun v11_32 =>
  veq1 v11_32 v11_16 = true ∧
  pu (aLoad false 1 x1_6 r28_31.2) fun v12_33 =>
  veq1 v12_33 v12_17 = true ∧
  pu (aLoad false 1 v14_19 r28_31.2) fun v15_34 =>
  veq1 v15_34 v15_20 = true ∧
  pu (aAppend t_disk_flight 2 32 v15_20 r28_31.1 r28_31.2) fun r29_35 =>
  pu (aLoad false 1 x1_6 r29_35.2) fun v11_36 =>
  veq1 v11_36 v11_16 = true ∧
  pu (aNil v11_16) fun v30_37 =>
  pu (aFieldAddr 1 v30_37) fun v31_38 =>
  pu (aStore 1 v31_38 r29_35.1 r29_35.2) fun τ_39 =>
  pu (aBin (some (.int .i64)) .add x4_9 (.int .i64 64)) fun v10_42 =>
  N1 x1_6 x2_7 x3_8 v10_42 τ_39) (
  Q (.tuple #[]) τ_10)
def o_disk_Disk_Write_c1 (Q : WK) (x0 x1 x2 : Value) (σ : AHeap) : Prop :=
  pu (aLoad false 1 x0 σ) fun v5_1 =>
  E f_bytes_Clone [v5_1] σ fun v6_2 τ_3 =>
  ∃ I_50 : Nat → Value → Value → Value → Value → AHeap → Prop, (∃ m, I_50 m x1 x2 v6_2 (.int .i64 0) τ_3) ∧
  ∀ m (x1_6' x2_7' x3_8' x4_9' : Value) (σ' : AHeap), I_50 m x1_6' x2_7' x3_8' x4_9' σ' → (o_disk_Disk_Write_c1_b1 (fun x1_6' x2_7' x3_8' x4_9' σ' => ∃ m', m' < m ∧ I_50 m' x1_6' x2_7' x3_8' x4_9' σ') Q x1_6' x2_7' x3_8' x4_9' σ')
theorem o_disk_Disk_Write_c1_eq (Q : WK) (x0 x1 x2 : Value) (σ : AHeap) : wfn P C.E Tryz.f191 (hl [(1, .loopj [1, 2, 3, 4] [] [1, 2, 3, 4]), (4, .ord [(0, []), (1, []), (2, []), (3, []), (4, []), (5, []), (6, []), (7, []), (8, []), (9, []), (10, []), (11, []), (12, []), (13, []), (14, []), (15, []), (16, []), (17, [0, 1, 4]), (18, [0]), (19, []), (20, []), (21, [])])]) [x0, x1, x2] σ (RQ Q) = o_disk_Disk_Write_c1 Q x0 x1 x2 σ := by kernel_rfl
theorem o_disk_Disk_Write_c1_ev {Q : WK} {x0 x1 x2 : Value} {σ : AHeap} (h : o_disk_Disk_Write_c1 Q x0 x1 x2 σ) : E f_disk_Disk_Write_c1 [x0, x1, x2] σ Q := owfn Tryz.func191 _ (by kernel_rfl) (Eq.mpr (o_disk_Disk_Write_c1_eq Q x0 x1 x2 σ) h)
def o_disk_Disk_burn_k6 (Q : WK) (p1_31 : Value) (τ_30 : AHeap) : Prop :=
  wF p1_31 fun g_34 a_35 c_36 => E g_34 (a_35 ++ [] ++ c_36) τ_30 fun v26_32 τ_33 =>
  Q (.int .i64 0) τ_33
def o_disk_Disk_burn (Q : WK) (x0 x1 : Value) (σ : AHeap) : Prop :=
  pu (aNil x0) fun v6_3 =>
  pu (aFieldAddr 2 v6_3) fun v7_4 =>
  pu (aLoad false 1 v7_4 σ) fun v8_5 =>
  pu (aBin (some (.int .i64)) .gtr v8_5 (.int .i64 0)) fun v9_6 =>
  wC v9_6 (
  pu (aNil x0) fun v11_10 =>
  pu (aFieldAddr 2 v11_10) fun v12_11 =>
  pu (aLoad false 1 v12_11 σ) fun v13_12 =>
  pu (aBin (some (.int .i64)) .sub v13_12 (.int .i64 1)) fun v14_13 =>
  pu (aNil x0) fun v15_14 =>
  pu (aFieldAddr 2 v15_14) fun v16_15 =>
  pu (aStore 1 v16_15 v14_13 σ) fun τ_16 =>
  pu (aNil x0) fun v18_19 =>
  pu (aFieldAddr 2 v18_19) fun v19_20 =>
  pu (aLoad false 1 v19_20 τ_16) fun v20_21 =>
  pu (aBin (some (.int .i64)) .eql v20_21 (.int .i64 0)) fun v21_22 =>
  wC v21_22 (
  pu (aNil x0) fun v23_26 =>
  pu (aFieldAddr 3 v23_26) fun v24_27 =>
  pu (aStore 1 v24_27 (.bool true) τ_16) fun τ_28 =>
  Q (.int .i64 9) τ_28) (
  (o_disk_Disk_burn_k6 Q x1 τ_16))) (
  (o_disk_Disk_burn_k6 Q x1 σ))
theorem o_disk_Disk_burn_eq (Q : WK) (x0 x1 : Value) (σ : AHeap) : wfn P C.E Tryz.f190 (fun _ => none) [x0, x1] σ (RQ Q) = o_disk_Disk_burn Q x0 x1 σ := by kernel_rfl
theorem o_disk_Disk_burn_ev {Q : WK} {x0 x1 : Value} {σ : AHeap} (h : o_disk_Disk_burn Q x0 x1 σ) : E f_disk_Disk_burn [x0, x1] σ Q := owfn Tryz.func190 _ (by kernel_rfl) (Eq.mpr (o_disk_Disk_burn_eq Q x0 x1 σ) h)
def o_disk_Disk_ready_k4 (Q : WK) (p21_17 : Value) (τ_16 : AHeap) : Prop :=
  wC p21_17 (
  Q (.int .i64 6) τ_16) (
  Q (.int .i64 0) τ_16)
def o_disk_Disk_ready_k2 (Q : WK) (p5_6 p0_7 p1_25 : Value) (τ_5 : AHeap) : Prop :=
  wC p5_6 (
  Q (.int .i64 2) τ_5) (
  pu (aNil p0_7) fun v18_8 =>
  pu (aFieldAddr 3 v18_8) fun v19_9 =>
  pu (aLoad false 1 v19_9 τ_5) fun v20_10 =>
  wC v20_10 (
  Q (.int .i64 9) τ_5) (
  pu (aBin (some (.int .i64)) .lss p1_25 (.int .i64 0)) fun v23_14 =>
  wG v23_14 (
  (o_disk_Disk_ready_k4 Q (.bool true) τ_5)) (
  E f_disk_Disk_Blocks [p0_7] τ_5 fun v27_20 τ_21 =>
  pu (aBin (some (.int .i64)) .geq p1_25 v27_20) fun v28_22 =>
  (o_disk_Disk_ready_k4 Q v28_22 τ_21)) (
  wB v23_14 fun b_24 =>
  (o_disk_Disk_ready_k4 Q (cond b_24 (.bool true) skipV) τ_5))))
def o_disk_Disk_ready (Q : WK) (x0 x1 : Value) (σ : AHeap) : Prop :=
  pu (aBin (some (.pointer t_disk_Disk)) .eql x0 (.pointer none)) fun v7_3 =>
  wG v7_3 (
  (o_disk_Disk_ready_k2 Q (.bool true) x0 x1 σ)) (
  pu (aNil x0) fun v10_27 =>
  pu (aFieldAddr 0 v10_27) fun v11_28 =>
  pu (aLoad false 1 v11_28 σ) fun v12_29 =>
  pu (lenS v12_29) fun v13_30 =>
  pu (aBin (some (.int .i64)) .eql v13_30 (.int .i64 0)) fun v14_31 =>
  (o_disk_Disk_ready_k2 Q v14_31 x0 x1 σ)) (
  wB v7_3 fun b_33 =>
  (o_disk_Disk_ready_k2 Q (cond b_33 (.bool true) skipV) x0 x1 σ))
theorem o_disk_Disk_ready_eq (Q : WK) (x0 x1 : Value) (σ : AHeap) : wfn P C.E Tryz.f164 (fun _ => none) [x0, x1] σ (RQ Q) = o_disk_Disk_ready Q x0 x1 σ := by kernel_rfl
theorem o_disk_Disk_ready_ev {Q : WK} {x0 x1 : Value} {σ : AHeap} (h : o_disk_Disk_ready Q x0 x1 σ) : E f_disk_Disk_ready [x0, x1] σ Q := owfn Tryz.func164 _ (by kernel_rfl) (Eq.mpr (o_disk_Disk_ready_eq Q x0 x1 σ) h)
def o_disk_New_k2 (Q : WK) (p9_6 p0_14 : Value) (τ_5 : AHeap) : Prop :=
  wC p9_6 (
  Q (.tuple #[(.pointer none), (.int .i64 1)]) τ_5) (
  pu (aBin (some (.int .i64)) .mul p0_14 (.int .i64 256)) fun v11_9 =>
  pu (aMake t_uint8 1 [(.int .u8 0)] v11_9 v11_9 τ_5) fun r12_10 =>
  pu (buildR [(0, 1), (1, 1), (2, 1), (3, 1)] [(.slice none 0 0), (.slice none 0 0), (.int .i64 0), (.bool false)] [(0, r12_10.1)]) fun v13_11 =>
  cond (live v13_11) (wNew r12_10.2 (.cells (Value.cells v13_11).toList t_disk_Disk false) fun b_12 τ_13 =>
  Q (.tuple #[(.pointer (some ⟨b_12, 0, none⟩)), (.int .i64 0)]) τ_13) False)
def o_disk_New (Q : WK) (x0 : Value) (σ : AHeap) : Prop :=
  pu (aBin (some (.int .i64)) .lss x0 (.int .i64 1)) fun v5_3 =>
  wG v5_3 (
  (o_disk_New_k2 Q (.bool true) x0 σ)) (
  pu (aBin (some (.int .i64)) .gtr x0 (.int .i64 1024)) fun v8_15 =>
  (o_disk_New_k2 Q v8_15 x0 σ)) (
  wB v5_3 fun b_17 =>
  (o_disk_New_k2 Q (cond b_17 (.bool true) skipV) x0 σ))
theorem o_disk_New_eq (Q : WK) (x0 : Value) (σ : AHeap) : wfn P C.E Tryz.f58 (fun _ => none) [x0] σ (RQ Q) = o_disk_New Q x0 σ := by kernel_rfl
theorem o_disk_New_ev {Q : WK} {x0 : Value} {σ : AHeap} (h : o_disk_New Q x0 σ) : E f_disk_New [x0] σ Q := owfn Tryz.func58 _ (by kernel_rfl) (Eq.mpr (o_disk_New_eq Q x0 σ) h)
def o_heap_Fix (Q : WK) (x0 x1 : Value) (σ : AHeap) : Prop :=
  pu (aMethod P x0 "Len" σ) fun r_3 => E r_3.1 (r_3.2 :: []) σ fun v7_1 τ_2 =>
  E f_heap_down [x0, x1, v7_1] τ_2 fun v8_4 τ_5 =>
  pu (aUn .not v8_4) fun v9_6 =>
  wC v9_6 (
  E f_heap_up [x0, x1] τ_5 fun v12_11 τ_12 =>
  Q (.tuple #[]) τ_12) (
  Q (.tuple #[]) τ_5)
theorem o_heap_Fix_eq (Q : WK) (x0 x1 : Value) (σ : AHeap) : wfn P C.E Tryz.f161 (fun _ => none) [x0, x1] σ (RQ Q) = o_heap_Fix Q x0 x1 σ := by kernel_rfl
theorem o_heap_Fix_ev {Q : WK} {x0 x1 : Value} {σ : AHeap} (h : o_heap_Fix Q x0 x1 σ) : E f_heap_Fix [x0, x1] σ Q := owfn Tryz.func161 _ (by kernel_rfl) (Eq.mpr (o_heap_Fix_eq Q x0 x1 σ) h)
def o_heap_Pop (Q : WK) (x0 : Value) (σ : AHeap) : Prop :=
  pu (aMethod P x0 "Len" σ) fun r_5 => E r_5.1 (r_5.2 :: []) σ fun v5_3 τ_4 =>
  pu (aBin (some (.int .i64)) .sub v5_3 (.int .i64 1)) fun v6_6 =>
  pu (aMethod P x0 "Swap" τ_4) fun r_12 => E r_12.1 (r_12.2 :: [(.int .i64 0), v6_6]) τ_4 fun v9_10 τ_11 =>
  E f_heap_down [x0, (.int .i64 0), v6_6] τ_11 fun v12_16 τ_17 =>
  pu (aMethod P x0 "Pop" τ_17) fun r_22 => E r_22.1 (r_22.2 :: []) τ_17 fun v14_20 τ_21 =>
  Q v14_20 τ_21
theorem o_heap_Pop_eq (Q : WK) (x0 : Value) (σ : AHeap) : wfn P C.E Tryz.f129 (fun _ => none) [x0] σ (RQ Q) = o_heap_Pop Q x0 σ := by kernel_rfl
theorem o_heap_Pop_ev {Q : WK} {x0 : Value} {σ : AHeap} (h : o_heap_Pop Q x0 σ) : E f_heap_Pop [x0] σ Q := owfn Tryz.func129 _ (by kernel_rfl) (Eq.mpr (o_heap_Pop_eq Q x0 σ) h)
def o_heap_Push (Q : WK) (x0 x1 : Value) (σ : AHeap) : Prop :=
  pu (aMethod P x0 "Push" σ) fun r_3 => E r_3.1 (r_3.2 :: [x1]) σ fun v6_1 τ_2 =>
  pu (aMethod P x0 "Len" τ_2) fun r_8 => E r_8.1 (r_8.2 :: []) τ_2 fun v9_6 τ_7 =>
  pu (aBin (some (.int .i64)) .sub v9_6 (.int .i64 1)) fun v10_9 =>
  E f_heap_up [x0, v10_9] τ_7 fun v11_10 τ_11 =>
  Q (.tuple #[]) τ_11
theorem o_heap_Push_eq (Q : WK) (x0 x1 : Value) (σ : AHeap) : wfn P C.E Tryz.f160 (fun _ => none) [x0, x1] σ (RQ Q) = o_heap_Push Q x0 x1 σ := by kernel_rfl
theorem o_heap_Push_ev {Q : WK} {x0 x1 : Value} {σ : AHeap} (h : o_heap_Push Q x0 x1 σ) : E f_heap_Push [x0, x1] σ Q := owfn Tryz.func160 _ (by kernel_rfl) (Eq.mpr (o_heap_Push_eq Q x0 x1 σ) h)
def o_heap_down_k5 (Q : WK) (p7_23 p1_24 : Value) (τ_22 : AHeap) : Prop :=
  pu (aBin (some (.int .i64)) .gtr p7_23 p1_24) fun v47_25 =>
  Q v47_25 τ_22
def o_heap_down_k10 (N1 : Value → Value → Value → Value → AHeap → Prop) (Q : WK) (p0_45 p9_46 p7_47 p1_73 p2_74 : Value) (τ_44 : AHeap) : Prop :=
  pu (aMethod P p0_45 "Less" τ_44) fun r_50 => E r_50.1 (r_50.2 :: [p9_46, p7_47]) τ_44 fun v38_48 τ_49 =>
  pu (aUn .not v38_48) fun v39_51 =>
  wC v39_51 (
  (o_heap_down_k5 Q p7_47 p1_73 τ_49)) (
  pu (aMethod P p0_45 "Swap" τ_49) fun r_64 => E r_64.1 (r_64.2 :: [p7_47, p9_46]) τ_49 fun v43_62 τ_63 =>
  N1 p0_45 p1_73 p2_74 p9_46 τ_63)
def o_heap_down_k9 (N1 : Value → Value → Value → Value → AHeap → Prop) (Q : WK) (p33_42 p10_43 p0_75 p7_76 p1_77 p2_78 p9_79 : Value) (τ_41 : AHeap) : Prop :=
  wC p33_42 (
  (o_heap_down_k10 N1 Q p0_75 p10_43 p7_76 p1_77 p2_78 τ_41)) (
  (o_heap_down_k10 N1 Q p0_75 p9_79 p7_76 p1_77 p2_78 τ_41))
def o_heap_down_k4 (N1 : Value → Value → Value → Value → AHeap → Prop) (Q : WK) (p21_17 p0_18 p1_19 p2_20 p7_21 p8_94 : Value) (τ_16 : AHeap) : Prop :=
  wC p21_17 (
  (o_heap_down_k5 Q p7_21 p1_19 τ_16)) (
  pu (aBin (some (.int .i64)) .add p8_94 (.int .i64 1)) fun v24_30 =>
  pu (aBin (some (.int .i64)) .lss v24_30 p2_20) fun v27_34 =>
  wG v27_34 (
  pu (aMethod P p0_18 "Less" τ_16) fun r_39 => E r_39.1 (r_39.2 :: [v24_30, p8_94]) τ_16 fun v32_37 τ_38 =>
  (o_heap_down_k9 N1 Q v32_37 v24_30 p0_18 p7_21 p1_19 p2_20 p8_94 τ_38)) (
  (o_heap_down_k9 N1 Q (.bool false) v24_30 p0_18 p7_21 p1_19 p2_20 p8_94 τ_16)) (
  wB v27_34 fun b_84 =>
  (o_heap_down_k9 N1 Q (cond b_84 skipV (.bool false)) v24_30 p0_18 p7_21 p1_19 p2_20 p8_94 τ_16)))
def o_heap_down_b1 (N1 : Value → Value → Value → Value → AHeap → Prop) (Q : WK) (x0_4 x1_5 x2_6 x7_7 : Value) (τ_8 : AHeap) : Prop :=
  pu (aBin (some (.int .i64)) .mul (.int .i64 2) x7_7) fun v13_9 =>
  pu (aBin (some (.int .i64)) .add v13_9 (.int .i64 1)) fun v14_10 =>
  pu (aBin (some (.int .i64)) .geq v14_10 x2_6) fun v17_14 =>
  wG v17_14 (
  (o_heap_down_k4 N1 Q (.bool true) x0_4 x1_5 x2_6 x7_7 v14_10 τ_8)) (
  pu (aBin (some (.int .i64)) .lss v14_10 (.int .i64 0)) fun v20_98 =>
  (o_heap_down_k4 N1 Q v20_98 x0_4 x1_5 x2_6 x7_7 v14_10 τ_8)) (
  wB v17_14 fun b_100 =>
  (o_heap_down_k4 N1 Q (cond b_100 (.bool true) skipV) x0_4 x1_5 x2_6 x7_7 v14_10 τ_8))
def o_heap_down (Q : WK) (x0 x1 x2 : Value) (σ : AHeap) : Prop :=
  ∃ I_101 : Nat → Value → Value → Value → Value → AHeap → Prop, (∃ m, I_101 m x0 x1 x2 x1 σ) ∧
  ∀ m (x0_4' x1_5' x2_6' x7_7' : Value) (σ' : AHeap), I_101 m x0_4' x1_5' x2_6' x7_7' σ' → (o_heap_down_b1 (fun x0_4' x1_5' x2_6' x7_7' σ' => ∃ m', m' < m ∧ I_101 m' x0_4' x1_5' x2_6' x7_7' σ') Q x0_4' x1_5' x2_6' x7_7' σ')
theorem o_heap_down_eq (Q : WK) (x0 x1 x2 : Value) (σ : AHeap) : wfn P C.E Tryz.f165 (hl [(1, .loopj [0, 1, 2, 7] [1, 7] [0, 1, 2, 7])]) [x0, x1, x2] σ (RQ Q) = o_heap_down Q x0 x1 x2 σ := by kernel_rfl
theorem o_heap_down_ev {Q : WK} {x0 x1 x2 : Value} {σ : AHeap} (h : o_heap_down Q x0 x1 x2 σ) : E f_heap_down [x0, x1, x2] σ Q := owfn Tryz.func165 _ (by kernel_rfl) (Eq.mpr (o_heap_down_eq Q x0 x1 x2 σ) h)
def o_heap_up_k2 (N1 : Value → Value → AHeap → Prop) (Q : WK) (p17_12 p0_13 p1_14 p4_25 : Value) (τ_11 : AHeap) : Prop :=
  wC p17_12 (
  Q (.tuple #[]) τ_11) (
  pu (aMethod P p0_13 "Swap" τ_11) fun r_21 => E r_21.1 (r_21.2 :: [p4_25, p1_14]) τ_11 fun v21_19 τ_20 =>
  N1 p0_13 p4_25 τ_20)
def o_heap_up_b1 (N1 : Value → Value → AHeap → Prop) (Q : WK) (x0_1 x1_2 : Value) (τ_3 : AHeap) : Prop :=
  pu (aBin (some (.int .i64)) .sub x1_2 (.int .i64 1)) fun v6_4 =>
  pu (aBin (some (.int .i64)) .quo v6_4 (.int .i64 2)) fun v7_5 =>
  pu (aBin (some (.int .i64)) .eql v7_5 x1_2) fun v10_9 =>
  wG v10_9 (
  (o_heap_up_k2 N1 Q (.bool true) x0_1 x1_2 v7_5 τ_3)) (
  pu (aMethod P x0_1 "Less" τ_3) fun r_29 => E r_29.1 (r_29.2 :: [x1_2, v7_5]) τ_3 fun v15_27 τ_28 =>
  pu (aUn .not v15_27) fun v16_30 =>
  (o_heap_up_k2 N1 Q v16_30 x0_1 x1_2 v7_5 τ_28)) (
  wB v10_9 fun b_32 =>
  (o_heap_up_k2 N1 Q (cond b_32 (.bool true) skipV) x0_1 x1_2 v7_5 τ_3))
def o_heap_up (Q : WK) (x0 x1 : Value) (σ : AHeap) : Prop :=
  ∃ I_33 : Nat → Value → Value → AHeap → Prop, (∃ m, I_33 m x0 x1 σ) ∧
  ∀ m (x0_1' x1_2' : Value) (σ' : AHeap), I_33 m x0_1' x1_2' σ' → (o_heap_up_b1 (fun x0_1' x1_2' σ' => ∃ m', m' < m ∧ I_33 m' x0_1' x1_2' σ') Q x0_1' x1_2' σ')
theorem o_heap_up_eq (Q : WK) (x0 x1 : Value) (σ : AHeap) : wfn P C.E Tryz.f186 (hl [(1, .loopj [0, 1] [] [0, 1])]) [x0, x1] σ (RQ Q) = o_heap_up Q x0 x1 σ := by kernel_rfl
theorem o_heap_up_ev {Q : WK} {x0 x1 : Value} {σ : AHeap} (h : o_heap_up Q x0 x1 σ) : E f_heap_up [x0, x1] σ Q := owfn Tryz.func186 _ (by kernel_rfl) (Eq.mpr (o_heap_up_eq Q x0 x1 σ) h)
end Go.Ax.O
set_option maxRecDepth 100000
namespace Go.Ax.O
open Go.Proofs
variable {l : List Assn} {σ : AHeap} {Q : WK}
theorem clone_ok {a : Option Addr} {n c : Nat} {bs : List UInt8} (h : H l σ) (hs : srcOf 1 (.slice a n c) σ = some (n, bv bs)) (hn : n ≤ 1099511627776)
    (hk : ∀ v σ', H (l ++ [Own t_uint8 1 v n (bv bs)]) σ' → Q v σ') : E f_bytes_Clone [.slice a n c] σ Q := by
  apply o_bytes_Clone_ev; unfold o_bytes_Clone
  cases a with
  | none =>
    simp
    have : n = 0 ∧ bs = [] := by
      simp only [srcOf] at hs
      split at hs
      · rename_i e; subst e
        simp only [Option.some.injEq, Prod.mk.injEq] at hs
        exact ⟨rfl, by have := congrArg List.length hs.2; simpa using this.symm⟩
      · cases hs
    obtain ⟨rfl, rfl⟩ := this
    exact hk _ _ (h.own_nil t_uint8 1)
  | some a =>
    simp
    refine append_own (n := 0) (xs := []) (h.own_zb t_uint8 1) l.length (by simp) hs (by omega) (by omega) (bv_one _) ?_
    intro v' σ' h'
    simp at h'
    exact hk _ _ h'
end Go.Ax.O
namespace Go.Ax
def put (l : List UInt8) (a : Nat) (x : List UInt8) : List UInt8 := l.take a ++ x ++ l.drop (a + x.length)
theorem put_length (l : List UInt8) (a : Nat) (x : List UInt8) (h : a + x.length ≤ l.length) : (put l a x).length = l.length := by
  simp [put]; omega
theorem splice_put (l x : List UInt8) (a : Nat) : splice (bv l) a (bv x) = bv (put l a x) := by simp [splice, put]
abbrev Flight := Nat × List UInt8
structure DM where
  last : List UInt8
  fly : List Flight
  fuse : Nat
  off : Bool
structure FlyOk (n : Nat) (f : Flight) : Prop where
  len : f.2.length = 64
  fit : f.1 + 64 ≤ 256 * n
  al : f.1 % 64 = 0
structure DM.Ok (D : DM) (n : Nat) : Prop where
  lo : 1 ≤ n
  hi : n ≤ 1024
  len : D.last.length = 256 * n
  fly : ∀ f ∈ D.fly, FlyOk n f
def over (from' : Nat) (out : List UInt8) (fs : List Flight) : List UInt8 := fs.foldl (fun out f => if from' ≤ f.1 ∧ f.1 < from' + 256 then put out (f.1 - from') f.2 else out) out
def parts (at' : Nat) (b : List UInt8) : List Flight := [(at' * 256, (b.drop 0).take 64), (at' * 256 + 64, (b.drop 64).take 64), (at' * 256 + 128, (b.drop 128).take 64), (at' * 256 + 192, (b.drop 192).take 64)]
namespace DM
def new (n : Nat) : DM := ⟨List.replicate (256 * n) 0, [], 0, false⟩
def ready (D : DM) (at' : Int) : Int := if D.off then 9 else if at' < 0 ∨ (D.last.length / 256 : Nat) ≤ at' then 6 else 0
def burn (D : DM) : DM × Bool := if D.fuse = 0 then (D, true) else if D.fuse = 1 then ({ D with fuse := 0, off := true }, false) else ({ D with fuse := D.fuse - 1 }, true)
def fling (D : DM) (at' : Nat) (b : List UInt8) : DM := { D with fly := D.fly ++ parts at' b }
def write (D : DM) (at' : Int) (b : List UInt8) : DM × Int :=
  if D.ready at' ≠ 0 then (D, D.ready at') else if b.length ≠ 256 then (D, 1) else if D.burn.2 then (D.burn.1.fling at'.toNat b, 0) else (D.burn.1, 9)
def block (D : DM) (at' : Nat) : List UInt8 := over (at' * 256) ((D.last.drop (at' * 256)).take 256) D.fly
end DM
theorem over_take (a : Nat) (l : List UInt8) (fs : List Flight) (k : Nat) (f : Flight) (h : fs[k]? = some f) :
    over a l (fs.take (k + 1)) = if a ≤ f.1 ∧ f.1 < a + 256 then put (over a l (fs.take k)) (f.1 - a) f.2 else over a l (fs.take k) := by
  rw [List.take_add_one, h]; simp [over]
theorem over_length (a : Nat) : ∀ (fs : List Flight) (l : List UInt8), l.length = 256 → (∀ f ∈ fs, f.2.length = 64) → (∀ f ∈ fs, a ≤ f.1 → f.1 < a + 256 → f.1 + 64 ≤ a + 256) → (over a l fs).length = 256
  | [], l, h, _, _ => h
  | f :: fs, l, h, hf, hg => by
    have h1 := hf f (by simp)
    have h2 := hg f (by simp)
    have ih := over_length a fs (if a ≤ f.1 ∧ f.1 < a + 256 then put l (f.1 - a) f.2 else l) (by
      split
      · rename_i hc
        have := h2 hc.1 hc.2
        rw [put_length _ _ _ (by omega), h]
      · exact h) (fun g hh => hf g (by simp [hh])) (fun g hh => hg g (by simp [hh]))
    exact ih
end Go.Ax
set_option maxRecDepth 100000
namespace Go.Ax.O
open Go.Proofs
variable {l : List Assn} {σ : AHeap} {Q : WK}
def flc : List Flight → List Value → List Value
  | f :: fs, s :: ss => .int .i64 (f.1 : Nat) :: s :: flc fs ss
  | _, _ => []
def FlyA : List Flight → List Value → Assn
  | f :: fs, s :: ss => sep (RoB s f.2) (FlyA fs ss)
  | _, _ => emp
theorem flc_get : ∀ (fs : List Flight) (ss : List Value) (k : Nat) (f : Flight) (s : Value), fs[k]? = some f → ss[k]? = some s → ((flc fs ss).drop (k * 2)).take 2 = [.int .i64 (f.1 : Nat), s]
  | [], _, k, f, s, h, _ => by simp at h
  | _ :: _, [], k, f, s, _, h => by simp at h
  | f :: fs, s :: ss, 0, f', s', h, h' => by simp at h h'; subst h; subst h'; simp [flc]
  | f :: fs, s :: ss, k + 1, f', s', h, h' => by
    simp at h h'
    have := flc_get fs ss k f' s' h h'
    simp only [flc]
    rw [show (k + 1) * 2 = k * 2 + 1 + 1 by omega, List.drop_succ_cons, List.drop_succ_cons]
    exact this
theorem flc_append : ∀ (fs : List Flight) (ss : List Value) (gs : List Flight) (ts : List Value), fs.length = ss.length → flc (fs ++ gs) (ss ++ ts) = flc fs ss ++ flc gs ts
  | [], [], gs, ts, _ => rfl
  | [], _ :: _, gs, ts, h => by simp at h
  | _ :: _, [], gs, ts, h => by simp at h
  | f :: fs, s :: ss, gs, ts, h => by simp [flc, flc_append fs ss gs ts (by simpa using h)]
theorem FlyA_append : ∀ (fs : List Flight) (ss : List Value) (gs : List Flight) (ts : List Value), fs.length = ss.length → FlyA (fs ++ gs) (ss ++ ts) = sep (FlyA fs ss) (FlyA gs ts)
  | [], [], gs, ts, _ => by simp [FlyA, emp_sep]
  | [], _ :: _, gs, ts, h => by simp at h
  | _ :: _, [], gs, ts, h => by simp at h
  | f :: fs, s :: ss, gs, ts, h => by simp [FlyA, FlyA_append fs ss gs ts (by simpa using h), sep_assoc]
theorem fly0 : ∀ {fs : List Flight} {ss : List Value} {l : List Assn} {σ : AHeap} {k : Nat} {f : Flight} {s : Value}, H (FlyA fs ss :: l) σ → fs[k]? = some f → ss[k]? = some s → H (RoB s f.2 :: l) σ
  | [], _, l, σ, k, f, s, h, hf, hs => by simp at hf
  | _ :: _, [], l, σ, k, f, s, h, hf, hs => by simp at hs
  | f :: fs, s :: ss, l, σ, 0, f', s', h, hf, hs => by
    simp at hf hs; subst hf; subst hs
    simp only [FlyA, H_sep] at h
    exact h.second
  | f :: fs, s :: ss, l, σ, k + 1, f', s', h, hf, hs => by
    simp at hf hs
    simp only [FlyA, H_sep] at h
    exact fly0 h.tail hf hs
theorem fly_at {fs : List Flight} {ss : List Value} (h : H l σ) (i : Nat) (hi : l[i]? = some (FlyA fs ss)) {k : Nat} {f : Flight} {s : Value} (hf : fs[k]? = some f) (hs : ss[k]? = some s) :
    ∃ b o cap c, s = .slice (some ⟨b, o, none⟩) f.2.length cap ∧ CapOk 1 f.2.length cap ∧ σ.row b = some c ∧ (c.drop o).take f.2.length = bv f.2 ∧ o + f.2.length ≤ c.length := (fly0 (h.front i hi) hf hs).rob0
def DiskP (b : Nat) (lv fv : Value) (ss : List Value) (D : DM) : List Assn :=
  [pt b (.cells [lv, fv, .int .i64 D.fuse, .bool D.off] t_disk_Disk false), Own t_uint8 1 lv D.last.length (bv D.last), Own t_disk_flight 2 fv D.fly.length (flc D.fly ss), FlyA D.fly ss]
def Disk (v : Value) (D : DM) : Assn := ex fun p : Nat × Value × Value × List Value =>
  sep (pure' (v = .pointer (some ⟨p.1, 0, none⟩) ∧ p.2.2.2.length = D.fly.length)) (Star (DiskP p.1 p.2.1 p.2.2.1 p.2.2.2 D))
theorem disk_out {v : Value} {D : DM} {m : List Assn} (h : H (Disk v D :: m) σ) : ∃ b lv fv ss, v = .pointer (some ⟨b, 0, none⟩) ∧ ss.length = D.fly.length ∧ H (DiskP b lv fv ss D ++ m) σ := by
  obtain ⟨p, h⟩ := H_ex.1 h
  rw [H_sep] at h
  obtain ⟨⟨h1, h2⟩, h⟩ := H_pure.1 h
  exact ⟨_, _, _, _, h1, h2, H_star.1 h⟩
theorem disk_in {D : DM} {b : Nat} (lv fv : Value) (ss : List Value) {m : List Assn} (hs : ss.length = D.fly.length) (h : H (DiskP b lv fv ss D ++ m) σ) : H (Disk (.pointer (some ⟨b, 0, none⟩)) D :: m) σ :=
  H_ex.2 ⟨(b, lv, fv, ss), by rw [H_sep]; exact H_pure.2 ⟨⟨rfl, hs⟩, H_star.2 h⟩⟩
theorem in_self {A : Assn} {m : List Assn} (i : Nat) (hi : l[i]? = some A) (h : H (A :: Star (l.set i emp) :: m) σ) : H (l ++ m) σ := by
  rw [H_app]
  have e : Star l = sep A (Star (l.set i emp)) := by
    conv => lhs; rw [Star_take l i]
    simp [List.getD, hi]
  rw [e, H_sep]; exact h
theorem bv_replicate (n : Nat) (b : UInt8) : List.replicate n (by8 b) = bv (List.replicate n b) := by simp [bv]
theorem new_yes {n : Int} (h : H l σ) (hn : 1 ≤ n ∧ n ≤ 1024) (hk : ∀ v σ', H (l ++ [Disk v (.new n.toNat)]) σ' → Q (.tuple #[v, .int .i64 0]) σ') : E f_disk_New [.int .i64 n] σ Q := by
  apply o_disk_New_ev; unfold o_disk_New
  have h1 : ¬ n < 1 := by omega
  have h2 : ¬ 1024 < n := by omega
  simp [h1]
  unfold o_disk_New_k2
  simp [h2]
  rw [wrap_i64 (by omega)]
  refine make_ok (H_one.2 h) (by omega) ?_
  intro b σ1 h3
  simp [splice]
  refine new_ok h3 ?_
  intro b2 σ2 h4
  refine hk _ _ (H_app.2 ?_)
  have e1 : (n * 256).toNat = 256 * n.toNat := by omega
  rw [e1, reps_one] at h4
  have h5 := ((h4.to_own 1 rfl (n := 256 * n.toNat) (z := 1) (by simp) (by unfold OPEN; omega)).own_nil t_disk_flight 2).emp_end
  have h6 := h5.pick [2, 1, 3, 4, 0] (by decide)
  refine (disk_in (D := .new n.toNat) (.slice (some ⟨b, 0, none⟩) (256 * n.toNat) (256 * n.toNat)) (.slice none 0 0) [] rfl ?_ : H [_, _] _).pick [1, 0] (by decide)
  rw [show (Value.int .u8 0) = by8 0 from rfl, bv_replicate] at h6
  simpa [picks, DiskP, DM.new, FlyA, flc] using h6
theorem blocks_ok {v : Value} {D : DM} (h : H l σ) (i : Nat) (hi : l[i]? = some (Disk v D)) (hD : D.last.length < 1099511627776) (hk : Q (.int .i64 (D.last.length / 256 : Nat)) σ) : E f_disk_Disk_Blocks [v] σ Q := by
  obtain ⟨b, lv, fv, ss, rfl, hs, h⟩ := disk_out (h.out i hi)
  apply o_disk_Disk_Blocks_ev; unfold o_disk_Disk_Blocks
  have r0 := load1 (n := 1) (o := 0) (h.row 0 rfl)
  obtain ⟨_, _, a, c, rfl⟩ := h.own_src 1 rfl
  simp [r0]
  rw [wrap_i64 (by omega)]
  simpa using hk
theorem off_ok {v : Value} {D : DM} (h : H l σ) (i : Nat) (hi : l[i]? = some (Disk v D)) (hk : Q (.bool D.off) σ) : E f_disk_Disk_Off [v] σ Q := by
  obtain ⟨b, lv, fv, ss, rfl, hs, h⟩ := disk_out (h.out i hi)
  apply o_disk_Disk_Off_ev; unfold o_disk_Disk_Off
  have r3 := load1 (n := 1) (o := 3) (h.row 0 rfl)
  simp [r3]
  exact hk
theorem ready_ok {v : Value} {D : DM} {n : Nat} {a : Int} (h : H l σ) (i : Nat) (hi : l[i]? = some (Disk v D)) (hD : D.Ok n) (hk : Q (.int .i64 (D.ready a)) σ) : E f_disk_Disk_ready [v, .int .i64 a] σ Q := by
  have h0 := h
  have hv0 := hi
  obtain ⟨b, lv, fv, ss, rfl, hs, h⟩ := disk_out (h.out i hi)
  have hlen := hD.len
  have hn := hD.lo
  have hn2 := hD.hi
  apply o_disk_Disk_ready_ev; unfold o_disk_Disk_ready
  have r0 := load1 (n := 1) (o := 0) (h.row 0 rfl)
  have r3 := load1 (n := 1) (o := 3) (h.row 0 rfl)
  obtain ⟨_, _, x, c, rfl⟩ := h.own_src 1 rfl
  have hz : ¬ D.last.length = 0 := by omega
  simp [r0]
  unfold o_disk_Disk_ready_k2
  have hz2 : D.last ≠ [] := fun e => by rw [e] at hz; simp at hz
  simp [hz2, r3]
  unfold DM.ready at hk
  cases hoff : D.off with
  | true => simpa [hoff] using hk
  | false =>
    simp only [hoff, Bool.false_eq_true, if_false] at hk
    simp
    refine wG_dec (fun h1 => ?_) fun h1 => ?_
    · unfold o_disk_Disk_ready_k4; simpa [h1] using hk
    · refine blocks_ok h0 i hv0 (by omega) ?_
      unfold o_disk_Disk_ready_k4
      simp
      refine wC_dec (fun h2 => ?_) fun h2 => ?_
      · rw [if_pos (.inr (by omega))] at hk; exact hk
      · rw [if_neg (by omega)] at hk; exact hk
theorem burn_ok {v : Value} {D : DM} {g : FuncId} {a c : Array Value} (h : H l σ) (i : Nat) (hi : l[i]? = some (Disk v D)) (hf : D.fuse < 9223372036854775808)
    (hw : D.burn.2 = true → ∀ σ', H (l.set i (Disk v D.burn.1)) σ' → E g (a.toList ++ [] ++ c.toList) σ' fun _ τ => Q (.int .i64 0) τ)
    (ho : D.burn.2 = false → ∀ σ', H (l.set i (Disk v D.burn.1)) σ' → Q (.int .i64 9) σ') : E f_disk_Disk_burn [v, .func (.func g) a c] σ Q := by
  have h0 := h
  obtain ⟨b, lv, fv, ss, rfl, hs, h⟩ := disk_out (h.out i hi)
  apply o_disk_Disk_burn_ev; unfold o_disk_Disk_burn
  have r2 := load1 (n := 1) (o := 2) (h.row 0 rfl)
  simp [r2]
  refine wC_dec (fun h1 => ?_) fun h1 => ?_
  · rw [wrap_i64 (by omega)]
    refine store1 h 0 rfl rfl (by simp) ?_
    intro σ1 h2
    have r2 := load1 (n := 1) (o := 2) (h2.row 0 rfl)
    simp [r2]
    refine wC_dec (fun h3 => ?_) fun h3 => ?_
    · refine store1 h2 0 rfl rfl (by simp) ?_
      intro σ2 h4
      have h5 : D.fuse = 1 := by omega
      have hb : D.burn = ({ D with fuse := 0, off := true }, false) := by simp [DM.burn, h5]
      refine ho (by rw [hb]) _ (H.in' i hi ?_)
      rw [hb]
      refine disk_in lv fv ss hs ?_
      have e : (D.fuse : Int) - 1 = 0 := by omega
      rw [e] at h4
      exact h4
    · unfold o_disk_Disk_burn_k6
      simp
      have hb : D.burn = ({ D with fuse := D.fuse - 1 }, true) := by
        unfold DM.burn
        rw [if_neg (by omega), if_neg (by omega)]
      have := hw (by rw [hb]) σ1 (by
        refine H.in' i hi ?_
        rw [hb]
        refine disk_in lv fv ss hs ?_
        have e : (D.fuse : Int) - 1 = ((D.fuse - 1 : Nat) : Int) := by omega
        rw [e] at h2
        exact h2)
      simpa using this
  · unfold o_disk_Disk_burn_k6
    simp
    have hb : D.burn = (D, true) := by
      unfold DM.burn
      rw [if_pos (by omega)]
    have := hw (by rw [hb]) σ (by
      have : l.set i (Disk (.pointer (some ⟨b, 0, none⟩)) D) = l := by
        apply List.ext_getElem?
        intro j
        rw [List.getElem?_set]
        split
        · rename_i e; subst e; split
          · exact hi.symm
          · rename_i hh; exact absurd (List.getElem?_eq_some_iff.1 hi).1 hh
        · rfl
      rw [hb]; simp only [this]; exact h0)
    simpa using this
end Go.Ax.O
set_option maxRecDepth 100000
namespace Go.Ax.O
open Go.Proofs
variable {l : List Assn} {σ : AHeap} {Q : WK}
theorem read_yes {v : Value} {D : DM} {n : Nat} {a : Int} (h : H l σ) (i : Nat) (hi : l[i]? = some (Disk v D)) (hD : D.Ok n) (hm : D.fly.length < 1099511627776) (hr : D.ready a = 0)
    (hk : ∀ w σ', H (l ++ [Own t_uint8 1 w 256 (bv (D.block a.toNat))]) σ' → Q (.tuple #[w, .int .i64 0]) σ') : E f_disk_Disk_Read [v, .int .i64 a] σ Q := by
  apply o_disk_Disk_Read_ev; unfold o_disk_Disk_Read
  refine ready_ok h i hi hD ?_
  simp [hr]
  have hlen := hD.len
  have hn := hD.lo
  have hn2 := hD.hi
  have ha : 0 ≤ a ∧ a < n := by
    unfold DM.ready at hr
    split at hr
    · simp at hr
    · split at hr
      · simp at hr
      · rename_i hx
        have : D.last.length / 256 = n := by omega
        omega
  have h0 := h
  obtain ⟨b, lv, fv, ss, rfl, hs, h⟩ := disk_out (h.out i hi)
  have r0 := load1 (n := 1) (o := 0) (h.row 0 rfl)
  have r1 := load1 (n := 1) (o := 1) (h.row 0 rfl)
  obtain ⟨_, _, x, c, rfl⟩ := h.own_src 2 rfl
  obtain ⟨lb, lc, rfl, hcap, rest, hrow⟩ := h.own_form 1 rfl (by omega)
  obtain ⟨A, rfl⟩ : ∃ A : Nat, a = A := ⟨a.toNat, by omega⟩
  simp at hk
  rw [wrap_i64 (by omega), wrap_i64 (by omega)]
  obtain ⟨dc, hsl, _⟩ := slice_mid (z := 1) (b := lb) (o := 0) (lo := (A : Int) * 256) (hi := (A : Int) * 256 + 256) (k := .i64) (k' := .i64) hcap (by omega)
  have e1 : ((A : Int) * 256 + 256).toNat - ((A : Int) * 256).toNat = 256 := by omega
  have e2 : ((A : Int) * 256).toNat = A * 256 := by omega
  rw [e1, e2] at hsl
  simp [r0, hsl]
  refine clone_ok (bs := (D.last.drop (A * 256)).take 256) h (n := 256) ?_ (by omega) ?_
  · rw [src_row hrow (by simp; omega), List.drop_append_of_le_length (by simp; omega), List.take_append_of_le_length (by simp; omega)]; simp
  intro w σ1 h1
  have r1 := load1 (n := 1) (o := 1) (h1.row 0 rfl)
  simp [r1]
  let J : Nat → List Assn := fun k => pt b (.cells [.slice (some ⟨lb, 0, none⟩) D.last.length lc, .slice x D.fly.length c, .int .i64 D.fuse, .bool D.off] t_disk_Disk false) :: Own t_uint8 1 (.slice (some ⟨lb, 0, none⟩) D.last.length lc) D.last.length (bv D.last) :: Own t_disk_flight 2 (.slice x D.fly.length c) D.fly.length (flc D.fly ss) :: FlyA D.fly ss :: [Star (l.set i emp), Own t_uint8 1 w 256 (bv (over (A * 256) ((D.last.drop (A * 256)).take 256) (D.fly.take k)))]
  obtain ⟨wb, wc, rfl, hwcap, _⟩ := h1.own_form 5 rfl (by omega)
  refine ⟨fun m x0 x1 x7 x8 x9 τ => ∃ k : Nat, m = D.fly.length - k ∧ k ≤ D.fly.length ∧ x0 = .int .i64 ((A : Int) * 256) ∧ x1 = .slice (some ⟨wb, 0, none⟩) 256 wc ∧ x7 = .slice x D.fly.length c ∧ x8 = .int .i64 D.fly.length ∧ x9 = .int .i64 k ∧ H (J k) τ, ⟨_, 0, rfl, by omega, rfl, rfl, rfl, rfl, rfl, ?_⟩, ?_⟩
  · exact h1
  · rintro m _ _ _ _ _ τ ⟨k, rfl, hkl, rfl, rfl, rfl, rfl, rfl, h⟩
    suffices hb : ∀ N : Value → Value → Value → Value → Value → AHeap → Prop, (∀ τ', k < D.fly.length → H (J (k + 1)) τ' →
        N (.int .i64 ((A : Int) * 256)) (.slice (some ⟨wb, 0, none⟩) 256 wc) (.slice x D.fly.length c) (.int .i64 D.fly.length) (.int .i64 (k + 1 : Nat)) τ') → o_disk_Disk_Read_b1 N Q (.int .i64 ((A : Int) * 256)) (.slice (some ⟨wb, 0, none⟩) 256 wc) (.slice x D.fly.length c) (.int .i64 D.fly.length) (.int .i64 k) τ from
      hb _ fun τ' hlt h' => ⟨_, by omega, k + 1, rfl, by omega, rfl, rfl, rfl, rfl, rfl, h'⟩
    intro N hN
    unfold o_disk_Disk_Read_b1
    simp
    have hov : (over (A * 256) ((D.last.drop (A * 256)).take 256) (D.fly.take k)).length = 256 := by
      refine over_length _ _ _ (by simp; omega) (fun f hf => (hD.fly f (List.mem_of_mem_take hf)).len) fun f hf g1 g2 => ?_
      have := (hD.fly f (List.mem_of_mem_take hf)).al
      omega
    refine wC_dec (fun h1 => ?_) fun h1 => ?_
    · obtain ⟨b2, e1, e2, e3⟩ := h.own_elem 2 rfl (k := k) h1
      have hf := List.getElem?_eq_getElem h1
      have hsk := List.getElem?_eq_getElem (show k < ss.length by omega)
      have hfo := hD.fly _ (List.getElem_mem h1)
      rw [flc_get _ _ k _ _ hf hsk] at e2
      have hfit := hfo.fit
      have hl64 := hfo.len
      have hal := hfo.al
      simp [e1, e2]
      refine new_ok h ?_
      intro tb σ1 h2
      obtain ⟨fb, fo, fcap, fc, hse, hfcap, hfr, hfd, hfl⟩ := fly_at h2 3 rfl hf hsk
      refine storeN h2 6 rfl (by simp) (by omega) (by simp [hse]) (by simp) ?_
      intro σ2 h3
      obtain ⟨fb, fo, fcap, fc, hse, hfcap, hfr, hfd, hfl⟩ := fly_at h3 3 rfl hf hsk
      have t0 := load1 (n := 1) (o := 0) (h3.row 6 rfl)
      have t1 := load1 (n := 1) (o := 1) (h3.row 6 rfl)
      have hfin : ∀ τ, H (J (k + 1)) τ → o_disk_Disk_Read_k12 N Q (.int .i64 k) (.int .i64 ((A : Int) * 256)) (.slice (some ⟨wb, 0, none⟩) 256 wc) (.slice x D.fly.length c) (.int .i64 D.fly.length) τ := by
        intro τ hτ
        unfold o_disk_Disk_Read_k12
        simp
        rw [wrap_i64 (by omega)]
        exact hN _ h1 hτ
      simp [t0, splice]
      refine wG_dec (fun g1 => ?_) fun g1 => ?_
      · try simp [t0, splice]
        rw [wrap_i64 (by omega)]
        unfold o_disk_Disk_Read_k11
        simp
        refine wC_dec (fun g2 => ?_) fun g2 => ?_
        · have g1' : A * 256 ≤ D.fly[k].1 := by omega
          obtain ⟨dc, hsl, _⟩ := slice_from (z := 1) (b := wb) (o := 0) (lo := ((D.fly[k].1 - A * 256 : Nat) : Int)) (k := .i64) hwcap (by omega)
          have hw : IntKind.i64.wrap ((D.fly[k].1 : Int) - (A : Int) * 256) = ((D.fly[k].1 - A * 256 : Nat) : Int) := by rw [wrap_i64 (by omega)]; omega
          simp only [Int.toNat_natCast] at hsl
          simp [t0, t1, splice, hw, hsl, hse]
          have hmin : Nat.min D.fly[k].2.length (256 - (D.fly[k].1 - A * 256)) = 64 := by rw [hl64]; exact Nat.min_eq_left (by omega)
          refine copy_own (ys := bv D.fly[k].2) h3 5 rfl (by omega) (by rw [hmin, rob_src (n := 64) hfr hfd hfl (by omega), List.take_of_length_le (by omega)]) (bv_one _) (by simp; omega) ?_
          intro σ3 h4
          refine hfin _ ?_
          simp only [J]
          rw [over_take _ _ _ _ _ hf, if_pos (by omega), ← splice_put]
          exact h4.pick [0, 1, 2, 3, 4, 5] (by decide)
        · refine hfin _ ?_
          simp only [J]
          rw [over_take _ _ _ _ _ hf, if_neg (by omega)]
          exact h3.pick [0, 1, 2, 3, 4, 5] (by decide)
      · try simp
        unfold o_disk_Disk_Read_k11
        simp
        refine hfin _ ?_
        simp only [J]
        rw [over_take _ _ _ _ _ hf, if_neg (by omega)]
        exact h3.pick [0, 1, 2, 3, 4, 5] (by decide)
    · have : k = D.fly.length := by omega
      subst this
      refine hk _ _ (in_self i hi (disk_in (.slice (some ⟨lb, 0, none⟩) D.last.length lc) (.slice x D.fly.length c) ss hs ?_))
      simp only [J, List.take_length] at h
      exact h
theorem own_one {i : Nat} {e z n : Nat} {v : Value} {xs : List Value} (h : H l σ) (hi : l[i]? = some (Own e z v n xs)) : one v = true := by
  obtain ⟨_, _, a, c, rfl⟩ := h.own_src i hi; rfl
theorem parts_get (a : Nat) (bs : List UInt8) (k : Nat) (h : k < 4) : (parts a bs)[k]? = some (a * 256 + 64 * k, (bs.drop (64 * k)).take 64) := by
  have : k = 0 ∨ k = 1 ∨ k = 2 ∨ k = 3 := by omega
  rcases this with rfl | rfl | rfl | rfl <;> rfl
theorem parts_take (a : Nat) (bs : List UInt8) (k : Nat) (h : k < 4) : (parts a bs).take (k + 1) = (parts a bs).take k ++ [(a * 256 + 64 * k, (bs.drop (64 * k)).take 64)] := by
  rw [List.take_add_one, parts_get a bs k h]; rfl
theorem fling_ok {v bv' : Value} {D : DM} {n a : Nat} {bs : List UInt8} {x0 x1 x2 : Nat} (h : H l σ) (i : Nat) (hi : l[i]? = some (Disk v D)) (hD : D.Ok n) (hm : D.fly.length < 1099511627776)
    (i0 : Nat) (h0 : l[i0]? = some (pt x0 (.cells [bv'] t_sl_uint8 false))) (i1 : Nat) (h1 : l[i1]? = some (pt x1 (.cells [v] t_p_disk_Disk false))) (i2 : Nat) (h2 : l[i2]? = some (pt x2 (.cells [.int .i64 (a : Nat)] t_int false)))
    (n0 : i0 ≠ i) (n1 : i1 ≠ i) (n2 : i2 ≠ i) (hb : Rd σ bv' bs) (hbs : bs.length = 256) (ha : a < n)
    (hk : ∀ σ', H (l.set i (Disk v (D.fling a bs))) σ' → Q (.tuple #[]) σ') : E f_disk_Disk_Write_c1 [.pointer (some ⟨x0, 0, none⟩), .pointer (some ⟨x1, 0, none⟩), .pointer (some ⟨x2, 0, none⟩)] σ Q := by
  have hlen := hD.len
  have hn := hD.lo
  have hn2 := hD.hi
  have r0 := load1 (n := 1) (o := 0) (h.row i0 h0)
  apply o_disk_Disk_Write_c1_ev; unfold o_disk_Disk_Write_c1
  obtain ⟨hsrc, ⟨ba, bc, rfl⟩, _⟩ := hb
  simp [r0]
  obtain ⟨b, lv, fv, ss, rfl, hs, h⟩ := disk_out (h.out i hi)
  refine clone_ok h hsrc (by omega) ?_
  intro w σ1 h3
  obtain ⟨wb, wc, rfl, hwc, _⟩ := h3.own_form 5 rfl (by omega)
  -- the clone is never written again
  obtain ⟨rest, e5, opn5, h4⟩ : ∃ rest e opn, H [pt b (.cells [lv, fv, .int .i64 D.fuse, .bool D.off] t_disk_Disk false), Own t_uint8 1 lv D.last.length (bv D.last), Own t_disk_flight 2 fv D.fly.length (flc D.fly ss), FlyA D.fly ss, Star (l.set i emp), ro wb (.cells (bv bs ++ rest) e opn)] σ1 := by
    rcases H_own.1 (h3.front 5 rfl) with ⟨⟨e, _⟩, _⟩ | ⟨b', c', opn, rest, h5, _, _, hv, _, _⟩
    · omega
    · cases hv
      exact ⟨rest, 5, opn, (h5.freeze 0 rfl).pick [1, 2, 3, 4, 5, 0] (by decide)⟩
  let J : Nat → Value → List Value → List Assn := fun k fv ss => [pt b (.cells [lv, fv, .int .i64 D.fuse, .bool D.off] t_disk_Disk false), Own t_uint8 1 lv D.last.length (bv D.last), Own t_disk_flight 2 fv (D.fly.length + k) (flc (D.fly ++ (parts a bs).take k) ss), FlyA (D.fly ++ (parts a bs).take k) ss, Star (l.set i emp), ro wb (.cells (bv bs ++ rest) e5 opn5)]
  refine ⟨fun m y1 y2 y3 y4 τ => ∃ k : Nat, m = 4 - k ∧ k ≤ 4 ∧ y1 = .pointer (some ⟨x1, 0, none⟩) ∧ y2 = .pointer (some ⟨x2, 0, none⟩) ∧ y3 = .slice (some ⟨wb, 0, none⟩) bs.length wc ∧ y4 = .int .i64 (64 * k : Nat) ∧ ∃ fv ss, ss.length = D.fly.length + k ∧ H (J k fv ss) τ, ⟨_, 0, rfl, by omega, rfl, rfl, rfl, rfl, fv, ss, hs, ?_⟩, ?_⟩
  · simpa [J] using h4
  · rintro m _ _ _ _ τ ⟨k, rfl, hkl, rfl, rfl, rfl, rfl, fv, ss, hs, h⟩
    suffices hb : ∀ N : Value → Value → Value → Value → AHeap → Prop, (∀ τ' fv' ss', k < 4 → ss'.length = D.fly.length + (k + 1) → H (J (k + 1) fv' ss') τ' →
        N (.pointer (some ⟨x1, 0, none⟩)) (.pointer (some ⟨x2, 0, none⟩)) (.slice (some ⟨wb, 0, none⟩) bs.length wc) (.int .i64 (64 * (k + 1) : Nat)) τ') → o_disk_Disk_Write_c1_b1 N Q (.pointer (some ⟨x1, 0, none⟩)) (.pointer (some ⟨x2, 0, none⟩)) (.slice (some ⟨wb, 0, none⟩) bs.length wc) (.int .i64 (64 * k : Nat)) τ from
      hb _ fun τ' fv' ss' hlt hs' h' => ⟨_, by omega, k + 1, rfl, by omega, rfl, rfl, rfl, rfl, fv', ss', hs', h'⟩
    intro N hN
    have hl : ∀ {τ : AHeap} {m : List Assn}, H (m ++ [Star (l.set i emp)]) τ → True := fun _ => trivial
    have hx : ∀ {τ : AHeap}, H (l.set i emp) τ → aLoad false 1 (.pointer (some ⟨x1, 0, none⟩)) τ = some (.pointer (some ⟨b, 0, none⟩)) ∧ aLoad false 1 (.pointer (some ⟨x2, 0, none⟩)) τ = some (.int .i64 (a : Nat)) := by
      intro τ hτ
      have g1 : (l.set i emp)[i1]? = some (pt x1 (.cells [.pointer (some ⟨b, 0, none⟩)] t_p_disk_Disk false)) := by rw [List.getElem?_set_ne (Ne.symm n1)]; exact h1
      have g2 : (l.set i emp)[i2]? = some (pt x2 (.cells [.int .i64 (a : Nat)] t_int false)) := by rw [List.getElem?_set_ne (Ne.symm n2)]; exact h2
      have l1 := load1 (n := 1) (o := 0) (hτ.row i1 g1)
      have l2 := load1 (n := 1) (o := 0) (hτ.row i2 g2)
      exact ⟨by rw [l1]; rfl, by rw [l2]; rfl⟩
    unfold o_disk_Disk_Write_c1_b1
    simp
    refine wC_dec (fun hlt => ?_) fun hlt => ?_
    · have hk4 : k < 4 := by omega
      obtain ⟨l1, l2⟩ := hx (h.beside 4 rfl)
      have b1 := load1 (n := 1) (o := 1) (h.row 0 rfl)
      obtain ⟨_, _, fa, fc, rfl⟩ := h.own_src 2 rfl
      have w1 : IntKind.i64.wrap ((a : Int) * 256) = (a : Int) * 256 := wrap_i64 (by omega)
      have w2 : IntKind.i64.wrap ((a : Int) * 256 + 64 * (k : Int)) = ((a * 256 + 64 * k : Nat) : Int) := by rw [wrap_i64 (by omega)]; omega
      have w3 : IntKind.i64.wrap (64 * (k : Int) + 64) = ((64 * (k + 1) : Nat) : Int) := by rw [wrap_i64 (by omega)]; omega
      have sl := slice_3 (z := 1) (b := wb) (o := 0) (n := bs.length) (c := wc) (lo := 64 * (k : Int)) (hi := ((64 * (k + 1) : Nat) : Int)) (mx := ((64 * (k + 1) : Nat) : Int)) (k := .i64) (k' := .i64) (k'' := .i64) hwc (by omega)
      have z1 : (64 * (k : Int)).toNat = 64 * k := by omega
      have z2 : ((64 * (k + 1) : Nat) : Int).toNat - 64 * k = 64 := by omega
      rw [z1, z2, Nat.zero_add, Nat.mul_one] at sl
      simp only [l1, l2, b1, w1, w2, w3, pu_some, nil_ptr, fieldAddr_ptr, bin_add, bin_mul, sl, Nat.zero_add, List.getElem?_cons_succ, List.getElem?_cons_zero]
      generalize hat : a * 256 + 64 * k = at'
      simp [splice]
      refine buildS_ok h (by rfl) (cs := [.int .i64 (at' : Nat), .slice (some ⟨wb, 64 * k, none⟩) 64 64]) (by simp [reps, splice]) ?_
      intro nb σ2 h5
      obtain ⟨l1, l2⟩ := hx (h5.beside 4 rfl)
      have b1 := load1 (n := 1) (o := 1) (h5.row 0 rfl)
      simp [l1, b1, veq1, veq, veq0]
      refine append_own h5 2 rfl (src_row (n := 1) (z := 2) (h5.row 6 rfl) (by simp)) (by omega) (by omega) (by simp) ?_
      intro fv' σ3 h6
      obtain ⟨l1, l2⟩ := hx (h6.beside 4 rfl)
      have hfv := own_one h6 (i := 2) rfl
      simp [l1]
      refine store1 (o := 1) h6 0 rfl hfv (by simp) ?_
      intro σ4 h7
      have hrob := (h7.dup 5 rfl (Dup.ro _ _)).unsnoc
      have h8 := rob_in (o := 64 * k) (cap := 64) (x := (bs.drop (64 * k)).take 64) (by simp [hbs]; rw [show min 64 (256 - 64 * k) = 64 by omega]; exact CapOk.exact (by unfold OPEN; omega)) (by
        simp only [List.length_take, List.length_drop, hbs]
        rw [show min 64 (256 - 64 * k) = 64 by omega, List.drop_append_of_le_length (by simp; omega), List.take_append_of_le_length (by simp; omega)]; simp) (by simp [hbs]; omega) hrob
      have h9 := h8.pick [1, 2, 3, 4, 0, 5, 6] (by decide)
      refine hN σ4 fv' (ss ++ [.slice (some ⟨wb, 64 * k, none⟩) 64 64]) hk4 (by simp [hs]; omega) ?_
      have hlk : ((parts a bs).take k).length = k := by simp [parts]; omega
      have e64 : ((bs.drop (64 * k)).take 64).length = 64 := by simp [hbs]; omega
      rw [e64] at h9
      simp only [J]
      rw [parts_take a bs k hk4, ← List.append_assoc, flc_append _ _ _ _ (by simp [hlk, hs]), FlyA_append _ _ _ _ (by simp [hlk, hs]), hat]
      have eF : ∀ (p : Nat) (y : List UInt8) (s : Value), FlyA [(p, y)] [s] = RoB s y := fun p y s => by
        simp only [FlyA]; rw [sep_comm, emp_sep]
      rw [eF]
      have h10 := (H_sep.2 (h9.pick [3, 4, 0, 1, 2, 5, 6] (by decide))).pick [1, 2, 3, 0, 4, 5] (by decide)
      exact h10
    · obtain rfl : k = 4 := by omega
      refine hk _ (H.in' i hi (disk_in lv fv ss ?_ ?_))
      · simpa [DM.fling, parts] using hs
      · have := h.pick [0, 1, 2, 3, 4] (by decide)
        simpa [Ax.picks, J, DiskP, DM.fling, parts] using this
theorem write_ok {v bv' : Value} {D : DM} {n : Nat} {a : Int} {bs : List UInt8} (h : H l σ) (i : Nat) (hi : l[i]? = some (Disk v D)) (hD : D.Ok n) (hf : D.fuse < 9223372036854775808) (hm : D.fly.length < 1099511627776) (hl : bs.length ≤ 140737488355328)
    (hb : ∀ τ, H (l.set i emp) τ → Rd τ bv' bs) (hk : ∀ σ', H (l.set i (Disk v (D.write a bs).1)) σ' → Q (.int .i64 (D.write a bs).2) σ') : E f_disk_Disk_Write [v, .int .i64 a, bv'] σ Q := by
  have hlt := (List.getElem?_eq_some_iff.1 hi).1
  obtain ⟨ba, bc, rfl⟩ := (hb σ (by
    have := (h.front i hi).tail
    exact this)).form
  obtain ⟨pb, hv⟩ : ∃ pb, v = .pointer (some ⟨pb, 0, none⟩) := by
    obtain ⟨b, _, _, _, e, _⟩ := disk_out (h.out i hi); exact ⟨b, e⟩
  subst hv
  have h' := h.out i hi
  apply o_disk_Disk_Write_ev; unfold o_disk_Disk_Write
  simp
  refine new_ok h' ?_
  intro x1 σ1 h1
  refine new_ok h1 ?_
  intro x2 σ2 h2
  refine new_ok h2 ?_
  intro x0 σ3 h3
  have q1 := load1 (n := 1) (o := 0) (h3.row 2 rfl)
  have q2 := load1 (n := 1) (o := 0) (h3.row 3 rfl)
  have q0 := load1 (n := 1) (o := 0) (h3.row 4 rfl)
  simp [q1, q2]
  have back : ∀ {τ D'}, H [Disk (.pointer (some ⟨pb, 0, none⟩)) D', Star (l.set i emp), pt x1 (.cells [.pointer (some ⟨pb, 0, none⟩)] t_p_disk_Disk false), pt x2 (.cells [.int .i64 a] t_int false), pt x0 (.cells [.slice ba bs.length bc] t_sl_uint8 false)] τ → H (l.set i (Disk (.pointer (some ⟨pb, 0, none⟩)) D')) τ :=
    fun h => H.in' i hi (h.pick [0, 1] (by decide))
  refine ready_ok h3 0 rfl hD ?_
  simp
  by_cases hr : D.ready a = 0
  · simp [hr, q0]
    by_cases hbl : bs.length = 256
    · have hz : (256 : Int) = (bs.length : Int) := by omega
      simp [hbl, q1]
      refine burn_ok h3 0 rfl hf (fun hb1 σ4 h4 => ?_) fun hb1 σ4 h4 => ?_
      · have hD2 : D.burn.1.Ok n := by
          unfold DM.burn; split
          · exact hD
          · split <;> exact ⟨hD.lo, hD.hi, hD.len, hD.fly⟩
        have hfl : D.burn.1.fly = D.fly := by unfold DM.burn; split; rfl; split <;> rfl
        have ha : 0 ≤ a ∧ a < n := by
          have hlen := hD.len
          unfold DM.ready at hr
          split at hr
          · simp at hr
          · split at hr
            · simp at hr
            · rename_i hx
              have : D.last.length / 256 = n := by omega
              omega
        obtain ⟨A, rfl⟩ : ∃ A : Nat, a = A := ⟨a.toNat, by omega⟩
        refine fling_ok (bs := bs) h4 0 rfl hD2 (by rw [hfl]; exact hm) 4 rfl 2 rfl 3 rfl (by decide) (by decide) (by decide) (hb _ (h4.beside 1 rfl)) hbl (by omega) ?_
        intro σ5 h5
        have e : D.write A bs = (D.burn.1.fling A bs, 0) := by simp [DM.write, hr, hbl, hb1]
        rw [e] at hk
        exact hk _ (back h5)
      · have e : D.write a bs = (D.burn.1, 9) := by simp [DM.write, hr, hbl, hb1]
        rw [e] at hk
        exact hk _ (back h4)
    · have : ¬ (bs.length : Int) = 256 := by omega
      simp [this]
      have e : D.write a bs = (D, 1) := by simp [DM.write, hr, hbl]
      rw [e] at hk
      exact hk _ (back h3)
  · simp [hr]
    have e : D.write a bs = (D, D.ready a) := by simp [DM.write, hr]
    rw [e] at hk
    exact hk _ (back h3)
end Go.Ax.O
set_option maxRecDepth 100000
namespace Go.Ax.O
open Go.Proofs Go.RowKit
variable {l m : List Assn} {σ : AHeap} {Q : WK}
theorem put_get (L : List UInt8) (a : Nat) (x : List UInt8) (h : a + x.length ≤ L.length) (i : Nat) : (put L a x)[i]? = if a ≤ i ∧ i < a + x.length then x[i - a]? else L[i]? := by
  unfold put
  rw [List.append_assoc, List.getElem?_append]
  simp only [List.length_take, Nat.min_eq_left (show a ≤ L.length by omega)]
  split
  · rename_i hi
    rw [if_neg (by omega), List.getElem?_take, if_pos hi]
  · rw [List.getElem?_append]
    split
    · rw [if_pos (by omega)]
    · rw [if_neg (by omega), List.getElem?_drop]; congr 1; omega
theorem parts_Ok {n a : Nat} {bs : List UInt8} (ha : a < n) (hb : bs.length = 256) : ∀ f ∈ parts a bs, FlyOk n f := by
  intro f hf
  simp only [parts, List.mem_cons, List.not_mem_nil, or_false] at hf
  rcases hf with rfl | rfl | rfl | rfl <;> refine ⟨by simp [hb], ?_, ?_⟩ <;> simp <;> omega
theorem ready_in {D : DM} {n : Nat} (hD : D.Ok n) {a : Nat} (ha : a < n) : D.ready a = if D.off then 9 else 0 := by
  unfold DM.ready
  have := hD.len
  have : D.last.length / 256 = n := by omega
  cases D.off with
  | true => rfl
  | false => simp only [Bool.false_eq_true, if_false]; rw [if_neg (by omega)]
theorem fling_Ok {D : DM} {n a : Nat} {bs : List UInt8} (hD : D.Ok n) (ha : a < n) (hb : bs.length = 256) : (D.fling a bs).Ok n :=
  ⟨hD.lo, hD.hi, hD.len, fun f hf => by
    simp only [DM.fling, List.mem_append] at hf
    rcases hf with hf | hf
    · exact hD.fly f hf
    · exact parts_Ok ha hb f hf⟩
theorem block_len {D : DM} {n a : Nat} (hD : D.Ok n) (ha : a < n) : (D.block a).length = 256 := by
  have := hD.len
  refine over_length _ _ _ (by simp; omega) (fun f hf => (hD.fly f hf).len) fun f hf g1 g2 => ?_
  have := (hD.fly f hf).al
  omega
theorem own_freeze {v : Value} {n : Nat} {x : List UInt8} (hn : 0 < n) (h : H (Own t_uint8 1 v n (bv x) :: m) σ) : ∃ b c, v = .slice (some ⟨b, 0, none⟩) n c ∧ CapOk 1 n c ∧
    ∀ o k c', CapOk 1 k c' → o + k ≤ n → H (RoB (.slice (some ⟨b, o, none⟩) k c') ((x.drop o).take k) :: m) σ := by
  rcases H_own.1 h with ⟨⟨rfl, _⟩, _⟩ | ⟨b, c, opn, rest, hp, hx, hr, rfl, hn2, ho⟩
  · omega
  · refine ⟨b, c, rfl, ⟨hn2, by rcases ho with ⟨_, _, x⟩ | x; exact .inr x; exact .inl x⟩, fun o k c' hc hk => ?_⟩
    have hxl : x.length = n := by simpa using hx
    have hl : ((x.drop o).take k).length = k := by simp; omega
    have := rob_in (b := b) (o := o) (cap := c') (x := (x.drop o).take k) (c := bv x ++ rest) (e := t_uint8) (opn := opn) (by rw [hl]; exact hc) (by
      rw [hl, List.drop_append_of_le_length (by simp; omega), List.take_append_of_le_length (by simp; omega)]; simp) (by rw [hl]; simp; omega) hp.freeze0
    rw [hl] at this
    exact this
theorem write_plain {D : DM} {n a : Nat} {bs : List UInt8} (hD : D.Ok n) (ho : D.off = false) (hf : D.fuse = 0) (ha : a < n) (hb : bs.length = 256) : D.write a bs = (D.fling a bs, 0) := by
  have hr := ready_in hD ha
  rw [ho] at hr
  simp at hr
  simp [DM.write, hr, hb, DM.burn, hf]
theorem star2 {B : Assn} {i j : Nat} (hj : l[j]? = some B) (hij : i ≠ j) : Star (l.set i emp) = sep B (Star ((l.set i emp).set j emp)) := by
  conv => lhs; rw [Star_take _ j]
  simp [List.getD, List.getElem?_set, hij, hj]
end Go.Ax.O
namespace Go.Ax
section
variable {α : Type} (key : α → Nat)
def swp (R : List α) (i j : Nat) : List α :=
  match R[i]?, R[j]? with
  | some x, some y => (R.set i y).set j x
  | _, _ => R
variable {key}
theorem swp_eq {R : List α} {i j : Nat} (hi : i < R.length) (hj : j < R.length) : swp R i j = (R.set i R[j]).set j R[i] := by
  unfold swp
  rw [List.getElem?_eq_getElem hi, List.getElem?_eq_getElem hj]
theorem swp_length (R : List α) (i j : Nat) : (swp R i j).length = R.length := by
  unfold swp; split <;> simp
theorem swp_get {R : List α} {i j : Nat} (hi : i < R.length) (hj : j < R.length) (k : Nat) : (swp R i j)[k]? = if k = j then R[i]? else if k = i then R[j]? else R[k]? := by
  rw [swp_eq hi hj, List.getElem?_set, List.getElem?_set]
  by_cases h1 : j = k
  · subst h1; simp [hj, List.getElem?_eq_getElem hi]
  · rw [if_neg h1, if_neg (Ne.symm h1)]
    by_cases h2 : i = k
    · subst h2; simp [hi, List.getElem?_eq_getElem hj]
    · rw [if_neg h2, if_neg (Ne.symm h2)]
theorem swp_perm (R : List α) {i j : Nat} (hi : i < R.length) (hj : j < R.length) : (swp R i j).Perm R := by
  rw [swp_eq hi hj]
  exact List.set_set_perm hi hj
variable (key)
def Ky (R : List α) (k : Nat) : Nat := ((R[k]?).map key).getD 0
variable {key}
theorem Ky_swp {R : List α} {i j : Nat} (hi : i < R.length) (hj : j < R.length) (k : Nat) : Ky key (swp R i j) k = if k = j then Ky key R i else if k = i then Ky key R j else Ky key R k := by
  unfold Ky
  rw [swp_get hi hj]
  split
  · rfl
  · split <;> rfl
variable (key)
def HeapEx (R : List α) (n i : Nat) : Prop := (∀ k, 0 < k → k < n → (k - 1) / 2 ≠ i → Ky key R ((k - 1) / 2) ≤ Ky key R k) ∧ (∀ k, 0 < k → k < n → (k - 1) / 2 = i → 0 < i → Ky key R ((i - 1) / 2) ≤ Ky key R k)
def HeapOk (R : List α) (n : Nat) : Prop := ∀ k, 0 < k → k < n → Ky key R ((k - 1) / 2) ≤ Ky key R k
variable {key}
theorem HeapEx.step {R : List α} {n i j : Nat} (h : HeapEx key R n i) (hn : n ≤ R.length) (hj : j < n) (hp : (j - 1) / 2 = i) (hj0 : 0 < j) (hmin : ∀ k, 0 < k → k < n → (k - 1) / 2 = i → Ky key R j ≤ Ky key R k) (hlt : Ky key R j < Ky key R i) : HeapEx key (swp R i j) n j := by
  obtain ⟨h1, h2⟩ := h
  have hij : i < j := by omega
  refine ⟨fun k hk0 hkn hpk => ?_, fun k hk0 hkn hpk _ => ?_⟩
  · rw [Ky_swp (by omega) (by omega), Ky_swp (by omega) (by omega)]
    by_cases e1 : k = j
    · subst e1
      rw [if_neg (by omega), if_pos hp, if_pos rfl]; omega
    · by_cases e2 : k = i
      · subst e2
        rw [if_neg (by omega), if_neg (by omega), if_neg (by omega), if_pos rfl]
        exact h2 j hj0 hj hp hk0
      · rw [if_neg hpk, if_neg e1, if_neg e2]
        by_cases e3 : (k - 1) / 2 = i
        · rw [if_pos e3]; exact hmin k hk0 hkn e3
        · rw [if_neg e3]; exact h1 k hk0 hkn e3
  · rw [Ky_swp (by omega) (by omega), Ky_swp (by omega) (by omega)]
    rw [if_neg (by omega), if_pos hp, if_neg (by omega), if_neg (by omega)]
    have := h1 k hk0 hkn (by omega)
    rw [hpk] at this
    exact this
theorem HeapEx.done {R : List α} {n i : Nat} (h : HeapEx key R n i) (hmin : ∀ k, 0 < k → k < n → (k - 1) / 2 = i → Ky key R i ≤ Ky key R k) : HeapOk key R n := by
  intro k hk0 hkn
  by_cases e : (k - 1) / 2 = i
  · rw [e]; exact hmin k hk0 hkn e
  · exact h.1 k hk0 hkn e
theorem HeapOk.top {R : List α} {n : Nat} (h : HeapOk key R n) : ∀ k, k < n → Ky key R 0 ≤ Ky key R k := by
  intro k
  induction k using Nat.strongRecOn with
  | ind k ih =>
    intro hk
    rcases Nat.eq_zero_or_pos k with rfl | h0
    · exact Nat.le_refl _
    · exact Nat.le_trans (ih ((k - 1) / 2) (by omega) (by omega)) (h k h0 hk)
theorem Ky_congr {R S : List α} {n : Nat} (h : ∀ k, k < n → R[k]? = S[k]?) {k : Nat} (hk : k < n) : Ky key R k = Ky key S k := by unfold Ky; rw [h k hk]
theorem HeapOk.congr {R S : List α} {n : Nat} (h : HeapOk key R n) (e : ∀ k, k < n → R[k]? = S[k]?) : HeapOk key S n := fun k h0 hk => by
  rw [← Ky_congr e hk, ← Ky_congr e (show (k - 1) / 2 < n by omega)]; exact h k h0 hk
theorem HeapOk.grow {R : List α} {n p : Nat} {x : α} (h : HeapOk key R n) (hp : p < R.length) (hx : Ky key R p ≤ key x) : HeapEx key (R.set p x) n p := by
  have hK : ∀ k, Ky key (R.set p x) k = if k = p then key x else Ky key R k := by
    intro k
    unfold Ky
    rw [List.getElem?_set]
    by_cases e : p = k
    · subst e; simp [hp]
    · rw [if_neg e, if_neg (Ne.symm e)]
  refine ⟨fun k h0 hk hpk => ?_, fun k h0 hk hpk hp0 => ?_⟩
  · rw [hK, hK, if_neg hpk]
    have := h k h0 hk
    split
    · rename_i e; subst e; omega
    · exact this
  · rw [hK, hK, if_neg (by omega)]
    have h1 := h k h0 hk
    have h2 := h p hp0 (by omega)
    rw [hpk] at h1
    rw [if_neg (by omega)]
    omega
theorem HeapOk.pop {R : List α} {n : Nat} (h : HeapOk key R (n + 1)) (hn : n < R.length) : HeapEx key (swp R 0 n) n 0 := by
  refine ⟨fun k h0 hk hpk => ?_, fun k h0 hk hpk hp0 => by omega⟩
  rw [Ky_swp (by omega) hn, Ky_swp (by omega) hn, if_neg (by omega), if_neg hpk, if_neg (by omega), if_neg (by omega)]
  exact h k h0 (by omega)
end
end Go.Ax
set_option maxRecDepth 100000
namespace Go.Ax.O
open Go.Proofs Go.RowKit
variable {l m : List Assn} {σ : AHeap} {Q : WK}
structure Rec where
  ib : Nat
  pl : Nat
  used : Nat
  dirty : Bool
  sv : Value
  b : List UInt8
abbrev ku : Rec → Nat := Rec.used
def BytesV (v : Value) (x : List UInt8) : Assn := fun r => pure' (v = .slice none 0 0 ∧ x = []) r ∨ RoB v x r
def ItemA (k : Nat) (r : Rec) : Assn := sep (pt r.ib (.cells [.int .i64 r.pl, .int .i64 k, .int .u64 r.used, .bool r.dirty, r.sv] t_cache_item false)) (BytesV r.sv r.b)
def itemsL : Nat → List Rec → List Assn
  | _, [] => []
  | o, r :: R => ItemA o r :: itemsL (o + 1) R
theorem itemsL_get : ∀ (R : List Rec) (o k : Nat), (itemsL o R)[k]? = R[k]?.map (ItemA (o + k))
  | [], o, k => by simp [itemsL]
  | r :: R, o, 0 => by simp [itemsL]
  | r :: R, o, k + 1 => by simp [itemsL, itemsL_get R (o + 1) k]; rw [show o + 1 + k = o + (k + 1) by omega]
theorem itemsL_set : ∀ (R : List Rec) (o k : Nat) (r : Rec), (itemsL o R).set k (ItemA (o + k) r) = itemsL o (R.set k r)
  | [], o, k, r => by simp [itemsL]
  | x :: R, o, 0, r => by simp [itemsL]
  | x :: R, o, k + 1, r => by
    have := itemsL_set R (o + 1) k r
    rw [show o + 1 + k = o + (k + 1) by omega] at this
    simp [itemsL, this]
theorem itemsL_append : ∀ (R S : List Rec) (o : Nat), itemsL o (R ++ S) = itemsL o R ++ itemsL (o + R.length) S
  | [], S, o => by simp [itemsL]
  | r :: R, S, o => by simp [itemsL, itemsL_append R S (o + 1)]; rw [show o + 1 + R.length = o + (R.length + 1) by omega]
theorem itemsL_length : ∀ (R : List Rec) (o : Nat), (itemsL o R).length = R.length
  | [], o => rfl
  | r :: R, o => by simp [itemsL, itemsL_length R (o + 1)]
theorem item_out {R : List Rec} {k : Nat} {r : Rec} (h : H (Star (itemsL 0 R) :: m) σ) (hr : R[k]? = some r) : H (ItemA k r :: Star ((itemsL 0 R).set k emp) :: m) σ := by
  have e : (itemsL 0 R)[k]? = some (ItemA k r) := by rw [itemsL_get, hr]; simp
  rw [Star_take _ k, H_sep] at h
  simpa only [List.getD, e, Option.getD_some] using h
theorem item_in {R : List Rec} {k : Nat} {r : Rec} (hk : k < R.length) (h : H (ItemA k r :: Star ((itemsL 0 R).set k emp) :: m) σ) : H (Star (itemsL 0 (R.set k r)) :: m) σ := by
  have e := itemsL_set R 0 k r
  rw [Nat.zero_add] at e
  rw [← e, Star_set _ _ _ (by rw [itemsL_length]; exact hk), H_sep]
  exact h
def ptrs (R : List Rec) : List Value := R.map fun r => .pointer (some ⟨r.ib, 0, none⟩)
theorem ptrs_get {R : List Rec} {k : Nat} {r : Rec} (h : R[k]? = some r) : (ptrs R)[k]? = some (.pointer (some ⟨r.ib, 0, none⟩)) := by simp [ptrs, h]
theorem ptrs_len (R : List Rec) : (ptrs R).length = R.length := by simp [ptrs]
def RowL (cb : Nat) (cs : List Value) (rowv : Value) (R : List Rec) (I0 : Assn) : List Assn := [pt cb (.cells (cs ++ [rowv]) t_cache_Cache false), Own t_p_cache_item 1 rowv R.length (ptrs R), Star (itemsL 0 R), I0]
section
variable {cb : Nat} {cs : List Value} {rowv : Value} {R : List Rec} {I0 : Assn}
theorem row_load (hcs : cs.length = 4) (h : H (RowL cb cs rowv R I0) σ) : aLoad false 1 (.pointer (some ⟨cb, 4, none⟩)) σ = some rowv := by
  rw [load1 (h.row 0 rfl), List.getElem?_append_right (by omega), hcs]; rfl
theorem row_form (h : H (RowL cb cs rowv R I0) σ) : ∃ a c, rowv = .slice a R.length c := (h.own_src 1 rfl).2.2
theorem m_len (v : Value) (σ : AHeap) : aMethod P (.iface t_p_cache_row v) "Len" σ = (aLoad false 1 v σ).bind fun u => some (f_cache_row_Len, u) := by kernel_rfl
theorem m_less (v : Value) (σ : AHeap) : aMethod P (.iface t_p_cache_row v) "Less" σ = (aLoad false 1 v σ).bind fun u => some (f_cache_row_Less, u) := by kernel_rfl
theorem m_swap (v : Value) (σ : AHeap) : aMethod P (.iface t_p_cache_row v) "Swap" σ = (aLoad false 1 v σ).bind fun u => some (f_cache_row_Swap, u) := by kernel_rfl
theorem m_pop (v : Value) (σ : AHeap) : aMethod P (.iface t_p_cache_row v) "Pop" σ = some (f_cache_row_Pop, v) := by kernel_rfl
theorem m_push (v : Value) (σ : AHeap) : aMethod P (.iface t_p_cache_row v) "Push" σ = some (f_cache_row_Push, v) := by kernel_rfl
theorem len_ok (h : H (RowL cb cs rowv R I0) σ) (hk : Q (.int .i64 R.length) σ) : E f_cache_row_Len [rowv] σ Q := by
  obtain ⟨a, c, rfl⟩ := row_form h
  apply o_cache_row_Len_ev; unfold o_cache_row_Len
  simpa using hk
theorem less_ok {i j : Nat} {x y : Rec} (h : H (RowL cb cs rowv R I0) σ) (hi : R[i]? = some x) (hj : R[j]? = some y) (hk : Q (.bool (decide (x.used < y.used))) σ) : E f_cache_row_Less [rowv, .int .i64 i, .int .i64 j] σ Q := by
  have hil := (List.getElem?_eq_some_iff.1 hi).1
  have hjl := (List.getElem?_eq_some_iff.1 hj).1
  apply o_cache_row_Less_ev; unfold o_cache_row_Less
  obtain ⟨b, c, rfl, hc, rest, hrow⟩ := h.own_form 1 rfl (by omega)
  have r1 := load1 (n := 1) (o := i) hrow
  have r2 := load1 (n := 1) (o := j) hrow
  rw [List.getElem?_append_left (by rw [ptrs_len]; omega), ptrs_get hi] at r1
  rw [List.getElem?_append_left (by rw [ptrs_len]; omega), ptrs_get hj] at r2
  rw [idxA (by omega), idxA (by omega)]
  have h1 := item_out (h.pick [2, 0, 1, 3] (by decide)) hi
  unfold ItemA at h1
  rw [H_sep] at h1
  have h2 := item_out (h.pick [2, 0, 1, 3] (by decide)) hj
  unfold ItemA at h2
  rw [H_sep] at h2
  have u1 := load1 (n := 1) (o := 2) (h1.row 0 rfl)
  have u2 := load1 (n := 1) (o := 2) (h2.row 0 rfl)
  simp [r1, r2, u1, u2]
  have e : decide ((x.used : Int) < (y.used : Int)) = decide (x.used < y.used) := by
    by_cases g : x.used < y.used
    · rw [decide_eq_true g, decide_eq_true (by omega)]
    · rw [decide_eq_false g, decide_eq_false (by omega)]
  simpa [e] using hk
theorem items_out2 {i j : Nat} {x y : Rec} (hij : i ≠ j) (hi : R[i]? = some x) (hj : R[j]? = some y) (h : H (Star (itemsL 0 R) :: m) σ) : H (ItemA i x :: ItemA j y :: Star (((itemsL 0 R).set i emp).set j emp) :: m) σ := by
  have h1 := item_out h hi
  have e : Star ((itemsL 0 R).set i emp) = sep (ItemA j y) (Star (((itemsL 0 R).set i emp).set j emp)) := by
    refine star2 ?_ hij
    rw [itemsL_get, hj]; simp
  rw [e] at h1
  have h2 := h1.perm (List.Perm.swap _ _ _)
  rw [H_sep] at h2
  have h3 : H ([ItemA j y, Star (((itemsL 0 R).set i emp).set j emp)] ++ ItemA i x :: m) σ := h2
  exact h3.perm (by
    show (ItemA j y :: Star (((itemsL 0 R).set i emp).set j emp) :: ItemA i x :: m).Perm (ItemA i x :: ItemA j y :: Star (((itemsL 0 R).set i emp).set j emp) :: m)
    exact ((List.Perm.swap _ _ _).cons _).trans (List.Perm.swap _ _ _))
theorem items_in2 {i j : Nat} {x y : Rec} (hij : i ≠ j) (hi : i < R.length) (hj : j < R.length) (h : H (ItemA j x :: ItemA i y :: Star (((itemsL 0 R).set i emp).set j emp) :: m) σ) : H (Star (itemsL 0 ((R.set i y).set j x)) :: m) σ := by
  have e1 := itemsL_set (R.set i y) 0 j x
  have e2 := itemsL_set R 0 i y
  rw [Nat.zero_add] at e1 e2
  rw [← e1, ← e2, Star_set _ j _ (by simp [itemsL_length]; exact hj), H_sep, List.set_comm _ _ hij, Star_set _ i _ (by simp [itemsL_length]; exact hi)]
  have h2 := h.perm ((List.Perm.cons _ (List.Perm.refl _)))
  rw [List.set_comm _ _ hij] at h2
  have h3 : H ((sep (ItemA i y) (Star (((itemsL 0 R).set j emp).set i emp))) :: ItemA j x :: m) σ := by
    rw [H_sep]
    exact h2.perm (by
      show (ItemA j x :: ItemA i y :: Star (((itemsL 0 R).set j emp).set i emp) :: m).Perm (ItemA i y :: Star (((itemsL 0 R).set j emp).set i emp) :: ItemA j x :: m)
      exact (List.Perm.swap _ _ _).trans ((List.Perm.swap _ _ _).cons _))
  exact h3.perm (List.Perm.swap _ _ _)
theorem ptrs_swp {i j : Nat} {x y : Rec} (hi : R[i]? = some x) (hj : R[j]? = some y) : ((ptrs R).set i (.pointer (some ⟨y.ib, 0, none⟩))).set j (.pointer (some ⟨x.ib, 0, none⟩)) = ptrs (swp R i j) := by
  unfold swp ptrs
  rw [hi, hj]
  simp only [List.map_set]
theorem swap_ok {i j : Nat} {x y : Rec} (h : H (RowL cb cs rowv R I0) σ) (hi : R[i]? = some x) (hj : R[j]? = some y) (hk : ∀ σ', H (RowL cb cs rowv (swp R i j) I0) σ' → Q (.tuple #[]) σ') : E f_cache_row_Swap [rowv, .int .i64 i, .int .i64 j] σ Q := by
  have hil := (List.getElem?_eq_some_iff.1 hi).1
  have hjl := (List.getElem?_eq_some_iff.1 hj).1
  apply o_cache_row_Swap_ev; unfold o_cache_row_Swap
  obtain ⟨b, c, rfl, hc, rest, hrow⟩ := h.own_form 1 rfl (by omega)
  have r1 := load1 (n := 1) (o := i) hrow
  have r2 := load1 (n := 1) (o := j) hrow
  rw [List.getElem?_append_left (by rw [ptrs_len]; omega), ptrs_get hi] at r1
  rw [List.getElem?_append_left (by rw [ptrs_len]; omega), ptrs_get hj] at r2
  rw [idxA (by omega), idxA (by omega)]
  simp [r1, r2]
  refine store_own h 1 rfl (by omega) rfl (by rw [ptrs_len]; omega) ?_
  intro σ1 h1
  refine store_own h1 1 rfl (by omega) rfl (by rw [List.length_set, ptrs_len]; omega) ?_
  intro σ2 h2
  rw [ptrs_swp hi hj] at h2
  obtain ⟨_, _, hv, _, rest, hrow⟩ := h2.own_form 1 rfl (by omega)
  cases hv
  have si : (swp R i j)[i]? = some (if i = j then x else y) := by
    rw [swp_get hil hjl]; split
    · exact hi
    · rw [if_pos rfl, hj]
  have sj : (swp R i j)[j]? = some x := by rw [swp_get hil hjl, if_pos rfl, hi]
  have r1 := load1 (n := 1) (o := i) hrow
  have r2 := load1 (n := 1) (o := j) hrow
  rw [List.getElem?_append_left (by rw [ptrs_len, swp_length]; omega), ptrs_get si] at r1
  rw [List.getElem?_append_left (by rw [ptrs_len, swp_length]; omega), ptrs_get sj] at r2
  simp only [r1, r2, pu_some, nil_ptr, fieldAddr_ptr, Nat.zero_add]
  by_cases hij : i = j
  · subst hij
    have hxy : x = y := by rw [hi] at hj; cases hj; rfl
    subst hxy
    have hs : swp R i i = R := by
      apply List.ext_getElem?
      intro k
      rw [swp_get hil hil]
      split
      · rename_i e; subst e; rfl
      · rfl
    rw [hs] at hk h2
    simp only [if_true]
    have h3 := item_out (h2.pick [2, 0, 1, 3] (by decide)) hi
    unfold ItemA at h3
    rw [H_sep] at h3
    refine store1 h3 0 rfl rfl (by simp) ?_
    intro σ3 h4
    refine store1 h4 0 rfl rfl (by simp) ?_
    intro σ4 h5
    refine hk σ4 ?_
    have h6 := item_in (r := x) hil (H_sep.2 h5)
    have : R.set i x = R := by
      apply List.ext_getElem?
      intro k
      rw [List.getElem?_set]
      split
      · rename_i e; subst e; rw [hi]
      · rfl
    rw [this] at h6
    exact h6.pick [1, 2, 0, 3] (by decide)
  · rw [if_neg hij]
    have h3 := items_out2 hij hi hj (h2.pick [2, 0, 1, 3] (by decide))
    unfold ItemA at h3
    rw [H_sep] at h3
    have h4 := H_sep.1 (h3.pick [2, 0, 1, 3, 4, 5, 6] (by decide))
    refine store1 h4 0 rfl rfl (by simp) ?_
    intro σ3 h5
    refine store1 h5 2 rfl rfl (by simp) ?_
    intro σ4 h6
    refine hk σ4 ?_
    have h7 : H (ItemA j x :: _) σ4 := H_sep.2 (h6.pick [2, 3, 0, 1, 4, 5, 6, 7] (by decide))
    have h8 : H (ItemA i y :: _) σ4 := H_sep.2 (h7.pick [1, 2, 0, 3, 4, 5, 6] (by decide))
    have h9 := items_in2 hij hil hjl (h8.pick [1, 0, 2, 3, 4, 5] (by decide))
    have e : (R.set i y).set j x = swp R i j := by unfold swp; rw [hi, hj]
    rw [e] at h9
    have h10 := h9.pick [1, 2, 0, 3] (by decide)
    unfold RowL
    rw [swp_length]
    exact h10
end
end Go.Ax.O
set_option maxRecDepth 100000
namespace Go.Ax.O
open Go.Proofs Go.RowKit
variable {l m : List Assn} {σ : AHeap} {Q : WK}
theorem own_to {e z n k i : Nat} {v : Value} {xs : List Value} (h : H l σ) (hi : l[i]? = some (Own e z v n xs)) (hn : 0 < n) (hk : k ≤ n) :
    ∃ v', (∀ kd, aSlice z v none (some (.int kd k)) none = some v') ∧ one v' = true ∧ H (l.set i (Own e z v' k (xs.take (k * z)))) σ := by
  rcases H_own.1 (h.front i hi) with ⟨⟨rfl, _⟩, _⟩ | ⟨b, c, opn, rest, hp, hx, hr, rfl, hn2, ho⟩
  · omega
  · have hcap : c < OPEN ∨ c / OPEN = z := by rcases ho with ⟨_, _, q⟩ | q; exact .inr q; exact .inl q
    refine ⟨.slice (some ⟨b, 0, none⟩) k c, fun kd => ?_, rfl, H.back i hi (H_own.2 (.inr ⟨b, c, opn, xs.drop (k * z) ++ rest, ?_, ?_, ?_, rfl, by omega, ho⟩))⟩
    · simp only [aSlice, bndO]
      rw [bnd_int (y := known c) (by omega)]
      simp only [Option.bind_some, Int.toNat_natCast]
      rcases Nat.lt_or_ge c OPEN with hlt | hge
      · have := known_lt hlt
        rw [if_pos hlt, if_pos (by omega), if_neg (by omega)]
        simp [add_mk]
      · have : ¬ c < OPEN := by omega
        rw [if_neg this, if_pos ⟨by omega, hcap.resolve_left this⟩]
        simp [add_mk]
    · rw [← List.append_assoc, List.take_append_drop]; exact hp
    · have : k * z ≤ n * z := Nat.mul_le_mul_right _ hk
      simp; omega
    · have h1 : k * z ≤ n * z := Nat.mul_le_mul_right _ hk
      have h2 : n * z ≤ known c * z := Nat.mul_le_mul_right _ hn2
      rw [List.length_append, List.length_drop, hx, hr, Nat.sub_mul, Nat.sub_mul]
      omega
theorem i_121 (v : Value) (hv : live v = true) : aIface P t_p_cache_item v = some (.iface t_p_cache_item v) := by
  have : aIface P t_p_cache_item v = cond (live v) (some (.iface t_p_cache_item v)) none := by kernel_rfl
  rw [this, hv]; rfl
theorem i_160 (v : Value) (hv : live v = true) : aIface P t_p_cache_row v = some (.iface t_p_cache_row v) := by
  have : aIface P t_p_cache_row v = cond (live v) (some (.iface t_p_cache_row v)) none := by kernel_rfl
  rw [this, hv]; rfl
theorem a_121 (v : Value) : aAssert P t_p_cache_item false (.iface t_p_cache_item v) = some v := by kernel_rfl
section
variable {cb : Nat} {cs : List Value} {rowv : Value} {R : List Rec} {I0 : Assn}
theorem popm_ok {n : Nat} {x : Rec} (hcs : cs.length = 4) (h : H (RowL cb cs rowv R I0) σ) (hn : R.length = n + 1) (hx : R[n]? = some x) (hb : n < 1099511627776)
    (hk : ∀ rowv' σ', H (RowL cb cs rowv' (R.take n) (Star [ItemA n x, I0])) σ' → Q (.iface t_p_cache_item (.pointer (some ⟨x.ib, 0, none⟩))) σ') : E f_cache_row_Pop [.pointer (some ⟨cb, 4, none⟩)] σ Q := by
  apply o_cache_row_Pop_ev; unfold o_cache_row_Pop
  have rl := row_load hcs h
  obtain ⟨a, c, hv⟩ := row_form h
  subst hv
  simp [rl]
  rw [wrap_i64 (by omega), show ((R.length : Nat) : Int) - 1 = (n : Int) by omega]
  obtain ⟨b, c', hv, hc, rest, hrow⟩ := h.own_form 1 rfl (by omega)
  cases hv
  have r1 := load1 (n := 1) (o := n) hrow
  rw [List.getElem?_append_left (by rw [ptrs_len]; omega), ptrs_get hx] at r1
  rw [idxA (by omega)]
  simp [r1]
  obtain ⟨v', e1, ho, h2⟩ := own_to (k := n) h (i := 1) rfl (by omega) (by omega)
  rw [e1]
  simp
  refine store1 h2 0 rfl ho (by simp [hcs]) ?_
  intro σ1 h3
  rw [i_121 _ rfl, pu_some]
  refine hk v' σ1 ?_
  have e2 : (cs ++ [Value.slice (some ⟨b, 0, none⟩) R.length c]).set 4 v' = cs ++ [v'] := by
    rw [List.set_append_right _ _ (by omega), hcs]; rfl
  have e3 : (ptrs R).take (n * 1) = ptrs (R.take n) := by simp [ptrs]
  have e4 : itemsL 0 R = itemsL 0 (R.take n) ++ [ItemA n x] := by
    have : R = R.take n ++ [x] := by
      have h5 : R.take (n + 1) = R.take n ++ [x] := by rw [List.take_add_one, hx]; rfl
      rw [← h5, ← hn, List.take_length]
    conv => lhs; rw [this]
    rw [itemsL_append, List.length_take, Nat.min_eq_left (by omega)]
    simp [itemsL]
  rw [e2, e3] at h3
  have h3 : H [pt cb (.cells (cs ++ [v']) t_cache_Cache false), Own t_p_cache_item 1 v' n (ptrs (R.take n)), Star (itemsL 0 R), I0] σ1 := h3
  rw [e4, Star_append] at h3
  have h4 := H_sep.1 (h3.pick [2, 0, 1, 3] (by decide))
  have h6 : H [Star [ItemA n x], I0, pt cb (.cells (cs ++ [v']) t_cache_Cache false), Own t_p_cache_item 1 v' n (ptrs (R.take n)), Star (itemsL 0 (R.take n))] σ1 := h4.pick [1, 4, 2, 3, 0] (by decide)
  have h5 : H [Star [ItemA n x, I0], pt cb (.cells (cs ++ [v']) t_cache_Cache false), Own t_p_cache_item 1 v' n (ptrs (R.take n)), Star (itemsL 0 (R.take n))] σ1 := (H_star (l := [ItemA n x, I0])).2 ((H_star (l := [ItemA n x])).1 h6)
  unfold RowL
  rw [List.length_take, Nat.min_eq_left (by omega)]
  exact h5.pick [1, 2, 3, 0] (by decide)
theorem pushm_ok {p : Nat} {x : Rec} (hcs : cs.length = 4) (h : H (RowL cb cs rowv R (Star [ItemA p x, I0])) σ) (hb : R.length < 1099511627776)
    (hk : ∀ rowv' σ', H (RowL cb cs rowv' (R ++ [x]) I0) σ' → Q (.tuple #[]) σ') : E f_cache_row_Push [.pointer (some ⟨cb, 4, none⟩), .iface t_p_cache_item (.pointer (some ⟨x.ib, 0, none⟩))] σ Q := by
  apply o_cache_row_Push_ev; unfold o_cache_row_Push
  have rl := row_load hcs h
  obtain ⟨a, c, hv⟩ := row_form h
  rw [a_121]
  subst hv
  simp [rl]
  have h1 : H (ItemA p x :: I0 :: _) σ := H_star.1 (h.pick [3, 0, 1, 2] (by decide))
  unfold ItemA at h1
  rw [H_sep] at h1
  refine store1 h1 0 rfl rfl (by simp) ?_
  intro σ1 h2
  have h3 : H (ItemA R.length x :: I0 :: pt cb (.cells (cs ++ [.slice a R.length c]) t_cache_Cache false) :: Own t_p_cache_item 1 (.slice a R.length c) R.length (ptrs R) :: Star (itemsL 0 R) :: []) σ1 := H_sep.2 h2
  have rl := load1 (n := 1) (o := 4) (h3.row 2 rfl)
  rw [List.getElem?_append_right (by omega), hcs] at rl
  simp at rl
  simp [rl]
  refine buildS_ok (cs := [.pointer (some ⟨x.ib, 0, none⟩)]) h3 (by decide) (by rfl) ?_
  intro tb σ2 h4
  have ht : srcOf 1 (.slice (some ⟨tb, 0, none⟩) 1 1) σ2 = some (1, [.pointer (some ⟨x.ib, 0, none⟩)]) := by
    rw [src_row (h4.row 5 rfl) (by simp)]; rfl
  refine append_own h4 3 rfl ht (by omega) (by omega) (by rfl) ?_
  intro w σ3 h5
  have ho := own_one h5 (i := 3) rfl
  simp
  refine store1 h5 2 rfl ho (by simp [hcs]) ?_
  intro σ4 h6
  refine hk w σ4 ?_
  have e2 : (cs ++ [Value.slice a R.length c]).set 4 w = cs ++ [w] := by
    rw [List.set_append_right _ _ (by omega), hcs]; rfl
  rw [e2] at h6
  have e3 : ptrs R ++ [.pointer (some ⟨x.ib, 0, none⟩)] = ptrs (R ++ [x]) := by simp [ptrs]
  rw [e3] at h6
  unfold RowL
  rw [itemsL_append, Star_append, List.length_append]
  simp only [itemsL, Nat.zero_add]
  have h7 : H (sep (Star (itemsL 0 R)) (Star [ItemA R.length x]) :: _) σ4 := H_sep.2 (by
    have : H (Star [ItemA R.length x] :: _) σ4 := (H_star (l := [ItemA R.length x])).2 (h6.pick [0, 1, 2, 3, 4] (by decide))
    exact this.pick [4, 0, 1, 2, 3] (by decide))
  exact h7.pick [2, 3, 0, 1] (by decide)
theorem Ky_some {k : Nat} {x : Rec} (h : R[k]? = some x) : Ky ku R k = x.used := by unfold Ky; rw [h]; rfl
theorem up_ok {j : Nat} {x : Rec} (hcs : cs.length = 4) (h : H (RowL cb cs rowv R I0) σ) (hj : R[j]? = some x) (hb : R.length < 1099511627776) (hmax : ∀ k, k < j → Ky ku R k ≤ x.used)
    (hk : Q (.tuple #[]) σ) : E f_heap_up [.iface t_p_cache_row (.pointer (some ⟨cb, 4, none⟩)), .int .i64 j] σ Q := by
  have hjl := (List.getElem?_eq_some_iff.1 hj).1
  apply o_heap_up_ev; unfold o_heap_up
  refine ⟨fun m x0 x1 τ => x0 = .iface t_p_cache_row (.pointer (some ⟨cb, 4, none⟩)) ∧ x1 = .int .i64 j ∧ τ = σ, ⟨0, rfl, rfl, rfl⟩, ?_⟩
  rintro m _ _ τ ⟨rfl, rfl, rfl⟩
  suffices hb : ∀ N, o_heap_up_b1 N Q (.iface t_p_cache_row (.pointer (some ⟨cb, 4, none⟩))) (.int .i64 j) τ from hb _
  intro N
  unfold o_heap_up_b1
  simp
  rw [wrap_i64 (n := (j : Int) - 1) (by omega)]
  obtain ⟨i, hi, hi2⟩ : ∃ i : Nat, IntKind.i64.wrap (((j : Int) - 1).tdiv 2) = (i : Int) ∧ (i = j ∧ j = 0 ∨ i < j) := by
    rcases Nat.eq_zero_or_pos j with rfl | h0
    · exact ⟨0, by decide, .inl ⟨rfl, rfl⟩⟩
    · refine ⟨(j - 1) / 2, ?_, .inr (by omega)⟩
      rw [show (j : Int) - 1 = ((j - 1 : Nat) : Int) by omega, show (((j - 1 : Nat) : Int)).tdiv 2 = (((j - 1) / 2 : Nat) : Int) from rfl, wrap_i64 (by omega)]
  rw [hi]
  refine wG_dec (fun g => ?_) fun g => ?_
  · unfold o_heap_up_k2; simpa using hk
  · have hij : i < j := by omega
    have hx := List.getElem?_eq_getElem (show i < R.length by omega)
    rw [m_less, row_load hcs h]
    simp
    refine less_ok h hj hx ?_
    have hle := hmax i hij
    rw [Ky_some hx] at hle
    have : decide (x.used < R[i].used) = false := decide_eq_false (by omega)
    rw [this]
    simp
    unfold o_heap_up_k2
    simpa using hk
theorem down_ok {n i0 : Nat} {R0 : List Rec} (hcs : cs.length = 4) (h : H (RowL cb cs rowv R0 I0) σ) (hn : n ≤ R0.length) (hb : R0.length < 1099511627776) (hi0 : i0 ≤ n) (hex : HeapEx ku R0 n i0)
    (hk : ∀ (R' : List Rec) (i : Nat) σ', i0 ≤ i → R'.Perm R0 → HeapOk ku R' n → (∀ k, n ≤ k → R'[k]? = R0[k]?) → (i = i0 → R' = R0) → H (RowL cb cs rowv R' I0) σ' → Q (.bool (decide (i0 < i))) σ') :
    E f_heap_down [.iface t_p_cache_row (.pointer (some ⟨cb, 4, none⟩)), .int .i64 i0, .int .i64 n] σ Q := by
  apply o_heap_down_ev; unfold o_heap_down
  refine ⟨fun m x0 x1 x2 x7 τ => ∃ (R : List Rec) (i : Nat), m = n - i ∧ i ≤ n ∧ x0 = .iface t_p_cache_row (.pointer (some ⟨cb, 4, none⟩)) ∧ x1 = .int .i64 i0 ∧ x2 = .int .i64 n ∧ x7 = .int .i64 i ∧ R.Perm R0 ∧ HeapEx ku R n i ∧ (∀ k, n ≤ k → R[k]? = R0[k]?) ∧ i0 ≤ i ∧ (i = i0 → R = R0) ∧ H (RowL cb cs rowv R I0) τ,
    ⟨_, R0, i0, rfl, hi0, rfl, rfl, rfl, rfl, List.Perm.refl _, hex, fun _ _ => rfl, Nat.le_refl _, fun _ => rfl, h⟩, ?_⟩
  clear h hex
  rintro m _ _ _ _ τ ⟨R, i, rfl, hin, rfl, rfl, rfl, rfl, hp, hex, htl, hii, hsame, h⟩
  suffices hb : ∀ N : Value → Value → Value → Value → AHeap → Prop, (∀ R' j τ', i < j → j < n → R'.Perm R0 → HeapEx ku R' n j → (∀ k, n ≤ k → R'[k]? = R0[k]?) → H (RowL cb cs rowv R' I0) τ' → N (.iface t_p_cache_row (.pointer (some ⟨cb, 4, none⟩))) (.int .i64 i0) (.int .i64 n) (.int .i64 j) τ') →
      o_heap_down_b1 N Q (.iface t_p_cache_row (.pointer (some ⟨cb, 4, none⟩))) (.int .i64 i0) (.int .i64 n) (.int .i64 i) τ from
    hb _ fun R' j τ' h1 h2 a b c h' => ⟨_, by omega, R', j, rfl, by omega, rfl, rfl, rfl, rfl, a, b, c, by omega, fun e => by omega, h'⟩
  intro N hN
  have hRl := hp.length_eq
  have k5 : (∀ k, 0 < k → k < n → (k - 1) / 2 = i → Ky ku R i ≤ Ky ku R k) → ∀ τ', H (RowL cb cs rowv R I0) τ' → o_heap_down_k5 Q (.int .i64 i) (.int .i64 i0) τ' := by
    intro hmin τ' h'
    unfold o_heap_down_k5
    simp
    have e : decide ((i0 : Int) < (i : Int)) = decide (i0 < i) := by
      by_cases g : i0 < i
      · rw [decide_eq_true g, decide_eq_true (by omega)]
      · rw [decide_eq_false g, decide_eq_false (by omega)]
    have := hk R i τ' hii hp (hex.done hmin) htl hsame h'
    simpa [e] using this
  unfold o_heap_down_b1
  simp
  have w1 : IntKind.i64.wrap (2 * (i : Int)) = 2 * (i : Int) := wrap_i64 (by omega)
  have w2 : IntKind.i64.wrap (2 * (i : Int) + 1) = ((2 * i + 1 : Nat) : Int) := by rw [wrap_i64 (by omega)]; omega
  simp only [w1, w2]
  refine wG_dec (fun g => ?_) fun g => ?_
  · unfold o_heap_down_k4
    simp
    exact k5 (fun k h0 hk2 hp2 => by omega) τ h
  · have hlt : ¬ ((2 * i + 1 : Nat) : Int) < 0 := by omega
    rw [decide_eq_false hlt]
    unfold o_heap_down_k4
    simp only [wC_false, bin_add, pu_some, bin_lss]
    have w3 : IntKind.i64.wrap (((2 * i + 1 : Nat) : Int) + 1) = ((2 * i + 2 : Nat) : Int) := by rw [wrap_i64 (by omega)]; omega
    simp only [w3]
    have hj1 : 2 * i + 1 < n := by omega
    have x1 := List.getElem?_eq_getElem (show 2 * i + 1 < R.length by omega)
    have xi := List.getElem?_eq_getElem (show i < R.length by omega)
    -- with the least child
    have k10 : ∀ j, j < n → (j - 1) / 2 = i → 0 < j → (∀ k, 0 < k → k < n → (k - 1) / 2 = i → Ky ku R j ≤ Ky ku R k) → o_heap_down_k10 N Q (.iface t_p_cache_row (.pointer (some ⟨cb, 4, none⟩))) (.int .i64 j) (.int .i64 i) (.int .i64 i0) (.int .i64 n) τ := by
      intro j hjn hpj hj0 hmin
      have xj := List.getElem?_eq_getElem (show j < R.length by omega)
      unfold o_heap_down_k10
      rw [m_less, row_load hcs h]
      simp
      refine less_ok h xj xi ?_
      simp only [un_not, pu_some]
      by_cases hl : R[j].used < R[i].used
      · rw [decide_eq_true hl]
        simp
        rw [m_swap, row_load hcs h]
        simp
        refine swap_ok h xi xj ?_
        intro τ1 h1
        refine hN _ j τ1 (by omega) hjn ((swp_perm R (by omega) (by omega)).trans hp) (hex.step (by omega) hjn hpj hj0 hmin (by rw [Ky_some xj, Ky_some xi]; exact hl)) ?_ h1
        intro k hk2
        rw [swp_get (by omega) (by omega), if_neg (by omega), if_neg (by omega)]
        exact htl k hk2
      · rw [decide_eq_false hl]
        simp
        refine k5 (fun k h0 hk2 hp2 => ?_) τ h
        have := hmin k h0 hk2 hp2
        rw [Ky_some xj] at this
        rw [Ky_some xi]; omega
    by_cases h2 : 2 * i + 2 < n
    · rw [decide_eq_true (show ((2 * i + 2 : Nat) : Int) < (n : Int) by omega)]
      simp only [wG_true]
      have x2 := List.getElem?_eq_getElem (show 2 * i + 2 < R.length by omega)
      rw [m_less, row_load hcs h]
      simp only [Option.bind_some, pu_some]
      refine less_ok h x2 x1 ?_
      unfold o_heap_down_k9
      refine wC_dec (fun g2 => ?_) fun g2 => ?_
      · refine k10 (2 * i + 2) h2 (by omega) (by omega) ?_
        intro k h0 hk2 hp2
        rcases (show k = 2 * i + 1 ∨ k = 2 * i + 2 by omega) with rfl | rfl
        · rw [Ky_some x1, Ky_some x2]; omega
        · exact Nat.le_refl _
      · refine k10 (2 * i + 1) hj1 (by omega) (by omega) ?_
        intro k h0 hk2 hp2
        rcases (show k = 2 * i + 1 ∨ k = 2 * i + 2 by omega) with rfl | rfl
        · exact Nat.le_refl _
        · rw [Ky_some x1, Ky_some x2]; omega
    · rw [decide_eq_false (show ¬ ((2 * i + 2 : Nat) : Int) < (n : Int) by omega)]
      simp only [wG_false]
      unfold o_heap_down_k9
      simp only [wC_false]
      refine k10 (2 * i + 1) hj1 (by omega) (by omega) ?_
      intro k h0 hk2 hp2
      have : k = 2 * i + 1 := by omega
      rw [this]; exact Nat.le_refl _
end
end Go.Ax.O
set_option maxRecDepth 100000
namespace Go.Ax.O
open Go.Proofs Go.RowKit
variable {l m : List Assn} {σ : AHeap} {Q : WK}
section
variable {cb : Nat} {cs : List Value} {rowv : Value} {R : List Rec} {I0 : Assn}
abbrev hv (cb : Nat) : Value := .iface t_p_cache_row (.pointer (some ⟨cb, 4, none⟩))
theorem fix_ok {p : Nat} {x : Rec} (hcs : cs.length = 4) (h : H (RowL cb cs rowv R I0) σ) (hx : R[p]? = some x) (hb : R.length < 1099511627776) (hex : HeapEx ku R R.length p) (hmax : ∀ k, k < R.length → Ky ku R k ≤ x.used)
    (hk : ∀ R' σ', R'.Perm R → HeapOk ku R' R'.length → H (RowL cb cs rowv R' I0) σ' → Q (.tuple #[]) σ') : E f_heap_Fix [hv cb, .int .i64 p] σ Q := by
  have hpl := (List.getElem?_eq_some_iff.1 hx).1
  apply o_heap_Fix_ev; unfold o_heap_Fix
  rw [m_len, row_load hcs h]
  simp only [Option.bind_some, pu_some]
  refine len_ok h ?_
  refine down_ok hcs h (Nat.le_refl _) hb (by omega) hex ?_
  intro R' i σ1 hi hp hok _ hsame h1
  simp only [un_not, pu_some]
  have hl := hp.length_eq
  by_cases hlt : p < i
  · rw [decide_eq_true hlt]
    simp
    exact hk R' σ1 hp (by rw [hl]; exact hok) h1
  · have hip : i = p := by omega
    have hR := hsame hip
    subst hR
    rw [decide_eq_false hlt]
    simp
    refine up_ok hcs h1 hx hb (fun k hk => hmax k (by omega)) ?_
    exact hk R' σ1 hp hok h1
theorem hpush_ok {p : Nat} {x : Rec} (hcs : cs.length = 4) (h : H (RowL cb cs rowv R (Star [ItemA p x, I0])) σ) (hb : R.length < 1099511627775) (hmax : ∀ k, k < R.length → Ky ku R k ≤ x.used)
    (hk : ∀ rowv' σ', H (RowL cb cs rowv' (R ++ [x]) I0) σ' → Q (.tuple #[]) σ') : E f_heap_Push [hv cb, .iface t_p_cache_item (.pointer (some ⟨x.ib, 0, none⟩))] σ Q := by
  apply o_heap_Push_ev; unfold o_heap_Push
  rw [m_push]
  simp only [pu_some]
  refine pushm_ok hcs h (by omega) ?_
  intro rowv' σ1 h1
  rw [m_len, row_load hcs h1]
  simp only [Option.bind_some, pu_some]
  refine len_ok h1 ?_
  simp
  rw [wrap_i64 (by omega)]
  refine up_ok (x := x) hcs h1 (by simp) (by simp; omega) (fun k hk => ?_) (hk rowv' σ1 h1)
  have := hmax k hk
  unfold Ky at this ⊢
  rw [List.getElem?_append_left hk]; exact this
theorem hpop_ok {n : Nat} {x : Rec} (hcs : cs.length = 4) (h : H (RowL cb cs rowv R I0) σ) (hn : R.length = n + 1) (hx : R[0]? = some x) (hb : R.length < 1099511627776) (hok : HeapOk ku R (n + 1))
    (hk : ∀ rowv' R' σ', (R' ++ [x]).Perm R → HeapOk ku R' R'.length → H (RowL cb cs rowv' R' (Star [ItemA n x, I0])) σ' → Q (.iface t_p_cache_item (.pointer (some ⟨x.ib, 0, none⟩))) σ') : E f_heap_Pop [hv cb] σ Q := by
  apply o_heap_Pop_ev; unfold o_heap_Pop
  rw [m_len, row_load hcs h]
  simp only [Option.bind_some, pu_some]
  refine len_ok h ?_
  simp only [bin_sub, pu_some]
  rw [wrap_i64 (by omega), show (R.length : Int) - 1 = (n : Int) by omega, m_swap, row_load hcs h]
  simp only [Option.bind_some, pu_some]
  have hy := List.getElem?_eq_getElem (show n < R.length by omega)
  refine swap_ok (i := 0) h hx hy ?_
  intro σ1 h1
  have hsl := swp_length R 0 n
  refine down_ok (i0 := 0) hcs h1 (by rw [hsl]; omega) (by rw [hsl]; exact hb) (by omega) (hok.pop (by omega)) ?_
  intro R' i σ2 _ hp hok2 htl _ h2
  rw [m_pop]
  simp only [pu_some]
  have hl : R'.length = n + 1 := by rw [hp.length_eq, hsl, hn]
  have hx2 : R'[n]? = some x := by rw [htl n (Nat.le_refl _), swp_get (by omega) (by omega), if_pos rfl, hx]
  refine popm_ok hcs h2 hl hx2 (by omega) ?_
  intro rowv' σ3 h3
  refine hk rowv' (R'.take n) σ3 ?_ ?_ h3
  · have e : R'.take n ++ [x] = R' := by
      have h5 : R'.take (n + 1) = R'.take n ++ [x] := by rw [List.take_add_one, hx2]; rfl
      rw [← h5, ← hl, List.take_length]
    rw [e]
    exact hp.trans (swp_perm R (by omega) (by omega))
  · rw [List.length_take, Nat.min_eq_left (by omega)]
    refine hok2.congr fun k hk => ?_
    rw [List.getElem?_take, if_pos hk]
end
abbrev Ent := Nat × Value × Nat
def ent (e : Ent) : MapEntry := { key := .int .i64 e.1, val := e.2.1, born := e.2.2 }
theorem find_no (a : Nat) : ∀ (es : List Ent) (i : Nat), (∀ e ∈ es, e.1 ≠ a) → Instr.findNow (.int .i64) (.int .i64 a) (es.map ent) i = some none
  | [], i, _ => rfl
  | e :: es, i, h => by
    have h1 : e.1 ≠ a := h e (by simp)
    have : Instr.sameNow (.int .i64) (.int .i64 a) (ent e).key = some false := by
      simp [Instr.sameNow, ent]; omega
    simp only [List.map_cons, Instr.findNow, this]
    exact find_no a es (i + 1) fun x hx => h x (by simp [hx])
theorem find_yes (a : Nat) : ∀ (es : List Ent) (i k : Nat) (e : Ent), (es.map (·.1)).Nodup → es[k]? = some e → e.1 = a → Instr.findNow (.int .i64) (.int .i64 a) (es.map ent) i = some (some (i + k, e.2.1))
  | [], i, k, e, _, h, _ => by simp at h
  | x :: es, i, 0, e, _, h, h1 => by
    simp at h; subst h; subst h1
    have : Instr.sameNow (.int .i64) (.int .i64 (x.1 : Nat)) (ent x).key = some true := by simp [Instr.sameNow, ent]
    simp only [List.map_cons, Instr.findNow, this]
    simp [ent]
  | x :: es, i, k + 1, e, hn, h, h1 => by
    simp at h
    simp only [List.map_cons, List.nodup_cons] at hn
    have hx : x.1 ≠ a := by
      intro e2
      exact hn.1 (List.mem_map.2 ⟨e, List.mem_of_getElem? h, by rw [h1, e2]⟩)
    have : Instr.sameNow (.int .i64) (.int .i64 a) (ent x).key = some false := by
      simp [Instr.sameNow, ent]; omega
    simp only [List.map_cons, Instr.findNow, this]
    rw [find_yes a es (i + 1) k e hn.2 h h1]
    congr 3; omega
theorem map_get {b clock : Nat} {es : List MapEntry} (hm : H (pt b (.map es clock) :: m) σ) : aEntries (.map (some b)) σ = some es := by
  simp [aEntries, hm.get0.1]
theorem lookup_eq (x k : Value) (ok : Bool) (σ : AHeap) : aLookup P t_m_int_p_cache_item x k ok σ = (aEntries x σ).bind fun es => (aFind (.int .i64) k es).bind fun r => match r with
      | some (_, v) => some (okV ok v true)
      | none => some (okV ok (.pointer none) false) := by kernel_rfl
theorem update_eq (r : Nat) (k v : Value) (σ : AHeap) : aMapUpdate P t_m_int_p_cache_item (.map (some r)) k v σ = match σ.get r with
    | some (.map es clock) => cond (keyV k) ((aFind (.int .i64) k es).bind fun f => match f with
      | some (i, _) => some (σ.set r (.map (es.modify i fun e => { e with key := k, val := v }) clock))
      | none => some (σ.set r (.map (es ++ [{ key := k, val := v, born := clock }]) (clock + 1)))) none
    | _ => none := by kernel_rfl
theorem delete_eq (r : Nat) (k : Value) (σ : AHeap) : aDelete P t_m_int_p_cache_item (.map (some r)) k σ = match σ.get r with
    | some (.map es clock) => (aFind (.int .i64) k es).bind fun f => match f with
      | some (i, _) => some (σ.set r (.map (es.eraseIdx i) clock))
      | none => some (σ.set r (.map es clock))
    | _ => none := by kernel_rfl
structure MapFor (es : List Ent) (L : List (Nat × Nat)) : Prop where
  nd : (es.map (·.1)).Nodup
  to : ∀ e ∈ es, ∃ p ∈ L, e.1 = p.1 ∧ e.2.1 = .pointer (some ⟨p.2, 0, none⟩)
  from' : ∀ p ∈ L, ∃ e ∈ es, e.1 = p.1 ∧ e.2.1 = .pointer (some ⟨p.2, 0, none⟩)
theorem MapFor.perm {es : List Ent} {L M : List (Nat × Nat)} (h : MapFor es L) (hp : L.Perm M) : MapFor es M :=
  ⟨h.nd, fun e he => by obtain ⟨p, hp1, hp2⟩ := h.to e he; exact ⟨p, hp.mem_iff.1 hp1, hp2⟩, fun p hp1 => h.from' p (hp.mem_iff.2 hp1)⟩
def MapA (mb : Nat) (L : List (Nat × Nat)) : Assn := ex fun p : List Ent × Nat => sep (pure' (MapFor p.1 L)) (pt mb (.map (p.1.map ent) p.2))
theorem mapA_perm {mb : Nat} {L M : List (Nat × Nat)} (hp : L.Perm M) : MapA mb L = MapA mb M := by
  funext r; apply propext
  constructor
  · rintro ⟨p, a, b, j, ⟨rfl, h1⟩, h2⟩; exact ⟨p, _, b, j, ⟨rfl, h1.perm hp⟩, h2⟩
  · rintro ⟨p, a, b, j, ⟨rfl, h1⟩, h2⟩; exact ⟨p, _, b, j, ⟨rfl, h1.perm hp.symm⟩, h2⟩
theorem lookup_no {mb a i : Nat} {L : List (Nat × Nat)} (ok : Bool) (h : H l σ) (hi : l[i]? = some (MapA mb L)) (hno : ∀ p ∈ L, p.1 ≠ a) : aLookup P t_m_int_p_cache_item (.map (some mb)) (.int .i64 a) ok σ = some (okV ok (.pointer none) false) := by
  obtain ⟨⟨es, clock⟩, h1⟩ := H_ex.1 (h.front i hi)
  rw [H_sep] at h1
  obtain ⟨hm, h2⟩ := H_pure.1 h1
  rw [lookup_eq, map_get h2]
  simp only [Option.bind_some, aFind, keyD, cond_true]
  rw [find_no a es 0 fun e he => by obtain ⟨p, hp, e1, _⟩ := hm.to e he; rw [e1]; exact hno p hp]
  rfl
theorem lookup_yes {mb i : Nat} {L : List (Nat × Nat)} {p : Nat × Nat} (ok : Bool) (h : H l σ) (hi : l[i]? = some (MapA mb L)) (hp : p ∈ L) : aLookup P t_m_int_p_cache_item (.map (some mb)) (.int .i64 p.1) ok σ = some (okV ok (.pointer (some ⟨p.2, 0, none⟩)) true) := by
  obtain ⟨⟨es, clock⟩, h1⟩ := H_ex.1 (h.front i hi)
  rw [H_sep] at h1
  obtain ⟨hm, h2⟩ := H_pure.1 h1
  rw [lookup_eq, map_get h2]
  simp only [Option.bind_some, aFind, keyD, cond_true]
  obtain ⟨e, he, e1, e2⟩ := hm.from' p hp
  obtain ⟨k, hk, hke⟩ := List.getElem_of_mem he
  rw [find_yes p.1 es 0 k e hm.nd (by rw [List.getElem?_eq_getElem hk, hke]) e1, e2]
  rfl
theorem update_new {mb a ib i : Nat} {L : List (Nat × Nat)} {k : AHeap → Prop} (h : H l σ) (hi : l[i]? = some (MapA mb L)) (hno : ∀ p ∈ L, p.1 ≠ a) (hk : ∀ σ', H (l.set i (MapA mb (L ++ [(a, ib)]))) σ' → k σ') :
    pu (aMapUpdate P t_m_int_p_cache_item (.map (some mb)) (.int .i64 a) (.pointer (some ⟨ib, 0, none⟩)) σ) k := by
  obtain ⟨⟨es, clock⟩, h1⟩ := H_ex.1 (h.front i hi)
  rw [H_sep] at h1
  obtain ⟨hm, h2⟩ := H_pure.1 h1
  have hm : MapFor es L := hm
  rw [update_eq, h2.get0.1]
  simp only [keyV, cond_true, aFind, keyD]
  have hne : ∀ e ∈ es, e.1 ≠ a := fun e he => by obtain ⟨p, hp, e1, _⟩ := hm.to e he; rw [e1]; exact hno p hp
  rw [find_no a es 0 hne]
  simp only [Option.bind_some, pu_some]
  have h3 := h2.set0 (.map ((es ++ [((a, .pointer (some ⟨ib, 0, none⟩), clock) : Ent)]).map ent) (clock + 1))
  refine hk _ (H.back i hi (H_ex.2 ⟨(es ++ [(a, .pointer (some ⟨ib, 0, none⟩), clock)], clock + 1), ?_⟩))
  rw [H_sep]
  refine H_pure.2 ⟨⟨?_, ?_, ?_⟩, ?_⟩
  · simp only [List.map_append, List.map_cons, List.map_nil]
    rw [List.nodup_append]
    refine ⟨hm.nd, by simp, ?_⟩
    intro x hx y hy
    simp at hy; subst hy
    obtain ⟨e, he, rfl⟩ := List.mem_map.1 hx
    exact hne e he
  · intro e he
    rcases List.mem_append.1 he with he | he
    · obtain ⟨p, hp, hpe⟩ := hm.to e he
      exact ⟨p, List.mem_append_left _ hp, hpe⟩
    · simp at he; subst he
      exact ⟨(a, ib), by simp, rfl, rfl⟩
  · intro p hp
    rcases List.mem_append.1 hp with hp | hp
    · obtain ⟨e, he, hpe⟩ := hm.from' p hp
      exact ⟨e, List.mem_append_left _ he, hpe⟩
    · simp at hp; subst hp
      exact ⟨(a, .pointer (some ⟨ib, 0, none⟩), clock), by simp, rfl, rfl⟩
  · simpa [ent] using h3
theorem map_erase {α β : Type} (f : α → β) : ∀ (l : List α) (j : Nat), (l.eraseIdx j).map f = (l.map f).eraseIdx j
  | [], j => by simp
  | x :: l, 0 => by simp
  | x :: l, j + 1 => by simp [map_erase f l j]
theorem delete_yes {mb i : Nat} {L : List (Nat × Nat)} {p : Nat × Nat} {k : AHeap → Prop} (h : H l σ) (hi : l[i]? = some (MapA mb (L ++ [p]))) (hno : ∀ q ∈ L, q.1 ≠ p.1) (hk : ∀ σ', H (l.set i (MapA mb L)) σ' → k σ') :
    pu (aDelete P t_m_int_p_cache_item (.map (some mb)) (.int .i64 p.1) σ) k := by
  obtain ⟨⟨es, clock⟩, h1⟩ := H_ex.1 (h.front i hi)
  rw [H_sep] at h1
  obtain ⟨hm, h2⟩ := H_pure.1 h1
  have hm : MapFor es (L ++ [p]) := hm
  rw [delete_eq, h2.get0.1]
  simp only [aFind, keyD, cond_true]
  obtain ⟨e, he, e1, e2⟩ := hm.from' p (by simp)
  obtain ⟨j, hj, hje⟩ := List.getElem_of_mem he
  rw [find_yes p.1 es 0 j e hm.nd (by rw [List.getElem?_eq_getElem hj, hje]) e1]
  simp only [Option.bind_some, pu_some, Nat.zero_add]
  have h3 := h2.set0 (.map ((es.eraseIdx j).map ent) clock)
  refine hk _ (H.back i hi (H_ex.2 ⟨(es.eraseIdx j, clock), ?_⟩))
  rw [H_sep]
  have hsub : ∀ x ∈ es.eraseIdx j, x ∈ es ∧ x.1 ≠ p.1 := by
    intro x hx
    have hxe := List.mem_of_mem_eraseIdx hx
    refine ⟨hxe, fun e3 => ?_⟩
    obtain ⟨k, hk, hkj⟩ := List.mem_eraseIdx_iff_getElem.1 hx
    have h5 : (es.map (·.1))[k]'(by simpa using hk) = (es.map (·.1))[j]'(by simpa using hj) := by
      simp only [List.getElem_map, hkj.2, hje, e3, e1]
    exact hkj.1 ((List.getElem_inj hm.nd).1 h5)
  refine H_pure.2 ⟨⟨?_, ?_, ?_⟩, ?_⟩
  · rw [map_erase]
    exact hm.nd.sublist (List.eraseIdx_sublist _ _)
  · intro x hx
    obtain ⟨hxe, hxn⟩ := hsub x hx
    obtain ⟨q, hq, hq1, hq2⟩ := hm.to x hxe
    rcases List.mem_append.1 hq with hq | hq
    · exact ⟨q, hq, hq1, hq2⟩
    · simp at hq; subst hq; exact absurd hq1 hxn
  · intro q hq
    obtain ⟨x, hx, hx1, hx2⟩ := hm.from' q (List.mem_append_left _ hq)
    refine ⟨x, ?_, hx1, hx2⟩
    obtain ⟨k, hk, hkx⟩ := List.getElem_of_mem hx
    refine List.mem_eraseIdx_iff_getElem.2 ⟨k, hk, ?_, hkx⟩
    intro e3
    subst e3
    have : x = e := by rw [← hkx, ← hje]
    exact hno q hq (by rw [← hx1, this, e1])
  · rw [map_erase]  at h3
    rw [map_erase]; exact h3
end Go.Ax.O
set_option maxRecDepth 100000
namespace Go.Ax.O
open Go.Proofs Go.RowKit
variable {l m : List Assn} {σ : AHeap} {Q : WK}
theorem perm_set {α : Type} {R A B : List α} {k : Nat} {x y : α} (hk : R[k]? = some x) (hp : R.Perm (A ++ x :: B)) : (R.set k y).Perm (A ++ y :: B) := by
  have hlt := (List.getElem?_eq_some_iff.1 hk).1
  have e1 : R = R.take k ++ x :: R.drop (k + 1) := by
    have := List.getElem_cons_drop hlt
    rw [(List.getElem?_eq_some_iff.1 hk).2] at this
    rw [this, List.take_append_drop]
  have e2 : R.set k y = R.take k ++ y :: R.drop (k + 1) := by
    rw [List.set_eq_take_append_cons_drop, if_pos hlt]
  rw [e2]
  rw [e1] at hp
  have h1 := (List.perm_middle.symm.trans hp).trans List.perm_middle
  have h2 := h1.cons_inv
  exact (List.perm_middle.trans (h2.cons y)).trans List.perm_middle.symm
def pairs (R : List Rec) : List (Nat × Nat) := R.map fun r => (r.pl, r.ib)
structure COk (R M : List Rec) (now : Nat) : Prop where
  perm : R.Perm M
  srt : M.Pairwise fun a b => a.used < b.used
  le : ∀ r ∈ M, r.used ≤ now
  heap : HeapOk ku R R.length
  nd : (M.map (·.pl)).Nodup
theorem COk.top {R M : List Rec} {now : Nat} {x : Rec} (h : COk R (x :: M) now) : R[0]? = some x := by
  have hl := h.perm.length_eq
  have h0 := List.getElem?_eq_getElem (show 0 < R.length by rw [hl]; simp)
  have hm : R[0]'(by rw [hl]; simp) ∈ x :: M := h.perm.mem_iff.1 (List.getElem_mem _)
  rcases List.mem_cons.1 hm with e | hm
  · rw [h0, e]
  · exfalso
    have hs := List.pairwise_cons.1 h.srt
    have h1 := hs.1 _ hm
    have hx : x ∈ R := h.perm.mem_iff.2 (by simp)
    obtain ⟨k, hk, hkx⟩ := List.getElem_of_mem hx
    have h2 := h.heap.top k hk
    rw [Ky_some h0, Ky_some (x := x) (by rw [List.getElem?_eq_getElem hk, hkx])] at h2
    omega
theorem COk.use {R R' A B : List Rec} {x x' : Rec} {now : Nat} (h : COk R (A ++ x :: B) now) (hu : x'.used = now + 1) (hpl : x'.pl = x.pl) (hp : R'.Perm (A ++ x' :: B)) (hok : HeapOk ku R' R'.length) : COk R' (A ++ B ++ [x']) (now + 1) := by
  have hs := h.srt
  have hsub : (A ++ B).Sublist (A ++ x :: B) := List.Sublist.append (List.Sublist.refl _) (List.sublist_cons_self _ _)
  refine ⟨?_, ?_, ?_, hok, ?_⟩
  · refine hp.trans ?_
    rw [List.append_assoc]
    exact List.Perm.append_left A (by simpa using (List.perm_append_comm (l₁ := [x']) (l₂ := B)))
  · rw [List.pairwise_append]
    refine ⟨hs.sublist hsub, List.pairwise_singleton _ _, ?_⟩
    intro a ha b hb
    simp at hb; subst hb
    have := h.le a (hsub.subset ha)
    omega
  · intro r hr
    rcases List.mem_append.1 hr with hr | hr
    · have := h.le r (hsub.subset hr); omega
    · simp at hr; subst hr; omega
  · have h1 := h.nd
    simp only [List.map_append, List.map_cons, List.map_nil] at h1 ⊢
    rw [hpl]
    refine (List.Perm.nodup_iff ?_).1 h1
    rw [List.append_assoc]
    exact List.Perm.append_left _ (by simpa using (List.perm_append_comm (l₁ := [x.pl]) (l₂ := B.map (·.pl))))
theorem COk.new {R R' M : List Rec} {x : Rec} {now : Nat} (h : COk R M now) (hu : x.used = now + 1) (hpl : ∀ r ∈ M, r.pl ≠ x.pl) (hp : R'.Perm (M ++ [x])) (hok : HeapOk ku R' R'.length) : COk R' (M ++ [x]) (now + 1) := by
  refine ⟨hp, ?_, ?_, hok, ?_⟩
  · rw [List.pairwise_append]
    refine ⟨h.srt, List.pairwise_singleton _ _, ?_⟩
    intro a ha b hb
    simp at hb; subst hb
    have := h.le a ha
    omega
  · intro r hr
    rcases List.mem_append.1 hr with hr | hr
    · have := h.le r hr; omega
    · simp at hr; subst hr; omega
  · simp only [List.map_append, List.map_cons, List.map_nil]
    rw [List.nodup_append]
    refine ⟨h.nd, by simp, ?_⟩
    intro a ha b hb
    simp at hb; subst hb
    obtain ⟨r, hr, rfl⟩ := List.mem_map.1 ha
    exact hpl r hr
theorem COk.out {R R' M : List Rec} {x : Rec} {now : Nat} (h : COk R (x :: M) now) (hp : (R' ++ [x]).Perm R) (hok : HeapOk ku R' R'.length) : COk R' M now := by
  refine ⟨?_, (List.pairwise_cons.1 h.srt).2, fun r hr => h.le r (by simp [hr]), hok, ?_⟩
  · have h1 : (x :: R').Perm (x :: M) := ((List.perm_append_comm (l₁ := [x]) (l₂ := R')).trans hp).trans h.perm
    exact h1.cons_inv
  · have := h.nd
    simp only [List.map_cons, List.nodup_cons] at this
    exact this.2
theorem COk.mod {R A B : List Rec} {x y : Rec} {k now : Nat} (h : COk R (A ++ x :: B) now) (hk : R[k]? = some x) (hu : y.used = x.used) (hpl : y.pl = x.pl) : COk (R.set k y) (A ++ y :: B) now := by
  have hlt := (List.getElem?_eq_some_iff.1 hk).1
  refine ⟨perm_set hk h.perm, ?_, ?_, ?_, ?_⟩
  · have hs := h.srt
    rw [List.pairwise_append, List.pairwise_cons] at hs ⊢
    obtain ⟨a, ⟨b, c⟩, d⟩ := hs
    refine ⟨a, ⟨fun z hz => by rw [hu]; exact b z hz, c⟩, fun z hz w hw => ?_⟩
    rcases List.mem_cons.1 hw with rfl | hw
    · rw [hu]; exact d z hz x (by simp)
    · exact d z hz w (by simp [hw])
  · intro r hr
    rcases List.mem_append.1 hr with hr | hr
    · exact h.le r (by simp [hr])
    · rcases List.mem_cons.1 hr with rfl | hr
      · rw [hu]; exact h.le x (by simp)
      · exact h.le r (by simp [hr])
  · have e : ∀ j, Ky ku (R.set k y) j = Ky ku R j := by
      intro j
      unfold Ky
      rw [List.getElem?_set]
      by_cases e : k = j
      · subst e; rw [if_pos rfl, if_pos hlt, hk]; simp only [Option.map_some, Option.getD_some]; exact hu
      · rw [if_neg e]
    rw [List.length_set]
    intro j h0 hj
    rw [e, e]; exact h.heap j h0 hj
  · have := h.nd
    simp only [List.map_append, List.map_cons] at this ⊢
    rw [hpl]; exact this
end Go.Ax.O
set_option maxRecDepth 100000
namespace Go.Ax.O
open Go.Proofs Go.RowKit
variable {l m : List Assn} {σ : AHeap} {Q : WK}
def CO (cb : Nat) (dv : Value) (nn now mb : Nat) (rowv : Value) (R M : List Rec) (I0 : Assn) : List Assn :=
  [pt cb (.cells [dv, .int .i64 nn, .int .u64 now, .map (some mb), rowv] t_cache_Cache false), Own t_p_cache_item 1 rowv R.length (ptrs R), Star (itemsL 0 R), MapA mb (pairs M), I0]
section
variable {cb nn now mb : Nat} {dv rowv : Value} {R M : List Rec} {I0 : Assn}
abbrev c4 (dv : Value) (nn now mb : Nat) : List Value := [dv, .int .i64 nn, .int .u64 now, .map (some mb)]
theorem co_row : H (CO cb dv nn now mb rowv R M I0) σ ↔ H (RowL cb (c4 dv nn now mb) rowv R (Star [MapA mb (pairs M), I0])) σ := by
  constructor
  · intro h
    have h1 : H [MapA mb (pairs M), I0, pt cb (.cells (c4 dv nn now mb ++ [rowv]) t_cache_Cache false), Own t_p_cache_item 1 rowv R.length (ptrs R), Star (itemsL 0 R)] σ := h.pick [3, 4, 0, 1, 2] (by decide)
    exact ((H_star (l := [MapA mb (pairs M), I0])).2 h1).pick [1, 2, 3, 0] (by decide)
  · intro h
    have h1 : H [Star [MapA mb (pairs M), I0], pt cb (.cells (c4 dv nn now mb ++ [rowv]) t_cache_Cache false), Own t_p_cache_item 1 rowv R.length (ptrs R), Star (itemsL 0 R)] σ := h.pick [3, 0, 1, 2] (by decide)
    exact ((H_star (l := [MapA mb (pairs M), I0])).1 h1).pick [2, 3, 4, 0, 1] (by decide)
theorem co_perm {M' : List Rec} (hp : (pairs M).Perm (pairs M')) : CO cb dv nn now mb rowv R M I0 = CO cb dv nn now mb rowv R M' I0 := by
  unfold CO; rw [mapA_perm hp]
theorem use_k7 {k : Nat} {x : Rec} (h : H (CO cb dv nn now mb rowv R M I0) σ) (hk : R[k]? = some x) (hle : ∀ r ∈ R, r.used ≤ now) (hok : HeapOk ku R R.length) (hb : R.length < 1099511627776)
    (hQ : ∀ R' σ', R'.Perm (R.set k { x with used := now }) → HeapOk ku R' R'.length → H (CO cb dv nn now mb rowv R' M I0) σ' → Q (.pointer (some ⟨x.ib, 0, none⟩)) σ') : o_cache_Cache_use_k7 Q (.pointer (some ⟨x.ib, 0, none⟩)) (.pointer (some ⟨cb, 0, none⟩)) σ := by
  have hkl := (List.getElem?_eq_some_iff.1 hk).1
  unfold o_cache_Cache_use_k7
  have r2 := load1 (n := 1) (o := 2) (h.row 0 rfl)
  simp [r2]
  have h1 := item_out (h.pick [2, 0, 1, 3, 4] (by decide)) hk
  unfold ItemA at h1
  rw [H_sep] at h1
  refine store1 h1 0 rfl rfl (by simp) ?_
  intro σ1 h2
  rw [i_160 _ rfl]
  simp
  have r1 := load1 (n := 1) (o := 1) (h2.row 0 rfl)
  simp [r1]
  have h3 := item_in (r := { x with used := now }) hkl (H_sep.2 h2)
  have h4 : H (CO cb dv nn now mb rowv (R.set k { x with used := now }) M I0) σ1 := by
    have h5 := h3.pick [1, 2, 0, 3, 4] (by decide)
    have e : ptrs (R.set k { x with used := now }) = ptrs R := by
      unfold ptrs
      rw [List.map_set]
      apply List.ext_getElem?
      intro j
      rw [List.getElem?_set]
      split
      · rename_i e; subst e
        rw [List.length_map, if_pos hkl, List.getElem?_map, hk]; rfl
      · rfl
    unfold CO
    rw [e, List.length_set]
    exact h5
  have hx : (R.set k { x with used := now })[k]? = some { x with used := now } := by rw [List.getElem?_set, if_pos rfl, if_pos hkl]
  have hxle := hle x (List.mem_of_getElem? hk)
  refine fix_ok (cs := c4 dv nn now mb) rfl (co_row.1 h4) hx (by simpa using hb) ?_ ?_ ?_
  · rw [List.length_set]
    exact hok.grow hkl (by rw [Ky_some hk]; exact hxle)
  · intro j hj
    obtain ⟨y, hy⟩ : ∃ y, (R.set k { x with used := now })[j]? = some y := ⟨_, List.getElem?_eq_getElem hj⟩
    rw [Ky_some hy]
    have hym := List.mem_of_getElem? hy
    rcases List.mem_or_eq_of_mem_set hym with q | q
    · exact hle y q
    · rw [q]; exact Nat.le_refl _
  · intro R' σ2 hp hok2 h5
    exact hQ R' σ2 hp hok2 (co_row.2 h5)
theorem use_yes {A B : List Rec} {x : Rec} (h : H (CO cb dv nn now mb rowv R (A ++ x :: B) I0) σ) (hc : COk R (A ++ x :: B) now) (hnow : now + 1 < 18446744073709551616) (hb : R.length < 1099511627776)
    (hQ : ∀ R' σ', COk R' (A ++ B ++ [{ x with used := now + 1 }]) (now + 1) → H (CO cb dv nn (now + 1) mb rowv R' (A ++ B ++ [{ x with used := now + 1 }]) I0) σ' → Q (.pointer (some ⟨x.ib, 0, none⟩)) σ') :
    E f_cache_Cache_use [.pointer (some ⟨cb, 0, none⟩), .int .i64 x.pl] σ Q := by
  apply o_cache_Cache_use_ev; unfold o_cache_Cache_use
  have r2 := load1 (n := 1) (o := 2) (h.row 0 rfl)
  simp [r2]
  rw [wrap_u64 (by omega)]
  refine store1 h 0 rfl rfl (by simp) ?_
  intro σ1 h1
  have r3 := load1 (n := 1) (o := 3) (h1.row 0 rfl)
  simp [r3]
  have hl := lookup_yes (p := (x.pl, x.ib)) true h1 (i := 3) rfl (by simp [pairs])
  simp only at hl
  rw [hl]
  simp [okV]
  have hm : x ∈ R := hc.perm.mem_iff.2 (by simp)
  obtain ⟨k, hk, hkx⟩ := List.getElem_of_mem hm
  have hk' : R[k]? = some x := by rw [List.getElem?_eq_getElem hk, hkx]
  have h2 : H (CO cb dv nn (now + 1) mb rowv R (A ++ x :: B) I0) σ1 := h1
  refine use_k7 h2 hk' (fun r hr => by have := hc.le r (hc.perm.mem_iff.1 hr); omega) hc.heap hb ?_
  intro R' σ2 hp hok h3
  have hp2 := hp.trans (perm_set (y := { x with used := now + 1 }) hk' hc.perm)
  refine hQ R' σ2 (hc.use rfl rfl hp2 hok) ?_
  rw [co_perm (M' := A ++ x :: B)]
  · exact h3
  · unfold pairs
    simp only [List.map_append, List.map_cons, List.map_nil, List.append_assoc]
    exact List.Perm.append_left _ (by simp)
theorem use_no {a : Nat} (h : H (CO cb dv nn now mb rowv R M I0) σ) (hc : COk R M now) (hno : ∀ r ∈ M, r.pl ≠ a) (hnow : now + 1 < 18446744073709551616) (hb : R.length < 1099511627775)
    (hQ : ∀ rowv' R' ib σ', COk R' (M ++ [⟨ib, a, now + 1, false, .slice none 0 0, []⟩]) (now + 1) → H (CO cb dv nn (now + 1) mb rowv' R' (M ++ [⟨ib, a, now + 1, false, .slice none 0 0, []⟩]) I0) σ' → Q (.pointer (some ⟨ib, 0, none⟩)) σ') :
    E f_cache_Cache_use [.pointer (some ⟨cb, 0, none⟩), .int .i64 a] σ Q := by
  apply o_cache_Cache_use_ev; unfold o_cache_Cache_use
  have r2 := load1 (n := 1) (o := 2) (h.row 0 rfl)
  simp [r2]
  rw [wrap_u64 (by omega)]
  refine store1 h 0 rfl rfl (by simp) ?_
  intro σ1 h1
  have r3 := load1 (n := 1) (o := 3) (h1.row 0 rfl)
  have r2 := load1 (n := 1) (o := 2) (h1.row 0 rfl)
  simp [r3]
  have hnp : ∀ p ∈ pairs M, p.1 ≠ a := by
    intro p hp
    obtain ⟨r, hr, rfl⟩ := List.mem_map.1 hp
    exact hno r hr
  have hl := lookup_no (a := a) true h1 (i := 3) rfl hnp
  rw [hl]
  simp [okV, r2, splice]
  refine new_ok h1 ?_
  intro ib σ2 h2
  have r3 := load1 (n := 1) (o := 3) (h2.row 0 rfl)
  simp [r3]
  refine update_new h2 (i := 3) rfl hnp ?_
  intro σ3 h3
  rw [i_160 _ rfl, i_121 _ rfl]
  simp
  let x : Rec := ⟨ib, a, now + 1, false, .slice none 0 0, []⟩
  have e1 : pairs M ++ [(a, ib)] = pairs (M ++ [x]) := by simp [pairs, x]
  rw [e1] at h3
  have h4 : H (RowL cb (c4 dv nn (now + 1) mb) rowv R (Star [ItemA 0 x, Star [MapA mb (pairs (M ++ [x])), I0]])) σ3 := by
    have h5 : H [ItemA 0 x, Star [MapA mb (pairs (M ++ [x])), I0], pt cb (.cells (c4 dv nn (now + 1) mb ++ [rowv]) t_cache_Cache false), Own t_p_cache_item 1 rowv R.length (ptrs R), Star (itemsL 0 R)] σ3 := by
      have h6 : H [MapA mb (pairs (M ++ [x])), I0, pt cb (.cells (c4 dv nn (now + 1) mb ++ [rowv]) t_cache_Cache false), Own t_p_cache_item 1 rowv R.length (ptrs R), Star (itemsL 0 R), pt ib (.cells [.int .i64 a, .int .i64 0, .int .u64 (now + 1), .bool false, .slice none 0 0] t_cache_item false)] σ3 := h3.pick [3, 4, 0, 1, 2, 5] (by decide)
      have h7 := (H_star (l := [MapA mb (pairs (M ++ [x])), I0])).2 h6
      have h8 : H [pt ib (.cells [.int .i64 a, .int .i64 0, .int .u64 (now + 1), .bool false, .slice none 0 0] t_cache_item false), Star [MapA mb (pairs (M ++ [x])), I0], pt cb (.cells (c4 dv nn (now + 1) mb ++ [rowv]) t_cache_Cache false), Own t_p_cache_item 1 rowv R.length (ptrs R), Star (itemsL 0 R)] σ3 := h7.pick [4, 0, 1, 2, 3] (by decide)
      have hB : Ax.H (BytesV (.slice none 0 0) [] :: [pt ib (.cells [.int .i64 a, .int .i64 0, .int .u64 (now + 1), .bool false, .slice none 0 0] t_cache_item false), Star [MapA mb (pairs (M ++ [x])), I0], pt cb (.cells (c4 dv nn (now + 1) mb ++ [rowv]) t_cache_Cache false), Own t_p_cache_item 1 rowv R.length (ptrs R), Star (itemsL 0 R)]) σ3 :=
        (H_pure.2 ⟨⟨rfl, rfl⟩, h8⟩ : H (pure' (Value.slice none 0 0 = .slice none 0 0 ∧ ([] : List UInt8) = []) :: _) σ3).map0 fun r hr => .inl hr
      unfold ItemA
      rw [H_sep]
      exact hB.pick [1, 0, 2, 3, 4, 5] (by decide)
    exact ((H_star (l := [ItemA 0 x, Star [MapA mb (pairs (M ++ [x])), I0]])).2 h5).pick [1, 2, 3, 0] (by decide)
  have hleR : ∀ r ∈ R, r.used ≤ now := fun r hr => hc.le r (hc.perm.mem_iff.1 hr)
  refine hpush_ok (cs := c4 dv nn (now + 1) mb) (x := x) rfl h4 hb ?_ ?_
  · intro k hk
    rw [Ky_some (List.getElem?_eq_getElem hk)]
    have := hleR _ (List.getElem_mem hk)
    show _ ≤ now + 1
    omega
  · intro rowv' σ4 h5
    have h6 : H (CO cb dv nn (now + 1) mb rowv' (R ++ [x]) (M ++ [x]) I0) σ4 := co_row.2 h5
    have hx : (R ++ [x])[R.length]? = some x := by simp
    have hheap : HeapOk ku (R ++ [x]) (R ++ [x]).length := by
      intro k h0 hk
      simp only [List.length_append, List.length_cons, List.length_nil] at hk
      by_cases e : k = R.length
      · subst e
        rw [Ky_some hx]
        have hp : (R.length - 1) / 2 < R.length := by omega
        rw [Ky_some (x := R[(R.length - 1) / 2]) (by rw [List.getElem?_append_left hp, List.getElem?_eq_getElem hp])]
        have := hleR _ (List.getElem_mem hp)
        show _ ≤ now + 1
        omega
      · have := hc.heap k h0 (by omega)
        unfold Ky at this ⊢
        rw [List.getElem?_append_left (by omega), List.getElem?_append_left (by omega)]
        exact this
    refine use_k7 h6 hx ?_ hheap (by simp; omega) ?_
    · intro r hr
      rcases List.mem_append.1 hr with hr | hr
      · have := hleR r hr; omega
      · simp at hr; subst hr; exact Nat.le_refl _
    · intro R' σ5 hp hok h7
      have e2 : (R ++ [x]).set R.length { x with used := now + 1 } = R ++ [x] := by simp [x]
      rw [e2] at hp
      refine hQ rowv' R' ib σ5 (hc.new rfl hno (hp.trans (hc.perm.append_right [x])) hok) h7
end
end Go.Ax.O
set_option maxRecDepth 100000
namespace Go.Ax.O
open Go.Proofs Go.RowKit
variable {l m : List Assn} {σ : AHeap} {Q : WK}
theorem bytesV_rob {v : Value} {x : List UInt8} (hx : x ≠ []) : BytesV v x = RoB v x := by
  funext r; apply propext
  constructor
  · rintro (⟨_, _, h⟩ | h)
    · exact absurd h hx
    · exact h
  · exact .inr
structure DPlain (D : DM) (n : Nat) : Prop where
  ok : D.Ok n
  off : D.off = false
  fuse : D.fuse = 0
theorem DPlain.fling {D : DM} {n a : Nat} {bs : List UInt8} (h : DPlain D n) (ha : a < n) (hb : bs.length = 256) : DPlain (D.fling a bs) n := ⟨fling_Ok h.ok ha hb, h.off, h.fuse⟩
theorem set_same {α : Type} {R : List α} {k : Nat} {x : α} (hk : R[k]? = some x) : R.set k x = R := by
  apply List.ext_getElem?
  intro j
  rw [List.getElem?_set]
  split
  · rename_i e; subst e; rw [hk, if_pos (List.getElem?_eq_some_iff.1 hk).1]
  · rfl
theorem ptrs_set {R : List Rec} {k : Nat} {x y : Rec} (hk : R[k]? = some x) (hy : y.ib = x.ib) : ptrs (R.set k y) = ptrs R := by
  unfold ptrs
  rw [List.map_set, hy]
  exact set_same (by rw [List.getElem?_map, hk]; rfl)
section
variable {cb nn now mb n : Nat} {dv rowv : Value} {R M A B : List Rec} {I0 : Assn} {D : DM}
def wrote (D : DM) (x : Rec) : DM := if x.dirty then D.fling x.pl x.b else D
abbrev clean (x : Rec) : Rec := { x with dirty := false }
theorem pairs_mod {x y : Rec} (hpl : y.pl = x.pl) (hib : y.ib = x.ib) : pairs (A ++ y :: B) = pairs (A ++ x :: B) := by simp [pairs, hpl, hib]
theorem witem_ok {k : Nat} {x : Rec} (h : H (CO cb dv nn now mb rowv R (A ++ x :: B) (Star [Disk dv D, I0])) σ) (hk : R[k]? = some x) (hD : DPlain D n) (hpl : x.pl < n) (hxb : x.b.length = 256) (hm : D.fly.length < 1099511627776)
    (hQ : ∀ σ', H (CO cb dv nn now mb rowv (R.set k (clean x)) (A ++ clean x :: B) (Star [Disk dv (wrote D x), I0])) σ' → Q (.int .i64 0) σ') : E f_cache_Cache_write [.pointer (some ⟨cb, 0, none⟩), .pointer (some ⟨x.ib, 0, none⟩)] σ Q := by
  have hkl := (List.getElem?_eq_some_iff.1 hk).1
  apply o_cache_Cache_write_ev; unfold o_cache_Cache_write
  have h0 : H [Star [Disk dv D, I0], Star (itemsL 0 R), pt cb (.cells [dv, .int .i64 nn, .int .u64 now, .map (some mb), rowv] t_cache_Cache false), Own t_p_cache_item 1 rowv R.length (ptrs R), MapA mb (pairs (A ++ x :: B))] σ := h.pick [4, 2, 0, 1, 3] (by decide)
  have h1 : H [Star (itemsL 0 R), Disk dv D, I0, pt cb (.cells [dv, .int .i64 nn, .int .u64 now, .map (some mb), rowv] t_cache_Cache false), Own t_p_cache_item 1 rowv R.length (ptrs R), MapA mb (pairs (A ++ x :: B))] σ := ((H_star (l := [Disk dv D, I0])).1 h0).pick [2, 0, 1, 3, 4, 5] (by decide)
  have h2 := item_out h1 hk
  unfold ItemA at h2
  rw [H_sep, bytesV_rob (by intro e; rw [e] at hxb; simp at hxb)] at h2
  have r3 := load1 (n := 1) (o := 3) (h2.row 0 rfl)
  have r0 := load1 (n := 1) (o := 0) (h2.row 0 rfl)
  have r4 := load1 (n := 1) (o := 4) (h2.row 0 rfl)
  have c0 := load1 (n := 1) (o := 0) (h2.row 5 rfl)
  simp [r3]
  cases hd : x.dirty with
  | false =>
    simp
    have e : clean x = x := by cases x; simp_all [clean]
    have e2 : wrote D x = D := by simp [wrote, hd]
    rw [e, e2, set_same hk] at hQ
    exact hQ σ h
  | true =>
    simp [r0, r4, c0]
    refine write_ok (bs := x.b) h2 3 rfl hD.ok (by rw [hD.fuse]; omega) hm (by omega) (fun τ hτ => hτ.rob_rd 1 rfl) ?_
    rw [write_plain hD.ok hD.off hD.fuse hpl hxb]
    intro σ1 h3
    simp
    refine store1 h3 0 rfl rfl (by simp) ?_
    intro σ2 h4
    have e2 : wrote D x = D.fling x.pl x.b := by simp [wrote, hd]
    rw [e2] at hQ
    refine hQ σ2 ?_
    have h5 : H [pt x.ib (.cells [.int .i64 x.pl, .int .i64 k, .int .u64 x.used, .bool false, x.sv] t_cache_item false), RoB x.sv x.b, Star ((itemsL 0 R).set k emp), Disk dv (D.fling x.pl x.b), I0, pt cb (.cells [dv, .int .i64 nn, .int .u64 now, .map (some mb), rowv] t_cache_Cache false), Own t_p_cache_item 1 rowv R.length (ptrs R), MapA mb (pairs (A ++ x :: B))] σ2 := h4
    rw [← bytesV_rob (v := x.sv) (x := x.b) (by intro e; rw [e] at hxb; simp at hxb)] at h5
    have h6 := item_in (r := clean x) hkl (H_sep.2 h5)
    have h7 := (H_star (l := [Disk dv (D.fling x.pl x.b), I0])).2 (h6.pick [1, 2, 0, 3, 4, 5] (by decide))
    unfold CO
    rw [pairs_mod (x := x) (y := clean x) rfl rfl, ptrs_set (y := clean x) hk rfl, List.length_set]
    exact h7.pick [2, 3, 1, 4, 0] (by decide)
theorem room_no (h : H (CO cb dv nn now mb rowv R M I0) σ) (hlt : R.length < nn) (hQ : Q (.int .i64 0) σ) : E f_cache_Cache_room [.pointer (some ⟨cb, 0, none⟩)] σ Q := by
  apply o_cache_Cache_room_ev; unfold o_cache_Cache_room
  have r4 := load1 (n := 1) (o := 4) (h.row 0 rfl)
  have r1 := load1 (n := 1) (o := 1) (h.row 0 rfl)
  obtain ⟨_, _, a, c, rfl⟩ := h.own_src 1 rfl
  simp [r4, r1, hlt]
  exact hQ
theorem room_yes {x : Rec} (h : H (CO cb dv nn now mb rowv R (x :: M) (Star [Disk dv D, I0])) σ) (hc : COk R (x :: M) now) (hge : nn ≤ R.length) (hb : R.length < 1099511627776) (hD : DPlain D n) (hpl : x.pl < n) (hxb : x.b.length = 256) (hm : D.fly.length < 1099511627776)
    (hQ : ∀ rowv' R' σ', COk R' M now → H (CO cb dv nn now mb rowv' R' M (Star [Disk dv (wrote D x), I0])) σ' → Q (.int .i64 0) σ') : E f_cache_Cache_room [.pointer (some ⟨cb, 0, none⟩)] σ Q := by
  apply o_cache_Cache_room_ev; unfold o_cache_Cache_room
  have r4 := load1 (n := 1) (o := 4) (h.row 0 rfl)
  have r1 := load1 (n := 1) (o := 1) (h.row 0 rfl)
  have hl := hc.perm.length_eq
  simp only [List.length_cons] at hl
  obtain ⟨rb, rc, rfl, hrc, rest, hrow⟩ := h.own_form 1 rfl (by omega)
  have hnl : ¬ (R.length : Int) < (nn : Int) := by omega
  simp [r4, r1]
  refine wC_dec (fun g => absurd g (by omega)) fun _ => ?_
  have h0 := hc.top
  have rx := load1 (n := 1) (o := 0) hrow
  rw [List.getElem?_append_left (by rw [ptrs_len]; omega), ptrs_get h0] at rx
  rw [idxA (by omega)]
  simp [rx]
  refine witem_ok (A := []) (B := M) (k := 0) h h0 hD hpl hxb hm ?_
  intro σ1 h1
  simp
  rw [i_160 _ rfl, pu_some]
  have hc1 : COk (R.set 0 (clean x)) (clean x :: M) now := COk.mod (A := []) hc h0 rfl rfl
  have hl1 : (R.set 0 (clean x)).length = M.length + 1 := by rw [List.length_set]; exact hl
  refine hpop_ok (n := M.length) (x := clean x) (cs := c4 dv nn now mb) rfl (co_row.1 h1) hl1 hc1.top (by omega) (by rw [← hl1]; exact hc1.heap) ?_
  intro rowv' R' σ2 hp hok h2
  rw [a_121]
  have h3 : H [ItemA M.length (clean x), Star [MapA mb (pairs (clean x :: M)), Star [Disk dv (wrote D x), I0]], pt cb (.cells (c4 dv nn now mb ++ [rowv']) t_cache_Cache false), Own t_p_cache_item 1 rowv' R'.length (ptrs R'), Star (itemsL 0 R')] σ2 :=
    (H_star (l := [ItemA M.length (clean x), Star [MapA mb (pairs (clean x :: M)), Star [Disk dv (wrote D x), I0]]])).1 (h2.pick [3, 0, 1, 2] (by decide))
  have h4 : H [MapA mb (pairs (clean x :: M)), Star [Disk dv (wrote D x), I0], ItemA M.length (clean x), pt cb (.cells (c4 dv nn now mb ++ [rowv']) t_cache_Cache false), Own t_p_cache_item 1 rowv' R'.length (ptrs R'), Star (itemsL 0 R')] σ2 :=
    (H_star (l := [MapA mb (pairs (clean x :: M)), Star [Disk dv (wrote D x), I0]])).1 (h3.pick [1, 0, 2, 3, 4] (by decide))
  have e1 : (pairs (clean x :: M)).Perm (pairs M ++ [(x.pl, x.ib)]) := by
    exact (List.perm_append_singleton (x.pl, x.ib) (pairs M)).symm
  rw [mapA_perm e1] at h4
  have r3 := load1 (n := 1) (o := 3) (h4.row 3 rfl)
  have h5 := h4.pick [2, 0, 1, 3, 4, 5] (by decide)
  unfold ItemA at h5
  have q0 := load1 (n := 1) (o := 0) ((H_sep.1 h5).row 0 rfl)
  simp [r3, q0]
  refine delete_yes (p := (x.pl, x.ib)) h4 (i := 0) rfl ?_ ?_
  · intro q hq
    obtain ⟨r, hr, rfl⟩ := List.mem_map.1 hq
    have := hc.nd
    simp only [List.map_cons, List.nodup_cons] at this
    intro e
    exact this.1 (List.mem_map.2 ⟨r, hr, e⟩)
  · intro σ3 h6
    refine hQ rowv' R' σ3 (hc1.out hp hok) ?_
    exact h6.pick [3, 4, 5, 0, 1] (by decide)
end
end Go.Ax.O
