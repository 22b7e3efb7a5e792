/- Texts of one proof, joined. No statement of the seat is proved here. -/
import Derived.Test.YtfeamgocomlepaaMy3
set_option linter.unusedVariables false
set_option linter.unusedSimpArgs false
set_option linter.unnecessarySimpa false
set_option linter.constructorNameAsVariable false
set_option linter.unusedVariables false
set_option maxRecDepth 100000
namespace Go.Ax.C
open Go.Proofs
/-- cistern/model.New -/
def s_model_New (E : EvT) (Q : RK) (σ : AHeap) : Prop :=
 pu (aMakeMap P t_m_uint64_p_model_held none σ) fun r2 =>
 On r2.1 (
 wNew r2.2 (.cells [(.int .u64 1), r2.1] t_model_Model false) fun b3 τ4 =>
 Q (.ret (.pointer (some ⟨b3, 0, none⟩))) τ4)
theorem q_model_New (E : EvT) (Q : RK) (σ : AHeap) : xfn P E Try.f46 (fun _ => none) (fun _ => .v) [] σ Q = s_model_New E Q σ := by kernel_rfl
theorem e_model_New {Q : RK} {σ : AHeap} (h : s_model_New E Q σ) : E f_model_New [] σ Q :=
  exfn Try.func46 _ _ (by kernel_rfl) (Eq.mpr (q_model_New E Q σ) h)

/-- cistern/cisternlaw20.alone -/
def s_law20_alone (E : EvT) (Q : RK) (x0 : Nat) (x1_0 : Int) (x1_1 x1_2 : ByteArray) (x1_3 x1_4 x1_5 x1_6 : Int) (x1_7 x1_8 : Bool) (x1_9 : Value) (σ : AHeap) : Prop :=
 wNew σ (.cells [(.int .i64 x1_0), (.string x1_1), (.string x1_2), (.int .u64 x1_3), (.int .u64 x1_4), (.int .u64 x1_5), (.int .u8 x1_6), (.bool x1_7), (.bool x1_8), x1_9] t_law20_Act false) fun b1 τ2 =>
 ldI .i64 (L b1 0 τ2) fun n5 =>
 If (decide (n5 = 0)) (
 ldS (L b1 1 τ2) fun s15 =>
 ldI .u64 (L b1 5 τ2) fun n16 =>
 ldB (L b1 8 τ2) fun c17 =>
 E f_model_Model_Create [(.pointer (some ⟨x0, 0, none⟩)), (.string s15), (.int .u64 n16), (.bool c17)] τ2 (c2 Q fun v19 v21 τ18 =>
 tI .u64 (fun n20 =>
 tI .i64 (fun n22 =>
 Q (.ret (.tuple #[])) τ18) v21) v19)) (
 If (decide (n5 = 1)) (
 ldS (L b1 1 τ2) fun s28 =>
 ldS (L b1 2 τ2) fun s29 =>
 ldB (L b1 7 τ2) fun c30 =>
 ldB (L b1 8 τ2) fun c31 =>
 E f_model_Model_Snapshot [(.pointer (some ⟨x0, 0, none⟩)), (.string s28), (.string s29), (.bool c30), (.bool c31)] τ2 (c2 Q fun v33 v35 τ32 =>
 tI .u64 (fun n34 =>
 tI .i64 (fun n36 =>
 Q (.ret (.tuple #[])) τ32) v35) v33)) (
 If (decide (n5 = 2)) (
 ldS (L b1 1 τ2) fun s42 =>
 ldB (L b1 8 τ2) fun c43 =>
 E f_model_Model_Delete [(.pointer (some ⟨x0, 0, none⟩)), (.string s42), (.bool c43)] τ2 (cI Q .i64 fun n45 τ44 =>
 Q (.ret (.tuple #[])) τ44)) (
 If (decide (n5 = 3)) (
 ldS (L b1 1 τ2) fun s51 =>
 ldI .u64 (L b1 5 τ2) fun n52 =>
 ldB (L b1 8 τ2) fun c53 =>
 E f_model_Model_Resize [(.pointer (some ⟨x0, 0, none⟩)), (.string s51), (.int .u64 n52), (.bool c53)] τ2 (cI Q .i64 fun n55 τ54 =>
 Q (.ret (.tuple #[])) τ54)) (
 If (decide (n5 = 5)) (
 ldI .u64 (L b1 3 τ2) fun n61 =>
 ldI .u64 (L b1 4 τ2) fun n62 =>
 ldI .i64 (L b1 0 τ2) fun n63 =>
 ldS (L b1 1 τ2) fun s64 =>
 ldS (L b1 2 τ2) fun s65 =>
 ldI .u64 (L b1 3 τ2) fun n66 =>
 ldI .u64 (L b1 4 τ2) fun n67 =>
 ldI .u64 (L b1 5 τ2) fun n68 =>
 ldI .u8 (L b1 6 τ2) fun n69 =>
 ldB (L b1 7 τ2) fun c70 =>
 ldB (L b1 8 τ2) fun c71 =>
 om (L b1 9 τ2) fun v72 =>
 ldB (L b1 8 τ2) fun c73 =>
 E f_law20_Act_data [(.agg #[(.int .i64 n63), (.string s64), (.string s65), (.int .u64 n66), (.int .u64 n67), (.int .u64 n68), (.int .u8 n69), (.bool c70), (.bool c71), v72])] τ2 (cV Q fun v75 τ74 =>
 ldI .u64 (L b1 3 τ74) fun n76 =>
 veq1 (.int .u64 n76) (.int .u64 n61) = true ∧
 ldI .u64 (L b1 4 τ74) fun n77 =>
 veq1 (.int .u64 n77) (.int .u64 n62) = true ∧
 ldB (L b1 8 τ74) fun c78 =>
 veq1 (.bool c78) (.bool c73) = true ∧
 E f_model_Model_Write [(.pointer (some ⟨x0, 0, none⟩)), (.int .u64 n61), (.int .u64 n62), v75, (.bool c73)] τ74 (cI Q .i64 fun n80 τ79 =>
 Q (.ret (.tuple #[])) τ79))) (
 If (decide (n5 = 6)) (
 ldI .u64 (L b1 3 τ2) fun n86 =>
 ldI .u64 (L b1 4 τ2) fun n87 =>
 ldI .u64 (L b1 5 τ2) fun n88 =>
 ldB (L b1 8 τ2) fun c89 =>
 E f_model_Model_Trim [(.pointer (some ⟨x0, 0, none⟩)), (.int .u64 n86), (.int .u64 n87), (.int .u64 n88), (.bool c89)] τ2 (cI Q .i64 fun n91 τ90 =>
 Q (.ret (.tuple #[])) τ90)) (
 If (decide (n5 = 7)) (
 ldI .u64 (L b1 3 τ2) fun n97 =>
 ldI .u64 (L b1 4 τ2) fun n98 =>
 ldI .u64 (L b1 5 τ2) fun n99 =>
 ldB (L b1 8 τ2) fun c100 =>
 E f_model_Model_Zero [(.pointer (some ⟨x0, 0, none⟩)), (.int .u64 n97), (.int .u64 n98), (.int .u64 n99), (.bool c100)] τ2 (cI Q .i64 fun n102 τ101 =>
 Q (.ret (.tuple #[])) τ101)) (
 Q (.ret (.tuple #[])) τ2)))))))
theorem q_law20_alone (E : EvT) (Q : RK) (x0 : Nat) (x1_0 : Int) (x1_1 x1_2 : ByteArray) (x1_3 x1_4 x1_5 x1_6 : Int) (x1_7 x1_8 : Bool) (x1_9 : Value) (σ : AHeap) : xfn P E Try.f48 (hl [(6, .ord [(0, []), (1, []), (2, []), (3, []), (4, []), (5, []), (7, []), (8, []), (6, [2, 4, 8]), (9, [])])]) (fun _ => .v) [(.pointer (some ⟨x0, 0, none⟩)), (.agg #[(.int .i64 x1_0), (.string x1_1), (.string x1_2), (.int .u64 x1_3), (.int .u64 x1_4), (.int .u64 x1_5), (.int .u8 x1_6), (.bool x1_7), (.bool x1_8), x1_9])] σ Q = s_law20_alone E Q x0 x1_0 x1_1 x1_2 x1_3 x1_4 x1_5 x1_6 x1_7 x1_8 x1_9 σ := by kernel_rfl
theorem e_law20_alone {Q : RK} {x0 : Nat} {x1_0 : Int} {x1_1 x1_2 : ByteArray} {x1_3 x1_4 x1_5 x1_6 : Int} {x1_7 x1_8 : Bool} {x1_9 : Value} {σ : AHeap} (h : s_law20_alone E Q x0 x1_0 x1_1 x1_2 x1_3 x1_4 x1_5 x1_6 x1_7 x1_8 x1_9 σ) : E f_law20_alone [(.pointer (some ⟨x0, 0, none⟩)), (.agg #[(.int .i64 x1_0), (.string x1_1), (.string x1_2), (.int .u64 x1_3), (.int .u64 x1_4), (.int .u64 x1_5), (.int .u8 x1_6), (.bool x1_7), (.bool x1_8), x1_9])] σ Q :=
  exfn Try.func48 _ _ (by kernel_rfl) (Eq.mpr (q_law20_alone E Q x0 x1_0 x1_1 x1_2 x1_3 x1_4 x1_5 x1_6 x1_7 x1_8 x1_9 σ) h)

def s_law20_Act_data_b1 (N1 : Int → AHeap → Prop) (E : EvT) (Q : RK) (b13 : Nat) (v16 : Value) (n10 : Int) (τ17 : AHeap) : Prop :=
 ldI .i64 (lenS v16) fun n18 =>
 If (decide (n10 < n18)) (
 ldI .u8 (L b13 6 τ17) fun n28 =>
 Bi (Int.tmod n10 7) fun n29 =>
 Bi (wu8 (n29)) fun n30 =>
 Bi (wu8 (n28 + n30)) fun n31 =>
 om (aIndexAddr 1 v16 (.int .i64 n10)) fun v32 =>
 pu (aStore 1 v32 (.int .u8 n31) τ17) fun τ33 =>
 Bi (w64 (n10 + 1)) fun n36 =>
 N1 n36 τ33) (
 Q (.ret v16) τ17)
/-- (cistern/cisternlaw20.Act).data -/
def s_law20_Act_data (E : EvT) (Q : RK) (x0_0 : Int) (x0_1 x0_2 : ByteArray) (x0_3 x0_4 x0_5 x0_6 : Int) (x0_7 x0_8 : Bool) (x0_9 : Value) (σ : AHeap) : Prop :=
 wNew σ (.cells [(.int .i64 x0_0), (.string x0_1), (.string x0_2), (.int .u64 x0_3), (.int .u64 x0_4), (.int .u64 x0_5), (.int .u8 x0_6), (.bool x0_7), (.bool x0_8), x0_9] t_law20_Act false) fun b1 τ2 =>
 ldI .u64 (L b1 5 τ2) fun n5 =>
 Bi (Int.tmod n5 5000) fun n6 =>
 pu (aMake t_uint8 1 [(.int .u8 0)] (.int .u64 n6) (.int .u64 n6) τ2) fun r7 =>
 ∃ I40 : Nat → Int → AHeap → Prop, (∃ m, I40 m 0 r7.2) ∧
 ∀ m (n10 : Int) (σ' : AHeap), I40 m n10 σ' → (s_law20_Act_data_b1 (fun n10 σ' => ∃ m', m' < m ∧ I40 m' n10 σ') E Q b1 r7.1 n10 σ')
theorem q_law20_Act_data (E : EvT) (Q : RK) (x0_0 : Int) (x0_1 x0_2 : ByteArray) (x0_3 x0_4 x0_5 x0_6 : Int) (x0_7 x0_8 : Bool) (x0_9 : Value) (σ : AHeap) : xfn P E Try.f80 (hl [(1, .loopr [1, 3] [4] [3] [3, 4])]) (fun | 4 => (.i .i64) | _ => .v) [(.agg #[(.int .i64 x0_0), (.string x0_1), (.string x0_2), (.int .u64 x0_3), (.int .u64 x0_4), (.int .u64 x0_5), (.int .u8 x0_6), (.bool x0_7), (.bool x0_8), x0_9])] σ Q = s_law20_Act_data E Q x0_0 x0_1 x0_2 x0_3 x0_4 x0_5 x0_6 x0_7 x0_8 x0_9 σ := by kernel_rfl
theorem e_law20_Act_data {Q : RK} {x0_0 : Int} {x0_1 x0_2 : ByteArray} {x0_3 x0_4 x0_5 x0_6 : Int} {x0_7 x0_8 : Bool} {x0_9 : Value} {σ : AHeap} (h : s_law20_Act_data E Q x0_0 x0_1 x0_2 x0_3 x0_4 x0_5 x0_6 x0_7 x0_8 x0_9 σ) : E f_law20_Act_data [(.agg #[(.int .i64 x0_0), (.string x0_1), (.string x0_2), (.int .u64 x0_3), (.int .u64 x0_4), (.int .u64 x0_5), (.int .u8 x0_6), (.bool x0_7), (.bool x0_8), x0_9])] σ Q :=
  exfn Try.func80 _ _ (by kernel_rfl) (Eq.mpr (q_law20_Act_data E Q x0_0 x0_1 x0_2 x0_3 x0_4 x0_5 x0_6 x0_7 x0_8 x0_9 σ) h)

/-- (*cistern/model.Model).none -/
def s_model_Model_none (E : EvT) (Q : RK) (x0 : Nat) (σ : AHeap) : Prop :=
 om (L x0 1 σ) fun v3 =>
 ldB (aBin (some (.map t_uint64 t_p_model_held)) .eql v3 (.map none)) fun c4 =>
 Q (.ret (.bool c4)) σ
theorem q_model_Model_none (E : EvT) (Q : RK) (x0 : Nat) (σ : AHeap) : xfn P E Try.f81 (fun _ => none) (fun _ => .v) [(.pointer (some ⟨x0, 0, none⟩))] σ Q = s_model_Model_none E Q x0 σ := by kernel_rfl
theorem e_model_Model_none {Q : RK} {x0 : Nat} {σ : AHeap} (h : s_model_Model_none E Q x0 σ) : E f_model_Model_none [(.pointer (some ⟨x0, 0, none⟩))] σ Q :=
  exfn Try.func81 _ _ (by kernel_rfl) (Eq.mpr (q_model_Model_none E Q x0 σ) h)

def s_model_Model_named_b1 (N1 : AHeap → Prop) (E : EvT) (Q : RK) (s8 : ByteArray) (v10 : Value) (τ11 : AHeap) : Prop :=
 pu (aNextMap v10 τ11) fun l12 =>
 ∀ r13 ∈ l12,
 ldB (xExt r13.1 0) fun c14 =>
 If c14 (
 om (aEntry v10 r13.2) fun v20 =>
 om (xExt v20 1) fun v21 =>
 om (aNil v21) fun v24 =>
 om (aFieldAddr 0 v24) fun v25 =>
 om (aFieldAddr 1 v25) fun v26 =>
 ldS (aLoad false 1 v26 r13.2) fun s27 =>
 ldB (aBin (some .string) .eql (.string s27) (.string s8)) fun c31 =>
 If c31 (
 Q (.ret (.tuple #[v21, (.int .i64 0)])) r13.2) (
 N1 r13.2)) (
 Q (.ret (.tuple #[(.pointer none), (.int .i64 6)])) r13.2)
/-- (*cistern/model.Model).named -/
def s_model_Model_named (E : EvT) (Q : RK) (x0 : Nat) (x1 : ByteArray) (σ : AHeap) : Prop :=
 om (L x0 1 σ) fun v3 =>
 pu (aRange P t_m_uint64_p_model_held v3 σ) fun r4 =>
 ∃ I36 : Nat → AHeap → Prop, (∃ m, I36 m r4.2) ∧
 ∀ m (σ' : AHeap), I36 m  σ' → (s_model_Model_named_b1 (fun  σ' => ∃ m', m' < m ∧ I36 m'  σ') E Q x1 r4.1  σ')
theorem q_model_Model_named (E : EvT) (Q : RK) (x0 : Nat) (x1 : ByteArray) (σ : AHeap) : xfn P E Try.f85 (hl [(1, .loopr [1, 12] [] [4, 5] [4, 5])]) (fun _ => .v) [(.pointer (some ⟨x0, 0, none⟩)), (.string x1)] σ Q = s_model_Model_named E Q x0 x1 σ := by kernel_rfl
theorem e_model_Model_named {Q : RK} {x0 : Nat} {x1 : ByteArray} {σ : AHeap} (h : s_model_Model_named E Q x0 x1 σ) : E f_model_Model_named [(.pointer (some ⟨x0, 0, none⟩)), (.string x1)] σ Q :=
  exfn Try.func85 _ _ (by kernel_rfl) (Eq.mpr (q_model_Model_named E Q x0 x1 σ) h)

/-- (*cistern/model.Model).room -/
def s_model_Model_room (E : EvT) (Q : RK) (x0 : Nat) (x1 : ByteArray) (x2 : Bool) (σ : AHeap) : Prop :=
 E f_dir_Named [(.string x1)] σ (cB Q fun c4 τ3 =>
 If (!c4) (
 Q (.ret (.int .i64 1)) τ3) (
 E f_model_Model_named [(.pointer (some ⟨x0, 0, none⟩)), (.string x1)] τ3 (c2 Q fun v14 v15 τ13 =>
 tI .i64 (fun n16 =>
 If (decide (n16 = 0)) (
 Q (.ret (.int .i64 7)) τ13) (
 If x2 (
 E f_model_full [(.bool true)] τ13 (cI Q .i64 fun n29 τ28 =>
 Q (.ret (.int .i64 n29)) τ28)) (
 om (L x0 1 τ13) fun v33 =>
 ldI .i64 (lenM v33 τ13) fun n34 =>
 E f_model_full [(.bool (decide (16 ≤ n34)))] τ13 (cI Q .i64 fun n36 τ35 =>
 Q (.ret (.int .i64 n36)) τ35)))) v15)))
theorem q_model_Model_room (E : EvT) (Q : RK) (x0 : Nat) (x1 : ByteArray) (x2 : Bool) (σ : AHeap) : xfn P E Try.f86 (fun _ => none) (fun _ => .v) [(.pointer (some ⟨x0, 0, none⟩)), (.string x1), (.bool x2)] σ Q = s_model_Model_room E Q x0 x1 x2 σ := by kernel_rfl
theorem e_model_Model_room {Q : RK} {x0 : Nat} {x1 : ByteArray} {x2 : Bool} {σ : AHeap} (h : s_model_Model_room E Q x0 x1 x2 σ) : E f_model_Model_room [(.pointer (some ⟨x0, 0, none⟩)), (.string x1), (.bool x2)] σ Q :=
  exfn Try.func86 _ _ (by kernel_rfl) (Eq.mpr (q_model_Model_room E Q x0 x1 x2 σ) h)

/-- (*cistern/model.Model).add -/
def s_model_Model_add (E : EvT) (Q : RK) (x0 x1 : Nat) (σ : AHeap) : Prop :=
 ldI .u64 (L x0 0 σ) fun n4 =>
 St x1 0 (.int .u64 n4) σ fun τ5 =>
 om (L x0 1 τ5) fun v8 =>
 ldI .u64 (L x0 0 τ5) fun n9 =>
 pu (aMapUpdate P t_m_uint64_p_model_held v8 (.int .u64 n9) (.pointer (some ⟨x1, 0, none⟩)) τ5) fun τ11 =>
 ldI .u64 (L x0 0 τ11) fun n14 =>
 Bi (wu64 (n14 + 1)) fun n15 =>
 St x0 0 (.int .u64 n15) τ11 fun τ16 =>
 ldI .u64 (L x1 0 τ16) fun n20 =>
 Q (.ret (.tuple #[(.int .u64 n20), (.int .i64 0)])) τ16
theorem q_model_Model_add (E : EvT) (Q : RK) (x0 x1 : Nat) (σ : AHeap) : xfn P E Try.f87 (hl [(0, .ord [(0, []), (1, []), (2, []), (3, []), (4, []), (5, []), (6, []), (7, []), (8, []), (9, [])])]) (fun _ => .v) [(.pointer (some ⟨x0, 0, none⟩)), (.pointer (some ⟨x1, 0, none⟩))] σ Q = s_model_Model_add E Q x0 x1 σ := by kernel_rfl
theorem e_model_Model_add {Q : RK} {x0 x1 : Nat} {σ : AHeap} (h : s_model_Model_add E Q x0 x1 σ) : E f_model_Model_add [(.pointer (some ⟨x0, 0, none⟩)), (.pointer (some ⟨x1, 0, none⟩))] σ Q :=
  exfn Try.func87 _ _ (by kernel_rfl) (Eq.mpr (q_model_Model_add E Q x0 x1 σ) h)

def s_model_Model_asked_k6 (E : EvT) (Q : RK) (c45 : Bool) (b51 : Nat) (n58 : Int) (τ44 : AHeap) : Prop :=
 If c45 (
 Q (.ret (.tuple #[(.pointer none), (.int .i64 3)])) τ44) (
 om (L b51 1 τ44) fun v53 =>
 om (aLookup P t_m_uint64_p_model_held v53 (.int .u64 n58) false τ44) fun v60 =>
 Q (.ret (.tuple #[v60, (.int .i64 0)])) τ44)
def s_model_Model_asked_k4 (E : EvT) (Q : RK) (c23 : Bool) (n27 n31 : Int) (b32 : Nat) (c41 : Bool) (b49 : Nat) (n56 : Int) (τ22 : AHeap) : Prop :=
 If c23 (
 Q (.ret (.tuple #[(.pointer none), (.int .i64 30)])) τ22) (
 ldI .u64 (L b32 2 τ22) fun n33 =>
 E f_pieces_Within [(.int .u64 n27), (.int .u64 n31), (.int .u64 n33)] τ22 (cB Q fun c35 τ34 =>
 If (!c35) (
 Q (.ret (.tuple #[(.pointer none), (.int .i64 31)])) τ34) (
 If c41 (
 (s_model_Model_asked_k6 E Q (decide (4096 < n31)) b49 n56 τ34)) (
 (s_model_Model_asked_k6 E Q false b49 n56 τ34)))))
/-- (*cistern/model.Model).asked -/
def s_model_Model_asked (E : EvT) (Q : RK) (x0 : Nat) (x1 x2 x3 : Int) (x4 x5 : Bool) (σ : AHeap) : Prop :=
 E f_model_Model_ById [(.pointer (some ⟨x0, 0, none⟩)), (.int .u64 x1)] σ (c2 Q fun v5 v6 τ4 =>
 tI .i64 (fun n7 =>
 wNew τ4 (.cells [(.int .u64 0), (.string ((⟨#[]⟩ : ByteArray))), (.int .u64 0), (.int .u64 0), (.bool false), (.int .u64 0)] t_api_Volume false) fun b8 τ9 =>
 pu (aStore 6 (.pointer (some ⟨b8, 0, none⟩)) v5 τ9) fun τ10 =>
 If (!decide (n7 = 0)) (
 Q (.ret (.tuple #[(.pointer none), (.int .i64 n7)])) τ10) (
 If x4 (
 ldB (L b8 4 τ10) fun c21 =>
 (s_model_Model_asked_k4 E Q c21 x2 x3 b8 x5 x0 x1 τ10)) (
 (s_model_Model_asked_k4 E Q false x2 x3 b8 x5 x0 x1 τ10)))) v6)
theorem q_model_Model_asked (E : EvT) (Q : RK) (x0 : Nat) (x1 x2 x3 : Int) (x4 x5 : Bool) (σ : AHeap) : xfn P E Try.f89 (fun _ => none) (fun _ => .v) [(.pointer (some ⟨x0, 0, none⟩)), (.int .u64 x1), (.int .u64 x2), (.int .u64 x3), (.bool x4), (.bool x5)] σ Q = s_model_Model_asked E Q x0 x1 x2 x3 x4 x5 σ := by kernel_rfl
theorem e_model_Model_asked {Q : RK} {x0 : Nat} {x1 x2 x3 : Int} {x4 x5 : Bool} {σ : AHeap} (h : s_model_Model_asked E Q x0 x1 x2 x3 x4 x5 σ) : E f_model_Model_asked [(.pointer (some ⟨x0, 0, none⟩)), (.int .u64 x1), (.int .u64 x2), (.int .u64 x3), (.bool x4), (.bool x5)] σ Q :=
  exfn Try.func89 _ _ (by kernel_rfl) (Eq.mpr (q_model_Model_asked E Q x0 x1 x2 x3 x4 x5 σ) h)

/-- cistern/model.size -/
def s_model_size (E : EvT) (Q : RK) (x0 : Int) (σ : AHeap) : Prop :=
 If (decide (1 ≤ x0)) (
 Q (.ret (.bool (decide (x0 ≤ 4294967296)))) σ) (
 Q (.ret (.bool false)) σ)
theorem q_model_size (E : EvT) (Q : RK) (x0 : Int) (σ : AHeap) : xfn P E Try.f91 (fun _ => none) (fun _ => .v) [(.int .u64 x0)] σ Q = s_model_size E Q x0 σ := by kernel_rfl
theorem e_model_size {Q : RK} {x0 : Int} {σ : AHeap} (h : s_model_size E Q x0 σ) : E f_model_size [(.int .u64 x0)] σ Q :=
  exfn Try.func91 _ _ (by kernel_rfl) (Eq.mpr (q_model_size E Q x0 σ) h)

/-- cistern/model.full -/
def s_model_full (E : EvT) (Q : RK) (x0 : Bool) (σ : AHeap) : Prop :=
 If x0 (
 Q (.ret (.int .i64 8)) σ) (
 Q (.ret (.int .i64 0)) σ)
theorem q_model_full (E : EvT) (Q : RK) (x0 : Bool) (σ : AHeap) : xfn P E Try.f92 (fun _ => none) (fun _ => .v) [(.bool x0)] σ Q = s_model_full E Q x0 σ := by kernel_rfl
theorem e_model_full {Q : RK} {x0 : Bool} {σ : AHeap} (h : s_model_full E Q x0 σ) : E f_model_full [(.bool x0)] σ Q :=
  exfn Try.func92 _ _ (by kernel_rfl) (Eq.mpr (q_model_full E Q x0 σ) h)

def s_model_held_clear_k11 (N2 : Int → AHeap → Prop) (E : EvT) (Q : RK) (n95 : Int) (b102 : Nat) (n104 n106 n109 : Int) (b110 : Nat) (v116 : Value) (τ91 : AHeap) : Prop :=
 Bi (w64 (n95 + 1)) fun n96 =>
 N2 n96 τ91
def s_model_held_clear_k10 (N2 : Int → AHeap → Prop) (E : EvT) (Q : RK) (c81 : Bool) (n83 : Int) (b88 : Nat) (n94 : Int) (b101 : Nat) (n103 n105 n108 : Int) (v115 : Value) (τ80 : AHeap) : Prop :=
 If c81 (
 om (aIndexAddrArr 256 1 (.pointer (some ⟨b88, 0, none⟩)) (.int .i64 n83)) fun v89 =>
 pu (aStore 1 v89 (.int .u8 0) τ80) fun τ90 =>
 (s_model_held_clear_k11 N2 E Q n94 b101 n103 n105 n108 b88 v115 τ90)) (
 (s_model_held_clear_k11 N2 E Q n94 b101 n103 n105 n108 b88 v115 τ80))
def s_model_held_clear_b2 (N1 : AHeap → Prop) (N2 : Int → AHeap → Prop) (E : EvT) (Q : RK) (b36 : Nat) (n41 n46 n49 : Int) (b52 : Nat) (v55 : Value) (n31 : Int) (τ56 : AHeap) : Prop :=
 If (decide (n31 < 256)) (
 Bi (wu64 (n49 * 256)) fun n66 =>
 Bi (wu64 (n31)) fun n68 =>
 Bi (wu64 (n66 + n68)) fun n69 =>
 If (decide (n41 ≤ n69)) (
 (s_model_held_clear_k10 N2 E Q (decide (n69 < n46)) n31 b52 n31 b36 n41 n46 n49 v55 τ56)) (
 (s_model_held_clear_k10 N2 E Q false n31 b52 n31 b36 n41 n46 n49 v55 τ56))) (
 om (aLoad true 256 (.pointer (some ⟨b52, 0, none⟩)) τ56) fun v121 =>
 E f_model_held_put [(.pointer (some ⟨b36, 0, none⟩)), (.int .u64 n49), v121] τ56 (c0 Q fun τ122 =>
 N1 τ122))
def s_model_held_clear_b1 (N1 : AHeap → Prop) (E : EvT) (Q : RK) (b7 : Nat) (n9 n11 : Int) (v13 : Value) (τ14 : AHeap) : Prop :=
 pu (aNextMap v13 τ14) fun l15 =>
 ∀ r16 ∈ l15,
 ldB (xExt r16.1 0) fun c17 =>
 If c17 (
 om (aEntry v13 r16.2) fun v23 =>
 ldI .u64 (xExt v23 0) fun n24 =>
 om (xExt v23 1) fun v25 =>
 wNew r16.2 (.cells (List.replicate 256 (.int .u8 0)) t_model_block false) fun b26 τ27 =>
 pu (aStore 256 (.pointer (some ⟨b26, 0, none⟩)) v25 τ27) fun τ28 =>
 ∃ I123 : Nat → Int → AHeap → Prop, (∃ m, I123 m 0 τ28) ∧
 ∀ m (n31 : Int) (σ' : AHeap), I123 m n31 σ' → (s_model_held_clear_b2 N1 (fun n31 σ' => ∃ m', m' < m ∧ I123 m' n31 σ') E Q b7 n9 n11 n24 b26 v13 n31 σ')) (
 Q (.ret (.tuple #[])) r16.2)
/-- (*cistern/model.held).clear -/
def s_model_held_clear (E : EvT) (Q : RK) (x0 : Nat) (x1 x2 : Int) (σ : AHeap) : Prop :=
 om (L x0 6 σ) fun v1 =>
 E f_maps_Clone_map_uint64_model_block_uint64_model_block [v1] σ (cV Q fun v3 τ2 =>
 pu (aRange P t_m_uint64_model_block v3 τ2) fun r4 =>
 ∃ I125 : Nat → AHeap → Prop, (∃ m, I125 m r4.2) ∧
 ∀ m (σ' : AHeap), I125 m  σ' → (s_model_held_clear_b1 (fun  σ' => ∃ m', m' < m ∧ I125 m'  σ') E Q x0 x1 x2 r4.1  σ'))
theorem q_model_held_clear (E : EvT) (Q : RK) (x0 : Nat) (x1 x2 : Int) (σ : AHeap) : xfn P E Try.f93 (hl [(1, .loopr [0, 1, 2, 15] [] [] []), (5, .loopr [0, 1, 2, 6, 7, 15] [21] [0, 1, 2, 6, 7, 15] [0, 1, 2, 6, 7, 15, 21])]) (fun | 21 => (.i .i64) | _ => .v) [(.pointer (some ⟨x0, 0, none⟩)), (.int .u64 x1), (.int .u64 x2)] σ Q = s_model_held_clear E Q x0 x1 x2 σ := by kernel_rfl
theorem e_model_held_clear {Q : RK} {x0 : Nat} {x1 x2 : Int} {σ : AHeap} (h : s_model_held_clear E Q x0 x1 x2 σ) : E f_model_held_clear [(.pointer (some ⟨x0, 0, none⟩)), (.int .u64 x1), (.int .u64 x2)] σ Q :=
  exfn Try.func93 _ _ (by kernel_rfl) (Eq.mpr (q_model_held_clear E Q x0 x1 x2 σ) h)

/-- (*cistern/model.held).put -/
def s_model_held_put (E : EvT) (Q : RK) (x0 : Nat) (x1 : Int) (x2 : Value) (σ : AHeap) : Prop :=
 cond (live x2) (wNew σ (.cells (Value.cells x2).toList t_model_block false) fun b1 τ2 =>
 om (L x0 6 τ2) fun v5 =>
 om (aLoad true 256 (.pointer (some ⟨b1, 0, none⟩)) τ2) fun v8 =>
 pu (aMapUpdate P t_m_uint64_model_block v5 (.int .u64 x1) v8 τ2) fun τ9 =>
 om (aLoad true 256 (.pointer (some ⟨b1, 0, none⟩)) τ9) fun v12 =>
 ldB (aBinP P t_model_block .eql v12 (.agg (List.replicate 256 (.int .u8 0)).toArray)) fun c13 =>
 If c13 (
 om (L x0 6 τ9) fun v18 =>
 pu (aDelete P t_m_uint64_model_block v18 (.int .u64 x1) τ9) fun τ21 =>
 Q (.ret (.tuple #[])) τ21) (
 Q (.ret (.tuple #[])) τ9)) False
theorem q_model_held_put (E : EvT) (Q : RK) (x0 : Nat) (x1 : Int) (x2 : Value) (σ : AHeap) : xfn P E Try.f94 (hl [(0, .ord [(0, []), (1, []), (2, []), (3, []), (4, []), (5, []), (6, [])])]) (fun _ => .v) [(.pointer (some ⟨x0, 0, none⟩)), (.int .u64 x1), x2] σ Q = s_model_held_put E Q x0 x1 x2 σ := by kernel_rfl
theorem e_model_held_put {Q : RK} {x0 : Nat} {x1 : Int} {x2 : Value} {σ : AHeap} (h : s_model_held_put E Q x0 x1 x2 σ) : E f_model_held_put [(.pointer (some ⟨x0, 0, none⟩)), (.int .u64 x1), x2] σ Q :=
  exfn Try.func94 _ _ (by kernel_rfl) (Eq.mpr (q_model_held_put E Q x0 x1 x2 σ) h)

def s_model_Model_List_b1 (N1 : Value → AHeap → Prop) (E : EvT) (Q : RK) (v17 v15 : Value) (τ18 : AHeap) : Prop :=
 pu (aNextMap v17 τ18) fun l19 =>
 ∀ r20 ∈ l19,
 ldB (xExt r20.1 0) fun c21 =>
 If c21 (
 om (aEntry v17 r20.2) fun v27 =>
 om (xExt v27 1) fun v28 =>
 om (aNil v28) fun v34 =>
 om (aFieldAddr 0 v34) fun v35 =>
 om (aFieldAddr 0 v35) fun v36 =>
 ldI .u64 (aLoad false 1 v36 r20.2) fun n37 =>
 om (aFieldAddr 1 v35) fun v38 =>
 ldS (aLoad false 1 v38 r20.2) fun s39 =>
 om (aFieldAddr 2 v35) fun v40 =>
 ldI .u64 (aLoad false 1 v40 r20.2) fun n41 =>
 om (aFieldAddr 3 v35) fun v42 =>
 ldI .u64 (aLoad false 1 v42 r20.2) fun n43 =>
 om (aFieldAddr 4 v35) fun v44 =>
 ldB (aLoad false 1 v44 r20.2) fun c45 =>
 om (aFieldAddr 5 v35) fun v46 =>
 ldI .u64 (aLoad false 1 v46 r20.2) fun n47 =>
 wNew r20.2 (.cells [(.int .u64 n37), (.string s39), (.int .u64 n41), (.int .u64 n43), (.bool c45), (.int .u64 n47)] t_api_Volume false) fun b48 τ49 =>
 pu (aAppend t_api_Volume 6 56 v15 (.slice (some ⟨b48, 0, none⟩) 1 1) τ49) fun r50 =>
 N1 r50.1 r50.2) (
 E f_slices_SortFunc_sl_api_Volume_api_Volume [v15, (.func (.func f_model_Model_List_c1) #[] #[])] r20.2 (c0 Q fun τ53 =>
 Q (.ret v15) τ53))
/-- (*cistern/model.Model).List -/
def s_model_Model_List (E : EvT) (Q : RK) (x0 : Nat) (σ : AHeap) : Prop :=
 E f_model_Model_none [(.pointer (some ⟨x0, 0, none⟩))] σ (cB Q fun c4 τ3 =>
 If c4 (
 Q (.ret (.slice none 0 0)) τ3) (
 om (L x0 1 τ3) fun v12 =>
 pu (aRange P t_m_uint64_p_model_held v12 τ3) fun r13 =>
 ∃ I56 : Nat → Value → AHeap → Prop, (∃ m, I56 m (.slice none 0 0) r13.2) ∧
 ∀ m (v15 : Value) (σ' : AHeap), I56 m v15 σ' → (s_model_Model_List_b1 (fun v15 σ' => ∃ m', m' < m ∧ I56 m' v15 σ') E Q r13.1 v15 σ')))
theorem q_model_Model_List (E : EvT) (Q : RK) (x0 : Nat) (σ : AHeap) : xfn P E Try.f49 (hl [(2, .loopr [12] [3] [3] [3])]) (fun _ => .v) [(.pointer (some ⟨x0, 0, none⟩))] σ Q = s_model_Model_List E Q x0 σ := by kernel_rfl
theorem e_model_Model_List {Q : RK} {x0 : Nat} {σ : AHeap} (h : s_model_Model_List E Q x0 σ) : E f_model_Model_List [(.pointer (some ⟨x0, 0, none⟩))] σ Q :=
  exfn Try.func49 _ _ (by kernel_rfl) (Eq.mpr (q_model_Model_List E Q x0 σ) h)

/-- (*cistern/model.Model).List$1 -/
def s_model_Model_List_c1 (E : EvT) (Q : RK) (x0_0 : Int) (x0_1 : ByteArray) (x0_2 x0_3 : Int) (x0_4 : Bool) (x0_5 x1_0 : Int) (x1_1 : ByteArray) (x1_2 x1_3 : Int) (x1_4 : Bool) (x1_5 : Int) (σ : AHeap) : Prop :=
 wNew σ (.cells [(.int .u64 x0_0), (.string x0_1), (.int .u64 x0_2), (.int .u64 x0_3), (.bool x0_4), (.int .u64 x0_5)] t_api_Volume false) fun b1 τ2 =>
 wNew τ2 (.cells [(.int .u64 x1_0), (.string x1_1), (.int .u64 x1_2), (.int .u64 x1_3), (.bool x1_4), (.int .u64 x1_5)] t_api_Volume false) fun b3 τ4 =>
 ldS (L b1 1 τ4) fun s7 =>
 ldS (L b3 1 τ4) fun s9 =>
 E f_strings_Compare [(.string s7), (.string s9)] τ4 (cI Q .i64 fun n11 τ10 =>
 Q (.ret (.int .i64 n11)) τ10)
theorem q_model_Model_List_c1 (E : EvT) (Q : RK) (x0_0 : Int) (x0_1 : ByteArray) (x0_2 x0_3 : Int) (x0_4 : Bool) (x0_5 x1_0 : Int) (x1_1 : ByteArray) (x1_2 x1_3 : Int) (x1_4 : Bool) (x1_5 : Int) (σ : AHeap) : xfn P E Try.f83 (fun _ => none) (fun _ => .v) [(.agg #[(.int .u64 x0_0), (.string x0_1), (.int .u64 x0_2), (.int .u64 x0_3), (.bool x0_4), (.int .u64 x0_5)]), (.agg #[(.int .u64 x1_0), (.string x1_1), (.int .u64 x1_2), (.int .u64 x1_3), (.bool x1_4), (.int .u64 x1_5)])] σ Q = s_model_Model_List_c1 E Q x0_0 x0_1 x0_2 x0_3 x0_4 x0_5 x1_0 x1_1 x1_2 x1_3 x1_4 x1_5 σ := by kernel_rfl
theorem e_model_Model_List_c1 {Q : RK} {x0_0 : Int} {x0_1 : ByteArray} {x0_2 x0_3 : Int} {x0_4 : Bool} {x0_5 x1_0 : Int} {x1_1 : ByteArray} {x1_2 x1_3 : Int} {x1_4 : Bool} {x1_5 : Int} {σ : AHeap} (h : s_model_Model_List_c1 E Q x0_0 x0_1 x0_2 x0_3 x0_4 x0_5 x1_0 x1_1 x1_2 x1_3 x1_4 x1_5 σ) : E f_model_Model_List_c1 [(.agg #[(.int .u64 x0_0), (.string x0_1), (.int .u64 x0_2), (.int .u64 x0_3), (.bool x0_4), (.int .u64 x0_5)]), (.agg #[(.int .u64 x1_0), (.string x1_1), (.int .u64 x1_2), (.int .u64 x1_3), (.bool x1_4), (.int .u64 x1_5)])] σ Q :=
  exfn Try.func83 _ _ (by kernel_rfl) (Eq.mpr (q_model_Model_List_c1 E Q x0_0 x0_1 x0_2 x0_3 x0_4 x0_5 x1_0 x1_1 x1_2 x1_3 x1_4 x1_5 σ) h)

/-- strings.Compare -/
def s_strings_Compare (E : EvT) (Q : RK) (x0 x1 : ByteArray) (σ : AHeap) : Prop :=
 E f_internal_bytealg_CompareString [(.string x0), (.string x1)] σ (cI Q .i64 fun n5 τ4 =>
 Q (.ret (.int .i64 n5)) τ4)
theorem q_strings_Compare (E : EvT) (Q : RK) (x0 x1 : ByteArray) (σ : AHeap) : xfn P E Try.f84 (fun _ => none) (fun _ => .v) [(.string x0), (.string x1)] σ Q = s_strings_Compare E Q x0 x1 σ := by kernel_rfl
theorem e_strings_Compare {Q : RK} {x0 x1 : ByteArray} {σ : AHeap} (h : s_strings_Compare E Q x0 x1 σ) : E f_strings_Compare [(.string x0), (.string x1)] σ Q :=
  exfn Try.func84 _ _ (by kernel_rfl) (Eq.mpr (q_strings_Compare E Q x0 x1 σ) h)

/-- (*cistern/model.Model).Snapshot -/
def s_model_Model_Snapshot (E : EvT) (Q : RK) (x0 : Nat) (x1 x2 : ByteArray) (x3 x4 : Bool) (σ : AHeap) : Prop :=
 E f_model_Model_none [(.pointer (some ⟨x0, 0, none⟩))] σ (cB Q fun c4 τ3 =>
 If c4 (
 Q (.ret (.tuple #[(.int .u64 0), (.int .i64 2)])) τ3) (
 E f_model_Model_named [(.pointer (some ⟨x0, 0, none⟩)), (.string x1)] τ3 (c2 Q fun v14 v15 τ13 =>
 tI .i64 (fun n16 =>
 If (!decide (n16 = 0)) (
 Q (.ret (.tuple #[(.int .u64 0), (.int .i64 n16)])) τ13) (
 E f_model_Model_room [(.pointer (some ⟨x0, 0, none⟩)), (.string x2), (.bool x4)] τ13 (cI Q .i64 fun n39 τ38 =>
 If (!decide (n39 = 0)) (
 Q (.ret (.tuple #[(.int .u64 0), (.int .i64 n39)])) τ38) (
 om (aNil v14) fun v58 =>
 om (aFieldAddr 0 v58) fun v59 =>
 om (aFieldAddr 2 v59) fun v60 =>
 ldI .u64 (aLoad false 1 v60 τ38) fun n61 =>
 om (aNil v14) fun v71 =>
 om (aFieldAddr 0 v71) fun v72 =>
 om (aFieldAddr 0 v72) fun v73 =>
 ldI .u64 (aLoad false 1 v73 τ38) fun n74 =>
 om (aNil v14) fun v75 =>
 om (aFieldAddr 6 v75) fun v76 =>
 om (aLoad false 1 v76 τ38) fun v77 =>
 E f_maps_Clone_map_uint64_model_block_uint64_model_block [v77] τ38 (cV Q fun v79 τ78 =>
 ldI .u64 (aLoad false 1 v60 τ78) fun n80 =>
 veq1 (.int .u64 n80) (.int .u64 n61) = true ∧
 ldI .u64 (aLoad false 1 v73 τ78) fun n81 =>
 veq1 (.int .u64 n81) (.int .u64 n74) = true ∧
 On v79 (
 wNew τ78 (.cells [(.int .u64 0), (.string x2), (.int .u64 n61), (.int .u64 0), (.bool x3), (.int .u64 n74), v79] t_model_held false) fun b82 τ83 =>
 E f_model_Model_add [(.pointer (some ⟨x0, 0, none⟩)), (.pointer (some ⟨b82, 0, none⟩))] τ83 (c2 Q fun v85 v87 τ84 =>
 tI .u64 (fun n86 =>
 tI .i64 (fun n88 =>
 Q (.ret (.tuple #[(.int .u64 n86), (.int .i64 n88)])) τ84) v87) v85))))))) v15)))
theorem q_model_Model_Snapshot (E : EvT) (Q : RK) (x0 : Nat) (x1 x2 : ByteArray) (x3 x4 : Bool) (σ : AHeap) : xfn P E Try.f50 (hl [(3, .ord [(0, []), (1, []), (2, []), (3, []), (4, []), (5, []), (6, []), (7, []), (8, []), (9, []), (10, []), (11, []), (12, []), (13, []), (14, []), (15, []), (16, []), (17, []), (18, [6, 12]), (19, []), (20, []), (21, []), (22, []), (23, []), (24, []), (25, [])])]) (fun _ => .v) [(.pointer (some ⟨x0, 0, none⟩)), (.string x1), (.string x2), (.bool x3), (.bool x4)] σ Q = s_model_Model_Snapshot E Q x0 x1 x2 x3 x4 σ := by kernel_rfl
theorem e_model_Model_Snapshot {Q : RK} {x0 : Nat} {x1 x2 : ByteArray} {x3 x4 : Bool} {σ : AHeap} (h : s_model_Model_Snapshot E Q x0 x1 x2 x3 x4 σ) : E f_model_Model_Snapshot [(.pointer (some ⟨x0, 0, none⟩)), (.string x1), (.string x2), (.bool x3), (.bool x4)] σ Q :=
  exfn Try.func50 _ _ (by kernel_rfl) (Eq.mpr (q_model_Model_Snapshot E Q x0 x1 x2 x3 x4 σ) h)

def s_model_Model_Read_b1 (N1 : Value → Int → AHeap → Prop) (E : EvT) (Q : RK) (v36 v38 : Value) (n40 : Int) (v29 : Value) (n30 : Int) (τ41 : AHeap) : Prop :=
 If (decide (n30 < n40)) (
 om (aIndexAddr 4 v38 (.int .i64 n30)) fun v49 =>
 om (aFieldAddr 0 v49) fun v50 =>
 ldI .u64 (aLoad false 1 v50 τ41) fun n51 =>
 om (aFieldAddr 1 v49) fun v52 =>
 ldI .i64 (aLoad false 1 v52 τ41) fun n53 =>
 om (aFieldAddr 2 v49) fun v54 =>
 ldI .i64 (aLoad false 1 v54 τ41) fun n55 =>
 om (aFieldAddr 3 v49) fun v56 =>
 ldI .i64 (aLoad false 1 v56 τ41) fun n57 =>
 wNew τ41 (.cells [(.int .u64 0), (.int .i64 0), (.int .i64 0), (.int .i64 0)] t_api_Piece false) fun b58 τ59 =>
 pu (aStore 4 (.pointer (some ⟨b58, 0, none⟩)) (.agg #[(.int .u64 n51), (.int .i64 n53), (.int .i64 n55), (.int .i64 n57)]) τ59) fun τ60 =>
 om (aNil v36) fun v65 =>
 om (aFieldAddr 6 v65) fun v66 =>
 om (aLoad false 1 v66 τ60) fun v67 =>
 ldI .u64 (L b58 0 τ60) fun n69 =>
 om (aLookup P t_m_uint64_model_block v67 (.int .u64 n69) false τ60) fun v70 =>
 wNew τ60 (.cells (List.replicate 256 (.int .u8 0)) t_model_block false) fun b71 τ72 =>
 om (aLoad false 1 v66 τ72) fun v73 =>
 veq1 v73 v67 = true ∧
 ldI .u64 (L b58 0 τ72) fun n74 =>
 veq1 (.int .u64 n74) (.int .u64 n69) = true ∧
 om (aLookup P t_m_uint64_model_block v67 (.int .u64 n69) false τ72) fun v75 =>
 veq1 v75 v70 = true ∧
 pu (aStore 256 (.pointer (some ⟨b71, 0, none⟩)) v70 τ72) fun τ76 =>
 ldI .i64 (L b58 1 τ76) fun n83 =>
 ldI .i64 (L b58 2 τ76) fun n84 =>
 om (aSliceArr 256 1 (.pointer (some ⟨b71, 0, none⟩)) (some (.int .i64 n83)) (some (.int .i64 n84)) none) fun v86 =>
 pu (aAppend t_uint8 1 1 v29 v86 τ76) fun r87 =>
 Bi (w64 (n30 + 1)) fun n92 =>
 N1 r87.1 n92 r87.2) (
 Q (.ret (.tuple #[v29, (.int .i64 0)])) τ41)
/-- (*cistern/model.Model).Read -/
def s_model_Model_Read (E : EvT) (Q : RK) (x0 : Nat) (x1 x2 x3 : Int) (σ : AHeap) : Prop :=
 E f_model_Model_asked [(.pointer (some ⟨x0, 0, none⟩)), (.int .u64 x1), (.int .u64 x2), (.int .u64 x3), (.bool false), (.bool true)] σ (c2 Q fun v7 v8 τ6 =>
 tI .i64 (fun n9 =>
 If (!decide (n9 = 0)) (
 Q (.ret (.tuple #[(.slice none 0 0), (.int .i64 n9)])) τ6) (
 E f_pieces_Cut [(.int .u64 x2), (.int .u64 x3)] τ6 (cV Q fun v26 τ25 =>
 ldI .i64 (lenS v26) fun n27 =>
 ∃ I96 : Nat → Value → Int → AHeap → Prop, (∃ m, I96 m (.slice none 0 0) 0 τ25) ∧
 ∀ m (v29 : Value) (n30 : Int) (σ' : AHeap), I96 m v29 n30 σ' → (s_model_Model_Read_b1 (fun v29 n30 σ' => ∃ m', m' < m ∧ I96 m' v29 n30 σ') E Q v7 v26 n27 v29 n30 σ')))) v8)
theorem q_model_Model_Read (E : EvT) (Q : RK) (x0 : Nat) (x1 x2 x3 : Int) (σ : AHeap) : xfn P E Try.f51 (hl [(2, .loopr [10, 29, 30] [12, 31] [12] [12, 31]), (5, .ord [(0, []), (1, []), (2, []), (3, []), (4, []), (5, []), (6, []), (7, [3, 5, 6]), (8, [])])]) (fun | 31 => (.i .i64) | _ => .v) [(.pointer (some ⟨x0, 0, none⟩)), (.int .u64 x1), (.int .u64 x2), (.int .u64 x3)] σ Q = s_model_Model_Read E Q x0 x1 x2 x3 σ := by kernel_rfl
theorem e_model_Model_Read {Q : RK} {x0 : Nat} {x1 x2 x3 : Int} {σ : AHeap} (h : s_model_Model_Read E Q x0 x1 x2 x3 σ) : E f_model_Model_Read [(.pointer (some ⟨x0, 0, none⟩)), (.int .u64 x1), (.int .u64 x2), (.int .u64 x3)] σ Q :=
  exfn Try.func51 _ _ (by kernel_rfl) (Eq.mpr (q_model_Model_Read E Q x0 x1 x2 x3 σ) h)

/-- (*cistern/model.Model).ById -/
def s_model_Model_ById (E : EvT) (Q : RK) (x0 : Nat) (x1 : Int) (σ : AHeap) : Prop :=
 wNew σ (.cells [(.int .u64 0), (.string ((⟨#[]⟩ : ByteArray))), (.int .u64 0), (.int .u64 0), (.bool false), (.int .u64 0)] t_api_Volume false) fun b1 τ2 =>
 E f_model_Model_none [(.pointer (some ⟨x0, 0, none⟩))] τ2 (cB Q fun c6 τ5 =>
 If c6 (
 pu (aStore 6 (.pointer (some ⟨b1, 0, none⟩)) (.agg #[(.int .u64 0), (.string ((⟨#[]⟩ : ByteArray))), (.int .u64 0), (.int .u64 0), (.bool false), (.int .u64 0)]) τ5) fun τ11 =>
 pu (aLoad true 6 (.pointer (some ⟨b1, 0, none⟩)) τ11) fun v12 =>
 Q (.ret (.tuple #[v12, (.int .i64 2)])) τ11) (
 om (L x0 1 τ5) fun v16 =>
 om (aLookup P t_m_uint64_p_model_held v16 (.int .u64 x1) true τ5) fun v20 =>
 om (xExt v20 0) fun v21 =>
 ldB (xExt v20 1) fun c22 =>
 If (!c22) (
 pu (aStore 6 (.pointer (some ⟨b1, 0, none⟩)) (.agg #[(.int .u64 0), (.string ((⟨#[]⟩ : ByteArray))), (.int .u64 0), (.int .u64 0), (.bool false), (.int .u64 0)]) τ5) fun τ30 =>
 pu (aLoad true 6 (.pointer (some ⟨b1, 0, none⟩)) τ30) fun v31 =>
 Q (.ret (.tuple #[v31, (.int .i64 6)])) τ30) (
 om (aNil v21) fun v36 =>
 om (aFieldAddr 0 v36) fun v37 =>
 om (aFieldAddr 0 v37) fun v38 =>
 ldI .u64 (aLoad false 1 v38 τ5) fun n39 =>
 om (aFieldAddr 1 v37) fun v40 =>
 ldS (aLoad false 1 v40 τ5) fun s41 =>
 om (aFieldAddr 2 v37) fun v42 =>
 ldI .u64 (aLoad false 1 v42 τ5) fun n43 =>
 om (aFieldAddr 3 v37) fun v44 =>
 ldI .u64 (aLoad false 1 v44 τ5) fun n45 =>
 om (aFieldAddr 4 v37) fun v46 =>
 ldB (aLoad false 1 v46 τ5) fun c47 =>
 om (aFieldAddr 5 v37) fun v48 =>
 ldI .u64 (aLoad false 1 v48 τ5) fun n49 =>
 pu (aStore 6 (.pointer (some ⟨b1, 0, none⟩)) (.agg #[(.int .u64 n39), (.string s41), (.int .u64 n43), (.int .u64 n45), (.bool c47), (.int .u64 n49)]) τ5) fun τ51 =>
 pu (aLoad true 6 (.pointer (some ⟨b1, 0, none⟩)) τ51) fun v52 =>
 Q (.ret (.tuple #[v52, (.int .i64 0)])) τ51)))
theorem q_model_Model_ById (E : EvT) (Q : RK) (x0 : Nat) (x1 : Int) (σ : AHeap) : xfn P E Try.f52 (fun _ => none) (fun _ => .v) [(.pointer (some ⟨x0, 0, none⟩)), (.int .u64 x1)] σ Q = s_model_Model_ById E Q x0 x1 σ := by kernel_rfl
theorem e_model_Model_ById {Q : RK} {x0 : Nat} {x1 : Int} {σ : AHeap} (h : s_model_Model_ById E Q x0 x1 σ) : E f_model_Model_ById [(.pointer (some ⟨x0, 0, none⟩)), (.int .u64 x1)] σ Q :=
  exfn Try.func52 _ _ (by kernel_rfl) (Eq.mpr (q_model_Model_ById E Q x0 x1 σ) h)

/-- (*cistern/model.Model).Create -/
def s_model_Model_Create (E : EvT) (Q : RK) (x0 : Nat) (x1 : ByteArray) (x2 : Int) (x3 : Bool) (σ : AHeap) : Prop :=
 E f_model_Model_none [(.pointer (some ⟨x0, 0, none⟩))] σ (cB Q fun c4 τ3 =>
 If c4 (
 Q (.ret (.tuple #[(.int .u64 0), (.int .i64 2)])) τ3) (
 E f_model_size [(.int .u64 x2)] τ3 (cB Q fun c12 τ11 =>
 If (!c12) (
 Q (.ret (.tuple #[(.int .u64 0), (.int .i64 1)])) τ11) (
 E f_model_Model_room [(.pointer (some ⟨x0, 0, none⟩)), (.string x1), (.bool x3)] τ11 (cI Q .i64 fun n31 τ30 =>
 If (!decide (n31 = 0)) (
 Q (.ret (.tuple #[(.int .u64 0), (.int .i64 n31)])) τ30) (
 pu (aMakeMap P t_m_uint64_model_block none τ30) fun r49 =>
 On r49.1 (
 wNew r49.2 (.cells [(.int .u64 0), (.string x1), (.int .u64 x2), (.int .u64 0), (.bool false), (.int .u64 0), r49.1] t_model_held false) fun b50 τ51 =>
 E f_model_Model_add [(.pointer (some ⟨x0, 0, none⟩)), (.pointer (some ⟨b50, 0, none⟩))] τ51 (c2 Q fun v53 v55 τ52 =>
 tI .u64 (fun n54 =>
 tI .i64 (fun n56 =>
 Q (.ret (.tuple #[(.int .u64 n54), (.int .i64 n56)])) τ52) v55) v53))))))))
theorem q_model_Model_Create (E : EvT) (Q : RK) (x0 : Nat) (x1 : ByteArray) (x2 : Int) (x3 : Bool) (σ : AHeap) : xfn P E Try.f54 (fun _ => none) (fun _ => .v) [(.pointer (some ⟨x0, 0, none⟩)), (.string x1), (.int .u64 x2), (.bool x3)] σ Q = s_model_Model_Create E Q x0 x1 x2 x3 σ := by kernel_rfl
theorem e_model_Model_Create {Q : RK} {x0 : Nat} {x1 : ByteArray} {x2 : Int} {x3 : Bool} {σ : AHeap} (h : s_model_Model_Create E Q x0 x1 x2 x3 σ) : E f_model_Model_Create [(.pointer (some ⟨x0, 0, none⟩)), (.string x1), (.int .u64 x2), (.bool x3)] σ Q :=
  exfn Try.func54 _ _ (by kernel_rfl) (Eq.mpr (q_model_Model_Create E Q x0 x1 x2 x3 σ) h)

/-- (*cistern/model.Model).Get -/
def s_model_Model_Get (E : EvT) (Q : RK) (x0 : Nat) (x1 : ByteArray) (σ : AHeap) : Prop :=
 wNew σ (.cells [(.int .u64 0), (.string ((⟨#[]⟩ : ByteArray))), (.int .u64 0), (.int .u64 0), (.bool false), (.int .u64 0)] t_api_Volume false) fun b1 τ2 =>
 E f_model_Model_none [(.pointer (some ⟨x0, 0, none⟩))] τ2 (cB Q fun c6 τ5 =>
 If c6 (
 pu (aStore 6 (.pointer (some ⟨b1, 0, none⟩)) (.agg #[(.int .u64 0), (.string ((⟨#[]⟩ : ByteArray))), (.int .u64 0), (.int .u64 0), (.bool false), (.int .u64 0)]) τ5) fun τ11 =>
 pu (aLoad true 6 (.pointer (some ⟨b1, 0, none⟩)) τ11) fun v12 =>
 Q (.ret (.tuple #[v12, (.int .i64 2)])) τ11) (
 E f_model_Model_named [(.pointer (some ⟨x0, 0, none⟩)), (.string x1)] τ5 (c2 Q fun v20 v21 τ19 =>
 tI .i64 (fun n22 =>
 If (!decide (n22 = 0)) (
 pu (aStore 6 (.pointer (some ⟨b1, 0, none⟩)) (.agg #[(.int .u64 0), (.string ((⟨#[]⟩ : ByteArray))), (.int .u64 0), (.int .u64 0), (.bool false), (.int .u64 0)]) τ19) fun τ31 =>
 pu (aLoad true 6 (.pointer (some ⟨b1, 0, none⟩)) τ31) fun v32 =>
 Q (.ret (.tuple #[v32, (.int .i64 n22)])) τ31) (
 om (aNil v20) fun v37 =>
 om (aFieldAddr 0 v37) fun v38 =>
 om (aFieldAddr 0 v38) fun v39 =>
 ldI .u64 (aLoad false 1 v39 τ19) fun n40 =>
 om (aFieldAddr 1 v38) fun v41 =>
 ldS (aLoad false 1 v41 τ19) fun s42 =>
 om (aFieldAddr 2 v38) fun v43 =>
 ldI .u64 (aLoad false 1 v43 τ19) fun n44 =>
 om (aFieldAddr 3 v38) fun v45 =>
 ldI .u64 (aLoad false 1 v45 τ19) fun n46 =>
 om (aFieldAddr 4 v38) fun v47 =>
 ldB (aLoad false 1 v47 τ19) fun c48 =>
 om (aFieldAddr 5 v38) fun v49 =>
 ldI .u64 (aLoad false 1 v49 τ19) fun n50 =>
 pu (aStore 6 (.pointer (some ⟨b1, 0, none⟩)) (.agg #[(.int .u64 n40), (.string s42), (.int .u64 n44), (.int .u64 n46), (.bool c48), (.int .u64 n50)]) τ19) fun τ52 =>
 pu (aLoad true 6 (.pointer (some ⟨b1, 0, none⟩)) τ52) fun v53 =>
 Q (.ret (.tuple #[v53, (.int .i64 0)])) τ52)) v21)))
theorem q_model_Model_Get (E : EvT) (Q : RK) (x0 : Nat) (x1 : ByteArray) (σ : AHeap) : xfn P E Try.f55 (fun _ => none) (fun _ => .v) [(.pointer (some ⟨x0, 0, none⟩)), (.string x1)] σ Q = s_model_Model_Get E Q x0 x1 σ := by kernel_rfl
theorem e_model_Model_Get {Q : RK} {x0 : Nat} {x1 : ByteArray} {σ : AHeap} (h : s_model_Model_Get E Q x0 x1 σ) : E f_model_Model_Get [(.pointer (some ⟨x0, 0, none⟩)), (.string x1)] σ Q :=
  exfn Try.func55 _ _ (by kernel_rfl) (Eq.mpr (q_model_Model_Get E Q x0 x1 σ) h)

def s_model_Model_Delete_k8 (E : EvT) (Q : RK) (n48 : Int) (τ46 : AHeap) : Prop :=
 Q (.ret (.int .i64 n48)) τ46
def s_model_Model_Delete_k6 (E : EvT) (Q : RK) (n29 : Int) (b34 : Nat) (v39 : Value) (τ28 : AHeap) : Prop :=
 If (decide (n29 = 0)) (
 om (L b34 1 τ28) fun v36 =>
 om (aNil v39) fun v41 =>
 om (aFieldAddr 0 v41) fun v42 =>
 om (aFieldAddr 0 v42) fun v43 =>
 ldI .u64 (aLoad false 1 v43 τ28) fun n44 =>
 pu (aDelete P t_m_uint64_p_model_held v36 (.int .u64 n44) τ28) fun τ45 =>
 (s_model_Model_Delete_k8 E Q n29 τ45)) (
 (s_model_Model_Delete_k8 E Q n29 τ28))
/-- (*cistern/model.Model).Delete -/
def s_model_Model_Delete (E : EvT) (Q : RK) (x0 : Nat) (x1 : ByteArray) (x2 : Bool) (σ : AHeap) : Prop :=
 E f_model_Model_none [(.pointer (some ⟨x0, 0, none⟩))] σ (cB Q fun c4 τ3 =>
 If c4 (
 Q (.ret (.int .i64 2)) τ3) (
 E f_model_Model_named [(.pointer (some ⟨x0, 0, none⟩)), (.string x1)] τ3 (c2 Q fun v14 v15 τ13 =>
 tI .i64 (fun n16 =>
 If (decide (n16 = 0)) (
 E f_model_full [(.bool x2)] τ13 (cI Q .i64 fun n27 τ26 =>
 (s_model_Model_Delete_k6 E Q n27 x0 v14 τ26))) (
 (s_model_Model_Delete_k6 E Q n16 x0 v14 τ13))) v15)))
theorem q_model_Model_Delete (E : EvT) (Q : RK) (x0 : Nat) (x1 : ByteArray) (x2 : Bool) (σ : AHeap) : xfn P E Try.f56 (hl [(3, .ord [(0, []), (1, []), (2, []), (3, []), (4, []), (5, []), (6, []), (7, []), (8, []), (9, [])])]) (fun _ => .v) [(.pointer (some ⟨x0, 0, none⟩)), (.string x1), (.bool x2)] σ Q = s_model_Model_Delete E Q x0 x1 x2 σ := by kernel_rfl
theorem e_model_Model_Delete {Q : RK} {x0 : Nat} {x1 : ByteArray} {x2 : Bool} {σ : AHeap} (h : s_model_Model_Delete E Q x0 x1 x2 σ) : E f_model_Model_Delete [(.pointer (some ⟨x0, 0, none⟩)), (.string x1), (.bool x2)] σ Q :=
  exfn Try.func56 _ _ (by kernel_rfl) (Eq.mpr (q_model_Model_Delete E Q x0 x1 x2 σ) h)

/-- (*cistern/model.Model).Resize -/
def s_model_Model_Resize (E : EvT) (Q : RK) (x0 : Nat) (x1 : ByteArray) (x2 : Int) (x3 : Bool) (σ : AHeap) : Prop :=
 E f_model_Model_none [(.pointer (some ⟨x0, 0, none⟩))] σ (cB Q fun c4 τ3 =>
 If c4 (
 Q (.ret (.int .i64 2)) τ3) (
 E f_model_size [(.int .u64 x2)] τ3 (cB Q fun c12 τ11 =>
 If (!c12) (
 Q (.ret (.int .i64 1)) τ11) (
 E f_model_Model_named [(.pointer (some ⟨x0, 0, none⟩)), (.string x1)] τ11 (c2 Q fun v26 v27 τ25 =>
 tI .i64 (fun n28 =>
 If (!decide (n28 = 0)) (
 Q (.ret (.int .i64 n28)) τ25) (
 om (aNil v26) fun v36 =>
 om (aFieldAddr 0 v36) fun v37 =>
 om (aFieldAddr 4 v37) fun v38 =>
 ldB (aLoad false 1 v38 τ25) fun c39 =>
 If c39 (
 Q (.ret (.int .i64 30)) τ25) (
 If x3 (
 Q (.ret (.int .i64 8)) τ25) (
 om (aNil v26) fun v63 =>
 om (aFieldAddr 0 v63) fun v64 =>
 om (aFieldAddr 2 v64) fun v65 =>
 pu (aStore 1 v65 (.int .u64 x2) τ25) fun τ66 =>
 E f_model_held_clear [v26, (.int .u64 x2), (.int .u64 4294967296)] τ66 (c0 Q fun τ70 =>
 Q (.ret (.int .i64 0)) τ70))))) v27)))))
theorem q_model_Model_Resize (E : EvT) (Q : RK) (x0 : Nat) (x1 : ByteArray) (x2 : Int) (x3 : Bool) (σ : AHeap) : xfn P E Try.f57 (fun _ => none) (fun _ => .v) [(.pointer (some ⟨x0, 0, none⟩)), (.string x1), (.int .u64 x2), (.bool x3)] σ Q = s_model_Model_Resize E Q x0 x1 x2 x3 σ := by kernel_rfl
theorem e_model_Model_Resize {Q : RK} {x0 : Nat} {x1 : ByteArray} {x2 : Int} {x3 : Bool} {σ : AHeap} (h : s_model_Model_Resize E Q x0 x1 x2 x3 σ) : E f_model_Model_Resize [(.pointer (some ⟨x0, 0, none⟩)), (.string x1), (.int .u64 x2), (.bool x3)] σ Q :=
  exfn Try.func57 _ _ (by kernel_rfl) (Eq.mpr (q_model_Model_Resize E Q x0 x1 x2 x3 σ) h)

def s_model_Model_Write_b1 (N1 : Int → AHeap → Prop) (E : EvT) (Q : RK) (v45 v52 v54 : Value) (n56 n43 : Int) (τ57 : AHeap) : Prop :=
 If (decide (n43 < n56)) (
 om (aIndexAddr 4 v54 (.int .i64 n43)) fun v65 =>
 om (aFieldAddr 0 v65) fun v66 =>
 ldI .u64 (aLoad false 1 v66 τ57) fun n67 =>
 om (aFieldAddr 1 v65) fun v68 =>
 ldI .i64 (aLoad false 1 v68 τ57) fun n69 =>
 om (aFieldAddr 2 v65) fun v70 =>
 ldI .i64 (aLoad false 1 v70 τ57) fun n71 =>
 om (aFieldAddr 3 v65) fun v72 =>
 ldI .i64 (aLoad false 1 v72 τ57) fun n73 =>
 wNew τ57 (.cells [(.int .u64 0), (.int .i64 0), (.int .i64 0), (.int .i64 0)] t_api_Piece false) fun b74 τ75 =>
 pu (aStore 4 (.pointer (some ⟨b74, 0, none⟩)) (.agg #[(.int .u64 n67), (.int .i64 n69), (.int .i64 n71), (.int .i64 n73)]) τ75) fun τ76 =>
 om (aNil v52) fun v81 =>
 om (aFieldAddr 6 v81) fun v82 =>
 om (aLoad false 1 v82 τ76) fun v83 =>
 ldI .u64 (L b74 0 τ76) fun n85 =>
 om (aLookup P t_m_uint64_model_block v83 (.int .u64 n85) false τ76) fun v86 =>
 wNew τ76 (.cells (List.replicate 256 (.int .u8 0)) t_model_block false) fun b87 τ88 =>
 om (aLoad false 1 v82 τ88) fun v89 =>
 veq1 v89 v83 = true ∧
 ldI .u64 (L b74 0 τ88) fun n90 =>
 veq1 (.int .u64 n90) (.int .u64 n85) = true ∧
 om (aLookup P t_m_uint64_model_block v83 (.int .u64 n85) false τ88) fun v91 =>
 veq1 v91 v86 = true ∧
 pu (aStore 256 (.pointer (some ⟨b87, 0, none⟩)) v86 τ88) fun τ92 =>
 ldI .i64 (L b74 1 τ92) fun n95 =>
 ldI .i64 (L b74 2 τ92) fun n96 =>
 om (aSliceArr 256 1 (.pointer (some ⟨b87, 0, none⟩)) (some (.int .i64 n95)) (some (.int .i64 n96)) none) fun v98 =>
 ldI .i64 (L b74 3 τ92) fun n103 =>
 om (aSlice 1 v45 (some (.int .i64 n103)) none none) fun v104 =>
 pu (aCopy 1 v98 v104 τ92) fun r105 =>
 ldI .u64 (L b74 0 r105.2) fun n110 =>
 om (aLoad true 256 (.pointer (some ⟨b87, 0, none⟩)) r105.2) fun v112 =>
 E f_model_held_put [v52, (.int .u64 n110), v112] r105.2 (c0 Q fun τ113 =>
 Bi (w64 (n43 + 1)) fun n119 =>
 N1 n119 τ113)) (
 Q (.ret (.int .i64 0)) τ57)
def s_model_Model_Write_k4 (E : EvT) (Q : RK) (n22 n29 : Int) (v34 v48 : Value) (τ21 : AHeap) : Prop :=
 If (!decide (n22 = 0)) (
 Q (.ret (.int .i64 n22)) τ21) (
 ldI .i64 (lenS v34) fun n37 =>
 Bi (wu64 (n37)) fun n38 =>
 E f_pieces_Cut [(.int .u64 n29), (.int .u64 n38)] τ21 (cV Q fun v40 τ39 =>
 ldI .i64 (lenS v40) fun n41 =>
 ∃ I121 : Nat → Int → AHeap → Prop, (∃ m, I121 m 0 τ39) ∧
 ∀ m (n43 : Int) (σ' : AHeap), I121 m n43 σ' → (s_model_Model_Write_b1 (fun n43 σ' => ∃ m', m' < m ∧ I121 m' n43 σ') E Q v34 v48 v40 n41 n43 σ')))
/-- (*cistern/model.Model).Write -/
def s_model_Model_Write (E : EvT) (Q : RK) (x0 : Nat) (x1 x2 : Int) (x3 : Value) (x4 : Bool) (σ : AHeap) : Prop :=
 ldI .i64 (lenS x3) fun n6 =>
 Bi (wu64 (n6)) fun n7 =>
 E f_model_Model_asked [(.pointer (some ⟨x0, 0, none⟩)), (.int .u64 x1), (.int .u64 x2), (.int .u64 n7), (.bool true), (.bool true)] σ (c2 Q fun v9 v10 τ8 =>
 tI .i64 (fun n11 =>
 If (decide (n11 = 0)) (
 E f_model_full [(.bool x4)] τ8 (cI Q .i64 fun n20 τ19 =>
 (s_model_Model_Write_k4 E Q n20 x2 x3 v9 τ19))) (
 (s_model_Model_Write_k4 E Q n11 x2 x3 v9 τ8))) v10)
theorem q_model_Model_Write (E : EvT) (Q : RK) (x0 : Nat) (x1 x2 : Int) (x3 : Value) (x4 : Bool) (σ : AHeap) : xfn P E Try.f58 (hl [(3, .loopr [3, 11, 37, 38] [39] [] [39]), (6, .ord [(0, []), (1, []), (2, []), (3, []), (4, []), (5, []), (6, []), (7, [3, 5, 6]), (8, [])]), (7, .ord [(0, []), (1, []), (2, []), (3, []), (4, []), (5, []), (6, []), (7, []), (8, []), (9, [])])]) (fun | 39 => (.i .i64) | _ => .v) [(.pointer (some ⟨x0, 0, none⟩)), (.int .u64 x1), (.int .u64 x2), x3, (.bool x4)] σ Q = s_model_Model_Write E Q x0 x1 x2 x3 x4 σ := by kernel_rfl
theorem e_model_Model_Write {Q : RK} {x0 : Nat} {x1 x2 : Int} {x3 : Value} {x4 : Bool} {σ : AHeap} (h : s_model_Model_Write E Q x0 x1 x2 x3 x4 σ) : E f_model_Model_Write [(.pointer (some ⟨x0, 0, none⟩)), (.int .u64 x1), (.int .u64 x2), x3, (.bool x4)] σ Q :=
  exfn Try.func58 _ _ (by kernel_rfl) (Eq.mpr (q_model_Model_Write E Q x0 x1 x2 x3 x4 σ) h)

def s_model_Model_Trim_k7 (E : EvT) (Q : RK) (n50 : Int) (τ47 : AHeap) : Prop :=
 Q (.ret (.int .i64 n50)) τ47
def s_model_Model_Trim_k4 (E : EvT) (Q : RK) (n20 n25 n29 : Int) (v39 : Value) (τ19 : AHeap) : Prop :=
 If (decide (n20 = 0)) (
 E f_pieces_Inner [(.int .u64 n25), (.int .u64 n29)] τ19 (c2 Q fun v32 v34 τ31 =>
 tI .u64 (fun n33 =>
 tI .u64 (fun n35 =>
 Bi (wu64 (n33 * 256)) fun n43 =>
 Bi (wu64 (n35 * 256)) fun n45 =>
 E f_model_held_clear [v39, (.int .u64 n43), (.int .u64 n45)] τ31 (c0 Q fun τ46 =>
 (s_model_Model_Trim_k7 E Q n20 τ46))) v34) v32)) (
 (s_model_Model_Trim_k7 E Q n20 τ19))
/-- (*cistern/model.Model).Trim -/
def s_model_Model_Trim (E : EvT) (Q : RK) (x0 : Nat) (x1 x2 x3 : Int) (x4 : Bool) (σ : AHeap) : Prop :=
 E f_model_Model_asked [(.pointer (some ⟨x0, 0, none⟩)), (.int .u64 x1), (.int .u64 x2), (.int .u64 x3), (.bool true), (.bool false)] σ (c2 Q fun v7 v8 τ6 =>
 tI .i64 (fun n9 =>
 If (decide (n9 = 0)) (
 E f_model_full [(.bool x4)] τ6 (cI Q .i64 fun n18 τ17 =>
 (s_model_Model_Trim_k4 E Q n18 x2 x3 v7 τ17))) (
 (s_model_Model_Trim_k4 E Q n9 x2 x3 v7 τ6))) v8)
theorem q_model_Model_Trim (E : EvT) (Q : RK) (x0 : Nat) (x1 x2 x3 : Int) (x4 : Bool) (σ : AHeap) : xfn P E Try.f59 (fun _ => none) (fun _ => .v) [(.pointer (some ⟨x0, 0, none⟩)), (.int .u64 x1), (.int .u64 x2), (.int .u64 x3), (.bool x4)] σ Q = s_model_Model_Trim E Q x0 x1 x2 x3 x4 σ := by kernel_rfl
theorem e_model_Model_Trim {Q : RK} {x0 : Nat} {x1 x2 x3 : Int} {x4 : Bool} {σ : AHeap} (h : s_model_Model_Trim E Q x0 x1 x2 x3 x4 σ) : E f_model_Model_Trim [(.pointer (some ⟨x0, 0, none⟩)), (.int .u64 x1), (.int .u64 x2), (.int .u64 x3), (.bool x4)] σ Q :=
  exfn Try.func59 _ _ (by kernel_rfl) (Eq.mpr (q_model_Model_Trim E Q x0 x1 x2 x3 x4 σ) h)

def s_model_Model_Zero_k6 (E : EvT) (Q : RK) (n39 : Int) (τ37 : AHeap) : Prop :=
 Q (.ret (.int .i64 n39)) τ37
def s_model_Model_Zero_k4 (E : EvT) (Q : RK) (n20 : Int) (v25 : Value) (n29 n33 : Int) (τ19 : AHeap) : Prop :=
 If (decide (n20 = 0)) (
 Bi (wu64 (n29 + n33)) fun n35 =>
 E f_model_held_clear [v25, (.int .u64 n29), (.int .u64 n35)] τ19 (c0 Q fun τ36 =>
 (s_model_Model_Zero_k6 E Q n20 τ36))) (
 (s_model_Model_Zero_k6 E Q n20 τ19))
/-- (*cistern/model.Model).Zero -/
def s_model_Model_Zero (E : EvT) (Q : RK) (x0 : Nat) (x1 x2 x3 : Int) (x4 : Bool) (σ : AHeap) : Prop :=
 E f_model_Model_asked [(.pointer (some ⟨x0, 0, none⟩)), (.int .u64 x1), (.int .u64 x2), (.int .u64 x3), (.bool true), (.bool false)] σ (c2 Q fun v7 v8 τ6 =>
 tI .i64 (fun n9 =>
 If (decide (n9 = 0)) (
 E f_model_full [(.bool x4)] τ6 (cI Q .i64 fun n18 τ17 =>
 (s_model_Model_Zero_k4 E Q n18 v7 x2 x3 τ17))) (
 (s_model_Model_Zero_k4 E Q n9 v7 x2 x3 τ6))) v8)
theorem q_model_Model_Zero (E : EvT) (Q : RK) (x0 : Nat) (x1 x2 x3 : Int) (x4 : Bool) (σ : AHeap) : xfn P E Try.f60 (fun _ => none) (fun _ => .v) [(.pointer (some ⟨x0, 0, none⟩)), (.int .u64 x1), (.int .u64 x2), (.int .u64 x3), (.bool x4)] σ Q = s_model_Model_Zero E Q x0 x1 x2 x3 x4 σ := by kernel_rfl
theorem e_model_Model_Zero {Q : RK} {x0 : Nat} {x1 x2 x3 : Int} {x4 : Bool} {σ : AHeap} (h : s_model_Model_Zero E Q x0 x1 x2 x3 x4 σ) : E f_model_Model_Zero [(.pointer (some ⟨x0, 0, none⟩)), (.int .u64 x1), (.int .u64 x2), (.int .u64 x3), (.bool x4)] σ Q :=
  exfn Try.func60 _ _ (by kernel_rfl) (Eq.mpr (q_model_Model_Zero E Q x0 x1 x2 x3 x4 σ) h)

/-- (*cistern/model.Model).Same -/
def s_model_Model_Same (E : EvT) (Q : RK) (x0 x1 : Nat) (σ : AHeap) : Prop :=
 E f_model_Model_none [(.pointer (some ⟨x0, 0, none⟩))] σ (cB Q fun c4 τ3 =>
 If (!c4) (
 E f_model_Model_none [(.pointer (some ⟨x1, 0, none⟩))] τ3 (cB Q fun c7 τ6 =>
 If (!c7) (
 ldI .u64 (L x0 0 τ6) fun n8 =>
 ldI .u64 (L x1 0 τ6) fun n9 =>
 If (decide (n8 = n9)) (
 om (L x0 1 τ6) fun v10 =>
 om (L x1 1 τ6) fun v11 =>
 E f_maps_EqualFunc_map_uint64_model_held_map_uint64_model_held_uint64_model_held_model_held [v10, v11, (.func (.func f_model_Model_Same_c1) #[] #[])] τ6 (cB Q fun c13 τ12 =>
 Q (.ret (.bool c13)) τ12)) (
 Q (.ret (.bool false)) τ6)) (
 Q (.ret (.bool false)) τ6))) (
 Q (.ret (.bool false)) τ3))
theorem q_model_Model_Same (E : EvT) (Q : RK) (x0 x1 : Nat) (σ : AHeap) : xfn P E Try.f61 (hl [(0, .ord [(0, []), (1, []), (2, []), (3, []), (4, []), (5, []), (6, []), (7, []), (8, []), (9, []), (10, []), (11, []), (12, []), (13, []), (14, []), (15, []), (16, []), (17, []), (18, []), (19, []), (20, []), (21, []), (22, []), (23, []), (24, []), (25, []), (26, []), (27, []), (28, []), (29, []), (30, [])])]) (fun _ => .v) [(.pointer (some ⟨x0, 0, none⟩)), (.pointer (some ⟨x1, 0, none⟩))] σ Q = s_model_Model_Same E Q x0 x1 σ := by kernel_rfl
theorem e_model_Model_Same {Q : RK} {x0 x1 : Nat} {σ : AHeap} (h : s_model_Model_Same E Q x0 x1 σ) : E f_model_Model_Same [(.pointer (some ⟨x0, 0, none⟩)), (.pointer (some ⟨x1, 0, none⟩))] σ Q :=
  exfn Try.func61 _ _ (by kernel_rfl) (Eq.mpr (q_model_Model_Same E Q x0 x1 σ) h)

/-- (*cistern/model.Model).Same$1 -/
def s_model_Model_Same_c1 (E : EvT) (Q : RK) (x0 x1 : Nat) (σ : AHeap) : Prop :=
 ldI .u64 (L x0 0 σ) fun n3 =>
 ldS (L x0 1 σ) fun s4 =>
 ldI .u64 (L x0 2 σ) fun n5 =>
 ldI .u64 (L x0 3 σ) fun n6 =>
 ldB (L x0 4 σ) fun c7 =>
 ldI .u64 (L x0 5 σ) fun n8 =>
 ldI .u64 (L x1 0 σ) fun n10 =>
 ldS (L x1 1 σ) fun s11 =>
 ldI .u64 (L x1 2 σ) fun n12 =>
 ldI .u64 (L x1 3 σ) fun n13 =>
 ldB (L x1 4 σ) fun c14 =>
 ldI .u64 (L x1 5 σ) fun n15 =>
 ldB (aBinP P t_api_Volume .eql (.agg #[(.int .u64 n3), (.string s4), (.int .u64 n5), (.int .u64 n6), (.bool c7), (.int .u64 n8)]) (.agg #[(.int .u64 n10), (.string s11), (.int .u64 n12), (.int .u64 n13), (.bool c14), (.int .u64 n15)])) fun c16 =>
 If c16 (
 om (L x0 6 σ) fun v17 =>
 om (L x1 6 σ) fun v18 =>
 E f_maps_Equal_map_uint64_model_block_map_uint64_model_block_uint64_model_block [v17, v18] σ (cB Q fun c20 τ19 =>
 Q (.ret (.bool c20)) τ19)) (
 Q (.ret (.bool false)) σ)
theorem q_model_Model_Same_c1 (E : EvT) (Q : RK) (x0 x1 : Nat) (σ : AHeap) : xfn P E Try.f97 (hl [(0, .ord [(0, []), (1, []), (2, []), (3, []), (4, []), (5, []), (6, []), (7, []), (8, []), (9, []), (10, []), (11, []), (12, []), (13, []), (14, []), (15, []), (16, []), (17, []), (18, []), (19, []), (20, [])])]) (fun _ => .v) [(.pointer (some ⟨x0, 0, none⟩)), (.pointer (some ⟨x1, 0, none⟩))] σ Q = s_model_Model_Same_c1 E Q x0 x1 σ := by kernel_rfl
theorem e_model_Model_Same_c1 {Q : RK} {x0 x1 : Nat} {σ : AHeap} (h : s_model_Model_Same_c1 E Q x0 x1 σ) : E f_model_Model_Same_c1 [(.pointer (some ⟨x0, 0, none⟩)), (.pointer (some ⟨x1, 0, none⟩))] σ Q :=
  exfn Try.func97 _ _ (by kernel_rfl) (Eq.mpr (q_model_Model_Same_c1 E Q x0 x1 σ) h)

def s_model_Model_Copy_b1 (N1 : AHeap → Prop) (E : EvT) (Q : RK) (b21 : Nat) (v23 : Value) (τ24 : AHeap) : Prop :=
 pu (aNextMap v23 τ24) fun l25 =>
 ∀ r26 ∈ l25,
 ldB (xExt r26.1 0) fun c27 =>
 If c27 (
 om (aEntry v23 r26.2) fun v33 =>
 ldI .u64 (xExt v33 0) fun n34 =>
 om (xExt v33 1) fun v35 =>
 om (L b21 1 r26.2) fun v40 =>
 om (aNil v35) fun v43 =>
 om (aFieldAddr 0 v43) fun v44 =>
 om (aFieldAddr 0 v44) fun v45 =>
 ldI .u64 (aLoad false 1 v45 r26.2) fun n46 =>
 om (aFieldAddr 1 v44) fun v47 =>
 ldS (aLoad false 1 v47 r26.2) fun s48 =>
 om (aFieldAddr 2 v44) fun v49 =>
 ldI .u64 (aLoad false 1 v49 r26.2) fun n50 =>
 om (aFieldAddr 3 v44) fun v51 =>
 ldI .u64 (aLoad false 1 v51 r26.2) fun n52 =>
 om (aFieldAddr 4 v44) fun v53 =>
 ldB (aLoad false 1 v53 r26.2) fun c54 =>
 om (aFieldAddr 5 v44) fun v55 =>
 ldI .u64 (aLoad false 1 v55 r26.2) fun n56 =>
 om (aNil v35) fun v57 =>
 om (aFieldAddr 6 v57) fun v58 =>
 om (aLoad false 1 v58 r26.2) fun v59 =>
 E f_maps_Clone_map_uint64_model_block_uint64_model_block [v59] r26.2 (cV Q fun v61 τ60 =>
 om (L b21 1 τ60) fun v62 =>
 veq1 v62 v40 = true ∧
 om (aFieldAddr 0 v44) fun v63 =>
 ldI .u64 (aLoad false 1 v63 τ60) fun n64 =>
 om (aFieldAddr 1 v44) fun v65 =>
 ldS (aLoad false 1 v65 τ60) fun s66 =>
 om (aFieldAddr 2 v44) fun v67 =>
 ldI .u64 (aLoad false 1 v67 τ60) fun n68 =>
 om (aFieldAddr 3 v44) fun v69 =>
 ldI .u64 (aLoad false 1 v69 τ60) fun n70 =>
 om (aFieldAddr 4 v44) fun v71 =>
 ldB (aLoad false 1 v71 τ60) fun c72 =>
 om (aFieldAddr 5 v44) fun v73 =>
 ldI .u64 (aLoad false 1 v73 τ60) fun n74 =>
 veq1 (.agg #[(.int .u64 n64), (.string s66), (.int .u64 n68), (.int .u64 n70), (.bool c72), (.int .u64 n74)]) (.agg #[(.int .u64 n46), (.string s48), (.int .u64 n50), (.int .u64 n52), (.bool c54), (.int .u64 n56)]) = true ∧
 On v61 (
 wNew τ60 (.cells [(.int .u64 n46), (.string s48), (.int .u64 n50), (.int .u64 n52), (.bool c54), (.int .u64 n56), v61] t_model_held false) fun b75 τ76 =>
 om (L b21 1 τ76) fun v77 =>
 veq1 v77 v40 = true ∧
 pu (aMapUpdate P t_m_uint64_p_model_held v40 (.int .u64 n34) (.pointer (some ⟨b75, 0, none⟩)) τ76) fun τ78 =>
 N1 τ78))) (
 Q (.ret (.pointer (some ⟨b21, 0, none⟩))) r26.2)
/-- (*cistern/model.Model).Copy -/
def s_model_Model_Copy (E : EvT) (Q : RK) (x0 : Nat) (σ : AHeap) : Prop :=
 E f_model_Model_none [(.pointer (some ⟨x0, 0, none⟩))] σ (cB Q fun c4 τ3 =>
 If c4 (
 Q (.ret (.pointer none)) τ3) (
 ldI .u64 (L x0 0 τ3) fun n10 =>
 pu (aMakeMap P t_m_uint64_p_model_held none τ3) fun r11 =>
 On r11.1 (
 wNew r11.2 (.cells [(.int .u64 n10), r11.1] t_model_Model false) fun b12 τ13 =>
 om (L x0 1 τ13) fun v16 =>
 pu (aRange P t_m_uint64_p_model_held v16 τ13) fun r17 =>
 ∃ I81 : Nat → AHeap → Prop, (∃ m, I81 m r17.2) ∧
 ∀ m (σ' : AHeap), I81 m  σ' → (s_model_Model_Copy_b1 (fun  σ' => ∃ m', m' < m ∧ I81 m'  σ') E Q b12 r17.1  σ'))))
theorem q_model_Model_Copy (E : EvT) (Q : RK) (x0 : Nat) (σ : AHeap) : xfn P E Try.f62 (hl [(2, .loopr [3, 19] [] [3] [3]), (5, .ord [(0, []), (1, []), (2, []), (3, []), (4, []), (5, []), (6, []), (7, []), (8, []), (9, []), (10, []), (11, []), (12, []), (13, [3, 8]), (14, []), (15, [3]), (16, [])])]) (fun _ => .v) [(.pointer (some ⟨x0, 0, none⟩))] σ Q = s_model_Model_Copy E Q x0 σ := by kernel_rfl
theorem e_model_Model_Copy {Q : RK} {x0 : Nat} {σ : AHeap} (h : s_model_Model_Copy E Q x0 σ) : E f_model_Model_Copy [(.pointer (some ⟨x0, 0, none⟩))] σ Q :=
  exfn Try.func62 _ _ (by kernel_rfl) (Eq.mpr (q_model_Model_Copy E Q x0 σ) h)

/-- maps.Clone[map[uint64]cistern/model.block,uint64,cistern/model.block] -/
def s_maps_Clone_map_uint64_model_block_uint64_model_block (E : EvT) (Q : RK) (x0 : Value) (σ : AHeap) : Prop :=
 ldB (aBin (some (.map t_uint64 t_model_block)) .eql x0 (.map none)) fun c3 =>
 If c3 (
 Q (.ret (.map none)) σ) (
 om (aIface P t_m_uint64_model_block x0) fun v9 =>
 E f_maps_clone [v9] σ (cV Q fun v11 τ10 =>
 om (aAssert P t_m_uint64_model_block false v11) fun v12 =>
 Q (.ret v12) τ10))
theorem q_maps_Clone_map_uint64_model_block_uint64_model_block (E : EvT) (Q : RK) (x0 : Value) (σ : AHeap) : xfn P E Try.f88 (fun _ => none) (fun _ => .v) [x0] σ Q = s_maps_Clone_map_uint64_model_block_uint64_model_block E Q x0 σ := by kernel_rfl
theorem e_maps_Clone_map_uint64_model_block_uint64_model_block {Q : RK} {x0 : Value} {σ : AHeap} (h : s_maps_Clone_map_uint64_model_block_uint64_model_block E Q x0 σ) : E f_maps_Clone_map_uint64_model_block_uint64_model_block [x0] σ Q :=
  exfn Try.func88 _ _ (by kernel_rfl) (Eq.mpr (q_maps_Clone_map_uint64_model_block_uint64_model_block E Q x0 σ) h)

def s_maps_EqualFunc_map_uint64_model_held_map_uint64_model_held_uint64_model_held_model_held_k9 (N1 : AHeap → Prop) (E : EvT) (Q : RK) (c47 : Bool) (τ46 : AHeap) : Prop :=
 If c47 (
 Q (.ret (.bool false)) τ46) (
 N1 τ46)
def s_maps_EqualFunc_map_uint64_model_held_map_uint64_model_held_uint64_model_held_model_held_b1 (N1 : AHeap → Prop) (E : EvT) (Q : RK) (v16 v21 v23 : Value) (τ24 : AHeap) : Prop :=
 pu (aNextMap v23 τ24) fun l25 =>
 ∀ r26 ∈ l25,
 ldB (xExt r26.1 0) fun c27 =>
 If c27 (
 om (aEntry v23 r26.2) fun v33 =>
 ldI .u64 (xExt v33 0) fun n34 =>
 om (xExt v33 1) fun v35 =>
 om (aLookup P t_m_uint64_p_model_held v16 (.int .u64 n34) true r26.2) fun v41 =>
 om (xExt v41 0) fun v42 =>
 ldB (xExt v41 1) fun c43 =>
 If (!c43) (
 (s_maps_EqualFunc_map_uint64_model_held_map_uint64_model_held_uint64_model_held_model_held_k9 N1 E Q true r26.2)) (
 wF v21 fun g57 a58 c59 =>
 E g57 (a58 ++ [v35, v42] ++ c59) r26.2 (cB Q fun c56 τ55 =>
 (s_maps_EqualFunc_map_uint64_model_held_map_uint64_model_held_uint64_model_held_model_held_k9 N1 E Q (!c56) τ55)))) (
 Q (.ret (.bool true)) r26.2)
/-- maps.EqualFunc[map[uint64]*cistern/model.held,map[uint64]*cistern/model.held,uint64,*cistern/model.held,*cistern/model.held] -/
def s_maps_EqualFunc_map_uint64_model_held_map_uint64_model_held_uint64_model_held_model_held (E : EvT) (Q : RK) (x0 x1 x2 : Value) (σ : AHeap) : Prop :=
 ldI .i64 (lenM x0 σ) fun n3 =>
 ldI .i64 (lenM x1 σ) fun n5 =>
 If (!decide (n3 = n5)) (
 Q (.ret (.bool false)) σ) (
 pu (aRange P t_m_uint64_p_model_held x0 σ) fun r11 =>
 ∃ I61 : Nat → AHeap → Prop, (∃ m, I61 m r11.2) ∧
 ∀ m (σ' : AHeap), I61 m  σ' → (s_maps_EqualFunc_map_uint64_model_held_map_uint64_model_held_uint64_model_held_model_held_b1 (fun  σ' => ∃ m', m' < m ∧ I61 m'  σ') E Q x1 x2 r11.1  σ'))
theorem q_maps_EqualFunc_map_uint64_model_held_map_uint64_model_held_uint64_model_held_model_held (E : EvT) (Q : RK) (x0 x1 x2 : Value) (σ : AHeap) : xfn P E Try.f96 (hl [(2, .loopr [1, 2, 17] [] [6] [6])]) (fun _ => .v) [x0, x1, x2] σ Q = s_maps_EqualFunc_map_uint64_model_held_map_uint64_model_held_uint64_model_held_model_held E Q x0 x1 x2 σ := by kernel_rfl
theorem e_maps_EqualFunc_map_uint64_model_held_map_uint64_model_held_uint64_model_held_model_held {Q : RK} {x0 x1 x2 : Value} {σ : AHeap} (h : s_maps_EqualFunc_map_uint64_model_held_map_uint64_model_held_uint64_model_held_model_held E Q x0 x1 x2 σ) : E f_maps_EqualFunc_map_uint64_model_held_map_uint64_model_held_uint64_model_held_model_held [x0, x1, x2] σ Q :=
  exfn Try.func96 _ _ (by kernel_rfl) (Eq.mpr (q_maps_EqualFunc_map_uint64_model_held_map_uint64_model_held_uint64_model_held_model_held E Q x0 x1 x2 σ) h)

def s_maps_Equal_map_uint64_model_block_map_uint64_model_block_uint64_model_block_k9 (N1 : AHeap → Prop) (E : EvT) (Q : RK) (c48 : Bool) (τ47 : AHeap) : Prop :=
 If c48 (
 Q (.ret (.bool false)) τ47) (
 N1 τ47)
def s_maps_Equal_map_uint64_model_block_map_uint64_model_block_uint64_model_block_b1 (N1 : AHeap → Prop) (E : EvT) (Q : RK) (v16 v18 : Value) (τ19 : AHeap) : Prop :=
 pu (aNextMap v18 τ19) fun l20 =>
 ∀ r21 ∈ l20,
 ldB (xExt r21.1 0) fun c22 =>
 If c22 (
 om (aEntry v18 r21.2) fun v28 =>
 ldI .u64 (xExt v28 0) fun n29 =>
 om (xExt v28 1) fun v30 =>
 wNew r21.2 (.cells (List.replicate 256 (.int .u8 0)) t_model_block false) fun b31 τ32 =>
 pu (aStore 256 (.pointer (some ⟨b31, 0, none⟩)) v30 τ32) fun τ33 =>
 om (aLookup P t_m_uint64_model_block v16 (.int .u64 n29) true τ33) fun v39 =>
 om (xExt v39 0) fun v40 =>
 ldB (xExt v39 1) fun c41 =>
 wNew τ33 (.cells (List.replicate 256 (.int .u8 0)) t_model_block false) fun b42 τ43 =>
 pu (aStore 256 (.pointer (some ⟨b42, 0, none⟩)) v40 τ43) fun τ44 =>
 If (!c41) (
 (s_maps_Equal_map_uint64_model_block_map_uint64_model_block_uint64_model_block_k9 N1 E Q true τ44)) (
 om (aLoad true 256 (.pointer (some ⟨b31, 0, none⟩)) τ44) fun v51 =>
 om (aLoad true 256 (.pointer (some ⟨b42, 0, none⟩)) τ44) fun v53 =>
 ldB (aBinP P t_model_block .neq v51 v53) fun c54 =>
 (s_maps_Equal_map_uint64_model_block_map_uint64_model_block_uint64_model_block_k9 N1 E Q c54 τ44))) (
 Q (.ret (.bool true)) r21.2)
/-- maps.Equal[map[uint64]cistern/model.block,map[uint64]cistern/model.block,uint64,cistern/model.block] -/
def s_maps_Equal_map_uint64_model_block_map_uint64_model_block_uint64_model_block (E : EvT) (Q : RK) (x0 x1 : Value) (σ : AHeap) : Prop :=
 ldI .i64 (lenM x0 σ) fun n3 =>
 ldI .i64 (lenM x1 σ) fun n5 =>
 If (!decide (n3 = n5)) (
 Q (.ret (.bool false)) σ) (
 pu (aRange P t_m_uint64_model_block x0 σ) fun r11 =>
 ∃ I56 : Nat → AHeap → Prop, (∃ m, I56 m r11.2) ∧
 ∀ m (σ' : AHeap), I56 m  σ' → (s_maps_Equal_map_uint64_model_block_map_uint64_model_block_uint64_model_block_b1 (fun  σ' => ∃ m', m' < m ∧ I56 m'  σ') E Q x1 r11.1  σ'))
theorem q_maps_Equal_map_uint64_model_block_map_uint64_model_block_uint64_model_block (E : EvT) (Q : RK) (x0 x1 : Value) (σ : AHeap) : xfn P E Try.f98 (hl [(2, .loopr [1, 15] [] [4] [4])]) (fun _ => .v) [x0, x1] σ Q = s_maps_Equal_map_uint64_model_block_map_uint64_model_block_uint64_model_block E Q x0 x1 σ := by kernel_rfl
theorem e_maps_Equal_map_uint64_model_block_map_uint64_model_block_uint64_model_block {Q : RK} {x0 x1 : Value} {σ : AHeap} (h : s_maps_Equal_map_uint64_model_block_map_uint64_model_block_uint64_model_block E Q x0 x1 σ) : E f_maps_Equal_map_uint64_model_block_map_uint64_model_block_uint64_model_block [x0, x1] σ Q :=
  exfn Try.func98 _ _ (by kernel_rfl) (Eq.mpr (q_maps_Equal_map_uint64_model_block_map_uint64_model_block_uint64_model_block E Q x0 x1 σ) h)

def s_pieces_Cut_k2 (E : EvT) (Q : RK) (c4 : Bool) (n7 n9 : Int) (τ3 : AHeap) : Prop :=
 If c4 (
 Q (.ret (.slice none 0 0)) τ3) (
 wNew τ3 (.cells [(.int .u64 n7), (.int .u64 n9), (.int .i64 0)] t_pieces_cutter false) fun b11 τ12 =>
 E f_pieces_all [(.func (.func f_pieces_cutter_next) #[(.pointer (some ⟨b11, 0, none⟩))] #[])] τ12 (cV Q fun v16 τ15 =>
 Q (.ret v16) τ15))
/-- cistern/pieces.Cut -/
def s_pieces_Cut (E : EvT) (Q : RK) (x0 x1 : Int) (σ : AHeap) : Prop :=
 If (decide (65536 < x1)) (
 (s_pieces_Cut_k2 E Q true x0 x1 σ)) (
 E f_pieces_Within [(.int .u64 x0), (.int .u64 x1), (.int .u64 4294967296)] σ (cB Q fun c18 τ17 =>
 (s_pieces_Cut_k2 E Q (!c18) x0 x1 τ17)))
theorem q_pieces_Cut (E : EvT) (Q : RK) (x0 x1 : Int) (σ : AHeap) : xfn P E Try.f90 (fun _ => none) (fun _ => .v) [(.int .u64 x0), (.int .u64 x1)] σ Q = s_pieces_Cut E Q x0 x1 σ := by kernel_rfl
theorem e_pieces_Cut {Q : RK} {x0 x1 : Int} {σ : AHeap} (h : s_pieces_Cut E Q x0 x1 σ) : E f_pieces_Cut [(.int .u64 x0), (.int .u64 x1)] σ Q :=
  exfn Try.func90 _ _ (by kernel_rfl) (Eq.mpr (q_pieces_Cut E Q x0 x1 σ) h)

/-- cistern/pieces.Inner -/
def s_pieces_Inner (E : EvT) (Q : RK) (x0 x1 : Int) (σ : AHeap) : Prop :=
 E f_pieces_Within [(.int .u64 x0), (.int .u64 x1), (.int .u64 4294967296)] σ (cB Q fun c5 τ4 =>
 If (!c5) (
 Q (.ret (.tuple #[(.int .u64 0), (.int .u64 0)])) τ4) (
 Bi (wu64 (x0 + 256)) fun n11 =>
 Bi (wu64 (n11 - 1)) fun n12 =>
 Bi (wu64 (Int.tdiv n12 256)) fun n13 =>
 Bi (wu64 (x0 + x1)) fun n16 =>
 Bi (wu64 (Int.tdiv n16 256)) fun n17 =>
 If (decide (n17 ≤ n13)) (
 Q (.ret (.tuple #[(.int .u64 0), (.int .u64 0)])) τ4) (
 Q (.ret (.tuple #[(.int .u64 n13), (.int .u64 n17)])) τ4)))
theorem q_pieces_Inner (E : EvT) (Q : RK) (x0 x1 : Int) (σ : AHeap) : xfn P E Try.f95 (fun _ => none) (fun _ => .v) [(.int .u64 x0), (.int .u64 x1)] σ Q = s_pieces_Inner E Q x0 x1 σ := by kernel_rfl
theorem e_pieces_Inner {Q : RK} {x0 x1 : Int} {σ : AHeap} (h : s_pieces_Inner E Q x0 x1 σ) : E f_pieces_Inner [(.int .u64 x0), (.int .u64 x1)] σ Q :=
  exfn Try.func95 _ _ (by kernel_rfl) (Eq.mpr (q_pieces_Inner E Q x0 x1 σ) h)

/-- cistern/pieces.Within -/
def s_pieces_Within (E : EvT) (Q : RK) (x0 x1 x2 : Int) (σ : AHeap) : Prop :=
 If (decide (x0 ≤ x2)) (
 Bi (wu64 (x2 - x0)) fun n5 =>
 Q (.ret (.bool (decide (x1 ≤ n5)))) σ) (
 Q (.ret (.bool false)) σ)
theorem q_pieces_Within (E : EvT) (Q : RK) (x0 x1 x2 : Int) (σ : AHeap) : xfn P E Try.f110 (fun _ => none) (fun _ => .v) [(.int .u64 x0), (.int .u64 x1), (.int .u64 x2)] σ Q = s_pieces_Within E Q x0 x1 x2 σ := by kernel_rfl
theorem e_pieces_Within {Q : RK} {x0 x1 x2 : Int} {σ : AHeap} (h : s_pieces_Within E Q x0 x1 x2 σ) : E f_pieces_Within [(.int .u64 x0), (.int .u64 x1), (.int .u64 x2)] σ Q :=
  exfn Try.func110 _ _ (by kernel_rfl) (Eq.mpr (q_pieces_Within E Q x0 x1 x2 σ) h)

def s_pieces_all_b1 (N1 : Value → Value → Bool → AHeap → Prop) (E : EvT) (Q : RK) (v17 v13 v14 : Value) (c15 : Bool) (τ18 : AHeap) : Prop :=
 If c15 (
 om (aFieldAddr 0 v14) fun v26 =>
 ldI .u64 (aLoad false 1 v26 τ18) fun n27 =>
 om (aFieldAddr 1 v14) fun v28 =>
 ldI .i64 (aLoad false 1 v28 τ18) fun n29 =>
 om (aFieldAddr 2 v14) fun v30 =>
 ldI .i64 (aLoad false 1 v30 τ18) fun n31 =>
 om (aFieldAddr 3 v14) fun v32 =>
 ldI .i64 (aLoad false 1 v32 τ18) fun n33 =>
 wNew τ18 (.cells [(.int .u64 n27), (.int .i64 n29), (.int .i64 n31), (.int .i64 n33)] t_api_Piece false) fun b34 τ35 =>
 pu (aAppend t_api_Piece 4 32 v13 (.slice (some ⟨b34, 0, none⟩) 1 1) τ35) fun r36 =>
 om (aFieldAddr 0 v14) fun v39 =>
 ldI .u64 (aLoad false 1 v39 r36.2) fun n40 =>
 om (aFieldAddr 1 v14) fun v41 =>
 ldI .i64 (aLoad false 1 v41 r36.2) fun n42 =>
 om (aFieldAddr 2 v14) fun v43 =>
 ldI .i64 (aLoad false 1 v43 r36.2) fun n44 =>
 om (aFieldAddr 3 v14) fun v45 =>
 ldI .i64 (aLoad false 1 v45 r36.2) fun n46 =>
 wNew r36.2 (.cells [(.int .u64 0), (.int .i64 0), (.int .i64 0), (.int .i64 0)] t_api_Piece false) fun b48 τ49 =>
 pu (aStore 4 (.pointer (some ⟨b48, 0, none⟩)) (.agg #[(.int .u64 n40), (.int .i64 n42), (.int .i64 n44), (.int .i64 n46)]) τ49) fun τ54 =>
 wF v17 fun g70 a71 c72 =>
 E g70 (a71 ++ [] ++ c72) τ54 (c2 Q fun v62 v63 τ61 =>
 tB (fun c64 =>
 pu (aStore 4 (.pointer (some ⟨b48, 0, none⟩)) v62 τ61) fun τ66 =>
 N1 r36.1 (.pointer (some ⟨b48, 0, none⟩)) c64 τ66) v63)) (
 ldI .i64 (lenS v13) fun n76 =>
 ldI .i64 (lenS v13) fun n77 =>
 om (aSlice 4 v13 none (some (.int .i64 n76)) (some (.int .i64 n77))) fun v78 =>
 Q (.ret v78) τ18)
/-- cistern/pieces.all -/
def s_pieces_all (E : EvT) (Q : RK) (x0 : Value) (σ : AHeap) : Prop :=
 wF x0 fun g82 a83 c84 =>
 E g82 (a83 ++ [] ++ c84) σ (c2 Q fun v6 v7 τ5 =>
 tB (fun c8 =>
 wNew τ5 (.cells [(.int .u64 0), (.int .i64 0), (.int .i64 0), (.int .i64 0)] t_api_Piece false) fun b9 τ10 =>
 pu (aStore 4 (.pointer (some ⟨b9, 0, none⟩)) v6 τ10) fun τ11 =>
 ∃ I79 : Nat → Value → Value → Bool → AHeap → Prop, (∃ m, I79 m (.slice none 0 0) (.pointer (some ⟨b9, 0, none⟩)) c8 τ11) ∧
 ∀ m (v13 : Value) (v14 : Value) (c15 : Bool) (σ' : AHeap), I79 m v13 v14 c15 σ' → (s_pieces_all_b1 (fun v13 v14 c15 σ' => ∃ m', m' < m ∧ I79 m' v13 v14 c15 σ') E Q x0 v13 v14 c15 σ')) v7)
theorem q_pieces_all (E : EvT) (Q : RK) (x0 : Value) (σ : AHeap) : xfn P E Try.f111 (hl [(1, .loopr [0] [3, 4, 5] [3] [3, 4, 5])]) (fun | 5 => .b | _ => .v) [x0] σ Q = s_pieces_all E Q x0 σ := by kernel_rfl
theorem e_pieces_all {Q : RK} {x0 : Value} {σ : AHeap} (h : s_pieces_all E Q x0 σ) : E f_pieces_all [x0] σ Q :=
  exfn Try.func111 _ _ (by kernel_rfl) (Eq.mpr (q_pieces_all E Q x0 σ) h)

/-- (*cistern/pieces.cutter).next -/
def s_pieces_cutter_next (E : EvT) (Q : RK) (x0 : Nat) (σ : AHeap) : Prop :=
 wNew σ (.cells [(.int .u64 0), (.int .i64 0), (.int .i64 0), (.int .i64 0)] t_api_Piece false) fun b1 τ2 =>
 ldI .u64 (L x0 1 τ2) fun n5 =>
 If (decide (n5 = 0)) (
 pu (aStore 4 (.pointer (some ⟨b1, 0, none⟩)) (.agg #[(.int .u64 0), (.int .i64 0), (.int .i64 0), (.int .i64 0)]) τ2) fun τ10 =>
 pu (aLoad true 4 (.pointer (some ⟨b1, 0, none⟩)) τ10) fun v11 =>
 Q (.ret (.tuple #[v11, (.bool false)])) τ10) (
 ldI .u64 (L x0 0 τ2) fun n15 =>
 Bi (Int.tmod n15 256) fun n16 =>
 ldI .u64 (L x0 1 τ2) fun n19 =>
 Bi (wu64 (256 - n16)) fun n21 =>
 ldI .u64 (L x0 0 τ2) fun n24 =>
 Bi (wu64 (Int.tdiv n24 256)) fun n25 =>
 Bi (w64 (n16)) fun n27 =>
 Bi (wu64 (n16 + (if n21 < n19 then n21 else n19))) fun n29 =>
 Bi (w64 (n29)) fun n30 =>
 ldI .i64 (L x0 2 τ2) fun n31 =>
 wNew τ2 (.cells [(.int .u64 0), (.int .i64 0), (.int .i64 0), (.int .i64 0)] t_api_Piece false) fun b32 τ33 =>
 ldI .u64 (L x0 0 τ33) fun n34 =>
 veq1 (.int .u64 n34) (.int .u64 n24) = true ∧
 Bi (w64 (n16)) fun n35 =>
 veq1 (.int .i64 n35) (.int .i64 n27) = true ∧
 Bi (w64 (n29)) fun n36 =>
 veq1 (.int .i64 n36) (.int .i64 n30) = true ∧
 ldI .i64 (L x0 2 τ33) fun n37 =>
 veq1 (.int .i64 n37) (.int .i64 n31) = true ∧
 pu (aStore 4 (.pointer (some ⟨b32, 0, none⟩)) (.agg #[(.int .u64 n25), (.int .i64 n27), (.int .i64 n30), (.int .i64 n31)]) τ33) fun τ38 =>
 ldI .u64 (L x0 0 τ38) fun n41 =>
 Bi (wu64 (n41 + (if n21 < n19 then n21 else n19))) fun n43 =>
 St x0 0 (.int .u64 n43) τ38 fun τ44 =>
 ldI .u64 (L x0 1 τ44) fun n47 =>
 Bi (wu64 (n47 - (if n21 < n19 then n21 else n19))) fun n49 =>
 St x0 1 (.int .u64 n49) τ44 fun τ50 =>
 ldI .i64 (L x0 2 τ50) fun n53 =>
 Bi (w64 ((if n21 < n19 then n21 else n19))) fun n55 =>
 Bi (w64 (n53 + n55)) fun n56 =>
 St x0 2 (.int .i64 n56) τ50 fun τ57 =>
 ldI .u64 (L b32 0 τ57) fun n63 =>
 ldI .i64 (L b32 1 τ57) fun n64 =>
 ldI .i64 (L b32 2 τ57) fun n65 =>
 ldI .i64 (L b32 3 τ57) fun n66 =>
 pu (aStore 4 (.pointer (some ⟨b1, 0, none⟩)) (.agg #[(.int .u64 n63), (.int .i64 n64), (.int .i64 n65), (.int .i64 n66)]) τ57) fun τ74 =>
 pu (aLoad true 4 (.pointer (some ⟨b1, 0, none⟩)) τ74) fun v75 =>
 Q (.ret (.tuple #[v75, (.bool true)])) τ74)
theorem q_pieces_cutter_next (E : EvT) (Q : RK) (x0 : Nat) (σ : AHeap) : xfn P E Try.f112 (hl [(1, .ord [(0, []), (1, []), (2, []), (3, []), (4, []), (5, []), (6, []), (7, []), (8, []), (9, []), (10, []), (11, []), (12, []), (13, []), (14, []), (15, []), (16, [3, 6, 10, 14]), (17, [])])]) (fun _ => .v) [(.pointer (some ⟨x0, 0, none⟩))] σ Q = s_pieces_cutter_next E Q x0 σ := by kernel_rfl
theorem e_pieces_cutter_next {Q : RK} {x0 : Nat} {σ : AHeap} (h : s_pieces_cutter_next E Q x0 σ) : E f_pieces_cutter_next [(.pointer (some ⟨x0, 0, none⟩))] σ Q :=
  exfn Try.func112 _ _ (by kernel_rfl) (Eq.mpr (q_pieces_cutter_next E Q x0 σ) h)

def s_dir_Named_k8 (N1 : AHeap → Prop) (E : EvT) (Q : RK) (c24 : Bool) (τ23 : AHeap) : Prop :=
 If c24 (
 Q (.ret (.bool false)) τ23) (
 N1 τ23)
def s_dir_Named_b1 (N1 : AHeap → Prop) (E : EvT) (Q : RK) (v11 : Value) (τ12 : AHeap) : Prop :=
 pu (aNextStr v11 τ12) fun r13 =>
 ldB (xExt r13.1 0) fun c14 =>
 If c14 (
 ldI .i32 (xExt r13.1 2) fun n20 =>
 If (decide (n20 < 97)) (
 If (decide (n20 < 48)) (
 If (!decide (n20 = 45)) (
 If (!decide (n20 = 95)) (
 (s_dir_Named_k8 N1 E Q (!decide (n20 = 46)) r13.2)) (
 (s_dir_Named_k8 N1 E Q false r13.2))) (
 (s_dir_Named_k8 N1 E Q false r13.2))) (
 If (decide (57 < n20)) (
 If (!decide (n20 = 45)) (
 If (!decide (n20 = 95)) (
 (s_dir_Named_k8 N1 E Q (!decide (n20 = 46)) r13.2)) (
 (s_dir_Named_k8 N1 E Q false r13.2))) (
 (s_dir_Named_k8 N1 E Q false r13.2))) (
 (s_dir_Named_k8 N1 E Q false r13.2)))) (
 If (decide (122 < n20)) (
 If (decide (n20 < 48)) (
 If (!decide (n20 = 45)) (
 If (!decide (n20 = 95)) (
 (s_dir_Named_k8 N1 E Q (!decide (n20 = 46)) r13.2)) (
 (s_dir_Named_k8 N1 E Q false r13.2))) (
 (s_dir_Named_k8 N1 E Q false r13.2))) (
 If (decide (57 < n20)) (
 If (!decide (n20 = 45)) (
 If (!decide (n20 = 95)) (
 (s_dir_Named_k8 N1 E Q (!decide (n20 = 46)) r13.2)) (
 (s_dir_Named_k8 N1 E Q false r13.2))) (
 (s_dir_Named_k8 N1 E Q false r13.2))) (
 (s_dir_Named_k8 N1 E Q false r13.2)))) (
 isSkip skipV = true ∧
 (s_dir_Named_k8 N1 E Q false r13.2)))) (
 Q (.ret (.bool true)) r13.2)
def s_dir_Named_k2 (E : EvT) (Q : RK) (c4 : Bool) (s6 : ByteArray) (τ3 : AHeap) : Prop :=
 If c4 (
 Q (.ret (.bool false)) τ3) (
 pu (aRange P t_string (.string s6) τ3) fun r8 =>
 ∃ I26 : Nat → AHeap → Prop, (∃ m, I26 m r8.2) ∧
 ∀ m (σ' : AHeap), I26 m  σ' → (s_dir_Named_b1 (fun  σ' => ∃ m', m' < m ∧ I26 m'  σ') E Q r8.1  σ'))
/-- cistern/dir.Named -/
def s_dir_Named (E : EvT) (Q : RK) (x0 : ByteArray) (σ : AHeap) : Prop :=
 If (decide (((x0.size : Int)) < 1)) (
 (s_dir_Named_k2 E Q true x0 σ)) (
 (s_dir_Named_k2 E Q (decide (16 < ((x0.size : Int)))) x0 σ))
theorem q_dir_Named (E : EvT) (Q : RK) (x0 : ByteArray) (σ : AHeap) : xfn P E Try.f108 (hl [(2, .loopr [14] [] [2] [2])]) (fun _ => .v) [(.string x0)] σ Q = s_dir_Named E Q x0 σ := by kernel_rfl
theorem e_dir_Named {Q : RK} {x0 : ByteArray} {σ : AHeap} (h : s_dir_Named E Q x0 σ) : E f_dir_Named [(.string x0)] σ Q :=
  exfn Try.func108 _ _ (by kernel_rfl) (Eq.mpr (q_dir_Named E Q x0 σ) h)

def s_law20_wakes_k13 (E : EvT) (Q : RK) (c62 : Bool) (v65 : Value) (τ61 : AHeap) : Prop :=
 If c62 (
 Q (.ret (.bool false)) τ61) (
 E f_model_Model_Read [v65, (.int .u64 1), (.int .u64 250), (.int .u64 2)] τ61 (c2 Q fun v68 v69 τ67 =>
 tI .i64 (fun n70 =>
 If (decide (n70 = 0)) (
 ldS (aConv P t_sl_uint8 t_string v68 τ67) fun s74 =>
 ldB (aBin (some .string) .eql (.string s74) (.string ((⟨#[48, 0]⟩ : ByteArray)))) fun c75 =>
 If c75 (
 E f_model_Model_List [v65] τ67 (cV Q fun v78 τ77 =>
 ldI .i64 (lenS v78) fun n79 =>
 If (decide (n79 = 2)) (
 E f_model_Model_Copy [v65] τ77 (cV Q fun v81 τ80 =>
 E f_model_Model_Same [v65, v81] τ80 (cB Q fun c83 τ82 =>
 Q (.ret (.bool c83)) τ82))) (
 Q (.ret (.bool false)) τ77))) (
 Q (.ret (.bool false)) τ67)) (
 Q (.ret (.bool false)) τ67)) v69))
def s_law20_wakes_k9 (E : EvT) (Q : RK) (c43 : Bool) (v46 : Value) (τ42 : AHeap) : Prop :=
 If c43 (
 Q (.ret (.bool false)) τ42) (
 E f_model_Model_Read [v46, (.int .u64 2), (.int .u64 250), (.int .u64 4)] τ42 (c2 Q fun v49 v50 τ48 =>
 tI .i64 (fun n51 =>
 E f_model_Model_Read [v46, (.int .u64 1), (.int .u64 250), (.int .u64 8)] τ48 (c2 Q fun v55 v56 τ54 =>
 tI .i64 (fun n57 =>
 If (!decide (n51 = 0)) (
 (s_law20_wakes_k13 E Q true v46 τ54)) (
 If (!decide (n57 = 0)) (
 (s_law20_wakes_k13 E Q true v46 τ54)) (
 ldS (aConv P t_sl_uint8 t_string v49 τ54) fun s87 =>
 ldB (aBin (some .string) .neq (.string s87) (.string ((⟨#[48, 49, 50, 51]⟩ : ByteArray)))) fun c88 =>
 If c88 (
 (s_law20_wakes_k13 E Q true v46 τ54)) (
 ldS (aConv P t_sl_uint8 t_string v55 τ54) fun s90 =>
 ldB (aBin (some .string) .neq (.string s90) (.string ((⟨#[48, 49, 0, 0, 0, 0, 54, 55]⟩ : ByteArray)))) fun c91 =>
 If c91 (
 (s_law20_wakes_k13 E Q true v46 τ54)) (
 E f_model_Model_Resize [v46, (.string ((⟨#[97]⟩ : ByteArray))), (.int .u64 251), (.bool false)] τ54 (cI Q .i64 fun n93 τ92 =>
 If (!decide (n93 = 0)) (
 (s_law20_wakes_k13 E Q true v46 τ92)) (
 E f_model_Model_Resize [v46, (.string ((⟨#[97]⟩ : ByteArray))), (.int .u64 300), (.bool false)] τ92 (cI Q .i64 fun n95 τ94 =>
 (s_law20_wakes_k13 E Q (!decide (n95 = 0)) v46 τ94))))))))) v56)) v50))
def s_law20_wakes_k6 (E : EvT) (Q : RK) (c30 : Bool) (v33 : Value) (τ29 : AHeap) : Prop :=
 If c30 (
 Q (.ret (.bool false)) τ29) (
 E f_model_Model_Snapshot [v33, (.string ((⟨#[97]⟩ : ByteArray))), (.string ((⟨#[115]⟩ : ByteArray))), (.bool true), (.bool false)] τ29 (c2 Q fun v36 v38 τ35 =>
 tI .u64 (fun n37 =>
 tI .i64 (fun n39 =>
 If (!decide (n37 = 2)) (
 (s_law20_wakes_k9 E Q true v33 τ35)) (
 If (!decide (n39 = 0)) (
 (s_law20_wakes_k9 E Q true v33 τ35)) (
 E f_model_Model_Zero [v33, (.int .u64 1), (.int .u64 252), (.int .u64 4), (.bool false)] τ35 (cI Q .i64 fun n98 τ97 =>
 If (!decide (n98 = 0)) (
 (s_law20_wakes_k9 E Q true v33 τ97)) (
 wNew τ97 (.cells [(.int .u8 120)] t_uint8 false) fun b99 τ100 =>
 om (aConv P t_sl_uint8 t_sl_uint8 (.slice (some ⟨b99, 0, none⟩) 1 1) τ100) fun v101 =>
 E f_model_Model_Write [v33, (.int .u64 2), (.int .u64 0), v101, (.bool false)] τ100 (cI Q .i64 fun n103 τ102 =>
 If (!decide (n103 = 30)) (
 (s_law20_wakes_k9 E Q true v33 τ102)) (
 wNew τ102 (.cells [(.int .u8 120), (.int .u8 121)] t_uint8 false) fun b104 τ105 =>
 om (aConv P t_sl_uint8 t_sl_uint8 (.slice (some ⟨b104, 0, none⟩) 2 2) τ105) fun v106 =>
 E f_model_Model_Write [v33, (.int .u64 1), (.int .u64 999), v106, (.bool false)] τ105 (cI Q .i64 fun n108 τ107 =>
 If (!decide (n108 = 31)) (
 (s_law20_wakes_k9 E Q true v33 τ107)) (
 E f_model_Model_Trim [v33, (.int .u64 1), (.int .u64 1), (.int .u64 510), (.bool false)] τ107 (cI Q .i64 fun n110 τ109 =>
 (s_law20_wakes_k9 E Q (!decide (n110 = 0)) v33 τ109))))))))))) v38) v36))
/-- cistern/cisternlaw20.wakes -/
def s_law20_wakes (E : EvT) (Q : RK) (σ : AHeap) : Prop :=
 E f_model_New [] σ (cV Q fun v3 τ2 =>
 E f_model_Model_Create [v3, (.string ((⟨#[97]⟩ : ByteArray))), (.int .u64 1000), (.bool false)] τ2 (c2 Q fun v7 v9 τ6 =>
 tI .u64 (fun n8 =>
 tI .i64 (fun n10 =>
 E f_model_Model_Create [v3, (.string ((⟨#[97]⟩ : ByteArray))), (.int .u64 5), (.bool true)] τ6 (c2 Q fun v14 v16 τ13 =>
 tI .u64 (fun n15 =>
 tI .i64 (fun n17 =>
 E f_model_Model_Create [v3, (.string ((⟨#[98]⟩ : ByteArray))), (.int .u64 5), (.bool true)] τ13 (c2 Q fun v21 v23 τ20 =>
 tI .u64 (fun n22 =>
 tI .i64 (fun n24 =>
 If (!decide (n8 = 1)) (
 (s_law20_wakes_k6 E Q true v3 τ20)) (
 If (!decide (n10 = 0)) (
 (s_law20_wakes_k6 E Q true v3 τ20)) (
 If (!decide (n17 = 7)) (
 (s_law20_wakes_k6 E Q true v3 τ20)) (
 If (!decide (n24 = 8)) (
 (s_law20_wakes_k6 E Q true v3 τ20)) (
 wNew τ20 (.cells [(.int .u8 48), (.int .u8 49), (.int .u8 50), (.int .u8 51), (.int .u8 52), (.int .u8 53), (.int .u8 54), (.int .u8 55), (.int .u8 56), (.int .u8 57)] t_uint8 false) fun b117 τ118 =>
 om (aConv P t_sl_uint8 t_sl_uint8 (.slice (some ⟨b117, 0, none⟩) 10 10) τ118) fun v119 =>
 E f_model_Model_Write [v3, (.int .u64 1), (.int .u64 250), v119, (.bool false)] τ118 (cI Q .i64 fun n121 τ120 =>
 (s_law20_wakes_k6 E Q (!decide (n121 = 0)) v3 τ120))))))) v23) v21)) v16) v14)) v9) v7))
theorem q_law20_wakes (E : EvT) (Q : RK) (σ : AHeap) : xfn P E Try.f47 (fun _ => none) (fun _ => .v) [] σ Q = s_law20_wakes E Q σ := by kernel_rfl
theorem e_law20_wakes {Q : RK} {σ : AHeap} (h : s_law20_wakes E Q σ) : E f_law20_wakes [] σ Q :=
  exfn Try.func47 _ _ (by kernel_rfl) (Eq.mpr (q_law20_wakes E Q σ) h)

def s_law20_ModelTwins_k26 (N2 : Int → AHeap → Prop) (E : EvT) (Q : RK) (n276 n282 n287 : Int) (v292 : Value) (b297 : Nat) (n302 : Int) (v307 : Value) (τ273 : AHeap) : Prop :=
 Bi (w64 (n276 + 1)) fun n277 =>
 N2 n277 τ273
def s_law20_ModelTwins_k25 (N2 : Int → AHeap → Prop) (E : EvT) (Q : RK) (c272 : Bool) (n275 n281 n286 : Int) (v291 : Value) (b296 : Nat) (n301 : Int) (v306 : Value) (b310 : Nat) (τ271 : AHeap) : Prop :=
 If c272 (
 (s_law20_ModelTwins_k26 N2 E Q n275 n281 n286 v291 b296 n301 v306 τ271)) (
 ldI .i64 (L b310 0 τ271) fun n312 =>
 ldS (L b310 1 τ271) fun s313 =>
 ldS (L b310 2 τ271) fun s314 =>
 ldI .u64 (L b310 3 τ271) fun n315 =>
 ldI .u64 (L b310 4 τ271) fun n316 =>
 ldI .u64 (L b310 5 τ271) fun n317 =>
 ldI .u8 (L b310 6 τ271) fun n318 =>
 ldB (L b310 7 τ271) fun c319 =>
 ldB (L b310 8 τ271) fun c320 =>
 om (L b310 9 τ271) fun v321 =>
 E f_law20_alone [v291, (.agg #[(.int .i64 n312), (.string s313), (.string s314), (.int .u64 n315), (.int .u64 n316), (.int .u64 n317), (.int .u8 n318), (.bool c319), (.bool c320), v321])] τ271 (c0 Q fun τ322 =>
 (s_law20_ModelTwins_k26 N2 E Q n275 n281 n286 v291 b296 n301 v306 τ322)))
def s_law20_ModelTwins_k22 (N2 : Int → AHeap → Prop) (E : EvT) (Q : RK) (c237 : Bool) (v239 : Value) (n241 n278 n283 : Int) (v288 : Value) (b293 : Nat) (n298 : Int) (v303 : Value) (τ236 : AHeap) : Prop :=
 If c237 (
 om (aIndexAddr 10 v239 (.int .i64 n241)) fun v243 =>
 om (aFieldAddr 0 v243) fun v244 =>
 ldI .i64 (aLoad false 1 v244 τ236) fun n245 =>
 om (aFieldAddr 1 v243) fun v246 =>
 ldS (aLoad false 1 v246 τ236) fun s247 =>
 om (aFieldAddr 2 v243) fun v248 =>
 ldS (aLoad false 1 v248 τ236) fun s249 =>
 om (aFieldAddr 3 v243) fun v250 =>
 ldI .u64 (aLoad false 1 v250 τ236) fun n251 =>
 om (aFieldAddr 4 v243) fun v252 =>
 ldI .u64 (aLoad false 1 v252 τ236) fun n253 =>
 om (aFieldAddr 5 v243) fun v254 =>
 ldI .u64 (aLoad false 1 v254 τ236) fun n255 =>
 om (aFieldAddr 6 v243) fun v256 =>
 ldI .u8 (aLoad false 1 v256 τ236) fun n257 =>
 om (aFieldAddr 7 v243) fun v258 =>
 ldB (aLoad false 1 v258 τ236) fun c259 =>
 om (aFieldAddr 8 v243) fun v260 =>
 ldB (aLoad false 1 v260 τ236) fun c261 =>
 om (aFieldAddr 9 v243) fun v262 =>
 om (aLoad false 1 v262 τ236) fun v263 =>
 wNew τ236 (.cells [(.int .i64 0), (.string ((⟨#[]⟩ : ByteArray))), (.string ((⟨#[]⟩ : ByteArray))), (.int .u64 0), (.int .u64 0), (.int .u64 0), (.int .u8 0), (.bool false), (.bool false), (.slice none 0 0)] t_law20_Act false) fun b264 τ265 =>
 pu (aStore 10 (.pointer (some ⟨b264, 0, none⟩)) (.agg #[(.int .i64 n245), (.string s247), (.string s249), (.int .u64 n251), (.int .u64 n253), (.int .u64 n255), (.int .u8 n257), (.bool c259), (.bool c261), v263]) τ265) fun τ266 =>
 ldS (L b264 1 τ266) fun s269 =>
 ldB (aBin (some .string) .eql (.string s269) (.string ((⟨#[116, 104, 101, 46, 116, 119, 105, 110]⟩ : ByteArray)))) fun c270 =>
 If c270 (
 (s_law20_ModelTwins_k25 N2 E Q true n241 n278 n283 v288 b293 n298 v303 b264 τ266)) (
 ldI .u64 (L b264 3 τ266) fun n329 =>
 (s_law20_ModelTwins_k25 N2 E Q (decide (n329 = n298)) n241 n278 n283 v288 b293 n298 v303 b264 τ266))) (
 E f_model_Model_ById [v288, (.int .u64 n298)] τ236 (c2 Q fun v334 v335 τ333 =>
 tI .i64 (fun n336 =>
 wNew τ333 (.cells [(.int .u64 0), (.string ((⟨#[]⟩ : ByteArray))), (.int .u64 0), (.int .u64 0), (.bool false), (.int .u64 0)] t_api_Volume false) fun b337 τ338 =>
 pu (aStore 6 (.pointer (some ⟨b337, 0, none⟩)) v334 τ338) fun τ339 =>
 ldI .u64 (L b293 2 τ339) fun n347 =>
 Bi (wu64 (n347 + 1)) fun n348 =>
 ldI .u64 (aBin (some (.int .u64)) .rem (.int .u64 n278) (.int .u64 n348)) fun n349 =>
 ldI .u64 (L b293 2 τ339) fun n352 =>
 ldI .u64 (L b293 2 τ339) fun n353 =>
 Bi (wu64 (n353 + 1)) fun n354 =>
 ldI .u64 (aBin (some (.int .u64)) .rem (.int .u64 n278) (.int .u64 n354)) fun n355 =>
 Bi (wu64 (n352 - n355)) fun n356 =>
 E f_model_Model_Read [v288, (.int .u64 n298), (.int .u64 n349), (.int .u64 (if n356 < n283 then n356 else n283))] τ339 (c2 Q fun v358 v359 τ357 =>
 tI .i64 (fun n360 =>
 If (decide (n336 = 0)) (
 If (decide (n360 = 0)) (
 ldI .u64 (L b337 5 τ357) fun n367 =>
 ldI .u64 (L b293 0 τ357) fun n369 =>
 If (decide (n367 = n369)) (
 ldI .u64 (L b337 2 τ357) fun n370 =>
 ldI .u64 (L b293 2 τ357) fun n371 =>
 If (decide (n370 = n371)) (
 ldB (L b337 4 τ357) fun c372 =>
 If (!c372) (
 ldS (aConv P t_sl_uint8 t_string v303 τ357) fun s376 =>
 ldS (aConv P t_sl_uint8 t_string v358 τ357) fun s378 =>
 ldB (aBin (some .string) .eql (.string s376) (.string s378)) fun c379 =>
 Q (.ret (.bool c379)) τ357) (
 Q (.ret (.bool false)) τ357)) (
 Q (.ret (.bool false)) τ357)) (
 Q (.ret (.bool false)) τ357)) (
 Q (.ret (.bool false)) τ357)) (
 Q (.ret (.bool false)) τ357)) v359)) v335))
def s_law20_ModelTwins_b2 (N2 : Int → AHeap → Prop) (E : EvT) (Q : RK) (v199 : Value) (n204 n209 : Int) (v214 : Value) (b219 : Nat) (n228 : Int) (v233 : Value) (n185 : Int) (τ234 : AHeap) : Prop :=
 ldI .i64 (lenS v199) fun n235 =>
 If (decide (n185 < n235)) (
 (s_law20_ModelTwins_k22 N2 E Q (decide (n185 < 30)) v199 n185 n204 n209 v214 b219 n228 v233 τ234)) (
 (s_law20_ModelTwins_k22 N2 E Q false v199 n185 n204 n209 v214 b219 n228 v233 τ234))
def s_law20_ModelTwins_k19 (E : EvT) (Q : RK) (c182 : Bool) (v196 : Value) (n201 n206 : Int) (v211 : Value) (b216 : Nat) (n225 : Int) (v230 : Value) (τ181 : AHeap) : Prop :=
 If c182 (
 Q (.ret (.bool false)) τ181) (
 ∃ I380 : Nat → Int → AHeap → Prop, (∃ m, I380 m 0 τ181) ∧
 ∀ m (n185 : Int) (σ' : AHeap), I380 m n185 σ' → (s_law20_ModelTwins_b2 (fun n185 σ' => ∃ m', m' < m ∧ I380 m' n185 σ') E Q v196 n201 n206 v211 b216 n225 v230 n185 σ'))
def s_law20_ModelTwins_k11 (E : EvT) (Q : RK) (c94 : Bool) (v96 : Value) (n100 : Int) (v124 : Value) (n141 : Int) (v188 : Value) (τ93 : AHeap) : Prop :=
 If c94 (
 Q (.ret (.bool true)) τ93) (
 ldI .i64 (lenS v96) fun n102 =>
 Bi (wu64 (n102)) fun n103 =>
 ldI .u64 (aBin (some (.int .u64)) .rem (.int .u64 n100) (.int .u64 n103)) fun n104 =>
 Bi (w64 (n104)) fun n105 =>
 om (aIndexAddr 6 v96 (.int .i64 n105)) fun v106 =>
 om (aFieldAddr 0 v106) fun v107 =>
 ldI .u64 (aLoad false 1 v107 τ93) fun n108 =>
 om (aFieldAddr 1 v106) fun v109 =>
 ldS (aLoad false 1 v109 τ93) fun s110 =>
 om (aFieldAddr 2 v106) fun v111 =>
 ldI .u64 (aLoad false 1 v111 τ93) fun n112 =>
 om (aFieldAddr 3 v106) fun v113 =>
 ldI .u64 (aLoad false 1 v113 τ93) fun n114 =>
 om (aFieldAddr 4 v106) fun v115 =>
 ldB (aLoad false 1 v115 τ93) fun c116 =>
 om (aFieldAddr 5 v106) fun v117 =>
 ldI .u64 (aLoad false 1 v117 τ93) fun n118 =>
 wNew τ93 (.cells [(.int .u64 0), (.string ((⟨#[]⟩ : ByteArray))), (.int .u64 0), (.int .u64 0), (.bool false), (.int .u64 0)] t_api_Volume false) fun b119 τ120 =>
 pu (aStore 6 (.pointer (some ⟨b119, 0, none⟩)) (.agg #[(.int .u64 n108), (.string s110), (.int .u64 n112), (.int .u64 n114), (.bool c116), (.int .u64 n118)]) τ120) fun τ121 =>
 ldS (L b119 1 τ121) fun s128 =>
 E f_model_Model_Snapshot [v124, (.string s128), (.string ((⟨#[116, 104, 101, 46, 116, 119, 105, 110]⟩ : ByteArray))), (.bool false), (.bool false)] τ121 (c2 Q fun v130 v132 τ129 =>
 tI .u64 (fun n131 =>
 tI .i64 (fun n133 =>
 If (decide (n133 = 7)) (
 Q (.ret (.bool true)) τ129) (
 Bi (Int.tmod n141 4096) fun n147 =>
 ldI .u64 (L b119 0 τ129) fun n157 =>
 ldI .u64 (L b119 2 τ129) fun n163 =>
 Bi (wu64 (n163 + 1)) fun n164 =>
 ldI .u64 (aBin (some (.int .u64)) .rem (.int .u64 n100) (.int .u64 n164)) fun n165 =>
 ldI .u64 (L b119 2 τ129) fun n167 =>
 ldI .u64 (L b119 2 τ129) fun n168 =>
 Bi (wu64 (n168 + 1)) fun n169 =>
 ldI .u64 (aBin (some (.int .u64)) .rem (.int .u64 n100) (.int .u64 n169)) fun n170 =>
 Bi (wu64 (n167 - n170)) fun n171 =>
 E f_model_Model_Read [v124, (.int .u64 n157), (.int .u64 n165), (.int .u64 (if n171 < n147 then n171 else n147))] τ129 (c2 Q fun v173 v174 τ172 =>
 tI .i64 (fun n175 =>
 If (!decide (n133 = 0)) (
 (s_law20_ModelTwins_k19 E Q true v188 n100 n147 v124 b119 n131 v173 τ172)) (
 (s_law20_ModelTwins_k19 E Q (!decide (n175 = 0)) v188 n100 n147 v124 b119 n131 v173 τ172))) v174))) v132) v130))
def s_law20_ModelTwins_k6 (N1 : Int → AHeap → Prop) (E : EvT) (Q : RK) (c43 : Bool) (v45 v47 : Value) (n49 : Int) (v76 : Value) (n79 n82 : Int) (τ42 : AHeap) : Prop :=
 If c43 (
 om (aIndexAddr 10 v47 (.int .i64 n49)) fun v51 =>
 om (aFieldAddr 0 v51) fun v52 =>
 ldI .i64 (aLoad false 1 v52 τ42) fun n53 =>
 om (aFieldAddr 1 v51) fun v54 =>
 ldS (aLoad false 1 v54 τ42) fun s55 =>
 om (aFieldAddr 2 v51) fun v56 =>
 ldS (aLoad false 1 v56 τ42) fun s57 =>
 om (aFieldAddr 3 v51) fun v58 =>
 ldI .u64 (aLoad false 1 v58 τ42) fun n59 =>
 om (aFieldAddr 4 v51) fun v60 =>
 ldI .u64 (aLoad false 1 v60 τ42) fun n61 =>
 om (aFieldAddr 5 v51) fun v62 =>
 ldI .u64 (aLoad false 1 v62 τ42) fun n63 =>
 om (aFieldAddr 6 v51) fun v64 =>
 ldI .u8 (aLoad false 1 v64 τ42) fun n65 =>
 om (aFieldAddr 7 v51) fun v66 =>
 ldB (aLoad false 1 v66 τ42) fun c67 =>
 om (aFieldAddr 8 v51) fun v68 =>
 ldB (aLoad false 1 v68 τ42) fun c69 =>
 om (aFieldAddr 9 v51) fun v70 =>
 om (aLoad false 1 v70 τ42) fun v71 =>
 E f_law20_alone [v45, (.agg #[(.int .i64 n53), (.string s55), (.string s57), (.int .u64 n59), (.int .u64 n61), (.int .u64 n63), (.int .u8 n65), (.bool c67), (.bool c69), v71])] τ42 (c0 Q fun τ72 =>
 Bi (w64 (n49 + 1)) fun n75 =>
 N1 n75 τ72)) (
 E f_model_Model_List [v45] τ42 (cV Q fun v89 τ88 =>
 ldI .i64 (lenS v89) fun n92 =>
 If (decide (n92 = 0)) (
 (s_law20_ModelTwins_k11 E Q true v89 n79 v45 n82 v76 τ88)) (
 ldI .i64 (lenS v89) fun n383 =>
 (s_law20_ModelTwins_k11 E Q (decide (16 ≤ n383)) v89 n79 v45 n82 v76 τ88))))
def s_law20_ModelTwins_b1 (N1 : Int → AHeap → Prop) (E : EvT) (Q : RK) (v17 v23 : Value) (n29 n35 : Int) (v39 : Value) (n11 : Int) (τ40 : AHeap) : Prop :=
 ldI .i64 (lenS v17) fun n41 =>
 If (decide (n11 < n41)) (
 (s_law20_ModelTwins_k6 N1 E Q (decide (n11 < 30)) v39 v17 n11 v23 n29 n35 τ40)) (
 (s_law20_ModelTwins_k6 N1 E Q false v39 v17 n11 v23 n29 n35 τ40))
def s_law20_ModelTwins_k3 (E : EvT) (Q : RK) (c8 : Bool) (v14 v20 : Value) (n26 n32 : Int) (v36 : Value) (τ7 : AHeap) : Prop :=
 If c8 (
 Q (.ret (.bool false)) τ7) (
 ∃ I384 : Nat → Int → AHeap → Prop, (∃ m, I384 m 0 τ7) ∧
 ∀ m (n11 : Int) (σ' : AHeap), I384 m n11 σ' → (s_law20_ModelTwins_b1 (fun n11 σ' => ∃ m', m' < m ∧ I384 m' n11 σ') E Q v14 v20 n26 n32 v36 n11 σ'))
/-- cistern/cisternlaw20.ModelTwins -/
def s_law20_ModelTwins (E : EvT) (Q : RK) (x0 x1 : Value) (x2 x3 : Int) (σ : AHeap) : Prop :=
 E f_model_New [] σ (cV Q fun v3 τ2 =>
 ldB (aBin (some (.pointer t_model_Model)) .eql v3 (.pointer none)) fun c6 =>
 If c6 (
 (s_law20_ModelTwins_k3 E Q true x0 x1 x2 x3 v3 τ2)) (
 E f_law20_wakes [] τ2 (cB Q fun c387 τ386 =>
 (s_law20_ModelTwins_k3 E Q (!c387) x0 x1 x2 x3 v3 τ386))))
theorem q_law20_ModelTwins (E : EvT) (Q : RK) (x0 x1 : Value) (x2 x3 : Int) (σ : AHeap) : xfn P E Try.f9 (hl [(2, .loopr [0, 1, 2, 3, 9] [10] [1, 2, 3, 9] [1, 2, 3, 9, 10]), (7, .ord [(0, []), (1, []), (2, []), (3, []), (4, []), (5, []), (6, []), (7, []), (8, []), (9, []), (10, []), (11, []), (12, []), (13, []), (14, []), (15, []), (16, []), (17, []), (18, []), (19, []), (20, []), (21, []), (22, []), (23, [])]), (10, .loopr [1, 2, 3, 9, 12, 13, 15] [17] [2, 3, 9, 12, 13, 15] [2, 3, 9, 12, 13, 15, 17]), (14, .ord [(0, []), (1, []), (2, []), (3, []), (4, []), (5, []), (6, []), (7, []), (8, []), (9, []), (10, []), (11, []), (12, []), (13, []), (14, []), (15, []), (16, []), (17, []), (18, []), (19, []), (20, []), (21, []), (22, [])])]) (fun | 10 => (.i .i64) | 17 => (.i .i64) | _ => .v) [x0, x1, (.int .u64 x2), (.int .u64 x3)] σ Q = s_law20_ModelTwins E Q x0 x1 x2 x3 σ := by kernel_rfl
theorem e_law20_ModelTwins {Q : RK} {x0 x1 : Value} {x2 x3 : Int} {σ : AHeap} (h : s_law20_ModelTwins E Q x0 x1 x2 x3 σ) : E f_law20_ModelTwins [x0, x1, (.int .u64 x2), (.int .u64 x3)] σ Q :=
  exfn Try.func9 _ _ (by kernel_rfl) (Eq.mpr (q_law20_ModelTwins E Q x0 x1 x2 x3 σ) h)

def s_law20_ModelKnown_k28 (N1 : Int → AHeap → Prop) (E : EvT) (Q : RK) (c152 : Bool) (v156 v158 : Value) (n159 : Int) (τ151 : AHeap) : Prop :=
 If c152 (
 Q (.ret (.bool false)) τ151) (
 Bi (w64 (n159 + 1)) fun n162 =>
 N1 n162 τ151)
def s_law20_ModelKnown_k36 (E : EvT) (Q : RK) (c197 : Bool) (v205 : Value) (τ196 : AHeap) : Prop :=
 If c197 (
 Q (.ret (.bool false)) τ196) (
 E f_model_Model_Copy [v205] τ196 (cV Q fun v208 τ207 =>
 wNew τ207 (.cells [(.int .u8 1)] t_uint8 false) fun b211 τ212 =>
 E f_model_Model_Write [v205, (.int .u64 1), (.int .u64 4294967295), (.slice (some ⟨b211, 0, none⟩) 1 1), (.bool false)] τ212 (cI Q .i64 fun n214 τ213 =>
 If (decide (n214 = 0)) (
 E f_model_Model_Same [v205, v208] τ213 (cB Q fun c217 τ216 =>
 If (!c217) (
 E f_model_Model_Zero [v205, (.int .u64 1), (.int .u64 4294967294), (.int .u64 2), (.bool false)] τ216 (cI Q .i64 fun n219 τ218 =>
 If (decide (n219 = 0)) (
 E f_model_Model_Same [v205, v208] τ218 (cB Q fun c221 τ220 =>
 If c221 (
 E f_model_Model_Delete [v205, (.string ((⟨#[97]⟩ : ByteArray))), (.bool false)] τ220 (cI Q .i64 fun n223 τ222 =>
 If (decide (n223 = 0)) (
 E f_model_Model_List [v205] τ222 (cV Q fun v225 τ224 =>
 ldI .i64 (lenS v225) fun n226 =>
 If (decide (n226 = 0)) (
 E f_model_Model_List [v208] τ224 (cV Q fun v228 τ227 =>
 ldI .i64 (lenS v228) fun n229 =>
 If (decide (n229 = 1)) (
 E f_law20_wakes [] τ227 (cB Q fun c231 τ230 =>
 Q (.ret (.bool c231)) τ230)) (
 Q (.ret (.bool false)) τ227))) (
 Q (.ret (.bool false)) τ224))) (
 Q (.ret (.bool false)) τ222))) (
 Q (.ret (.bool false)) τ220))) (
 Q (.ret (.bool false)) τ218))) (
 Q (.ret (.bool false)) τ216))) (
 Q (.ret (.bool false)) τ213))))
def s_law20_ModelKnown_k33 (E : EvT) (Q : RK) (c184 : Bool) (v187 v202 : Value) (τ183 : AHeap) : Prop :=
 If c184 (
 Q (.ret (.bool false)) τ183) (
 E f_model_Model_Snapshot [v187, (.string ((⟨#[97]⟩ : ByteArray))), (.string ((⟨#[122, 122]⟩ : ByteArray))), (.bool true), (.bool false)] τ183 (c2 Q fun v190 v192 τ189 =>
 tI .u64 (fun n191 =>
 tI .i64 (fun n193 =>
 If (!decide (n191 = 17)) (
 (s_law20_ModelKnown_k36 E Q true v202 τ189)) (
 (s_law20_ModelKnown_k36 E Q (!decide (n193 = 0)) v202 τ189))) v192) v190))
def s_law20_ModelKnown_b1 (N1 : Int → AHeap → Prop) (E : EvT) (Q : RK) (v124 v127 : Value) (n118 : Int) (τ128 : AHeap) : Prop :=
 If (decide (n118 < 16)) (
 Bi (w64 (97 + n118)) fun n136 =>
 Bi (wu8 (n136)) fun n137 =>
 wNew τ128 (.cells [(.int .u8 n137)] t_uint8 false) fun b138 τ139 =>
 ldS (aConv P t_sl_uint8 t_string (.slice (some ⟨b138, 0, none⟩) 1 1) τ139) fun s140 =>
 E f_model_Model_Create [v127, (.string s140), (.int .u64 1), (.bool false)] τ139 (c2 Q fun v142 v144 τ141 =>
 tI .u64 (fun n143 =>
 tI .i64 (fun n145 =>
 Bi (w64 (n118 + 1)) fun n149 =>
 Bi (wu64 (n149)) fun n150 =>
 If (!decide (n143 = n150)) (
 (s_law20_ModelKnown_k28 N1 E Q true v124 v127 n118 τ141)) (
 (s_law20_ModelKnown_k28 N1 E Q (!decide (n145 = 0)) v124 v127 n118 τ141))) v144) v142)) (
 E f_model_Model_Create [v127, (.string ((⟨#[122, 122]⟩ : ByteArray))), (.int .u64 1), (.bool false)] τ128 (c2 Q fun v169 v171 τ168 =>
 tI .u64 (fun n170 =>
 tI .i64 (fun n172 =>
 E f_model_Model_Snapshot [v127, (.string ((⟨#[97]⟩ : ByteArray))), (.string ((⟨#[122, 122]⟩ : ByteArray))), (.bool false), (.bool false)] τ168 (c2 Q fun v176 v178 τ175 =>
 tI .u64 (fun n177 =>
 tI .i64 (fun n179 =>
 If (!decide (n172 = 8)) (
 (s_law20_ModelKnown_k33 E Q true v127 v124 τ175)) (
 If (!decide (n179 = 8)) (
 (s_law20_ModelKnown_k33 E Q true v127 v124 τ175)) (
 E f_model_Model_Delete [v127, (.string ((⟨#[98]⟩ : ByteArray))), (.bool false)] τ175 (cI Q .i64 fun n235 τ234 =>
 (s_law20_ModelKnown_k33 E Q (!decide (n235 = 0)) v127 v124 τ234))))) v178) v176)) v171) v169))
def s_law20_ModelKnown_k21 (E : EvT) (Q : RK) (c112 : Bool) (v120 : Value) (τ111 : AHeap) : Prop :=
 If c112 (
 Q (.ret (.bool false)) τ111) (
 E f_model_New [] τ111 (cV Q fun v115 τ114 =>
 ∃ I236 : Nat → Int → AHeap → Prop, (∃ m, I236 m 0 τ114) ∧
 ∀ m (n118 : Int) (σ' : AHeap), I236 m n118 σ' → (s_law20_ModelKnown_b1 (fun n118 σ' => ∃ m', m' < m ∧ I236 m' n118 σ') E Q v120 v115 n118 σ')))
def s_law20_ModelKnown_k16 (E : EvT) (Q : RK) (c86 : Bool) (v89 : Value) (τ85 : AHeap) : Prop :=
 If c86 (
 Q (.ret (.bool false)) τ85) (
 E f_model_Model_Read [v89, (.int .u64 1), (.int .u64 0), (.int .u64 4097)] τ85 (c2 Q fun v92 v93 τ91 =>
 tI .i64 (fun n94 =>
 E f_model_Model_Read [v89, (.int .u64 1), (.int .u64 4294967296), (.int .u64 1)] τ91 (c2 Q fun v98 v99 τ97 =>
 tI .i64 (fun n100 =>
 E f_model_Model_Read [v89, (.int .u64 1), (.int .u64 4294967295), (.int .u64 1)] τ97 (c2 Q fun v104 v105 τ103 =>
 tI .i64 (fun n106 =>
 If (!decide (n94 = 3)) (
 (s_law20_ModelKnown_k21 E Q true v89 τ103)) (
 If (!decide (n100 = 31)) (
 (s_law20_ModelKnown_k21 E Q true v89 τ103)) (
 If (!decide (n106 = 0)) (
 (s_law20_ModelKnown_k21 E Q true v89 τ103)) (
 ldI .i64 (lenS v104) fun n242 =>
 If (!decide (n242 = 1)) (
 (s_law20_ModelKnown_k21 E Q true v89 τ103)) (
 pu (aMake t_uint8 1 [(.int .u8 0)] (.int .i64 4097) (.int .i64 4097) τ103) fun r243 =>
 E f_model_Model_Write [v89, (.int .u64 1), (.int .u64 0), r243.1, (.bool false)] r243.2 (cI Q .i64 fun n245 τ244 =>
 If (!decide (n245 = 3)) (
 (s_law20_ModelKnown_k21 E Q true v89 τ244)) (
 E f_model_Model_Zero [v89, (.int .u64 1), (.int .u64 0), (.int .u64 4294967296), (.bool false)] τ244 (cI Q .i64 fun n247 τ246 =>
 If (!decide (n247 = 0)) (
 (s_law20_ModelKnown_k21 E Q true v89 τ246)) (
 E f_model_Model_Trim [v89, (.int .u64 1), (.int .u64 18446744073709551615), (.int .u64 2), (.bool false)] τ246 (cI Q .i64 fun n249 τ248 =>
 If (!decide (n249 = 31)) (
 (s_law20_ModelKnown_k21 E Q true v89 τ248)) (
 E f_model_Model_Delete [v89, (.string ((⟨#[98]⟩ : ByteArray))), (.bool true)] τ248 (cI Q .i64 fun n251 τ250 =>
 If (!decide (n251 = 6)) (
 (s_law20_ModelKnown_k21 E Q true v89 τ250)) (
 E f_model_Model_Delete [v89, (.string ((⟨#[97]⟩ : ByteArray))), (.bool true)] τ250 (cI Q .i64 fun n253 τ252 =>
 (s_law20_ModelKnown_k21 E Q (!decide (n253 = 8)) v89 τ252))))))))))))))) v105)) v99)) v93))
def s_law20_ModelKnown_k9 (E : EvT) (Q : RK) (c48 : Bool) (b264 : Nat) (τ47 : AHeap) : Prop :=
 If c48 (
 Q (.ret (.bool false)) τ47) (
 E f_model_New [] τ47 (cV Q fun v51 τ50 =>
 E f_model_Model_Create [v51, (.string ((⟨#[65]⟩ : ByteArray))), (.int .u64 1), (.bool false)] τ50 (c2 Q fun v55 v57 τ54 =>
 tI .u64 (fun n56 =>
 tI .i64 (fun n58 =>
 E f_model_Model_Create [v51, (.string ((⟨#[97]⟩ : ByteArray))), (.int .u64 0), (.bool true)] τ54 (c2 Q fun v62 v64 τ61 =>
 tI .u64 (fun n63 =>
 tI .i64 (fun n65 =>
 E f_model_Model_Create [v51, (.string ((⟨#[97]⟩ : ByteArray))), (.int .u64 4294967297), (.bool false)] τ61 (c2 Q fun v69 v71 τ68 =>
 tI .u64 (fun n70 =>
 tI .i64 (fun n72 =>
 E f_model_Model_Create [v51, (.string ((⟨#[97]⟩ : ByteArray))), (.int .u64 4294967296), (.bool false)] τ68 (c2 Q fun v76 v78 τ75 =>
 tI .u64 (fun n77 =>
 tI .i64 (fun n79 =>
 If (!decide (n58 = 1)) (
 (s_law20_ModelKnown_k16 E Q true v51 τ75)) (
 If (!decide (n65 = 1)) (
 (s_law20_ModelKnown_k16 E Q true v51 τ75)) (
 If (!decide (n72 = 1)) (
 (s_law20_ModelKnown_k16 E Q true v51 τ75)) (
 If (!decide (n77 = 1)) (
 (s_law20_ModelKnown_k16 E Q true v51 τ75)) (
 If (!decide (n79 = 0)) (
 (s_law20_ModelKnown_k16 E Q true v51 τ75)) (
 E f_model_Model_Same [v51, (.pointer (some ⟨b264, 0, none⟩))] τ75 (cB Q fun c272 τ271 =>
 If c272 (
 (s_law20_ModelKnown_k16 E Q true v51 τ271)) (
 E f_model_Model_Same [v51, (.pointer none)] τ271 (cB Q fun c274 τ273 =>
 (s_law20_ModelKnown_k16 E Q c274 v51 τ273)))))))))) v78) v76)) v71) v69)) v64) v62)) v57) v55)))
/-- cistern/cisternlaw20.ModelKnown -/
def s_law20_ModelKnown (E : EvT) (Q : RK) (σ : AHeap) : Prop :=
 wNew σ (.cells [(.int .u64 0), (.map none)] t_model_Model false) fun b3 τ4 =>
 E f_model_Model_Create [(.pointer none), (.string ((⟨#[97]⟩ : ByteArray))), (.int .u64 1), (.bool false)] τ4 (c2 Q fun v7 v9 τ6 =>
 tI .u64 (fun n8 =>
 tI .i64 (fun n10 =>
 E f_model_Model_Snapshot [(.pointer (some ⟨b3, 0, none⟩)), (.string ((⟨#[97]⟩ : ByteArray))), (.string ((⟨#[98]⟩ : ByteArray))), (.bool false), (.bool false)] τ6 (c2 Q fun v15 v17 τ14 =>
 tI .u64 (fun n16 =>
 tI .i64 (fun n18 =>
 E f_model_Model_Get [(.pointer (some ⟨b3, 0, none⟩)), (.string ((⟨#[97]⟩ : ByteArray)))] τ14 (c2 Q fun v22 v23 τ21 =>
 tI .i64 (fun n24 =>
 wNew τ21 (.cells [(.int .u64 0), (.string ((⟨#[]⟩ : ByteArray))), (.int .u64 0), (.int .u64 0), (.bool false), (.int .u64 0)] t_api_Volume false) fun b25 τ26 =>
 pu (aStore 6 (.pointer (some ⟨b25, 0, none⟩)) v22 τ26) fun τ27 =>
 E f_model_Model_ById [(.pointer none), (.int .u64 1)] τ27 (c2 Q fun v30 v31 τ29 =>
 tI .i64 (fun n32 =>
 wNew τ29 (.cells [(.int .u64 0), (.string ((⟨#[]⟩ : ByteArray))), (.int .u64 0), (.int .u64 0), (.bool false), (.int .u64 0)] t_api_Volume false) fun b33 τ34 =>
 pu (aStore 6 (.pointer (some ⟨b33, 0, none⟩)) v30 τ34) fun τ35 =>
 E f_model_Model_Read [(.pointer none), (.int .u64 1), (.int .u64 0), (.int .u64 0)] τ35 (c2 Q fun v38 v39 τ37 =>
 tI .i64 (fun n40 =>
 If (!decide (n10 = 2)) (
 (s_law20_ModelKnown_k9 E Q true b3 τ37)) (
 If (!decide (n18 = 2)) (
 (s_law20_ModelKnown_k9 E Q true b3 τ37)) (
 If (!decide (n24 = 2)) (
 (s_law20_ModelKnown_k9 E Q true b3 τ37)) (
 If (!decide (n32 = 2)) (
 (s_law20_ModelKnown_k9 E Q true b3 τ37)) (
 If (!decide (n40 = 2)) (
 (s_law20_ModelKnown_k9 E Q true b3 τ37)) (
 E f_model_Model_Delete [(.pointer (some ⟨b3, 0, none⟩)), (.string ((⟨#[97]⟩ : ByteArray))), (.bool true)] τ37 (cI Q .i64 fun n286 τ285 =>
 If (!decide (n286 = 2)) (
 (s_law20_ModelKnown_k9 E Q true b3 τ285)) (
 E f_model_Model_Resize [(.pointer none), (.string ((⟨#[97]⟩ : ByteArray))), (.int .u64 0), (.bool false)] τ285 (cI Q .i64 fun n288 τ287 =>
 If (!decide (n288 = 2)) (
 (s_law20_ModelKnown_k9 E Q true b3 τ287)) (
 E f_model_Model_Write [(.pointer (some ⟨b3, 0, none⟩)), (.int .u64 1), (.int .u64 0), (.slice none 0 0), (.bool false)] τ287 (cI Q .i64 fun n290 τ289 =>
 If (!decide (n290 = 2)) (
 (s_law20_ModelKnown_k9 E Q true b3 τ289)) (
 E f_model_Model_Trim [(.pointer none), (.int .u64 1), (.int .u64 0), (.int .u64 0), (.bool false)] τ289 (cI Q .i64 fun n292 τ291 =>
 If (!decide (n292 = 2)) (
 (s_law20_ModelKnown_k9 E Q true b3 τ291)) (
 E f_model_Model_Zero [(.pointer (some ⟨b3, 0, none⟩)), (.int .u64 1), (.int .u64 0), (.int .u64 0), (.bool false)] τ291 (cI Q .i64 fun n294 τ293 =>
 If (!decide (n294 = 2)) (
 (s_law20_ModelKnown_k9 E Q true b3 τ293)) (
 E f_model_Model_Same [(.pointer none), (.pointer none)] τ293 (cB Q fun c296 τ295 =>
 If c296 (
 (s_law20_ModelKnown_k9 E Q true b3 τ295)) (
 E f_model_Model_Same [(.pointer (some ⟨b3, 0, none⟩)), (.pointer (some ⟨b3, 0, none⟩))] τ295 (cB Q fun c298 τ297 =>
 If c298 (
 (s_law20_ModelKnown_k9 E Q true b3 τ297)) (
 E f_model_Model_Copy [(.pointer none)] τ297 (cV Q fun v300 τ299 =>
 ldB (aBin (some (.pointer t_model_Model)) .neq v300 (.pointer none)) fun c301 =>
 If c301 (
 (s_law20_ModelKnown_k9 E Q true b3 τ299)) (
 E f_model_Model_Copy [(.pointer (some ⟨b3, 0, none⟩))] τ299 (cV Q fun v303 τ302 =>
 ldB (aBin (some (.pointer t_model_Model)) .neq v303 (.pointer none)) fun c304 =>
 If c304 (
 (s_law20_ModelKnown_k9 E Q true b3 τ302)) (
 E f_model_Model_List [(.pointer none)] τ302 (cV Q fun v306 τ305 =>
 ldI .i64 (lenS v306) fun n307 =>
 (s_law20_ModelKnown_k9 E Q (!decide (n307 = 0)) b3 τ305)))))))))))))))))))))))))) v39)) v31)) v23)) v17) v15)) v9) v7)
theorem q_law20_ModelKnown (E : EvT) (Q : RK) (σ : AHeap) : xfn P E Try.f11 (hl [(4, .loopr [13, 16] [17] [0, 13, 16] [0, 13, 16, 17])]) (fun | 17 => (.i .i64) | _ => .v) [] σ Q = s_law20_ModelKnown E Q σ := by kernel_rfl
theorem e_law20_ModelKnown {Q : RK} {σ : AHeap} (h : s_law20_ModelKnown E Q σ) : E f_law20_ModelKnown [] σ Q :=
  exfn Try.func11 _ _ (by kernel_rfl) (Eq.mpr (q_law20_ModelKnown E Q σ) h)

end Go.Ax.C
set_option maxRecDepth 100000
namespace Go.Ax
open Go.Proofs Go.RowKit

variable {l r m : List Assn} {σ : AHeap} {P : Program}

abbrev KVs := List (Nat × Value)
def mget (L : KVs) (a : Nat) : Option Value := (L.find? fun p => p.1 == a).map (·.2)
def mset (L : KVs) (a : Nat) (v : Value) : KVs := if a ∈ L.map (·.1) then L.map fun p => if p.1 = a then (a, v) else p else L ++ [(a, v)]
def mdel (L : KVs) (a : Nat) : KVs := L.filter fun p => p.1 ≠ a
structure MFor (k : IntKind) (es : List MapEntry) (clock : Nat) (L : KVs) : Prop where
  kv : es.map (fun e => (e.key, e.val)) = L.map fun p => (Value.int k p.1, p.2)
  nd : (L.map (·.1)).Nodup
  bn : (es.map (·.born)).Nodup
  lt : ∀ e ∈ es, e.born < clock
def UMap (k : IntKind) (mb : Nat) (L : KVs) : Assn := ex fun p : List MapEntry × Nat => sep (pure' (MFor k p.1 p.2 L)) (pt mb (.map p.1 p.2))
theorem H_umap {k : IntKind} {mb : Nat} {L : KVs} : H (UMap k mb L :: l) σ ↔ ∃ es clock, MFor k es clock L ∧ H (pt mb (.map es clock) :: l) σ := by
  unfold UMap
  rw [H_ex]
  constructor
  · rintro ⟨⟨es, clock⟩, h⟩
    rw [H_sep] at h
    exact ⟨es, clock, H_pure.1 h⟩
  · rintro ⟨es, clock, h1, h2⟩
    refine ⟨(es, clock), ?_⟩
    rw [H_sep]
    exact H_pure.2 ⟨h1, h2⟩

theorem sameU (k : IntKind) (a b : Nat) : Instr.sameNow (.int k) (.int k (a : Nat)) (.int k (b : Nat)) = some (decide (a = b)) := by
  simp [Instr.sameNow]
  by_cases h : a = b
  · simp [h]
  · simp [h]; omega
theorem find_none {k : IntKind} {a : Nat} : ∀ {es : List MapEntry} {L : KVs} (i : Nat), es.map (fun e => (e.key, e.val)) = L.map (fun p => (Value.int k p.1, p.2)) → (∀ p ∈ L, p.1 ≠ a) → Instr.findNow (.int k) (.int k (a : Nat)) es i = some none
  | [], _, i, _, _ => rfl
  | e :: es, [], i, h, _ => by simp at h
  | e :: es, p :: L, i, h, hn => by
    simp only [List.map_cons, List.cons.injEq, Prod.mk.injEq] at h
    have h1 := hn p (by simp)
    simp only [Instr.findNow, h.1.1, sameU]
    rw [decide_eq_false (fun e => h1 e.symm)]
    exact find_none (i + 1) h.2 fun q hq => hn q (by simp [hq])
theorem find_some {k : IntKind} {a : Nat} {v : Value} : ∀ {es : List MapEntry} {L : KVs} (i j : Nat), es.map (fun e => (e.key, e.val)) = L.map (fun p => (Value.int k p.1, p.2)) → (L.map (·.1)).Nodup → L[j]? = some (a, v) → Instr.findNow (.int k) (.int k (a : Nat)) es i = some (some (i + j, v))
  | [], [], i, j, _, _, h => by simp at h
  | [], _ :: _, i, j, h, _, _ => by simp at h
  | e :: es, [], i, j, h, _, _ => by simp at h
  | e :: es, p :: L, i, 0, h, hn, hj => by
    simp only [List.map_cons, List.cons.injEq, Prod.mk.injEq] at h
    simp at hj; subst hj
    simp only [Instr.findNow, h.1.1, sameU]
    simp [h.1.2]
  | e :: es, p :: L, i, j + 1, h, hn, hj => by
    simp only [List.map_cons, List.cons.injEq, Prod.mk.injEq] at h
    simp only [List.map_cons, List.nodup_cons] at hn
    simp at hj
    have h1 : a ≠ p.1 := fun e => hn.1 (List.mem_map.2 ⟨(a, v), List.mem_of_getElem? hj, e⟩)
    simp only [Instr.findNow, h.1.1, sameU]
    rw [decide_eq_false h1]
    simp only
    rw [find_some (i + 1) j h.2 hn.2 hj]
    congr 3; omega
theorem mget_none {L : KVs} {a : Nat} (h : ∀ p ∈ L, p.1 ≠ a) : mget L a = none := by
  unfold mget
  rw [List.find?_eq_none.2 fun p hp => by simpa using h p hp]; rfl
theorem mget_some {L : KVs} {a : Nat} {v : Value} (hn : (L.map (·.1)).Nodup) (h : (a, v) ∈ L) : mget L a = some v := by
  unfold mget
  obtain ⟨A, B, rfl⟩ := List.append_of_mem h
  simp only [List.map_append, List.map_cons, List.nodup_append] at hn
  have hA : ∀ y ∈ A, ¬ (y.1 == a) = true := fun y hy he => by
    have := hn.2.2 y.1 (List.mem_map_of_mem hy) a (by simp)
    simp at he; exact this he
  rw [List.find?_append, List.find?_eq_none.2 hA]
  simp
theorem mget_mem {L : KVs} {a : Nat} {v : Value} (h : mget L a = some v) : (a, v) ∈ L := by
  unfold mget at h
  cases hf : L.find? fun p => p.1 == a with
  | none => rw [hf] at h; simp at h
  | some p =>
    rw [hf] at h
    simp at h
    have h1 := List.mem_of_find?_eq_some hf
    have h2 := List.find?_some hf
    simp at h2
    subst h2; subst h
    exact h1
theorem mget_no {L : KVs} {a : Nat} (h : mget L a = none) : ∀ p ∈ L, p.1 ≠ a := by
  intro p hp e
  unfold mget at h
  cases hf : L.find? fun p => p.1 == a with
  | none => exact (List.find?_eq_none.1 hf) p hp (by simpa using e)
  | some p => rw [hf] at h; simp at h
theorem afind_eq {k : IntKind} {es : List MapEntry} {clock a : Nat} {L : KVs} (h : MFor k es clock L) : (mget L a = none ∧ aFind (.int k) (.int k (a : Nat)) es = some none) ∨ ∃ j v, L[j]? = some (a, v) ∧ mget L a = some v ∧ aFind (.int k) (.int k (a : Nat)) es = some (some (j, v)) := by
  unfold aFind
  simp only [keyD, cond_true]
  cases hm : mget L a with
  | none => exact .inl ⟨rfl, find_none 0 h.kv (mget_no hm)⟩
  | some v =>
    have hv := mget_mem hm
    obtain ⟨j, hj, he⟩ := List.getElem_of_mem hv
    have hj' : L[j]? = some (a, v) := by rw [List.getElem?_eq_getElem hj, he]
    refine .inr ⟨j, v, hj', rfl, ?_⟩
    rw [find_some 0 j h.kv h.nd hj', Nat.zero_add]

/-! ### Asking, putting, taking out -/
theorem entries_of {mb clock : Nat} {es : List MapEntry} (h : H (pt mb (.map es clock) :: l) σ) : aEntries (.map (some mb)) σ = some es := by
  simp [aEntries, h.get0.1]
theorem umap_lookup {k : IntKind} {mb a : Nat} {L : KVs} {t e : TypeId} {z : Value} {ok : Bool} (h : H (UMap k mb L :: l) σ) (ht : mapOf? P t = some (.int k, e)) (hz : zeroOf P e = some z) :
    aLookup P t (.map (some mb)) (.int k (a : Nat)) ok σ = some (match mget L a with | some v => okV ok v true | none => okV ok z false) := by
  obtain ⟨es, clock, hm, h1⟩ := H_umap.1 h
  unfold aLookup
  simp only [ht, hz, entries_of h1, Option.bind_some]
  rcases afind_eq (a := a) hm with ⟨e1, e2⟩ | ⟨j, v, _, e1, e2⟩
  · rw [e1, e2]; rfl
  · rw [e1, e2]; rfl
theorem umap_len {k : IntKind} {mb : Nat} {L : KVs} (h : H (UMap k mb L :: l) σ) : lenM (.map (some mb)) σ = some (.int .i64 L.length) := by
  obtain ⟨es, clock, hm, h1⟩ := H_umap.1 h
  have hl : es.length = L.length := by have := congrArg List.length hm.kv; simpa using this
  unfold lenM
  rw [entries_of h1]
  simp [hl]
theorem map_modify_ne {α β : Type} (f : α → β) (g : α → α) : ∀ (l : List α) (j : Nat) (b : β) , (∀ x, l[j]? = some x → f (g x) = b) → (l.modify j g).map f = (l.map f).set j b
  | [], j, b, _ => by simp
  | x :: l, 0, b, h => by simp [h x rfl]
  | x :: l, j + 1, b, h => by simp [map_modify_ne f g l j b fun y hy => h y (by simpa using hy)]
theorem mset_at {L : KVs} {a j : Nat} {v w : Value} (hn : (L.map (·.1)).Nodup) (hj : L[j]? = some (a, v)) : mset L a w = L.set j (a, w) := by
  have hm : a ∈ L.map (·.1) := List.mem_map.2 ⟨(a, v), List.mem_of_getElem? hj, rfl⟩
  unfold mset
  rw [if_pos hm]
  apply List.ext_getElem?
  intro i
  rw [List.getElem?_map, List.getElem?_set]
  by_cases hij : j = i
  · subst hij
    rw [if_pos rfl, hj, if_pos (List.getElem?_eq_some_iff.1 hj).1]
    simp
  · rw [if_neg hij]
    cases hp : L[i]? with
    | none => rfl
    | some p =>
      have : p.1 ≠ a := by
        intro e
        obtain ⟨h1, h2⟩ := List.getElem?_eq_some_iff.1 hj
        obtain ⟨h3, h4⟩ := List.getElem?_eq_some_iff.1 hp
        have := (List.getElem_inj (i := j) (j := i) (h₀ := by simpa using h1) (h₁ := by simpa using h3) hn).1 (by simp [h2, h4, e])
        exact hij this
      simp [this]
theorem mset_new {L : KVs} {a : Nat} {v : Value} (h : mget L a = none) : mset L a v = L ++ [(a, v)] := by
  unfold mset
  rw [if_neg]
  intro hm
  obtain ⟨p, hp, e⟩ := List.mem_map.1 hm
  exact mget_no h p hp e
theorem umap_update {k : IntKind} {mb a : Nat} {L : KVs} {t e : TypeId} {v : Value} {K : AHeap → Prop} (h : H (UMap k mb L :: l) σ) (ht : mapOf? P t = some (.int k, e))
    (hK : ∀ σ', H (UMap k mb (mset L a v) :: l) σ' → K σ') : pu (aMapUpdate P t (.map (some mb)) (.int k (a : Nat)) v σ) K := by
  obtain ⟨es, clock, hm, h1⟩ := H_umap.1 h
  unfold aMapUpdate
  simp only [ht, h1.get0.1, keyV, cond_true]
  rcases afind_eq (a := a) hm with ⟨e1, e2⟩ | ⟨j, v0, hj, e1, e2⟩
  · simp only [e2, Option.bind_some, pu_some]
    refine hK _ (H_umap.2 ⟨_, _, ?_, h1.set0 _⟩)
    rw [mset_new e1]
    refine ⟨by simp [hm.kv], ?_, ?_, ?_⟩
    · simp only [List.map_append, List.map_cons, List.map_nil]
      rw [List.nodup_append]
      refine ⟨hm.nd, by simp, fun x hx y hy => ?_⟩
      simp at hy; subst hy
      obtain ⟨p, hp, rfl⟩ := List.mem_map.1 hx
      exact mget_no e1 p hp
    · simp only [List.map_append, List.map_cons, List.map_nil]
      rw [List.nodup_append]
      refine ⟨hm.bn, by simp, fun x hx y hy => ?_⟩
      simp at hy; subst hy
      obtain ⟨p, hp, rfl⟩ := List.mem_map.1 hx
      have := hm.lt p hp; omega
    · intro x hx
      rcases List.mem_append.1 hx with hx | hx
      · have := hm.lt x hx; omega
      · simp at hx; subst hx; simp
  · simp only [e2, Option.bind_some, pu_some]
    refine hK _ (H_umap.2 ⟨_, _, ?_, h1.set0 _⟩)
    rw [mset_at hm.nd hj]
    have hkv : (es.modify j fun e => { e with key := .int k (a : Nat), val := v }).map (fun e => (e.key, e.val)) = (es.map fun e => (e.key, e.val)).set j (.int k (a : Nat), v) :=
      map_modify_ne _ _ es j _ fun x _ => rfl
    have hb : (es.modify j fun e => { e with key := .int k (a : Nat), val := v }).map (·.born) = es.map (·.born) := by
      apply List.ext_getElem?
      intro i
      rw [List.getElem?_map, List.getElem?_map, List.getElem?_modify]
      cases es[i]? with
      | none => rfl
      | some x => by_cases hji : j = i <;> simp [hji]
    refine ⟨?_, ?_, by rw [hb]; exact hm.bn, ?_⟩
    · rw [hkv, hm.kv, List.map_set]
    · rw [List.map_set]
      have : (L.map (·.1)).set j a = L.map (·.1) := by
        apply List.ext_getElem?
        intro i
        rw [List.getElem?_set]
        split
        · rename_i e; subst e
          rw [List.getElem?_map, hj]
          have := (List.getElem?_eq_some_iff.1 hj).1
          simp [this]
        · rfl
      rw [this]; exact hm.nd
    · intro x hx
      obtain ⟨i, hi, rfl⟩ := List.getElem_of_mem hx
      have h3 : ((es.modify j fun e => { e with key := .int k (a : Nat), val := v }).map (·.born))[i]? = some ((es.modify j fun e => { e with key := .int k (a : Nat), val := v })[i]).born := by
        rw [List.getElem?_map, List.getElem?_eq_getElem hi]; rfl
      rw [hb, List.getElem?_map] at h3
      cases hx : es[i]? with
      | none => rw [hx] at h3; simp at h3
      | some y =>
        rw [hx] at h3; simp at h3
        rw [← h3]; exact hm.lt y (List.mem_of_getElem? hx)
theorem mdel_none {L : KVs} {a : Nat} (h : mget L a = none) : mdel L a = L := by
  unfold mdel
  rw [List.filter_eq_self]
  intro p hp
  simpa using mget_no h p hp
theorem mdel_at : ∀ {L : KVs} {a j : Nat} {v : Value}, (L.map (·.1)).Nodup → L[j]? = some (a, v) → mdel L a = L.eraseIdx j
  | [], a, j, v, _, h => by simp at h
  | p :: L, a, 0, v, hn, h => by
    simp at h; subst h
    simp only [List.map_cons, List.nodup_cons] at hn
    have : mdel L a = L := mdel_none (mget_none fun q hq e => hn.1 (List.mem_map.2 ⟨q, hq, e⟩))
    unfold mdel at this ⊢
    rw [List.filter_cons_of_neg (by simp), this]
    rfl
  | p :: L, a, j + 1, v, hn, h => by
    simp only [List.map_cons, List.nodup_cons] at hn
    simp at h
    have h1 : p.1 ≠ a := fun e => hn.1 (List.mem_map.2 ⟨(a, v), List.mem_of_getElem? h, e.symm⟩)
    have h2 := mdel_at hn.2 h
    unfold mdel at h2 ⊢
    rw [List.filter_cons_of_pos (by simpa using h1), h2]; rfl
theorem map_eraseI {α β : Type} (f : α → β) : ∀ (l : List α) (j : Nat), (l.eraseIdx j).map f = (l.map f).eraseIdx j
  | [], j => by simp
  | x :: l, 0 => by simp
  | x :: l, j + 1 => by simp [map_eraseI f l j]
theorem umap_delete {k : IntKind} {mb a : Nat} {L : KVs} {t e : TypeId} {K : AHeap → Prop} (h : H (UMap k mb L :: l) σ) (ht : mapOf? P t = some (.int k, e))
    (hK : ∀ σ', H (UMap k mb (mdel L a) :: l) σ' → K σ') : pu (aDelete P t (.map (some mb)) (.int k (a : Nat)) σ) K := by
  obtain ⟨es, clock, hm, h1⟩ := H_umap.1 h
  unfold aDelete
  simp only [ht, h1.get0.1]
  rcases afind_eq (a := a) hm with ⟨e1, e2⟩ | ⟨j, v0, hj, e1, e2⟩
  · simp only [e2, Option.bind_some, pu_some]
    refine hK _ (H_umap.2 ⟨_, _, ?_, h1.set0 _⟩)
    rw [mdel_none e1]; exact hm
  · simp only [e2, Option.bind_some, pu_some]
    refine hK _ (H_umap.2 ⟨_, _, ?_, h1.set0 _⟩)
    rw [mdel_at hm.nd hj]
    refine ⟨?_, ?_, ?_, fun x hx => hm.lt x (List.mem_of_mem_eraseIdx hx)⟩
    · rw [map_eraseI, hm.kv, ← map_eraseI]
    · rw [map_eraseI]; exact hm.nd.sublist (List.eraseIdx_sublist _ _)
    · rw [map_eraseI]; exact hm.bn.sublist (List.eraseIdx_sublist _ _)
theorem umap_new {k : IntKind} {K : Value × AHeap → Prop} {t : TypeId} (h : H l σ) (ht : aMakeMap P t none σ = some (.map (some σ.size), σ.push (.map [] 0)))
    (hK : ∀ mb σ', H (UMap k mb [] :: l) σ' → K (.map (some mb), σ')) : pu (aMakeMap P t none σ) K := by
  rw [ht, pu_some]
  refine hK _ _ (H_umap.2 ⟨[], 0, ⟨rfl, by simp, by simp, by simp⟩, (h.push _).unsnoc⟩)
end Go.Ax
set_option maxRecDepth 100000
namespace Go.Ax
open Go.Proofs Go.RowKit

variable {l r m : List Assn} {σ : AHeap} {P : Program}

def kvE (e : MapEntry) : Value × Value := (e.key, e.val)
def kvP (k : IntKind) (p : Nat × Value) : Value × Value := (.int k p.1, p.2)
/-- A map and one who goes round it: what he has not seen yet. -/
def MIter (k : IntKind) (it mb : Nat) (L R : KVs) : Assn := ex fun p : (List MapEntry × Nat) × List Nat =>
  sep (pure' (MFor k p.1.1 p.1.2 L ∧ (p.1.1.filter fun e => !p.2.contains e.born).map kvE = R.map (kvP k))) (sep (pt mb (.map p.1.1 p.1.2)) (pt it (.mapIter (some mb) p.1.2 p.2 p.1.2)))
theorem H_miter {k : IntKind} {it mb : Nat} {L R : KVs} : H (MIter k it mb L R :: l) σ ↔ ∃ es clock seen, (MFor k es clock L ∧ (es.filter fun e => !seen.contains e.born).map kvE = R.map (kvP k)) ∧ H (pt mb (.map es clock) :: pt it (.mapIter (some mb) clock seen clock) :: l) σ := by
  unfold MIter
  rw [H_ex]
  constructor
  · rintro ⟨⟨⟨es, clock⟩, seen⟩, h⟩
    rw [H_sep, H_pure, H_sep] at h
    exact ⟨es, clock, seen, h⟩
  · rintro ⟨es, clock, seen, h1, h2⟩
    refine ⟨((es, clock), seen), ?_⟩
    rw [H_sep, H_pure, H_sep]
    exact ⟨h1, h2⟩
theorem miter_map {k : IntKind} {it mb : Nat} {L R : KVs} (h : H (MIter k it mb L R :: l) σ) : H (UMap k mb L :: l) σ := by
  obtain ⟨es, clock, seen, h1, h2⟩ := H_miter.1 h
  exact H_umap.2 ⟨es, clock, h1.1, (h2.perm (.swap _ _ _)).tail⟩
theorem umap_range {k : IntKind} {mb : Nat} {L : KVs} {t e u : TypeId} {K : Value × AHeap → Prop} (h : H (UMap k mb L :: l) σ) (ht : P.underlying t = some (.map e u))
    (hK : ∀ it σ', H (MIter k it mb L L :: l) σ' → K (.pointer (some ⟨it, 0, none⟩), σ')) : pu (aRange P t (.map (some mb)) σ) K := by
  obtain ⟨es, clock, hm, h1⟩ := H_umap.1 h
  unfold aRange
  simp only [ht, h1.get0.1, pu_some]
  refine hK _ _ (H_miter.2 ⟨es, clock, [], ⟨hm, ?_⟩, ?_⟩)
  · have : (es.filter fun e => !([] : List Nat).contains e.born) = es := by rw [List.filter_eq_self]; simp
    rw [this]; exact hm.kv
  · exact ((h1.push _).unsnoc).perm (.swap _ _ _)
theorem split_map {α β γ : Type} {f : α → γ} {g : β → γ} {A B : List α} {a : α} {R : List β} (h : (A ++ a :: B).map f = R.map g) : ∃ R1 p R2, R = R1 ++ p :: R2 ∧ A.map f = R1.map g ∧ f a = g p ∧ B.map f = R2.map g := by
  rw [List.map_append, List.map_cons] at h
  obtain ⟨R1, T, rfl, h1, h2⟩ := List.map_eq_append_iff.1 h.symm
  obtain ⟨p, R2, rfl, h3, h4⟩ := List.map_eq_cons_iff.1 h2
  exact ⟨R1, p, R2, rfl, h1.symm, h3.symm, h4.symm⟩
theorem miter_next {k : IntKind} {it mb : Nat} {L R : KVs} {K : Value × AHeap → Prop} (h : H (MIter k it mb L R :: l) σ) (h0 : R = [] → K (.tuple #[.bool false], σ))
    (h1 : ∀ R1 p R2 σ', R = R1 ++ p :: R2 → H (MIter k it mb L (R1 ++ R2) :: l) σ' → aEntry (.pointer (some ⟨it, 0, none⟩)) σ' = some (.tuple #[.int k p.1, p.2]) → K (.tuple #[.bool true, .int k p.1, p.2], σ')) :
    pu (aNextMap (.pointer (some ⟨it, 0, none⟩)) σ) fun Ls => ∀ r ∈ Ls, K r := by
  obtain ⟨es, clock, seen, ⟨hm, hR⟩, h2⟩ := H_miter.1 h
  have hg1 := h2.get0.1
  have h3 := h2.perm (.swap _ _ _)
  have hg2 := h3.get0.1
  unfold aNextMap
  simp only [hg2, hg1]
  have hc : (!seen.isEmpty && !es.isEmpty && es.all fun e => Nat.ble clock e.born) = false := by
    cases es with
    | nil => simp
    | cons e es =>
      have := hm.lt e (by simp)
      have hb : Nat.ble clock e.born = false := by
        rw [Bool.eq_false_iff]; intro hx; have := Nat.le_of_ble_eq_true hx; omega
      rw [List.all_cons, hb, Bool.false_and, Bool.and_false]
  rw [hc]
  simp only [cond_false, pu_some]
  have e1 : (es.filter fun e => !seen.contains e.born && Nat.blt e.born clock) = es.filter fun e => !seen.contains e.born := by
    apply List.filter_congr
    intro e he
    have : Nat.blt e.born clock = true := by rw [Nat.blt_eq]; exact hm.lt e he
    rw [this, Bool.and_true]
  have e2 : (es.filter fun e => !seen.contains e.born && Nat.ble clock e.born) = [] := by
    rw [List.filter_eq_nil_iff]
    intro e he
    have := hm.lt e he
    have hb : Nat.ble clock e.born = false := by
      rw [Bool.eq_false_iff]; intro hx; have := Nat.le_of_ble_eq_true hx; omega
    rw [hb, Bool.and_false]; decide
  rw [e1, e2, List.append_nil]
  intro r hr
  rcases List.mem_append.1 hr with hr | hr
  · cases hF : (es.filter fun e => !seen.contains e.born) with
    | nil =>
      rw [hF] at hr hR
      simp at hr
      subst hr
      refine h0 ?_
      simpa using hR.symm
    | cons a t => rw [hF] at hr; simp at hr
  · obtain ⟨e, he, rfl⟩ := List.mem_map.1 hr
    obtain ⟨A, B, hAB⟩ := List.append_of_mem he
    rw [hAB] at hR
    obtain ⟨R1, p, R2, hRR, hA, hp, hB⟩ := split_map hR
    have hpk : e.key = .int k p.1 ∧ e.val = p.2 := by
      unfold kvE kvP at hp; simpa using hp
    have hee : e ∈ es := (List.mem_filter.1 he).1
    have hset := h3.set0 (.mapIter (some mb) clock (seen ++ [e.born]) clock)
    have hF2 : (es.filter fun x => !(seen ++ [e.born]).contains x.born) = A ++ B := by
      have e3 : (es.filter fun x => !(seen ++ [e.born]).contains x.born) = (es.filter fun x => !seen.contains x.born).filter fun x => !(x.born == e.born) := by
        rw [List.filter_filter]
        apply List.filter_congr
        intro x _
        by_cases e5 : x.born = e.born <;> simp [e5]
      rw [e3, hAB]
      have hnd : ((A ++ e :: B).map (·.born)).Nodup := by
        rw [← hAB]; exact hm.bn.sublist (List.filter_sublist.map _)
      simp only [List.map_append, List.map_cons, List.nodup_append, List.nodup_cons] at hnd
      rw [List.filter_append, List.filter_cons_of_neg (by simp)]
      congr 1
      · rw [List.filter_eq_self]
        intro x hx
        have := hnd.2.2 x.born (List.mem_map_of_mem hx) e.born (by simp)
        simpa using this
      · rw [List.filter_eq_self]
        intro x hx
        have := hnd.2.1.1
        simp
        intro e4
        exact this (by rw [← e4]; exact List.mem_map_of_mem hx)
    have hlast : (seen ++ [e.born]).getLast? = some e.born := by simp
    have hfin : (es.find? fun x => Nat.beq x.born e.born) = some e := by
      obtain ⟨A', B', hes⟩ := List.append_of_mem hee
      have hnd := hm.bn
      rw [hes] at hnd
      simp only [List.map_append, List.map_cons, List.nodup_append] at hnd
      rw [hes, List.find?_append, List.find?_eq_none.2]
      · simp only [List.find?_cons, Nat.beq_refl, Option.none_or]
      · intro x hx hx2
        have := hnd.2.2 x.born (List.mem_map_of_mem hx) e.born (by simp)
        exact this (Nat.eq_of_beq_eq_true hx2)
    rw [hpk.1, hpk.2]
    refine h1 R1 p R2 _ hRR (H_miter.2 ⟨es, clock, seen ++ [e.born], ⟨hm, by rw [hF2, List.map_append, hA, hB, List.map_append]⟩, ?_⟩) ?_
    · exact hset.perm (.swap _ _ _)
    · have h4 := hset.perm (.swap _ _ _)
      unfold aEntry
      simp only [hset.get0.1, hlast, Option.bind_some, h4.get0.1, Nat.beq_refl, cond_true, hfin, Option.map_some, hpk.1, hpk.2]
end Go.Ax
set_option maxRecDepth 100000
namespace Go.Ax.C
open Go.Proofs Go.RowKit

variable {l r m : List Assn} {σ : AHeap} {Q : RK}

def signB (b : Nat) : Bool := (decide (97 ≤ b) && decide (b ≤ 122)) || (decide (48 ≤ b) && decide (b ≤ 57)) || decide (b = 45) || decide (b = 95) || decide (b = 46)
/-- A name as it may be. -/
def nameOk (s : ByteArray) : Bool := decide (1 ≤ s.size) && decide (s.size ≤ 16) && s.data.toList.all fun b => signB b.toNat
theorem decode_low {s : ByteArray} {i : Nat} (h : (s.get! i).toNat < 128) : Utf8.decode s i = ((s.get! i).toNat, 1) := by
  unfold Utf8.decode
  simp only [Nat.add_zero]
  rw [if_pos h]
theorem decode_high {s : ByteArray} {i : Nat} (h : 128 ≤ (s.get! i).toNat) : 128 ≤ (Utf8.decode s i).1 := by
  unfold Utf8.decode
  simp only [Nat.add_zero]
  rw [if_neg (by omega)]
  split
  · split
    · rename_i h1; exact h1
    · decide
  · split
    · split
      · rename_i h1; simp at h1; simp only; omega
      · decide
    · split
      · split
        · rename_i h1; simp at h1; simp only; omega
        · decide
      · decide
theorem get_bang {s : ByteArray} {i : Nat} (h : i < s.size) : s.data.toList[i]? = some (s.get! i) := by
  have h' : i < s.data.size := h
  rw [Array.getElem?_toList, Array.getElem?_eq_getElem h']
  congr 1
  show s.data[i] = s.data[i]!
  rw [getElem!_pos s.data i h']

theorem named_k8 {N : AHeap → Prop} {c : Bool} (h1 : c = true → Q (.ret (.bool false)) σ) (h2 : c = false → N σ) : s_dir_Named_k8 N E Q c σ := by
  unfold s_dir_Named_k8
  exact If_b h1 h2
theorem dirNamed {s : ByteArray} (h : H l σ) (hQ : ∀ σ', H l σ' → Q (.ret (.bool (nameOk s))) σ') : E f_dir_Named [.string s] σ Q := by
  apply e_dir_Named; unfold s_dir_Named
  refine If_dec (fun g => ?_) fun g => ?_
  · unfold s_dir_Named_k2
    refine If_t rfl ?_
    have : nameOk s = false := by unfold nameOk; simp; omega
    rw [← this]; exact hQ σ h
  · unfold s_dir_Named_k2
    refine If_dec (fun g2 => ?_) fun g2 => ?_
    · have : nameOk s = false := by
        unfold nameOk
        have : decide (s.size ≤ 16) = false := by simp; omega
        rw [this]; simp
      rw [← this]; exact hQ σ h
    · have e : aRange P t_string (.string s) σ = some (.pointer (some ⟨σ.size, 0, none⟩), σ.push (.strIter s 0)) := rfl
      rw [e, pu_some]
      have h1 := (h.push (.strIter s 0)).unsnoc
      refine ⟨fun m τ => ∃ pos, m = s.size - pos ∧ pos ≤ s.size ∧ (∀ i < pos, signB (s.get! i).toNat = true) ∧ H (pt σ.size (.strIter s pos) :: l) τ, ⟨_, 0, rfl, by omega, fun i hi => by omega, h1⟩, ?_⟩
      rintro m τ ⟨pos, rfl, hp, hall, h2⟩
      unfold s_dir_Named_b1
      have hg := h2.get0.1
      unfold aNextStr
      simp only [hg]
      by_cases hlt : pos < s.size
      · have hb : Nat.blt pos s.size = true := by simpa using hlt
        rw [hb]
        simp only [cond_true, pu_some]
        have h3 := h2.set0 (.strIter s (pos + (Utf8.decode s pos).2))
        have x0 : xExt (.tuple #[.bool true, .int .i64 pos, .int .i32 (Utf8.decode s pos).1]) 0 = some (.bool true) := rfl
        have x2 : xExt (.tuple #[.bool true, .int .i64 pos, .int .i32 (Utf8.decode s pos).1]) 2 = some (.int .i32 (Utf8.decode s pos).1) := rfl
        rw [x0, ldB_some]
        refine If_t rfl ?_
        rw [x2, ldI_some]
        -- what is left: the sign may be, or not
        have hno : signB (Utf8.decode s pos).1 = false → Q (.ret (.bool false)) (τ.set σ.size (.strIter s (pos + (Utf8.decode s pos).2))) := by
          intro hs
          have : nameOk s = false := by
            unfold nameOk
            rw [Bool.and_eq_false_iff]; right
            rw [← Bool.not_eq_true, List.all_eq_true]
            intro hx
            have h5 := hx (s.get! pos) (List.mem_of_getElem? (get_bang hlt))
            by_cases hl : (s.get! pos).toNat < 128
            · rw [decode_low hl] at hs; rw [h5] at hs; cases hs
            · unfold signB at h5; simp at h5; omega
          rw [← this]; exact hQ _ h3.tail
        have hyes : signB (Utf8.decode s pos).1 = true → ∃ m', m' < s.size - pos ∧ ∃ pos', m' = s.size - pos' ∧ pos' ≤ s.size ∧ (∀ i < pos', signB (s.get! i).toNat = true) ∧ H (pt σ.size (.strIter s pos') :: l) (τ.set σ.size (.strIter s (pos + (Utf8.decode s pos).2))) := by
          intro hs
          have hl : (s.get! pos).toNat < 128 := by
            rcases Nat.lt_or_ge (s.get! pos).toNat 128 with q | q
            · exact q
            · have := decode_high q
              unfold signB at hs; simp at hs; omega
          have e2 := decode_low hl
          rw [e2] at hs h3 ⊢
          refine ⟨_, ?_, pos + 1, rfl, by omega, fun i hi => ?_, h3⟩
          · omega
          · by_cases hi2 : i = pos
            · subst hi2; exact hs
            · exact hall i (by omega)
        generalize hc : (Utf8.decode s pos).1 = c at hno hyes ⊢
        unfold signB at hno hyes
        repeat' first
          | refine named_k8 (fun g => hno ?_) (fun g => hyes ?_)
          | refine If_dec (fun g => ?_) fun g => ?_
          | refine If_ne (fun g => ?_) fun g => ?_
          | refine And.intro (show isSkip skipV = true from rfl) ?_
        all_goals (first | (simp at g) | skip)
        all_goals (simp; omega)
      · have hb : Nat.blt pos s.size = false := by
          rw [Bool.eq_false_iff]; intro hx; exact hlt (by simpa using hx)
        rw [hb]
        simp only [cond_false, pu_some]
        have x0 : xExt (.tuple #[.bool false]) 0 = some (.bool false) := rfl
        rw [x0, ldB_some]
        refine If_f rfl ?_
        have : nameOk s = true := by
          unfold nameOk
          have hp2 : pos = s.size := by omega
          have a1 : decide (1 ≤ s.size) = true := by simp; omega
          have a2 : decide (s.size ≤ 16) = true := by simp; omega
          rw [a1, a2, Bool.true_and, Bool.true_and, List.all_eq_true]
          intro x hx
          obtain ⟨i, hi, rfl⟩ := List.getElem_of_mem hx
          have hi' : i < s.size := by simpa using hi
          have := get_bang hi'
          rw [List.getElem?_eq_getElem hi] at this
          simp only [Option.some.injEq] at this
          rw [this]; exact hall i (by omega)
        rw [← this]; exact hQ τ h2.tail
end Go.Ax.C
set_option maxRecDepth 100000
namespace Go.Ax.C
open Go.Proofs Go.RowKit

variable {l r m : List Assn} {σ : AHeap} {Q : RK}

/-! ### In plain words -/
structure Vol where
  id : Nat
  name : ByteArray
  size : Nat
  root : Nat
  fixed : Bool
  origin : Nat
def Vol.cells (v : Vol) : List Value := [.int .u64 v.id, .string v.name, .int .u64 v.size, .int .u64 v.root, .bool v.fixed, .int .u64 v.origin]
abbrev Blks := List (Nat × List UInt8)
structure Hd where
  vol : Vol
  bl : Blks
structure MM where
  next : Nat
  by' : List (Nat × Hd)
def MM.named (M : MM) (s : ByteArray) : Option Hd := (M.by'.find? fun w => decide (w.2.vol.name = s)).map (·.2)
def MM.at' (M : MM) (id : Nat) : Option Hd := (M.by'.find? fun w => w.1 == id).map (·.2)
structure MM.Ok (M : MM) : Prop where
  lo : 1 ≤ M.next
  hi : M.next < 9223372036854775808
  id : ∀ w ∈ M.by', w.1 = w.2.vol.id ∧ w.1 < M.next ∧ 1 ≤ w.1
  nd : (M.by'.map (·.1)).Nodup
  nm : (M.by'.map fun w => w.2.vol.name).Nodup
  len : M.by'.length ≤ 16
  sz : ∀ w ∈ M.by', 1 ≤ w.2.vol.size ∧ w.2.vol.size ≤ 4294967296
  bl : ∀ w ∈ M.by', (w.2.bl.map (·.1)).Nodup ∧ ∀ p ∈ w.2.bl, p.2.length = 256 ∧ p.1 < 16777216

/-! ### In memory -/
def blkV (x : List UInt8) : Value := .agg (bv x).toArray
def bkv (bl : Blks) : KVs := bl.map fun p => (p.1, blkV p.2)
def HdA (b : Nat) (h : Hd) : Assn := ex fun mb : Nat => sep (pt b (.cells (h.vol.cells ++ [.map (some mb)]) t_model_held false)) (UMap .u64 mb (bkv h.bl))
abbrev WRow := Nat × Nat × Hd
def kvW (w : WRow) : Nat × Value := (w.1, .pointer (some ⟨w.2.1, 0, none⟩))
def hdW (w : WRow) : Assn := HdA w.2.1 w.2.2
def MO (x mb : Nat) (nx : Nat) (W : List WRow) (l : List Assn) : List Assn := pt x (.cells [.int .u64 nx, .map (some mb)] t_model_Model false) :: UMap .u64 mb (W.map kvW) :: Star (W.map hdW) :: l
def ModelA (x : Nat) (M : MM) : Assn := ex fun p : Nat × List WRow => sep (pure' (p.2.map (fun w => (w.1, w.2.2)) = M.by')) (Star (MO x p.1 M.next p.2 []))
theorem model_out {x : Nat} {M : MM} (h : H (ModelA x M :: l) σ) : ∃ mb W, W.map (fun w => (w.1, w.2.2)) = M.by' ∧ H (MO x mb M.next W l) σ := by
  obtain ⟨⟨mb, W⟩, h⟩ := H_ex.1 h
  rw [H_sep] at h
  obtain ⟨h1, h⟩ := H_pure.1 h
  exact ⟨mb, W, h1, H_star.1 h⟩
theorem model_in {x mb : Nat} {M : MM} {W : List WRow} (hW : W.map (fun w => (w.1, w.2.2)) = M.by') (h : H (MO x mb M.next W l) σ) : H (ModelA x M :: l) σ := by
  refine H_ex.2 ⟨(mb, W), ?_⟩
  rw [H_sep]
  refine H_pure.2 ⟨hW, ?_⟩
  exact H_star.2 h

theorem hd_out {W : List WRow} {k : Nat} {w : WRow} (h : H (Star (W.map hdW) :: m) σ) (hk : W[k]? = some w) : H (hdW w :: Star ((W.map hdW).set k emp) :: m) σ := by
  have h1 := H_star.1 h
  have hk' : (W.map hdW)[k]? = some (hdW w) := by rw [List.getElem?_map, hk]; rfl
  have hl := (List.getElem?_eq_some_iff.1 hk').1
  have h2 := h1.front k (by rw [List.getElem?_append_left hl]; exact hk')
  rw [List.set_append_left _ _ hl] at h2
  exact (H_star.2 (h2.perm List.perm_middle.symm : H (((W.map hdW).set k emp) ++ (hdW w :: m)) σ)).perm (.swap _ _ _)
theorem hd_in {W : List WRow} {k : Nat} {w : WRow} (hk : k < W.length) (h : H (hdW w :: Star ((W.map hdW).set k emp) :: m) σ) : H (Star ((W.set k w).map hdW) :: m) σ := by
  have hl : k < (W.map hdW).length := by simpa using hk
  have h3 := (H_star.1 (h.perm (.swap _ _ _))).perm List.perm_middle
  have h5 : H ((W.map hdW ++ m).set k (hdW w)) σ := H.back k (A := hdW W[k]) (by rw [List.getElem?_append_left hl, List.getElem?_map, List.getElem?_eq_getElem hk]; rfl) (by rw [List.set_append_left _ _ hl]; exact h3)
  rw [List.set_append_left _ _ hl, ← List.map_set] at h5
  exact H_star.2 h5
/-- A volume's cells, as they are read. -/
theorem hd_row {W : List WRow} {k : Nat} {w : WRow} (h : H (Star (W.map hdW) :: m) σ) (hk : W[k]? = some w) : ∃ mb, σ.row w.2.1 = some (w.2.2.vol.cells ++ [.map (some mb)]) := by
  obtain ⟨mb, h1⟩ := H_ex.1 (hd_out h hk)
  rw [H_sep] at h1
  exact ⟨mb, h1.row 0 rfl⟩

theorem mnone {x mb nx : Nat} {W : List WRow} (h : H (MO x mb nx W l) σ) (hQ : Q (.ret (.bool false)) σ) : E f_model_Model_none [.pointer (some ⟨x, 0, none⟩)] σ Q := by
  apply e_model_Model_none; unfold s_model_Model_none
  unfold MO at h
  refine ld h ?_
  exact hQ
theorem msize {n : Nat} (hQ : Q (.ret (.bool (decide (1 ≤ n ∧ n ≤ 4294967296)))) σ) : E f_model_size [.int .u64 n] σ Q := by
  apply e_model_size; unfold s_model_size
  refine If_dec (fun g => ?_) fun g => ?_
  · have : (decide ((n : Int) ≤ 4294967296)) = decide (1 ≤ n ∧ n ≤ 4294967296) := by rw [Bool.eq_iff_iff]; simp; omega
    rw [this]; exact hQ
  · have : decide (1 ≤ n ∧ n ≤ 4294967296) = false := by simp; omega
    rw [this] at hQ; exact hQ
theorem mfull {b : Bool} (hQ : Q (.ret (.int .i64 (if b then 8 else 0))) σ) : E f_model_full [.bool b] σ Q := by
  apply e_model_full; unfold s_model_full
  cases b
  · exact hQ
  · exact hQ

theorem beq_ba (a b : ByteArray) : aBin (some .string) .eql (.string a) (.string b) = some (.bool (decide (a = b))) := by
  simp only [aBin, aStr, ByteArray.toList_eq]
  by_cases e : a = b
  · simp [e]
  · have : ¬ a.data = b.data := fun h => e (by cases a; cases b; simp at h; rw [h])
    simp [e, this]
theorem keys_nodup {mb : Nat} {W : List WRow} (h : H (UMap .u64 mb (W.map kvW) :: l) σ) : (W.map (·.1)).Nodup := by
  obtain ⟨es, clock, hm, _⟩ := H_umap.1 h
  have := hm.nd
  rw [List.map_map] at this
  exact this
theorem same_row {W : List WRow} (hn : (W.map (·.1)).Nodup) {u w : WRow} (hu : u ∈ W) (hw : w ∈ W) (e : u.1 = w.1) : u = w := by
  obtain ⟨i, hi, rfl⟩ := List.getElem_of_mem hu
  obtain ⟨j, hj, rfl⟩ := List.getElem_of_mem hw
  have := (List.getElem_inj (i := i) (j := j) (h₀ := by simpa using hi) (h₁ := by simpa using hj) hn).1 (by simpa using e)
  subst this; rfl

/-- The volume of a name. -/
theorem mnamed {x mb nx : Nat} {W : List WRow} {s : ByteArray} (h : H (MO x mb nx W l) σ)
    (hy : ∀ (k : Nat) (w : WRow) σ', W[k]? = some w → w.2.2.vol.name = s → H (MO x mb nx W l) σ' → Q (.ret (.tuple #[.pointer (some ⟨w.2.1, 0, none⟩), .int .i64 0])) σ')
    (hn : (∀ w ∈ W, w.2.2.vol.name ≠ s) → ∀ σ', H (MO x mb nx W l) σ' → Q (.ret (.tuple #[.pointer none, .int .i64 6])) σ') : E f_model_Model_named [.pointer (some ⟨x, 0, none⟩), .string s] σ Q := by
  apply e_model_Model_named; unfold s_model_Model_named
  have h0 := h
  unfold MO at h
  refine ld h ?_
  have h1 := h.perm (.swap _ _ _)
  have hnd := keys_nodup h1
  refine umap_range (P := P) (e := t_uint64) (u := t_p_model_held) h1 (by kernel_rfl) ?_
  intro it σ1 h2
  refine ⟨fun m τ => ∃ R : KVs, m = R.length ∧ (∀ p ∈ R, p ∈ W.map kvW) ∧ (∀ w ∈ W, kvW w ∈ R ∨ w.2.2.vol.name ≠ s) ∧ H (MIter .u64 it mb (W.map kvW) R :: pt x (.cells [.int .u64 nx, .map (some mb)] t_model_Model false) :: Star (W.map hdW) :: l) τ,
    ⟨_, W.map kvW, rfl, fun p hp => hp, fun w hw => .inl (List.mem_map_of_mem hw), h2⟩, ?_⟩
  rintro m τ ⟨R, rfl, hR, hW, h3⟩
  unfold s_model_Model_named_b1
  refine miter_next h3 ?_ ?_
  · rintro rfl
    simp only
    have x0 : xExt (.tuple #[.bool false]) 0 = some (.bool false) := rfl
    rw [x0, ldB_some]
    refine If_f rfl ?_
    refine hn (fun w hw => ?_) τ ((miter_map h3).perm (.swap _ _ _))
    rcases hW w hw with h | h
    · simp at h
    · exact h
  · rintro R1 p R2 τ1 rfl h4 he
    simp only
    have x0 : xExt (.tuple #[.bool true, .int .u64 p.1, p.2]) 0 = some (.bool true) := rfl
    rw [x0, ldB_some]
    refine If_t rfl ?_
    rw [he, om_some]
    have x1 : xExt (.tuple #[.int .u64 p.1, p.2]) 1 = some p.2 := rfl
    rw [x1, om_some]
    obtain ⟨w, hw, rfl⟩ := List.mem_map.1 (hR p (by simp))
    obtain ⟨k, hk, hkw⟩ := List.getElem_of_mem hw
    have hk' : W[k]? = some w := by rw [List.getElem?_eq_getElem hk, hkw]
    have h5 : H (Star (W.map hdW) :: MIter .u64 it mb (W.map kvW) (R1 ++ R2) :: pt x (.cells [.int .u64 nx, .map (some mb)] t_model_Model false) :: l) τ1 := h4.perm (by
      exact ((List.Perm.swap _ _ _).cons _).trans (.swap _ _ _))
    obtain ⟨wb, hrow⟩ := hd_row h5 hk'
    have e2 : (kvW w).2 = .pointer (some ⟨w.2.1, 0, none⟩) := rfl
    rw [e2]
    simp only [nil_ptr, om_some, fieldAddr_ptr, Nat.zero_add]
    rw [load1 hrow]
    have e3 : (w.2.2.vol.cells ++ [.map (some wb)])[1]? = some (.string w.2.2.vol.name) := rfl
    rw [e3, ldS_some]
    rw [beq_ba, ldB_some]
    have h6 := (miter_map h4).perm (.swap _ _ _)
    refine If_b (fun g => ?_) fun g => ?_
    · exact hy k w τ1 hk' (of_decide_eq_true g) h6
    · refine ⟨_, ?_, R1 ++ R2, rfl, fun q hq => hR q ?_, fun u hu => ?_, h4⟩
      · simp
      · simp only [List.mem_append, List.mem_cons] at hq ⊢
        exact hq.elim .inl fun h => .inr (.inr h)
      · rcases hW u hu with h | h
        · simp only [List.mem_append, List.mem_cons] at h
          rcases h with h | h | h
          · exact .inl (by simp [h])
          · right
            have : u = w := same_row hnd hu hw (congrArg (·.1) h)
            rw [this]
            exact of_decide_eq_false g
          · exact .inl (by simp [h])
        · exact .inr h
end Go.Ax.C
set_option maxRecDepth 100000
namespace Go.Ax.C
open Go.Proofs Go.RowKit

variable {l r m : List Assn} {σ : AHeap} {Q : RK}

theorem H_tl (ps : List Assn) : H (ps ++ l) σ ↔ H (ps ++ [Star l]) σ := by
  constructor
  · intro h
    exact (H_star.2 (h.perm List.perm_append_comm)).perm (List.perm_append_comm (l₁ := [Star l]) (l₂ := ps))
  · intro h
    have h1 : H (Star l :: ps) σ := h.perm (List.perm_append_comm (l₁ := ps) (l₂ := [Star l]))
    exact (H_star.1 h1).perm List.perm_append_comm

def roomE (M : MM) (s : ByteArray) (short : Bool) : Nat :=
  if nameOk s = false then 1 else if (M.named s).isSome then 7 else if short || decide (16 ≤ M.by'.length) then 8 else 0
theorem named_some {M : MM} {W : List WRow} {w : WRow} {s : ByteArray} (hW : W.map (fun w => (w.1, w.2.2)) = M.by') (hn : (M.by'.map fun w => w.2.vol.name).Nodup) (hw : w ∈ W) (e : w.2.2.vol.name = s) : M.named s = some w.2.2 := by
  unfold MM.named
  have hm : (w.1, w.2.2) ∈ M.by' := by rw [← hW]; exact List.mem_map.2 ⟨w, hw, rfl⟩
  obtain ⟨A, B, e2⟩ := List.append_of_mem hm
  rw [e2] at hn ⊢
  simp only [List.map_append, List.map_cons, List.nodup_append] at hn
  rw [List.find?_append, List.find?_eq_none.2]
  · simp [e]
  · intro y hy
    have := hn.2.2 y.2.vol.name (List.mem_map_of_mem (f := fun w : Nat × Hd => w.2.vol.name) hy) w.2.2.vol.name (by simp)
    rw [e] at this
    simpa using this
theorem named_none {M : MM} {W : List WRow} {s : ByteArray} (hW : W.map (fun w => (w.1, w.2.2)) = M.by') (h : ∀ w ∈ W, w.2.2.vol.name ≠ s) : M.named s = none := by
  unfold MM.named
  rw [List.find?_eq_none.2]; rfl
  intro y hy
  rw [← hW] at hy
  obtain ⟨w, hw, rfl⟩ := List.mem_map.1 hy
  simpa using h w hw

theorem mroom {x mb : Nat} {M : MM} {W : List WRow} {s : ByteArray} {short : Bool} (h : H (MO x mb M.next W l) σ) (hW : W.map (fun w => (w.1, w.2.2)) = M.by') (hM : M.Ok)
    (hQ : ∀ σ', H (MO x mb M.next W l) σ' → Q (.ret (.int .i64 (roomE M s short))) σ') : E f_model_Model_room [.pointer (some ⟨x, 0, none⟩), .string s, .bool short] σ Q := by
  apply e_model_Model_room; unfold s_model_Model_room
  have hl : W.length = M.by'.length := by rw [← hW, List.length_map]
  refine dirNamed h ?_
  intro σ1 h1
  rw [cB_ret]
  unfold roomE at hQ
  refine If_b (fun g => ?_) fun g => ?_
  · have g' : nameOk s = false := by simpa using g
    rw [if_pos g'] at hQ
    exact hQ σ1 h1
  · have g' : ¬ nameOk s = false := by simpa using g
    rw [if_neg g'] at hQ
    refine mnamed h1 ?_ ?_
    · intro k w σ2 hk hws h2
      rw [c2_ret, tI_int]
      refine If_t (by simp) ?_
      rw [named_some hW hM.nm (List.mem_of_getElem? hk) hws] at hQ
      exact hQ σ2 h2
    · intro hno σ2 h2
      rw [c2_ret, tI_int]
      refine If_f (by simp) ?_
      rw [named_none hW hno] at hQ
      have h3 := h2
      unfold MO at h3
      refine If_b (fun g2 => ?_) fun g2 => ?_
      · refine mfull ?_
        rw [cI_ret]
        rw [g2] at hQ
        exact hQ σ2 h2
      · refine ld h3 ?_
        rw [umap_len (h3.perm (.swap _ _ _)), ldI_some]
        have e : decide ((16 : Int) ≤ ((W.map kvW).length : Int)) = decide (16 ≤ M.by'.length) := by rw [List.length_map, hl, Bool.eq_iff_iff]; simp; omega
        rw [e]
        refine mfull ?_
        rw [cI_ret]
        rw [g2] at hQ
        simp only [Option.isSome_none, Bool.false_eq_true, if_false, Bool.false_or] at hQ
        have := hQ σ2 h2
        cases hd : decide (16 ≤ M.by'.length) with
        | true => rw [hd] at this; exact this
        | false => rw [hd] at this; exact this

/-- One more volume. -/
def MM.add (M : MM) (h : Hd) : MM := ⟨M.next + 1, M.by' ++ [(M.next, { h with vol := { h.vol with id := M.next } })]⟩
theorem madd {x mb hb : Nat} {M : MM} {W : List WRow} {hd : Hd} (h : H (HdA hb hd :: MO x mb M.next W l) σ) (hW : W.map (fun w => (w.1, w.2.2)) = M.by') (hM : M.Ok)
    (hQ : ∀ W' σ', W'.map (fun w => (w.1, w.2.2)) = (M.add hd).by' → H (MO x mb (M.add hd).next W' l) σ' → Q (.ret (.tuple #[.int .u64 M.next, .int .i64 0])) σ') : E f_model_Model_add [.pointer (some ⟨x, 0, none⟩), .pointer (some ⟨hb, 0, none⟩)] σ Q := by
  apply e_model_Model_add; unfold s_model_Model_add
  have hhi := hM.hi
  obtain ⟨bm, h1⟩ := H_ex.1 h
  rw [H_sep] at h1
  unfold MO at h1
  have h2 : H (pt x (.cells [.int .u64 M.next, .map (some mb)] t_model_Model false) :: pt hb (.cells [.int .u64 hd.vol.id, .string hd.vol.name, .int .u64 hd.vol.size, .int .u64 hd.vol.root, .bool hd.vol.fixed, .int .u64 hd.vol.origin, .map (some bm)] t_model_held false) :: UMap .u64 bm (bkv hd.bl) :: UMap .u64 mb (W.map kvW) :: Star (W.map hdW) :: l) σ :=
    h1.perm (((List.Perm.swap _ _ _).cons _).trans (.swap _ _ _))
  refine ldi h2 ?_
  refine st h2 rfl ?_
  intro σ1 h3
  refine ld h3 ?_
  refine ldi h3 ?_
  have h4 : H (UMap .u64 mb (W.map kvW) :: pt hb (.cells [.int .u64 M.next, .string hd.vol.name, .int .u64 hd.vol.size, .int .u64 hd.vol.root, .bool hd.vol.fixed, .int .u64 hd.vol.origin, .map (some bm)] t_model_held false) :: pt x (.cells [.int .u64 M.next, .map (some mb)] t_model_Model false) :: UMap .u64 bm (bkv hd.bl) :: Star (W.map hdW) :: l) σ1 :=
    h3.perm (by
      refine ((((List.Perm.swap _ _ _).cons _).trans (.swap _ _ _)).cons _).trans ?_
      exact (List.Perm.swap _ _ _))
  refine umap_update (P := P) (e := t_p_model_held) h4 (by kernel_rfl) ?_
  intro σ2 h5
  have hno : mget (W.map kvW) M.next = none := mget_none fun p hp e => by
    obtain ⟨w, hw, rfl⟩ := List.mem_map.1 hp
    have hm : (w.1, w.2.2) ∈ M.by' := by rw [← hW]; exact List.mem_map.2 ⟨w, hw, rfl⟩
    have := (hM.id _ hm).2.1
    simp only [kvW] at e
    omega
  rw [mset_new hno] at h5
  refine ldi h5 ?_
  refine bu64 ((M.next + 1 : Nat) : Int) (by omega) ?_
  refine st h5 rfl ?_
  intro σ3 h6
  refine ldi h6 ?_
  refine hQ (W ++ [(M.next, hb, { hd with vol := { hd.vol with id := M.next } })]) σ3 ?_ ?_
  · rw [List.map_append, hW]; rfl
  · unfold MO
    rw [List.map_append, List.map_append]
    have h6 := (H_tl [_, _, _, _, _]).1 h6
    have h7 : H (Star (W.map hdW) :: pt hb (.cells [.int .u64 M.next, .string hd.vol.name, .int .u64 hd.vol.size, .int .u64 hd.vol.root, .bool hd.vol.fixed, .int .u64 hd.vol.origin, .map (some bm)] t_model_held false) :: UMap .u64 bm (bkv hd.bl) :: pt x (.cells [.int .u64 (M.next + 1 : Nat), .map (some mb)] t_model_Model false) :: UMap .u64 mb (W.map kvW ++ [(M.next, .pointer (some ⟨hb, 0, none⟩))]) :: [Star l]) σ3 := h6.pick [4, 2, 3, 0, 1, 5] (by decide)
    have h8 : H (HdA hb { hd with vol := { hd.vol with id := M.next } } :: [pt x (.cells [.int .u64 (M.next + 1 : Nat), .map (some mb)] t_model_Model false), UMap .u64 mb (W.map kvW ++ [(M.next, .pointer (some ⟨hb, 0, none⟩))]), Star (W.map hdW), Star l]) σ3 := by
      refine H_ex.2 ⟨bm, ?_⟩
      rw [H_sep]
      exact h7.pick [1, 2, 3, 4, 0, 5] (by decide)
    have h9 := H_star.1 (h8.pick [3, 0, 1, 2, 4] (by decide))
    have h10 : H ((W.map hdW ++ [HdA hb { hd with vol := { hd.vol with id := M.next } }]) ++ [pt x (.cells [.int .u64 (M.next + 1 : Nat), .map (some mb)] t_model_Model false), UMap .u64 mb (W.map kvW ++ [(M.next, .pointer (some ⟨hb, 0, none⟩))]), Star l]) σ3 := by simpa using h9
    have h11 := (H_star.2 h10).pick [1, 2, 0, 3] (by decide)
    exact (H_tl [_, _, _]).2 h11
end Go.Ax.C
set_option maxRecDepth 100000
namespace Go.Ax.C
open Go.Proofs Go.RowKit

variable {l r m : List Assn} {σ : AHeap} {Q : RK}

theorem nobodyC : NoBody P f_maps_clone Extern.MapsClone.clone := ⟨Try.f109, by kernel_rfl, by kernel_rfl, by kernel_rfl, by kernel_rfl, by kernel_rfl⟩
theorem mclone {mb : Nat} {L : KVs} (h : H (UMap .u64 mb L :: l) σ) (hQ : ∀ mb' σ', H (UMap .u64 mb' L :: UMap .u64 mb L :: l) σ' → Q (.ret (.map (some mb'))) σ') : E f_maps_Clone_map_uint64_model_block_uint64_model_block [.map (some mb)] σ Q := by
  apply e_maps_Clone_map_uint64_model_block_uint64_model_block; unfold s_maps_Clone_map_uint64_model_block_uint64_model_block
  have e1 : aBin (some (.map t_uint64 t_model_block)) .eql (.map (some mb)) (.map none) = some (.bool false) := rfl
  rw [e1, ldB_some]
  refine If_f rfl ?_
  have e2 : aIface P t_m_uint64_model_block (.map (some mb)) = some (.iface t_m_uint64_model_block (.map (some mb))) := by
    have : ∀ v, aIface P t_m_uint64_model_block v = cond (live v) (some (.iface t_m_uint64_model_block v)) none := fun v => by kernel_rfl
    rw [this]; rfl
  rw [e2, om_some]
  obtain ⟨es, clock, hm, h1⟩ := H_umap.1 h
  rw [E_eq]
  refine Ev.ext (x := aClone) (clone_ok nobodyC) (L := [(.iface t_m_uint64_model_block (.map (some σ.size)), σ.push (.map es clock))]) ?_ ?_
  · unfold aClone
    simp only [h1.get0.1]
  · intro r hr
    simp only [List.mem_singleton] at hr
    subst hr
    rw [cV_ret]
    have e3 : ∀ v, aAssert P t_m_uint64_model_block false (.iface t_m_uint64_model_block v) = some v := fun v => by kernel_rfl
    rw [e3, om_some]
    refine hQ _ _ ?_
    refine H_umap.2 ⟨es, clock, hm, ?_⟩
    have h2 := (h1.push (.map es clock)).unsnoc
    have h3 := h2.perm (.swap _ _ _)
    exact (H_umap.2 ⟨es, clock, hm, h3⟩ : H (UMap .u64 mb L :: pt σ.size (.map es clock) :: l) _).perm (.swap _ _ _)

def volE (M : MM) (s : ByteArray) (n : Nat) (short : Bool) : Nat := if ¬ (1 ≤ n ∧ n ≤ 4294967296) then 1 else roomE M s short
theorem mcreate {x mb : Nat} {M : MM} {W : List WRow} {s : ByteArray} {n : Nat} {short : Bool} (h : H (MO x mb M.next W l) σ) (hW : W.map (fun w => (w.1, w.2.2)) = M.by') (hM : M.Ok)
    (hno : volE M s n short ≠ 0 → ∀ σ', H (MO x mb M.next W l) σ' → Q (.ret (.tuple #[.int .u64 0, .int .i64 (volE M s n short)])) σ')
    (hyes : volE M s n short = 0 → ∀ W' σ', W'.map (fun w => (w.1, w.2.2)) = (M.add ⟨⟨0, s, n, 0, false, 0⟩, []⟩).by' → H (MO x mb (M.next + 1) W' l) σ' → Q (.ret (.tuple #[.int .u64 M.next, .int .i64 0])) σ') :
    E f_model_Model_Create [.pointer (some ⟨x, 0, none⟩), .string s, .int .u64 n, .bool short] σ Q := by
  apply e_model_Model_Create; unfold s_model_Model_Create
  refine mnone h ?_
  rw [cB_ret]
  refine If_f rfl ?_
  refine msize ?_
  rw [cB_ret]
  unfold volE at hno hyes
  refine If_b (fun g => ?_) fun g => ?_
  · have g' : ¬ (1 ≤ n ∧ n ≤ 4294967296) := by simp at g; omega
    rw [if_pos g'] at hno
    exact hno (by omega) σ h
  · have g' : ¬ ¬ (1 ≤ n ∧ n ≤ 4294967296) := by simp at g; omega
    rw [if_neg g'] at hno hyes
    refine mroom h hW hM ?_
    intro σ1 h1
    rw [cI_ret]
    refine If_ne (fun g2 => ?_) fun g2 => ?_
    · exact hno (by omega) σ1 h1
    · have g3 : roomE M s short = 0 := by omega
      refine umap_new (k := .u64) h1 (by rfl) ?_
      intro bm σ2 h2
      refine On_one rfl ?_
      refine nw h2 ?_
      intro hb σ3 h3
      have h4 : H (HdA hb ⟨⟨0, s, n, 0, false, 0⟩, []⟩ :: MO x mb M.next W l) σ3 := by
        refine H_ex.2 ⟨bm, ?_⟩
        rw [H_sep]
        exact h3
      refine madd h4 hW hM ?_
      intro W' σ4 hW' h5
      rw [c2_ret, tI_int, tI_int]
      exact hyes g3 W' σ4 hW' h5

theorem set_get_same {α : Type} {R : List α} {k : Nat} {x : α} (hk : R[k]? = some x) : R.set k x = R := by
  apply List.ext_getElem?
  intro j
  rw [List.getElem?_set]
  split
  · rename_i e; subst e; rw [hk, if_pos (List.getElem?_eq_some_iff.1 hk).1]
  · rfl
/-- A volume opened: its cells, its map, what is left. -/
theorem mo_out {x mb nx k : Nat} {W : List WRow} {w : WRow} (h : H (MO x mb nx W l) σ) (hk : W[k]? = some w) : ∃ bm, H [pt w.2.1 (.cells (w.2.2.vol.cells ++ [.map (some bm)]) t_model_held false), UMap .u64 bm (bkv w.2.2.bl), Star ((W.map hdW).set k emp), pt x (.cells [.int .u64 nx, .map (some mb)] t_model_Model false), UMap .u64 mb (W.map kvW), Star l] σ := by
  unfold MO at h
  have h1 := (H_tl [_, _, _]).1 h
  have h2 : H (Star (W.map hdW) :: [pt x (.cells [.int .u64 nx, .map (some mb)] t_model_Model false), UMap .u64 mb (W.map kvW), Star l]) σ := h1.pick [2, 0, 1, 3] (by decide)
  obtain ⟨bm, h3⟩ := H_ex.1 (hd_out h2 hk)
  rw [H_sep] at h3
  exact ⟨bm, h3⟩
theorem mo_in {x mb nx k bm : Nat} {W : List WRow} {w : WRow} (hk : k < W.length) (h : H [pt w.2.1 (.cells (w.2.2.vol.cells ++ [.map (some bm)]) t_model_held false), UMap .u64 bm (bkv w.2.2.bl), Star ((W.map hdW).set k emp), pt x (.cells [.int .u64 nx, .map (some mb)] t_model_Model false), UMap .u64 mb (W.map kvW), Star l] σ)
    (hkv : (W.set k w).map kvW = W.map kvW) : H (MO x mb nx (W.set k w) l) σ := by
  unfold MO
  rw [hkv]
  have h3 : H (hdW w :: [Star ((W.map hdW).set k emp), pt x (.cells [.int .u64 nx, .map (some mb)] t_model_Model false), UMap .u64 mb (W.map kvW), Star l]) σ := by
    refine H_ex.2 ⟨bm, ?_⟩
    rw [H_sep]; exact h
  have h4 := hd_in hk h3
  exact (H_tl [_, _, _]).2 (h4.pick [1, 2, 0, 3] (by decide))

def snapE (M : MM) (s as' : ByteArray) (short : Bool) : Nat := match M.named s with | none => 6 | some _ => roomE M as' short
def snapH (h : Hd) (as' : ByteArray) (fixed : Bool) : Hd := ⟨⟨0, as', h.vol.size, 0, fixed, h.vol.id⟩, h.bl⟩
theorem msnapshot {x mb : Nat} {M : MM} {W : List WRow} {s as' : ByteArray} {fixed short : Bool} (h : H (MO x mb M.next W l) σ) (hW : W.map (fun w => (w.1, w.2.2)) = M.by') (hM : M.Ok)
    (hno : snapE M s as' short ≠ 0 → ∀ σ', H (MO x mb M.next W l) σ' → Q (.ret (.tuple #[.int .u64 0, .int .i64 (snapE M s as' short)])) σ')
    (hyes : snapE M s as' short = 0 → ∀ h0 W' σ', M.named s = some h0 → W'.map (fun w => (w.1, w.2.2)) = (M.add (snapH h0 as' fixed)).by' → H (MO x mb (M.next + 1) W' l) σ' → Q (.ret (.tuple #[.int .u64 M.next, .int .i64 0])) σ') :
    E f_model_Model_Snapshot [.pointer (some ⟨x, 0, none⟩), .string s, .string as', .bool fixed, .bool short] σ Q := by
  apply e_model_Model_Snapshot; unfold s_model_Model_Snapshot
  refine mnone h ?_
  rw [cB_ret]
  refine If_f rfl ?_
  unfold snapE at hno hyes
  refine mnamed h ?_ ?_
  · intro k w σ1 hk hws h1
    rw [named_some hW hM.nm (List.mem_of_getElem? hk) hws] at hno hyes
    simp only at hno hyes
    rw [c2_ret, tI_int]
    refine If_ne (fun g => absurd rfl g) fun _ => ?_
    refine mroom h1 hW hM ?_
    intro σ2 h2
    rw [cI_ret]
    refine If_ne (fun g2 => ?_) fun g2 => ?_
    · exact hno (by omega) σ2 h2
    · have g3 : roomE M as' short = 0 := by omega
      obtain ⟨bm, h3⟩ := mo_out h2 hk
      have hrow := h3.row 0 rfl
      simp only [nil_ptr, om_some, fieldAddr_ptr, Nat.zero_add, Nat.add_zero]
      have c0 : aLoad false 1 (.pointer (some ⟨w.2.1, 0, none⟩)) σ2 = some (.int .u64 w.2.2.vol.id) := by rw [load1 hrow]; rfl
      have c2' : aLoad false 1 (.pointer (some ⟨w.2.1, 2, none⟩)) σ2 = some (.int .u64 w.2.2.vol.size) := by rw [load1 hrow]; rfl
      have c6 : aLoad false 1 (.pointer (some ⟨w.2.1, 6, none⟩)) σ2 = some (.map (some bm)) := by rw [load1 hrow]; rfl
      rw [c2', ldI_some, c0, ldI_some, c6, om_some]
      refine mclone (h3.perm (.swap _ _ _)) ?_
      intro bm' σ3 h4
      have hrow' := h4.row 2 rfl
      have d0 : aLoad false 1 (.pointer (some ⟨w.2.1, 0, none⟩)) σ3 = some (.int .u64 w.2.2.vol.id) := by rw [load1 hrow']; rfl
      have d2 : aLoad false 1 (.pointer (some ⟨w.2.1, 2, none⟩)) σ3 = some (.int .u64 w.2.2.vol.size) := by rw [load1 hrow']; rfl
      rw [cV_ret, d2, ldI_some]
      refine ⟨by simp [veq1, veq, veq0], ?_⟩
      rw [d0, ldI_some]
      refine ⟨by simp [veq1, veq, veq0], ?_⟩
      refine On_one rfl ?_
      refine nw h4 ?_
      intro hb σ4 h5
      have hkl := (List.getElem?_eq_some_iff.1 hk).1
      have h6 : H [pt w.2.1 (.cells (w.2.2.vol.cells ++ [.map (some bm)]) t_model_held false), UMap .u64 bm (bkv w.2.2.bl), Star ((W.map hdW).set k emp), pt x (.cells [.int .u64 M.next, .map (some mb)] t_model_Model false), UMap .u64 mb (W.map kvW), Star (HdA hb (snapH w.2.2 as' fixed) :: l)] σ4 := by
        have h7 : H (HdA hb (snapH w.2.2 as' fixed) :: [UMap .u64 bm (bkv w.2.2.bl), pt w.2.1 (.cells (w.2.2.vol.cells ++ [.map (some bm)]) t_model_held false), Star ((W.map hdW).set k emp), pt x (.cells [.int .u64 M.next, .map (some mb)] t_model_Model false), UMap .u64 mb (W.map kvW), Star l]) σ4 := by
          refine H_ex.2 ⟨bm', ?_⟩
          rw [H_sep]
          exact h5
        have h8 : H (Star l :: [HdA hb (snapH w.2.2 as' fixed), UMap .u64 bm (bkv w.2.2.bl), pt w.2.1 (.cells (w.2.2.vol.cells ++ [.map (some bm)]) t_model_held false), Star ((W.map hdW).set k emp), pt x (.cells [.int .u64 M.next, .map (some mb)] t_model_Model false), UMap .u64 mb (W.map kvW)]) σ4 := h7.pick [6, 0, 1, 2, 3, 4, 5] (by decide)
        have h9 : H ((HdA hb (snapH w.2.2 as' fixed) :: l) ++ [UMap .u64 bm (bkv w.2.2.bl), pt w.2.1 (.cells (w.2.2.vol.cells ++ [.map (some bm)]) t_model_held false), Star ((W.map hdW).set k emp), pt x (.cells [.int .u64 M.next, .map (some mb)] t_model_Model false), UMap .u64 mb (W.map kvW)]) σ4 := (H_star.1 h8).perm List.perm_middle
        exact (H_star.2 h9).pick [2, 1, 3, 4, 5, 0] (by decide)
      have h10 := mo_in hkl h6 (by rw [set_get_same hk])
      rw [set_get_same hk] at h10
      have h11 : H (HdA hb (snapH w.2.2 as' fixed) :: MO x mb M.next W l) σ4 := by
        unfold MO at h10 ⊢
        refine h10.perm ?_
        exact (((List.Perm.swap _ _ _).cons _).cons _).trans (((List.Perm.swap _ _ _).cons _).trans (.swap _ _ _))
      refine madd h11 hW hM ?_
      intro W' σ5 hW' h12
      rw [c2_ret, tI_int, tI_int]
      exact hyes g3 _ W' σ5 rfl hW' h12
  · intro hnone σ1 h1
    rw [named_none hW hnone] at hno
    simp only at hno
    rw [c2_ret, tI_int]
    refine If_ne (fun g => ?_) fun g => absurd g (by decide)
    exact hno (by omega) σ1 h1
end Go.Ax.C
set_option maxRecDepth 100000
namespace Go.Ax.C
open Go.Proofs Go.RowKit

variable {l r m : List Assn} {σ : AHeap} {Q : RK}

def volV (v : Vol) : Value := .agg v.cells.toArray
def Vol.none : Vol := ⟨0, ⟨#[]⟩, 0, 0, false, 0⟩
theorem put6 {b e : Nat} {q : Bool} {c vs : List Value} {K : Value → AHeap → Prop} (h : H (pt b (.cells c e q) :: l) σ) (hc : c.length = 6) (hn : vs.length = 6) (hv : vs.all one = true) (hK : ∀ σ', H l σ' → K (.agg vs.toArray) σ') :
    pu (aStore 6 (.pointer (some ⟨b, 0, none⟩)) (.agg vs.toArray) σ) fun τ => pu (aLoad true 6 (.pointer (some ⟨b, 0, none⟩)) τ) fun v => K v τ := by
  refine storeN h 0 rfl hn (by omega) hv (by omega) ?_
  intro σ1 h1
  have h2 : H (pt b (.cells (splice c 0 vs) e q) :: l) σ1 := h1
  have hs : splice c 0 vs = vs := by
    unfold splice
    rw [List.take_zero, List.nil_append, Nat.zero_add, List.drop_of_length_le (by omega), List.append_nil]
  rw [hs] at h2
  rw [loadN (h2.row 0 rfl) (by omega), pu_some, List.drop_zero, List.take_of_length_le (by omega)]
  exact hK σ1 h2.tail
theorem vol_one (v : Vol) : v.cells.all one = true := rfl

theorem kv_some {W : List WRow} {w : WRow} (hn : (W.map (·.1)).Nodup) (hw : w ∈ W) : mget (W.map kvW) w.1 = some (.pointer (some ⟨w.2.1, 0, none⟩)) := by
  refine mget_some (by rw [List.map_map]; exact hn) ?_
  exact List.mem_map.2 ⟨w, hw, rfl⟩
theorem kv_none {W : List WRow} {id : Nat} (h : ∀ w ∈ W, w.1 ≠ id) : mget (W.map kvW) id = none := mget_none fun p hp => by
  obtain ⟨w, hw, rfl⟩ := List.mem_map.1 hp
  exact h w hw
theorem at_some {M : MM} {W : List WRow} {w : WRow} (hW : W.map (fun w => (w.1, w.2.2)) = M.by') (hn : (M.by'.map (·.1)).Nodup) (hw : w ∈ W) : M.at' w.1 = some w.2.2 := by
  unfold MM.at'
  have hm : (w.1, w.2.2) ∈ M.by' := by rw [← hW]; exact List.mem_map.2 ⟨w, hw, rfl⟩
  obtain ⟨A, B, e2⟩ := List.append_of_mem hm
  rw [e2] at hn ⊢
  simp only [List.map_append, List.map_cons, List.nodup_append] at hn
  rw [List.find?_append, List.find?_eq_none.2]
  · simp
  · intro y hy
    have := hn.2.2 y.1 (List.mem_map_of_mem (f := fun w : Nat × Hd => w.1) hy) w.1 (by simp)
    simpa using this
theorem at_none {M : MM} {W : List WRow} {id : Nat} (hW : W.map (fun w => (w.1, w.2.2)) = M.by') (h : ∀ w ∈ W, w.1 ≠ id) : M.at' id = none := by
  unfold MM.at'
  rw [List.find?_eq_none.2]; rfl
  intro y hy
  rw [← hW] at hy
  obtain ⟨w, hw, rfl⟩ := List.mem_map.1 hy
  simpa using h w hw
theorem keys_nd {M : MM} {W : List WRow} (hW : W.map (fun w => (w.1, w.2.2)) = M.by') (hn : (M.by'.map (·.1)).Nodup) : (W.map (·.1)).Nodup := by
  rw [← hW, List.map_map] at hn; exact hn

theorem mbyid {x mb : Nat} {M : MM} {W : List WRow} {id : Nat} (h : H (MO x mb M.next W l) σ) (hW : W.map (fun w => (w.1, w.2.2)) = M.by') (hM : M.Ok)
    (hno : (∀ w ∈ W, w.1 ≠ id) → ∀ σ', H (MO x mb M.next W l) σ' → Q (.ret (.tuple #[volV .none, .int .i64 6])) σ')
    (hyes : ∀ (k : Nat) (w : WRow) σ', W[k]? = some w → w.1 = id → H (MO x mb M.next W l) σ' → Q (.ret (.tuple #[volV w.2.2.vol, .int .i64 0])) σ') : E f_model_Model_ById [.pointer (some ⟨x, 0, none⟩), .int .u64 id] σ Q := by
  apply e_model_Model_ById; unfold s_model_Model_ById
  refine nw h ?_
  intro b σ1 h1
  have hm : H (MO x mb M.next W (pt b (.cells Vol.none.cells t_api_Volume false) :: l)) σ1 := by
    unfold MO at h1 ⊢
    refine h1.perm ?_
    exact (List.Perm.swap _ _ _).trans (((List.Perm.swap _ _ _).cons _).trans (((List.Perm.swap _ _ _).cons _).cons _))
  refine mnone hm ?_
  rw [cB_ret]
  refine If_f rfl ?_
  have hh := hm
  unfold MO at hm
  refine ld hm ?_
  have hu := hm.perm (.swap _ _ _)
  have hl := umap_lookup (P := P) (t := t_m_uint64_p_model_held) (e := t_p_model_held) (z := .pointer none) (ok := true) (a := id) hu (by kernel_rfl) (by kernel_rfl)
  rw [hl, om_some]
  by_cases hx : ∃ w ∈ W, w.1 = id
  · obtain ⟨w, hw, rfl⟩ := hx
    obtain ⟨k, hk, hkw⟩ := List.getElem_of_mem hw
    have hk' : W[k]? = some w := by rw [List.getElem?_eq_getElem hk, hkw]
    rw [kv_some (keys_nd hW hM.nd) hw]
    simp only [okV, cond_true, xExt0, xExt1, om_some, ldB_some]
    refine If_f rfl ?_
    obtain ⟨bm, h3⟩ := mo_out hh hk'
    have hrow := h3.row 0 rfl
    simp only [nil_ptr, om_some, fieldAddr_ptr, Nat.zero_add, Nat.add_zero]
    have c0 : aLoad false 1 (.pointer (some ⟨w.2.1, 0, none⟩)) σ1 = some (.int .u64 w.2.2.vol.id) := by rw [load1 hrow]; rfl
    have c1 : aLoad false 1 (.pointer (some ⟨w.2.1, 1, none⟩)) σ1 = some (.string w.2.2.vol.name) := by rw [load1 hrow]; rfl
    have c2' : aLoad false 1 (.pointer (some ⟨w.2.1, 2, none⟩)) σ1 = some (.int .u64 w.2.2.vol.size) := by rw [load1 hrow]; rfl
    have c3' : aLoad false 1 (.pointer (some ⟨w.2.1, 3, none⟩)) σ1 = some (.int .u64 w.2.2.vol.root) := by rw [load1 hrow]; rfl
    have c4' : aLoad false 1 (.pointer (some ⟨w.2.1, 4, none⟩)) σ1 = some (.bool w.2.2.vol.fixed) := by rw [load1 hrow]; rfl
    have c5 : aLoad false 1 (.pointer (some ⟨w.2.1, 5, none⟩)) σ1 = some (.int .u64 w.2.2.vol.origin) := by rw [load1 hrow]; rfl
    rw [c0, ldI_some, c1, ldS_some, c2', ldI_some, c3', ldI_some, c4', ldB_some, c5, ldI_some]
    refine put6 (vs := w.2.2.vol.cells) (K := fun v τ => Q (.ret (.tuple #[v, .int .i64 0])) τ) h1 rfl rfl rfl ?_
    intro σ2 h4
    exact hyes k w σ2 hk' rfl h4
  · have hno' : ∀ w ∈ W, w.1 ≠ id := fun w hw e => hx ⟨w, hw, e⟩
    rw [kv_none hno']
    simp only [okV, cond_true, xExt0, xExt1, om_some, ldB_some]
    refine If_t rfl ?_
    refine put6 (vs := Vol.none.cells) (K := fun v τ => Q (.ret (.tuple #[v, .int .i64 6])) τ) h1 rfl rfl rfl ?_
    intro σ2 h4
    exact hno hno' σ2 h4

theorem pwithin {a b c : Nat} (hc : c < 18446744073709551616) (hQ : Q (.ret (.bool (decide (a ≤ c ∧ b ≤ c - a)))) σ) : E f_pieces_Within [.int .u64 a, .int .u64 b, .int .u64 c] σ Q := by
  apply e_pieces_Within; unfold s_pieces_Within
  refine If_dec (fun g => ?_) fun g => ?_
  · refine bu64 ((c - a : Nat) : Int) (by omega) ?_
    have : decide ((b : Int) ≤ ((c - a : Nat) : Int)) = decide (a ≤ c ∧ b ≤ c - a) := by rw [Bool.eq_iff_iff]; simp; omega
    rw [this]; exact hQ
  · have : decide (a ≤ c ∧ b ≤ c - a) = false := by simp; omega
    rw [this] at hQ; exact hQ
/-- What may be done to a range. -/
def askE (h : Hd) (off n : Nat) (change wire : Bool) : Nat :=
  if change && h.vol.fixed then 30 else if ¬ (off ≤ h.vol.size ∧ n ≤ h.vol.size - off) then 31 else if wire && decide (4096 < n) then 3 else 0
theorem masked {x mb : Nat} {M : MM} {W : List WRow} {id off n : Nat} {change wire : Bool} (h : H (MO x mb M.next W l) σ) (hW : W.map (fun w => (w.1, w.2.2)) = M.by') (hM : M.Ok)
    (hno : (∀ w ∈ W, w.1 ≠ id) → ∀ σ', H (MO x mb M.next W l) σ' → Q (.ret (.tuple #[.pointer none, .int .i64 6])) σ')
    (hbad : ∀ (w : WRow) σ', w ∈ W → w.1 = id → askE w.2.2 off n change wire ≠ 0 → H (MO x mb M.next W l) σ' → Q (.ret (.tuple #[.pointer none, .int .i64 (askE w.2.2 off n change wire)])) σ')
    (hyes : ∀ (k : Nat) (w : WRow) σ', W[k]? = some w → w.1 = id → askE w.2.2 off n change wire = 0 → H (MO x mb M.next W l) σ' → Q (.ret (.tuple #[.pointer (some ⟨w.2.1, 0, none⟩), .int .i64 0])) σ') :
    E f_model_Model_asked [.pointer (some ⟨x, 0, none⟩), .int .u64 id, .int .u64 off, .int .u64 n, .bool change, .bool wire] σ Q := by
  apply e_model_Model_asked; unfold s_model_Model_asked
  refine mbyid h hW hM ?_ ?_
  · intro hx σ1 h1
    rw [c2_ret, tI_int]
    refine nw h1 ?_
    intro b σ2 h2
    refine storeN (vs := Vol.none.cells) h2 0 rfl rfl (by omega) rfl (by simp) ?_
    intro σ3 h3
    refine If_ne (fun g => ?_) fun g => absurd g (by decide)
    exact hno hx σ3 h3.tail
  · intro k w σ1 hk hid h1
    have hw := List.mem_of_getElem? hk
    have hsz := hM.sz (w.1, w.2.2) (by rw [← hW]; exact List.mem_map.2 ⟨w, hw, rfl⟩)
    simp only at hsz
    rw [c2_ret, tI_int]
    refine nw h1 ?_
    intro b σ2 h2
    refine storeN (vs := w.2.2.vol.cells) h2 0 rfl rfl (by omega) rfl (by simp [Vol.cells]) ?_
    intro σ3 h3
    have h4 : H (pt b (.cells [.int .u64 w.2.2.vol.id, .string w.2.2.vol.name, .int .u64 w.2.2.vol.size, .int .u64 w.2.2.vol.root, .bool w.2.2.vol.fixed, .int .u64 w.2.2.vol.origin] t_api_Volume false) :: MO x mb M.next W l) σ3 := h3
    refine If_ne (fun g => absurd rfl g) fun _ => ?_
    have hb := hbad w
    have hy := hyes k w
    unfold askE at hb hy
    -- behind the question of change
    have key : ∀ c : Bool, c = (change && w.2.2.vol.fixed) → s_model_Model_asked_k4 E Q c off n b wire x id σ3 := by
      intro c hc
      unfold s_model_Model_asked_k4
      refine If_b (fun g => ?_) fun g => ?_
      · rw [← hc, g] at hb
        rw [if_pos rfl] at hb
        exact hb σ3 hw hid (by decide) h4.tail
      · rw [← hc, g] at hb hy
        simp only [Bool.false_eq_true, if_false] at hb hy
        refine ldi h4 ?_
        refine pwithin (by omega) ?_
        rw [cB_ret]
        refine If_b (fun g2 => ?_) fun g2 => ?_
        · have g2' : ¬ (off ≤ w.2.2.vol.size ∧ n ≤ w.2.2.vol.size - off) := by simp at g2; omega
          rw [if_pos g2'] at hb
          exact hb σ3 hw hid (by decide) h4.tail
        · have g2' : ¬ ¬ (off ≤ w.2.2.vol.size ∧ n ≤ w.2.2.vol.size - off) := by simp at g2; omega
          rw [if_neg g2'] at hb hy
          have key6 : ∀ c : Bool, c = (wire && decide (4096 < n)) → s_model_Model_asked_k6 E Q c x id σ3 := by
            intro c hc
            unfold s_model_Model_asked_k6
            refine If_b (fun g3 => ?_) fun g3 => ?_
            · rw [← hc, g3] at hb
              rw [if_pos rfl] at hb
              exact hb σ3 hw hid (by decide) h4.tail
            · rw [← hc, g3] at hy
              simp only [Bool.false_eq_true, if_false] at hy
              have h5 := h4.tail
              unfold MO at h5
              refine ld h5 ?_
              have hl := umap_lookup (P := P) (t := t_m_uint64_p_model_held) (e := t_p_model_held) (z := .pointer none) (ok := false) (a := id) (h5.perm (.swap _ _ _)) (by kernel_rfl) (by kernel_rfl)
              subst hid
              rw [hl, kv_some (keys_nd hW hM.nd) hw]
              simp only [okV, cond_false, om_some]
              exact hy σ3 hk rfl (by decide) h4.tail
          refine If_b (fun g3 => ?_) fun g3 => ?_
          · exact key6 _ (by rw [g3, Bool.true_and, Bool.eq_iff_iff]; simp; omega)
          · exact key6 _ (by rw [g3, Bool.false_and])
    refine If_b (fun g => ?_) fun g => ?_
    · refine ldb h4 ?_
      exact key _ (by rw [g, Bool.true_and])
    · exact key _ (by rw [g, Bool.false_and])
end Go.Ax.C
set_option maxRecDepth 100000
namespace Go.Ax.C
open Go.Proofs Go.RowKit

variable {l r m : List Assn} {σ : AHeap} {Q : RK}

theorem filter_erase {α : Type} (f : α → Nat) : ∀ {L : List α} {k : Nat} {x : α}, (L.map f).Nodup → L[k]? = some x → L.filter (fun y => decide (f y ≠ f x)) = L.eraseIdx k
  | [], k, x, _, h => by simp at h
  | p :: L, 0, x, hn, h => by
    simp at h; subst h
    simp only [List.map_cons, List.nodup_cons] at hn
    rw [List.filter_cons_of_neg (by simp)]
    show _ = L
    rw [List.filter_eq_self]
    intro q hq
    simp
    intro e
    exact hn.1 (by rw [← e]; exact List.mem_map_of_mem hq)
  | p :: L, k + 1, x, hn, h => by
    simp only [List.map_cons, List.nodup_cons] at hn
    simp at h
    have h1 : f p ≠ f x := fun e => hn.1 (by rw [e]; exact List.mem_map_of_mem (List.mem_of_getElem? h))
    rw [List.filter_cons_of_pos (by simpa using h1), filter_erase f hn.2 h]; rfl
theorem star_erase {L : List Assn} {k : Nat} (hk : k < L.length) (h : H (Star (L.set k emp) :: m) σ) : H (Star (L.eraseIdx k) :: m) σ := by
  refine H_star.2 ?_
  have h1 := H_star.1 h
  have e : L = L.take k ++ L[k] :: L.drop (k + 1) := by rw [List.getElem_cons_drop, List.take_append_drop]
  have e1 : L.set k emp = L.take k ++ emp :: L.drop (k + 1) := by rw [List.set_eq_take_append_cons_drop, if_pos hk]
  have e2 : L.eraseIdx k = L.take k ++ L.drop (k + 1) := List.eraseIdx_eq_take_drop_succ _ _
  rw [e1] at h1
  rw [e2]
  have h2 : H (emp :: ((L.take k ++ L.drop (k + 1)) ++ m)) σ := h1.perm (by simpa using List.perm_middle)
  exact H_emp.1 h2

def MM.del (M : MM) (id : Nat) : MM := { M with by' := M.by'.filter fun w => decide (w.1 ≠ id) }
def delE (M : MM) (s : ByteArray) (short : Bool) : Nat := match M.named s with | none => 6 | some _ => if short then 8 else 0
theorem mdelete {x mb : Nat} {M : MM} {W : List WRow} {s : ByteArray} {short : Bool} (h : H (MO x mb M.next W l) σ) (hW : W.map (fun w => (w.1, w.2.2)) = M.by') (hM : M.Ok)
    (hno : delE M s short ≠ 0 → ∀ σ', H (MO x mb M.next W l) σ' → Q (.ret (.int .i64 (delE M s short))) σ')
    (hyes : delE M s short = 0 → ∀ h0 W' σ', M.named s = some h0 → W'.map (fun w => (w.1, w.2.2)) = (M.del h0.vol.id).by' → H (MO x mb M.next W' l) σ' → Q (.ret (.int .i64 0)) σ') :
    E f_model_Model_Delete [.pointer (some ⟨x, 0, none⟩), .string s, .bool short] σ Q := by
  apply e_model_Model_Delete; unfold s_model_Model_Delete
  refine mnone h ?_
  rw [cB_ret]
  refine If_f rfl ?_
  unfold delE at hno hyes
  refine mnamed h ?_ ?_
  · intro k w σ1 hk hws h1
    have hw := List.mem_of_getElem? hk
    have hnm := named_some hW hM.nm hw hws
    rw [hnm] at hno hyes
    simp only at hno hyes
    have hid : w.2.2.vol.id = w.1 := ((hM.id (w.1, w.2.2) (by rw [← hW]; exact List.mem_map.2 ⟨w, hw, rfl⟩)).1).symm
    rw [c2_ret, tI_int]
    refine If_t rfl ?_
    refine mfull ?_
    rw [cI_ret]
    unfold s_model_Model_Delete_k6 s_model_Model_Delete_k8
    cases short with
    | true =>
      refine If_dec (fun g => absurd g (by decide)) fun _ => ?_
      exact hno (by decide) σ1 h1
    | false =>
      refine If_dec (fun _ => ?_) fun g => absurd rfl g
      have h2 := h1
      unfold MO at h2
      refine ld h2 ?_
      obtain ⟨bm, h3⟩ := mo_out h1 hk
      have hrow := h3.row 0 rfl
      simp only [nil_ptr, om_some, fieldAddr_ptr, Nat.zero_add, Nat.add_zero]
      have c0 : aLoad false 1 (.pointer (some ⟨w.2.1, 0, none⟩)) σ1 = some (.int .u64 w.2.2.vol.id) := by rw [load1 hrow]; rfl
      rw [c0, ldI_some]
      refine umap_delete (P := P) (e := t_p_model_held) (h3.pick [4, 2, 3, 5] (by decide)) (by kernel_rfl) ?_
      intro σ2 h4
      have hnd := keys_nd hW hM.nd
      have hkl := (List.getElem?_eq_some_iff.1 hk).1
      have e1 : mdel (W.map kvW) w.2.2.vol.id = (W.eraseIdx k).map kvW := by
        rw [hid, mdel_at (v := .pointer (some ⟨w.2.1, 0, none⟩)) (by rw [List.map_map]; exact hnd) (by rw [List.getElem?_map, hk]; rfl), map_eraseI]
      rw [e1] at h4
      refine hyes (by simp) _ (W.eraseIdx k) σ2 rfl ?_ ?_
      · unfold MM.del
        simp only
        rw [hid, ← hW, map_eraseI, ← filter_erase (fun w : Nat × Hd => w.1) (L := W.map fun w => (w.1, w.2.2)) (x := (w.1, w.2.2)) (by rw [List.map_map]; exact hnd) (by rw [List.getElem?_map, hk]; rfl)]
      · have h5 : H (Star ((W.map hdW).set k emp) :: [UMap .u64 mb ((W.eraseIdx k).map kvW), pt x (.cells [.int .u64 M.next, .map (some mb)] t_model_Model false), Star l]) σ2 := h4.perm (.swap _ _ _)
        have h6 := star_erase (by simpa using hkl) h5
        rw [← map_eraseI] at h6
        unfold MO
        exact (H_tl [_, _, _]).2 (h6.pick [2, 1, 0, 3] (by decide))
  · intro hnone σ1 h1
    rw [named_none hW hnone] at hno
    simp only at hno
    rw [c2_ret, tI_int]
    refine If_dec (fun g => absurd g (by decide)) fun _ => ?_
    unfold s_model_Model_Delete_k6 s_model_Model_Delete_k8
    refine If_dec (fun g => absurd g (by decide)) fun _ => ?_
    exact hno (by decide) σ1 h1
end Go.Ax.C
set_option maxRecDepth 100000
namespace Go.Ax.C
open Go.Proofs Go.RowKit

variable {l r m : List Assn} {σ : AHeap} {Q : RK}

structure Pc where
  blk : Nat
  from' : Nat
  to : Nat
  at' : Nat
def Pc.cells (p : Pc) : List Value := [.int .u64 p.blk, .int .i64 p.from', .int .i64 p.to, .int .i64 p.at']
/-- A piece's length. -/
def pcn (off n : Nat) : Nat := min n (256 - off % 256)
theorem pcn_pos {off n : Nat} (h : 0 < n) : 0 < pcn off n ∧ pcn off n ≤ n ∧ pcn off n ≤ 256 := by unfold pcn; omega
def pc1 (off n a : Nat) : Pc := ⟨off / 256, off % 256, off % 256 + pcn off n, a⟩
def cutL : Nat → Nat → Nat → Nat → List Pc
  | 0, _, _, _ => []
  | f + 1, off, n, a => if n = 0 then [] else pc1 off n a :: cutL f (off + pcn off n) (n - pcn off n) (a + pcn off n)
/-- The pieces of a range. -/
def cut (off n : Nat) : List Pc := cutL n off n 0
theorem cutL_fuel : ∀ (f g off n a : Nat), n ≤ f → n ≤ g → cutL f off n a = cutL g off n a
  | 0, 0, _, _, _, _, _ => rfl
  | 0, g + 1, off, n, a, h, _ => by
    have : n = 0 := by omega
    subst this; simp [cutL]
  | f + 1, 0, off, n, a, _, h => by
    have : n = 0 := by omega
    subst this; simp [cutL]
  | f + 1, g + 1, off, n, a, hf, hg => by
    simp only [cutL]
    split
    · rfl
    · have := pcn_pos (off := off) (n := n) (by omega)
      rw [cutL_fuel f g _ _ _ (by omega) (by omega)]
theorem cutL_step {off n a : Nat} (h : 0 < n) : cutL n off n a = pc1 off n a :: cutL (n - pcn off n) (off + pcn off n) (n - pcn off n) (a + pcn off n) := by
  obtain ⟨f, rfl⟩ : ∃ f, n = f + 1 := ⟨n - 1, by omega⟩
  have := pcn_pos (off := off) (n := f + 1) (by omega)
  rw [cutL, if_neg (by omega), cutL_fuel f (f + 1 - pcn off (f + 1)) _ _ _ (by omega) (by omega)]

def pcsV (L : List Pc) : List Value := (L.map Pc.cells).flatten
def CutP (b off n a : Nat) : Assn := pt b (.cells [.int .u64 off, .int .u64 n, .int .i64 a] t_pieces_cutter false)

theorem put4 {b e : Nat} {q : Bool} {c vs : List Value} {K : Value → AHeap → Prop} (h : H (pt b (.cells c e q) :: l) σ) (hc : c.length = 4) (hn : vs.length = 4) (hv : vs.all one = true) (hK : ∀ σ', H l σ' → K (.agg vs.toArray) σ') :
    pu (aStore 4 (.pointer (some ⟨b, 0, none⟩)) (.agg vs.toArray) σ) fun τ => pu (aLoad true 4 (.pointer (some ⟨b, 0, none⟩)) τ) fun v => K v τ := by
  refine storeN h 0 rfl hn (by omega) hv (by omega) ?_
  intro σ1 h1
  have h2 : H (pt b (.cells (splice c 0 vs) e q) :: l) σ1 := h1
  have hs : splice c 0 vs = vs := by
    unfold splice
    rw [List.take_zero, List.nil_append, Nat.zero_add, List.drop_of_length_le (by omega), List.append_nil]
  rw [hs] at h2
  rw [loadN (h2.row 0 rfl) (by omega), pu_some, List.drop_zero, List.take_of_length_le (by omega)]
  exact hK σ1 h2.tail
def pc0 : Pc := ⟨0, 0, 0, 0⟩
theorem cnext {b off n a : Nat} (h : H (CutP b off n a :: l) σ) (hb : off + n ≤ 4294967296 ∧ a + n ≤ 65536)
    (h0 : n = 0 → ∀ σ', H (CutP b off n a :: l) σ' → Q (.ret (.tuple #[.agg pc0.cells.toArray, .bool false])) σ')
    (h1 : 0 < n → ∀ σ', H (CutP b (off + pcn off n) (n - pcn off n) (a + pcn off n) :: l) σ' → Q (.ret (.tuple #[.agg (pc1 off n a).cells.toArray, .bool true])) σ') : E f_pieces_cutter_next [.pointer (some ⟨b, 0, none⟩)] σ Q := by
  apply e_pieces_cutter_next; unfold s_pieces_cutter_next
  unfold CutP at h
  refine nw h ?_
  intro b1 σ1 h2
  refine ldi h2 ?_
  refine If_dec (fun g => ?_) fun g => ?_
  · refine put4 (vs := pc0.cells) (K := fun v τ => Q (.ret (.tuple #[v, .bool false])) τ) h2 rfl rfl rfl ?_
    intro σ2 h3
    exact h0 (by omega) σ2 h3
  · have hn : 0 < n := by omega
    have hp := pcn_pos (off := off) hn
    refine ldi h2 ?_
    refine bi (m := ((off % 256 : Nat) : Int)) (by rfl) ?_
    refine ldi h2 ?_
    refine bu64 ((256 - off % 256 : Nat) : Int) (by omega) ?_
    have hmin : (if ((256 - off % 256 : Nat) : Int) < (n : Int) then ((256 - off % 256 : Nat) : Int) else (n : Int)) = ((pcn off n : Nat) : Int) := by
      unfold pcn; split <;> omega
    rw [hmin]
    refine ldi h2 ?_
    refine bu64 ((off / 256 : Nat) : Int) (by refine ⟨rfl, ?_⟩; omega) ?_
    refine b64 ((off % 256 : Nat) : Int) (by omega) ?_
    refine bu64 ((off % 256 + pcn off n : Nat) : Int) (by omega) ?_
    refine b64 ((off % 256 + pcn off n : Nat) : Int) (by omega) ?_
    refine ldi h2 ?_
    refine nw h2 ?_
    intro b2 σ2 h3
    refine ldi h3 ?_
    refine ⟨by simp [veq1, veq, veq0], ?_⟩
    refine b64 ((off % 256 : Nat) : Int) (by omega) ?_
    refine ⟨by simp [veq1, veq, veq0], ?_⟩
    refine b64 ((off % 256 + pcn off n : Nat) : Int) (by omega) ?_
    refine ⟨by simp [veq1, veq, veq0], ?_⟩
    refine ldi h3 ?_
    refine ⟨by simp [veq1, veq, veq0], ?_⟩
    refine storeN (vs := (pc1 off n a).cells) h3 0 rfl rfl (by omega) rfl (by simp) ?_
    intro σ3 h4
    have h4 : H (pt b2 (.cells [.int .u64 (off / 256 : Nat), .int .i64 (off % 256 : Nat), .int .i64 (off % 256 + pcn off n : Nat), .int .i64 a] t_api_Piece false) :: pt b1 (.cells [.int .u64 0, .int .i64 0, .int .i64 0, .int .i64 0] t_api_Piece false) :: pt b (.cells [.int .u64 off, .int .u64 n, .int .i64 a] t_pieces_cutter false) :: l) σ3 := h4
    refine ldi h4 ?_
    refine bu64 ((off + pcn off n : Nat) : Int) (by omega) ?_
    refine st h4 rfl ?_
    intro σ4 h5
    refine ldi h5 ?_
    refine bu64 ((n - pcn off n : Nat) : Int) (by omega) ?_
    refine st h5 rfl ?_
    intro σ5 h6
    refine ldi h6 ?_
    refine b64 ((pcn off n : Nat) : Int) (by omega) ?_
    refine b64 ((a + pcn off n : Nat) : Int) (by omega) ?_
    refine st h6 rfl ?_
    intro σ6 h7
    refine ldi h7 ?_
    refine ldi h7 ?_
    refine ldi h7 ?_
    refine ldi h7 ?_
    have h8 := (H_tl [_, _, _]).1 h7
    have h9 := h8.pick [2, 0, 3] (by decide)
    refine put4 (vs := (pc1 off n a).cells) (K := fun v τ => Q (.ret (.tuple #[v, .bool true])) τ) h9 rfl rfl rfl ?_
    intro σ7 h10
    exact h1 hn σ7 ((H_tl [_]).2 h10)
end Go.Ax.C
set_option maxRecDepth 100000
namespace Go.Ax.C
open Go.Proofs Go.RowKit

variable {l r m : List Assn} {σ : AHeap} {Q : RK}

/-- A row of pieces that is only read. -/
def PcsA (v : Value) (L : List Pc) : Assn := fun r => (r = Res.emp ∧ L = [] ∧ ∃ a c, v = .slice a 0 c) ∨
  ∃ (b : Nat) (rest : List Value) (e : Nat) (opn : Bool), pt b (.cells (pcsV L ++ rest) e opn) r ∧ v = .slice (some ⟨b, 0, none⟩) L.length L.length
theorem H_pcs {v : Value} {L : List Pc} : H (PcsA v L :: l) σ ↔ ((L = [] ∧ ∃ a c, v = .slice a 0 c) ∧ H l σ) ∨ ∃ (b : Nat) (rest : List Value) (e : Nat) (opn : Bool), H (pt b (.cells (pcsV L ++ rest) e opn) :: l) σ ∧ v = .slice (some ⟨b, 0, none⟩) L.length L.length := by
  constructor
  · rintro ⟨r, h, a, k, j, x | ⟨b, rest, e, opn, x, y⟩, hk⟩
    · obtain ⟨rfl, x⟩ := x
      exact .inl ⟨x, r, h, by rw [j.emp_eq]; exact hk⟩
    · exact .inr ⟨b, rest, e, opn, ⟨r, h, a, k, j, x, hk⟩, y⟩
  · rintro (⟨x, r, h, hk⟩ | ⟨b, rest, e, opn, ⟨r, h, a, k, j, x, hk⟩, y⟩)
    · exact ⟨r, h, _, r, Res.Join.emp_left r, .inl ⟨rfl, x⟩, hk⟩
    · exact ⟨r, h, a, k, j, .inr ⟨b, rest, e, opn, x, y⟩, hk⟩
theorem pcsV_snoc (L : List Pc) (p : Pc) : pcsV (L ++ [p]) = pcsV L ++ p.cells := by simp [pcsV]
theorem pcsV_len (L : List Pc) : (pcsV L).length = L.length * 4 := by
  unfold pcsV
  rw [flatten_len (z := 4)]
  · simp
  · intro c hc
    obtain ⟨p, _, rfl⟩ := List.mem_map.1 hc
    rfl
theorem pcs_get {v : Value} {L : List Pc} {k : Nat} {p : Pc} (h : H (PcsA v L :: l) σ) (hk : L[k]? = some p) :
    ∃ b, aIndexAddr 4 v (.int .i64 (k : Nat)) = some (.pointer (some ⟨b, k * 4, none⟩)) ∧ ∀ j, j < 4 → aLoad false 1 (.pointer (some ⟨b, k * 4 + j, none⟩)) σ = p.cells[j]? := by
  have hlt := (List.getElem?_eq_some_iff.1 hk).1
  rcases H_pcs.1 h with ⟨⟨rfl, _⟩, _⟩ | ⟨b, rest, e, opn, h1, rfl⟩
  · simp at hk
  · refine ⟨b, by rw [idxA (by omega)]; simp, fun j hj => ?_⟩
    rw [load1 (h1.row 0 rfl), List.getElem?_append_left (by rw [pcsV_len]; omega)]
    have h2 := flatten_part (z := 4) (css := L.map Pc.cells) (k := k) (c := p.cells) (fun c hc => by obtain ⟨p, _, rfl⟩ := List.mem_map.1 hc; rfl) (by rw [List.getElem?_map, hk]; rfl)
    have h3 := congrArg (·[j]?) h2
    simp only [List.getElem?_take, if_pos hj, List.getElem?_drop] at h3
    exact h3
theorem pcs_form {v : Value} {L : List Pc} (h : H (PcsA v L :: l) σ) : ∃ a c, v = .slice a L.length c := by
  rcases H_pcs.1 h with ⟨⟨rfl, a, c, rfl⟩, _⟩ | ⟨b, rest, e, opn, h1, rfl⟩
  · exact ⟨a, c, rfl⟩
  · exact ⟨_, _, rfl⟩
theorem cutL_len : ∀ (f off n a : Nat), (cutL f off n a).length ≤ n
  | 0, _, _, _ => by simp [cutL]
  | f + 1, off, n, a => by
    rw [cutL]
    split
    · simp
    · have := pcn_pos (off := off) (n := n) (by omega)
      have := cutL_len f (off + pcn off n) (n - pcn off n) (a + pcn off n)
      simp; omega

theorem pall {b off n : Nat} (h : H (CutP b off n 0 :: l) σ) (hb : off + n ≤ 4294967296 ∧ n ≤ 65536)
    (hQ : ∀ v σ', H (PcsA v (cut off n) :: l) σ' → Q (.ret v) σ') : E f_pieces_all [.func (.func f_pieces_cutter_next) #[.pointer (some ⟨b, 0, none⟩)] #[]] σ Q := by
  apply e_pieces_all; unfold s_pieces_all
  show E f_pieces_cutter_next [.pointer (some ⟨b, 0, none⟩)] σ _
  -- the loop, from whatever stands
  have loop : ∀ (L0 : List Pc) (cur : Pc) (c : Bool) (off' n' a' : Nat) (σ1 : AHeap), L0 = [] → (c = true → cut off n = L0 ++ cur :: cutL n' off' n' a') → (c = false → cut off n = L0 ∧ n' = 0) → off' + n' ≤ 4294967296 → a' + n' ≤ 65536 → H (CutP b off' n' a' :: l) σ1 →
      wNew σ1 (.cells [(.int .u64 0), (.int .i64 0), (.int .i64 0), (.int .i64 0)] t_api_Piece false) fun b9 τ10 =>
        pu (aStore 4 (.pointer (some ⟨b9, 0, none⟩)) (.agg cur.cells.toArray) τ10) fun τ11 =>
          ∃ I79 : Nat → Value → Value → Bool → AHeap → Prop, (∃ m, I79 m (.slice none 0 0) (.pointer (some ⟨b9, 0, none⟩)) c τ11) ∧
            ∀ m (v13 : Value) (v14 : Value) (c15 : Bool) (σ' : AHeap), I79 m v13 v14 c15 σ' → (s_pieces_all_b1 (fun v13 v14 c15 σ' => ∃ m', m' < m ∧ I79 m' v13 v14 c15 σ') E Q (.func (.func f_pieces_cutter_next) #[.pointer (some ⟨b, 0, none⟩)] #[]) v13 v14 c15 σ') := by
    intro L0 cur c off' n' a' σ1 hL0 hc1 hc2 ho ha h1
    subst hL0
    refine nw h1 ?_
    intro b9 σ2 h2
    refine storeN (vs := cur.cells) h2 0 rfl rfl (by omega) rfl (by simp) ?_
    intro σ3 h3
    refine ⟨fun m v13 v14 c τ => ∃ (L0 : List Pc) (cur : Pc) (off' n' a' b9 : Nat), m = n' + (if c then 1 else 0) ∧ v14 = .pointer (some ⟨b9, 0, none⟩) ∧ (c = true → cut off n = L0 ++ cur :: cutL n' off' n' a') ∧ (c = false → cut off n = L0 ∧ n' = 0) ∧ off' + n' ≤ 4294967296 ∧ a' + n' ≤ 65536 ∧
        H (Own t_api_Piece 4 v13 L0.length (pcsV L0) :: pt b9 (.cells cur.cells t_api_Piece false) :: CutP b off' n' a' :: l) τ, ⟨_, [], cur, off', n', a', b9, rfl, rfl, hc1, hc2, ho, ha, ?_⟩, ?_⟩
    · exact (H.own_nil h3 t_api_Piece 4).unsnoc
    rintro m v13 _ c τ ⟨L0, cur, off', n', a', b9, rfl, rfl, hc1, hc2, ho, ha, h4⟩
    have hlen : L0.length ≤ 65536 := by
      have h5 := cutL_len n off n 0
      have h6 : (cut off n).length ≤ n := h5
      cases c with
      | true => rw [hc1 rfl] at h6; simp at h6; omega
      | false => rw [(hc2 rfl).1] at h6; omega
    unfold s_pieces_all_b1
    refine If_b (fun g => ?_) fun g => ?_
    · subst g
      have h5 : H (pt b9 (.cells [.int .u64 cur.blk, .int .i64 cur.from', .int .i64 cur.to, .int .i64 cur.at'] t_api_Piece false) :: Own t_api_Piece 4 v13 L0.length (pcsV L0) :: CutP b off' n' a' :: l) τ := h4.perm (.swap _ _ _)
      simp only [fieldAddr_ptr, om_some, Nat.zero_add]
      have hrow := h5.row 0 rfl
      simp only [load1 hrow, List.getElem?_cons_zero, List.getElem?_cons_succ, ldI_some]
      refine nw h5 ?_
      intro tb τ1 h6
      have ht : srcOf 4 (.slice (some ⟨tb, 0, none⟩) 1 1) τ1 = some (1, cur.cells) := by
        rw [src_row (h6.row 0 rfl) (by simp)]; rfl
      refine append_own (h6.perm (((List.Perm.swap _ _ _).cons _).trans (.swap _ _ _))) 0 rfl ht (by omega) (by omega) (by rfl) ?_
      intro nx τ2 h7
      have h7 : H (Own t_api_Piece 4 nx (L0.length + 1) (pcsV L0 ++ cur.cells) :: pt tb (.cells cur.cells t_api_Piece false) :: pt b9 (.cells [.int .u64 cur.blk, .int .i64 cur.from', .int .i64 cur.to, .int .i64 cur.at'] t_api_Piece false) :: CutP b off' n' a' :: l) τ2 := h7
      have hrow2 := h7.row 2 rfl
      simp only [load1 hrow2, List.getElem?_cons_zero, List.getElem?_cons_succ, ldI_some]
      refine nw h7 ?_
      intro b4 τ3 h8
      refine storeN (vs := cur.cells) h8 0 rfl rfl (by omega) rfl (by simp) ?_
      intro τ4 h9
      have h9 : H (pt b4 (.cells cur.cells t_api_Piece false) :: Own t_api_Piece 4 nx (L0.length + 1) (pcsV L0 ++ cur.cells) :: pt tb (.cells cur.cells t_api_Piece false) :: pt b9 (.cells [.int .u64 cur.blk, .int .i64 cur.from', .int .i64 cur.to, .int .i64 cur.at'] t_api_Piece false) :: CutP b off' n' a' :: l) τ4 := h9
      show E f_pieces_cutter_next [.pointer (some ⟨b, 0, none⟩)] τ4 _
      have h10 : H (CutP b off' n' a' :: [pt b4 (.cells cur.cells t_api_Piece false), Own t_api_Piece 4 nx (L0.length + 1) (pcsV L0 ++ cur.cells), Star l]) τ4 := ((H_tl [_, _, _, _, _]).1 h9).pick [4, 0, 1, 5] (by decide)
      have hT := hc1 rfl
      refine cnext h10 (by omega) ?_ ?_
      · rintro rfl τ5 h11
        rw [c2_ret, tB_bool]
        refine storeN (vs := pc0.cells) h11 1 rfl rfl (by omega) rfl (by simp [Pc.cells]) ?_
        intro τ6 h12
        refine ⟨_, ?_, L0 ++ [cur], pc0, off', 0, a', b4, rfl, rfl, by simp, fun _ => ⟨?_, rfl⟩, by omega, by omega, ?_⟩
        · simp
        · rw [hT]; simp [cutL]
        · rw [pcsV_snoc, List.length_append]
          have h13 : H [Own t_api_Piece 4 nx (L0.length + 1) (pcsV L0 ++ cur.cells), pt b4 (.cells pc0.cells t_api_Piece false), CutP b off' 0 a', Star l] τ6 := h12.pick [2, 1, 0, 3] (by decide)
          exact (H_tl [_, _, _]).2 h13
      · intro hn τ5 h11
        rw [c2_ret, tB_bool]
        have hp := pcn_pos (off := off') hn
        refine storeN (vs := (pc1 off' n' a').cells) h11 1 rfl rfl (by omega) rfl (by simp [Pc.cells]) ?_
        intro τ6 h12
        refine ⟨_, ?_, L0 ++ [cur], pc1 off' n' a', off' + pcn off' n', n' - pcn off' n', a' + pcn off' n', b4, rfl, rfl, fun _ => ?_, by simp, by omega, by omega, ?_⟩
        · simp; omega
        · rw [hT, cutL_step hn]; simp
        · rw [pcsV_snoc, List.length_append]
          have h13 : H [Own t_api_Piece 4 nx (L0.length + 1) (pcsV L0 ++ cur.cells), pt b4 (.cells (pc1 off' n' a').cells t_api_Piece false), CutP b (off' + pcn off' n') (n' - pcn off' n') (a' + pcn off' n'), Star l] τ6 := h12.pick [2, 1, 0, 3] (by decide)
          exact (H_tl [_, _, _]).2 h13
    · subst g
      obtain ⟨hT, rfl⟩ := hc2 rfl
      obtain ⟨_, _, va, vc, hv⟩ := h4.own_src 0 rfl
      rw [hv, lenS_slice, ldI_some, ldI_some, ← hv]
      rcases H_own.1 h4 with ⟨⟨hl0, hx, hv'⟩, h5⟩ | ⟨b', c', opn, rest, h5, hx, hr, hv', hk, ho'⟩
      · have hL : L0 = [] := List.length_eq_zero_iff.1 hl0
        subst hL
        have e : aSlice 4 v13 none (some (.int .i64 (([] : List Pc).length : Nat))) (some (.int .i64 (([] : List Pc).length : Nat))) = some v13 := by
          rcases hv' with rfl | rfl <;> rfl
        rw [e, om_some]
        refine hQ v13 τ ?_
        rw [hT]
        refine H_pcs.2 (.inl ⟨⟨rfl, ?_⟩, ?_⟩)
        · rcases hv' with rfl | rfl
          · exact ⟨_, _, rfl⟩
          · exact ⟨_, _, rfl⟩
        · exact h5.tail.tail
      · have e : aSlice 4 v13 none (some (.int .i64 (L0.length : Nat))) (some (.int .i64 (L0.length : Nat))) = some (.slice (some ⟨b', 0, none⟩) L0.length L0.length) := by
          rw [hv']
          have b1 : bnd (.int .i64 (L0.length : Nat)) (known c') = some L0.length := by unfold bnd; simp [hk]
          have b2 : bnd (.int .i64 (L0.length : Nat)) L0.length = some L0.length := by unfold bnd; simp
          simp only [aSlice, b1, b2, Option.bind_some, bndO]
          by_cases hz : L0.length = 0
          · simp [hz]
          · simp [hz, Addr.add]
        rw [e, om_some]
        refine hQ _ τ ?_
        rw [hT]
        refine H_pcs.2 (.inr ⟨b', rest, t_api_Piece, opn, ?_, rfl⟩)
        have h6 := ((H_tl [_, _, _]).1 h5).pick [0, 3] (by decide)
        exact (H_tl [_]).2 h6
  refine cnext h (by omega) ?_ ?_
  · rintro rfl σ1 h1
    rw [c2_ret, tB_bool]
    exact loop [] pc0 false off 0 0 σ1 rfl (by simp) (fun _ => ⟨rfl, rfl⟩) (by omega) (by omega) h1
  · intro hn σ1 h1
    have hp := pcn_pos (off := off) hn
    rw [c2_ret, tB_bool]
    exact loop [] (pc1 off n 0) true _ _ _ σ1 rfl (fun _ => by unfold cut; rw [cutL_step hn]; rfl) (by simp) (by omega) (by omega) h1

/-- Cut: the pieces, by the range; none where it may not be. -/
def cutE (off n : Nat) : List Pc := if n ≤ 65536 ∧ off ≤ 4294967296 ∧ n ≤ 4294967296 - off then cut off n else []
theorem pcut {off n : Nat} (h : H l σ) (hQ : ∀ v σ', H (PcsA v (cutE off n) :: l) σ' → Q (.ret v) σ') : E f_pieces_Cut [.int .u64 off, .int .u64 n] σ Q := by
  apply e_pieces_Cut; unfold s_pieces_Cut
  unfold cutE at hQ
  have bad : (¬ (n ≤ 65536 ∧ off ≤ 4294967296 ∧ n ≤ 4294967296 - off)) → s_pieces_Cut_k2 E Q true off n σ := by
    intro hn
    rw [if_neg hn] at hQ
    unfold s_pieces_Cut_k2
    refine If_t rfl ?_
    exact hQ _ σ (H_pcs.2 (.inl ⟨⟨rfl, _, _, rfl⟩, h⟩))
  refine If_dec (fun g => ?_) fun g => ?_
  · exact bad (by omega)
  · refine pwithin (a := off) (b := n) (c := 4294967296) (by omega) ?_
    rw [cB_ret]
    by_cases hw : off ≤ 4294967296 ∧ n ≤ 4294967296 - off
    · have e : (!decide (off ≤ 4294967296 ∧ n ≤ 4294967296 - off)) = false := by simp; omega
      rw [e]
      rw [if_pos (by omega)] at hQ
      unfold s_pieces_Cut_k2
      refine If_f rfl ?_
      refine nw h ?_
      intro b σ1 h1
      refine pall h1 (by omega) ?_
      intro v σ2 h2
      rw [cV_ret]
      exact hQ v σ2 h2
    · have e : (!decide (off ≤ 4294967296 ∧ n ≤ 4294967296 - off)) = true := by simp; omega
      rw [e]
      exact bad (by omega)
end Go.Ax.C
set_option maxRecDepth 100000
namespace Go.Ax.C
open Go.Proofs Go.RowKit

variable {l r m : List Assn} {σ : AHeap} {Q : RK}

/-- What a block has. -/
def bget (bl : Blks) (k : Nat) : List UInt8 := ((bl.find? fun p => p.1 == k).map (·.2)).getD (List.replicate 256 0)
def readL (bl : Blks) (L : List Pc) : List UInt8 := L.flatMap fun p => ((bget bl p.blk).drop p.from').take (p.to - p.from')
theorem mget_bkv (bl : Blks) (k : Nat) : mget (bkv bl) k = ((bl.find? fun p => p.1 == k).map (·.2)).map blkV := by
  unfold mget bkv
  rw [List.find?_map]
  simp [Function.comp_def]
theorem bget_len {bl : Blks} {k : Nat} (h : ∀ p ∈ bl, p.2.length = 256) : (bget bl k).length = 256 := by
  unfold bget
  cases hf : bl.find? fun p => p.1 == k with
  | none => simp
  | some p => simpa using h p (List.mem_of_find?_eq_some hf)
theorem veqs_bytes : ∀ (x : List UInt8), veqs (bv x) (bv x) = true
  | [] => rfl
  | b :: x => by
    have := veqs_bytes x
    simp only [bv, List.map_cons, veqs] at this ⊢
    rw [this]; simp [veq, veq0, by8]
theorem zero_blk : zeroOf P t_model_block = some (blkV (List.replicate 256 0)) := by
  have h : zeroOf P t_model_block = some (.agg (List.replicate 256 (.int .u8 0)).toArray) := by kernel_rfl
  rw [h]
  unfold blkV bv
  rw [List.map_replicate]; rfl
/-- A block asked of the map. -/
theorem blk_lookup {bm k : Nat} {bl : Blks} (h : H (UMap .u64 bm (bkv bl) :: l) σ) : aLookup P t_m_uint64_model_block (.map (some bm)) (.int .u64 (k : Nat)) false σ = some (blkV (bget bl k)) := by
  rw [umap_lookup (P := P) (e := t_model_block) (z := blkV (List.replicate 256 0)) h (by kernel_rfl) zero_blk, mget_bkv]
  unfold bget
  cases bl.find? fun p => p.1 == k with
  | none => rfl
  | some p => rfl
/-- How a piece lies. -/
def PcOk (p : Pc) : Prop := p.from' ≤ p.to ∧ p.to ≤ 256
theorem cutL_ok : ∀ (f off n a : Nat), ∀ p ∈ cutL f off n a, PcOk p
  | 0, _, _, _, p, hp => by simp [cutL] at hp
  | f + 1, off, n, a, p, hp => by
    rw [cutL] at hp
    split at hp
    · simp at hp
    · rcases List.mem_cons.1 hp with rfl | hp
      · unfold PcOk pc1 pcn; simp only; omega
      · exact cutL_ok f _ _ _ p hp
theorem cutE_ok (off n : Nat) : ∀ p ∈ cutE off n, PcOk p := by
  unfold cutE cut
  split
  · exact cutL_ok _ _ _ _
  · intro p hp; simp at hp
end Go.Ax.C
