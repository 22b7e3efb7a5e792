/- Proved: 'TreeKnown' (a closed statement) returns true, for every world and tape; no condition. By a calculus of weakest preconditions over an abstract heap, which is sound for the machine. -/
import Derived.Test.YtcnceningjookaaGreatTk7
import Derived.Test.YtcnceningjookaaGreatRows
import Derived.WalkKit
import Derived.ProofKit
import Derived.OpenShut
set_option linter.unusedVariables false
set_option linter.unusedSimpArgs false
set_option linter.unnecessarySimpa false
set_option linter.constructorNameAsVariable false
set_option linter.unusedVariables false
set_option maxRecDepth 100000
namespace Go.Ax.C
open Go.Proofs
def s_tree_Shelf_right_nil (E : EvT) (Q : RK) (x1 : Int) (σ : AHeap) : Prop :=
 If true (
 Q (.ret (.int .i64 2)) σ) (
 If (decide (2147483647 < x1)) (
 Q (.ret (.int .i64 1)) σ) (
 Q (.ret (.int .i64 0)) σ))
theorem q_tree_Shelf_right_nil (E : EvT) (Q : RK) (x1 : Int) (σ : AHeap) : xfn P E Tryz.f63 (fun _ => none) (fun _ => .v) [(.pointer none), (.int .u64 x1)] σ Q = s_tree_Shelf_right_nil E Q x1 σ := by kernel_rfl
theorem e_tree_Shelf_right_nil {Q : RK} {x1 : Int} {σ : AHeap} (h : s_tree_Shelf_right_nil E Q x1 σ) : E f_tree_Shelf_right [(.pointer none), (.int .u64 x1)] σ Q :=
  exfn Tryz.func63 _ _ (by kernel_rfl) (Eq.mpr (q_tree_Shelf_right_nil E Q x1 σ) h)
def s_tree_Shelf_Load_nil (E : EvT) (Q : RK) (x1 : Int) (σ : AHeap) : Prop :=
 wNew σ (.cells [(.bool false), (.slice none 0 0), (.slice none 0 0)] t_api_Node false) fun b1 τ2 =>
 E f_tree_Shelf_right [(.pointer none), (.int .u64 x1)] τ2 (cI Q .i64 fun n6 τ5 =>
 If (!decide (n6 = 0)) (
 pu (aStore 3 (.pointer (some ⟨b1, 0, none⟩)) (.agg #[(.bool false), (.slice none 0 0), (.slice none 0 0)]) τ5) fun τ15 =>
 pu (aLoad true 3 (.pointer (some ⟨b1, 0, none⟩)) τ15) fun v16 =>
 Q (.ret (.tuple #[v16, (.int .i64 n6)])) τ15) (
 om (aNil (.pointer none)) fun v18 =>
 om (aFieldAddr 1 v18) fun v19 =>
 om (aLoad false 1 v19 τ5) fun v20 =>
 Bi (w64 (x1)) fun n24 =>
 E f_cache_Cache_Get [v20, (.int .i64 n24)] τ5 (c2 Q fun v26 v27 τ25 =>
 tI .i64 (fun n28 =>
 If (!decide (n28 = 0)) (
 pu (aStore 3 (.pointer (some ⟨b1, 0, none⟩)) (.agg #[(.bool false), (.slice none 0 0), (.slice none 0 0)]) τ25) fun τ37 =>
 pu (aLoad true 3 (.pointer (some ⟨b1, 0, none⟩)) τ37) fun v38 =>
 Q (.ret (.tuple #[v38, (.int .i64 n28)])) τ37) (
 Bi (w64 (x1)) fun n46 =>
 E f_stamp_Open [v26, (.int .i64 n46), (.int .u8 1)] τ25 (c2 Q fun v48 v49 τ47 =>
 tI .i64 (fun n50 =>
 If (!decide (n50 = 0)) (
 pu (aStore 3 (.pointer (some ⟨b1, 0, none⟩)) (.agg #[(.bool false), (.slice none 0 0), (.slice none 0 0)]) τ47) fun τ59 =>
 pu (aLoad true 3 (.pointer (some ⟨b1, 0, none⟩)) τ59) fun v60 =>
 Q (.ret (.tuple #[v60, (.int .i64 n50)])) τ59) (
 E f_node_Take [v48] τ47 (c2 Q fun v66 v67 τ65 =>
 tI .i64 (fun n68 =>
 pu (aStore 3 (.pointer (some ⟨b1, 0, none⟩)) v66 τ65) fun τ70 =>
 pu (aLoad true 3 (.pointer (some ⟨b1, 0, none⟩)) τ70) fun v71 =>
 Q (.ret (.tuple #[v71, (.int .i64 n68)])) τ70) v67))) v49))) v27)))
theorem q_tree_Shelf_Load_nil (E : EvT) (Q : RK) (x1 : Int) (σ : AHeap) : xfn P E Tryz.f18 (fun _ => none) (fun _ => .v) [(.pointer none), (.int .u64 x1)] σ Q = s_tree_Shelf_Load_nil E Q x1 σ := by kernel_rfl
theorem e_tree_Shelf_Load_nil {Q : RK} {x1 : Int} {σ : AHeap} (h : s_tree_Shelf_Load_nil E Q x1 σ) : E f_tree_Shelf_Load [(.pointer none), (.int .u64 x1)] σ Q :=
  exfn Tryz.func18 _ _ (by kernel_rfl) (Eq.mpr (q_tree_Shelf_Load_nil E Q x1 σ) h)
def s_tree_Shelf_Shadow_nil_k19 (E : EvT) (Q : RK) (n175 : Int) (b186 : Nat) (n192 : Int) (b197 : Nat) (τ171 : AHeap) : Prop :=
 om (aNil (.pointer none)) fun v172 =>
 om (aFieldAddr 0 v172) fun v173 =>
 om (aLoad false 1 v173 τ171) fun v174 =>
 E f_refs_Refs_Dec [v174, (.int .i64 n175)] τ171 (c2 Q fun v177 v179 τ176 =>
 tB (fun c178 =>
 tI .i64 (fun n180 =>
 If (!decide (n180 = 0)) (
 pu (aStore 3 (.pointer (some ⟨b186, 0, none⟩)) (.agg #[(.bool false), (.slice none 0 0), (.slice none 0 0)]) τ176) fun τ189 =>
 pu (aLoad true 3 (.pointer (some ⟨b186, 0, none⟩)) τ189) fun v190 =>
 Q (.ret (.tuple #[(.int .u64 0), v190, (.int .i64 n180)])) τ189) (
 Bi (wu64 (n192)) fun n196 =>
 ldB (L b197 0 τ176) fun c201 =>
 om (L b197 1 τ176) fun v202 =>
 om (L b197 2 τ176) fun v203 =>
 E f_tree_Shelf_Save [(.pointer none), (.int .u64 n196), (.agg #[(.bool c201), v202, v203])] τ176 (cI Q .i64 fun n205 τ204 =>
 If (!decide (n205 = 0)) (
 pu (aStore 3 (.pointer (some ⟨b186, 0, none⟩)) (.agg #[(.bool false), (.slice none 0 0), (.slice none 0 0)]) τ204) fun τ214 =>
 pu (aLoad true 3 (.pointer (some ⟨b186, 0, none⟩)) τ214) fun v215 =>
 Q (.ret (.tuple #[(.int .u64 0), v215, (.int .i64 n205)])) τ214) (
 Bi (wu64 (n192)) fun n220 =>
 ldB (L b197 0 τ204) fun c224 =>
 om (L b197 1 τ204) fun v225 =>
 om (L b197 2 τ204) fun v226 =>
 pu (aStore 3 (.pointer (some ⟨b186, 0, none⟩)) (.agg #[(.bool c224), v225, v226]) τ204) fun τ228 =>
 pu (aLoad true 3 (.pointer (some ⟨b186, 0, none⟩)) τ228) fun v229 =>
 Q (.ret (.tuple #[(.int .u64 n220), v229, (.int .i64 0)])) τ228)))) v179) v177)
def s_tree_Shelf_Shadow_nil_b1 (N1 : Int → AHeap → Prop) (E : EvT) (Q : RK) (b100 b102 : Nat) (n105 n111 : Int) (v113 : Value) (n115 n96 : Int) (τ116 : AHeap) : Prop :=
 If (decide (n96 < n115)) (
 om (aIndexAddr 1 v113 (.int .i64 n96)) fun v124 =>
 ldI .u64 (aLoad false 1 v124 τ116) fun n125 =>
 om (aNil (.pointer none)) fun v127 =>
 om (aFieldAddr 0 v127) fun v128 =>
 om (aLoad false 1 v128 τ116) fun v129 =>
 Bi (w64 (n125)) fun n131 =>
 E f_refs_Refs_Inc [v129, (.int .i64 n131)] τ116 (cI Q .i64 fun n133 τ132 =>
 If (!decide (n133 = 0)) (
 pu (aStore 3 (.pointer (some ⟨b100, 0, none⟩)) (.agg #[(.bool false), (.slice none 0 0), (.slice none 0 0)]) τ132) fun τ144 =>
 pu (aLoad true 3 (.pointer (some ⟨b100, 0, none⟩)) τ144) fun v163 =>
 Q (.ret (.tuple #[(.int .u64 0), v163, (.int .i64 n133)])) τ144) (
 Bi (w64 (n96 + 1)) fun n166 =>
 N1 n166 τ132))) (
 (s_tree_Shelf_Shadow_nil_k19 E Q n105 b100 n111 b102 τ116))
def s_tree_Shelf_Shadow_nil_k6 (E : EvT) (Q : RK) (c40 : Bool) (n42 : Int) (b47 b53 : Nat) (n79 : Int) (τ39 : AHeap) : Prop :=
 If c40 (
 ldB (L b47 0 τ39) fun c48 =>
 om (L b47 1 τ39) fun v49 =>
 om (L b47 2 τ39) fun v50 =>
 pu (aStore 3 (.pointer (some ⟨b53, 0, none⟩)) (.agg #[(.bool c48), v49, v50]) τ39) fun τ54 =>
 pu (aLoad true 3 (.pointer (some ⟨b53, 0, none⟩)) τ54) fun v55 =>
 Q (.ret (.tuple #[(.int .u64 n42), v55, (.int .i64 0)])) τ54) (
 om (aNil (.pointer none)) fun v57 =>
 om (aFieldAddr 0 v57) fun v58 =>
 om (aLoad false 1 v58 τ39) fun v59 =>
 E f_refs_Refs_Alloc [v59] τ39 (c2 Q fun v61 v63 τ60 =>
 tI .i64 (fun n62 =>
 tI .i64 (fun n64 =>
 If (!decide (n64 = 0)) (
 pu (aStore 3 (.pointer (some ⟨b53, 0, none⟩)) (.agg #[(.bool false), (.slice none 0 0), (.slice none 0 0)]) τ60) fun τ73 =>
 pu (aLoad true 3 (.pointer (some ⟨b53, 0, none⟩)) τ73) fun v74 =>
 Q (.ret (.tuple #[(.int .u64 0), v74, (.int .i64 n64)])) τ73) (
 om (aNil (.pointer none)) fun v76 =>
 om (aFieldAddr 0 v76) fun v77 =>
 om (aLoad false 1 v77 τ60) fun v78 =>
 E f_refs_Refs_Count [v78, (.int .i64 n79)] τ60 (cI Q .i64 fun n85 τ84 =>
 If (decide (1 < n85)) (
 om (L b47 2 τ84) fun v93 =>
 ldI .i64 (lenS v93) fun n94 =>
 ∃ I230 : Nat → Int → AHeap → Prop, (∃ m, I230 m 0 τ84) ∧
 ∀ m (n96 : Int) (σ' : AHeap), I230 m n96 σ' → (s_tree_Shelf_Shadow_nil_b1 (fun n96 σ' => ∃ m', m' < m ∧ I230 m' n96 σ') E Q b53 b47 n79 n62 v93 n94 n96 σ')) (
 (s_tree_Shelf_Shadow_nil_k19 E Q n79 b53 n62 b47 τ84))))) v63) v61))
def s_tree_Shelf_Shadow_nil (E : EvT) (Q : RK) (x1 : Int) (σ : AHeap) : Prop :=
 wNew σ (.cells [(.bool false), (.slice none 0 0), (.slice none 0 0)] t_api_Node false) fun b1 τ2 =>
 E f_tree_Shelf_Load [(.pointer none), (.int .u64 x1)] τ2 (c2 Q fun v6 v7 τ5 =>
 tI .i64 (fun n8 =>
 wNew τ5 (.cells [(.bool false), (.slice none 0 0), (.slice none 0 0)] t_api_Node false) fun b9 τ10 =>
 pu (aStore 3 (.pointer (some ⟨b9, 0, none⟩)) v6 τ10) fun τ11 =>
 If (!decide (n8 = 0)) (
 pu (aStore 3 (.pointer (some ⟨b1, 0, none⟩)) (.agg #[(.bool false), (.slice none 0 0), (.slice none 0 0)]) τ11) fun τ20 =>
 pu (aLoad true 3 (.pointer (some ⟨b1, 0, none⟩)) τ20) fun v21 =>
 Q (.ret (.tuple #[(.int .u64 0), v21, (.int .i64 n8)])) τ20) (
 Bi (w64 (x1)) fun n26 =>
 om (aNil (.pointer none)) fun v28 =>
 om (aFieldAddr 0 v28) fun v29 =>
 om (aLoad false 1 v29 τ11) fun v30 =>
 E f_refs_Refs_Fresh [v30, (.int .i64 n26)] τ11 (cB Q fun c33 τ32 =>
 If c33 (
 om (aNil (.pointer none)) fun v34 =>
 om (aFieldAddr 0 v34) fun v35 =>
 om (aLoad false 1 v35 τ32) fun v36 =>
 E f_refs_Refs_Count [v36, (.int .i64 n26)] τ32 (cI Q .i64 fun n38 τ37 =>
 (s_tree_Shelf_Shadow_nil_k6 E Q (decide (n38 = 1)) x1 b9 b1 n26 τ37))) (
 (s_tree_Shelf_Shadow_nil_k6 E Q false x1 b9 b1 n26 τ32))))) v7)
theorem q_tree_Shelf_Shadow_nil (E : EvT) (Q : RK) (x1 : Int) (σ : AHeap) : xfn P E Tryz.f25 (hl [(2, .ord [(0, []), (1, []), (2, []), (3, []), (4, [])]), (6, .loopr [0, 5, 7, 9, 10, 66, 67] [68] [0, 4, 5, 6, 7, 9, 10] [0, 4, 5, 6, 7, 9, 10, 68]), (12, .ord [(0, []), (1, []), (2, []), (3, []), (4, []), (5, [])])]) (fun | 68 => (.i .i64) | _ => .v) [(.pointer none), (.int .u64 x1)] σ Q = s_tree_Shelf_Shadow_nil E Q x1 σ := by kernel_rfl
theorem e_tree_Shelf_Shadow_nil {Q : RK} {x1 : Int} {σ : AHeap} (h : s_tree_Shelf_Shadow_nil E Q x1 σ) : E f_tree_Shelf_Shadow [(.pointer none), (.int .u64 x1)] σ Q :=
  exfn Tryz.func25 _ _ (by kernel_rfl) (Eq.mpr (q_tree_Shelf_Shadow_nil E Q x1 σ) h)
def s_tree_Shelf_Make_nil (E : EvT) (Q : RK) (x1_0 : Bool) (x1_1 x1_2 : Value) (σ : AHeap) : Prop :=
 wNew σ (.cells [(.bool x1_0), x1_1, x1_2] t_api_Node false) fun b1 τ2 =>
 E f_tree_Shelf_right [(.pointer none), (.int .u64 0)] τ2 (cI Q .i64 fun n5 τ4 =>
 If (!decide (n5 = 0)) (
 Q (.ret (.tuple #[(.int .u64 0), (.int .i64 n5)])) τ4) (
 ldB (L b1 0 τ4) fun c16 =>
 om (L b1 1 τ4) fun v17 =>
 om (L b1 2 τ4) fun v18 =>
 E f_node_May [(.agg #[(.bool c16), v17, v18])] τ4 (cB Q fun c20 τ19 =>
 If (!c20) (
 Q (.ret (.tuple #[(.int .u64 0), (.int .i64 1)])) τ19) (
 om (aNil (.pointer none)) fun v24 =>
 om (aFieldAddr 0 v24) fun v25 =>
 om (aLoad false 1 v25 τ19) fun v26 =>
 E f_refs_Refs_Alloc [v26] τ19 (c2 Q fun v28 v30 τ27 =>
 tI .i64 (fun n29 =>
 tI .i64 (fun n31 =>
 If (!decide (n31 = 0)) (
 Q (.ret (.tuple #[(.int .u64 0), (.int .i64 n31)])) τ27) (
 Bi (wu64 (n29)) fun n41 =>
 ldB (L b1 0 τ27) fun c47 =>
 om (L b1 1 τ27) fun v48 =>
 om (L b1 2 τ27) fun v49 =>
 E f_tree_Shelf_Save [(.pointer none), (.int .u64 n41), (.agg #[(.bool c47), v48, v49])] τ27 (cI Q .i64 fun n51 τ50 =>
 If (!decide (n51 = 0)) (
 Q (.ret (.tuple #[(.int .u64 0), (.int .i64 n51)])) τ50) (
 Bi (wu64 (n29)) fun n61 =>
 Q (.ret (.tuple #[(.int .u64 n61), (.int .i64 0)])) τ50)))) v30) v28)))))
theorem q_tree_Shelf_Make_nil (E : EvT) (Q : RK) (x1_0 : Bool) (x1_1 x1_2 : Value) (σ : AHeap) : xfn P E Tryz.f19 (fun _ => none) (fun _ => .v) [(.pointer none), (.agg #[(.bool x1_0), x1_1, x1_2])] σ Q = s_tree_Shelf_Make_nil E Q x1_0 x1_1 x1_2 σ := by kernel_rfl
theorem e_tree_Shelf_Make_nil {Q : RK} {x1_0 : Bool} {x1_1 x1_2 : Value} {σ : AHeap} (h : s_tree_Shelf_Make_nil E Q x1_0 x1_1 x1_2 σ) : E f_tree_Shelf_Make [(.pointer none), (.agg #[(.bool x1_0), x1_1, x1_2])] σ Q :=
  exfn Tryz.func19 _ _ (by kernel_rfl) (Eq.mpr (q_tree_Shelf_Make_nil E Q x1_0 x1_1 x1_2 σ) h)
def s_tree_Shelf_Save_nil (E : EvT) (Q : RK) (x1 : Int) (x2_0 : Bool) (x2_1 x2_2 : Value) (σ : AHeap) : Prop :=
 wNew σ (.cells [(.bool x2_0), x2_1, x2_2] t_api_Node false) fun b1 τ2 =>
 E f_tree_Shelf_right [(.pointer none), (.int .u64 x1)] τ2 (cI Q .i64 fun n6 τ5 =>
 If (!decide (n6 = 0)) (
 Q (.ret (.int .i64 n6)) τ5) (
 ldB (L b1 0 τ5) fun c17 =>
 om (L b1 1 τ5) fun v18 =>
 om (L b1 2 τ5) fun v19 =>
 E f_node_Put [(.agg #[(.bool c17), v18, v19])] τ5 (c2 Q fun v21 v22 τ20 =>
 tI .i64 (fun n23 =>
 If (!decide (n23 = 0)) (
 Q (.ret (.int .i64 n23)) τ20) (
 Bi (w64 (x1)) fun n39 =>
 E f_stamp_Seal [v21, (.int .i64 n39), (.int .u8 1)] τ20 (c2 Q fun v41 v42 τ40 =>
 tI .i64 (fun n43 =>
 If (!decide (n43 = 0)) (
 Q (.ret (.int .i64 n43)) τ40) (
 om (aNil (.pointer none)) fun v50 =>
 om (aFieldAddr 1 v50) fun v51 =>
 om (aLoad false 1 v51 τ40) fun v52 =>
 Bi (w64 (x1)) fun n56 =>
 E f_cache_Cache_Put [v52, (.int .i64 n56), v41] τ40 (cI Q .i64 fun n61 τ60 =>
 Q (.ret (.int .i64 n61)) τ60))) v42))) v22)))
theorem q_tree_Shelf_Save_nil (E : EvT) (Q : RK) (x1 : Int) (x2_0 : Bool) (x2_1 x2_2 : Value) (σ : AHeap) : xfn P E Tryz.f17 (fun _ => none) (fun _ => .v) [(.pointer none), (.int .u64 x1), (.agg #[(.bool x2_0), x2_1, x2_2])] σ Q = s_tree_Shelf_Save_nil E Q x1 x2_0 x2_1 x2_2 σ := by kernel_rfl
theorem e_tree_Shelf_Save_nil {Q : RK} {x1 : Int} {x2_0 : Bool} {x2_1 x2_2 : Value} {σ : AHeap} (h : s_tree_Shelf_Save_nil E Q x1 x2_0 x2_1 x2_2 σ) : E f_tree_Shelf_Save [(.pointer none), (.int .u64 x1), (.agg #[(.bool x2_0), x2_1, x2_2])] σ Q :=
  exfn Tryz.func17 _ _ (by kernel_rfl) (Eq.mpr (q_tree_Shelf_Save_nil E Q x1 x2_0 x2_1 x2_2 σ) h)
def s_tree_Lookup_nil_b1 (N1 : Int → Int → AHeap → Prop) (E : EvT) (Q : RK) (n24 n16 n17 : Int) (τ25 : AHeap) : Prop :=
 If (!decide (n16 = 0)) (
 If (decide (n17 = 12)) (
 Q (.ret (.tuple #[(.int .u64 0), (.bool false), (.int .i64 23)])) τ25) (
 E f_tree_Shelf_Load [(.pointer none), (.int .u64 n16)] τ25 (c2 Q fun v40 v41 τ39 =>
 tI .i64 (fun n42 =>
 wNew τ39 (.cells [(.bool false), (.slice none 0 0), (.slice none 0 0)] t_api_Node false) fun b43 τ44 =>
 pu (aStore 3 (.pointer (some ⟨b43, 0, none⟩)) v40 τ44) fun τ45 =>
 If (!decide (n42 = 0)) (
 Q (.ret (.tuple #[(.int .u64 0), (.bool false), (.int .i64 n42)])) τ45) (
 ldB (L b43 0 τ45) fun c60 =>
 If c60 (
 ldB (L b43 0 τ45) fun c64 =>
 om (L b43 1 τ45) fun v65 =>
 om (L b43 2 τ45) fun v66 =>
 E f_knot_Find [(.agg #[(.bool c64), v65, v66]), (.int .u64 n24)] τ45 (c2 Q fun v76 v78 τ75 =>
 tI .i64 (fun n77 =>
 tB (fun c79 =>
 If (!c79) (
 Q (.ret (.tuple #[(.int .u64 0), (.bool false), (.int .i64 0)])) τ75) (
 om (L b43 2 τ75) fun v96 =>
 om (aIndexAddr 1 v96 (.int .i64 n77)) fun v100 =>
 ldI .u64 (aLoad false 1 v100 τ75) fun n101 =>
 Q (.ret (.tuple #[(.int .u64 n101), (.bool true), (.int .i64 0)])) τ75)) v78) v76)) (
 om (L b43 2 τ45) fun v106 =>
 ldB (L b43 0 τ45) fun c107 =>
 om (L b43 1 τ45) fun v108 =>
 om (L b43 2 τ45) fun v109 =>
 E f_knot_Child [(.agg #[(.bool c107), v108, v109]), (.int .u64 n24)] τ45 (cI Q .i64 fun n112 τ111 =>
 om (L b43 2 τ111) fun v113 =>
 veq1 v113 v106 = true ∧
 om (aIndexAddr 1 v106 (.int .i64 n112)) fun v114 =>
 ldI .u64 (aLoad false 1 v114 τ111) fun n115 =>
 Bi (w64 (n17 + 1)) fun n119 =>
 N1 n115 n119 τ111)))) v41))) (
 Q (.ret (.tuple #[(.int .u64 0), (.bool false), (.int .i64 0)])) τ25)
def s_tree_Lookup_nil (E : EvT) (Q : RK) (x1 x2 : Int) (σ : AHeap) : Prop :=
 E f_tree_Shelf_right [(.pointer none), (.int .u64 0)] σ (cI Q .i64 fun n3 τ2 =>
 If (!decide (n3 = 0)) (
 Q (.ret (.tuple #[(.int .u64 0), (.bool false), (.int .i64 n3)])) τ2) (
 ∃ I122 : Nat → Int → Int → AHeap → Prop, (∃ m, I122 m x1 0 τ2) ∧
 ∀ m (n16 : Int) (n17 : Int) (σ' : AHeap), I122 m n16 n17 σ' → (s_tree_Lookup_nil_b1 (fun n16 n17 σ' => ∃ m', m' < m ∧ I122 m' n16 n17 σ') E Q x2 n16 n17 σ')))
theorem q_tree_Lookup_nil (E : EvT) (Q : RK) (x1 x2 : Int) (σ : AHeap) : xfn P E Tryz.f26 (hl [(2, .loopr [0, 2] [10, 11] [6, 7, 8] [6, 7, 8, 10, 11]), (9, .ord [(0, []), (1, []), (2, []), (3, []), (4, [1]), (5, []), (6, []), (7, [])])]) (fun | 10 => (.i .u64) | 11 => (.i .i64) | _ => .v) [(.pointer none), (.int .u64 x1), (.int .u64 x2)] σ Q = s_tree_Lookup_nil E Q x1 x2 σ := by kernel_rfl
theorem e_tree_Lookup_nil {Q : RK} {x1 x2 : Int} {σ : AHeap} (h : s_tree_Lookup_nil E Q x1 x2 σ) : E f_tree_Lookup [(.pointer none), (.int .u64 x1), (.int .u64 x2)] σ Q :=
  exfn Tryz.func26 _ _ (by kernel_rfl) (Eq.mpr (q_tree_Lookup_nil E Q x1 x2 σ) h)
def s_tree_Insert_nil_k17 (E : EvT) (Q : RK) (v208 : Value) (b219 : Nat) (c224 : Bool) (b233 b245 b255 : Nat) (τ207 : AHeap) : Prop :=
 E f_tree_way_up [v208, (.func (.func f_tree_way_split) #[v208] #[])] τ207 (c0 Q fun τ209 =>
 om (aNil v208) fun v212 =>
 om (aFieldAddr 1 v212) fun v213 =>
 om (aLoad false 1 v213 τ209) fun v214 =>
 om (aIndexAddr 5 v214 (.int .i64 0)) fun v215 =>
 om (aFieldAddr 0 v215) fun v216 =>
 ldI .u64 (aLoad false 1 v216 τ209) fun n217 =>
 ldI .u64 (L b219 0 τ209) fun n221 =>
 St b233 0 (.int .u64 n217) τ209 fun τ235 =>
 ldI .u64 (L b219 0 τ235) fun n236 =>
 veq1 (.int .u64 n236) (.int .u64 n221) = true ∧
 St b219 0 (.int .u64 n221) τ235 fun τ237 =>
 St b245 0 (.bool c224) τ237 fun τ247 =>
 St b255 0 (.int .i64 0) τ247 fun τ257 =>
 Q (.ret (.tuple #[])) τ257)
def s_tree_Insert_nil_k7 (E : EvT) (Q : RK) (n77 n86 n92 : Int) (b101 b104 b114 b119 : Nat) (τ70 : AHeap) : Prop :=
 If (decide (n77 = 0)) (
 wNew τ70 (.cells [(.int .u64 n86)] t_uint64 false) fun b88 τ89 =>
 wNew τ89 (.cells [(.int .u64 n92)] t_uint64 false) fun b94 τ95 =>
 On (.slice (some ⟨b88, 0, none⟩) 1 1) (
 On (.slice (some ⟨b94, 0, none⟩) 1 1) (
 E f_tree_Shelf_Make [(.pointer none), (.agg #[(.bool true), (.slice (some ⟨b88, 0, none⟩) 1 1), (.slice (some ⟨b94, 0, none⟩) 1 1)])] τ95 (c2 Q fun v97 v99 τ96 =>
 tI .u64 (fun n98 =>
 tI .i64 (fun n100 =>
 St b101 0 (.int .u64 n98) τ96 fun τ103 =>
 St b104 0 (.int .i64 n100) τ103 fun τ106 =>
 ldI .u64 (L b101 0 τ106) fun n109 =>
 ldI .i64 (L b104 0 τ106) fun n111 =>
 St b101 0 (.int .u64 n109) τ106 fun τ112 =>
 ldI .i64 (L b104 0 τ112) fun n113 =>
 veq1 (.int .i64 n113) (.int .i64 n111) = true ∧
 St b114 0 (.int .u64 0) τ112 fun τ117 =>
 ldI .i64 (L b104 0 τ117) fun n118 =>
 veq1 (.int .i64 n118) (.int .i64 n111) = true ∧
 St b119 0 (.bool false) τ117 fun τ122 =>
 ldI .i64 (L b104 0 τ122) fun n123 =>
 veq1 (.int .i64 n123) (.int .i64 n111) = true ∧
 St b104 0 (.int .i64 n111) τ122 fun τ124 =>
 Q (.ret (.tuple #[])) τ124) v99) v97)))) (
 E f_tree_down [(.pointer none), (.int .u64 n77), (.int .u64 n86), (.bool true)] τ70 (cV Q fun v130 τ129 =>
 om (aNil v130) fun v133 =>
 om (aFieldAddr 1 v133) fun v134 =>
 om (aLoad false 1 v134 τ129) fun v135 =>
 ldI .i64 (lenS v135) fun n136 =>
 Bi (w64 (n136 - 1)) fun n137 =>
 om (aNil v130) fun v140 =>
 om (aFieldAddr 1 v140) fun v141 =>
 om (aLoad false 1 v141 τ129) fun v142 =>
 om (aIndexAddr 5 v142 (.int .i64 n137)) fun v144 =>
 om (aFieldAddr 1 v144) fun v145 =>
 om (aFieldAddr 0 v145) fun v146 =>
 ldB (aLoad false 1 v146 τ129) fun c147 =>
 om (aFieldAddr 1 v145) fun v148 =>
 om (aLoad false 1 v148 τ129) fun v149 =>
 om (aFieldAddr 2 v145) fun v150 =>
 om (aLoad false 1 v150 τ129) fun v151 =>
 wNew τ129 (.cells [(.bool false), (.slice none 0 0), (.slice none 0 0)] t_api_Node false) fun b152 τ153 =>
 pu (aStore 3 (.pointer (some ⟨b152, 0, none⟩)) (.agg #[(.bool c147), v149, v151]) τ153) fun τ154 =>
 ldB (L b152 0 τ154) fun c157 =>
 om (L b152 1 τ154) fun v158 =>
 om (L b152 2 τ154) fun v159 =>
 E f_knot_Find [(.agg #[(.bool c157), v158, v159]), (.int .u64 n86)] τ154 (c2 Q fun v164 v166 τ163 =>
 tI .i64 (fun n165 =>
 tB (fun c167 =>
 If c167 (
 om (L b152 2 τ163) fun v174 =>
 om (aIndexAddr 1 v174 (.int .i64 n165)) fun v177 =>
 ldI .u64 (aLoad false 1 v177 τ163) fun n178 =>
 St b114 0 (.int .u64 n178) τ163 fun τ185 =>
 E f_tree_way_set [v130, (.int .i64 n137), (.int .i64 n165), (.int .u64 n86), (.int .u64 n92)] τ185 (c0 Q fun τ206 =>
 (s_tree_Insert_nil_k17 E Q v130 b114 c167 b101 b119 b104 τ206))) (
 ldB (L b152 0 τ163) fun c258 =>
 om (L b152 1 τ163) fun v259 =>
 om (L b152 2 τ163) fun v260 =>
 E f_knot_Insert [(.agg #[(.bool c258), v259, v260]), (.int .i64 n165), (.int .u64 n86), (.int .u64 n92)] τ163 (cV Q fun v262 τ261 =>
 E f_tree_way_save [v130, (.int .i64 n137), v262] τ261 (c0 Q fun τ263 =>
 (s_tree_Insert_nil_k17 E Q v130 b114 c167 b101 b119 b104 τ263))))) v166) v164)))
def s_tree_Insert_nil (E : EvT) (Q : RK) (x1 x2 x3 : Int) (σ : AHeap) : Prop :=
 wNew σ (.cells [(.int .u64 0)] t_uint64 false) fun b1 τ2 =>
 wNew τ2 (.cells [(.int .u64 0)] t_uint64 false) fun b3 τ4 =>
 wNew τ4 (.cells [(.bool false)] t_bool false) fun b5 τ6 =>
 wNew τ6 (.cells [(.int .i64 0)] t_api_Errno false) fun b7 τ8 =>
 E f_tree_Shelf_right [(.pointer none), (.int .u64 0)] τ8 (cI Q .i64 fun n11 τ10 =>
 If (!decide (n11 = 0)) (
 St b1 0 (.int .u64 0) τ10 fun τ20 =>
 St b3 0 (.int .u64 0) τ20 fun τ24 =>
 St b5 0 (.bool false) τ24 fun τ28 =>
 St b7 0 (.int .i64 n11) τ28 fun τ32 =>
 pu (aLoad false 1 (.pointer (some ⟨b1, 0, none⟩)) τ32) fun v33 =>
 pu (aLoad false 1 (.pointer (some ⟨b3, 0, none⟩)) τ32) fun v34 =>
 pu (aLoad false 1 (.pointer (some ⟨b5, 0, none⟩)) τ32) fun v35 =>
 pu (aLoad false 1 (.pointer (some ⟨b7, 0, none⟩)) τ32) fun v36 =>
 Q (.ret (.tuple #[v33, v34, v35, v36])) τ32) (
 If (decide (x3 = 0)) (
 St b1 0 (.int .u64 0) τ10 fun τ46 =>
 St b3 0 (.int .u64 0) τ46 fun τ49 =>
 St b5 0 (.bool false) τ49 fun τ52 =>
 St b7 0 (.int .i64 1) τ52 fun τ55 =>
 pu (aLoad false 1 (.pointer (some ⟨b1, 0, none⟩)) τ55) fun v56 =>
 pu (aLoad false 1 (.pointer (some ⟨b3, 0, none⟩)) τ55) fun v57 =>
 pu (aLoad false 1 (.pointer (some ⟨b5, 0, none⟩)) τ55) fun v58 =>
 pu (aLoad false 1 (.pointer (some ⟨b7, 0, none⟩)) τ55) fun v59 =>
 Q (.ret (.tuple #[v56, v57, v58, v59])) τ55) (
 (s_tree_Insert_nil_k7 E (qd P f_tree_Insert_c1 [(.pointer (some ⟨b1, 0, none⟩)), (.pointer (some ⟨b3, 0, none⟩)), (.pointer (some ⟨b5, 0, none⟩)), (.pointer (some ⟨b7, 0, none⟩))] fun τ65 =>
 pu (aLoad false 1 (.pointer (some ⟨b1, 0, none⟩)) τ65) fun v66 =>
 pu (aLoad false 1 (.pointer (some ⟨b3, 0, none⟩)) τ65) fun v67 =>
 pu (aLoad false 1 (.pointer (some ⟨b5, 0, none⟩)) τ65) fun v68 =>
 pu (aLoad false 1 (.pointer (some ⟨b7, 0, none⟩)) τ65) fun v69 =>
 Q (.ret (.tuple #[v66, v67, v68, v69])) τ65) x1 x2 x3 b1 b7 b3 b5 τ10))))
theorem q_tree_Insert_nil (E : EvT) (Q : RK) (x1 x2 x3 : Int) (σ : AHeap) : xfnD P E Tryz.f24 (hl [(3, .ord [(0, []), (1, []), (2, [1]), (3, [1]), (4, [1]), (5, [])]), (5, .ord [(0, []), (1, []), (2, []), (3, []), (4, []), (5, []), (6, []), (7, []), (8, []), (9, [7]), (10, []), (11, []), (12, [])])]) (fun _ => .v) [(.pointer none), (.int .u64 x1), (.int .u64 x2), (.int .u64 x3)] σ Q = s_tree_Insert_nil E Q x1 x2 x3 σ := by kernel_rfl
theorem e_tree_Insert_nil {Q : RK} {x1 x2 x3 : Int} {σ : AHeap} (h : s_tree_Insert_nil E Q x1 x2 x3 σ) : E f_tree_Insert [(.pointer none), (.int .u64 x1), (.int .u64 x2), (.int .u64 x3)] σ Q :=
  exfnD Tryz.func24 _ _ (by kernel_rfl) (Eq.mpr (q_tree_Insert_nil E Q x1 x2 x3 σ) h)
def s_tree_Remove_nil_k20 (E : EvT) (Q : RK) (b215 b230 b248 b263 : Nat) (τ212 : AHeap) : Prop :=
 ldI .u64 (L b215 0 τ212) fun n216 =>
 ldI .u64 (L b230 0 τ212) fun n231 =>
 St b215 0 (.int .u64 n216) τ212 fun τ232 =>
 ldI .u64 (L b230 0 τ232) fun n233 =>
 veq1 (.int .u64 n233) (.int .u64 n231) = true ∧
 St b230 0 (.int .u64 n231) τ232 fun τ234 =>
 St b248 0 (.bool true) τ234 fun τ249 =>
 St b263 0 (.int .i64 0) τ249 fun τ264 =>
 Q (.ret (.tuple #[])) τ264
def s_tree_Remove_nil_k18 (E : EvT) (Q : RK) (b201 b213 b228 b246 b261 : Nat) (τ197 : AHeap) : Prop :=
 om (aNil (.pointer none)) fun v198 =>
 om (aFieldAddr 0 v198) fun v199 =>
 om (aLoad false 1 v199 τ197) fun v200 =>
 ldI .u64 (L b201 0 τ197) fun n202 =>
 Bi (w64 (n202)) fun n203 =>
 E f_refs_Refs_Dec [v200, (.int .i64 n203)] τ197 (c2 Q fun v205 v207 τ204 =>
 tB (fun c206 =>
 tI .i64 (fun n208 =>
 E f_tree_must [(.int .i64 n208)] τ204 (c0 Q fun τ211 =>
 (s_tree_Remove_nil_k20 E Q b213 b228 b246 b261 τ211))) v207) v205)
def s_tree_Remove_nil_k15 (E : EvT) (Q : RK) (c179 : Bool) (b181 b184 b225 b243 b258 : Nat) (τ178 : AHeap) : Prop :=
 If c179 (
 St b181 0 (.int .u64 0) τ178 fun τ182 =>
 om (L b184 2 τ182) fun v186 =>
 ldI .i64 (lenS v186) fun n187 =>
 If (decide (n187 = 1)) (
 om (L b184 3 τ182) fun v191 =>
 om (aIndexAddr 1 v191 (.int .i64 0)) fun v192 =>
 ldI .u64 (aLoad false 1 v192 τ182) fun n193 =>
 St b181 0 (.int .u64 n193) τ182 fun τ196 =>
 (s_tree_Remove_nil_k18 E Q b184 b181 b225 b243 b258 τ196)) (
 (s_tree_Remove_nil_k18 E Q b184 b181 b225 b243 b258 τ182))) (
 (s_tree_Remove_nil_k20 E Q b181 b225 b243 b258 τ178))
def s_tree_Remove_nil_k7 (E : EvT) (Q : RK) (n86 n92 : Int) (b166 b217 b235 b250 : Nat) (τ84 : AHeap) : Prop :=
 E f_tree_down [(.pointer none), (.int .u64 n86), (.int .u64 n92), (.bool false)] τ84 (cV Q fun v94 τ93 =>
 om (aNil v94) fun v97 =>
 om (aFieldAddr 1 v97) fun v98 =>
 om (aLoad false 1 v98 τ93) fun v99 =>
 ldI .i64 (lenS v99) fun n100 =>
 Bi (w64 (n100 - 1)) fun n101 =>
 om (aNil v94) fun v104 =>
 om (aFieldAddr 1 v104) fun v105 =>
 om (aLoad false 1 v105 τ93) fun v106 =>
 om (aIndexAddr 5 v106 (.int .i64 n101)) fun v108 =>
 om (aFieldAddr 1 v108) fun v109 =>
 om (aFieldAddr 0 v109) fun v110 =>
 ldB (aLoad false 1 v110 τ93) fun c111 =>
 om (aFieldAddr 1 v109) fun v112 =>
 om (aLoad false 1 v112 τ93) fun v113 =>
 om (aFieldAddr 2 v109) fun v114 =>
 om (aLoad false 1 v114 τ93) fun v115 =>
 E f_knot_Find [(.agg #[(.bool c111), v113, v115]), (.int .u64 n92)] τ93 (c2 Q fun v119 v121 τ118 =>
 tI .i64 (fun n120 =>
 tB (fun c122 =>
 om (aNil v94) fun v126 =>
 om (aFieldAddr 1 v126) fun v127 =>
 om (aLoad false 1 v127 τ118) fun v128 =>
 om (aIndexAddr 5 v128 (.int .i64 n101)) fun v129 =>
 om (aFieldAddr 1 v129) fun v130 =>
 om (aFieldAddr 0 v130) fun v131 =>
 ldB (aLoad false 1 v131 τ118) fun c132 =>
 om (aFieldAddr 1 v130) fun v133 =>
 om (aLoad false 1 v133 τ118) fun v134 =>
 om (aFieldAddr 2 v130) fun v135 =>
 om (aLoad false 1 v135 τ118) fun v136 =>
 E f_knot_Remove [(.agg #[(.bool c132), v134, v136]), (.int .i64 n120)] τ118 (cV Q fun v139 τ138 =>
 E f_tree_way_save [v94, (.int .i64 n101), v139] τ138 (c0 Q fun τ140 =>
 E f_tree_way_up [v94, (.func (.func f_tree_way_fill) #[v94] #[])] τ140 (c0 Q fun τ143 =>
 om (aNil v94) fun v146 =>
 om (aFieldAddr 1 v146) fun v147 =>
 om (aLoad false 1 v147 τ143) fun v148 =>
 om (aIndexAddr 5 v148 (.int .i64 0)) fun v149 =>
 om (aFieldAddr 0 v149) fun v150 =>
 ldI .u64 (aLoad false 1 v150 τ143) fun n151 =>
 om (aFieldAddr 1 v149) fun v152 =>
 ldB (aLoad false 1 v152 τ143) fun c153 =>
 om (aFieldAddr 2 v149) fun v154 =>
 om (aLoad false 1 v154 τ143) fun v155 =>
 om (aFieldAddr 3 v149) fun v156 =>
 om (aLoad false 1 v156 τ143) fun v157 =>
 om (aFieldAddr 4 v149) fun v158 =>
 ldI .i64 (aLoad false 1 v158 τ143) fun n159 =>
 wNew τ143 (.cells [(.int .u64 0), (.bool false), (.slice none 0 0), (.slice none 0 0), (.int .i64 0)] t_tree_step false) fun b160 τ161 =>
 pu (aStore 5 (.pointer (some ⟨b160, 0, none⟩)) (.agg #[(.int .u64 n151), (.bool c153), v155, v157, (.int .i64 n159)]) τ161) fun τ162 =>
 ldI .u64 (L b160 0 τ162) fun n165 =>
 St b166 0 (.int .u64 n165) τ162 fun τ173 =>
 om (L b160 2 τ173) fun v176 =>
 ldI .i64 (lenS v176) fun n177 =>
 If (decide (n177 = 0)) (
 isSkip skipV = true ∧
 (s_tree_Remove_nil_k15 E Q true b166 b160 b217 b235 b250 τ173)) (
 ldB (L b160 1 τ173) fun c265 =>
 If (!c265) (
 om (L b160 2 τ173) fun v266 =>
 ldI .i64 (lenS v266) fun n267 =>
 (s_tree_Remove_nil_k15 E Q (decide (n267 = 1)) b166 b160 b217 b235 b250 τ173)) (
 (s_tree_Remove_nil_k15 E Q false b166 b160 b217 b235 b250 τ173))))))) v121) v119))
def s_tree_Remove_nil (E : EvT) (Q : RK) (x1 x2 : Int) (σ : AHeap) : Prop :=
 wNew σ (.cells [(.int .u64 0)] t_uint64 false) fun b1 τ2 =>
 wNew τ2 (.cells [(.int .u64 0)] t_uint64 false) fun b3 τ4 =>
 wNew τ4 (.cells [(.bool false)] t_bool false) fun b5 τ6 =>
 wNew τ6 (.cells [(.int .i64 0)] t_api_Errno false) fun b7 τ8 =>
 E f_tree_Lookup [(.pointer none), (.int .u64 x1), (.int .u64 x2)] τ8 (c3 Q fun v13 v15 v17 τ12 =>
 tI .u64 (fun n14 =>
 tB (fun c16 =>
 tI .i64 (fun n18 =>
 St b3 0 (.int .u64 n14) τ12 fun τ20 =>
 St b5 0 (.bool c16) τ20 fun τ22 =>
 St b7 0 (.int .i64 n18) τ22 fun τ24 =>
 ldI .i64 (L b7 0 τ24) fun n27 =>
 If (!decide (n27 = 0)) (
 ldI .i64 (L b7 0 τ24) fun n31 =>
 St b1 0 (.int .u64 0) τ24 fun τ35 =>
 ldI .i64 (L b7 0 τ35) fun n36 =>
 veq1 (.int .i64 n36) (.int .i64 n31) = true ∧
 St b3 0 (.int .u64 0) τ35 fun τ39 =>
 ldI .i64 (L b7 0 τ39) fun n40 =>
 veq1 (.int .i64 n40) (.int .i64 n31) = true ∧
 St b5 0 (.bool false) τ39 fun τ43 =>
 ldI .i64 (L b7 0 τ43) fun n44 =>
 veq1 (.int .i64 n44) (.int .i64 n31) = true ∧
 St b7 0 (.int .i64 n31) τ43 fun τ45 =>
 pu (aLoad false 1 (.pointer (some ⟨b1, 0, none⟩)) τ45) fun v46 =>
 pu (aLoad false 1 (.pointer (some ⟨b3, 0, none⟩)) τ45) fun v47 =>
 pu (aLoad false 1 (.pointer (some ⟨b5, 0, none⟩)) τ45) fun v48 =>
 pu (aLoad false 1 (.pointer (some ⟨b7, 0, none⟩)) τ45) fun v49 =>
 Q (.ret (.tuple #[v46, v47, v48, v49])) τ45) (
 ldB (L b5 0 τ24) fun c52 =>
 If (!c52) (
 St b1 0 (.int .u64 x1) τ24 fun τ61 =>
 St b3 0 (.int .u64 0) τ61 fun τ64 =>
 St b5 0 (.bool false) τ64 fun τ66 =>
 St b7 0 (.int .i64 0) τ66 fun τ69 =>
 pu (aLoad false 1 (.pointer (some ⟨b1, 0, none⟩)) τ69) fun v70 =>
 pu (aLoad false 1 (.pointer (some ⟨b3, 0, none⟩)) τ69) fun v71 =>
 pu (aLoad false 1 (.pointer (some ⟨b5, 0, none⟩)) τ69) fun v72 =>
 pu (aLoad false 1 (.pointer (some ⟨b7, 0, none⟩)) τ69) fun v73 =>
 Q (.ret (.tuple #[v70, v71, v72, v73])) τ69) (
 (s_tree_Remove_nil_k7 E (qd P f_tree_Remove_c1 [(.pointer (some ⟨b1, 0, none⟩)), (.pointer (some ⟨b3, 0, none⟩)), (.pointer (some ⟨b5, 0, none⟩)), (.pointer (some ⟨b7, 0, none⟩))] fun τ79 =>
 pu (aLoad false 1 (.pointer (some ⟨b1, 0, none⟩)) τ79) fun v80 =>
 pu (aLoad false 1 (.pointer (some ⟨b3, 0, none⟩)) τ79) fun v81 =>
 pu (aLoad false 1 (.pointer (some ⟨b5, 0, none⟩)) τ79) fun v82 =>
 pu (aLoad false 1 (.pointer (some ⟨b7, 0, none⟩)) τ79) fun v83 =>
 Q (.ret (.tuple #[v80, v81, v82, v83])) τ79) x1 x2 b1 b3 b5 b7 τ24)))) v17) v15) v13)
theorem q_tree_Remove_nil (E : EvT) (Q : RK) (x1 x2 : Int) (σ : AHeap) : xfnD P E Tryz.f27 (hl [(1, .ord [(0, []), (1, [0]), (2, [0]), (3, [0]), (4, [])]), (5, .ord [(0, []), (1, []), (2, []), (3, []), (4, []), (5, []), (6, []), (7, []), (8, []), (9, []), (10, []), (11, []), (12, [])]), (6, .ord [(0, []), (1, []), (2, [1]), (3, []), (4, []), (5, [])])]) (fun _ => .v) [(.pointer none), (.int .u64 x1), (.int .u64 x2)] σ Q = s_tree_Remove_nil E Q x1 x2 σ := by kernel_rfl
theorem e_tree_Remove_nil {Q : RK} {x1 x2 : Int} {σ : AHeap} (h : s_tree_Remove_nil E Q x1 x2 σ) : E f_tree_Remove [(.pointer none), (.int .u64 x1), (.int .u64 x2)] σ Q :=
  exfnD Tryz.func27 _ _ (by kernel_rfl) (Eq.mpr (q_tree_Remove_nil E Q x1 x2 σ) h)
def s_tree_New_nn (E : EvT) (Q : RK) (σ : AHeap) : Prop :=
 If true (
 Q (.ret (.pointer none)) σ) (
 wNew σ (.cells [(.pointer none), (.pointer none)] t_tree_Shelf false) fun b5 τ6 =>
 Q (.ret (.pointer (some ⟨b5, 0, none⟩))) τ6)
theorem q_tree_New_nn (E : EvT) (Q : RK) (σ : AHeap) : xfn P E Tryz.f28 (fun _ => none) (fun _ => .v) [(.pointer none), (.pointer none)] σ Q = s_tree_New_nn E Q σ := by kernel_rfl
theorem e_tree_New_nn {Q : RK} {σ : AHeap} (h : s_tree_New_nn E Q σ) : E f_tree_New [(.pointer none), (.pointer none)] σ Q :=
  exfn Tryz.func28 _ _ (by kernel_rfl) (Eq.mpr (q_tree_New_nn E Q σ) h)
end Go.Ax.C
set_option maxRecDepth 100000
namespace Go.Ax.C
open Go.Proofs Go.RowKit
variable {l r r2 m : List Assn} {σ : AHeap} {Q : RK}
theorem nright {a : Int} (hQ : Q (.ret (.int .i64 2)) σ) : E f_tree_Shelf_right [.pointer none, .int .u64 a] σ Q := by
  apply e_tree_Shelf_right_nil; unfold s_tree_Shelf_right_nil
  exact If_t rfl hQ
theorem nload {a : Int} (h : H l σ) (hQ : ∀ σ', H l σ' → Q (.ret (.tuple #[noNode, .int .i64 2])) σ') : E f_tree_Shelf_Load [.pointer none, .int .u64 a] σ Q := by
  apply e_tree_Shelf_Load_nil; unfold s_tree_Shelf_Load_nil
  refine nw h ?_
  intro b1 σ1 h1
  refine nright ?_
  rw [cI_ret]
  refine If_t rfl ?_
  refine put3' (K := fun v τ => Q (.ret (.tuple #[v, .int .i64 2])) τ) h1 rfl rfl rfl ?_
  exact hQ
theorem nshadow {a : Int} (h : H l σ) (hQ : ∀ σ', H l σ' → Q (.ret (.tuple #[.int .u64 0, noNode, .int .i64 2])) σ') : E f_tree_Shelf_Shadow [.pointer none, .int .u64 a] σ Q := by
  apply e_tree_Shelf_Shadow_nil; unfold s_tree_Shelf_Shadow_nil
  refine nw h ?_
  intro b1 σ1 h1
  refine nload h1 ?_
  intro σ2 h2
  rw [c2_ret, tI_int]
  refine nw h2 ?_
  intro b9 σ3 h3
  refine st3 h3 rfl rfl rfl ?_
  intro σ4 h4
  refine If_t rfl ?_
  refine put3' (K := fun v τ => Q (.ret (.tuple #[.int .u64 0, v, .int .i64 2])) τ) h4 rfl rfl rfl ?_
  intro σ5 h5
  exact hQ σ5 h5.tail
theorem nmake {b : Bool} {x y : Value} (h : H l σ) (hQ : ∀ σ', H l σ' → Q (.ret (.tuple #[.int .u64 0, .int .i64 2])) σ') : E f_tree_Shelf_Make [.pointer none, .agg #[.bool b, x, y]] σ Q := by
  apply e_tree_Shelf_Make_nil; unfold s_tree_Shelf_Make_nil
  refine nw h ?_
  intro b1 σ1 h1
  refine nright ?_
  rw [cI_ret]
  exact If_t rfl (hQ σ1 h1.tail)
theorem nsave {a : Int} {b : Bool} {x y : Value} (h : H l σ) (hQ : ∀ σ', H l σ' → Q (.ret (.int .i64 2)) σ') : E f_tree_Shelf_Save [.pointer none, .int .u64 a, .agg #[.bool b, x, y]] σ Q := by
  apply e_tree_Shelf_Save_nil; unfold s_tree_Shelf_Save_nil
  refine nw h ?_
  intro b1 σ1 h1
  refine nright ?_
  rw [cI_ret]
  exact If_t rfl (hQ σ1 h1.tail)
theorem nlookup {a k : Int} (hQ : Q (.ret (.tuple #[.int .u64 0, .bool false, .int .i64 2])) σ) : E f_tree_Lookup [.pointer none, .int .u64 a, .int .u64 k] σ Q := by
  apply e_tree_Lookup_nil; unfold s_tree_Lookup_nil
  refine nright ?_
  rw [cI_ret]
  exact If_t rfl hQ
theorem ninsert {a k v : Int} (h : H l σ) (hQ : ∀ σ', H l σ' → Q (.ret (.tuple #[.int .u64 0, .int .u64 0, .bool false, .int .i64 2])) σ') : E f_tree_Insert [.pointer none, .int .u64 a, .int .u64 k, .int .u64 v] σ Q := by
  apply e_tree_Insert_nil; unfold s_tree_Insert_nil
  refine nw h ?_
  intro b1 σ1 h1
  refine nw h1 ?_
  intro b3 σ2 h2
  refine nw h2 ?_
  intro b5 σ3 h3
  refine nw h3 ?_
  intro b7 σ4 h4
  refine nright ?_
  rw [cI_ret]
  refine If_t rfl ?_
  refine st h4 rfl ?_
  intro τ1 g1
  refine st g1 rfl ?_
  intro τ2 g2
  refine st g2 rfl ?_
  intro τ3 g3
  refine st g3 rfl ?_
  intro τ4 g4
  have g5 : H (In4 b1 b3 b5 b7 0 0 false 2 l) τ4 := g4.re
  exact in4_ret (e := 2) g5 fun g6 => hQ τ4 g6
theorem nremove {a k : Int} (h : H l σ) (hQ : ∀ σ', H l σ' → Q (.ret (.tuple #[.int .u64 0, .int .u64 0, .bool false, .int .i64 2])) σ') : E f_tree_Remove [.pointer none, .int .u64 a, .int .u64 k] σ Q := by
  apply e_tree_Remove_nil; unfold s_tree_Remove_nil
  refine nw h ?_
  intro b1 σ1 h1
  refine nw h1 ?_
  intro b3 σ2 h2
  refine nw h2 ?_
  intro b5 σ3 h3
  refine nw h3 ?_
  intro b7 σ4 h4
  refine nlookup ?_
  rw [c3_ret, tI_int, tB_bool, tI_int]
  refine st h4 rfl ?_
  intro τ1 g1
  refine st g1 rfl ?_
  intro τ2 g2
  refine st g2 rfl ?_
  intro τ3 g3
  rw [LI g3]
  refine If_t rfl ?_
  rw [LI g3]
  refine st g3 rfl ?_
  intro τ4 g4
  rw [LI g4, veq_int]
  refine st g4 rfl ?_
  intro τ5 g5
  rw [LI g5, veq_int]
  refine st g5 rfl ?_
  intro τ6 g6
  rw [LI g6, veq_int]
  refine st g6 rfl ?_
  intro τ7 g7
  have g8 : H (In4 b1 b3 b5 b7 0 0 false 2 l) τ7 := g7.re
  exact in4_ret (e := 2) g8 fun g9 => hQ τ7 g9
def knS : Nat → Option (Nat × TS)
  | 0 => some (0, TS.new 60)
  | k + 1 => match knS k with
    | none => none
    | some (root, T) => match T.alloc with
      | .ok v T1 => match insA T1 root (10 * k) v with
        | .ok (to, _, _) T2 => if (decide (to < 1024) && (decide (k < 8) == decide (to = root) || decide (k = 0))) = true then some (to, T2) else none
        | _ => none
      | _ => none
def knE : Bool :=
  match knS 9 with
  | none => false
  | some (root, T) => decide (root < 1024) && (match T.ld root with
    | some n => n.leaf == false && decide (n.keys = [0, 50])
    | none => false) && (match insA T root 1 0 with
    | .err e _ => decide (e = 1)
    | _ => false) && match remA T root 5 with
    | .ok (to, _, had) _ => decide (to = root) && had == false
    | _ => false
theorem knE_ok : knE = true := by decide +kernel
theorem knS_down {k : Nat} {q : Nat × TS} (h : knS (k + 1) = some q) : ∃ q', knS k = some q' := by
  unfold knS at h
  cases hk : knS k with
  | none => rw [hk] at h; cases h
  | some q' => exact ⟨q', rfl⟩
theorem knS_all {q : Nat × TS} (h : knS 9 = some q) : ∀ j, j ≤ 9 → ∃ q', knS (9 - j) = some q'
  | 0, _ => ⟨q, h⟩
  | j + 1, hj => by
    obtain ⟨q', hq⟩ := knS_all h j (by omega)
    rw [show 9 - j = (9 - (j + 1)) + 1 by omega] at hq
    exact knS_down hq
theorem insA_err_T {T : TS} {root key : Nat} {e : Nat} {T' : TS} (h : insA T root key 0 = .err e T') : T' = T := by
  unfold insA at h
  rw [if_pos rfl] at h
  cases h; rfl
set_option maxHeartbeats 2000000 in
theorem known11_ev (h : H l σ) (hQ : ∀ σ', Q (.ret (.bool true)) σ') : E f_law11_TreeKnown [] σ Q := by
  apply e_law11_TreeKnown; unfold s_law11_TreeKnown
  refine wmade (n := 60) (k := 3) h (by omega) (by omega) ?_
  intro xb rb sb σ1 h1
  rw [cV_ret]
  refine awake11 h1 ?_
  intro σ2 h2
  rw [cB_ret]
  refine If_f rfl ?_
  rw [bin_peq1, ldB_some]
  unfold s_law11_TreeKnown_k3
  refine If_f rfl ?_
  have hE := knE_ok
  unfold knE at hE
  cases h9 : knS 9 with
  | none => rw [h9] at hE; cases hE
  | some q9 =>
  obtain ⟨root9, T9⟩ := q9
  rw [h9] at hE
  simp only [Bool.and_eq_true, decide_eq_true_eq] at hE
  obtain ⟨⟨⟨hr9, hld⟩, hins⟩, hrem⟩ := hE
  have h2 : H (StA sb rb (TS.new 60) 0 :: pt xb (.cells [.pointer (some ⟨rb, 0, none⟩), .pointer (some ⟨sb, 0, none⟩)] t_law11_Bench false) :: l) σ2 := h2.perm (.swap _ _ _)
  refine ⟨fun m i j τ => ∃ (k root : Nat) (T : TS), i = root ∧ j = k ∧ m = 9 - k ∧ k ≤ 9 ∧ root < 1024 ∧ knS k = some (root, T) ∧ H (StA sb rb T (200 * k) :: pt xb (.cells [.pointer (some ⟨rb, 0, none⟩), .pointer (some ⟨sb, 0, none⟩)] t_law11_Bench false) :: l) τ,
    ⟨_, 0, 0, TS.new 60, rfl, rfl, rfl, by omega, by omega, rfl, h2⟩, ?_⟩
  clear h1 h2 h
  rintro m _ _ τ ⟨k, root, T, rfl, rfl, hm, hk, hroot, hkn, h⟩
  unfold s_law11_TreeKnown_b1
  refine If_dec (fun g => ?_) fun g => ?_
  · obtain ⟨q', hq'⟩ : ∃ q', knS (k + 1) = some q' := by
      obtain ⟨q', hq'⟩ := knS_all h9 (9 - (k + 1)) (by omega)
      exact ⟨q', by rw [← hq']; congr 1; omega⟩
    have hstep := hq'
    unfold knS at hstep
    rw [hkn] at hstep
    simp only at hstep
    (try simp only [nil_ptr, om_some, fieldAddr_ptr, Nat.zero_add])
    rw [Ld h, om_some]
    refine stalloc h rfl ?_ ?_
    · intro ha; rw [ha] at hstep; cases hstep
    intro v τ1 ha hv0 hw0 h1
    rw [ha] at hstep
    simp only at hstep
    have hvl := (List.getElem?_eq_some_iff.1 hv0).1
    have hhi := (st_ok h).hi
    rw [c2_ret, tI_int, tI_int]
    (try simp only [nil_ptr, om_some, fieldAddr_ptr, Nat.zero_add])
    rw [Ld h1, om_some]
    refine bu64 ((10 * k : Nat) : Int) (by omega) ?_
    refine bu64 (v : Int) (by omega) ?_
    cases hi : insA { T with now := T.now.set v 1 } root (10 * k) v with
    | stuck => rw [hi] at hstep; cases hstep
    | err e T2 => rw [hi] at hstep; cases hstep
    | ok q T2 =>
    obtain ⟨to, old, had⟩ := q
    rw [hi] at hstep
    simp only at hstep
    refine winsert h1 (by omega) (by omega) (by omega) (by omega) (by rw [hi]; exact fun h => by cases h) ?_ ?_
    · intro e T' σ' _ he; rw [hi] at he; cases he
    intro to' old' had' T' τ2 he h2
    rw [hi] at he
    cases he
    split at hstep
    case isFalse => cases hstep
    rename_i hc
    simp only [Bool.and_eq_true, Bool.or_eq_true, decide_eq_true_eq, beq_iff_eq] at hc
    cases hstep
    rw [c4_ret, tI_int, tI_int, tB_bool, tI_int]
    refine If_f rfl ?_
    have nxt : s_law11_TreeKnown_k12 (fun n12 n13 σ' => ∃ m', m' < m ∧ ∃ (k root : Nat) (T : TS), n12 = root ∧ n13 = k ∧ m' = 9 - k ∧ k ≤ 9 ∧ root < 1024 ∧ knS k = some (root, T) ∧ H (StA sb rb T (200 * k) :: pt xb (.cells [.pointer (some ⟨rb, 0, none⟩), .pointer (some ⟨sb, 0, none⟩)] t_law11_Bench false) :: l) σ') E Q false (.pointer (some ⟨xb, 0, none⟩)) root k to τ2 := by
      unfold s_law11_TreeKnown_k12
      refine If_f rfl ?_
      refine bu64 ((k + 1 : Nat) : Int) (by omega) ?_
      exact ⟨9 - (k + 1), by omega, k + 1, to, _, rfl, rfl, rfl, by omega, hc.1, hq', h2⟩
    have e1 : decide ((k : Int) < 8) = decide (k < 8) := by by_cases h : k < 8 <;> simp [h] <;> omega
    have e2 : decide ((to : Int) = (root : Int)) = decide (to = root) := by by_cases h : to = root <;> simp [h]; omega
    rw [e1, e2]
    rcases hc.2 with hc2 | hc2
    · rw [hc2]
      refine If_f (by simp) ?_
      exact nxt
    · subst hc2
      refine If_b (fun _ => ?_) fun _ => nxt
      exact nxt
  · have hk9 : k = 9 := by omega
    subst hk9
    rw [h9] at hkn
    cases hkn
    cases hn : T9.ld root9 with
    | none => rw [hn] at hld; cases hld
    | some n =>
    rw [hn] at hld
    simp only [Bool.and_eq_true, beq_iff_eq, decide_eq_true_eq] at hld
    obtain ⟨hal, hg, hf⟩ := ld_some hn
    (try simp only [nil_ptr, om_some, fieldAddr_ptr, Nat.zero_add])
    rw [Ld h, om_some]
    refine sload h (by omega) hal hg hf ?_
    intro kv vv τ1 hm hs h1
    obtain ⟨a1, c1, hkv⟩ := rou_form h1
    obtain ⟨a2, c2, hvv⟩ := rou_form h1.tail
    rw [c2_ret, tI_int]
    refine nw h1 ?_
    intro b95 τ2 h2
    refine st3 h2 rfl (by rw [hkv]; rfl) (by rw [hvv]; rfl) ?_
    intro τ3 h3
    refine If_f rfl ?_
    rw [LB h3, hld.1]
    refine If_f rfl ?_
    have husk := rou_us (h3.fnd (RoU kv n.keys))
    obtain ⟨p0, i0, l0⟩ := us_get husk (k := 0) (x := 0) (by rw [hld.2]; rfl)
    obtain ⟨p1, i1, l1⟩ := us_get husk (k := 1) (x := 50) (by rw [hld.2]; rfl)
    rw [LV h3, us_len husk, ldI_some, hld.2]
    refine If_f rfl ?_
    rw [LV h3, show (0 : Int) = ((0 : Nat) : Int) from rfl, i0, om_some, l0, ldI_some]
    refine If_f (by simp) ?_
    rw [LV h3, show (1 : Int) = ((1 : Nat) : Int) from rfl, i1, om_some, l1, ldI_some]
    unfold s_law11_TreeKnown_k17
    refine If_f (by simp) ?_
    have h4 : H (StA sb rb T9 (200 * 9 + 1) :: RoU kv n.keys :: RoU vv n.vals :: pt b95 (.cells [.bool n.leaf, kv, vv] t_api_Node false) :: pt xb (.cells [.pointer (some ⟨rb, 0, none⟩), .pointer (some ⟨sb, 0, none⟩)] t_law11_Bench false) :: l) τ3 := h3.re
    (try simp only [nil_ptr, om_some, fieldAddr_ptr, Nat.zero_add])
    rw [Ld h4, om_some]
    cases hi : insA T9 root9 1 0 with
    | stuck => rw [hi] at hins; cases hins
    | ok q T2 => rw [hi] at hins; cases hins
    | err e T2 =>
    have hT2 := insA_err_T hi
    subst hT2
    rw [hi] at hins
    simp only [decide_eq_true_eq] at hins
    subst hins
    refine winsert (root := root9) (key := 1) (val := 0) h4 (by omega) (by omega) (by omega) (by omega) (by rw [hi]; exact fun h => by cases h) (fun e T' τ4 _ he h5 => ?_) (fun to old had T' σ' he => by rw [hi] at he; cases he)
    rw [hi] at he
    cases he
    rw [c4_ret, tI_int, tI_int, tB_bool, tI_int]
    refine nload h5 ?_
    intro τ5 h6
    rw [c2_ret, tI_int]
    refine nw h6 ?_
    intro b127 τ6 h7
    refine st3 h7 rfl rfl rfl ?_
    intro τ7 h8
    refine nshadow h8 ?_
    intro τ8 h9'
    rw [c3_ret, tI_int, tI_int]
    refine nw h9' ?_
    intro b137 τ9 h10
    refine st3 h10 rfl rfl rfl ?_
    intro τ10 h11
    rw [LB h11, LV h11, LV h11]
    refine nmake h11 ?_
    intro τ11 h12
    rw [c2_ret, tI_int, tI_int]
    refine nlookup ?_
    rw [c3_ret, tI_int, tB_bool, tI_int]
    refine ninsert h12 ?_
    intro τ12 h13
    rw [c4_ret, tI_int, tI_int, tB_bool, tI_int]
    refine nremove h13 ?_
    intro τ13 h14
    rw [c4_ret, tI_int, tI_int, tB_bool, tI_int]
    have h15 : H (StA sb rb T2 (200 * 9 + 1 + 200) :: pt b95 (.cells [.bool n.leaf, kv, vv] t_api_Node false) :: pt xb (.cells [.pointer (some ⟨rb, 0, none⟩), .pointer (some ⟨sb, 0, none⟩)] t_law11_Bench false) :: l) τ13 := h14.re
    (try simp only [nil_ptr, om_some, fieldAddr_ptr, Nat.zero_add])
    rw [Ld h15, om_some]
    cases hr : remA T2 root9 5 with
    | stuck => rw [hr] at hrem; cases hrem
    | err e T3 => rw [hr] at hrem; cases hrem
    | ok q T3 =>
    obtain ⟨to, old, had⟩ := q
    rw [hr] at hrem
    simp only [Bool.and_eq_true, decide_eq_true_eq, beq_iff_eq] at hrem
    obtain ⟨rfl, rfl⟩ := hrem
    refine wremove (key := 5) h15 (by omega) (by omega) (by omega) (by rw [hr]; exact fun h => by cases h) ?_ ?_
    · intro e T' σ' _ he; rw [hr] at he; cases he
    intro to' old' had' T'' τ14 he h16
    rw [hr] at he
    cases he
    rw [c4_ret, tI_int, tI_int, tB_bool, tI_int]
    refine If_t rfl (If_t rfl (If_t rfl (If_t rfl ?_)))
    rw [LB h16, LV h16, LV h16]
    refine nsave h16 ?_
    intro τ15 h17
    rw [cI_ret]
    refine If_t rfl (If_t rfl (If_t rfl (If_t rfl (If_t (by simp) (If_t rfl (If_t rfl ?_))))))
    apply e_tree_New_nn; unfold s_tree_New_nn
    refine If_t rfl ?_
    rw [cV_ret, bin_peq0, ldB_some]
    exact hQ τ15
end Go.Ax.C
/- Proved: 'TreeKnown' (a closed statement) returns true, for every world and tape; no condition. By a calculus of weakest preconditions over an abstract heap, which is sound for the machine. -/
namespace Go.Proofs.YtcnceningjookaaGreat.treeKnown
open Go.ChangeShapes Go.WideShapes Go.ChangeAt Go.RowKit
set_option linter.unusedVariables false
set_option maxRecDepth 100000
theorem own : ownKnob Tryz.prog.godebug = none := by kernel_rfl
theorem walk (W : World) : Calls Tryz.prog 4 #[] W fun e w' => e = .returned (.bool true) ∧ Below W.heap.size W w' := by
  exact Ax.Ev.law Tryz.func4 (by kernel_rfl) (Ax.Rel.start W) (Ax.LR.nil []) (by rw [← Ax.C.E_eq]; exact Ax.C.known11_ev (Ax.H.nil _) (fun _ => rfl))
theorem lifted (os : Os) (started : os.Started) (H : Type) (enc : TypeId × Value → H) :
    ReturnsInHanded {} Tryz.checked os 4 .any (Rows.treeKnownSpec.pre6 enc Tryz.prog Tryz.f4 Rows.treeKnownRow.domain false) (Rows.treeKnownSpec.post enc Tryz.prog Tryz.f4 false true false false) := by
  refine returnsInHanded_of_change (C := Tryz.checked) own started (by kernel_rfl) Tryz.func4
    (ChangeSpec.witness6 (enc := enc) (C := Tryz.checked) false ⟨#[], #[], []⟩ 8 (by kernel_rfl) (by kernel_rfl) (by kernel_rfl) (by kernel_rfl)) ?_
  intro W base args ds gs before hval0 hW hcnd _
  have hW' := hW
  obtain ⟨p, q, hA0, hV, rfl, hfz, hnd⟩ := hW
  have hA : DataW.TrodAll enc Tryz.prog W 0 (fun _ => true) true Tryz.f4.params.toList args.toList ds p := hA0
  rw [Tryz.params4] at hA
  obtain ⟨rfl, rfl, rfl⟩ := trodAll_none hA
  obtain ⟨rfl, rfl⟩ := trodVars_none hV
  clear hA0 hval0
  simp only [List.append_nil] at hW'
  refine (walk W).mono fun e W' ⟨he, hb⟩ => ?_
  subst he
  exact ⟨_, rfl, ⟨[], [], [], [], [], [], hW', trodAll_cons_mk (shut_bool Tryz.underlying4 _) trodAll_mk0, rfl, rfl, hb.frame _, fun h => by cases h⟩⟩
theorem over : Rows.treeKnownRow.holds Tryz.pinned (OpenSpec.ofChange Rows.treeKnownSpec) :=
  OpenClaim.holds_of_wide 4 Tryz.f4 rfl rfl rfl rfl rfl rfl rfl ⟨rfl, rfl, rfl, rfl, rfl⟩ rfl rfl rfl rfl rfl (by kernel_rfl) Tryz.func4 (by kernel_rfl)
    (of_decide_eq_true (by kernel_rfl)) (by unfold Func.isWrapper; first | (rw [if_pos (by decide +kernel)]; kernel_rfl) | (rw [if_neg (by decide +kernel)]; exact ⟨rfl, rfl⟩))
    (fun os started H enc _ => lifted os started H enc)
theorem proved : Rows.TreeKnownSaid := over
#print axioms proved
end Go.Proofs.YtcnceningjookaaGreat.treeKnown
