/- Texts of one proof,joined. No statement of the seat is proved here. -/
import Derived.Test.YtcnceningjookaaGreatTe5
set_option linter.unusedVariables false
set_option linter.unusedSimpArgs false
set_option linter.unnecessarySimpa false
set_option linter.constructorNameAsVariable false
set_option linter.unusedVariables false
set_option maxRecDepth 100000
namespace Go.Ax.C
open Go.Proofs
def LP (E:BP) (Q:RK) (b17:Nat) (τ16:AHeap):Prop :=
 E GW [(.pointer (some ⟨b17,0,none⟩))] τ16 (c0 Q fun τ18 =>
 Q (.ret (.tuple #[(.pointer (some ⟨b17,0,none⟩)),(.int .i64 0)])) τ18)
def PX (E:BP) (Q:RK) (c5:Bool) (v7:Value) (τ4:AHeap):Prop :=
 If c5 (
 Q (.ret (.tuple #[(.pointer none),(.int .i64 1)])) τ4) (
 A3 .i64 (BJ v7) fun n9 =>
 (
 E CU [v7] τ4 (cV Q fun v11 τ10 =>
 A3 .i64 (BJ v7) fun n12 =>
 AQ (.int .i64 n12) (.int .i64 n9)=true ∧
 pu (OU AI 1 [(.int .u8 0)] (.int .i64 n9) (.int .i64 n9) τ10) fun r13 =>
 On v11 (
 On r13.1 (
 BB r13.2 (.cells [v11,r13.1,(.slice none 0 0),(.pointer none)] BL false) fun b14 τ15 =>
 (LP E Q b14 τ15)))))∧(
 pu (OU AI 1 [(.int .u8 0)] (.int .i64 n9) (.int .i64 n9) τ4) fun r21 =>
 E CU [v7] r21.2 (cV Q fun v23 τ22 =>
 A3 .i64 (BJ v7) fun n24 =>
 AQ (.int .i64 n24) (.int .i64 n9)=true ∧
 On v23 (
 On r21.1 (
 BB τ22 (.cells [v23,r21.1,(.slice none 0 0),(.pointer none)] BL false) fun b25 τ26 =>
 (LP E Q b25 τ26))))))
def fC (E:BP) (Q:RK) (x0:Value) (σ:AHeap):Prop :=
 A3 .i64 (BJ x0) fun n3 =>
 If (decide (n3<1)) (
 (PX E Q true x0 σ)) (
 A3 .i64 (BJ x0) fun n27 =>
 (PX E Q (decide (1024<n27)) x0 σ))
theorem rB {Q:RK} {x0:Value} {σ:AHeap} (h:fC E Q x0 σ):E XD [x0] σ Q :=
 BT Tryz.func59 (hl [(1,.tree (.step 0 [] (.step 2 [] (.step 3 [] (.alt (.step 1 [3] (.step 4 [] (.step 5 [] (.step 6 [] (.step 7 [] .nil))))) (.step 4 [] (.step 1 [3] (.step 5 [] (.step 6 [] (.step 7 [] .nil))))))))))]) (fun _=>.v) (by kernel_rfl) (Eq.mpr (by kernel_rfl) h)
def E4 (N1:Int→AHeap→Prop) (E:BP) (Q:RK) (n57:Int) (τ54:AHeap):Prop :=
 Bi (F3 (n57+1)) fun n58 =>
 N1 n58 τ54
def KI (N1:Int→AHeap→Prop) (E:BP) (Q:RK) (b26:Nat) (v28:Value) (n30 n24:Int) (τ31:AHeap):Prop :=
 If (decide (n24<n30)) (
 om (AG 1 v28 (.int .i64 n24)) fun v39 =>
 A3 .u8 (AD false 1 v39 τ31) fun n40 =>
 If (decide (0<n40)) (
 om (L b26 3 τ31) fun v49 =>
 E I4 [v49,(.int .i64 n24)] τ31 (cI Q .i64 fun n53 τ52 =>
 (E4 N1 E Q n24 τ52))) (
 (E4 N1 E Q n24 τ31))) (
 Q (.ret (.tuple #[])) τ31)
def N5 (E:BP) (Q:RK) (x0:Nat) (σ:AHeap):Prop :=
 om (L x0 1 σ) fun v1 =>
 om (L x0 0 σ) fun v2 =>
 pu (KJ 1 v1 v2 σ) fun r3 =>
 om (L x0 0 r3.2) fun v6 =>
 A3 .i64 (BJ v6) fun n7 =>
 pu (OU CG 1 [(.bool false)] (.int .i64 n7) (.int .i64 n7) r3.2) fun r8 =>
 St x0 2 r8.1 r8.2 fun τ9 =>
 om (L x0 0 τ9) fun v12 =>
 A3 .i64 (BJ v12) fun n13 =>
 E XU [(.int .i64 n13)] τ9 (c2 Q fun v15 v16 τ14 =>
 tI .i64 (fun n17 =>
 St x0 3 v15 τ14 fun τ18 =>
 om (L x0 0 τ18) fun v21 =>
 A3 .i64 (BJ v21) fun n22 =>
 ∃ I59:Nat→Int→AHeap→Prop,(∃ m,I59 m 0 τ18) ∧
 ∀ m (n24:Int) (σ':AHeap),I59 m n24 σ'→(KI (fun n24 σ'=>∃ m',m'<m∧I59 m' n24 σ') E Q x0 v21 n22 n24 σ')) v16)
theorem XA {Q:RK} {x0:Nat} {σ:AHeap} (h:N5 E Q x0 σ):E GW [(.pointer (some ⟨x0,0,none⟩))] σ Q :=
 BT Tryz.func89 (hl [(0,.ord (il 0 9)),(2,.loopr [0,37,38] [39] [] [39])]) (fun | 39=>(.i .i64) | _=>.v) (by kernel_rfl) (Eq.mpr (by kernel_rfl) h)
def O0 (E:BP) (Q:RK) (x0:Nat) (σ:AHeap):Prop :=
 om (L x0 0 σ) fun v3 =>
 A3 .i64 (BJ v3) fun n4 =>
 Q (.ret (.bool (decide (0<n4)))) σ
theorem YK {Q:RK} {x0:Nat} {σ:AHeap} (h:O0 E Q x0 σ):E CT [(.pointer (some ⟨x0,0,none⟩))] σ Q :=
 BT Tryz.func70 (fun _=>none) (fun _=>.v) (by kernel_rfl) (Eq.mpr (by kernel_rfl) h)
def OO (E:BP) (Q:RK) (x0:Nat) (σ:AHeap):Prop :=
 E CT [(.pointer (some ⟨x0,0,none⟩))] σ (cB Q fun c4 τ3 =>
 If (!c4) (
 Q (.ret (.tuple #[(.int .i64 0),(.int .i64 2)])) τ3) (
 om (L x0 3 τ3) fun v10 =>
 E J6 [v10] τ3 (c2 Q fun v12 v14 τ11 =>
 tI .i64 (fun n13 =>
 tI .i64 (fun n15 =>
 If (!decide (n15=0)) (
 Q (.ret (.tuple #[(.int .i64 0),(.int .i64 8)])) τ11) (
 om (L x0 0 τ11) fun v24 =>
 om (L x0 2 τ11) fun v28 =>
 om (AG 1 v24 (.int .i64 n13)) fun v29 =>
 pu (AN 1 v29 (.int .u8 1) τ11) fun τ30 =>
 om (AG 1 v28 (.int .i64 n13)) fun v31 =>
 pu (AN 1 v31 (.bool true) τ30) fun τ32 =>
 Q (.ret (.tuple #[(.int .i64 n13),(.int .i64 0)])) τ32)) v14) v12)))
theorem YN {Q:RK} {x0:Nat} {σ:AHeap} (h:OO E Q x0 σ):E ED [(.pointer (some ⟨x0,0,none⟩))] σ Q :=
 BT Tryz.func23 (hl [(2,.ord (il 0 14))]) (fun _=>.v) (by kernel_rfl) (Eq.mpr (by kernel_rfl) h)
def IL (E:BP) (Q:RK) (c10:Bool) (b12:Nat) (n14:Int) (v22:Value) (τ9:AHeap):Prop :=
 If c10 (
 Q (.ret (.int .i64 1)) τ9) (
 om (L b12 0 τ9) fun v13 =>
 om (AG 1 v13 (.int .i64 n14)) fun v15 =>
 A3 .u8 (AD false 1 v15 τ9) fun n16 =>
 If (decide (n16=0)) (
 Q (.ret (.int .i64 6)) τ9) (
 wF v22 fun g31 a32 c33 =>
 E g31 (a32++[(.pointer (some ⟨b12,0,none⟩)),(.int .i64 n14)]++c33) τ9 (cI Q .i64 fun n30 τ29 =>
 Q (.ret (.int .i64 n30)) τ29)))
def QW (E:BP) (Q:RK) (x0:Nat) (x1:Int) (x2:Value) (σ:AHeap):Prop :=
 E CT [(.pointer (some ⟨x0,0,none⟩))] σ (cB Q fun c4 τ3 =>
 If (!c4) (
 Q (.ret (.int .i64 2)) τ3) (
 If (decide (x1<0)) (
 (IL E Q true x0 x1 x2 τ3)) (
 om (L x0 0 τ3) fun v34 =>
 A3 .i64 (BJ v34) fun n35 =>
 (IL E Q (decide (n35≤x1)) x0 x1 x2 τ3))))
theorem aI {Q:RK} {x0:Nat} {x1:Int} {x2:Value} {σ:AHeap} (h:QW E Q x0 x1 x2 σ):E IE [(.pointer (some ⟨x0,0,none⟩)),(.int .i64 x1),x2] σ Q :=
 BT Tryz.func86 (fun _=>none) (fun _=>.v) (by kernel_rfl) (Eq.mpr (by kernel_rfl) h)
def QL (E:BP) (Q:RK) (x0:Nat) (x1:Int) (σ:AHeap):Prop :=
 om (L x0 0 σ) fun v3 =>
 om (AG 1 v3 (.int .i64 x1)) fun v5 =>
 A3 .u8 (AD false 1 v5 σ) fun n6 =>
 If (decide (n6=255)) (
 Q (.ret (.int .i64 8)) σ) (
 om (L x0 0 σ) fun v12 =>
 om (AG 1 v12 (.int .i64 x1)) fun v15 =>
 A3 .u8 (AD false 1 v15 σ) fun n16 =>
 Bi (wu8 (n16+1)) fun n17 =>
 om (AG 1 v12 (.int .i64 x1)) fun v18 =>
 pu (AN 1 v18 (.int .u8 n17) σ) fun τ19 =>
 Q (.ret (.int .i64 0)) τ19)
theorem bD {Q:RK} {x0:Nat} {x1:Int} {σ:AHeap} (h:QL E Q x0 x1 σ):E QD [(.pointer (some ⟨x0,0,none⟩)),(.int .i64 x1)] σ Q :=
 BT Tryz.func88 (fun _=>none) (fun _=>.v) (by kernel_rfl) (Eq.mpr (by kernel_rfl) h)
def EG (E:BP) (Q:RK) (τ32:AHeap):Prop :=
 Q (.ret (.int .i64 0)) τ32
def F9 (E:BP) (Q:RK) (c20:Bool) (b21:Nat) (n23:Int) (τ19:AHeap):Prop :=
 If c20 (
 om (L b21 2 τ19) fun v22 =>
 om (AG 1 v22 (.int .i64 n23)) fun v24 =>
 pu (AN 1 v24 (.bool false) τ19) fun τ25 =>
 om (L b21 3 τ25) fun v28 =>
 E JQ [v28,(.int .i64 n23)] τ25 (cI Q .i64 fun n31 τ30 =>
 (EG E Q τ30))) (
 (EG E Q τ19))
def Q4 (E:BP) (Q:RK) (x0:Nat) (x1:Int) (σ:AHeap):Prop :=
 om (L x0 0 σ) fun v3 =>
 om (AG 1 v3 (.int .i64 x1)) fun v5 =>
 A3 .u8 (AD false 1 v5 σ) fun n6 =>
 Bi (wu8 (n6 - 1)) fun n7 =>
 om (AG 1 v3 (.int .i64 x1)) fun v8 =>
 pu (AN 1 v8 (.int .u8 n7) σ) fun τ9 =>
 om (L x0 0 τ9) fun v12 =>
 om (AG 1 v12 (.int .i64 x1)) fun v14 =>
 A3 .u8 (AD false 1 v14 τ9) fun n15 =>
 If (decide (n15=0)) (
 om (L x0 2 τ9) fun v16 =>
 om (AG 1 v16 (.int .i64 x1)) fun v17 =>
 DJ (AD false 1 v17 τ9) fun c18 =>
 (F9 E Q c18 x0 x1 τ9)) (
 (F9 E Q false x0 x1 τ9))
theorem Z9 {Q:RK} {x0:Nat} {x1:Int} {σ:AHeap} (h:Q4 E Q x0 x1 σ):E QI [(.pointer (some ⟨x0,0,none⟩)),(.int .i64 x1)] σ Q :=
 BT Tryz.func87 (fun _=>none) (fun _=>.v) (by kernel_rfl) (Eq.mpr (by kernel_rfl) h)
def SE (E:BP) (Q:RK) (x0:Nat) (x1:Int) (σ:AHeap):Prop :=
 E IE [(.pointer (some ⟨x0,0,none⟩)),(.int .i64 x1),(.func (.func QD) #[] #[])] σ (cI Q .i64 fun n5 τ4 =>
 Q (.ret (.int .i64 n5)) τ4)
theorem cP {Q:RK} {x0:Nat} {x1:Int} {σ:AHeap} (h:SE E Q x0 x1 σ):E FB [(.pointer (some ⟨x0,0,none⟩)),(.int .i64 x1)] σ Q :=
 BT Tryz.func30 (fun _=>none) (fun _=>.v) (by kernel_rfl) (Eq.mpr (by kernel_rfl) h)
def SG (E:BP) (Q:RK) (x0:Nat) (x1:Int) (σ:AHeap):Prop :=
 E IE [(.pointer (some ⟨x0,0,none⟩)),(.int .i64 x1),(.func (.func QI) #[] #[])] σ (cI Q .i64 fun n5 τ4 =>
 If (decide (n5=0)) (
 om (L x0 0 τ4) fun v9 =>
 om (AG 1 v9 (.int .i64 x1)) fun v11 =>
 A3 .u8 (AD false 1 v11 τ4) fun n12 =>
 Q (.ret (.tuple #[(.bool (decide (n12=0))),(.int .i64 n5)])) τ4) (
 Q (.ret (.tuple #[(.bool false),(.int .i64 n5)])) τ4))
theorem cQ {Q:RK} {x0:Nat} {x1:Int} {σ:AHeap} (h:SG E Q x0 x1 σ):E DI [(.pointer (some ⟨x0,0,none⟩)),(.int .i64 x1)] σ Q :=
 BT Tryz.func29 (fun _=>none) (fun _=>.v) (by kernel_rfl) (Eq.mpr (by kernel_rfl) h)
def FS (E:BP) (Q:RK) (c6:Bool) (b8:Nat) (n12:Int) (τ5:AHeap):Prop :=
 If c6 (
 Q (.ret (.int .i64 0)) τ5) (
 om (L b8 0 τ5) fun v10 =>
 om (AG 1 v10 (.int .i64 n12)) fun v14 =>
 A3 .u8 (AD false 1 v14 τ5) fun n15 =>
 Bi (F3 (n15)) fun n16 =>
 Q (.ret (.int .i64 n16)) τ5)
def O1 (E:BP) (Q:RK) (x0:Nat) (x1:Int) (σ:AHeap):Prop :=
 E CT [(.pointer (some ⟨x0,0,none⟩))] σ (cB Q fun c4 τ3 =>
 If (!c4) (
 (FS E Q true x0 x1 τ3)) (
 If (decide (x1<0)) (
 (FS E Q true x0 x1 τ3)) (
 om (L x0 0 τ3) fun v17 =>
 A3 .i64 (BJ v17) fun n18 =>
 (FS E Q (decide (n18≤x1)) x0 x1 τ3))))
theorem ZD {Q:RK} {x0:Nat} {x1:Int} {σ:AHeap} (h:O1 E Q x0 x1 σ):E HM [(.pointer (some ⟨x0,0,none⟩)),(.int .i64 x1)] σ Q :=
 BT Tryz.func22 (fun _=>none) (fun _=>.v) (by kernel_rfl) (Eq.mpr (by kernel_rfl) h)
def PB (E:BP) (Q:RK) (x0:Nat) (x1:Int) (σ:AHeap):Prop :=
 E CT [(.pointer (some ⟨x0,0,none⟩))] σ (cB Q fun c4 τ3 =>
 If c4 (
 If (decide (0≤x1)) (
 om (L x0 0 τ3) fun v6 =>
 A3 .i64 (BJ v6) fun n7 =>
 If (decide (x1<n7)) (
 om (L x0 2 τ3) fun v8 =>
 om (AG 1 v8 (.int .i64 x1)) fun v9 =>
 DJ (AD false 1 v9 τ3) fun c10 =>
 Q (.ret (.bool c10)) τ3) (
 Q (.ret (.bool false)) τ3)) (
 Q (.ret (.bool false)) τ3)) (
 Q (.ret (.bool false)) τ3))
theorem Y1 {Q:RK} {x0:Nat} {x1:Int} {σ:AHeap} (h:PB E Q x0 x1 σ):E J1 [(.pointer (some ⟨x0,0,none⟩)),(.int .i64 x1)] σ Q :=
 BT Tryz.func21 (fun _=>none) (fun _=>.v) (by kernel_rfl) (Eq.mpr (by kernel_rfl) h)
def QN (E:BP) (Q:RK) (x0:Nat) (σ:AHeap):Prop :=
 E CT [(.pointer (some ⟨x0,0,none⟩))] σ (cB Q fun c4 τ3 =>
 If (!c4) (
 Q (.ret (.int .i64 0)) τ3) (
 om (L x0 3 τ3) fun v10 =>
 E J3 [v10] τ3 (cI Q .i64 fun n12 τ11 =>
 Q (.ret (.int .i64 n12)) τ11)))
theorem Z6 {Q:RK} {x0:Nat} {σ:AHeap} (h:QN E Q x0 σ):E GI [(.pointer (some ⟨x0,0,none⟩))] σ Q :=
 BT Tryz.func38 (fun _=>none) (fun _=>.v) (by kernel_rfl) (Eq.mpr (by kernel_rfl) h)
def OB (E:BP) (Q:RK) (x0:Nat) (σ:AHeap):Prop :=
 E CT [(.pointer (some ⟨x0,0,none⟩))] σ (cB Q fun c4 τ3 =>
 If (!c4) (
 Q (.ret (.int .i64 2)) τ3) (
 E GW [(.pointer (some ⟨x0,0,none⟩))] τ3 (c0 Q fun τ10 =>
 Q (.ret (.int .i64 0)) τ10)))
theorem W1 {Q:RK} {x0:Nat} {σ:AHeap} (h:OB E Q x0 σ):E EW [(.pointer (some ⟨x0,0,none⟩))] σ Q :=
 BT Tryz.func31 (fun _=>none) (fun _=>.v) (by kernel_rfl) (Eq.mpr (by kernel_rfl) h)
def WR (N1:Int→AHeap→Prop) (E:BP) (Q:RK) (b17:Nat) (n19 n14:Int) (τ20:AHeap):Prop :=
 If (decide (n14<n19)) (
 om (L b17 0 τ20) fun v30 =>
 om (AG 1 v30 (.int .i64 n14)) fun v32 =>
 pu (AN 1 v32 (.bool true) τ20) fun τ33 =>
 om (L b17 2 τ33) fun v36 =>
 BB τ33 (.cells [(.int .i64 n14)] DN false) fun b38 τ39 =>
 pu (BN DN 1 8 v36 (.slice (some ⟨b38,0,none⟩) 1 1) τ39) fun r40 =>
 St b17 2 r40.1 r40.2 fun τ41 =>
 Bi (F3 (n14+1)) fun n46 =>
 N1 n46 τ41) (
 E TD [(.iface C9 (.pointer (some ⟨b17,2,none⟩)))] τ20 (c0 Q fun τ50 =>
 Q (.ret (.tuple #[(.pointer (some ⟨b17,0,none⟩)),(.int .i64 0)])) τ50))
def PN (E:BP) (Q:RK) (c4:Bool) (n6:Int) (τ3:AHeap):Prop :=
 If c4 (
 Q (.ret (.tuple #[(.pointer none),(.int .i64 1)])) τ3) (
 pu (OU CG 1 [(.bool false)] (.int .i64 n6) (.int .i64 n6) τ3) fun r8 =>
 On r8.1 (
 BB r8.2 (.cells [r8.1,(.int .i64 n6),(.slice none 0 0),(.bool true)] EM false) fun b9 τ10 =>
 ∃ I53:Nat→Int→AHeap→Prop,(∃ m,I53 m 0 τ10) ∧
 ∀ m (n14:Int) (σ':AHeap),I53 m n14 σ'→(WR (fun n14 σ'=>∃ m',m'<m∧I53 m' n14 σ') E Q b9 n6 n14 σ')))
def eO (E:BP) (Q:RK) (x0:Int) (σ:AHeap):Prop :=
 If (decide (x0<0)) (
 (PN E Q true x0 σ)) (
 (PN E Q (decide (1024<x0)) x0 σ))
theorem qM {Q:RK} {x0:Int} {σ:AHeap} (h:eO E Q x0 σ):E XU [(.int .i64 x0)] σ Q :=
 BT Tryz.func143 (hl [(2,.loopr [4,17] [18] [4] [4,18])]) (fun | 18=>(.i .i64) | _=>.v) (by kernel_rfl) (Eq.mpr (by kernel_rfl) h)
def OC (E:BP) (Q:RK) (x0:Nat) (σ:AHeap):Prop :=
 DJ (L x0 3 σ) fun c3 =>
 Q (.ret (.bool c3)) σ
theorem W7 {Q:RK} {x0:Nat} {σ:AHeap} (h:OC E Q x0 σ):E EZ [(.pointer (some ⟨x0,0,none⟩))] σ Q :=
 BT Tryz.func128 (fun _=>none) (fun _=>.v) (by kernel_rfl) (Eq.mpr (by kernel_rfl) h)
def L4 (N1:AHeap→Prop) (E:BP) (Q:RK) (b10:Nat) (τ11:AHeap):Prop :=
 om (L b10 2 τ11) fun v12 =>
 A3 .i64 (BJ v12) fun n13 =>
 If (decide (0<n13)) (
 E KT [(.iface C9 (.pointer (some ⟨b10,2,none⟩)))] τ11 (cV Q fun v20 τ19 =>
 A3 .i64 (HH P DN false v20) fun n21 =>
 om (L b10 0 τ19) fun v24 =>
 om (AG 1 v24 (.int .i64 n21)) fun v26 =>
 DJ (AD false 1 v26 τ19) fun c27 =>
 If c27 (
 om (L b10 0 τ19) fun v31 =>
 om (AG 1 v31 (.int .i64 n21)) fun v33 =>
 pu (AN 1 v33 (.bool false) τ19) fun τ34 =>
 A3 .i64 (L b10 1 τ34) fun n37 =>
 Bi (F3 (n37 - 1)) fun n38 =>
 St b10 1 (.int .i64 n38) τ34 fun τ39 =>
 Q (.ret (.tuple #[(.int .i64 n21),(.int .i64 0)])) τ39) (
 N1 τ19))) (
 Q (.ret (.tuple #[(.int .i64 0),(.int .i64 8)])) τ11)
def O7 (E:BP) (Q:RK) (x0:Nat) (σ:AHeap):Prop :=
 E EZ [(.pointer (some ⟨x0,0,none⟩))] σ (cB Q fun c4 τ3 =>
 If (!c4) (
 Q (.ret (.tuple #[(.int .i64 0),(.int .i64 2)])) τ3) (
 ∃ I44:Nat→AHeap→Prop,(∃ m,I44 m τ3) ∧
 ∀ m (σ':AHeap),I44 m  σ'→(L4 (fun  σ'=>∃ m',m'<m∧I44 m'  σ') E Q x0  σ')))
theorem Y8 {Q:RK} {x0:Nat} {σ:AHeap} (h:O7 E Q x0 σ):E J6 [(.pointer (some ⟨x0,0,none⟩))] σ Q :=
 BT Tryz.func71 (hl [(2,.loopr [0] [] [2,3] [2,3])]) (fun _=>.v) (by kernel_rfl) (Eq.mpr (by kernel_rfl) h)
def H6 (E:BP) (Q:RK) (c10:Bool) (v14:Value) (b17:Nat) (n19:Int) (τ9:AHeap):Prop :=
 If c10 (
 Q (.ret (.int .i64 1)) τ9) (
 wF v14 fun g23 a24 c25 =>
 E g23 (a24++[(.pointer (some ⟨b17,0,none⟩)),(.int .i64 n19)]++c25) τ9 (cI Q .i64 fun n22 τ21 =>
 Q (.ret (.int .i64 n22)) τ21))
def PE (E:BP) (Q:RK) (x0:Nat) (x1:Int) (x2:Value) (σ:AHeap):Prop :=
 E EZ [(.pointer (some ⟨x0,0,none⟩))] σ (cB Q fun c4 τ3 =>
 If (!c4) (
 Q (.ret (.int .i64 2)) τ3) (
 If (decide (x1<0)) (
 (H6 E Q true x2 x0 x1 τ3)) (
 om (L x0 0 τ3) fun v26 =>
 A3 .i64 (BJ v26) fun n27 =>
 (H6 E Q (decide (n27≤x1)) x2 x0 x1 τ3))))
theorem YQ {Q:RK} {x0:Nat} {x1:Int} {x2:Value} {σ:AHeap} (h:PE E Q x0 x1 x2 σ):E HF [(.pointer (some ⟨x0,0,none⟩)),(.int .i64 x1),x2] σ Q :=
 BT Tryz.func174 (fun _=>none) (fun _=>.v) (by kernel_rfl) (Eq.mpr (by kernel_rfl) h)
def N3 (E:BP) (Q:RK) (x0:Nat) (x1:Int) (σ:AHeap):Prop :=
 om (L x0 0 σ) fun v3 =>
 om (AG 1 v3 (.int .i64 x1)) fun v5 =>
 DJ (AD false 1 v5 σ) fun c6 =>
 If (!c6) (
 Q (.ret (.int .i64 6)) σ) (
 om (L x0 0 σ) fun v12 =>
 om (AG 1 v12 (.int .i64 x1)) fun v15 =>
 pu (AN 1 v15 (.bool false) σ) fun τ16 =>
 A3 .i64 (L x0 1 τ16) fun n19 =>
 Bi (F3 (n19 - 1)) fun n20 =>
 St x0 1 (.int .i64 n20) τ16 fun τ21 =>
 Q (.ret (.int .i64 0)) τ21)
theorem XL {Q:RK} {x0:Nat} {x1:Int} {σ:AHeap} (h:N3 E Q x0 x1 σ):E N6 [(.pointer (some ⟨x0,0,none⟩)),(.int .i64 x1)] σ Q :=
 BT Tryz.func177 (fun _=>none) (fun _=>.v) (by kernel_rfl) (Eq.mpr (by kernel_rfl) h)
def FO (E:BP) (Q:RK) (τ34:AHeap):Prop :=
 Q (.ret (.int .i64 0)) τ34
def OW (E:BP) (Q:RK) (x0:Nat) (x1:Int) (σ:AHeap):Prop :=
 om (L x0 0 σ) fun v3 =>
 om (AG 1 v3 (.int .i64 x1)) fun v5 =>
 DJ (AD false 1 v5 σ) fun c6 =>
 If c6 (
 Q (.ret (.int .i64 7)) σ) (
 om (L x0 0 σ) fun v12 =>
 om (AG 1 v12 (.int .i64 x1)) fun v15 =>
 pu (AN 1 v15 (.bool true) σ) fun τ16 =>
 A3 .i64 (L x0 1 τ16) fun n19 =>
 Bi (F3 (n19+1)) fun n20 =>
 St x0 1 (.int .i64 n20) τ16 fun τ21 =>
 om (L x0 2 τ21) fun v24 =>
 E C7 [v24,(.int .i64 x1)] τ21 (cB Q fun c28 τ27 =>
 If (!c28) (
 E I9 [(.iface C9 (.pointer (some ⟨x0,2,none⟩))),(.iface DN (.int .i64 x1))] τ27 (c0 Q fun τ33 =>
 (FO E Q τ33))) (
 (FO E Q τ27))))
theorem ZG {Q:RK} {x0:Nat} {x1:Int} {σ:AHeap} (h:OW E Q x0 x1 σ):E ON [(.pointer (some ⟨x0,0,none⟩)),(.int .i64 x1)] σ Q :=
 BT Tryz.func175 (fun _=>none) (fun _=>.v) (by kernel_rfl) (Eq.mpr (by kernel_rfl) h)
def NT (E:BP) (Q:RK) (x0:Nat) (x1:Int) (σ:AHeap):Prop :=
 E HF [(.pointer (some ⟨x0,0,none⟩)),(.int .i64 x1),(.func (.func N6) #[] #[])] σ (cI Q .i64 fun n5 τ4 =>
 Q (.ret (.int .i64 n5)) τ4)
theorem XV {Q:RK} {x0:Nat} {x1:Int} {σ:AHeap} (h:NT E Q x0 x1 σ):E I4 [(.pointer (some ⟨x0,0,none⟩)),(.int .i64 x1)] σ Q :=
 BT Tryz.func144 (fun _=>none) (fun _=>.v) (by kernel_rfl) (Eq.mpr (by kernel_rfl) h)
def OT (E:BP) (Q:RK) (x0:Nat) (x1:Int) (σ:AHeap):Prop :=
 E HF [(.pointer (some ⟨x0,0,none⟩)),(.int .i64 x1),(.func (.func ON) #[] #[])] σ (cI Q .i64 fun n5 τ4 =>
 Q (.ret (.int .i64 n5)) τ4)
theorem YH {Q:RK} {x0:Nat} {x1:Int} {σ:AHeap} (h:OT E Q x0 x1 σ):E JQ [(.pointer (some ⟨x0,0,none⟩)),(.int .i64 x1)] σ Q :=
 BT Tryz.func142 (fun _=>none) (fun _=>.v) (by kernel_rfl) (Eq.mpr (by kernel_rfl) h)
def O3 (E:BP) (Q:RK) (x0:Nat) (σ:AHeap):Prop :=
 E EZ [(.pointer (some ⟨x0,0,none⟩))] σ (cB Q fun c4 τ3 =>
 If (!c4) (
 Q (.ret (.int .i64 0)) τ3) (
 A3 .i64 (L x0 1 τ3) fun n10 =>
 Q (.ret (.int .i64 n10)) τ3))
theorem ZI {Q:RK} {x0:Nat} {σ:AHeap} (h:O3 E Q x0 σ):E J3 [(.pointer (some ⟨x0,0,none⟩))] σ Q :=
 BT Tryz.func100 (fun _=>none) (fun _=>.v) (by kernel_rfl) (Eq.mpr (by kernel_rfl) h)
def RC (E:BP) (Q:RK) (x0:Value) (σ:AHeap):Prop :=
 A3 .i64 (BJ x0) fun n3 =>
 Q (.ret (.int .i64 n3)) σ
theorem Z4 {Q:RK} {x0:Value} {σ:AHeap} (h:RC E Q x0 σ):E K3 [x0] σ Q :=
 BT Tryz.func217 (fun _=>none) (fun _=>.v) (by kernel_rfl) (Eq.mpr (by kernel_rfl) h)
def PH (E:BP) (Q:RK) (x0:Value) (x1 x2:Int) (σ:AHeap):Prop :=
 om (AG 1 x0 (.int .i64 x1)) fun v4 =>
 A3 .i64 (AD false 1 v4 σ) fun n5 =>
 om (AG 1 x0 (.int .i64 x2)) fun v7 =>
 A3 .i64 (AD false 1 v7 σ) fun n8 =>
 Q (.ret (.bool (decide (n5<n8)))) σ
theorem YF {Q:RK} {x0:Value} {x1 x2:Int} {σ:AHeap} (h:PH E Q x0 x1 x2 σ):E JS [x0,(.int .i64 x1),(.int .i64 x2)] σ Q :=
 BT Tryz.func218 (hl [(0,.ord (il 0 10))]) (fun _=>.v) (by kernel_rfl) (Eq.mpr (by kernel_rfl) h)
def PF (E:BP) (Q:RK) (x0:Value) (x1 x2:Int) (σ:AHeap):Prop :=
 om (AG 1 x0 (.int .i64 x2)) fun v1 =>
 A3 .i64 (AD false 1 v1 σ) fun n2 =>
 om (AG 1 x0 (.int .i64 x1)) fun v3 =>
 A3 .i64 (AD false 1 v3 σ) fun n4 =>
 om (AG 1 x0 (.int .i64 x1)) fun v5 =>
 pu (AN 1 v5 (.int .i64 n2) σ) fun τ6 =>
 om (AG 1 x0 (.int .i64 x2)) fun v7 =>
 pu (AN 1 v7 (.int .i64 n4) τ6) fun τ8 =>
 Q (.ret (.tuple #[])) τ8
theorem ZQ {Q:RK} {x0:Value} {x1 x2:Int} {σ:AHeap} (h:PF E Q x0 x1 x2 σ):E JK [x0,(.int .i64 x1),(.int .i64 x2)] σ Q :=
 BT Tryz.func219 (hl [(0,.ord (il 0 16))]) (fun _=>.v) (by kernel_rfl) (Eq.mpr (by kernel_rfl) h)
def PA (E:BP) (Q:RK) (x0 o0:Nat) (x1:Value) (σ:AHeap):Prop :=
 om (L x0 o0 σ) fun v1 =>
 A3 .i64 (HH P DN false x1) fun n2 =>
 BB σ (.cells [(.int .i64 n2)] DN false) fun b3 τ4 =>
 om (L x0 o0 τ4) fun v5 =>
 AQ v5 v1=true ∧
 pu (BN DN 1 8 v1 (.slice (some ⟨b3,0,none⟩) 1 1) τ4) fun r6 =>
 St x0 o0 r6.1 r6.2 fun τ7 =>
 Q (.ret (.tuple #[])) τ7
theorem YA {Q:RK} {x0 o0:Nat} {x1:Value} {σ:AHeap} (h:PA E Q x0 o0 x1 σ):E JX [(.pointer (some ⟨x0,o0,none⟩)),x1] σ Q :=
 BT Tryz.func221 (hl [(0,.ord (il 0 6++[(6,[3]),(7,[]),(8,[]),(9,[])]))]) (fun _=>.v) (by kernel_rfl) (Eq.mpr (by kernel_rfl) h)
def P8 (E:BP) (Q:RK) (x0 o0:Nat) (σ:AHeap):Prop :=
 om (L x0 o0 σ) fun v4 =>
 A3 .i64 (BJ v4) fun n5 =>
 Bi (F3 (n5 - 1)) fun n6 =>
 om (L x0 o0 σ) fun v10 =>
 om (AG 1 v10 (.int .i64 n6)) fun v12 =>
 A3 .i64 (AD false 1 v12 σ) fun n13 =>
 om (L x0 o0 σ) fun v17 =>
 om (AY 1 v17 none (some (.int .i64 n6)) none) fun v19 =>
 St x0 o0 v19 σ fun τ20 =>
 Q (.ret (.iface DN (.int .i64 n13))) τ20
theorem aQ {Q:RK} {x0 o0:Nat} {σ:AHeap} (h:P8 E Q x0 o0 σ):E LL [(.pointer (some ⟨x0,o0,none⟩))] σ Q :=
 BT Tryz.func220 (fun _=>none) (fun _=>.v) (by kernel_rfl) (Eq.mpr (by kernel_rfl) h)
def UO (N1:Int→AHeap→Prop) (E:BP) (Q:RK) (v11:Value) (n13 n8:Int) (τ14:AHeap):Prop :=
 If (decide (0≤n8)) (
 E GK [v11,(.int .i64 n8),(.int .i64 n13)] τ14 (cB Q fun c25 τ24 =>
 Bi (F3 (n8 - 1)) fun n28 =>
 N1 n28 τ24)) (
 Q (.ret (.tuple #[])) τ14)
def bM (E:BP) (Q:RK) (x0:Value) (σ:AHeap):Prop :=
 pu (BR P x0 "Len" σ) fun r31 =>
 E r31.1 (r31.2::[]) σ (cI Q .i64 fun n2 τ1 =>
 Bi (F3 (Int.tdiv n2 2)) fun n5 =>
 Bi (F3 (n5 - 1)) fun n6 =>
 ∃ I29:Nat→Int→AHeap→Prop,(∃ m,I29 m n6 τ1) ∧
 ∀ m (n8:Int) (σ':AHeap),I29 m n8 σ'→(UO (fun n8 σ'=>∃ m',m'<m∧I29 m' n8 σ') E Q x0 n2 n8 σ'))
theorem m8 {Q:RK} {x0:Value} {σ:AHeap} (h:bM E Q x0 σ):E TD [x0] σ Q :=
 BT Tryz.func176 (hl [(1,.loopr [0,2] [3] [] [3])]) (fun | 3=>(.i .i64) | _=>.v) (by kernel_rfl) (Eq.mpr (by kernel_rfl) h)
def dP (E:BP) (Q:RK) (x0:Value) (σ:AHeap):Prop :=
 pu (BR P x0 "Len" σ) fun r21 =>
 E r21.1 (r21.2::[]) σ (cI Q .i64 fun n4 τ3 =>
 Bi (F3 (n4 - 1)) fun n5 =>
 pu (BR P x0 "Swap" τ3) fun r20 =>
 E r20.1 (r20.2::[(.int .i64 0),(.int .i64 n5)]) τ3 (c0 Q fun τ9 =>
 E GK [x0,(.int .i64 0),(.int .i64 n5)] τ9 (cB Q fun c14 τ13 =>
 pu (BR P x0 "Pop" τ13) fun r19 =>
 E r19.1 (r19.2::[]) τ13 (cV Q fun v18 τ17 =>
 Q (.ret v18) τ17))))
theorem qD {Q:RK} {x0:Value} {σ:AHeap} (h:dP E Q x0 σ):E KT [x0] σ Q :=
 BT Tryz.func129 (fun _=>none) (fun _=>.v) (by kernel_rfl) (Eq.mpr (by kernel_rfl) h)
def bS (E:BP) (Q:RK) (x0 x1:Value) (σ:AHeap):Prop :=
 pu (BR P x0 "Push" σ) fun r9 =>
 E r9.1 (r9.2::[x1]) σ (c0 Q fun τ1 =>
 pu (BR P x0 "Len" τ1) fun r8 =>
 E r8.1 (r8.2::[]) τ1 (cI Q .i64 fun n5 τ4 =>
 Bi (F3 (n5 - 1)) fun n6 =>
 E K2 [x0,(.int .i64 n6)] τ4 (c0 Q fun τ7 =>
 Q (.ret (.tuple #[])) τ7)))
theorem oH {Q:RK} {x0 x1:Value} {σ:AHeap} (h:bS E Q x0 x1 σ):E I9 [x0,x1] σ Q :=
 BT Tryz.func160 (fun _=>none) (fun _=>.v) (by kernel_rfl) (Eq.mpr (by kernel_rfl) h)
def J9 (E:BP) (Q:RK) (n26 n27:Int) (τ25:AHeap):Prop :=
 Q (.ret (.bool (decide (n27<n26)))) τ25
def IX (N1:Int→AHeap→Prop) (E:BP) (Q:RK) (v53:Value) (n54 n59 n68:Int) (τ51:AHeap):Prop :=
 pu (BR P v53 "Less" τ51) fun r83 =>
 E r83.1 (r83.2::[(.int .i64 n54),(.int .i64 n59)]) τ51 (cB Q fun c61 τ60 =>
 If (!c61) (
 (J9 E Q n59 n68 τ60)) (
 pu (BR P v53 "Swap" τ60) fun r82 =>
 E r82.1 (r82.2::[(.int .i64 n59),(.int .i64 n54)]) τ60 (c0 Q fun τ77 =>
 N1 n54 τ77)))
def JJ (N1:Int→AHeap→Prop) (E:BP) (Q:RK) (c49:Bool) (n50:Int) (v52:Value) (n58 n67 n86:Int) (τ48:AHeap):Prop :=
 If c49 (
 (IX N1 E Q v52 n50 n58 n67 τ48)) (
 (IX N1 E Q v52 n86 n58 n67 τ48))
def JI (N1:Int→AHeap→Prop) (E:BP) (Q:RK) (c20:Bool) (n22 n24 n29 n36:Int) (v41:Value) (τ19:AHeap):Prop :=
 If c20 (
 (J9 E Q n24 n22 τ19)) (
 Bi (F3 (n29+1)) fun n33 =>
 If (decide (n33<n36)) (
 pu (BR P v41 "Less" τ19) fun r87 =>
 E r87.1 (r87.2::[(.int .i64 n33),(.int .i64 n29)]) τ19 (cB Q fun c47 τ46 =>
 (JJ N1 E Q c47 n33 v41 n24 n22 n29 τ46))) (
 (JJ N1 E Q false n33 v41 n24 n22 n29 τ19)))
def UB (N1:Int→AHeap→Prop) (E:BP) (Q:RK) (v7:Value) (n9 n12 n4:Int) (τ13:AHeap):Prop :=
 Bi (F3 (2*n4)) fun n14 =>
 Bi (F3 (n14+1)) fun n15 =>
 If (decide (n12≤n15)) (
 (JI N1 E Q true n9 n4 n15 n12 v7 τ13)) (
 (JI N1 E Q (decide (n15<0)) n9 n4 n15 n12 v7 τ13))
def cC (E:BP) (Q:RK) (x0:Value) (x1 x2:Int) (σ:AHeap):Prop :=
 ∃ I88:Nat→Int→AHeap→Prop,(∃ m,I88 m x1 σ) ∧
 ∀ m (n4:Int) (σ':AHeap),I88 m n4 σ'→(UB (fun n4 σ'=>∃ m',m'<m∧I88 m' n4 σ') E Q x0 x1 x2 n4 σ')
theorem mV {Q:RK} {x0:Value} {x1 x2:Int} {σ:AHeap} (h:cC E Q x0 x1 x2 σ):E GK [x0,(.int .i64 x1),(.int .i64 x2)] σ Q :=
 BT Tryz.func165 (hl [(1,.loopr [0,1,2] [7] [1,7] [1,7])]) (fun | 7=>(.i .i64) | _=>.v) (by kernel_rfl) (Eq.mpr (by kernel_rfl) h)
def NJ (N1:Int→AHeap→Prop) (E:BP) (Q:RK) (c10:Bool) (n11:Int) (v14:Value) (n16:Int) (τ9:AHeap):Prop :=
 If c10 (
 Q (.ret (.tuple #[])) τ9) (
 pu (BR P v14 "Swap" τ9) fun r22 =>
 E r22.1 (r22.2::[(.int .i64 n16),(.int .i64 n11)]) τ9 (c0 Q fun τ19 =>
 N1 n16 τ19))
def X8 (N1:Int→AHeap→Prop) (E:BP) (Q:RK) (v2:Value) (n1:Int) (τ3:AHeap):Prop :=
 Bi (F3 (n1 - 1)) fun n4 =>
 Bi (F3 (Int.tdiv n4 2)) fun n5 =>
 If (decide (n5=n1)) (
 (NJ N1 E Q true n1 v2 n5 τ3)) (
 pu (BR P v2 "Less" τ3) fun r25 =>
 E r25.1 (r25.2::[(.int .i64 n1),(.int .i64 n5)]) τ3 (cB Q fun c24 τ23 =>
 (NJ N1 E Q (!c24) n1 v2 n5 τ23)))
def jE (E:BP) (Q:RK) (x0:Value) (x1:Int) (σ:AHeap):Prop :=
 ∃ I26:Nat→Int→AHeap→Prop,(∃ m,I26 m x1 σ) ∧
 ∀ m (n1:Int) (σ':AHeap),I26 m n1 σ'→(X8 (fun n1 σ'=>∃ m',m'<m∧I26 m' n1 σ') E Q x0 n1 σ')
theorem uA {Q:RK} {x0:Value} {x1:Int} {σ:AHeap} (h:jE E Q x0 x1 σ):E K2 [x0,(.int .i64 x1)] σ Q :=
 BT Tryz.func186 (hl [(1,.loopr [0] [1] [] [1])]) (fun | 1=>(.i .i64) | _=>.v) (by kernel_rfl) (Eq.mpr (by kernel_rfl) h)
def FN (E:BP) (Q:RK) (x0:Value) (x1:Int) (σ:AHeap):Prop :=
 E GL [x0,(.int .i64 x1)] σ (cI Q .i64 fun n5 τ4 =>
 Q (.ret (.bool (decide (0≤n5)))) τ4)
theorem J4 {Q:RK} {x0:Value} {x1:Int} {σ:AHeap} (h:FN E Q x0 x1 σ):E C7 [x0,(.int .i64 x1)] σ Q :=
 BT Tryz.func189 (fun _=>none) (fun _=>.v) (by kernel_rfl) (Eq.mpr (by kernel_rfl) h)
def FE (N1:Int→AHeap→Prop) (E:BP) (Q:RK) (v7:Value) (n10 n12 n5:Int) (τ13:AHeap):Prop :=
 If (decide (n5<n12)) (
 om (AG 1 v7 (.int .i64 n5)) fun v27 =>
 A3 .i64 (AD false 1 v27 τ13) fun n28 =>
 If (decide (n10=n28)) (
 Q (.ret (.int .i64 n5)) τ13) (
 Bi (F3 (n5+1)) fun n36 =>
 N1 n36 τ13)) (
 Q (.ret (.int .i64 ((-1)))) τ13)
def GN (E:BP) (Q:RK) (x0:Value) (x1:Int) (σ:AHeap):Prop :=
 A3 .i64 (BJ x0) fun n3 =>
 ∃ I38:Nat→Int→AHeap→Prop,(∃ m,I38 m 0 σ) ∧
 ∀ m (n5:Int) (σ':AHeap),I38 m n5 σ'→(FE (fun n5 σ'=>∃ m',m'<m∧I38 m' n5 σ') E Q x0 x1 n3 n5 σ')
theorem MB {Q:RK} {x0:Value} {x1:Int} {σ:AHeap} (h:GN E Q x0 x1 σ):E GL [x0,(.int .i64 x1)] σ Q :=
 BT Tryz.func193 (hl [(1,.loopr [0,1,7] [8] [4] [4,8])]) (fun | 8=>(.i .i64) | _=>.v) (by kernel_rfl) (Eq.mpr (by kernel_rfl) h)
end Go.Ax.C
set_option maxRecDepth 100000
namespace Go.Ax.C
open Go.Proofs Go.RowKit
variable {l r m:List AJ} {σ:AHeap} {Q:RK}
def nv (xs:List Nat):List Value:=xs.map fun n=>.int .i64 (n:Nat)
@[simp] theorem AEj (xs:List Nat):(nv xs).length=xs.length:=by simp [nv]
theorem ACO (xs:List Nat) (i:Nat):(nv xs)[i]?=xs[i]?.map fun n=>.int .i64 (n:Nat):=by simp [nv]
theorem ACH (xs:List Nat) (i n:Nat):nv (xs.set i n)=(nv xs).set i (.int .i64 (n:Nat)):=by simp [nv,List.map_set]
theorem nel {e:Nat} {v:Value} {xs:List Nat} {i x:Nat} (h:H (A5 e 1 v xs.length (nv xs)::l) σ) (hi:xs[i]?=some x) :
 ∃ b c,v=.slice (some ⟨b,0,none⟩) xs.length c∧(∀ kd,AG 1 v (.int kd (i:Nat))=some (.pointer (some ⟨b,i,none⟩)))∧AD false 1 (.pointer (some ⟨b,i,none⟩)) σ=some (.int .i64 x):=by
 have hlt:=(List.getElem?_eq_some_iff.1 hi).1
 rcases EX.1 h with ⟨⟨h0,_⟩,_⟩ | ⟨b,c,opn,rest,h1,h2,h3,rfl,h4,h5⟩
 ·omega
 ·refine ⟨b,c,rfl,fun kd=>by rw [TG (by omega)]; simp,?_⟩
  rw [BK (h1.row 0 rfl),List.getElem?_append_left (by simpa using hlt),ACO,hi]; rfl
theorem wN {hv:Value} {xs:List Nat} {i j x y:Nat} (h:H (A5 DN 1 hv xs.length (nv xs)::l) σ) (hi:xs[i]?=some x) (hj:xs[j]?=some y) (hQ:Q (.ret (.bool (decide (x<y)))) σ):E JS [hv,.int .i64 i,.int .i64 j] σ Q:=by
 apply YF; unfold PH
 obtain ⟨b,c,hvv,ia,la⟩:=nel h hi
 obtain ⟨b2,c2,hvv2,ib,lb⟩:=nel h hj
 rw [ia,AF,la,AH,ib,AF,lb,AH]
 have e:decide ((x:Int)<(y:Int))=decide (x<y):=by by_cases g:x<y<;>simp [g]
 rw [e]; exact hQ
theorem ADT {e:Nat} {v:Value} {xs:List Nat} {i y:Nat} {K:AHeap→Prop} (h:H (A5 e 1 v xs.length (nv xs)::l) σ) (hi:i<xs.length) (hK:∀ σ',H (A5 e 1 v (xs.set i y).length (nv (xs.set i y))::l) σ'→K σ') :
 om (AG 1 v (.int .i64 (i:Nat))) fun p=>pu (AN 1 p (.int .i64 (y:Nat)) σ) K:=by
 obtain ⟨b,c,rfl,ia,_⟩:=nel h (List.getElem?_eq_getElem hi)
 rw [ia,AF]
 refine NN h 0 rfl (by omega) rfl (by simpa using hi) ?_
 intro σ' h'
 rw [List.set_cons_zero,← ACH] at h'
 refine hK σ' ?_
 rw [List.length_set]; exact h'
theorem wO {hv:Value} {xs:List Nat} {i j:Nat} (h:H (A5 DN 1 hv xs.length (nv xs)::l) σ) (hi:i<xs.length) (hj:j<xs.length)
 (hQ:∀ σ',H (A5 DN 1 hv xs.length (nv (dN xs i j))::l) σ'→Q (.ret (.tuple #[])) σ'):E JK [hv,.int .i64 i,.int .i64 j] σ Q:=by
 apply ZQ; unfold PF
 obtain ⟨b,c,hvv,ia,la⟩:=nel h (List.getElem?_eq_getElem hi)
 obtain ⟨b2,c2,hvv2,ib,lb⟩:=nel h (List.getElem?_eq_getElem hj)
 rw [ib,AF,lb,AH,ia,AF,la,AH,← ia .i64,← ib .i64]
 refine ADT h hi ?_
 intro σ1 h1
 refine ADT h1 (by simpa using hj) ?_
 intro σ2 h2
 refine hQ σ2 ?_
 rw [qE hi hj]
 simpa using h2
theorem rM (v:Value) (σ:AHeap):BR P (.iface C9 v) "Len" σ=(AD false 1 v σ).bind fun u=>some (K3,u):=by kernel_rfl
theorem lN (v:Value) (σ:AHeap):BR P (.iface C9 v) "Less" σ=(AD false 1 v σ).bind fun u=>some (JS,u):=by kernel_rfl
theorem lL (v:Value) (σ:AHeap):BR P (.iface C9 v) "Swap" σ=(AD false 1 v σ).bind fun u=>some (JK,u):=by kernel_rfl
theorem ACm (v:Value) (σ:AHeap):BR P (.iface C9 v) "Pop" σ=some (LL,v):=by kernel_rfl
theorem ABB (v:Value) (σ:AHeap):BR P (.iface C9 v) "Push" σ=some (JX,v):=by kernel_rfl
abbrev TC (sb:Nat) (isv cnt hv q:Value) (xs:List Nat) (l:List AJ):List AJ:=pt sb (.cells [isv,cnt,hv,q] EM false)::A5 DN 1 hv xs.length (nv xs)::l
theorem HE {e z:Nat} {v:Value} {n:Nat} {xs:List Value} (h:H (A5 e z v n xs::l) σ):BJ v=some (.int .i64 n):=by
 obtain ⟨_,_,a,c,rfl⟩:=h.own_src 0 rfl; rfl
theorem ACJ {hv:Value} {n:Nat} (h:BJ hv=some (.int .i64 n)) (hQ:Q (.ret (.int .i64 n)) σ):E K3 [hv] σ Q:=by
 apply Z4; unfold RC
 rw [h,AH]; exact hQ
end Go.Ax.C
set_option maxRecDepth 100000
namespace Go.Ax.C
open Go.Proofs Go.RowKit
variable {l r m:List AJ} {σ:AHeap} {Q:RK}
abbrev pL (R:List Nat) (k:Nat):Nat:=Ky (id:Nat→Nat) R k
theorem FF {R:List Nat} {k x:Nat} (h:R[k]?=some x):Ky (id:Nat→Nat) R k=x:=by unfold Ky; rw [h]; rfl
def uE (sb:Nat):Value:=.iface C9 (.pointer (some ⟨sb,2,none⟩))
theorem NG {sb:Nat} {isv cnt hv q:Value} {xs:List Nat} (h:H (TC sb isv cnt hv q xs l) σ):AD false 1 (.pointer (some ⟨sb,2,none⟩)) σ=some hv:=by
 rw [BK (h.row 0 rfl)]; rfl
theorem ABg {sb n i0:Nat} {isv cnt hv q:Value} {R0:List Nat} (h:H (TC sb isv cnt hv q R0 l) σ) (hn:n≤R0.length) (hb:R0.length<1099511627776) (hi0:i0≤n) (hex:JH (id:Nat→Nat) R0 n i0)
 (hk:∀ (R':List Nat) (b:Bool) σ',R'.Perm R0→CR (id:Nat→Nat) R' n→(∀ k,n≤k→R'[k]?=R0[k]?)→H (TC sb isv cnt hv q R' l) σ'→Q (.ret (.bool b)) σ') :
 E GK [uE sb,.int .i64 i0,.int .i64 n] σ Q:=by
 apply mV; unfold cC
 refine ⟨fun m i τ=>∃ (R:List Nat) (k:Nat),i=k∧m=n - k∧k≤n∧R.Perm R0∧JH (id:Nat→Nat) R n k∧(∀ t,n≤t→R[t]?=R0[t]?)∧H (TC sb isv cnt hv q R l) τ,
  ⟨_,R0,i0,rfl,rfl,hi0,List.Perm.refl _,hex,fun _ _=>rfl,h⟩,?_⟩
 clear h hex
 rintro m _ τ ⟨R,i,rfl,rfl,hin,hp,hex,htl,h⟩
 have hRl:=hp.length_eq
 have k5:(∀ k,0<k→k<n→(k - 1) / 2=i→Ky (id:Nat→Nat) R i≤Ky (id:Nat→Nat) R k)→∀ τ',H (TC sb isv cnt hv q R l) τ'→J9 E Q i i0 τ':=by
  intro hmin τ' h'
  unfold J9
  exact hk R _ τ' hp (hex.done hmin) htl h'
 unfold UB
 refine GA (2*(i:Int)) (by omega) ?_
 refine GA ((2*i+1:Nat):Int) (by omega) ?_
 refine AT (fun g=>?_) fun g=>?_
 ·unfold JI
  refine IM rfl ?_
  exact k5 (fun k h0 hk2 hp2=>by omega) τ h
 ·have hlt:decide (((2*i+1:Nat):Int)<0)=false:=decide_eq_false (by omega)
  rw [hlt]
  unfold JI
  refine C8 rfl ?_
  refine GA ((2*i+2:Nat):Int) (by omega) ?_
  have hj1:2*i+1<n:=by omega
  have x1:=List.getElem?_eq_getElem (show 2*i+1<R.length by omega)
  have xi:=List.getElem?_eq_getElem (show i<R.length by omega)
  -- with the SM child
  have k10:∀ j,j<n→(j - 1) / 2=i→0<j→(∀ k,0<k→k<n→(k - 1) / 2=i→Ky (id:Nat→Nat) R j≤Ky (id:Nat→Nat) R k)→IX (fun n4 σ'=>∃ m',m'<n - i∧∃ (R:List Nat) (k:Nat),n4=k∧m'=n - k∧k≤n∧R.Perm R0∧JH (id:Nat→Nat) R n k∧(∀ t,n≤t→R[t]?=R0[t]?)∧H (TC sb isv cnt hv q R l) σ') E Q (uE sb) j i i0 τ:=by
   intro j hjn hpj hj0 hmin
   have xj:=List.getElem?_eq_getElem (show j<R.length by omega)
   unfold IX
   unfold uE
   rw [lN,NG h,Option.bind_some,A4]
   have h':=h.perm (.swap _ _ _)
   refine wN h' xj xi ?_
   rw [E8]
   by_cases hl:R[j]<R[i]
   ·rw [decide_eq_true hl]
    refine C8 rfl ?_
    rw [lL,NG h,Option.bind_some,A4]
    refine wO h' (by omega) (by omega) ?_
    intro τ1 h1
    rw [B5]
    refine ⟨n - j,by omega,dN R i j,j,rfl,rfl,by omega,(TQ R (by omega) (by omega)).trans hp,hex.step (by omega) hjn hpj hj0 hmin (by rw [FF xj,FF xi]; exact hl),fun k hk2=>?_,?_⟩
    ·rw [O8 (by omega) (by omega),if_neg (by omega),if_neg (by omega)]
     exact htl k hk2
    ·have:=h1.perm (.swap _ _ _)
     rw [← I5 R i j] at this
     exact this
   ·rw [decide_eq_false hl]
    refine IM rfl ?_
    refine k5 (fun k h0 hk2 hp2=>?_) τ h
    have:=hmin k h0 hk2 hp2
    rw [FF xj] at this
    rw [FF xi]; omega
  refine AT (fun h2=>?_) (fun h2=>?_)
  ·have h2:2*i+2<n:=by omega
   have x2:=List.getElem?_eq_getElem (show 2*i+2<R.length by omega)
   show pu (BR P (uE sb) "Less" τ) _
   unfold uE
   rw [lN,NG h,Option.bind_some,A4]
   refine wN (h.perm (.swap _ _ _)) x2 x1 ?_
   rw [E8]
   unfold JJ
   refine AT (fun g2=>?_) fun g2=>?_
   ·refine k10 (2*i+2) h2 (by omega) (by omega) ?_
    intro k h0 hk2 hp2
    rcases (show k=2*i+1∨k=2*i+2 by omega) with rfl | rfl
    ·rw [FF x1,FF x2]; omega
    ·exact Nat.le_refl _
   ·refine k10 (2*i+1) hj1 (by omega) (by omega) ?_
    intro k h0 hk2 hp2
    rcases (show k=2*i+1∨k=2*i+2 by omega) with rfl | rfl
    ·exact Nat.le_refl _
    ·rw [FF x1,FF x2]; omega
  ·unfold JJ
   refine C8 rfl ?_
   refine k10 (2*i+1) hj1 (by omega) (by omega) ?_
   intro k h0 hk2 hp2
   have:k=2*i+1:=by omega
   rw [this]; exact Nat.le_refl _
end Go.Ax.C
set_option maxRecDepth 100000
namespace Go.Ax.C
open Go.Proofs Go.RowKit
variable {l r m:List AJ} {σ:AHeap} {Q:RK}
def XQ (R:List Nat) (n j:Nat):Prop:=(∀ k,0<k→k<n→k≠j→pL R ((k - 1) / 2)≤pL R k)∧(∀ k,0<k→k<n→(k - 1) / 2=j→0<j→pL R ((j - 1) / 2)≤pL R k)
theorem XQ.step {R:List Nat} {n j:Nat} (h:XQ R n j) (hn:n≤R.length) (hj:j<n) (hj0:0<j) (hlt:pL R j<pL R ((j - 1) / 2)):XQ (dN R ((j - 1) / 2) j) n ((j - 1) / 2):=by
 obtain ⟨h1,h2⟩:=h
 have hij:(j - 1) / 2<j:=by omega
 have hK:∀ k,pL (dN R ((j - 1) / 2) j) k=if k=j then pL R ((j - 1) / 2) else if k=(j - 1) / 2 then pL R j else pL R k:=fun k=>XY (by omega) (by omega) k
 refine ⟨fun k h0 hk hki=>?_,fun k h0 hk hpk hi0=>?_⟩
 ·rw [hK,hK]
  by_cases e1:k=j
  ·subst e1
   rw [if_neg (by omega),if_pos rfl,if_pos rfl]; omega
  ·by_cases e2:(k - 1) / 2=j
   ·rw [if_pos e2,if_neg e1,if_neg hki]
    exact h2 k h0 hk e2 hj0
   ·rw [if_neg e2,if_neg e1,if_neg hki]
    have:=h1 k h0 hk e1
    split
    ·rename_i e3; rw [e3] at this; omega
    ·exact this
 ·rw [hK,hK]
  have h3:=h1 ((j - 1) / 2) hi0 (by omega) (by omega)
  rw [if_neg (show ¬ ((j - 1) / 2 - 1) / 2=j by omega),if_neg (show ¬ ((j - 1) / 2 - 1) / 2=(j - 1) / 2 by omega)]
  by_cases e1:k=j
  ·rw [if_pos e1]; exact h3
  ·rw [if_neg e1,if_neg (by omega)]
   have:=h1 k h0 hk e1
   rw [hpk] at this
   exact Nat.le_trans h3 this
theorem XQ.done {R:List Nat} {n j:Nat} (h:XQ R n j) (hd:j=0∨pL R ((j - 1) / 2)≤pL R j):CR (id:Nat→Nat) R n:=by
 intro k h0 hk
 by_cases e:k=j
 ·subst e
  rcases hd with h | h
  ·omega
  ·exact h
 ·exact h.1 k h0 hk e
theorem V0 {sb j0:Nat} {isv cnt hv q:Value} {R0:List Nat} (h:H (TC sb isv cnt hv q R0 l) σ) (hb:R0.length<1099511627776) (hj0:j0<R0.length) (hex:XQ R0 R0.length j0)
 (hk:∀ (R':List Nat) σ',R'.Perm R0→CR (id:Nat→Nat) R' R'.length→H (TC sb isv cnt hv q R' l) σ'→Q (.ret (.tuple #[])) σ') :
 E K2 [uE sb,.int .i64 j0] σ Q:=by
 apply uA; unfold jE
 refine ⟨fun m i τ=>∃ (R:List Nat) (j:Nat),i=j∧m=j∧j<R.length∧R.Perm R0∧XQ R R.length j∧H (TC sb isv cnt hv q R l) τ,
  ⟨_,R0,j0,rfl,rfl,hj0,List.Perm.refl _,hex,h⟩,?_⟩
 clear h hex
 rintro m0 _ τ ⟨R,j,rfl,hm0,hj,hp,hex,h⟩
 have hRl:=hp.length_eq
 unfold X8
 refine GA ((j:Int) - 1) (by omega) ?_
 have e1:Int.tdiv ((j:Int) - 1) 2=((j - 1) / 2:Nat):=by
  rcases Nat.eq_zero_or_pos j with rfl | h0
  ·rfl
  ·rw [show (j:Int) - 1=((j - 1:Nat):Int) by omega]; rfl
 refine GA (((j - 1) / 2:Nat):Int) ⟨e1,by omega⟩ ?_
 have fin:j=0∨pL R ((j - 1) / 2)≤pL R j→∀ τ,H (TC sb isv cnt hv q R l) τ→Q (.ret (.tuple #[])) τ:=fun hd τ ht=>hk R τ hp (hex.done hd) ht
 refine AT (fun g=>?_) fun g=>?_
 ·unfold NJ
  exact fin (.inl (by omega)) τ h
 ·have xj:=List.getElem?_eq_getElem hj
  have xi:=List.getElem?_eq_getElem (show (j - 1) / 2<R.length by omega)
  unfold uE
  rw [lN,NG h,Option.bind_some,A4]
  have h':=h.perm (.swap _ _ _)
  refine wN h' xj xi ?_
  rw [E8]
  unfold NJ
  by_cases hl:R[j]<R[(j - 1) / 2]
  ·rw [decide_eq_true hl]
   refine C8 rfl ?_
   rw [lL,NG h,Option.bind_some,A4]
   refine wO h' (by omega) (by omega) ?_
   intro τ1 h1
   rw [B5]
   have hs:=I5 R ((j - 1) / 2) j
   refine ⟨(j - 1) / 2,by omega,dN R ((j - 1) / 2) j,(j - 1) / 2,rfl,rfl,by omega,(TQ R (by omega) (by omega)).trans hp,?_,?_⟩
   ·rw [hs]
    exact hex.step (Nat.le_refl _) hj (by omega) (by unfold pL; rw [FF xj,FF xi]; exact hl)
   ·have:=h1.perm (.swap _ _ _)
    rw [← hs] at this
    exact this
  ·rw [decide_eq_false hl]
   refine IM rfl ?_
   refine fin (.inr ?_) τ h
   unfold pL; rw [FF xj,FF xi]; omega
theorem ABj (n:Int):HH P DN false (.iface DN (.int .i64 n))=some (.int .i64 n):=by kernel_rfl
theorem ADE {sb x:Nat} {isv cnt hv q:Value} {R:List Nat} (h:H (TC sb isv cnt hv q R l) σ) (hb:R.length<1099511627776)
 (hk:∀ hv' σ',H (TC sb isv cnt hv' q (R++[x]) l) σ'→Q (.ret (.tuple #[])) σ'):E JX [.pointer (some ⟨sb,2,none⟩),.iface DN (.int .i64 x)] σ Q:=by
 apply YA; unfold PA
 obtain ⟨_,_,a,c,rfl⟩:=h.own_src 1 rfl
 rw [LV h,ABj,AH]
 refine nw h ?_
 intro b σ1 h1
 rw [LV h1,KO]
 have ht:DC 1 (.slice (some ⟨b,0,none⟩) 1 1) σ1=some (1,[.int .i64 (x:Nat)]):=by
  rw [E3 (h1.row 0 rfl) (by simp)]; rfl
 refine DS h1 2 rfl ht (by omega) (by omega) (by rfl) ?_
 intro w σ2 h2
 have ho:=O.RN h2 (i:=2) rfl
 have h2':H (pt b (.cells [.int .i64 (x:Nat)] DN false)::pt sb (.cells [isv,cnt,.slice a R.length c,q] EM false)::A5 DN 1 w (R.length+1) (nv R++[.int .i64 (x:Nat)])::l) σ2:=h2
 refine st h2' ho ?_
 intro σ3 h3
 refine hk w σ3 ?_
 have:nv R++[.int .i64 (x:Nat)]=nv (R++[x]):=by simp [nv]
 rw [this] at h3
 unfold TC
 rw [List.length_append]
 exact h3.re
theorem AE7 {sb n x:Nat} {isv cnt hv q:Value} {R:List Nat} (h:H (TC sb isv cnt hv q R l) σ) (hb:R.length<1099511627776) (hn:R.length=n+1) (hx:R[n]?=some x)
 (hk:∀ hv' σ',H (TC sb isv cnt hv' q (R.take n) l) σ'→Q (.ret (.iface DN (.int .i64 x))) σ'):E LL [.pointer (some ⟨sb,2,none⟩)] σ Q:=by
 apply aQ; unfold P8
 have hl:=HE h.tail
 obtain ⟨b,c,hvv,ia,la⟩:=nel h.tail hx
 rw [LV h,hl,AH]
 refine GA (n:Int) (by omega) ?_
 rw [LV h,ia,AF,la,AH,LV h]
 obtain ⟨w,e1,ho,h2⟩:=O.xK (k:=n) h (i:=1) rfl (by omega) (by omega)
 rw [e1,AF]
 have h2':H (pt sb (.cells [isv,cnt,hv,q] EM false)::A5 DN 1 w n ((nv R).take (n*1))::l) σ:=h2
 refine st h2' ho ?_
 intro σ3 h3
 refine hk w σ3 ?_
 have e2:(nv R).take (n*1)=nv (R.take n):=by simp [nv,List.map_take]
 rw [e2] at h3
 unfold TC
 rw [List.length_take,Nat.min_eq_left (by omega)]
 exact h3.re
theorem ADq {sb x:Nat} {isv cnt hv q:Value} {R:List Nat} (h:H (TC sb isv cnt hv q R l) σ) (hb:R.length<1099511627000) (hok:CR (id:Nat→Nat) R R.length)
 (hk:∀ (R':List Nat) hv' σ',R'.Perm (R++[x])→CR (id:Nat→Nat) R' R'.length→H (TC sb isv cnt hv' q R' l) σ'→Q (.ret (.tuple #[])) σ'):E I9 [uE sb,.iface DN (.int .i64 x)] σ Q:=by
 apply oH; unfold bS
 unfold uE
 rw [ABB,A4]
 refine ADE h (by omega) ?_
 intro hv' σ1 h1
 rw [B5,rM,NG h1,Option.bind_some,A4]
 refine ACJ (HE h1.tail) ?_
 rw [A6]
 refine GA (R.length:Int) (by simp; omega) ?_
 refine V0 h1 (by simp; omega) (by simp) ⟨fun k h0 hk2 hne=>?_,fun k h0 hk2 hp=>?_⟩ ?_
 ·simp at hk2
  have hh:=hok k h0 (by omega)
  rw [YR (S:=R++[x]) (n:=R.length) (fun i hi=>(List.getElem?_append_left hi).symm) (show (k - 1) / 2<R.length by omega),
   YR (R:=R) (S:=R++[x]) (n:=R.length) (fun i hi=>(List.getElem?_append_left hi).symm) (show k<R.length by omega)] at hh
  exact hh
 ·simp at hk2; omega
 ·intro R' σ2 hp hok2 h2
  rw [B5]
  exact hk R' hv' σ2 hp hok2 h2
theorem AEu {sb x n:Nat} {isv cnt hv q:Value} {R:List Nat} (h:H (TC sb isv cnt hv q R l) σ) (hb:R.length<1099511627776) (hn:R.length=n+1) (hx:R[0]?=some x) (hok:CR (id:Nat→Nat) R R.length)
 (hk:∀ (R':List Nat) hv' σ',(R'++[x]).Perm R→CR (id:Nat→Nat) R' R'.length→H (TC sb isv cnt hv' q R' l) σ'→Q (.ret (.iface DN (.int .i64 x))) σ'):E KT [uE sb] σ Q:=by
 apply qD; unfold dP
 unfold uE
 rw [rM,NG h,Option.bind_some,A4]
 refine ACJ (HE h.tail) ?_
 rw [A6]
 refine GA (n:Int) (by omega) ?_
 rw [lL,NG h,Option.bind_some,A4]
 refine wO (i:=0) (j:=n) (h.perm (.swap _ _ _)) (by omega) (by omega) ?_
 intro σ1 h1
 rw [B5]
 have hsl:=I5 R 0 n
 have h2:H (TC sb isv cnt hv q (dN R 0 n) l) σ1:=by
  have:=h1.perm (.swap _ _ _)
  rw [← hsl] at this
  exact this
 rw [hn] at hok
 refine ABg (i0:=0) h2 (n:=n) (by omega) (by omega) (by omega) (hok.pop (by omega)) ?_
 intro R' c σ2 hp hok2 htl h3
 rw [E8,ACm,A4]
 have hl:R'.length=n+1:=by rw [hp.length_eq,hsl,hn]
 have hx2:R'[n]?=some x:=by rw [htl n (Nat.le_refl _),O8 (by omega) (by omega),if_pos rfl,hx]
 refine AE7 h3 (by omega) hl hx2 ?_
 intro hv' σ3 h4
 rw [B4]
 refine hk (R'.take n) hv' σ3 ?_ ?_ h4
 ·have e:R'.take n++[x]=R':=by
   have h5:R'.take (n+1)=R'.take n++[x]:=by rw [List.take_add_one,hx2]; rfl
   rw [← h5,← hl,List.take_length]
  rw [e]
  exact hp.trans (TQ R (by omega) (by omega))
 ·rw [List.length_take,Nat.min_eq_left (by omega)]
  refine hok2.congr fun k hk=>?_
  rw [List.getElem?_take,if_pos hk]
theorem AEI {sb:Nat} {isv cnt hv q:Value} {R:List Nat} (h:H (TC sb isv cnt hv q R l) σ) (hb:R.length<1099511627776)
 (hk:∀ (R':List Nat) σ',R'.Perm R→CR (id:Nat→Nat) R' R'.length→H (TC sb isv cnt hv q R' l) σ'→Q (.ret (.tuple #[])) σ') (hok:CR (id:Nat→Nat) R R.length):E TD [uE sb] σ Q:=by
 apply m8; unfold bM
 unfold uE
 rw [rM,NG h,Option.bind_some,A4]
 refine ACJ (HE h.tail) ?_
 rw [A6]
 refine GA ((R.length / 2:Nat):Int) ⟨by rfl,by omega⟩ ?_
 refine GA ((R.length / 2:Nat) - 1:Int) (by omega) ?_
 refine ⟨fun m i τ=>∃ R':List Nat,i+1=m∧i<R.length∧R'.Perm R∧CR (id:Nat→Nat) R' R'.length∧H (TC sb isv cnt hv q R' l) τ,⟨R.length / 2,R,by omega,by omega,List.Perm.refl _,hok,h⟩,?_⟩
 rintro m i τ ⟨R',hm,hi,hp,hok2,h2⟩
 have hl:=hp.length_eq
 unfold UO
 refine AT (fun g=>?_) fun g=>?_
 ·obtain ⟨k,rfl⟩:∃ k:Nat,i=k:=⟨i.toNat,by omega⟩
  rw [← hl]
  refine ABg h2 (n:=R'.length) (Nat.le_refl _) (by omega) (by omega) ⟨fun k h0 hk _=>hok2 k h0 hk,fun k' h0 hk hp' hi0=>?_⟩ ?_
  ·have e1:=hok2 k' h0 hk
   have e2:=hok2 k hi0 (by omega)
   rw [hp'] at e1
   exact Nat.le_trans e2 e1
  ·intro R2 c σ3 hp2 hok3 _ h3
   rw [E8]
   refine GA ((k:Int) - 1) (by omega) ?_
   have hl2:=hp2.length_eq
   refine ⟨k,by omega,R2,by omega,by omega,hp2.trans hp,by rw [hl2]; exact hok3,h3⟩
 ·exact hk R' τ hp hok2 h2
end Go.Ax.C
set_option maxRecDepth 100000
namespace Go.Ax.C
open Go.Proofs Go.RowKit
variable {l r m:List AJ} {σ:AHeap} {Q:RK}
section
variable {α:Type} {f:α→Value}
theorem vW {e:Nat} {v:Value} {xs:List α} {i:Nat} {x:α} (h:H (A5 e 1 v xs.length (xs.map f)::l) σ) (hi:xs[i]?=some x) :
 ∃ b,(∀ kd,AG 1 v (.int kd (i:Nat))=some (.pointer (some ⟨b,i,none⟩)))∧AD false 1 (.pointer (some ⟨b,i,none⟩)) σ=some (f x):=by
 have hlt:=(List.getElem?_eq_some_iff.1 hi).1
 rcases EX.1 h with ⟨⟨h0,_⟩,_⟩ | ⟨b,c,opn,rest,h1,h2,h3,rfl,h4,h5⟩
 ·omega
 ·refine ⟨b,fun kd=>by rw [TG (by omega)]; simp,?_⟩
  rw [BK (h1.row 0 rfl),List.getElem?_append_left (by simpa using hlt),List.getElem?_map,hi]; rfl
theorem gst {e:Nat} {v:Value} {xs:List α} {i:Nat} {y:α} {K:AHeap→Prop} (h:H (A5 e 1 v xs.length (xs.map f)::l) σ) (hy:one (f y)=true) (hi:i<xs.length) (hK:∀ σ',H (A5 e 1 v (xs.set i y).length ((xs.set i y).map f)::l) σ'→K σ') :
 om (AG 1 v (.int .i64 (i:Nat))) fun p=>pu (AN 1 p (f y) σ) K:=by
 rcases EX.1 h with ⟨⟨h0,_⟩,_⟩ | ⟨b,c,opn,rest,h1,h2,h3,rfl,h4,h5⟩
 ·omega
 ·rw [TG (by omega),AF]
  have e:(⟨b,0+(i:Int).toNat*1,none⟩:Addr)=⟨b,i,none⟩:=by simp
  rw [e]
  refine NN h 0 rfl (by omega) hy (by simpa using hi) ?_
  intro σ' h'
  rw [List.set_cons_zero,← List.map_set] at h'
  refine hK σ' ?_
  rw [List.length_set]; exact h'
theorem AE8 {e:Nat} {v:Value} {xs:List α} (h:H (A5 e 1 v xs.length (xs.map f)::l) σ):BJ v=some (.int .i64 xs.length):=HE h
end
structure xQ (is:List Bool) (xs:List Nat):Prop where
 ok:CR (id:Nat→Nat) xs xs.length
 nd:xs.Nodup
 lt:∀ x∈xs,x<is.length
 all:∀ a,is[a]?=some true→a∈xs
theorem xQ.len {is:List Bool} {xs:List Nat} (h:xQ is xs):xs.length≤is.length:=by
 have:=List.Nodup.length_le_of_subset h.nd (l₂:=List.range is.length) fun x hx=>List.mem_range.2 (h.lt x hx)
 simpa using this
def OH (is:List Bool):Nat:=is.count true
def bG (sb:Nat) (is:List Bool):AJ:=ex fun p:Value×Value×List Nat=>sep (IU (xQ is p.2.2)) (AW (TC sb p.1 (.int .i64 (OH is)) p.2.1 (.bool true) p.2.2 [A5 CG 1 p.1 is.length (is.map .bool)]))
theorem cY {sb:Nat} {is:List Bool}:H (bG sb is::l) σ↔∃ isv hv xs,xQ is xs∧H (TC sb isv (.int .i64 (OH is)) hv (.bool true) xs (A5 CG 1 isv is.length (is.map .bool)::l)) σ:=by
 unfold bG
 rw [KN]
 constructor
 ·rintro ⟨⟨isv,hv,xs⟩,h⟩
  rw [BE,BZ,BC] at h
  exact ⟨isv,hv,xs,h.1,h.2⟩
 ·rintro ⟨isv,hv,xs,h1,h2⟩
  refine ⟨⟨isv,hv,xs⟩,?_⟩
  rw [BE,BZ,BC]
  exact ⟨h1,h2⟩
theorem k8 {is:List Bool} {a:Nat} {b c:Bool} (h:is[a]?=some b):OH (is.set a c)+(if b then 1 else 0)=OH is+if c then 1 else 0:=by
 unfold OH
 induction is generalizing a with
 | nil=>simp at h
 | cons x is ih =>
   cases a with
   | zero=>simp at h; subst h; simp [List.count_cons]; cases x<;>cases c<;>simp
   | succ a=>simp at h; have:=ih h; simp [List.count_cons]; omega
theorem rD (is:List Bool):OH is≤is.length:=List.count_le_length
theorem sE {is:List Bool} {a:Nat} (h:is[a]?=some true):0<OH is:=List.count_pos_iff.2 (List.mem_of_getElem? h)
theorem lU {sb:Nat} {is:List Bool} (h:H (bG sb is::l) σ) (hQ:Q (.ret (.bool true)) σ):E EZ [.pointer (some ⟨sb,0,none⟩)] σ Q:=by
 apply W7; unfold OC
 obtain ⟨isv,hv,xs,h1,h2⟩:=cY.1 h
 rw [LB h2]
 exact hQ
theorem ACt {sb:Nat} {is:List Bool} (h:H (bG sb is::l) σ) (hn:is.length≤1099511627000)
 (hno:(∀ a:Nat,is[a]?≠some true)→∀ σ',H (bG sb is::l) σ'→Q (.ret (.tuple #[.int .i64 0,.int .i64 8])) σ')
 (hyes:∀ (a:Nat) σ',is[a]?=some true→(∀ b<a,is[b]?≠some true)→H (bG sb (is.set a false)::l) σ'→Q (.ret (.tuple #[.int .i64 a,.int .i64 0])) σ') :
 E J6 [.pointer (some ⟨sb,0,none⟩)] σ Q:=by
 apply Y8; unfold O7
 refine lU h ?_
 rw [E8]
 refine C8 rfl ?_
 obtain ⟨isv,hv,xs,h1,h2⟩:=cY.1 h
 refine ⟨fun m τ=>∃ hv xs,xs.length=m∧xQ is xs∧H (TC sb isv (.int .i64 (OH is)) hv (.bool true) xs (A5 CG 1 isv is.length (is.map .bool)::l)) τ,⟨_,hv,xs,rfl,h1,h2⟩,?_⟩
 clear h h1 h2 hv xs
 rintro _ τ ⟨hv,xs,rfl,h1,h2⟩
 have hxl:=h1.len
 unfold L4
 rw [LV h2,HE h2.tail,AH]
 refine AT (fun g=>?_) fun g=>?_
 ·obtain ⟨x,hx⟩:∃ x,xs[0]?=some x:=⟨_,List.getElem?_eq_getElem (by omega)⟩
  refine AEu (n:=xs.length - 1) h2 (by omega) (by omega) hx h1.ok ?_
  intro R hv' σ1 hp hok h3
  have hmem:∀ y,y∈xs↔y∈R∨y=x:=fun y=>by rw [← hp.mem_iff]; simp
  have hxm:x∈xs:=(hmem x).2 (.inr rfl)
  have hxl2:=h1.lt x hxm
  have hnd:(R++[x]).Nodup:=hp.nodup_iff.2 h1.nd
  have hxR:x∉R:=fun hx2=>by
   rw [List.nodup_append] at hnd
   exact hnd.2.2 x hx2 x (by simp) rfl
  have hRnd:R.Nodup:=by rw [List.nodup_append] at hnd; exact hnd.1
  rw [B4,ABj,AH,LV h3]
  have h3':H (A5 CG 1 isv is.length (is.map .bool)::TC sb isv (.int .i64 (OH is)) hv' (.bool true) R l) σ1:=h3.re
  obtain ⟨c,hc⟩:∃ c,is[x]?=some c:=⟨_,List.getElem?_eq_getElem hxl2⟩
  obtain ⟨b,ia,la⟩:=vW h3' hc
  rw [ia,AF,la,BY]
  refine iK (fun g=>?_) fun g=>?_
  ·subst g
   rw [LV h3]
   refine gst (f:=Value.bool) (y:=false) h3' rfl hxl2 ?_
   intro σ2 h4
   have e1:=k8 (c:=false) hc
   have e2:=rD is
   have e3:=sE hc
   simp at e1
   have h5:H (pt sb (.cells [isv,.int .i64 (OH is),hv',.bool true] EM false)::A5 DN 1 hv' R.length (nv R)::A5 CG 1 isv (is.set x false).length ((is.set x false).map .bool)::l) σ2:=h4.re
   rw [LI h5]
   refine GA ((OH (is.set x false):Nat):Int) (by omega) ?_
   refine st h5 rfl ?_
   intro σ3 h6
   refine hyes x σ3 hc (fun y hy hy2=>?_) (cY.2 ⟨isv,hv',R,⟨hok,hRnd,fun y hy=>?_,fun y hy=>?_⟩,h6⟩)
   ·have hym:=h1.all y hy2
    obtain ⟨k,hk,hky⟩:=List.getElem_of_mem hym
    have:=h1.ok.top k hk
    rw [FF hx,FF (List.getElem?_eq_getElem hk),hky] at this
    (try simp at this)
    omega
   ·rw [List.length_set]; exact h1.lt y ((hmem y).2 (.inl hy))
   ·rw [List.getElem?_set] at hy
    split at hy
    ·simp at hy
    ·rename_i hne
     rcases (hmem y).1 (h1.all y hy) with h | h
     ·exact h
     ·exact absurd h.symm hne
  ·subst g
   refine ⟨R.length,?_,hv',R,rfl,⟨hok,hRnd,fun y hy=>h1.lt y ((hmem y).2 (.inl hy)),fun y hy=>?_⟩,h3⟩
   ·have:=hp.length_eq
    simp at this; omega
   ·rcases (hmem y).1 (h1.all y hy) with h | h
    ·exact h
    ·subst h; rw [hc] at hy; cases hy
 ·refine hno (fun a ha=>?_) τ (cY.2 ⟨isv,hv,xs,h1,h2⟩)
  have:=h1.all a ha
  have:=List.length_pos_of_mem this
  omega
theorem xI {sb a:Nat} {is:List Bool} {g:FuncId} (h:H (bG sb is::l) σ) (ha:a<is.length) (hn:is.length≤1099511627000)
 (hg:E g [.pointer (some ⟨sb,0,none⟩),.int .i64 a] σ (cI Q .i64 fun n τ=>Q (.ret (.int .i64 n)) τ)) :
 E HF [.pointer (some ⟨sb,0,none⟩),.int .i64 a,.func (.func g) #[] #[]] σ Q:=by
 apply YQ; unfold PE
 refine lU h ?_
 rw [E8]
 refine C8 rfl ?_
 obtain ⟨isv,hv,xs,h1,h2⟩:=cY.1 h
 refine AT (fun g=>absurd g (by omega)) fun _=>?_
 have h3:H (A5 CG 1 isv is.length (is.map .bool)::TC sb isv (.int .i64 (OH is)) hv (.bool true) xs l) σ:=h2.re
 rw [LV h2,AE8 h3,AH]
 unfold H6
 refine C8 (by simp; omega) ?_
 exact hg
theorem AAV {sb a:Nat} {is:List Bool} (h:H (bG sb is::l) σ) (ha:is[a]?=some true) (hn:is.length≤1099511627000)
 (hQ:∀ σ',H (bG sb (is.set a false)::l) σ'→Q (.ret (.int .i64 0)) σ'):E I4 [.pointer (some ⟨sb,0,none⟩),.int .i64 a] σ Q:=by
 apply XV; unfold NT
 have hal:=(List.getElem?_eq_some_iff.1 ha).1
 refine xI h hal hn ?_
 apply XL; unfold N3
 obtain ⟨isv,hv,xs,h1,h2⟩:=cY.1 h
 have h3:H (A5 CG 1 isv is.length (is.map .bool)::TC sb isv (.int .i64 (OH is)) hv (.bool true) xs l) σ:=h2.re
 obtain ⟨b,ia,la⟩:=vW h3 ha
 rw [LV h2,ia,AF,la,BY]
 refine C8 rfl ?_
 rw [LV h2]
 refine gst (f:=Value.bool) (y:=false) h3 rfl hal ?_
 intro σ2 h4
 have e1:=k8 (c:=false) ha
 have e2:=rD is
 have e3:=sE ha
 simp at e1
 have h5:H (pt sb (.cells [isv,.int .i64 (OH is),hv,.bool true] EM false)::A5 DN 1 hv xs.length (nv xs)::A5 CG 1 isv (is.set a false).length ((is.set a false).map .bool)::l) σ2:=h4.re
 rw [LI h5]
 refine GA ((OH (is.set a false):Nat):Int) (by omega) ?_
 refine st h5 rfl ?_
 intro σ3 h6
 rw [A6,A6]
 refine hQ σ3 (cY.2 ⟨isv,hv,xs,⟨h1.ok,h1.nd,fun y hy=>by rw [List.length_set]; exact h1.lt y hy,fun y hy=>?_⟩,h6⟩)
 rw [List.getElem?_set] at hy
 split at hy
 ·simp at hy
 ·exact h1.all y hy
theorem ACW {hv:Value} {xs:List Nat} {a:Nat} (h:H (A5 DN 1 hv xs.length (nv xs)::l) σ) (hn:xs.length≤1099511627000) (hQ:Q (.ret (.bool (decide (a∈xs)))) σ):E C7 [hv,.int .i64 a] σ Q:=by
 apply J4; unfold FN
 apply MB; unfold GN
 rw [HE h,AH]
 refine ⟨fun m i τ=>∃ k:Nat,i=k∧m=xs.length - k∧k≤xs.length∧(∀ x∈xs.take k,x≠a)∧τ=σ,⟨_,0,rfl,rfl,by omega,by simp,rfl⟩,?_⟩
 rintro m _ _ ⟨k,rfl,hm,hk,hno,rfl⟩
 unfold FE
 refine AT (fun g=>?_) fun g=>?_
 ·have hkl:k<xs.length:=by omega
  have hx:=List.getElem?_eq_getElem hkl
  obtain ⟨b,c,hvv,ia,la⟩:=nel h hx
  rw [ia,AF,la,AH]
  refine AT (fun g2=>?_) fun g2=>?_
  ·rw [A6,decide_eq_true (by omega)]
   have:a∈xs:=by rw [show a=xs[k] by omega]; exact List.getElem_mem _
   rw [decide_eq_true this] at hQ
   exact hQ
  ·refine GA ((k+1:Nat):Int) (by omega) ?_
   refine ⟨xs.length - (k+1),by omega,k+1,rfl,rfl,by omega,fun x hx2=>?_,rfl⟩
   rw [List.take_add_one,hx] at hx2
   rcases List.mem_append.1 hx2 with h | h
   ·exact hno x h
   ·simp at h; omega
 ·rw [A6,decide_eq_false (by omega)]
  have:a∉xs:=fun ha=>by
   have:xs.take k=xs:=List.take_of_length_le (by omega)
   exact hno a (by rw [this]; exact ha) rfl
  rw [decide_eq_false this] at hQ
  exact hQ
theorem ACi {sb a:Nat} {is:List Bool} (h:H (bG sb is::l) σ) (ha:is[a]?=some false) (hn:is.length≤1099511626000)
 (hQ:∀ σ',H (bG sb (is.set a true)::l) σ'→Q (.ret (.int .i64 0)) σ'):E JQ [.pointer (some ⟨sb,0,none⟩),.int .i64 a] σ Q:=by
 apply YH; unfold OT
 have hal:=(List.getElem?_eq_some_iff.1 ha).1
 refine xI h hal (by omega) ?_
 apply ZG; unfold OW
 obtain ⟨isv,hv,xs,h1,h2⟩:=cY.1 h
 have hxl:=h1.len
 have h3:H (A5 CG 1 isv is.length (is.map .bool)::TC sb isv (.int .i64 (OH is)) hv (.bool true) xs l) σ:=h2.re
 obtain ⟨b,ia,la⟩:=vW h3 ha
 rw [LV h2,ia,AF,la,BY]
 refine C8 rfl ?_
 rw [LV h2]
 refine gst (f:=Value.bool) (y:=true) h3 rfl hal ?_
 intro σ2 h4
 have e1:=k8 (c:=true) ha
 have e2:=rD (is.set a true)
 rw [List.length_set] at e2
 simp at e1
 have h5:H (pt sb (.cells [isv,.int .i64 (OH is),hv,.bool true] EM false)::A5 DN 1 hv xs.length (nv xs)::A5 CG 1 isv (is.set a true).length ((is.set a true).map .bool)::l) σ2:=h4.re
 rw [LI h5]
 refine GA ((OH (is.set a true):Nat):Int) (by omega) ?_
 refine st h5 rfl ?_
 intro σ3 h6
 rw [LV h6]
 refine ACW (a:=a) h6.tail (by omega) ?_
 rw [E8]
 have hall:∀ y,(is.set a true)[y]?=some true→y≠a→y∈xs:=by
  intro y hy hne
  rw [List.getElem?_set,if_neg (fun e=>hne e.symm)] at hy
  exact h1.all y hy
 by_cases hm:a∈xs
 ·rw [decide_eq_true hm]
  refine C8 rfl ?_
  unfold FO
  rw [A6,A6]
  refine hQ σ3 (cY.2 ⟨isv,hv,xs,⟨h1.ok,h1.nd,fun y hy=>by rw [List.length_set]; exact h1.lt y hy,fun y hy=>?_⟩,h6⟩)
  by_cases e:y=a
  ·subst e; exact hm
  ·exact hall y hy e
 ·rw [decide_eq_false hm]
  refine IM rfl ?_
  refine ADq h6 (by omega) h1.ok ?_
  intro R hv' σ4 hp hok h7
  rw [B5]
  unfold FO
  rw [A6,A6]
  have hmem:∀ y,y∈R↔y∈xs∨y=a:=fun y=>by rw [hp.mem_iff]; simp
  refine hQ σ4 (cY.2 ⟨isv,hv',R,⟨hok,hp.nodup_iff.2 ?_,fun y hy=>?_,fun y hy=>?_⟩,h7⟩)
  ·rw [List.nodup_append]
   exact ⟨h1.nd,by simp,fun x hx y hy e=>hm (by simp at hy; subst hy; subst e; exact hx)⟩
  ·rw [List.length_set]
   rcases (hmem y).1 hy with h | h
   ·exact h1.lt y h
   ·omega
  ·by_cases e:y=a
   ·exact (hmem y).2 (.inr e)
   ·exact (hmem y).2 (.inl (hall y hy e))
theorem ACN {sb:Nat} {is:List Bool} (h:H (bG sb is::l) σ) (hQ:Q (.ret (.int .i64 (OH is))) σ):E J3 [.pointer (some ⟨sb,0,none⟩)] σ Q:=by
 apply ZI; unfold O3
 refine lU h ?_
 rw [E8]
 refine C8 rfl ?_
 obtain ⟨isv,hv,xs,h1,h2⟩:=cY.1 h
 rw [LI h2]
 exact hQ
theorem pR (n:Nat):CR (id:Nat→Nat) (List.range n) (List.range n).length:=by
 intro k h0 hk
 simp at hk
 unfold Ky
 rw [List.getElem?_range (by omega),List.getElem?_range hk]
 simp; omega
theorem AEC {n:Nat} (h:H l σ) (hn:n≤1024)
 (hQ:∀ sb σ',H (bG sb (List.replicate n true)::l) σ'→Q (.ret (.tuple #[.pointer (some ⟨sb,0,none⟩),.int .i64 0])) σ'):E XU [.int .i64 n] σ Q:=by
 apply qM; unfold eO
 refine AT (fun g=>absurd g (by omega)) fun _=>?_
 unfold PN
 refine C8 (by simp; omega) ?_
 refine RR h (by omega) ?_
 intro ib σ1 h1
 refine FA rfl ?_
 have e0:reps ((n:Int).toNat) [.bool false]=(List.replicate n false).map .bool:=by rw [QO]; simp
 rw [e0] at h1
 have h1:=h1.unsnoc
 have h1':H (A5 CG 1 (.slice (some ⟨ib,0,none⟩) n n) n ((List.replicate n false).map .bool)::l) σ1:=h1.to_own 0 rfl (by simp) (by unfold AX; omega)
 simp only [Int.toNat_natCast]
 refine nw h1' ?_
 intro sb σ2 h2
 have h2':=(h2.own_nil DN 1).unsnoc
 -- the loop
 refine ⟨fun m i τ=>∃ (k:Nat) (hv:Value) (is:List Bool),i=k∧m=n - k∧k≤n∧is=List.replicate k true++List.replicate (n - k) false∧H (TC sb (.slice (some ⟨ib,0,none⟩) n n) (.int .i64 n) hv (.bool true) (List.range k) (A5 CG 1 (.slice (some ⟨ib,0,none⟩) n n) is.length (is.map .bool)::l)) τ,
  ⟨n,0,.slice none 0 0,List.replicate n false,rfl,rfl,by omega,by simp,?_⟩,?_⟩
 ·have:H (pt sb (.cells [.slice (some ⟨ib,0,none⟩) n n,.int .i64 n,.slice none 0 0,.bool true] EM false)::A5 DN 1 (.slice none 0 0) 0 []::A5 CG 1 (.slice (some ⟨ib,0,none⟩) n n) n ((List.replicate n false).map .bool)::l) σ2:=h2'.re
  simpa [TC,nv] using this
 clear h2' h2 h1' h1 h
 rintro m _ τ ⟨k,hv,is,rfl,hm,hk,his,h⟩
 have hil:is.length=n:=by rw [his]; simp; omega
 unfold WR
 refine AT (fun g=>?_) fun g=>?_
 ·rw [LV h]
  have h3:H (A5 CG 1 (.slice (some ⟨ib,0,none⟩) n n) is.length (is.map .bool)::TC sb (.slice (some ⟨ib,0,none⟩) n n) (.int .i64 n) hv (.bool true) (List.range k) l) τ:=h.re
  refine gst (f:=Value.bool) (y:=true) h3 rfl (by omega) ?_
  intro σ2 h4
  rw [LV h4]
  refine nw h4 ?_
  intro tb σ3 h5
  have ht:DC 1 (.slice (some ⟨tb,0,none⟩) 1 1) σ3=some (1,[.int .i64 (k:Nat)]):=by
   rw [E3 (h5.row 0 rfl) (by simp)]; rfl
  refine DS h5 3 rfl ht (by omega) (by simp; omega) (by rfl) ?_
  intro w σ4 h6
  have ho:=O.RN h6 (i:=3) rfl
  have h6':H (pt tb (.cells [.int .i64 (k:Nat)] DN false)::A5 CG 1 (.slice (some ⟨ib,0,none⟩) n n) (is.set k true).length ((is.set k true).map .bool)::pt sb (.cells [.slice (some ⟨ib,0,none⟩) n n,.int .i64 n,hv,.bool true] EM false)::A5 DN 1 w ((List.range k).length+1) (nv (List.range k)++[.int .i64 (k:Nat)])::l) σ4:=h6
  refine st h6' ho ?_
  intro σ5 h7
  refine GA ((k+1:Nat):Int) (by omega) ?_
  refine ⟨n - (k+1),by omega,k+1,w,is.set k true,rfl,rfl,by omega,?_,?_⟩
  ·rw [his]
   apply List.ext_getElem?
   intro j
   rw [List.getElem?_set]
   by_cases e:k=j
   ·subst e
    rw [if_pos rfl,if_pos (by simp; omega),List.getElem?_append_left (by simp)]
    simp
   ·rw [if_neg e]
    by_cases hj:j<k
    ·rw [List.getElem?_append_left (by simpa using hj),List.getElem?_append_left (by simp; omega)]
     rw [List.getElem?_replicate,List.getElem?_replicate,if_pos hj,if_pos (by omega)]
    ·rw [List.getElem?_append_right (by simp; omega),List.getElem?_append_right (by simp; omega)]
     simp [List.getElem?_replicate]
     by_cases hjn:j<n
     ·rw [if_pos (by omega),if_pos (by omega)]
     ·rw [if_neg (by omega),if_neg (by omega)]
  ·have e1:nv (List.range k)++[.int .i64 (k:Nat)]=nv (List.range (k+1)):=by rw [List.range_succ]; simp [nv]
   rw [e1] at h7
   unfold TC
   have e2:(List.range (k+1)).length=(List.range k).length+1:=by simp
   rw [e2]
   exact h7.re
 ·have hkn:k=n:=by omega
  subst hkn
  have his2:is=List.replicate k true:=by rw [his]; simp
  refine AEI h (by simp; omega) ?_ (pR k)
  intro R σ5 hp hok h7
  rw [B5]
  subst his2
  refine hQ sb σ5 (cY.2 ⟨.slice (some ⟨ib,0,none⟩) k k,hv,R,⟨hok,hp.nodup_iff.2 List.nodup_range,fun x hx=>?_,fun x hx=>?_⟩,?_⟩)
  ·have:=hp.mem_iff.1 hx
   simpa using this
  ·refine hp.mem_iff.2 ?_
   have:=(List.getElem?_eq_some_iff.1 hx).1
   simpa using this
  ·have:OH (List.replicate k true)=k:=by simp [OH]
   rw [this]; exact h7
end Go.Ax.C
set_option maxRecDepth 100000
namespace Go.Ax.C
open Go.Proofs Go.RowKit
variable {l r m:List AJ} {σ:AHeap} {Q:RK}
abbrev n8 (xs:List Nat):List Value:=xs.map fun n=>.int .u8 (n:Nat)
theorem sA {xs:List Nat} (h:∀ x∈xs,x<256):n8 xs=bv (xs.map UInt8.ofNat):=by
 unfold n8 bv
 rw [List.map_map]
 apply List.map_congr_left
 intro x hx
 have:=h x hx
 simp only [Function.comp,yD,UInt8.toNat_ofNat']
 rw [Nat.mod_eq_of_lt (by omega)]
@[simp] theorem AEv (xs:List Nat):(n8 xs).length=xs.length:=by simp [n8]
theorem ACE (xs:List Nat):(n8 xs).all one=true:=by
 simp only [n8,List.all_map,List.all_eq_true]
 intro x _; rfl
def O4 (now was:List Nat):List Bool:=List.zipWith (fun a b=>a == 0 && b == 0) now was
def OI (now was:List Nat):List Bool:=List.zipWith (fun a b=>a != 0 && b == 0) now was
structure kI (now was:List Nat):Prop where
 lo:1≤now.length
 hi:now.length≤1024
 eq:was.length=now.length
 now8:∀ x∈now,x<256
 was8:∀ x∈was,x<256
theorem X9 {now was:List Nat} (h:was.length=now.length):(O4 now was).length=now.length:=by simp [O4,h]
theorem dC {now was:List Nat} (h:was.length=now.length):(OI now was).length=now.length:=by simp [OI,h]
theorem OZ {now was:List Nat} {a x y:Nat} (h1:now[a]?=some x) (h2:was[a]?=some y):(O4 now was)[a]?=some (x == 0 && y == 0):=by simp [O4,List.getElem?_zipWith,h1,h2]
theorem dK {now was:List Nat} {a x y:Nat} (h1:now[a]?=some x) (h2:was[a]?=some y):(OI now was)[a]?=some (x != 0 && y == 0):=by simp [OI,List.getElem?_zipWith,h1,h2]
theorem l5 {α β γ:Type} (f:α→β→γ):∀ (xs:List α) (ys:List β) (a:Nat) (x:α) (y:β),ys[a]?=some y→List.zipWith f (xs.set a x) ys=(List.zipWith f xs ys).set a (f x y)
 | [],ys,a,x,y,_=>by simp
 | _::_,[],a,x,y,h=>by simp at h
 | u::xs,v::ys,0,x,y,h=>by simp at h; subst h; rfl
 | u::xs,v::ys,a+1,x,y,h=>by simp at h; simp [l5 f xs ys a x y h]
theorem ZP {now was:List Nat} {a x y:Nat} (h:was[a]?=some y):O4 (now.set a x) was=(O4 now was).set a (x == 0 && y == 0):=l5 _ _ _ _ _ _ h
theorem dH {now was:List Nat} {a x y:Nat} (h:was[a]?=some y):OI (now.set a x) was=(OI now was).set a (x != 0 && y == 0):=l5 _ _ _ _ _ _ h
theorem set_self {α:Type} {xs:List α} {a:Nat} {x:α} (h:xs[a]?=some x):xs.set a x=xs:=by
 apply List.ext_getElem?
 intro i
 rw [List.getElem?_set]
 split
 ·rename_i e; subst e
  rw [if_pos (List.getElem?_eq_some_iff.1 h).1,h]
 ·rfl
theorem kI.set {now was:List Nat} {a x:Nat} (h:kI now was) (hx:x<256):kI (now.set a x) was :=
 ⟨by simpa using h.lo,by simpa using h.hi,by simpa using h.eq,fun y hy=>by rcases List.mem_or_eq_of_mem_set hy with h1 | h1; exact h.now8 y h1; omega,h.was8⟩
theorem kI.at {now was:List Nat} {a:Nat} (h:kI now was) (ha:a<now.length):∃ x y,now[a]?=some x∧was[a]?=some y∧x<256∧y<256:=by
 have h1:=List.getElem?_eq_getElem ha
 have h2:=List.getElem?_eq_getElem (show a<was.length by rw [h.eq]; exact ha)
 exact ⟨_,_,h1,h2,h.now8 _ (List.getElem_mem _),h.was8 _ (List.getElem_mem _)⟩
abbrev RfL (rb:Nat) (nv wv fv:Value) (sb:Nat) (now was:List Nat) (l:List AJ):List AJ :=
 pt rb (.cells [nv,wv,fv,.pointer (some ⟨sb,0,none⟩)] BL false)::A5 AI 1 nv now.length (n8 now)::A5 AI 1 wv was.length (n8 was)::A5 CG 1 fv (OI now was).length ((OI now was).map .bool)::bG sb (O4 now was)::l
def WE (rb:Nat) (now was:List Nat):AJ:=ex fun p:Value×Value×Value×Nat=>sep (IU (kI now was)) (AW (RfL rb p.1 p.2.1 p.2.2.1 p.2.2.2 now was []))
theorem US {rb:Nat} {now was:List Nat}:H (WE rb now was::l) σ↔∃ nv wv fv sb,kI now was∧H (RfL rb nv wv fv sb now was l) σ:=by
 unfold WE
 rw [KN]
 constructor
 ·rintro ⟨⟨a,b,c,d⟩,h⟩
  rw [BE,BZ,BC] at h
  exact ⟨a,b,c,d,h.1,h.2⟩
 ·rintro ⟨a,b,c,d,h1,h2⟩
  refine ⟨⟨a,b,c,d⟩,?_⟩
  rw [BE,BZ,BC]
  exact ⟨h1,h2⟩
theorem zI {rb:Nat} {now was:List Nat} (h:H (WE rb now was::l) σ):kI now was:=by
 obtain ⟨_,_,_,_,h1,_⟩:=US.1 h; exact h1
theorem ZW {rb:Nat} {now was:List Nat} (h:H (WE rb now was::l) σ) (hQ:Q (.ret (.bool true)) σ):E CT [.pointer (some ⟨rb,0,none⟩)] σ Q:=by
 apply YK; unfold O0
 obtain ⟨nv,wv,fv,sb,h1,h2⟩:=US.1 h
 have:=h1.lo
 rw [LV h2,HE h2.tail,AH,decide_eq_true (by omega)]
 exact hQ
theorem ACP {rb:Nat} {now was:List Nat} (h:H (WE rb now was::l) σ)
 (hno:(∀ a:Nat,(O4 now was)[a]?≠some true)→∀ σ',H (WE rb now was::l) σ'→Q (.ret (.tuple #[.int .i64 0,.int .i64 8])) σ')
 (hyes:∀ (a:Nat) σ',now[a]?=some 0→was[a]?=some 0→(∀ b<a,(O4 now was)[b]?≠some true)→H (WE rb (now.set a 1) was::l) σ'→Q (.ret (.tuple #[.int .i64 a,.int .i64 0])) σ') :
 E ED [.pointer (some ⟨rb,0,none⟩)] σ Q:=by
 apply YN; unfold OO
 refine ZW h ?_
 rw [E8]
 refine C8 rfl ?_
 obtain ⟨nv,wv,fv,sb,h1,h2⟩:=US.1 h
 have hfl:=X9 h1.eq
 have:=h1.hi
 rw [LV h2]
 have h3:H (bG sb (O4 now was)::pt rb (.cells [nv,wv,fv,.pointer (some ⟨sb,0,none⟩)] BL false)::A5 AI 1 nv now.length (n8 now)::A5 AI 1 wv was.length (n8 was)::A5 CG 1 fv (OI now was).length ((OI now was).map .bool)::l) σ:=h2.re
 refine ACt h3 (by omega) ?_ ?_
 ·intro hn σ1 h4
  rw [BQ,AP,AP]
  refine CY (fun _=>?_) fun g=>absurd g (by decide)
  exact hno hn σ1 (US.2 ⟨nv,wv,fv,sb,h1,h4.re⟩)
 ·intro a σ1 ha hb h4
  have hal:a<now.length:=by rw [← hfl]; exact (List.getElem?_eq_some_iff.1 ha).1
  obtain ⟨x,y,hx,hy,_,_⟩:=h1.at hal
  rw [OZ hx hy] at ha
  simp at ha
  obtain ⟨rfl,rfl⟩:=ha
  rw [BQ,AP,AP]
  refine CY (fun g=>absurd rfl g) fun _=>?_
  rw [LV h4,LV h4]
  have h5:H (A5 AI 1 nv now.length (n8 now)::bG sb ((O4 now was).set a false)::pt rb (.cells [nv,wv,fv,.pointer (some ⟨sb,0,none⟩)] BL false)::A5 AI 1 wv was.length (n8 was)::A5 CG 1 fv (OI now was).length ((OI now was).map .bool)::l) σ1:=h4.re
  refine gst (f:=fun n:Nat=>Value.int .u8 (n:Nat)) (y:=1) h5 rfl hal ?_
  intro σ2 h6
  have h7:H (A5 CG 1 fv (OI now was).length ((OI now was).map .bool)::A5 AI 1 nv (now.set a 1).length (n8 (now.set a 1))::bG sb ((O4 now was).set a false)::pt rb (.cells [nv,wv,fv,.pointer (some ⟨sb,0,none⟩)] BL false)::A5 AI 1 wv was.length (n8 was)::l) σ2:=h6.re
  refine gst (f:=Value.bool) (y:=true) h7 rfl (by rw [dC h1.eq]; exact hal) ?_
  intro σ3 h8
  refine hyes a σ3 hx hy hb (US.2 ⟨nv,wv,fv,sb,h1.set (by omega),?_⟩)
  have e1:O4 (now.set a 1) was=(O4 now was).set a false:=by rw [ZP hy]; rfl
  have e2:OI (now.set a 1) was=(OI now was).set a true:=by rw [dH hy]; rfl
  unfold RfL
  rw [e1,e2]
  exact h8.re
theorem ABd {rb a x:Nat} {now was:List Nat} {g:FuncId} (h:H (WE rb now was::l) σ) (ha:now[a]?=some x) (h0:x=0→Q (.ret (.int .i64 6)) σ)
 (hg:x≠0→E g [.pointer (some ⟨rb,0,none⟩),.int .i64 a] σ (cI Q .i64 fun n τ=>Q (.ret (.int .i64 n)) τ)) :
 E IE [.pointer (some ⟨rb,0,none⟩),.int .i64 a,.func (.func g) #[] #[]] σ Q:=by
 apply aI; unfold QW
 refine ZW h ?_
 rw [E8]
 refine C8 rfl ?_
 have hal:=(List.getElem?_eq_some_iff.1 ha).1
 obtain ⟨nv,wv,fv,sb,h1,h2⟩:=US.1 h
 refine AT (fun g=>absurd g (by omega)) fun _=>?_
 rw [LV h2,HE h2.tail,AH]
 unfold IL
 refine C8 (by simp; omega) ?_
 obtain ⟨b,ia,la⟩:=vW (f:=fun n:Nat=>Value.int .u8 (n:Nat)) h2.tail ha
 rw [LV h2,ia,AF,la,AH]
 refine AT (fun g=>h0 (by omega)) fun g=>?_
 exact hg (by omega)
theorem AE3 {rb a x:Nat} {now was:List Nat} (h:H (WE rb now was::l) σ) (ha:now[a]?=some x) (h0:x=0→Q (.ret (.int .i64 6)) σ) (hf:x=255→Q (.ret (.int .i64 8)) σ)
 (hQ:x≠0→x<255→∀ σ',H (WE rb (now.set a (x+1)) was::l) σ'→Q (.ret (.int .i64 0)) σ'):E FB [.pointer (some ⟨rb,0,none⟩),.int .i64 a] σ Q:=by
 apply cP; unfold SE
 refine ABd h ha (fun e=>?_) fun hx=>?_
 ·rw [A6]; exact h0 e
 apply bD; unfold QL
 have hal:=(List.getElem?_eq_some_iff.1 ha).1
 obtain ⟨nv,wv,fv,sb,h1,h2⟩:=US.1 h
 obtain ⟨b,ia,la⟩:=vW (f:=fun n:Nat=>Value.int .u8 (n:Nat)) h2.tail ha
 obtain ⟨x',y,hx',hy,hx8,_⟩:=h1.at hal
 rw [ha] at hx'; cases hx'
 rw [LV h2,ia,AF,la,AH]
 refine AT (fun g=>?_) fun g=>?_
 ·rw [A6,A6]; exact hf (by omega)
 rw [LV h2,ia,AF,la,AH]
 refine bu8 ((x+1:Nat):Int) (by omega) ?_
 rw [← ia .i64]
 have h3:H (A5 AI 1 nv now.length (n8 now)::pt rb (.cells [nv,wv,fv,.pointer (some ⟨sb,0,none⟩)] BL false)::A5 AI 1 wv was.length (n8 was)::A5 CG 1 fv (OI now was).length ((OI now was).map .bool)::bG sb (O4 now was)::l) σ:=h2.re
 refine gst (f:=fun n:Nat=>Value.int .u8 (n:Nat)) (y:=x+1) h3 rfl hal ?_
 intro σ2 h4
 rw [A6,A6]
 refine hQ hx (by omega) σ2 (US.2 ⟨nv,wv,fv,sb,h1.set (by omega),?_⟩)
 have e1:O4 (now.set a (x+1)) was=O4 now was:=by
  rw [ZP hy]
  apply set_self
  rw [OZ ha hy]
  cases x with
  | zero=>exact absurd rfl hx
  | succ x=>simp
 have e2:OI (now.set a (x+1)) was=OI now was:=by
  rw [dH hy]
  apply set_self
  rw [dK ha hy]
  cases x with
  | zero=>exact absurd rfl hx
  | succ x=>simp
 unfold RfL
 rw [e1,e2]
 exact h4.re
theorem AEp {rb a x:Nat} {now was:List Nat} (h:H (WE rb now was::l) σ) (ha:now[a]?=some x) (h0:x=0→Q (.ret (.tuple #[.bool false,.int .i64 6])) σ)
 (hQ:x≠0→∀ σ',H (WE rb (now.set a (x - 1)) was::l) σ'→Q (.ret (.tuple #[.bool (decide (x=1)),.int .i64 0])) σ'):E DI [.pointer (some ⟨rb,0,none⟩),.int .i64 a] σ Q:=by
 apply cQ; unfold SG
 have hal:=(List.getElem?_eq_some_iff.1 ha).1
 refine ABd h ha (fun e=>?_) fun hx=>?_
 ·rw [A6]
  refine AT (fun g=>absurd g (by decide)) fun _=>?_
  exact h0 e
 -- behind
 have fin:∀ σ',H (WE rb (now.set a (x - 1)) was::l) σ'→cI (cI Q .i64 fun n5 τ4=>If (decide (n5=0)) (om (L rb 0 τ4) fun v9=>om (AG 1 v9 (.int .i64 a)) fun v11=>A3 .u8 (AD false 1 v11 τ4) fun n12=>Q (.ret (.tuple #[(.bool (decide (n12=0))),(.int .i64 n5)])) τ4) (Q (.ret (.tuple #[(.bool false),(.int .i64 n5)])) τ4)) .i64
  (fun n τ=>cI Q .i64 (fun n5 τ4=>If (decide (n5=0)) (om (L rb 0 τ4) fun v9=>om (AG 1 v9 (.int .i64 a)) fun v11=>A3 .u8 (AD false 1 v11 τ4) fun n12=>Q (.ret (.tuple #[(.bool (decide (n12=0))),(.int .i64 n5)])) τ4) (Q (.ret (.tuple #[(.bool false),(.int .i64 n5)])) τ4)) (.ret (.int .i64 n)) τ) (.ret (.int .i64 0)) σ':=by
  intro σ' h'
  rw [A6,A6]
  refine IM rfl ?_
  obtain ⟨nv,wv,fv,sb,h1,h2⟩:=US.1 h'
  have ha':(now.set a (x - 1))[a]?=some (x - 1):=by rw [List.getElem?_set,if_pos rfl,if_pos hal]
  obtain ⟨b,ia,la⟩:=vW (f:=fun n:Nat=>Value.int .u8 (n:Nat)) h2.tail ha'
  rw [LV h2,ia,AF,la,AH]
  have:decide (((x - 1:Nat):Int)=0)=decide (x=1):=by by_cases e:x=1<;>simp [e]; omega
  rw [this]
  exact hQ hx σ' h'
 apply Z9; unfold Q4
 obtain ⟨nv,wv,fv,sb,h1,h2⟩:=US.1 h
 obtain ⟨b,ia,la⟩:=vW (f:=fun n:Nat=>Value.int .u8 (n:Nat)) h2.tail ha
 obtain ⟨x',y,hx',hy,hx8,_⟩:=h1.at hal
 rw [ha] at hx'; cases hx'
 rw [LV h2,ia,AF,la,AH]
 refine bu8 ((x - 1:Nat):Int) (by omega) ?_
 rw [← ia .i64]
 have h3:H (A5 AI 1 nv now.length (n8 now)::pt rb (.cells [nv,wv,fv,.pointer (some ⟨sb,0,none⟩)] BL false)::A5 AI 1 wv was.length (n8 was)::A5 CG 1 fv (OI now was).length ((OI now was).map .bool)::bG sb (O4 now was)::l) σ:=h2.re
 refine gst (f:=fun n:Nat=>Value.int .u8 (n:Nat)) (y:=x - 1) h3 rfl hal ?_
 intro σ2 h4
 have h4:H (A5 AI 1 nv (now.set a (x - 1)).length (n8 (now.set a (x - 1)))::pt rb (.cells [nv,wv,fv,.pointer (some ⟨sb,0,none⟩)] BL false)::A5 AI 1 wv was.length (n8 was)::A5 CG 1 fv (OI now was).length ((OI now was).map .bool)::bG sb (O4 now was)::l) σ2:=h4
 have ha':(now.set a (x - 1))[a]?=some (x - 1):=by rw [List.getElem?_set,if_pos rfl,if_pos hal]
 obtain ⟨b2,ia2,la2⟩:=vW (f:=fun n:Nat=>Value.int .u8 (n:Nat)) h4 ha'
 rw [LV h4,ia2,AF,la2,AH]
 have same:∀ τ,(x - 1≠0∨y≠0)→H (A5 AI 1 nv (now.set a (x - 1)).length (n8 (now.set a (x - 1)))::pt rb (.cells [nv,wv,fv,.pointer (some ⟨sb,0,none⟩)] BL false)::A5 AI 1 wv was.length (n8 was)::A5 CG 1 fv (OI now was).length ((OI now was).map .bool)::bG sb (O4 now was)::l) τ→H (WE rb (now.set a (x - 1)) was::l) τ:=by
  intro τ hor ht
  have e1:O4 (now.set a (x - 1)) was=O4 now was:=by
   rw [ZP hy]
   apply set_self
   rw [OZ ha hy]
   have:(x == 0)=false:=by simpa using hx
   rw [this]
   rcases hor with hor | hor
   ·have:(x - 1 == 0)=false:=by simpa using hor
    rw [this]
   ·have:(y == 0)=false:=by simpa using hor
    rw [this]; simp
  have e2:OI (now.set a (x - 1)) was=OI now was:=by
   rw [dH hy]
   apply set_self
   rw [dK ha hy]
   have h0:(x != 0)=true:=by simpa using hx
   rw [h0]
   rcases hor with hor | hor
   ·have:(x - 1 != 0)=true:=by simpa using hor
    rw [this]
   ·have:(y == 0)=false:=by simpa using hor
    rw [this]; simp
  refine US.2 ⟨nv,wv,fv,sb,h1.set (by omega),?_⟩
  unfold RfL
  rw [e1,e2]
  exact ht.re
 refine AT (fun g=>?_) fun g=>?_
 ·have hx1:x=1:=by omega
  subst hx1
  have h5:H (A5 CG 1 fv (OI now was).length ((OI now was).map .bool)::A5 AI 1 nv (now.set a (1 - 1)).length (n8 (now.set a (1 - 1)))::pt rb (.cells [nv,wv,fv,.pointer (some ⟨sb,0,none⟩)] BL false)::A5 AI 1 wv was.length (n8 was)::bG sb (O4 now was)::l) σ2:=h4.re
  have hfr:=dK ha hy
  obtain ⟨b3,ia3,la3⟩:=vW h5 hfr
  rw [LV h4,ia3,AF,la3,BY]
  unfold F9
  refine iK (fun g2=>?_) fun g2=>?_
  ·have hy0:y=0:=by simpa using g2
   subst hy0
   rw [LV h4]
   refine gst (f:=Value.bool) (y:=false) h5 rfl (by rw [dC h1.eq]; exact hal) ?_
   intro σ3 h6
   rw [LV h6]
   have h7:H (bG sb (O4 now was)::A5 CG 1 fv ((OI now was).set a false).length (((OI now was).set a false).map .bool)::A5 AI 1 nv (now.set a (1 - 1)).length (n8 (now.set a (1 - 1)))::pt rb (.cells [nv,wv,fv,.pointer (some ⟨sb,0,none⟩)] BL false)::A5 AI 1 wv was.length (n8 was)::l) σ3:=h6.re
   have:=h1.hi
   refine ACi h7 (by rw [OZ ha hy]; rfl) (by rw [X9 h1.eq]; omega) ?_
   intro σ4 h8
   rw [A6]
   unfold EG
   refine fin σ4 (US.2 ⟨nv,wv,fv,sb,h1.set (by omega),?_⟩)
   have e1:O4 (now.set a (1 - 1)) was=(O4 now was).set a true:=by rw [ZP hy]; rfl
   have e2:OI (now.set a (1 - 1)) was=(OI now was).set a false:=by rw [dH hy]; rfl
   unfold RfL
   rw [e1,e2]
   exact h8.re
  ·unfold EG
   exact fin σ2 (same σ2 (.inr (by simpa using g2)) h4)
 ·unfold F9
  refine C8 rfl ?_
  unfold EG
  exact fin σ2 (same σ2 (.inl (by omega)) h4)
theorem rV {rb a x:Nat} {now was:List Nat} (h:H (WE rb now was::l) σ) (ha:now[a]?=some x) (hQ:Q (.ret (.int .i64 x)) σ):E HM [.pointer (some ⟨rb,0,none⟩),.int .i64 a] σ Q:=by
 apply ZD; unfold O1
 refine ZW h ?_
 rw [E8]
 refine C8 rfl ?_
 have hal:=(List.getElem?_eq_some_iff.1 ha).1
 obtain ⟨nv,wv,fv,sb,h1,h2⟩:=US.1 h
 refine AT (fun g=>absurd g (by omega)) fun _=>?_
 rw [LV h2,HE h2.tail,AH]
 unfold FS
 refine C8 (by simp; omega) ?_
 obtain ⟨b,ia,la⟩:=vW (f:=fun n:Nat=>Value.int .u8 (n:Nat)) h2.tail ha
 rw [LV h2,ia,AF,la,AH]
 have:=h1.now8 x (List.mem_of_getElem? ha)
 refine GA (x:Int) (by omega) ?_
 exact hQ
theorem AB5 {rb a x y:Nat} {now was:List Nat} (h:H (WE rb now was::l) σ) (ha:now[a]?=some x) (hy:was[a]?=some y) (hQ:Q (.ret (.bool (x != 0 && y == 0))) σ):E J1 [.pointer (some ⟨rb,0,none⟩),.int .i64 a] σ Q:=by
 apply Y1; unfold PB
 refine ZW h ?_
 rw [E8]
 refine IM rfl ?_
 have hal:=(List.getElem?_eq_some_iff.1 ha).1
 obtain ⟨nv,wv,fv,sb,h1,h2⟩:=US.1 h
 refine AT (fun _=>?_) fun g=>absurd (by omega) g
 rw [LV h2,HE h2.tail,AH]
 refine AT (fun _=>?_) fun g=>absurd (by omega) g
 have h3:H (A5 CG 1 fv (OI now was).length ((OI now was).map .bool)::l) σ:=h2.re
 obtain ⟨b,ia,la⟩:=vW h3 (dK ha hy)
 rw [LV h2,ia,AF,la,BY]
 exact hQ
theorem ADL {rb:Nat} {now was:List Nat} (h:H (WE rb now was::l) σ) (hQ:Q (.ret (.int .i64 (OH (O4 now was)))) σ):E GI [.pointer (some ⟨rb,0,none⟩)] σ Q:=by
 apply Z6; unfold QN
 refine ZW h ?_
 rw [E8]
 refine C8 rfl ?_
 obtain ⟨nv,wv,fv,sb,h1,h2⟩:=US.1 h
 rw [LV h2]
 refine ACN (h2.re:H (bG sb (O4 now was)::l) σ) ?_
 rw [A6]
 exact hQ
end Go.Ax.C
set_option maxRecDepth 100000
namespace Go.Ax.C
open Go.Proofs Go.RowKit
variable {l r m:List AJ} {σ:AHeap} {Q:RK}
theorem tK {rb:Nat} {nv wv fv spv:Value} {now ws:List Nat} (h:H (pt rb (.cells [nv,wv,fv,spv] BL false)::A5 AI 1 nv now.length (n8 now)::A5 AI 1 wv ws.length (n8 ws)::l) σ) (hw:ws.length=now.length) (hlo:1≤now.length) (hhi:now.length≤1024) (h8:∀ x∈now,x<256)
 (hQ:∀ σ',H (WE rb now now::l) σ'→Q (.ret (.tuple #[])) σ'):E GW [.pointer (some ⟨rb,0,none⟩)] σ Q:=by
 apply XA; unfold N5
 rw [LV h,LV h]
 obtain ⟨b1,c1,rfl,_,_⟩:=h.own_form 1 rfl (by omega)
 obtain ⟨b2,c2,rfl,_,_⟩:=h.own_form 2 rfl (by omega)
 have hs:=(h.own_src 1 rfl).1
 have hs':DC 1 (.slice (some ⟨b1,0,none⟩) (Nat.min now.length ws.length) c1) σ=some (now.length,n8 now):=by
  rw [show Nat.min now.length ws.length=now.length by rw [hw]; exact Nat.min_self _]; exact hs
 refine m5 h 2 rfl (by omega) hs' (ACE _) (by simp; omega) ?_
 intro σ1 h1
 have e0:splice (n8 ws) 0 (n8 now)=n8 now:=by
  unfold splice
  rw [List.take_zero,List.nil_append,List.drop_of_length_le (by simp; omega),List.append_nil]
 rw [e0] at h1
 have h1:H (pt rb (.cells [.slice (some ⟨b1,0,none⟩) now.length c1,.slice (some ⟨b2,0,none⟩) ws.length c2,fv,spv] BL false)::A5 AI 1 (.slice (some ⟨b1,0,none⟩) now.length c1) now.length (n8 now)::A5 AI 1 (.slice (some ⟨b2,0,none⟩) ws.length c2) now.length (n8 now)::l) σ1:=by rw [← hw]; rw [← hw] at h1; exact h1
 rw [LV h1,NR,AH]
 refine RR h1 (by omega) ?_
 intro fb σ2 h2
 have e0:reps ((now.length:Int).toNat) [.bool false]=(OI now now).map .bool:=by
  rw [QO]
  have:OI now now=List.replicate now.length false:=by
   unfold OI
   apply List.ext_getElem?
   intro i
   rw [List.getElem?_zipWith,List.getElem?_replicate]
   cases hi:now[i]? with
   | none=>have:=List.getElem?_eq_none_iff.1 hi; simp; omega
   | some x =>
     have:=(List.getElem?_eq_some_iff.1 hi).1
     simp [this]
  simp [this]
 have h2:=(h2.unsnoc.to_own (n:=now.length) (z:=1) 0 rfl (by rw [e0]; simp [dC]) (by unfold AX; omega))
 rw [e0] at h2
 simp only [Int.toNat_natCast]
 have h2:H (A5 CG 1 (.slice (some ⟨fb,0,none⟩) now.length now.length) (OI now now).length ((OI now now).map .bool)::pt rb (.cells [.slice (some ⟨b1,0,none⟩) now.length c1,.slice (some ⟨b2,0,none⟩) ws.length c2,fv,spv] BL false)::A5 AI 1 (.slice (some ⟨b1,0,none⟩) now.length c1) now.length (n8 now)::A5 AI 1 (.slice (some ⟨b2,0,none⟩) ws.length c2) now.length (n8 now)::l) σ2:=by rw [dC rfl]; exact h2
 refine st h2 rfl ?_
 intro σ3 h3
 rw [LV h3,NR,AH]
 refine AEC h3 hhi ?_
 intro sb σ4 h4
 rw [BQ,AP]
 refine st h4 rfl ?_
 intro σ5 h5
 rw [LV h5,NR,AH]
 refine ⟨fun m i τ=>∃ (k:Nat) (is:List Bool),i=k∧m=now.length - k∧k≤now.length∧is.length=now.length∧(∀ j,k≤j→j<now.length→is[j]?=some true)∧(∀ j<k,is[j]?=(O4 now now)[j]?) ∧
  H (pt rb (.cells [.slice (some ⟨b1,0,none⟩) now.length c1,.slice (some ⟨b2,0,none⟩) now.length c2,.slice (some ⟨fb,0,none⟩) now.length now.length,.pointer (some ⟨sb,0,none⟩)] BL false)::bG sb is::A5 CG 1 (.slice (some ⟨fb,0,none⟩) now.length now.length) (OI now now).length ((OI now now).map .bool)::A5 AI 1 (.slice (some ⟨b1,0,none⟩) now.length c1) now.length (n8 now)::A5 AI 1 (.slice (some ⟨b2,0,none⟩) now.length c2) now.length (n8 now)::l) τ,
  ⟨_,0,List.replicate now.length true,rfl,rfl,by omega,by simp,fun j _ hj=>by simp [List.getElem?_replicate,hj],fun j hj=>by omega,by rw [← hw]; rw [← hw] at h5; exact h5⟩,?_⟩
 clear h h1 h2 h3 h4 h5 hs hs'
 rintro m _ τ ⟨k,is,rfl,hm,hk,hil,hge,hlt,h⟩
 unfold KI
 have hge':∀ j,k+1≤j→j<now.length→is[j]?=some true:=fun j hj hj2=>hge j (by omega) hj2
 refine AT (fun g=>?_) fun g=>?_
 ·have hkl:k<now.length:=by omega
  have hx:=List.getElem?_eq_getElem hkl
  have hh:H (A5 AI 1 (.slice (some ⟨b1,0,none⟩) now.length c1) now.length (n8 now)::l) τ:=h.re
  obtain ⟨b,ia,la⟩:=vW (f:=fun n:Nat=>Value.int .u8 (n:Nat)) hh hx
  rw [ia,AF,la,AH]
  have hfk:(O4 now now)[k]?=some (now[k] == 0):=by rw [OZ hx hx]; simp
  refine AT (fun g2=>?_) fun g2=>?_
  ·rw [LV h]
   have h6:H (bG sb is::pt rb (.cells [.slice (some ⟨b1,0,none⟩) now.length c1,.slice (some ⟨b2,0,none⟩) now.length c2,.slice (some ⟨fb,0,none⟩) now.length now.length,.pointer (some ⟨sb,0,none⟩)] BL false)::A5 CG 1 (.slice (some ⟨fb,0,none⟩) now.length now.length) (OI now now).length ((OI now now).map .bool)::A5 AI 1 (.slice (some ⟨b1,0,none⟩) now.length c1) now.length (n8 now)::A5 AI 1 (.slice (some ⟨b2,0,none⟩) now.length c2) now.length (n8 now)::l) τ:=h.re
   refine AAV h6 (hge k (Nat.le_refl _) hkl) (by omega) ?_
   intro σ7 h7
   rw [A6]
   unfold E4
   refine GA ((k+1:Nat):Int) (by omega) ?_
   refine ⟨now.length - (k+1),by omega,k+1,is.set k false,rfl,rfl,by omega,by simpa using hil,fun j hj hj2=>?_,fun j hj=>?_,h7.re⟩
   ·rw [List.getElem?_set,if_neg (by omega)]; exact hge' j hj hj2
   ·rw [List.getElem?_set]
    by_cases e:k=j
    ·subst e
     rw [if_pos rfl,if_pos (by omega),hfk]
     have:¬ now[k]=0:=by omega
     simp [this]
    ·rw [if_neg e]; exact hlt j (by omega)
  ·unfold E4
   refine GA ((k+1:Nat):Int) (by omega) ?_
   refine ⟨now.length - (k+1),by omega,k+1,is,rfl,rfl,by omega,hil,hge',fun j hj=>?_,h⟩
   by_cases e:k=j
   ·subst e
    rw [hge k (Nat.le_refl _) hkl,hfk]
    have:now[k]=0:=by omega
    simp [this]
   ·exact hlt j (by omega)
 ·have hkn:k=now.length:=by omega
  have his:is=O4 now now:=by
   apply List.ext_getElem?
   intro j
   by_cases hj:j<k
   ·exact hlt j hj
   ·rw [List.getElem?_eq_none (by omega),List.getElem?_eq_none (by rw [X9 rfl]; omega)]
  subst his
  exact hQ τ (US.2 ⟨.slice (some ⟨b1,0,none⟩) now.length c1,.slice (some ⟨b2,0,none⟩) now.length c2,.slice (some ⟨fb,0,none⟩) now.length now.length,sb,⟨hlo,hhi,rfl,h8,h8⟩,h.re⟩)
theorem ABR {rb:Nat} {now was:List Nat} (h:H (WE rb now was::l) σ) (hQ:∀ σ',H (WE rb now now::l) σ'→Q (.ret (.int .i64 0)) σ'):E EW [.pointer (some ⟨rb,0,none⟩)] σ Q:=by
 apply W1; unfold OB
 refine ZW h ?_
 rw [E8]
 refine C8 rfl ?_
 obtain ⟨nv,wv,fv,sb,h1,h2⟩:=US.1 h
 have h3:H (pt rb (.cells [nv,wv,fv,.pointer (some ⟨sb,0,none⟩)] BL false)::A5 AI 1 nv now.length (n8 now)::A5 AI 1 wv was.length (n8 was)::l) σ:=h2.re
 refine tK h3 h1.eq h1.lo h1.hi h1.now8 ?_
 intro σ1 h4
 rw [B5]
 exact hQ σ1 h4
theorem AEn {v:Value} {now:List Nat} (h:H (A5 AI 1 v now.length (n8 now)::l) σ) (hlo:1≤now.length) (hhi:now.length≤1024) (h8:∀ x∈now,x<256)
 (hQ:∀ rb σ',H (WE rb now now::A5 AI 1 v now.length (n8 now)::l) σ'→Q (.ret (.tuple #[.pointer (some ⟨rb,0,none⟩),.int .i64 0])) σ'):E XD [v] σ Q:=by
 apply rB; unfold fC
 rw [HE h,AH]
 refine AT (fun g=>absurd g (by omega)) fun _=>?_
 rw [AH]
 unfold PX
 refine C8 (by simp; omega) ?_
 rw [HE h,AH]
 obtain ⟨hs,_,a,c,hv⟩:=h.own_src 0 rfl
 subst hv
 rw [sA h8] at hs
 have fin:∀ (w:Value) (mb:Nat) (τ:AHeap) (K:RK),(∀ rb σ',H (WE rb now now::A5 AI 1 (.slice a now.length c) now.length (n8 now)::l) σ'→K (.ret (.tuple #[.pointer (some ⟨rb,0,none⟩),.int .i64 0])) σ') →
  H (pt mb (.cells (reps ((now.length:Int).toNat) [.int .u8 0]) AI false)::A5 AI 1 w now.length (n8 now)::A5 AI 1 (.slice a now.length c) now.length (n8 now)::l) τ →
  On w (On (.slice (some ⟨mb,0,none⟩) ((now.length:Int).toNat) ((now.length:Int).toNat)) (BB τ (.cells [w,.slice (some ⟨mb,0,none⟩) ((now.length:Int).toNat) ((now.length:Int).toNat),.slice none 0 0,.pointer none] BL false) fun b14 τ15=>LP E K b14 τ15)):=by
  intro w mb τ K hK ht
  refine FA (O.RN ht (i:=1) rfl) (FA rfl ?_)
  have e0:reps ((now.length:Int).toNat) [.int .u8 0]=n8 (List.replicate now.length 0):=by rw [QO]; simp
  rw [e0] at ht
  have ht:=ht.to_own (n:=now.length) (z:=1) 0 rfl (by simp) (by unfold AX; omega)
  simp only [Int.toNat_natCast]
  have ht:H (A5 AI 1 (.slice (some ⟨mb,0,none⟩) now.length now.length) now.length (n8 (List.replicate now.length 0))::A5 AI 1 w now.length (n8 now)::A5 AI 1 (.slice a now.length c) now.length (n8 now)::l) τ:=ht
  refine nw ht ?_
  intro rb τ1 h1
  unfold LP
  have h2:H (pt rb (.cells [w,.slice (some ⟨mb,0,none⟩) now.length now.length,.slice none 0 0,.pointer none] BL false)::A5 AI 1 w now.length (n8 now)::A5 AI 1 (.slice (some ⟨mb,0,none⟩) now.length now.length) (List.replicate now.length 0).length (n8 (List.replicate now.length 0))::A5 AI 1 (.slice a now.length c) now.length (n8 now)::l) τ1:=by
   have e:(List.replicate now.length 0).length=now.length:=List.length_replicate
   rw [e]
   exact h1.re
  refine tK h2 (by simp) hlo hhi h8 ?_
  intro σ3 h3
  rw [B5]
  exact hK rb σ3 h3
 constructor
 ·refine O.up (O.L7 h hs (by omega) ?_)
  intro w σ1 h1
  rw [← sA h8] at h1
  have h1:=h1.unsnoc
  rw [B4,AH,CK]
  refine RR h1 (by omega) ?_
  intro mb σ2 h2
  exact fin w mb σ2 Q hQ h2.unsnoc
 ·refine RR h (by omega) ?_
  intro mb σ1 h1
  have h1:=h1.unsnoc
  refine O.up (O.L7 (bs:=now.map UInt8.ofNat) h1 ?_ (by omega) ?_)
  ·have:=(h1.own_src 1 rfl).1
   rw [sA h8] at this
   exact this
  intro w σ2 h2
  rw [← sA h8] at h2
  have h2:=h2.unsnoc
  rw [B4,AH,CK]
  exact fin w mb σ2 Q hQ (h2.perm (.swap _ _ _))
end Go.Ax.C
set_option linter.unusedVariables false
set_option maxRecDepth 100000
namespace Go.Ax.C
open Go.Proofs
def f8 (E:BP) (Q:RK) (x0 x1:Nat) (σ:AHeap):Prop :=
 If false (
 Q (.ret (.pointer none)) σ) (
 BB σ (.cells [(.pointer (some ⟨x0,0,none⟩)),(.pointer (some ⟨x1,0,none⟩))] DW false) fun b11 τ12 =>
 Q (.ret (.pointer (some ⟨b11,0,none⟩))) τ12)
theorem qL {Q:RK} {x0 x1:Nat} {σ:AHeap} (h:f8 E Q x0 x1 σ):E dY [(.pointer (some ⟨x0,0,none⟩)),(.pointer (some ⟨x1,0,none⟩))] σ Q :=
 BT Tryz.func28 (fun _=>none) (fun _=>.v) (by kernel_rfl) (Eq.mpr (by kernel_rfl) h)
def HD (E:BP) (Q:RK) (c6:Bool) (n8:Int) (τ5:AHeap):Prop :=
 If c6 (
 Q (.ret (.int .i64 2)) τ5) (
 If (decide (2147483647<n8)) (
 Q (.ret (.int .i64 1)) τ5) (
 Q (.ret (.int .i64 0)) τ5))
def NU (E:BP) (Q:RK) (x0:Nat) (x1:Int) (σ:AHeap):Prop :=
 om (L x0 0 σ) fun v3 =>
 DJ (BA (some (.pointer BL)) .eql v3 (.pointer none)) fun c4 =>
 If c4 (
 (HD E Q true x1 σ)) (
 om (L x0 1 σ) fun v12 =>
 DJ (BA (some (.pointer AU)) .eql v12 (.pointer none)) fun c13 =>
 (HD E Q c13 x1 σ))
theorem XB {Q:RK} {x0:Nat} {x1:Int} {σ:AHeap} (h:NU E Q x0 x1 σ):E CZ [(.pointer (some ⟨x0,0,none⟩)),(.int .u64 x1)] σ Q :=
 BT Tryz.func63 (fun _=>none) (fun _=>.v) (by kernel_rfl) (Eq.mpr (by kernel_rfl) h)
def O9 (E:BP) (Q:RK) (x0:Nat) (x1:Int) (σ:AHeap):Prop :=
 BB σ (.cells [(.bool false),(.slice none 0 0),(.slice none 0 0)] AE false) fun b1 τ2 =>
 E CZ [(.pointer (some ⟨x0,0,none⟩)),(.int .u64 x1)] τ2 (cI Q .i64 fun n7 τ6 =>
 If (!decide (n7=0)) (
 pu (AN 3 (.pointer (some ⟨b1,0,none⟩)) (.agg #[(.bool false),(.slice none 0 0),(.slice none 0 0)]) τ6) fun τ16 =>
 pu (AD true 3 (.pointer (some ⟨b1,0,none⟩)) τ16) fun v17 =>
 Q (.ret (.tuple #[v17,(.int .i64 n7)])) τ16) (
 om (L x0 1 τ6) fun v22 =>
 Bi (F3 (x1)) fun n26 =>
 E FT [v22,(.int .i64 n26)] τ6 (c2 Q fun v28 v29 τ27 =>
 tI .i64 (fun n30 =>
 If (!decide (n30=0)) (
 pu (AN 3 (.pointer (some ⟨b1,0,none⟩)) (.agg #[(.bool false),(.slice none 0 0),(.slice none 0 0)]) τ27) fun τ39 =>
 pu (AD true 3 (.pointer (some ⟨b1,0,none⟩)) τ39) fun v40 =>
 Q (.ret (.tuple #[v40,(.int .i64 n30)])) τ39) (
 Bi (F3 (x1)) fun n48 =>
 E R6 [v28,(.int .i64 n48),(.int .u8 1)] τ27 (c2 Q fun v50 v51 τ49 =>
 tI .i64 (fun n52 =>
 If (!decide (n52=0)) (
 pu (AN 3 (.pointer (some ⟨b1,0,none⟩)) (.agg #[(.bool false),(.slice none 0 0),(.slice none 0 0)]) τ49) fun τ61 =>
 pu (AD true 3 (.pointer (some ⟨b1,0,none⟩)) τ61) fun v62 =>
 Q (.ret (.tuple #[v62,(.int .i64 n52)])) τ61) (
 E TN [v50] τ49 (c2 Q fun v68 v69 τ67 =>
 tI .i64 (fun n70 =>
 pu (AN 3 (.pointer (some ⟨b1,0,none⟩)) v68 τ67) fun τ72 =>
 pu (AD true 3 (.pointer (some ⟨b1,0,none⟩)) τ72) fun v73 =>
 Q (.ret (.tuple #[v73,(.int .i64 n70)])) τ72) v69))) v51))) v29)))
theorem YC {Q:RK} {x0:Nat} {x1:Int} {σ:AHeap} (h:O9 E Q x0 x1 σ):E FD [(.pointer (some ⟨x0,0,none⟩)),(.int .u64 x1)] σ Q :=
 BT Tryz.func18 (fun _=>none) (fun _=>.v) (by kernel_rfl) (Eq.mpr (by kernel_rfl) h)
def PC (E:BP) (Q:RK) (x0:Nat) (x1:Int) (x2_0:Bool) (x2_1 x2_2:Value) (σ:AHeap):Prop :=
 BB σ (.cells [(.bool x2_0),x2_1,x2_2] AE false) fun b1 τ2 =>
 E CZ [(.pointer (some ⟨x0,0,none⟩)),(.int .u64 x1)] τ2 (cI Q .i64 fun n7 τ6 =>
 If (!decide (n7=0)) (
 Q (.ret (.int .i64 n7)) τ6) (
 DJ (L b1 0 τ6) fun c18 =>
 om (L b1 1 τ6) fun v19 =>
 om (L b1 2 τ6) fun v20 =>
 E XP [(.agg #[(.bool c18),v19,v20])] τ6 (c2 Q fun v22 v23 τ21 =>
 tI .i64 (fun n24 =>
 If (!decide (n24=0)) (
 Q (.ret (.int .i64 n24)) τ21) (
 Bi (F3 (x1)) fun n40 =>
 E RF [v22,(.int .i64 n40),(.int .u8 1)] τ21 (c2 Q fun v42 v43 τ41 =>
 tI .i64 (fun n44 =>
 If (!decide (n44=0)) (
 Q (.ret (.int .i64 n44)) τ41) (
 om (L x0 1 τ41) fun v60 =>
 Bi (F3 (x1)) fun n64 =>
 E EB [v60,(.int .i64 n64),v42] τ41 (cI Q .i64 fun n69 τ68 =>
 Q (.ret (.int .i64 n69)) τ68))) v43))) v23)))
theorem ZO {Q:RK} {x0:Nat} {x1:Int} {x2_0:Bool} {x2_1 x2_2:Value} {σ:AHeap} (h:PC E Q x0 x1 x2_0 x2_1 x2_2 σ):E B9 [(.pointer (some ⟨x0,0,none⟩)),(.int .u64 x1),(.agg #[(.bool x2_0),x2_1,x2_2])] σ Q :=
 BT Tryz.func17 (fun _=>none) (fun _=>.v) (by kernel_rfl) (Eq.mpr (by kernel_rfl) h)
def PD (E:BP) (Q:RK) (x0:Nat) (x1_0:Bool) (x1_1 x1_2:Value) (σ:AHeap):Prop :=
 BB σ (.cells [(.bool x1_0),x1_1,x1_2] AE false) fun b1 τ2 =>
 E CZ [(.pointer (some ⟨x0,0,none⟩)),(.int .u64 0)] τ2 (cI Q .i64 fun n6 τ5 =>
 If (!decide (n6=0)) (
 Q (.ret (.tuple #[(.int .u64 0),(.int .i64 n6)])) τ5) (
 DJ (L b1 0 τ5) fun c17 =>
 om (L b1 1 τ5) fun v18 =>
 om (L b1 2 τ5) fun v19 =>
 E RY [(.agg #[(.bool c17),v18,v19])] τ5 (cB Q fun c21 τ20 =>
 If (!c21) (
 Q (.ret (.tuple #[(.int .u64 0),(.int .i64 1)])) τ20) (
 om (L x0 0 τ20) fun v30 =>
 E ED [v30] τ20 (c2 Q fun v32 v34 τ31 =>
 tI .i64 (fun n33 =>
 tI .i64 (fun n35 =>
 If (!decide (n35=0)) (
 Q (.ret (.tuple #[(.int .u64 0),(.int .i64 n35)])) τ31) (
 Bi (VN (n33)) fun n48 =>
 DJ (L b1 0 τ31) fun c54 =>
 om (L b1 1 τ31) fun v55 =>
 om (L b1 2 τ31) fun v56 =>
 E B9 [(.pointer (some ⟨x0,0,none⟩)),(.int .u64 n48),(.agg #[(.bool c54),v55,v56])] τ31 (cI Q .i64 fun n58 τ57 =>
 If (!decide (n58=0)) (
 Q (.ret (.tuple #[(.int .u64 0),(.int .i64 n58)])) τ57) (
 Bi (VN (n33)) fun n68 =>
 Q (.ret (.tuple #[(.int .u64 n68),(.int .i64 0)])) τ57)))) v34) v32)))))
theorem YP {Q:RK} {x0:Nat} {x1_0:Bool} {x1_1 x1_2:Value} {σ:AHeap} (h:PD E Q x0 x1_0 x1_1 x1_2 σ):E FG [(.pointer (some ⟨x0,0,none⟩)),(.agg #[(.bool x1_0),x1_1,x1_2])] σ Q :=
 BT Tryz.func19 (fun _=>none) (fun _=>.v) (by kernel_rfl) (Eq.mpr (by kernel_rfl) h)
def EC (E:BP) (Q:RK) (b181:Nat) (n183:Int) (b194:Nat) (n203:Int) (b208:Nat) (τ180:AHeap):Prop :=
 om (L b181 0 τ180) fun v182 =>
 E DI [v182,(.int .i64 n183)] τ180 (c2 Q fun v185 v187 τ184 =>
 tB (fun c186 =>
 tI .i64 (fun n188 =>
 If (!decide (n188=0)) (
 pu (AN 3 (.pointer (some ⟨b194,0,none⟩)) (.agg #[(.bool false),(.slice none 0 0),(.slice none 0 0)]) τ184) fun τ197 =>
 pu (AD true 3 (.pointer (some ⟨b194,0,none⟩)) τ197) fun v198 =>
 Q (.ret (.tuple #[(.int .u64 0),v198,(.int .i64 n188)])) τ197) (
 Bi (VN (n203)) fun n207 =>
 DJ (L b208 0 τ184) fun c212 =>
 om (L b208 1 τ184) fun v213 =>
 om (L b208 2 τ184) fun v214 =>
 E B9 [(.pointer (some ⟨b181,0,none⟩)),(.int .u64 n207),(.agg #[(.bool c212),v213,v214])] τ184 (cI Q .i64 fun n216 τ215 =>
 If (!decide (n216=0)) (
 pu (AN 3 (.pointer (some ⟨b194,0,none⟩)) (.agg #[(.bool false),(.slice none 0 0),(.slice none 0 0)]) τ215) fun τ225 =>
 pu (AD true 3 (.pointer (some ⟨b194,0,none⟩)) τ225) fun v226 =>
 Q (.ret (.tuple #[(.int .u64 0),v226,(.int .i64 n216)])) τ225) (
 Bi (VN (n203)) fun n231 =>
 DJ (L b208 0 τ215) fun c235 =>
 om (L b208 1 τ215) fun v236 =>
 om (L b208 2 τ215) fun v237 =>
 pu (AN 3 (.pointer (some ⟨b194,0,none⟩)) (.agg #[(.bool c235),v236,v237]) τ215) fun τ239 =>
 pu (AD true 3 (.pointer (some ⟨b194,0,none⟩)) τ239) fun v240 =>
 Q (.ret (.tuple #[(.int .u64 n231),v240,(.int .i64 0)])) τ239)))) v187) v185)
def KD (N1:Int→AHeap→Prop) (E:BP) (Q:RK) (b101 b105 b107:Nat) (n110 n116:Int) (v118:Value) (n120 n98:Int) (τ121:AHeap):Prop :=
 If (decide (n98<n120)) (
 om (AG 1 v118 (.int .i64 n98)) fun v129 =>
 A3 .u64 (AD false 1 v129 τ121) fun n130 =>
 om (L b101 0 τ121) fun v135 =>
 Bi (F3 (n130)) fun n137 =>
 E FB [v135,(.int .i64 n137)] τ121 (cI Q .i64 fun n139 τ138 =>
 If (!decide (n139=0)) (
 pu (AN 3 (.pointer (some ⟨b105,0,none⟩)) (.agg #[(.bool false),(.slice none 0 0),(.slice none 0 0)]) τ138) fun τ150 =>
 pu (AD true 3 (.pointer (some ⟨b105,0,none⟩)) τ150) fun v171 =>
 Q (.ret (.tuple #[(.int .u64 0),v171,(.int .i64 n139)])) τ150) (
 Bi (F3 (n98+1)) fun n174 =>
 N1 n174 τ138))) (
 (EC E Q b101 n110 b105 n116 b107 τ121))
def DH (E:BP) (Q:RK) (c41:Bool) (n43:Int) (b48 b54 b58:Nat) (n81:Int) (τ40:AHeap):Prop :=
 If c41 (
 DJ (L b48 0 τ40) fun c49 =>
 om (L b48 1 τ40) fun v50 =>
 om (L b48 2 τ40) fun v51 =>
 pu (AN 3 (.pointer (some ⟨b54,0,none⟩)) (.agg #[(.bool c49),v50,v51]) τ40) fun τ55 =>
 pu (AD true 3 (.pointer (some ⟨b54,0,none⟩)) τ55) fun v56 =>
 Q (.ret (.tuple #[(.int .u64 n43),v56,(.int .i64 0)])) τ55) (
 om (L b58 0 τ40) fun v60 =>
 E ED [v60] τ40 (c2 Q fun v62 v64 τ61 =>
 tI .i64 (fun n63 =>
 tI .i64 (fun n65 =>
 If (!decide (n65=0)) (
 pu (AN 3 (.pointer (some ⟨b54,0,none⟩)) (.agg #[(.bool false),(.slice none 0 0),(.slice none 0 0)]) τ61) fun τ74 =>
 pu (AD true 3 (.pointer (some ⟨b54,0,none⟩)) τ74) fun v75 =>
 Q (.ret (.tuple #[(.int .u64 0),v75,(.int .i64 n65)])) τ74) (
 om (L b58 0 τ61) fun v80 =>
 E HM [v80,(.int .i64 n81)] τ61 (cI Q .i64 fun n87 τ86 =>
 If (decide (1<n87)) (
 om (L b48 2 τ86) fun v95 =>
 A3 .i64 (BJ v95) fun n96 =>
 ∃ I241:Nat→Int→AHeap→Prop,(∃ m,I241 m 0 τ86) ∧
 ∀ m (n98:Int) (σ':AHeap),I241 m n98 σ'→(KD (fun n98 σ'=>∃ m',m'<m∧I241 m' n98 σ') E Q b58 b54 b48 n81 n63 v95 n96 n98 σ')) (
 (EC E Q b58 n81 b54 n63 b48 τ86))))) v64) v62))
def M9 (E:BP) (Q:RK) (x0:Nat) (x1:Int) (σ:AHeap):Prop :=
 BB σ (.cells [(.bool false),(.slice none 0 0),(.slice none 0 0)] AE false) fun b1 τ2 =>
 E FD [(.pointer (some ⟨x0,0,none⟩)),(.int .u64 x1)] τ2 (c2 Q fun v7 v8 τ6 =>
 tI .i64 (fun n9 =>
 BB τ6 (.cells [(.bool false),(.slice none 0 0),(.slice none 0 0)] AE false) fun b10 τ11 =>
 pu (AN 3 (.pointer (some ⟨b10,0,none⟩)) v7 τ11) fun τ12 =>
 If (!decide (n9=0)) (
 pu (AN 3 (.pointer (some ⟨b1,0,none⟩)) (.agg #[(.bool false),(.slice none 0 0),(.slice none 0 0)]) τ12) fun τ21 =>
 pu (AD true 3 (.pointer (some ⟨b1,0,none⟩)) τ21) fun v22 =>
 Q (.ret (.tuple #[(.int .u64 0),v22,(.int .i64 n9)])) τ21) (
 Bi (F3 (x1)) fun n27 =>
 om (L x0 0 τ12) fun v33 =>
 E J1 [v33,(.int .i64 n27)] τ12 (cB Q fun c36 τ35 =>
 If c36 (
 om (L x0 0 τ35) fun v37 =>
 E HM [v37,(.int .i64 n27)] τ35 (cI Q .i64 fun n39 τ38 =>
 (DH E Q (decide (n39=1)) x1 b10 b1 x0 n27 τ38))) (
 (DH E Q false x1 b10 b1 x0 n27 τ35))))) v8)
theorem VW {Q:RK} {x0:Nat} {x1:Int} {σ:AHeap} (h:M9 E Q x0 x1 σ):E EK [(.pointer (some ⟨x0,0,none⟩)),(.int .u64 x1)] σ Q :=
 BT Tryz.func25 (hl [(2,.ord (il 0 5)),(6,.loopr [0,5,7,9,10,66,67] [68] [0,4,5,6,7,9,10] [0,4,5,6,7,9,10,68]),(12,.ord (il 0 6))]) (fun | 68=>(.i .i64) | _=>.v) (by kernel_rfl) (Eq.mpr (by kernel_rfl) h)
def S2 (E:BP) (Q:RK) (x0:Int) (σ:AHeap):Prop :=
 If (!decide (x0=0)) (
 Q (.pan (.iface IB (.agg #[(.int .i64 x0)]))) σ) (
 Q (.ret (.tuple #[])) σ)
theorem bX {Q:RK} {x0:Int} {σ:AHeap} (h:S2 E Q x0 σ):E CH [(.int .i64 x0)] σ Q :=
 BT Tryz.func85 (fun _=>none) (fun _=>.v) (by kernel_rfl) (Eq.mpr (by kernel_rfl) h)
def TE (E:BP) (Q:RK) (x0:Value) (σ:AHeap):Prop :=
 DJ (BA (P.underlying y8) .eql x0 .nilIface) fun c3 =>
 If c3 (
 Q (.ret (.int .i64 0)) σ) (
 om (HH P IB true x0) fun v9 =>
 om (qW v9 0) fun v10 =>
 DJ (qW v9 1) fun c11 =>
 BB σ (.cells [(.int .i64 0)] IB false) fun b12 τ13 =>
 St b12 0 v10 τ13 fun τ14 =>
 If (!c11) (
 AAg x0 τ14 (pQ Q)) (
 A3 .i64 (L b12 0 τ14) fun n25 =>
 Q (.ret (.int .i64 n25)) τ14))
theorem bO {Q:RK} {x0:Value} {σ:AHeap} (h:TE E Q x0 σ):E MG [x0] σ Q :=
 BT Tryz.func73 (fun _=>none) (fun _=>.v) (by kernel_rfl) (Eq.mpr (by kernel_rfl) h)
def QF (N1:Int→Int→AHeap→Prop) (E:BP) (Q:RK) (b24:Nat) (n31 n17 n18:Int) (τ32:AHeap):Prop :=
 If (!decide (n17=0)) (
 If (decide (n18=12)) (
 Q (.ret (.tuple #[(.int .u64 0),(.bool false),(.int .i64 23)])) τ32) (
 E FD [(.pointer (some ⟨b24,0,none⟩)),(.int .u64 n17)] τ32 (c2 Q fun v51 v52 τ50 =>
 tI .i64 (fun n53 =>
 BB τ50 (.cells [(.bool false),(.slice none 0 0),(.slice none 0 0)] AE false) fun b54 τ55 =>
 pu (AN 3 (.pointer (some ⟨b54,0,none⟩)) v51 τ55) fun τ56 =>
 If (!decide (n53=0)) (
 Q (.ret (.tuple #[(.int .u64 0),(.bool false),(.int .i64 n53)])) τ56) (
 DJ (L b54 0 τ56) fun c71 =>
 If c71 (
 DJ (L b54 0 τ56) fun c75 =>
 om (L b54 1 τ56) fun v76 =>
 om (L b54 2 τ56) fun v77 =>
 E ML [(.agg #[(.bool c75),v76,v77]),(.int .u64 n31)] τ56 (c2 Q fun v87 v89 τ86 =>
 tI .i64 (fun n88 =>
 tB (fun c90 =>
 If (!c90) (
 Q (.ret (.tuple #[(.int .u64 0),(.bool false),(.int .i64 0)])) τ86) (
 om (L b54 2 τ86) fun v107 =>
 om (AG 1 v107 (.int .i64 n88)) fun v111 =>
 A3 .u64 (AD false 1 v111 τ86) fun n112 =>
 Q (.ret (.tuple #[(.int .u64 n112),(.bool true),(.int .i64 0)])) τ86)) v89) v87)) (
 om (L b54 2 τ56) fun v117 =>
 DJ (L b54 0 τ56) fun c118 =>
 om (L b54 1 τ56) fun v119 =>
 om (L b54 2 τ56) fun v120 =>
 E NL [(.agg #[(.bool c118),v119,v120]),(.int .u64 n31)] τ56 (cI Q .i64 fun n123 τ122 =>
 om (L b54 2 τ122) fun v124 =>
 AQ v124 v117=true ∧
 om (AG 1 v117 (.int .i64 n123)) fun v125 =>
 A3 .u64 (AD false 1 v125 τ122) fun n126 =>
 Bi (F3 (n18+1)) fun n130 =>
 N1 n126 n130 τ122)))) v52))) (
 Q (.ret (.tuple #[(.int .u64 0),(.bool false),(.int .i64 0)])) τ32)
def WH (E:BP) (Q:RK) (x0:Nat) (x1 x2:Int) (σ:AHeap):Prop :=
 E CZ [(.pointer (some ⟨x0,0,none⟩)),(.int .u64 0)] σ (cI Q .i64 fun n4 τ3 =>
 If (!decide (n4=0)) (
 Q (.ret (.tuple #[(.int .u64 0),(.bool false),(.int .i64 n4)])) τ3) (
 ∃ I133:Nat→Int→Int→AHeap→Prop,(∃ m,I133 m x1 0 τ3) ∧
 ∀ m (n17:Int) (n18:Int) (σ':AHeap),I133 m n17 n18 σ'→(QF (fun n17 n18 σ'=>∃ m',m'<m∧I133 m' n17 n18 σ') E Q x0 x2 n17 n18 σ')))
theorem hZ {Q:RK} {x0:Nat} {x1 x2:Int} {σ:AHeap} (h:WH E Q x0 x1 x2 σ):E IR [(.pointer (some ⟨x0,0,none⟩)),(.int .u64 x1),(.int .u64 x2)] σ Q :=
 BT Tryz.func26 (hl [(2,.loopr [0,2] [10,11] [6,7,8] [6,7,8,10,11]),(9,.ord (il 0 4++[(4,[1]),(5,[]),(6,[]),(7,[])]))]) (fun | 10=>(.i .u64) | 11=>(.i .i64) | _=>.v) (by kernel_rfl) (Eq.mpr (by kernel_rfl) h)
def G4 (N1:Int→AHeap→Prop) (E:BP) (Q:RK) (b160:Nat) (n162 n171:Int) (τ159:AHeap):Prop :=
 om (L b160 1 τ159) fun v161 =>
 om (AG 5 v161 (.int .i64 n162)) fun v163 =>
 om (AB 1 v163) fun v164 =>
 om (AB 0 v164) fun v165 =>
 DJ (AD false 1 v165 τ159) fun c166 =>
 om (AB 1 v164) fun v167 =>
 om (AD false 1 v167 τ159) fun v168 =>
 om (AB 2 v164) fun v169 =>
 om (AD false 1 v169 τ159) fun v170 =>
 E NL [(.agg #[(.bool c166),v168,v170]),(.int .u64 n171)] τ159 (cI Q .i64 fun n173 τ172 =>
 om (L b160 1 τ172) fun v176 =>
 om (AG 5 v176 (.int .i64 n162)) fun v179 =>
 om (AB 4 v179) fun v180 =>
 pu (AN 1 v180 (.int .i64 n173) τ172) fun τ181 =>
 om (L b160 1 τ181) fun v184 =>
 om (AG 5 v184 (.int .i64 n162)) fun v186 =>
 om (AB 1 v186) fun v187 =>
 om (AB 2 v187) fun v188 =>
 om (AD false 1 v188 τ181) fun v189 =>
 om (AG 1 v189 (.int .i64 n173)) fun v191 =>
 A3 .u64 (AD false 1 v191 τ181) fun n192 =>
 N1 n192 τ181)
def G0 (N1:Int→AHeap→Prop) (E:BP) (Q:RK) (c148:Bool) (b150:Nat) (n152 n153:Int) (b154:Nat) (τ147:AHeap):Prop :=
 If c148 (
 om (L b154 2 τ147) fun v155 =>
 om (AG 1 v155 (.int .i64 0)) fun v156 =>
 A3 .u64 (AD false 1 v156 τ147) fun n157 =>
 E EV [(.pointer (some ⟨b150,0,none⟩)),(.int .i64 n152),(.int .i64 0),(.int .u64 n153),(.int .u64 n157)] τ147 (c0 Q fun τ158 =>
 (G4 N1 E Q b150 n152 n153 τ158))) (
 (G4 N1 E Q b150 n152 n153 τ147))
def IZ (N1:Int→AHeap→Prop) (E:BP) (Q:RK) (b86:Nat) (n88:Int) (b93:Nat) (n110:Int) (c125:Bool) (n136:Int) (τ85:AHeap):Prop :=
 om (L b86 1 τ85) fun v87 =>
 DJ (L b93 0 τ85) fun c94 =>
 om (L b93 1 τ85) fun v95 =>
 om (L b93 2 τ85) fun v96 =>
 BB τ85 (.cells [(.int .u64 n88),(.bool c94),v95,v96,(.int .i64 0)] AA false) fun b97 τ98 =>
 om (L b86 1 τ98) fun v99 =>
 AQ v99 v87=true ∧
 pu (BN AA 5 72 v87 (.slice (some ⟨b97,0,none⟩) 1 1) τ98) fun r100 =>
 St b86 1 r100.1 r100.2 fun τ101 =>
 DJ (L b93 0 τ101) fun c104 =>
 If c104 (
 Q (.ret (.pointer (some ⟨b86,0,none⟩))) τ101) (
 om (L b86 1 τ101) fun v115 =>
 A3 .i64 (BJ v115) fun n116 =>
 Bi (F3 (n116 - 1)) fun n117 =>
 If c125 (
 om (L b93 1 τ101) fun v144 =>
 om (AG 1 v144 (.int .i64 0)) fun v145 =>
 A3 .u64 (AD false 1 v145 τ101) fun n146 =>
 (G0 N1 E Q (decide (n136<n146)) b86 n117 n136 b93 τ101)) (
 (G0 N1 E Q false b86 n117 n136 b93 τ101)))
def JZ (N1:Int→AHeap→Prop) (E:BP) (Q:RK) (c64:Bool) (b66:Nat) (n67 n83:Int) (b92:Nat) (n109:Int) (c124:Bool) (n135:Int) (τ63:AHeap):Prop :=
 If c64 (
 om (L b66 1 τ63) fun v68 =>
 om (AG 5 v68 (.int .i64 n67)) fun v69 =>
 om (AB 4 v69) fun v70 =>
 A3 .i64 (AD false 1 v70 τ63) fun n71 =>
 om (L b66 1 τ63) fun v72 =>
 om (AG 5 v72 (.int .i64 n67)) fun v73 =>
 om (AB 1 v73) fun v74 =>
 om (AB 1 v74) fun v75 =>
 om (AD false 1 v75 τ63) fun v76 =>
 om (L b66 1 τ63) fun v77 =>
 om (AG 5 v77 (.int .i64 n67)) fun v78 =>
 om (AB 4 v78) fun v79 =>
 A3 .i64 (AD false 1 v79 τ63) fun n80 =>
 om (AG 1 v76 (.int .i64 n80)) fun v81 =>
 A3 .u64 (AD false 1 v81 τ63) fun n82 =>
 E EV [(.pointer (some ⟨b66,0,none⟩)),(.int .i64 n67),(.int .i64 n71),(.int .u64 n82),(.int .u64 n83)] τ63 (c0 Q fun τ84 =>
 (IZ N1 E Q b66 n83 b92 n109 c124 n135 τ84))) (
 (IZ N1 E Q b66 n83 b92 n109 c124 n135 τ63))
def NZ (N1:Int→AHeap→Prop) (E:BP) (Q:RK) (b32:Nat) (n34:Int) (b49:Nat) (c120:Bool) (n131:Int) (τ30:AHeap):Prop :=
 E EK [(.pointer (some ⟨b32,0,none⟩)),(.int .u64 n34)] τ30 (c3 Q fun v36 v38 v39 τ35 =>
 tI .u64 (fun n37 =>
 tI .i64 (fun n40 =>
 BB τ35 (.cells [(.bool false),(.slice none 0 0),(.slice none 0 0)] AE false) fun b41 τ42 =>
 pu (AN 3 (.pointer (some ⟨b41,0,none⟩)) v38 τ42) fun τ43 =>
 E CH [(.int .i64 n40)] τ43 (c0 Q fun τ46 =>
 om (L b49 1 τ46) fun v52 =>
 A3 .i64 (BJ v52) fun n53 =>
 Bi (F3 (n53 - 1)) fun n54 =>
 If (decide (0≤n54)) (
 (JZ N1 E Q (!decide (n37=n34)) b49 n54 n37 b41 n34 c120 n131 τ46)) (
 (JZ N1 E Q false b49 n54 n37 b41 n34 c120 n131 τ46)))) v39) v36)
def UM (N1:Int→AHeap→Prop) (E:BP) (Q:RK) (b12:Nat) (n16:Int) (c20:Bool) (b23:Nat) (n9:Int) (τ24:AHeap):Prop :=
 om (L b23 1 τ24) fun v25 =>
 A3 .i64 (BJ v25) fun n26 =>
 If (decide (n26=12)) (
 E CH [(.int .i64 23)] τ24 (c0 Q fun τ29 =>
 (NZ N1 E Q b12 n9 b23 c20 n16 τ29))) (
 (NZ N1 E Q b12 n9 b23 c20 n16 τ24))
def bR (E:BP) (Q:RK) (x0:Nat) (x1 x2:Int) (x3:Bool) (σ:AHeap):Prop :=
 BB σ (.cells [(.pointer (some ⟨x0,0,none⟩)),(.slice none 0 0)] AZ false) fun b3 τ4 =>
 ∃ I193:Nat→Int→AHeap→Prop,(∃ m,I193 m x1 τ4) ∧
 ∀ m (n9:Int) (σ':AHeap),I193 m n9 σ'→(UM (fun n9 σ'=>∃ m',m'<m∧I193 m' n9 σ') E Q x0 x2 x3 b3 n9 σ')
theorem o6 {Q:RK} {x0:Nat} {x1 x2:Int} {x3:Bool} {σ:AHeap} (h:bR E Q x0 x1 x2 x3 σ):E OR [(.pointer (some ⟨x0,0,none⟩)),(.int .u64 x1),(.int .u64 x2),(.bool x3)] σ Q :=
 BT Tryz.func74 (hl [(1,.loopr [0,2,3,9] [10] [8] [8,10]),(5,.ord (il 0 31)),(6,.ord (il 0 8++[(8,[4])]++il 9 4))]) (fun | 10=>(.i .u64) | _=>.v) (by kernel_rfl) (Eq.mpr (by kernel_rfl) h)
def S6 (E:BP) (Q:RK) (x0:Nat) (x1 x2 x3 x4:Int) (σ:AHeap):Prop :=
 om (L x0 1 σ) fun v1 =>
 om (AG 5 v1 (.int .i64 x1)) fun v2 =>
 om (AB 1 v2) fun v3 =>
 om (AB 0 v3) fun v4 =>
 DJ (AD false 1 v4 σ) fun c5 =>
 om (AB 1 v3) fun v6 =>
 om (AD false 1 v6 σ) fun v7 =>
 om (AB 2 v3) fun v8 =>
 om (AD false 1 v8 σ) fun v9 =>
 E K9 [(.agg #[(.bool c5),v7,v9]),(.int .i64 x2),(.int .u64 x3),(.int .u64 x4)] σ (cV Q fun v11 τ10 =>
 E CJ [(.pointer (some ⟨x0,0,none⟩)),(.int .i64 x1),v11] τ10 (c0 Q fun τ12 =>
 Q (.ret (.tuple #[])) τ12))
theorem fX {Q:RK} {x0:Nat} {x1 x2 x3 x4:Int} {σ:AHeap} (h:S6 E Q x0 x1 x2 x3 x4 σ):E EV [(.pointer (some ⟨x0,0,none⟩)),(.int .i64 x1),(.int .i64 x2),(.int .u64 x3),(.int .u64 x4)] σ Q :=
 BT Tryz.func76 (fun _=>none) (fun _=>.v) (by kernel_rfl) (Eq.mpr (by kernel_rfl) h)
def E1 (E:BP) (Q:RK) (c21:Bool) (b23:Nat) (n27:Int) (b31:Nat) (τ20:AHeap):Prop :=
 If c21 (
 om (L b23 0 τ20) fun v24 =>
 om (L b23 1 τ20) fun v25 =>
 om (AG 5 v25 (.int .i64 n27)) fun v28 =>
 om (AB 0 v28) fun v29 =>
 A3 .u64 (AD false 1 v29 τ20) fun n30 =>
 DJ (L b31 0 τ20) fun c32 =>
 om (L b31 1 τ20) fun v33 =>
 om (L b31 2 τ20) fun v34 =>
 E B9 [v24,(.int .u64 n30),(.agg #[(.bool c32),v33,v34])] τ20 (cI Q .i64 fun n36 τ35 =>
 E CH [(.int .i64 n36)] τ35 (c0 Q fun τ37 =>
 Q (.ret (.tuple #[])) τ37))) (
 Q (.ret (.tuple #[])) τ20)
def ST (E:BP) (Q:RK) (x0:Nat) (x1:Int) (x2_0:Bool) (x2_1 x2_2:Value) (σ:AHeap):Prop :=
 BB σ (.cells [(.bool x2_0),x2_1,x2_2] AE false) fun b1 τ2 =>
 om (L x0 1 τ2) fun v5 =>
 DJ (L b1 0 τ2) fun c8 =>
 om (L b1 1 τ2) fun v9 =>
 om (L b1 2 τ2) fun v10 =>
 om (AG 5 v5 (.int .i64 x1)) fun v11 =>
 om (AB 1 v11) fun v12 =>
 pu (AN 3 v12 (.agg #[(.bool c8),v9,v10]) τ2) fun τ13 =>
 om (L b1 1 τ13) fun v16 =>
 A3 .i64 (BJ v16) fun n17 =>
 If (decide (0<n17)) (
 om (L b1 1 τ13) fun v18 =>
 A3 .i64 (BJ v18) fun n19 =>
 (E1 E Q (decide (n19≤8)) x0 x1 b1 τ13)) (
 (E1 E Q false x0 x1 b1 τ13))
theorem cR {Q:RK} {x0:Nat} {x1:Int} {x2_0:Bool} {x2_1 x2_2:Value} {σ:AHeap} (h:ST E Q x0 x1 x2_0 x2_1 x2_2 σ):E CJ [(.pointer (some ⟨x0,0,none⟩)),(.int .i64 x1),(.agg #[(.bool x2_0),x2_1,x2_2])] σ Q :=
 BT Tryz.func77 (hl [(0,.ord (il 0 9)),(2,.ord (il 0 15))]) (fun _=>.v) (by kernel_rfl) (Eq.mpr (by kernel_rfl) h)
def RA (N1:Int→AHeap→Prop) (E:BP) (Q:RK) (v7:Value) (n5:Int) (τ8:AHeap):Prop :=
 If (decide (0≤n5)) (
 wF v7 fun g20 a21 c22 =>
 E g20 (a21++[(.int .i64 n5)]++c22) τ8 (c0 Q fun τ16 =>
 Bi (F3 (n5 - 1)) fun n19 =>
 N1 n19 τ16)) (
 Q (.ret (.tuple #[])) τ8)
def V7 (E:BP) (Q:RK) (x0:Nat) (x1:Value) (σ:AHeap):Prop :=
 om (L x0 1 σ) fun v1 =>
 A3 .i64 (BJ v1) fun n2 =>
 Bi (F3 (n2 - 1)) fun n3 =>
 ∃ I23:Nat→Int→AHeap→Prop,(∃ m,I23 m n3 σ) ∧
 ∀ m (n5:Int) (σ':AHeap),I23 m n5 σ'→(RA (fun n5 σ'=>∃ m',m'<m∧I23 m' n5 σ') E Q x1 n5 σ')
theorem gQ {Q:RK} {x0:Nat} {x1:Value} {σ:AHeap} (h:V7 E Q x0 x1 σ):E LW [(.pointer (some ⟨x0,0,none⟩)),x1] σ Q :=
 BT Tryz.func79 (hl [(1,.loopr [1] [4] [] [4])]) (fun | 4=>(.i .i64) | _=>.v) (by kernel_rfl) (Eq.mpr (by kernel_rfl) h)
def BG (E:BP) (Q:RK) (b157 b159:Nat) (τ155:AHeap):Prop :=
 om (L b157 0 τ155) fun v158 =>
 DJ (L b159 0 τ155) fun c160 =>
 om (L b159 1 τ155) fun v161 =>
 om (L b159 2 τ155) fun v162 =>
 E FG [v158,(.agg #[(.bool c160),v161,v162])] τ155 (c2 Q fun v164 v166 τ163 =>
 tI .u64 (fun n165 =>
 tI .i64 (fun n167 =>
 E CH [(.int .i64 n167)] τ163 (c0 Q fun τ170 =>
 DJ (L b159 0 τ170) fun c178 =>
 om (L b159 1 τ170) fun v179 =>
 om (L b159 2 τ170) fun v180 =>
 om (L b157 1 τ170) fun v181 =>
 BB τ170 (.cells [(.int .u64 n165),(.bool c178),v179,v180,(.int .i64 0)] AA false) fun b182 τ183 =>
 om (L b157 1 τ183) fun v184 =>
 AQ v184 v181=true ∧
 pu (BN AA 5 72 (.slice (some ⟨b182,0,none⟩) 1 1) v181 τ183) fun r185 =>
 St b157 1 r185.1 r185.2 fun τ186 =>
 Q (.ret (.tuple #[])) τ186)) v166) v164)
def QT (E:BP) (Q:RK) (x0:Nat) (x1:Int) (σ:AHeap):Prop :=
 om (L x0 1 σ) fun v1 =>
 om (AG 5 v1 (.int .i64 x1)) fun v2 =>
 om (AB 0 v2) fun v3 =>
 A3 .u64 (AD false 1 v3 σ) fun n4 =>
 om (AB 1 v2) fun v5 =>
 DJ (AD false 1 v5 σ) fun c6 =>
 om (AB 2 v2) fun v7 =>
 om (AD false 1 v7 σ) fun v8 =>
 om (AB 3 v2) fun v9 =>
 om (AD false 1 v9 σ) fun v10 =>
 om (AB 4 v2) fun v11 =>
 A3 .i64 (AD false 1 v11 σ) fun n12 =>
 BB σ (.cells [(.int .u64 0),(.bool false),(.slice none 0 0),(.slice none 0 0),(.int .i64 0)] AA false) fun b13 τ14 =>
 pu (AN 5 (.pointer (some ⟨b13,0,none⟩)) (.agg #[(.int .u64 n4),(.bool c6),v8,v10,(.int .i64 n12)]) τ14) fun τ15 =>
 om (L b13 2 τ15) fun v18 =>
 A3 .i64 (BJ v18) fun n19 =>
 If (decide (n19≤8)) (
 Q (.ret (.tuple #[])) τ15) (
 DJ (L b13 1 τ15) fun c25 =>
 om (L b13 2 τ15) fun v26 =>
 om (L b13 3 τ15) fun v27 =>
 E NM [(.agg #[(.bool c25),v26,v27])] τ15 (c2 Q fun v29 v30 τ28 =>
 BB τ28 (.cells [(.bool false),(.slice none 0 0),(.slice none 0 0)] AE false) fun b31 τ32 =>
 BB τ32 (.cells [(.bool false),(.slice none 0 0),(.slice none 0 0)] AE false) fun b33 τ34 =>
 pu (AN 3 (.pointer (some ⟨b31,0,none⟩)) v29 τ34) fun τ35 =>
 pu (AN 3 (.pointer (some ⟨b33,0,none⟩)) v30 τ35) fun τ36 =>
 DJ (L b31 0 τ36) fun c47 =>
 om (L b31 1 τ36) fun v48 =>
 om (L b31 2 τ36) fun v49 =>
 E CJ [(.pointer (some ⟨x0,0,none⟩)),(.int .i64 x1),(.agg #[(.bool c47),v48,v49])] τ36 (c0 Q fun τ50 =>
 om (L x0 0 τ50) fun v53 =>
 DJ (L b33 0 τ50) fun c56 =>
 om (L b33 1 τ50) fun v57 =>
 om (L b33 2 τ50) fun v58 =>
 E FG [v53,(.agg #[(.bool c56),v57,v58])] τ50 (c2 Q fun v60 v62 τ59 =>
 tI .u64 (fun n61 =>
 tI .i64 (fun n63 =>
 E CH [(.int .i64 n63)] τ59 (c0 Q fun τ66 =>
 If (decide (0<x1)) (
 om (L x0 1 τ66) fun v76 =>
 Bi (F3 (x1 - 1)) fun n78 =>
 om (AG 5 v76 (.int .i64 n78)) fun v79 =>
 om (AB 0 v79) fun v80 =>
 A3 .u64 (AD false 1 v80 τ66) fun n81 =>
 om (AB 1 v79) fun v82 =>
 DJ (AD false 1 v82 τ66) fun c83 =>
 om (AB 2 v79) fun v84 =>
 om (AD false 1 v84 τ66) fun v85 =>
 om (AB 3 v79) fun v86 =>
 om (AD false 1 v86 τ66) fun v87 =>
 om (AB 4 v79) fun v88 =>
 A3 .i64 (AD false 1 v88 τ66) fun n89 =>
 BB τ66 (.cells [(.int .u64 0),(.bool false),(.slice none 0 0),(.slice none 0 0),(.int .i64 0)] AA false) fun b90 τ91 =>
 pu (AN 5 (.pointer (some ⟨b90,0,none⟩)) (.agg #[(.int .u64 n81),(.bool c83),v85,v87,(.int .i64 n89)]) τ91) fun τ92 =>
 Bi (F3 (x1 - 1)) fun n96 =>
 DJ (L b90 1 τ92) fun c98 =>
 om (L b90 2 τ92) fun v99 =>
 om (L b90 3 τ92) fun v100 =>
 A3 .i64 (L b90 4 τ92) fun n101 =>
 Bi (F3 (n101+1)) fun n102 =>
 om (L b33 1 τ92) fun v107 =>
 om (AG 1 v107 (.int .i64 0)) fun v108 =>
 A3 .u64 (AD false 1 v108 τ92) fun n109 =>
 E LU [(.agg #[(.bool c98),v99,v100]),(.int .i64 n102),(.int .u64 n109),(.int .u64 n61)] τ92 (cV Q fun v115 τ114 =>
 E CJ [(.pointer (some ⟨x0,0,none⟩)),(.int .i64 n96),v115] τ114 (c0 Q fun τ116 =>
 Q (.ret (.tuple #[])) τ116))) (
 om (L b31 1 τ66) fun v123 =>
 om (AG 1 v123 (.int .i64 0)) fun v124 =>
 A3 .u64 (AD false 1 v124 τ66) fun n125 =>
 om (L b33 1 τ66) fun v127 =>
 om (AG 1 v127 (.int .i64 0)) fun v128 =>
 A3 .u64 (AD false 1 v128 τ66) fun n129 =>
 A3 .u64 (L b13 0 τ66) fun n136 =>
 (
 BB τ66 (.cells [(.int .u64 n125),(.int .u64 n129)] AL false) fun b138 τ139 =>
 A3 .u64 (L b13 0 τ139) fun n140 =>
 AQ (.int .u64 n140) (.int .u64 n136)=true ∧
 (
 BB τ139 (.cells [(.int .u64 n136),(.int .u64 n61)] AL false) fun b141 τ142 =>
 om (L b31 1 τ142) fun v143 =>
 AQ v143 v123=true ∧
 A3 .u64 (AD false 1 v124 τ142) fun n144 =>
 AQ (.int .u64 n144) (.int .u64 n125)=true ∧
 om (L b33 1 τ142) fun v145 =>
 AQ v145 v127=true ∧
 A3 .u64 (AD false 1 v128 τ142) fun n146 =>
 AQ (.int .u64 n146) (.int .u64 n129)=true ∧
 On (.slice (some ⟨b138,0,none⟩) 2 2) (
 On (.slice (some ⟨b141,0,none⟩) 2 2) (
 BB τ142 (.cells [(.bool false),(.slice none 0 0),(.slice none 0 0)] AE false) fun b147 τ148 =>
 om (L b31 1 τ148) fun v149 =>
 AQ v149 v123=true ∧
 A3 .u64 (AD false 1 v124 τ148) fun n150 =>
 AQ (.int .u64 n150) (.int .u64 n125)=true ∧
 om (L b33 1 τ148) fun v151 =>
 AQ v151 v127=true ∧
 A3 .u64 (AD false 1 v128 τ148) fun n152 =>
 AQ (.int .u64 n152) (.int .u64 n129)=true ∧
 A3 .u64 (L b13 0 τ148) fun n153 =>
 AQ (.int .u64 n153) (.int .u64 n136)=true ∧
 pu (AN 3 (.pointer (some ⟨b147,0,none⟩)) (.agg #[(.bool false),(.slice (some ⟨b138,0,none⟩) 2 2),(.slice (some ⟨b141,0,none⟩) 2 2)]) τ148) fun τ154 =>
 (BG E Q x0 b147 τ154))))∧(
 BB τ139 (.cells [(.bool false),(.slice none 0 0),(.slice none 0 0)] AE false) fun b187 τ188 =>
 om (L b31 1 τ188) fun v189 =>
 AQ v189 v123=true ∧
 A3 .u64 (AD false 1 v124 τ188) fun n190 =>
 AQ (.int .u64 n190) (.int .u64 n125)=true ∧
 om (L b33 1 τ188) fun v191 =>
 AQ v191 v127=true ∧
 A3 .u64 (AD false 1 v128 τ188) fun n192 =>
 AQ (.int .u64 n192) (.int .u64 n129)=true ∧
 A3 .u64 (L b13 0 τ188) fun n193 =>
 AQ (.int .u64 n193) (.int .u64 n136)=true ∧
 BB τ188 (.cells [(.int .u64 n136),(.int .u64 n61)] AL false) fun b194 τ195 =>
 om (L b31 1 τ195) fun v196 =>
 AQ v196 v123=true ∧
 A3 .u64 (AD false 1 v124 τ195) fun n197 =>
 AQ (.int .u64 n197) (.int .u64 n125)=true ∧
 om (L b33 1 τ195) fun v198 =>
 AQ v198 v127=true ∧
 A3 .u64 (AD false 1 v128 τ195) fun n199 =>
 AQ (.int .u64 n199) (.int .u64 n129)=true ∧
 On (.slice (some ⟨b138,0,none⟩) 2 2) (
 On (.slice (some ⟨b194,0,none⟩) 2 2) (
 pu (AN 3 (.pointer (some ⟨b187,0,none⟩)) (.agg #[(.bool false),(.slice (some ⟨b138,0,none⟩) 2 2),(.slice (some ⟨b194,0,none⟩) 2 2)]) τ195) fun τ200 =>
 (BG E Q x0 b187 τ200)))))∧(
 (
 BB τ66 (.cells [(.int .u64 n136),(.int .u64 n61)] AL false) fun b201 τ202 =>
 om (L b31 1 τ202) fun v203 =>
 AQ v203 v123=true ∧
 A3 .u64 (AD false 1 v124 τ202) fun n204 =>
 AQ (.int .u64 n204) (.int .u64 n125)=true ∧
 om (L b33 1 τ202) fun v205 =>
 AQ v205 v127=true ∧
 A3 .u64 (AD false 1 v128 τ202) fun n206 =>
 AQ (.int .u64 n206) (.int .u64 n129)=true ∧
 (
 BB τ202 (.cells [(.int .u64 n125),(.int .u64 n129)] AL false) fun b207 τ208 =>
 A3 .u64 (L b13 0 τ208) fun n209 =>
 AQ (.int .u64 n209) (.int .u64 n136)=true ∧
 On (.slice (some ⟨b207,0,none⟩) 2 2) (
 On (.slice (some ⟨b201,0,none⟩) 2 2) (
 BB τ208 (.cells [(.bool false),(.slice none 0 0),(.slice none 0 0)] AE false) fun b210 τ211 =>
 om (L b31 1 τ211) fun v212 =>
 AQ v212 v123=true ∧
 A3 .u64 (AD false 1 v124 τ211) fun n213 =>
 AQ (.int .u64 n213) (.int .u64 n125)=true ∧
 om (L b33 1 τ211) fun v214 =>
 AQ v214 v127=true ∧
 A3 .u64 (AD false 1 v128 τ211) fun n215 =>
 AQ (.int .u64 n215) (.int .u64 n129)=true ∧
 A3 .u64 (L b13 0 τ211) fun n216 =>
 AQ (.int .u64 n216) (.int .u64 n136)=true ∧
 pu (AN 3 (.pointer (some ⟨b210,0,none⟩)) (.agg #[(.bool false),(.slice (some ⟨b207,0,none⟩) 2 2),(.slice (some ⟨b201,0,none⟩) 2 2)]) τ211) fun τ217 =>
 (BG E Q x0 b210 τ217))))∧(
 BB τ202 (.cells [(.bool false),(.slice none 0 0),(.slice none 0 0)] AE false) fun b218 τ219 =>
 om (L b31 1 τ219) fun v220 =>
 AQ v220 v123=true ∧
 A3 .u64 (AD false 1 v124 τ219) fun n221 =>
 AQ (.int .u64 n221) (.int .u64 n125)=true ∧
 om (L b33 1 τ219) fun v222 =>
 AQ v222 v127=true ∧
 A3 .u64 (AD false 1 v128 τ219) fun n223 =>
 AQ (.int .u64 n223) (.int .u64 n129)=true ∧
 A3 .u64 (L b13 0 τ219) fun n224 =>
 AQ (.int .u64 n224) (.int .u64 n136)=true ∧
 BB τ219 (.cells [(.int .u64 n125),(.int .u64 n129)] AL false) fun b225 τ226 =>
 A3 .u64 (L b13 0 τ226) fun n227 =>
 AQ (.int .u64 n227) (.int .u64 n136)=true ∧
 On (.slice (some ⟨b225,0,none⟩) 2 2) (
 On (.slice (some ⟨b201,0,none⟩) 2 2) (
 pu (AN 3 (.pointer (some ⟨b218,0,none⟩)) (.agg #[(.bool false),(.slice (some ⟨b225,0,none⟩) 2 2),(.slice (some ⟨b201,0,none⟩) 2 2)]) τ226) fun τ228 =>
 (BG E Q x0 b218 τ228)))))∧(
 BB τ66 (.cells [(.bool false),(.slice none 0 0),(.slice none 0 0)] AE false) fun b229 τ230 =>
 om (L b31 1 τ230) fun v231 =>
 AQ v231 v123=true ∧
 A3 .u64 (AD false 1 v124 τ230) fun n232 =>
 AQ (.int .u64 n232) (.int .u64 n125)=true ∧
 om (L b33 1 τ230) fun v233 =>
 AQ v233 v127=true ∧
 A3 .u64 (AD false 1 v128 τ230) fun n234 =>
 AQ (.int .u64 n234) (.int .u64 n129)=true ∧
 A3 .u64 (L b13 0 τ230) fun n235 =>
 AQ (.int .u64 n235) (.int .u64 n136)=true ∧
 (
 BB τ230 (.cells [(.int .u64 n125),(.int .u64 n129)] AL false) fun b236 τ237 =>
 A3 .u64 (L b13 0 τ237) fun n238 =>
 AQ (.int .u64 n238) (.int .u64 n136)=true ∧
 BB τ237 (.cells [(.int .u64 n136),(.int .u64 n61)] AL false) fun b239 τ240 =>
 om (L b31 1 τ240) fun v241 =>
 AQ v241 v123=true ∧
 A3 .u64 (AD false 1 v124 τ240) fun n242 =>
 AQ (.int .u64 n242) (.int .u64 n125)=true ∧
 om (L b33 1 τ240) fun v243 =>
 AQ v243 v127=true ∧
 A3 .u64 (AD false 1 v128 τ240) fun n244 =>
 AQ (.int .u64 n244) (.int .u64 n129)=true ∧
 On (.slice (some ⟨b236,0,none⟩) 2 2) (
 On (.slice (some ⟨b239,0,none⟩) 2 2) (
 pu (AN 3 (.pointer (some ⟨b229,0,none⟩)) (.agg #[(.bool false),(.slice (some ⟨b236,0,none⟩) 2 2),(.slice (some ⟨b239,0,none⟩) 2 2)]) τ240) fun τ245 =>
 (BG E Q x0 b229 τ245))))∧(
 BB τ230 (.cells [(.int .u64 n136),(.int .u64 n61)] AL false) fun b246 τ247 =>
 om (L b31 1 τ247) fun v248 =>
 AQ v248 v123=true ∧
 A3 .u64 (AD false 1 v124 τ247) fun n249 =>
 AQ (.int .u64 n249) (.int .u64 n125)=true ∧
 om (L b33 1 τ247) fun v250 =>
 AQ v250 v127=true ∧
 A3 .u64 (AD false 1 v128 τ247) fun n251 =>
 AQ (.int .u64 n251) (.int .u64 n129)=true ∧
 BB τ247 (.cells [(.int .u64 n125),(.int .u64 n129)] AL false) fun b252 τ253 =>
 A3 .u64 (L b13 0 τ253) fun n254 =>
 AQ (.int .u64 n254) (.int .u64 n136)=true ∧
 On (.slice (some ⟨b252,0,none⟩) 2 2) (
 On (.slice (some ⟨b246,0,none⟩) 2 2) (
 pu (AN 3 (.pointer (some ⟨b229,0,none⟩)) (.agg #[(.bool false),(.slice (some ⟨b252,0,none⟩) 2 2),(.slice (some ⟨b246,0,none⟩) 2 2)]) τ253) fun τ255 =>
 (BG E Q x0 b229 τ255))))))))) v62) v60))))
theorem aU {Q:RK} {x0:Nat} {x1:Int} {σ:AHeap} (h:QT E Q x0 x1 σ):E ID [(.pointer (some ⟨x0,0,none⟩)),(.int .i64 x1)] σ Q :=
 BT Tryz.func80 (hl [(1,.ord (il 0 11)),(3,.ord (il 0 15)),(4,.tree (.step 0 [] (.step 1 [] (.step 2 [] (.step 3 [] (.step 4 [] (.step 5 [] (.step 6 [] (.step 7 [] (.step 9 [] (.step 10 [] (.step 11 [] (.alt (.step 8 [10] (.alt (.step 12 [1,3,5,7] (.step 13 [] (.step 14 [1,3,5,7,10] (.step 15 [] .nil)))) (.step 14 [1,3,5,7,10] (.step 12 [1,3,5,7] (.step 13 [] (.step 15 [] .nil)))))) (.alt (.step 12 [1,3,5,7] (.alt (.step 8 [10] (.step 13 [] (.step 14 [1,3,5,7,10] (.step 15 [] .nil)))) (.step 14 [1,3,5,7,10] (.step 8 [10] (.step 13 [] (.step 15 [] .nil)))))) (.step 14 [1,3,5,7,10] (.alt (.step 8 [10] (.step 12 [1,3,5,7] (.step 13 [] (.step 15 [] .nil)))) (.step 12 [1,3,5,7] (.step 8 [10] (.step 13 [] (.step 15 [] .nil)))))))))))))))))))),(5,.ord (il 0 11)),(6,.ord (il 0 4++il 5 4++[(4,[8])]++il 9 4))]) (fun _=>.v) (by kernel_rfl) (Eq.mpr (by kernel_rfl) h)
def HO (E:BP) (Q:RK) (v217:Value) (b228:Nat) (c233:Bool) (b242 b254 b264:Nat) (τ216:AHeap):Prop :=
 E LW [v217,(.func (.func ID) #[v217] #[])] τ216 (c0 Q fun τ218 =>
 om (BX v217) fun v221 =>
 om (AB 1 v221) fun v222 =>
 om (AD false 1 v222 τ218) fun v223 =>
 om (AG 5 v223 (.int .i64 0)) fun v224 =>
 om (AB 0 v224) fun v225 =>
 A3 .u64 (AD false 1 v225 τ218) fun n226 =>
 A3 .u64 (L b228 0 τ218) fun n230 =>
 St b242 0 (.int .u64 n226) τ218 fun τ244 =>
 A3 .u64 (L b228 0 τ244) fun n245 =>
 AQ (.int .u64 n245) (.int .u64 n230)=true ∧
 St b228 0 (.int .u64 n230) τ244 fun τ246 =>
 St b254 0 (.bool c233) τ246 fun τ256 =>
 St b264 0 (.int .i64 0) τ256 fun τ266 =>
 Q (.ret (.tuple #[])) τ266)
def QG (E:BP) (Q:RK) (n78:Int) (b86:Nat) (n94 n100:Int) (b109 b112 b122 b127:Nat) (τ71:AHeap):Prop :=
 If (decide (n78=0)) (
 BB τ71 (.cells [(.int .u64 n94)] AL false) fun b96 τ97 =>
 BB τ97 (.cells [(.int .u64 n100)] AL false) fun b102 τ103 =>
 On (.slice (some ⟨b96,0,none⟩) 1 1) (
 On (.slice (some ⟨b102,0,none⟩) 1 1) (
 E FG [(.pointer (some ⟨b86,0,none⟩)),(.agg #[(.bool true),(.slice (some ⟨b96,0,none⟩) 1 1),(.slice (some ⟨b102,0,none⟩) 1 1)])] τ103 (c2 Q fun v105 v107 τ104 =>
 tI .u64 (fun n106 =>
 tI .i64 (fun n108 =>
 St b109 0 (.int .u64 n106) τ104 fun τ111 =>
 St b112 0 (.int .i64 n108) τ111 fun τ114 =>
 A3 .u64 (L b109 0 τ114) fun n117 =>
 A3 .i64 (L b112 0 τ114) fun n119 =>
 St b109 0 (.int .u64 n117) τ114 fun τ120 =>
 A3 .i64 (L b112 0 τ120) fun n121 =>
 AQ (.int .i64 n121) (.int .i64 n119)=true ∧
 St b122 0 (.int .u64 0) τ120 fun τ125 =>
 A3 .i64 (L b112 0 τ125) fun n126 =>
 AQ (.int .i64 n126) (.int .i64 n119)=true ∧
 St b127 0 (.bool false) τ125 fun τ130 =>
 A3 .i64 (L b112 0 τ130) fun n131 =>
 AQ (.int .i64 n131) (.int .i64 n119)=true ∧
 St b112 0 (.int .i64 n119) τ130 fun τ132 =>
 Q (.ret (.tuple #[])) τ132) v107) v105)))) (
 E OR [(.pointer (some ⟨b86,0,none⟩)),(.int .u64 n78),(.int .u64 n94),(.bool true)] τ71 (cV Q fun v139 τ138 =>
 om (BX v139) fun v142 =>
 om (AB 1 v142) fun v143 =>
 om (AD false 1 v143 τ138) fun v144 =>
 A3 .i64 (BJ v144) fun n145 =>
 Bi (F3 (n145 - 1)) fun n146 =>
 om (BX v139) fun v149 =>
 om (AB 1 v149) fun v150 =>
 om (AD false 1 v150 τ138) fun v151 =>
 om (AG 5 v151 (.int .i64 n146)) fun v153 =>
 om (AB 1 v153) fun v154 =>
 om (AB 0 v154) fun v155 =>
 DJ (AD false 1 v155 τ138) fun c156 =>
 om (AB 1 v154) fun v157 =>
 om (AD false 1 v157 τ138) fun v158 =>
 om (AB 2 v154) fun v159 =>
 om (AD false 1 v159 τ138) fun v160 =>
 BB τ138 (.cells [(.bool false),(.slice none 0 0),(.slice none 0 0)] AE false) fun b161 τ162 =>
 pu (AN 3 (.pointer (some ⟨b161,0,none⟩)) (.agg #[(.bool c156),v158,v160]) τ162) fun τ163 =>
 DJ (L b161 0 τ163) fun c166 =>
 om (L b161 1 τ163) fun v167 =>
 om (L b161 2 τ163) fun v168 =>
 E ML [(.agg #[(.bool c166),v167,v168]),(.int .u64 n94)] τ163 (c2 Q fun v173 v175 τ172 =>
 tI .i64 (fun n174 =>
 tB (fun c176 =>
 If c176 (
 om (L b161 2 τ172) fun v183 =>
 om (AG 1 v183 (.int .i64 n174)) fun v186 =>
 A3 .u64 (AD false 1 v186 τ172) fun n187 =>
 St b122 0 (.int .u64 n187) τ172 fun τ194 =>
 E EV [v139,(.int .i64 n146),(.int .i64 n174),(.int .u64 n94),(.int .u64 n100)] τ194 (c0 Q fun τ215 =>
 (HO E Q v139 b122 c176 b109 b127 b112 τ215))) (
 DJ (L b161 0 τ172) fun c267 =>
 om (L b161 1 τ172) fun v268 =>
 om (L b161 2 τ172) fun v269 =>
 E LU [(.agg #[(.bool c267),v268,v269]),(.int .i64 n174),(.int .u64 n94),(.int .u64 n100)] τ172 (cV Q fun v271 τ270 =>
 E CJ [v139,(.int .i64 n146),v271] τ270 (c0 Q fun τ272 =>
 (HO E Q v139 b122 c176 b109 b127 b112 τ272))))) v175) v173)))
def V8 (E:BP) (Q:RK) (x0:Nat) (x1 x2 x3:Int) (σ:AHeap):Prop :=
 BB σ (.cells [(.int .u64 0)] AL false) fun b1 τ2 =>
 BB τ2 (.cells [(.int .u64 0)] AL false) fun b3 τ4 =>
 BB τ4 (.cells [(.bool false)] CG false) fun b5 τ6 =>
 BB τ6 (.cells [(.int .i64 0)] T9 false) fun b7 τ8 =>
 E CZ [(.pointer (some ⟨x0,0,none⟩)),(.int .u64 0)] τ8 (cI Q .i64 fun n12 τ11 =>
 If (!decide (n12=0)) (
 St b1 0 (.int .u64 0) τ11 fun τ21 =>
 St b3 0 (.int .u64 0) τ21 fun τ25 =>
 St b5 0 (.bool false) τ25 fun τ29 =>
 St b7 0 (.int .i64 n12) τ29 fun τ33 =>
 pu (AD false 1 (.pointer (some ⟨b1,0,none⟩)) τ33) fun v34 =>
 pu (AD false 1 (.pointer (some ⟨b3,0,none⟩)) τ33) fun v35 =>
 pu (AD false 1 (.pointer (some ⟨b5,0,none⟩)) τ33) fun v36 =>
 pu (AD false 1 (.pointer (some ⟨b7,0,none⟩)) τ33) fun v37 =>
 Q (.ret (.tuple #[v34,v35,v36,v37])) τ33) (
 If (decide (x3=0)) (
 St b1 0 (.int .u64 0) τ11 fun τ47 =>
 St b3 0 (.int .u64 0) τ47 fun τ50 =>
 St b5 0 (.bool false) τ50 fun τ53 =>
 St b7 0 (.int .i64 1) τ53 fun τ56 =>
 pu (AD false 1 (.pointer (some ⟨b1,0,none⟩)) τ56) fun v57 =>
 pu (AD false 1 (.pointer (some ⟨b3,0,none⟩)) τ56) fun v58 =>
 pu (AD false 1 (.pointer (some ⟨b5,0,none⟩)) τ56) fun v59 =>
 pu (AD false 1 (.pointer (some ⟨b7,0,none⟩)) τ56) fun v60 =>
 Q (.ret (.tuple #[v57,v58,v59,v60])) τ56) (
 (QG E (qd P DO [(.pointer (some ⟨b1,0,none⟩)),(.pointer (some ⟨b3,0,none⟩)),(.pointer (some ⟨b5,0,none⟩)),(.pointer (some ⟨b7,0,none⟩))] fun τ66 =>
 pu (AD false 1 (.pointer (some ⟨b1,0,none⟩)) τ66) fun v67 =>
 pu (AD false 1 (.pointer (some ⟨b3,0,none⟩)) τ66) fun v68 =>
 pu (AD false 1 (.pointer (some ⟨b5,0,none⟩)) τ66) fun v69 =>
 pu (AD false 1 (.pointer (some ⟨b7,0,none⟩)) τ66) fun v70 =>
 Q (.ret (.tuple #[v67,v68,v69,v70])) τ66) x1 x0 x2 x3 b1 b7 b3 b5 τ11))))
theorem gR {Q:RK} {x0:Nat} {x1 x2 x3:Int} {σ:AHeap} (h:V8 E Q x0 x1 x2 x3 σ):E IN [(.pointer (some ⟨x0,0,none⟩)),(.int .u64 x1),(.int .u64 x2),(.int .u64 x3)] σ Q :=
 ABo Tryz.func24 (hl [(3,.ord ([(0,[]),(1,[]),(2,[1]),(3,[1]),(4,[1]),(5,[])])),(5,.ord (il 0 9++[(9,[7]),(10,[]),(11,[]),(12,[])]))]) (fun _=>.v) (by kernel_rfl) (Eq.mpr (by kernel_rfl) h)
def IC (E:BP) (Q:RK) (x0 x1 x2 x3:Nat) (rv:Option Value) (σ:AHeap):Prop :=
 E MG [(rv.getD .nilIface)] σ (cI Q .i64 fun n2 τ1 =>
 If (!decide (n2=0)) (
 St x0 0 (.int .u64 0) τ1 fun τ7 =>
 St x1 0 (.int .u64 0) τ7 fun τ9 =>
 St x2 0 (.bool false) τ9 fun τ11 =>
 St x3 0 (.int .i64 n2) τ11 fun τ13 =>
 Q (.ret (.tuple #[])) τ13) (
 Q (.ret (.tuple #[])) τ1))
theorem aO (E:BP) (K:AHeap→Prop) (x0 x1 x2 x3:Nat) (rv:Option Value) (σ:AHeap):zW P E Tryz.f72 (fun _=>none) (fun _=>.v) [(.pointer (some ⟨x0,0,none⟩)),(.pointer (some ⟨x1,0,none⟩)),(.pointer (some ⟨x2,0,none⟩)),(.pointer (some ⟨x3,0,none⟩))] rv σ K=IC E (kq K) x0 x1 x2 x3 rv σ:=by kernel_rfl
theorem P9 {K:AHeap→Prop} {x0 x1 x2 x3:Nat} {rv:Option Value} {σ:AHeap} (h:IC E (kq K) x0 x1 x2 x3 rv σ):Dv P DO [(.pointer (some ⟨x0,0,none⟩)),(.pointer (some ⟨x1,0,none⟩)),(.pointer (some ⟨x2,0,none⟩)),(.pointer (some ⟨x3,0,none⟩))] rv σ K :=
 ABt Tryz.func72 _ _ (by kernel_rfl) (Eq.mpr (aO E K x0 x1 x2 x3 rv σ) h)
def F8 (E:BP) (Q:RK) (b281 b284 b308:Nat) (n352:Int) (b363:Nat) (n373 n394:Int) (τ280:AHeap):Prop :=
 om (L b281 2 τ280) fun v282 =>
 A3 .i64 (BJ v282) fun n283 =>
 om (L b284 2 τ280) fun v285 =>
 A3 .i64 (BJ v285) fun n286 =>
 Bi (F3 (n283+n286)) fun n287 =>
 If (decide (n287≤8)) (
 DJ (L b281 1 τ280) fun c291 =>
 om (L b281 2 τ280) fun v292 =>
 om (L b281 3 τ280) fun v293 =>
 DJ (L b284 1 τ280) fun c295 =>
 om (L b284 2 τ280) fun v296 =>
 om (L b284 3 τ280) fun v297 =>
 E OQ [(.agg #[(.bool c291),v292,v293]),(.agg #[(.bool c295),v296,v297])] τ280 (cV Q fun v299 τ298 =>
 BB τ298 (.cells [(.bool false),(.slice none 0 0),(.slice none 0 0)] AE false) fun b300 τ301 =>
 pu (AN 3 (.pointer (some ⟨b300,0,none⟩)) v299 τ301) fun τ302 =>
 om (L b308 0 τ302) fun v311 =>
 A3 .u64 (L b281 0 τ302) fun n313 =>
 DJ (L b300 0 τ302) fun c315 =>
 om (L b300 1 τ302) fun v316 =>
 om (L b300 2 τ302) fun v317 =>
 E B9 [v311,(.int .u64 n313),(.agg #[(.bool c315),v316,v317])] τ302 (cI Q .i64 fun n319 τ318 =>
 E CH [(.int .i64 n319)] τ318 (c0 Q fun τ320 =>
 om (L b308 0 τ320) fun v323 =>
 om (BX v323) fun v324 =>
 om (AB 0 v324) fun v325 =>
 om (AD false 1 v325 τ320) fun v326 =>
 A3 .u64 (L b284 0 τ320) fun n329 =>
 Bi (F3 (n329)) fun n330 =>
 E DI [v326,(.int .i64 n330)] τ320 (c2 Q fun v332 v334 τ331 =>
 tB (fun c333 =>
 tI .i64 (fun n335 =>
 E CH [(.int .i64 n335)] τ331 (c0 Q fun τ338 =>
 Bi (F3 (n352 - 1)) fun n358 =>
 DJ (L b363 1 τ338) fun c369 =>
 om (L b363 2 τ338) fun v370 =>
 om (L b363 3 τ338) fun v371 =>
 om (L b300 1 τ338) fun v382 =>
 om (AG 1 v382 (.int .i64 0)) fun v383 =>
 A3 .u64 (AD false 1 v383 τ338) fun n384 =>
 A3 .u64 (L b281 0 τ338) fun n388 =>
 E K9 [(.agg #[(.bool c369),v370,v371]),(.int .i64 n373),(.int .u64 n384),(.int .u64 n388)] τ338 (cV Q fun v401 τ400 =>
 E LM [v401,(.int .i64 n394)] τ400 (cV Q fun v403 τ402 =>
 E CJ [(.pointer (some ⟨b308,0,none⟩)),(.int .i64 n358),v403] τ402 (c0 Q fun τ404 =>
 Q (.ret (.tuple #[])) τ404))))) v334) v332))))) (
 DJ (L b281 1 τ280) fun c407 =>
 om (L b281 2 τ280) fun v408 =>
 om (L b281 3 τ280) fun v409 =>
 DJ (L b284 1 τ280) fun c411 =>
 om (L b284 2 τ280) fun v412 =>
 om (L b284 3 τ280) fun v413 =>
 E TX [(.agg #[(.bool c407),v408,v409]),(.agg #[(.bool c411),v412,v413])] τ280 (c2 Q fun v415 v416 τ414 =>
 BB τ414 (.cells [(.bool false),(.slice none 0 0),(.slice none 0 0)] AE false) fun b417 τ418 =>
 BB τ418 (.cells [(.bool false),(.slice none 0 0),(.slice none 0 0)] AE false) fun b419 τ420 =>
 pu (AN 3 (.pointer (some ⟨b417,0,none⟩)) v415 τ420) fun τ421 =>
 pu (AN 3 (.pointer (some ⟨b419,0,none⟩)) v416 τ421) fun τ422 =>
 om (L b308 0 τ422) fun v426 =>
 A3 .u64 (L b281 0 τ422) fun n428 =>
 DJ (L b417 0 τ422) fun c430 =>
 om (L b417 1 τ422) fun v431 =>
 om (L b417 2 τ422) fun v432 =>
 E B9 [v426,(.int .u64 n428),(.agg #[(.bool c430),v431,v432])] τ422 (cI Q .i64 fun n434 τ433 =>
 E CH [(.int .i64 n434)] τ433 (c0 Q fun τ435 =>
 om (L b308 0 τ435) fun v438 =>
 A3 .u64 (L b284 0 τ435) fun n441 =>
 DJ (L b419 0 τ435) fun c444 =>
 om (L b419 1 τ435) fun v445 =>
 om (L b419 2 τ435) fun v446 =>
 E B9 [v438,(.int .u64 n441),(.agg #[(.bool c444),v445,v446])] τ435 (cI Q .i64 fun n448 τ447 =>
 E CH [(.int .i64 n448)] τ447 (c0 Q fun τ449 =>
 Bi (F3 (n352 - 1)) fun n456 =>
 DJ (L b363 1 τ449) fun c461 =>
 om (L b363 2 τ449) fun v462 =>
 om (L b363 3 τ449) fun v463 =>
 om (L b417 1 τ449) fun v470 =>
 om (AG 1 v470 (.int .i64 0)) fun v471 =>
 A3 .u64 (AD false 1 v471 τ449) fun n472 =>
 A3 .u64 (L b281 0 τ449) fun n475 =>
 om (L b419 1 τ449) fun v481 =>
 om (AG 1 v481 (.int .i64 0)) fun v482 =>
 A3 .u64 (AD false 1 v482 τ449) fun n483 =>
 A3 .u64 (L b284 0 τ449) fun n485 =>
 E K9 [(.agg #[(.bool c461),v462,v463]),(.int .i64 n373),(.int .u64 n472),(.int .u64 n475)] τ449 (cV Q fun v487 τ486 =>
 om (L b419 1 τ486) fun v488 =>
 AQ v488 v481=true ∧
 A3 .u64 (AD false 1 v482 τ486) fun n489 =>
 AQ (.int .u64 n489) (.int .u64 n483)=true ∧
 A3 .u64 (L b284 0 τ486) fun n490 =>
 AQ (.int .u64 n490) (.int .u64 n485)=true ∧
 E K9 [v487,(.int .i64 n394),(.int .u64 n483),(.int .u64 n485)] τ486 (cV Q fun v492 τ491 =>
 E CJ [(.pointer (some ⟨b308,0,none⟩)),(.int .i64 n456),v492] τ491 (c0 Q fun τ493 =>
 Q (.ret (.tuple #[])) τ493)))))))))
def F5 (E:BP) (Q:RK) (n257 n261:Int) (b264 b271 b306:Nat) (n350:Int) (b361:Nat) (n392:Int) (τ254:AHeap):Prop :=
 If (decide (n257=n261)) (
 A3 .u64 (L b264 0 τ254) fun n266 =>
 DJ (L b264 1 τ254) fun c267 =>
 om (L b264 2 τ254) fun v268 =>
 om (L b264 3 τ254) fun v269 =>
 A3 .i64 (L b264 4 τ254) fun n270 =>
 A3 .u64 (L b271 0 τ254) fun n273 =>
 DJ (L b271 1 τ254) fun c274 =>
 om (L b271 2 τ254) fun v275 =>
 om (L b271 3 τ254) fun v276 =>
 A3 .i64 (L b271 4 τ254) fun n277 =>
 pu (AN 5 (.pointer (some ⟨b271,0,none⟩)) (.agg #[(.int .u64 n266),(.bool c267),v268,v269,(.int .i64 n270)]) τ254) fun τ278 =>
 pu (AN 5 (.pointer (some ⟨b264,0,none⟩)) (.agg #[(.int .u64 n273),(.bool c274),v275,v276,(.int .i64 n277)]) τ278) fun τ279 =>
 (F8 E Q b271 b264 b306 n350 b361 n261 n392 τ279)) (
 (F8 E Q b271 b264 b306 n350 b361 n261 n392 τ254))
def CQ (E:BP) (Q:RK) (n207:Int) (b218:Nat) (n224:Int) (b226:Nat) (n255 n259:Int) (b304:Nat) (n348:Int) (b359:Nat) (n390:Int) (τ206:AHeap):Prop :=
 E CH [(.int .i64 n207)] τ206 (c0 Q fun τ208 =>
 A3 .u64 (L b218 0 τ208) fun n220 =>
 DJ (L b218 1 τ208) fun c221 =>
 om (L b218 2 τ208) fun v222 =>
 om (L b218 3 τ208) fun v223 =>
 DJ (L b226 0 τ208) fun c228 =>
 om (L b226 1 τ208) fun v229 =>
 om (L b226 2 τ208) fun v230 =>
 (
 BB τ208 (.cells [(.int .u64 0),(.bool false),(.slice none 0 0),(.slice none 0 0),(.int .i64 0)] AA false) fun b231 τ232 =>
 A3 .u64 (L b218 0 τ232) fun n233 =>
 AQ (.int .u64 n233) (.int .u64 n220)=true ∧
 DJ (L b218 1 τ232) fun c234 =>
 om (L b218 2 τ232) fun v235 =>
 om (L b218 3 τ232) fun v236 =>
 AQ (.agg #[(.bool c234),v235,v236]) (.agg #[(.bool c221),v222,v223])=true ∧
 DJ (L b226 0 τ232) fun c237 =>
 om (L b226 1 τ232) fun v238 =>
 om (L b226 2 τ232) fun v239 =>
 AQ (.agg #[(.bool c237),v238,v239]) (.agg #[(.bool c228),v229,v230])=true ∧
 BB τ232 (.cells [(.int .u64 0),(.bool false),(.slice none 0 0),(.slice none 0 0),(.int .i64 0)] AA false) fun b240 τ241 =>
 A3 .u64 (L b218 0 τ241) fun n242 =>
 AQ (.int .u64 n242) (.int .u64 n220)=true ∧
 DJ (L b218 1 τ241) fun c243 =>
 om (L b218 2 τ241) fun v244 =>
 om (L b218 3 τ241) fun v245 =>
 AQ (.agg #[(.bool c243),v244,v245]) (.agg #[(.bool c221),v222,v223])=true ∧
 DJ (L b226 0 τ241) fun c246 =>
 om (L b226 1 τ241) fun v247 =>
 om (L b226 2 τ241) fun v248 =>
 AQ (.agg #[(.bool c246),v247,v248]) (.agg #[(.bool c228),v229,v230])=true ∧
 pu (AN 5 (.pointer (some ⟨b231,0,none⟩)) (.agg #[(.int .u64 n220),(.bool c221),v222,v223,(.int .i64 0)]) τ241) fun τ249 =>
 DJ (L b226 0 τ249) fun c250 =>
 om (L b226 1 τ249) fun v251 =>
 om (L b226 2 τ249) fun v252 =>
 AQ (.agg #[(.bool c250),v251,v252]) (.agg #[(.bool c228),v229,v230])=true ∧
 pu (AN 5 (.pointer (some ⟨b240,0,none⟩)) (.agg #[(.int .u64 n224),(.bool c228),v229,v230,(.int .i64 0)]) τ249) fun τ253 =>
 (F5 E Q n255 n259 b240 b231 b304 n348 b359 n390 τ253))∧(
 BB τ208 (.cells [(.int .u64 0),(.bool false),(.slice none 0 0),(.slice none 0 0),(.int .i64 0)] AA false) fun b494 τ495 =>
 A3 .u64 (L b218 0 τ495) fun n496 =>
 AQ (.int .u64 n496) (.int .u64 n220)=true ∧
 DJ (L b218 1 τ495) fun c497 =>
 om (L b218 2 τ495) fun v498 =>
 om (L b218 3 τ495) fun v499 =>
 AQ (.agg #[(.bool c497),v498,v499]) (.agg #[(.bool c221),v222,v223])=true ∧
 DJ (L b226 0 τ495) fun c500 =>
 om (L b226 1 τ495) fun v501 =>
 om (L b226 2 τ495) fun v502 =>
 AQ (.agg #[(.bool c500),v501,v502]) (.agg #[(.bool c228),v229,v230])=true ∧
 BB τ495 (.cells [(.int .u64 0),(.bool false),(.slice none 0 0),(.slice none 0 0),(.int .i64 0)] AA false) fun b503 τ504 =>
 A3 .u64 (L b218 0 τ504) fun n505 =>
 AQ (.int .u64 n505) (.int .u64 n220)=true ∧
 DJ (L b218 1 τ504) fun c506 =>
 om (L b218 2 τ504) fun v507 =>
 om (L b218 3 τ504) fun v508 =>
 AQ (.agg #[(.bool c506),v507,v508]) (.agg #[(.bool c221),v222,v223])=true ∧
 DJ (L b226 0 τ504) fun c509 =>
 om (L b226 1 τ504) fun v510 =>
 om (L b226 2 τ504) fun v511 =>
 AQ (.agg #[(.bool c509),v510,v511]) (.agg #[(.bool c228),v229,v230])=true ∧
 pu (AN 5 (.pointer (some ⟨b503,0,none⟩)) (.agg #[(.int .u64 n220),(.bool c221),v222,v223,(.int .i64 0)]) τ504) fun τ512 =>
 DJ (L b226 0 τ512) fun c513 =>
 om (L b226 1 τ512) fun v514 =>
 om (L b226 2 τ512) fun v515 =>
 AQ (.agg #[(.bool c513),v514,v515]) (.agg #[(.bool c228),v229,v230])=true ∧
 pu (AN 5 (.pointer (some ⟨b494,0,none⟩)) (.agg #[(.int .u64 n224),(.bool c228),v229,v230,(.int .i64 0)]) τ512) fun τ516 =>
 (F5 E Q n255 n259 b494 b503 b304 n348 b359 n390 τ516)))
def EJ (E:BP) (Q:RK) (b170:Nat) (n171 n177:Int) (b181 b215:Nat) (n345:Int) (τ166:AHeap):Prop :=
 E SH [(.pointer (some ⟨b170,0,none⟩)),(.int .i64 n171)] τ166 (cI Q .i64 fun n173 τ172 =>
 E CH [(.int .i64 n173)] τ172 (c0 Q fun τ174 =>
 Bi (F3 (n171+n177)) fun n179 =>
 A3 .i64 (L b181 4 τ174) fun n183 =>
 Bi (F3 (n179 - n183)) fun n184 =>
 om (L b170 0 τ174) fun v188 =>
 om (L b181 3 τ174) fun v190 =>
 om (AG 1 v190 (.int .i64 n184)) fun v192 =>
 A3 .u64 (AD false 1 v192 τ174) fun n193 =>
 (
 E EK [v188,(.int .u64 n193)] τ174 (c3 Q fun v195 v197 v198 τ194 =>
 tI .u64 (fun n196 =>
 tI .i64 (fun n199 =>
 BB τ194 (.cells [(.bool false),(.slice none 0 0),(.slice none 0 0)] AE false) fun b200 τ201 =>
 om (L b170 0 τ201) fun v202 =>
 AQ v202 v188=true ∧
 om (L b181 3 τ201) fun v203 =>
 AQ v203 v190=true ∧
 A3 .u64 (AD false 1 v192 τ201) fun n204 =>
 AQ (.int .u64 n204) (.int .u64 n193)=true ∧
 pu (AN 3 (.pointer (some ⟨b200,0,none⟩)) v197 τ201) fun τ205 =>
 (CQ E Q n199 b215 n196 b200 n184 n171 b170 n345 b181 n177 τ205)) v198) v195))∧(
 BB τ174 (.cells [(.bool false),(.slice none 0 0),(.slice none 0 0)] AE false) fun b517 τ518 =>
 om (L b170 0 τ518) fun v519 =>
 AQ v519 v188=true ∧
 om (L b181 3 τ518) fun v520 =>
 AQ v520 v190=true ∧
 A3 .u64 (AD false 1 v192 τ518) fun n521 =>
 AQ (.int .u64 n521) (.int .u64 n193)=true ∧
 E EK [v188,(.int .u64 n193)] τ518 (c3 Q fun v523 v525 v526 τ522 =>
 tI .u64 (fun n524 =>
 tI .i64 (fun n527 =>
 pu (AN 3 (.pointer (some ⟨b517,0,none⟩)) v525 τ522) fun τ528 =>
 (CQ E Q n527 b215 n524 b517 n184 n171 b170 n345 b181 n177 τ528)) v526) v523))))
def EY (E:BP) (Q:RK) (b122 b128:Nat) (n132:Int) (b147:Nat) (τ121:AHeap):Prop :=
 om (L b122 2 τ121) fun v123 =>
 A3 .i64 (BJ v123) fun n124 =>
 If (decide (4≤n124)) (
 Q (.ret (.tuple #[])) τ121) (
 om (L b128 1 τ121) fun v131 =>
 Bi (F3 (n132 - 1)) fun n135 =>
 om (AG 5 v131 (.int .i64 n135)) fun v136 =>
 om (AB 0 v136) fun v137 =>
 A3 .u64 (AD false 1 v137 τ121) fun n138 =>
 om (AB 1 v136) fun v139 =>
 DJ (AD false 1 v139 τ121) fun c140 =>
 om (AB 2 v136) fun v141 =>
 om (AD false 1 v141 τ121) fun v142 =>
 om (AB 3 v136) fun v143 =>
 om (AD false 1 v143 τ121) fun v144 =>
 om (AB 4 v136) fun v145 =>
 A3 .i64 (AD false 1 v145 τ121) fun n146 =>
 pu (AN 5 (.pointer (some ⟨b147,0,none⟩)) (.agg #[(.int .u64 n138),(.bool c140),v142,v144,(.int .i64 n146)]) τ121) fun τ150 =>
 A3 .i64 (L b147 4 τ150) fun n153 =>
 A3 .i64 (L b147 4 τ150) fun n154 =>
 Bi (F3 (n154+1)) fun n155 =>
 om (L b147 2 τ150) fun v159 =>
 A3 .i64 (BJ v159) fun n160 =>
 If (decide (n155=n160)) (
 Bi (F3 (n153 - 1)) fun n165 =>
 (EJ E Q b128 n165 n153 b147 b122 n132 τ150)) (
 (EJ E Q b128 n153 n155 b147 b122 n132 τ150)))
def E2 (E:BP) (Q:RK) (c107:Bool) (b109:Nat) (n111:Int) (b113 b115:Nat) (τ106:AHeap):Prop :=
 If c107 (
 Bi (F3 (n111 - 1)) fun n112 =>
 A3 .i64 (L b113 4 τ106) fun n114 =>
 om (L b115 2 τ106) fun v116 =>
 om (AG 1 v116 (.int .i64 0)) fun v117 =>
 A3 .u64 (AD false 1 v117 τ106) fun n118 =>
 A3 .u64 (L b115 0 τ106) fun n119 =>
 E EV [(.pointer (some ⟨b109,0,none⟩)),(.int .i64 n112),(.int .i64 n114),(.int .u64 n118),(.int .u64 n119)] τ106 (c0 Q fun τ120 =>
 (EY E Q b115 b109 n111 b113 τ120))) (
 (EY E Q b115 b109 n111 b113 τ106))
def GS (E:BP) (Q:RK) (b95 b98 b108:Nat) (n110:Int) (τ94:AHeap):Prop :=
 om (L b95 2 τ94) fun v96 =>
 A3 .i64 (BJ v96) fun n97 =>
 If (decide (0<n97)) (
 om (L b98 2 τ94) fun v99 =>
 A3 .i64 (L b98 4 τ94) fun n100 =>
 om (AG 1 v99 (.int .i64 n100)) fun v101 =>
 A3 .u64 (AD false 1 v101 τ94) fun n102 =>
 om (L b95 2 τ94) fun v103 =>
 om (AG 1 v103 (.int .i64 0)) fun v104 =>
 A3 .u64 (AD false 1 v104 τ94) fun n105 =>
 (E2 E Q (!decide (n102=n105)) b108 n110 b98 b95 τ94)) (
 (E2 E Q false b108 n110 b98 b95 τ94))
def SN (E:BP) (Q:RK) (x0:Nat) (x1:Int) (σ:AHeap):Prop :=
 If (decide (x1=0)) (
 Q (.ret (.tuple #[])) σ) (
 om (L x0 1 σ) fun v6 =>
 om (AG 5 v6 (.int .i64 x1)) fun v9 =>
 om (AB 0 v9) fun v10 =>
 A3 .u64 (AD false 1 v10 σ) fun n11 =>
 om (AB 1 v9) fun v12 =>
 DJ (AD false 1 v12 σ) fun c13 =>
 om (AB 2 v9) fun v14 =>
 om (AD false 1 v14 σ) fun v15 =>
 om (AB 3 v9) fun v16 =>
 om (AD false 1 v16 σ) fun v17 =>
 om (AB 4 v9) fun v18 =>
 A3 .i64 (AD false 1 v18 σ) fun n19 =>
 om (L x0 1 σ) fun v20 =>
 Bi (F3 (x1 - 1)) fun n21 =>
 om (AG 5 v20 (.int .i64 n21)) fun v22 =>
 om (AB 0 v22) fun v23 =>
 A3 .u64 (AD false 1 v23 σ) fun n24 =>
 om (AB 1 v22) fun v25 =>
 DJ (AD false 1 v25 σ) fun c26 =>
 om (AB 2 v22) fun v27 =>
 om (AD false 1 v27 σ) fun v28 =>
 om (AB 3 v22) fun v29 =>
 om (AD false 1 v29 σ) fun v30 =>
 om (AB 4 v22) fun v31 =>
 A3 .i64 (AD false 1 v31 σ) fun n32 =>
 (
 BB σ (.cells [(.int .u64 0),(.bool false),(.slice none 0 0),(.slice none 0 0),(.int .i64 0)] AA false) fun b33 τ34 =>
 om (L x0 1 τ34) fun v35 =>
 AQ v35 v6=true ∧
 om (AB 0 v9) fun v36 =>
 A3 .u64 (AD false 1 v36 τ34) fun n37 =>
 om (AB 1 v9) fun v38 =>
 DJ (AD false 1 v38 τ34) fun c39 =>
 om (AB 2 v9) fun v40 =>
 om (AD false 1 v40 τ34) fun v41 =>
 om (AB 3 v9) fun v42 =>
 om (AD false 1 v42 τ34) fun v43 =>
 om (AB 4 v9) fun v44 =>
 A3 .i64 (AD false 1 v44 τ34) fun n45 =>
 AQ (.agg #[(.int .u64 n37),(.bool c39),v41,v43,(.int .i64 n45)]) (.agg #[(.int .u64 n11),(.bool c13),v15,v17,(.int .i64 n19)])=true ∧
 om (L x0 1 τ34) fun v46 =>
 AQ v46 v20=true ∧
 om (AB 0 v22) fun v47 =>
 A3 .u64 (AD false 1 v47 τ34) fun n48 =>
 om (AB 1 v22) fun v49 =>
 DJ (AD false 1 v49 τ34) fun c50 =>
 om (AB 2 v22) fun v51 =>
 om (AD false 1 v51 τ34) fun v52 =>
 om (AB 3 v22) fun v53 =>
 om (AD false 1 v53 τ34) fun v54 =>
 om (AB 4 v22) fun v55 =>
 A3 .i64 (AD false 1 v55 τ34) fun n56 =>
 AQ (.agg #[(.int .u64 n48),(.bool c50),v52,v54,(.int .i64 n56)]) (.agg #[(.int .u64 n24),(.bool c26),v28,v30,(.int .i64 n32)])=true ∧
 BB τ34 (.cells [(.int .u64 0),(.bool false),(.slice none 0 0),(.slice none 0 0),(.int .i64 0)] AA false) fun b57 τ58 =>
 om (L x0 1 τ58) fun v59 =>
 AQ v59 v6=true ∧
 om (AB 0 v9) fun v60 =>
 A3 .u64 (AD false 1 v60 τ58) fun n61 =>
 om (AB 1 v9) fun v62 =>
 DJ (AD false 1 v62 τ58) fun c63 =>
 om (AB 2 v9) fun v64 =>
 om (AD false 1 v64 τ58) fun v65 =>
 om (AB 3 v9) fun v66 =>
 om (AD false 1 v66 τ58) fun v67 =>
 om (AB 4 v9) fun v68 =>
 A3 .i64 (AD false 1 v68 τ58) fun n69 =>
 AQ (.agg #[(.int .u64 n61),(.bool c63),v65,v67,(.int .i64 n69)]) (.agg #[(.int .u64 n11),(.bool c13),v15,v17,(.int .i64 n19)])=true ∧
 om (L x0 1 τ58) fun v70 =>
 AQ v70 v20=true ∧
 om (AB 0 v22) fun v71 =>
 A3 .u64 (AD false 1 v71 τ58) fun n72 =>
 om (AB 1 v22) fun v73 =>
 DJ (AD false 1 v73 τ58) fun c74 =>
 om (AB 2 v22) fun v75 =>
 om (AD false 1 v75 τ58) fun v76 =>
 om (AB 3 v22) fun v77 =>
 om (AD false 1 v77 τ58) fun v78 =>
 om (AB 4 v22) fun v79 =>
 A3 .i64 (AD false 1 v79 τ58) fun n80 =>
 AQ (.agg #[(.int .u64 n72),(.bool c74),v76,v78,(.int .i64 n80)]) (.agg #[(.int .u64 n24),(.bool c26),v28,v30,(.int .i64 n32)])=true ∧
 pu (AN 5 (.pointer (some ⟨b33,0,none⟩)) (.agg #[(.int .u64 n11),(.bool c13),v15,v17,(.int .i64 n19)]) τ58) fun τ81 =>
 om (L x0 1 τ81) fun v82 =>
 AQ v82 v20=true ∧
 om (AB 0 v22) fun v83 =>
 A3 .u64 (AD false 1 v83 τ81) fun n84 =>
 om (AB 1 v22) fun v85 =>
 DJ (AD false 1 v85 τ81) fun c86 =>
 om (AB 2 v22) fun v87 =>
 om (AD false 1 v87 τ81) fun v88 =>
 om (AB 3 v22) fun v89 =>
 om (AD false 1 v89 τ81) fun v90 =>
 om (AB 4 v22) fun v91 =>
 A3 .i64 (AD false 1 v91 τ81) fun n92 =>
 AQ (.agg #[(.int .u64 n84),(.bool c86),v88,v90,(.int .i64 n92)]) (.agg #[(.int .u64 n24),(.bool c26),v28,v30,(.int .i64 n32)])=true ∧
 pu (AN 5 (.pointer (some ⟨b57,0,none⟩)) (.agg #[(.int .u64 n24),(.bool c26),v28,v30,(.int .i64 n32)]) τ81) fun τ93 =>
 (GS E Q b33 b57 x0 x1 τ93))∧(
 BB σ (.cells [(.int .u64 0),(.bool false),(.slice none 0 0),(.slice none 0 0),(.int .i64 0)] AA false) fun b530 τ531 =>
 om (L x0 1 τ531) fun v532 =>
 AQ v532 v6=true ∧
 om (AB 0 v9) fun v533 =>
 A3 .u64 (AD false 1 v533 τ531) fun n534 =>
 om (AB 1 v9) fun v535 =>
 DJ (AD false 1 v535 τ531) fun c536 =>
 om (AB 2 v9) fun v537 =>
 om (AD false 1 v537 τ531) fun v538 =>
 om (AB 3 v9) fun v539 =>
 om (AD false 1 v539 τ531) fun v540 =>
 om (AB 4 v9) fun v541 =>
 A3 .i64 (AD false 1 v541 τ531) fun n542 =>
 AQ (.agg #[(.int .u64 n534),(.bool c536),v538,v540,(.int .i64 n542)]) (.agg #[(.int .u64 n11),(.bool c13),v15,v17,(.int .i64 n19)])=true ∧
 om (L x0 1 τ531) fun v543 =>
 AQ v543 v20=true ∧
 om (AB 0 v22) fun v544 =>
 A3 .u64 (AD false 1 v544 τ531) fun n545 =>
 om (AB 1 v22) fun v546 =>
 DJ (AD false 1 v546 τ531) fun c547 =>
 om (AB 2 v22) fun v548 =>
 om (AD false 1 v548 τ531) fun v549 =>
 om (AB 3 v22) fun v550 =>
 om (AD false 1 v550 τ531) fun v551 =>
 om (AB 4 v22) fun v552 =>
 A3 .i64 (AD false 1 v552 τ531) fun n553 =>
 AQ (.agg #[(.int .u64 n545),(.bool c547),v549,v551,(.int .i64 n553)]) (.agg #[(.int .u64 n24),(.bool c26),v28,v30,(.int .i64 n32)])=true ∧
 BB τ531 (.cells [(.int .u64 0),(.bool false),(.slice none 0 0),(.slice none 0 0),(.int .i64 0)] AA false) fun b554 τ555 =>
 om (L x0 1 τ555) fun v556 =>
 AQ v556 v6=true ∧
 om (AB 0 v9) fun v557 =>
 A3 .u64 (AD false 1 v557 τ555) fun n558 =>
 om (AB 1 v9) fun v559 =>
 DJ (AD false 1 v559 τ555) fun c560 =>
 om (AB 2 v9) fun v561 =>
 om (AD false 1 v561 τ555) fun v562 =>
 om (AB 3 v9) fun v563 =>
 om (AD false 1 v563 τ555) fun v564 =>
 om (AB 4 v9) fun v565 =>
 A3 .i64 (AD false 1 v565 τ555) fun n566 =>
 AQ (.agg #[(.int .u64 n558),(.bool c560),v562,v564,(.int .i64 n566)]) (.agg #[(.int .u64 n11),(.bool c13),v15,v17,(.int .i64 n19)])=true ∧
 om (L x0 1 τ555) fun v567 =>
 AQ v567 v20=true ∧
 om (AB 0 v22) fun v568 =>
 A3 .u64 (AD false 1 v568 τ555) fun n569 =>
 om (AB 1 v22) fun v570 =>
 DJ (AD false 1 v570 τ555) fun c571 =>
 om (AB 2 v22) fun v572 =>
 om (AD false 1 v572 τ555) fun v573 =>
 om (AB 3 v22) fun v574 =>
 om (AD false 1 v574 τ555) fun v575 =>
 om (AB 4 v22) fun v576 =>
 A3 .i64 (AD false 1 v576 τ555) fun n577 =>
 AQ (.agg #[(.int .u64 n569),(.bool c571),v573,v575,(.int .i64 n577)]) (.agg #[(.int .u64 n24),(.bool c26),v28,v30,(.int .i64 n32)])=true ∧
 pu (AN 5 (.pointer (some ⟨b554,0,none⟩)) (.agg #[(.int .u64 n11),(.bool c13),v15,v17,(.int .i64 n19)]) τ555) fun τ578 =>
 om (L x0 1 τ578) fun v579 =>
 AQ v579 v20=true ∧
 om (AB 0 v22) fun v580 =>
 A3 .u64 (AD false 1 v580 τ578) fun n581 =>
 om (AB 1 v22) fun v582 =>
 DJ (AD false 1 v582 τ578) fun c583 =>
 om (AB 2 v22) fun v584 =>
 om (AD false 1 v584 τ578) fun v585 =>
 om (AB 3 v22) fun v586 =>
 om (AD false 1 v586 τ578) fun v587 =>
 om (AB 4 v22) fun v588 =>
 A3 .i64 (AD false 1 v588 τ578) fun n589 =>
 AQ (.agg #[(.int .u64 n581),(.bool c583),v585,v587,(.int .i64 n589)]) (.agg #[(.int .u64 n24),(.bool c26),v28,v30,(.int .i64 n32)])=true ∧
 pu (AN 5 (.pointer (some ⟨b530,0,none⟩)) (.agg #[(.int .u64 n24),(.bool c26),v28,v30,(.int .i64 n32)]) τ578) fun τ590 =>
 (GS E Q b554 b530 x0 x1 τ590)))
theorem cX {Q:RK} {x0:Nat} {x1:Int} {σ:AHeap} (h:SN E Q x0 x1 σ):E MU [(.pointer (some ⟨x0,0,none⟩)),(.int .i64 x1)] σ Q :=
 BT Tryz.func84 (hl [(1,.tree (.step 0 [] (.step 1 [] (.step 2 [] (.step 3 [] (.step 4 [] (.step 5 [] (.step 6 [] (.step 7 [] (.step 8 [] (.step 9 [] (.step 10 [] (.step 11 [] (.step 12 [] (.step 13 [] (.step 14 [] (.alt (.step 15 [3,6,10,14] (.step 16 [3,6,10,14] (.step 17 [10,14] (.step 18 [] .nil)))) (.step 16 [3,6,10,14] (.step 15 [3,6,10,14] (.step 17 [10,14] (.step 18 [] .nil))))))))))))))))))))),(2,.ord (il 0 20)),(4,.ord (il 0 13)),(6,.ord (il 0 7)),(8,.tree (.step 0 [] (.step 1 [] (.step 2 [] (.step 3 [] (.step 4 [] (.step 5 [] (.step 6 [] (.step 7 [] (.step 8 [] (.step 9 [] (.alt (.step 10 [] (.step 11 [] (.step 12 [] (.step 13 [] (.step 14 [] (.step 15 [3,6,9] (.step 16 [] (.step 17 [] (.step 18 [] .nil))))))))) (.step 15 [3,6,9] (.step 10 [] (.step 11 [] (.step 12 [] (.step 13 [] (.step 14 [] (.step 16 [] (.step 17 [] (.step 18 [] .nil))))))))))))))))))))),(9,.tree (.step 0 [] (.step 1 [] (.step 2 [] (.step 3 [] (.step 4 [] (.step 5 [] (.step 6 [] (.step 7 [] (.alt (.step 8 [1,3,6] (.step 9 [1,3,6] (.step 10 [6] (.step 11 [] .nil)))) (.step 9 [1,3,6] (.step 8 [1,3,6] (.step 10 [6] (.step 11 [] .nil)))))))))))))),(12,.ord (il 0 9)),(13,.ord (il 0 16)),(14,.ord (il 0 12++[(13,[]),(12,[]),(14,[]),(15,[])])),(15,.ord (il 0 9)),(16,.ord (il 0 9)),(17,.ord (il 0 12++il 13 7++[(12,[15,17,19]),(20,[]),(21,[])]))]) (fun _=>.v) (by kernel_rfl) (Eq.mpr (by kernel_rfl) h)
def M4 (E:BP) (Q:RK) (x0:Nat) (x1:Int) (σ:AHeap):Prop :=
 If (decide (x1<0)) (
 Q (.ret (.int .i64 23)) σ) (
 Q (.ret (.int .i64 0)) σ)
theorem SR {Q:RK} {x0:Nat} {x1:Int} {σ:AHeap} (h:M4 E Q x0 x1 σ):E SH [(.pointer (some ⟨x0,0,none⟩)),(.int .i64 x1)] σ Q :=
 BT Tryz.func139 (fun _=>none) (fun _=>.v) (by kernel_rfl) (Eq.mpr (by kernel_rfl) h)
def HK (E:BP) (Q:RK) (b231 b246 b264 b279:Nat) (τ228:AHeap):Prop :=
 A3 .u64 (L b231 0 τ228) fun n232 =>
 A3 .u64 (L b246 0 τ228) fun n247 =>
 St b231 0 (.int .u64 n232) τ228 fun τ248 =>
 A3 .u64 (L b246 0 τ248) fun n249 =>
 AQ (.int .u64 n249) (.int .u64 n247)=true ∧
 St b246 0 (.int .u64 n247) τ248 fun τ250 =>
 St b264 0 (.bool true) τ250 fun τ265 =>
 St b279 0 (.int .i64 0) τ265 fun τ280 =>
 Q (.ret (.tuple #[])) τ280
def HQ (E:BP) (Q:RK) (b215 b217 b229 b244 b262 b277:Nat) (τ204:AHeap):Prop :=
 om (L b215 0 τ204) fun v216 =>
 A3 .u64 (L b217 0 τ204) fun n218 =>
 Bi (F3 (n218)) fun n219 =>
 E DI [v216,(.int .i64 n219)] τ204 (c2 Q fun v221 v223 τ220 =>
 tB (fun c222 =>
 tI .i64 (fun n224 =>
 E CH [(.int .i64 n224)] τ220 (c0 Q fun τ227 =>
 (HK E Q b229 b244 b262 b277 τ227))) v223) v221)
def DG (E:BP) (Q:RK) (c186:Bool) (b188 b191 b212 b241 b259 b274:Nat) (τ185:AHeap):Prop :=
 If c186 (
 St b188 0 (.int .u64 0) τ185 fun τ189 =>
 om (L b191 2 τ189) fun v193 =>
 A3 .i64 (BJ v193) fun n194 =>
 If (decide (n194=1)) (
 om (L b191 3 τ189) fun v198 =>
 om (AG 1 v198 (.int .i64 0)) fun v199 =>
 A3 .u64 (AD false 1 v199 τ189) fun n200 =>
 St b188 0 (.int .u64 n200) τ189 fun τ203 =>
 (HQ E Q b212 b191 b188 b241 b259 b274 τ203)) (
 (HQ E Q b212 b191 b188 b241 b259 b274 τ189))) (
 (HK E Q b188 b241 b259 b274 τ185))
def QK (E:BP) (Q:RK) (b91:Nat) (n93 n99:Int) (b173 b233 b251 b266:Nat) (τ85:AHeap):Prop :=
 E OR [(.pointer (some ⟨b91,0,none⟩)),(.int .u64 n93),(.int .u64 n99),(.bool false)] τ85 (cV Q fun v101 τ100 =>
 om (BX v101) fun v104 =>
 om (AB 1 v104) fun v105 =>
 om (AD false 1 v105 τ100) fun v106 =>
 A3 .i64 (BJ v106) fun n107 =>
 Bi (F3 (n107 - 1)) fun n108 =>
 om (BX v101) fun v111 =>
 om (AB 1 v111) fun v112 =>
 om (AD false 1 v112 τ100) fun v113 =>
 om (AG 5 v113 (.int .i64 n108)) fun v115 =>
 om (AB 1 v115) fun v116 =>
 om (AB 0 v116) fun v117 =>
 DJ (AD false 1 v117 τ100) fun c118 =>
 om (AB 1 v116) fun v119 =>
 om (AD false 1 v119 τ100) fun v120 =>
 om (AB 2 v116) fun v121 =>
 om (AD false 1 v121 τ100) fun v122 =>
 E ML [(.agg #[(.bool c118),v120,v122]),(.int .u64 n99)] τ100 (c2 Q fun v126 v128 τ125 =>
 tI .i64 (fun n127 =>
 tB (fun c129 =>
 om (BX v101) fun v133 =>
 om (AB 1 v133) fun v134 =>
 om (AD false 1 v134 τ125) fun v135 =>
 om (AG 5 v135 (.int .i64 n108)) fun v136 =>
 om (AB 1 v136) fun v137 =>
 om (AB 0 v137) fun v138 =>
 DJ (AD false 1 v138 τ125) fun c139 =>
 om (AB 1 v137) fun v140 =>
 om (AD false 1 v140 τ125) fun v141 =>
 om (AB 2 v137) fun v142 =>
 om (AD false 1 v142 τ125) fun v143 =>
 E LM [(.agg #[(.bool c139),v141,v143]),(.int .i64 n127)] τ125 (cV Q fun v146 τ145 =>
 E CJ [v101,(.int .i64 n108),v146] τ145 (c0 Q fun τ147 =>
 E LW [v101,(.func (.func MU) #[v101] #[])] τ147 (c0 Q fun τ150 =>
 om (BX v101) fun v153 =>
 om (AB 1 v153) fun v154 =>
 om (AD false 1 v154 τ150) fun v155 =>
 om (AG 5 v155 (.int .i64 0)) fun v156 =>
 om (AB 0 v156) fun v157 =>
 A3 .u64 (AD false 1 v157 τ150) fun n158 =>
 om (AB 1 v156) fun v159 =>
 DJ (AD false 1 v159 τ150) fun c160 =>
 om (AB 2 v156) fun v161 =>
 om (AD false 1 v161 τ150) fun v162 =>
 om (AB 3 v156) fun v163 =>
 om (AD false 1 v163 τ150) fun v164 =>
 om (AB 4 v156) fun v165 =>
 A3 .i64 (AD false 1 v165 τ150) fun n166 =>
 BB τ150 (.cells [(.int .u64 0),(.bool false),(.slice none 0 0),(.slice none 0 0),(.int .i64 0)] AA false) fun b167 τ168 =>
 pu (AN 5 (.pointer (some ⟨b167,0,none⟩)) (.agg #[(.int .u64 n158),(.bool c160),v162,v164,(.int .i64 n166)]) τ168) fun τ169 =>
 A3 .u64 (L b167 0 τ169) fun n172 =>
 St b173 0 (.int .u64 n172) τ169 fun τ180 =>
 om (L b167 2 τ180) fun v183 =>
 A3 .i64 (BJ v183) fun n184 =>
 If (decide (n184=0)) (
 isSkip F2=true ∧
 (DG E Q true b173 b167 b91 b233 b251 b266 τ180)) (
 DJ (L b167 1 τ180) fun c281 =>
 If (!c281) (
 om (L b167 2 τ180) fun v282 =>
 A3 .i64 (BJ v282) fun n283 =>
 (DG E Q (decide (n283=1)) b173 b167 b91 b233 b251 b266 τ180)) (
 (DG E Q false b173 b167 b91 b233 b251 b266 τ180))))))) v128) v126))
def WJ (E:BP) (Q:RK) (x0:Nat) (x1 x2:Int) (σ:AHeap):Prop :=
 BB σ (.cells [(.int .u64 0)] AL false) fun b1 τ2 =>
 BB τ2 (.cells [(.int .u64 0)] AL false) fun b3 τ4 =>
 BB τ4 (.cells [(.bool false)] CG false) fun b5 τ6 =>
 BB τ6 (.cells [(.int .i64 0)] T9 false) fun b7 τ8 =>
 E IR [(.pointer (some ⟨x0,0,none⟩)),(.int .u64 x1),(.int .u64 x2)] τ8 (c3 Q fun v14 v16 v18 τ13 =>
 tI .u64 (fun n15 =>
 tB (fun c17 =>
 tI .i64 (fun n19 =>
 St b3 0 (.int .u64 n15) τ13 fun τ21 =>
 St b5 0 (.bool c17) τ21 fun τ23 =>
 St b7 0 (.int .i64 n19) τ23 fun τ25 =>
 A3 .i64 (L b7 0 τ25) fun n28 =>
 If (!decide (n28=0)) (
 A3 .i64 (L b7 0 τ25) fun n32 =>
 St b1 0 (.int .u64 0) τ25 fun τ36 =>
 A3 .i64 (L b7 0 τ36) fun n37 =>
 AQ (.int .i64 n37) (.int .i64 n32)=true ∧
 St b3 0 (.int .u64 0) τ36 fun τ40 =>
 A3 .i64 (L b7 0 τ40) fun n41 =>
 AQ (.int .i64 n41) (.int .i64 n32)=true ∧
 St b5 0 (.bool false) τ40 fun τ44 =>
 A3 .i64 (L b7 0 τ44) fun n45 =>
 AQ (.int .i64 n45) (.int .i64 n32)=true ∧
 St b7 0 (.int .i64 n32) τ44 fun τ46 =>
 pu (AD false 1 (.pointer (some ⟨b1,0,none⟩)) τ46) fun v47 =>
 pu (AD false 1 (.pointer (some ⟨b3,0,none⟩)) τ46) fun v48 =>
 pu (AD false 1 (.pointer (some ⟨b5,0,none⟩)) τ46) fun v49 =>
 pu (AD false 1 (.pointer (some ⟨b7,0,none⟩)) τ46) fun v50 =>
 Q (.ret (.tuple #[v47,v48,v49,v50])) τ46) (
 DJ (L b5 0 τ25) fun c53 =>
 If (!c53) (
 St b1 0 (.int .u64 x1) τ25 fun τ62 =>
 St b3 0 (.int .u64 0) τ62 fun τ65 =>
 St b5 0 (.bool false) τ65 fun τ67 =>
 St b7 0 (.int .i64 0) τ67 fun τ70 =>
 pu (AD false 1 (.pointer (some ⟨b1,0,none⟩)) τ70) fun v71 =>
 pu (AD false 1 (.pointer (some ⟨b3,0,none⟩)) τ70) fun v72 =>
 pu (AD false 1 (.pointer (some ⟨b5,0,none⟩)) τ70) fun v73 =>
 pu (AD false 1 (.pointer (some ⟨b7,0,none⟩)) τ70) fun v74 =>
 Q (.ret (.tuple #[v71,v72,v73,v74])) τ70) (
 (QK E (qd P C0 [(.pointer (some ⟨b1,0,none⟩)),(.pointer (some ⟨b3,0,none⟩)),(.pointer (some ⟨b5,0,none⟩)),(.pointer (some ⟨b7,0,none⟩))] fun τ80 =>
 pu (AD false 1 (.pointer (some ⟨b1,0,none⟩)) τ80) fun v81 =>
 pu (AD false 1 (.pointer (some ⟨b3,0,none⟩)) τ80) fun v82 =>
 pu (AD false 1 (.pointer (some ⟨b5,0,none⟩)) τ80) fun v83 =>
 pu (AD false 1 (.pointer (some ⟨b7,0,none⟩)) τ80) fun v84 =>
 Q (.ret (.tuple #[v81,v82,v83,v84])) τ80) x0 x1 x2 b1 b3 b5 b7 τ25)))) v18) v16) v14)
theorem hS {Q:RK} {x0:Nat} {x1 x2:Int} {σ:AHeap} (h:WJ E Q x0 x1 x2 σ):E PO [(.pointer (some ⟨x0,0,none⟩)),(.int .u64 x1),(.int .u64 x2)] σ Q :=
 ABo Tryz.func27 (hl [(1,.ord ([(0,[]),(1,[0]),(2,[0]),(3,[0]),(4,[])])),(5,.ord (il 0 13)),(6,.ord ([(0,[]),(1,[]),(2,[1]),(3,[]),(4,[]),(5,[])]))]) (fun _=>.v) (by kernel_rfl) (Eq.mpr (by kernel_rfl) h)
def H9 (E:BP) (Q:RK) (x0 x1 x2 x3:Nat) (rv:Option Value) (σ:AHeap):Prop :=
 E MG [(rv.getD .nilIface)] σ (cI Q .i64 fun n2 τ1 =>
 If (!decide (n2=0)) (
 St x0 0 (.int .u64 0) τ1 fun τ7 =>
 St x1 0 (.int .u64 0) τ7 fun τ9 =>
 St x2 0 (.bool false) τ9 fun τ11 =>
 St x3 0 (.int .i64 n2) τ11 fun τ13 =>
 Q (.ret (.tuple #[])) τ13) (
 Q (.ret (.tuple #[])) τ1))
theorem aE (E:BP) (K:AHeap→Prop) (x0 x1 x2 x3:Nat) (rv:Option Value) (σ:AHeap):zW P E Tryz.f82 (fun _=>none) (fun _=>.v) [(.pointer (some ⟨x0,0,none⟩)),(.pointer (some ⟨x1,0,none⟩)),(.pointer (some ⟨x2,0,none⟩)),(.pointer (some ⟨x3,0,none⟩))] rv σ K=H9 E (kq K) x0 x1 x2 x3 rv σ:=by kernel_rfl
theorem QV {K:AHeap→Prop} {x0 x1 x2 x3:Nat} {rv:Option Value} {σ:AHeap} (h:H9 E (kq K) x0 x1 x2 x3 rv σ):Dv P C0 [(.pointer (some ⟨x0,0,none⟩)),(.pointer (some ⟨x1,0,none⟩)),(.pointer (some ⟨x2,0,none⟩)),(.pointer (some ⟨x3,0,none⟩))] rv σ K :=
 ABt Tryz.func82 _ _ (by kernel_rfl) (Eq.mpr (aE E K x0 x1 x2 x3 rv σ) h)
def KK (E:BP) (Q:RK) (c59:Bool) (v62 v65:Value) (τ58:AHeap):Prop :=
 If c59 (
 Q (.ret (.pointer none)) τ58) (
 On v62 (
 On v65 (
 BB τ58 (.cells [v62,v65] BI false) fun b67 τ68 =>
 Q (.ret (.pointer (some ⟨b67,0,none⟩))) τ68)))
def MZ (E:BP) (Q:RK) (c28:Bool) (v34:Value) (n41:Int) (v49:Value) (τ27:AHeap):Prop :=
 If c28 (
 Q (.ret (.pointer none)) τ27) (
 E OY [v34,(.int .i64 n41)] τ27 (c2 Q fun v44 v45 τ43 =>
 tI .i64 (fun n46 =>
 E dY [v49,v44] τ43 (cV Q fun v54 τ53 =>
 If (!decide (n46=0)) (
 (KK E Q true v49 v54 τ53)) (
 DJ (BA (some (.pointer DW)) .eql v54 (.pointer none)) fun c69 =>
 (KK E Q c69 v49 v54 τ53)))) v45))
def YB (E:BP) (Q:RK) (x0 x1:Int) (σ:AHeap):Prop :=
 E SD [(.int .i64 x0)] σ (c2 Q fun v4 v5 τ3 =>
 tI .i64 (fun n6 =>
 pu (OU AI 1 [(.int .u8 0)] (.int .i64 x0) (.int .i64 x0) τ3) fun r9 =>
 om (AG 1 r9.1 (.int .i64 0)) fun v12 =>
 pu (AN 1 v12 (.int .u8 1) r9.2) fun τ13 =>
 om (AG 1 r9.1 (.int .i64 1)) fun v14 =>
 pu (AN 1 v14 (.int .u8 1) τ13) fun τ15 =>
 E XD [r9.1] τ15 (c2 Q fun v19 v20 τ18 =>
 tI .i64 (fun n21 =>
 If (!decide (n6=0)) (
 (MZ E Q true v4 x1 v19 τ18)) (
 (MZ E Q (!decide (n21=0)) v4 x1 v19 τ18))) v20)) v5)
theorem lY {Q:RK} {x0 x1:Int} {σ:AHeap} (h:YB E Q x0 x1 σ):E NE [(.int .i64 x0),(.int .i64 x1)] σ Q :=
 BT Tryz.func15 (fun _=>none) (fun _=>.v) (by kernel_rfl) (Eq.mpr (by kernel_rfl) h)
def DR (E:BP) (Q:RK) (c27:Bool) (v30:Value) (n36:Int) (τ26:AHeap):Prop :=
 If c27 (
 Q (.ret (.bool false)) τ26) (
 om (BX v30) fun v32 =>
 om (AB 1 v32) fun v33 =>
 om (AD false 1 v33 τ26) fun v34 =>
 E IN [v34,(.int .u64 n36),(.int .u64 5),(.int .u64 1)] τ26 (c4 Q fun v39 v41 v43 v45 τ38 =>
 tI .u64 (fun n40 =>
 tI .u64 (fun n42 =>
 tB (fun c44 =>
 tI .i64 (fun n46 =>
 om (BX v30) fun v49 =>
 om (AB 1 v49) fun v50 =>
 om (AD false 1 v50 τ38) fun v51 =>
 E IR [v51,(.int .u64 n36),(.int .u64 5)] τ38 (c3 Q fun v54 v56 v58 τ53 =>
 tI .u64 (fun n55 =>
 tB (fun c57 =>
 tI .i64 (fun n59 =>
 om (BX v30) fun v62 =>
 om (AB 1 v62) fun v63 =>
 om (AD false 1 v63 τ53) fun v64 =>
 E IR [v64,(.int .u64 n40),(.int .u64 6)] τ53 (c3 Q fun v68 v70 v72 τ67 =>
 tI .u64 (fun n69 =>
 tB (fun c71 =>
 tI .i64 (fun n73 =>
 If (decide (n46=0)) (
 If c44 (
 If (decide (n42=1)) (
 If (!decide (n40=n36)) (
 If (decide (n59=0)) (
 If (decide (n55=1)) (
 If c57 (
 If (decide (n73=0)) (
 Q (.ret (.bool (!c71))) τ67) (
 Q (.ret (.bool false)) τ67)) (
 Q (.ret (.bool false)) τ67)) (
 Q (.ret (.bool false)) τ67)) (
 Q (.ret (.bool false)) τ67)) (
 Q (.ret (.bool false)) τ67)) (
 Q (.ret (.bool false)) τ67)) (
 Q (.ret (.bool false)) τ67)) (
 Q (.ret (.bool false)) τ67)) v72) v70) v68)) v58) v56) v54)) v45) v43) v41) v39))
def WM (E:BP) (Q:RK) (σ:AHeap):Prop :=
 E NE [(.int .i64 40),(.int .i64 4)] σ (cV Q fun v3 τ2 =>
 DJ (BA (some (.pointer BI)) .eql v3 (.pointer none)) fun c6 =>
 If c6 (
 Q (.ret (.bool false)) τ2) (
 om (BX v3) fun v12 =>
 om (AB 1 v12) fun v13 =>
 om (AD false 1 v13 τ2) fun v14 =>
 E IN [v14,(.int .u64 0),(.int .u64 5),(.int .u64 1)] τ2 (c4 Q fun v16 v18 v20 v22 τ15 =>
 tI .u64 (fun n17 =>
 tI .u64 (fun n19 =>
 tB (fun c21 =>
 tI .i64 (fun n23 =>
 If (!decide (n23=0)) (
 (DR E Q true v3 n17 τ15)) (
 If c21 (
 (DR E Q true v3 n17 τ15)) (
 If (!decide (n19=0)) (
 (DR E Q true v3 n17 τ15)) (
 If (decide (n17=0)) (
 (DR E Q true v3 n17 τ15)) (
 om (BX v3) fun v97 =>
 om (AB 0 v97) fun v98 =>
 om (AD false 1 v98 τ15) fun v99 =>
 Bi (F3 (n17)) fun n100 =>
 E FB [v99,(.int .i64 n100)] τ15 (cI Q .i64 fun n102 τ101 =>
 If (!decide (n102=0)) (
 (DR E Q true v3 n17 τ101)) (
 om (BX v3) fun v103 =>
 om (AB 0 v103) fun v104 =>
 om (AD false 1 v104 τ101) fun v105 =>
 E FB [v105,(.int .i64 1)] τ101 (cI Q .i64 fun n107 τ106 =>
 (DR E Q (!decide (n107=0)) v3 n17 τ106))))))))) v22) v20) v18) v16)))
theorem iD {Q:RK} {σ:AHeap} (h:WM E Q σ):E PV [] σ Q :=
 BT Tryz.func14 (fun _=>none) (fun _=>.v) (by kernel_rfl) (Eq.mpr (by kernel_rfl) h)
def GH (N2:Int→Value→Int→AHeap→Prop) (E:BP) (Q:RK) (c166:Bool) (v168:Value) (n175 n177:Int) (v179:Value) (n182 n189 n199 n207:Int) (τ165:AHeap):Prop :=
 If c166 (
 Q (.ret (.bool false)) τ165) (
 om (BX v168) fun v185 =>
 om (AB 0 v185) fun v186 =>
 om (AD false 1 v186 τ165) fun v187 =>
 Bi (F3 (n189)) fun n191 =>
 E DI [v187,(.int .i64 n191)] τ165 (c2 Q fun v193 v195 τ192 =>
 tB (fun c194 =>
 tI .i64 (fun n196 =>
 om (AY 1 v179 none (some (.int .i64 n207)) (some (.int .i64 n207))) fun v211 =>
 Bi (F3 (n207+1)) fun n212 =>
 om (AY 1 v179 (some (.int .i64 n212)) none none) fun v213 =>
 pu (BN AL 1 8 v211 v213 τ192) fun r214 =>
 Bi (F3 (n182+1)) fun n220 =>
 N2 n199 r214.1 n220 r214.2) v195) v193))
def D6 (N2:Int→Value→Int→AHeap→Prop) (E:BP) (Q:RK) (v141:Value) (n149:Int) (v150:Value) (n151 n173 n180:Int) (τ136:AHeap):Prop :=
 om (BX v141) fun v142 =>
 om (AB 1 v142) fun v143 =>
 om (AD false 1 v143 τ136) fun v144 =>
 om (AG 1 v150 (.int .i64 n151)) fun v152 =>
 A3 .u64 (AD false 1 v152 τ136) fun n153 =>
 E PO [v144,(.int .u64 n149),(.int .u64 n153)] τ136 (c4 Q fun v155 v157 v159 v161 τ154 =>
 tI .u64 (fun n156 =>
 tI .u64 (fun n158 =>
 tB (fun c160 =>
 tI .i64 (fun n162 =>
 If (!decide (n162=0)) (
 (GH N2 E Q true v141 n173 n149 v150 n180 n158 n156 n151 τ154)) (
 (GH N2 E Q (!c160) v141 n173 n149 v150 n180 n158 n156 n151 τ154))) v161) v159) v157) v155)
def JN (N2:Int→Value→Int→AHeap→Prop) (E:BP) (Q:RK) (v102 v105:Value) (n109 n96:Int) (v97:Value) (n98:Int) (τ110:AHeap):Prop :=
 A3 .i64 (BJ v97) fun n111 =>
 If (decide (0<n111)) (
 A3 .i64 (BJ v102) fun n122 =>
 If (decide (n98<n122)) (
 om (AG 1 v102 (.int .i64 n98)) fun v127 =>
 A3 .u16 (AD false 1 v127 τ110) fun n128 =>
 Bi (F3 (n128)) fun n129 =>
 A3 .i64 (BJ v97) fun n134 =>
 A3 .i64 (BA (some (.int .i64)) .rem (.int .i64 n129) (.int .i64 n134)) fun n135 =>
 (D6 N2 E Q v105 n96 v97 n135 n109 n98 τ110)) (
 (D6 N2 E Q v105 n96 v97 0 n109 n98 τ110))) (
 om (BX v105) fun v236 =>
 om (AB 0 v236) fun v237 =>
 om (AD false 1 v237 τ110) fun v238 =>
 E EW [v238] τ110 (cI Q .i64 fun n240 τ239 =>
 If (decide (n96=0)) (
 om (BX v105) fun v245 =>
 om (AB 0 v245) fun v246 =>
 om (AD false 1 v246 τ239) fun v247 =>
 E GI [v247] τ239 (cI Q .i64 fun n249 τ248 =>
 Q (.ret (.bool (decide (n249=n109)))) τ248)) (
 Q (.ret (.bool false)) τ239)))
def D8 (E:BP) (Q:RK) (v88 v99:Value) (n106 n253:Int) (v256:Value) (τ87:AHeap):Prop :=
 om (BX v88) fun v89 =>
 om (AB 0 v89) fun v90 =>
 om (AD false 1 v90 τ87) fun v91 =>
 E EW [v91] τ87 (cI Q .i64 fun n93 τ92 =>
 ∃ I252:Nat→Int→Value→Int→AHeap→Prop,(∃ m,I252 m n253 v256 0 τ92) ∧
 ∀ m (n96:Int) (v97:Value) (n98:Int) (σ':AHeap),I252 m n96 v97 n98 σ'→(JN (fun n96 v97 n98 σ'=>∃ m',m'<m∧I252 m' n96 v97 n98 σ') E Q v99 v88 n106 n96 v97 n98 σ'))
def EA (N1:Int→Value→Int→AHeap→Prop) (E:BP) (Q:RK) (n342 n346:Int) (v351 v353:Value) (n357:Int) (v362:Value) (τ337:AHeap):Prop :=
 Bi (F3 (n346+1)) fun n348 =>
 N1 n342 v362 n348 τ337
def JR (N1:Int→Value→Int→AHeap→Prop) (E:BP) (Q:RK) (v38 v42:Value) (n46:Int) (v48:Value) (n50 n28:Int) (v29:Value) (n30:Int) (τ51:AHeap):Prop :=
 If (decide (n30<n50)) (
 om (AG 1 v48 (.int .i64 n30)) fun v59 =>
 A3 .u64 (AD false 1 v59 τ51) fun n60 =>
 If (decide (n30=150)) (
 (D8 E Q v42 v38 n46 n28 v29 τ51)) (
 om (BX v42) fun v262 =>
 om (AB 0 v262) fun v263 =>
 om (AD false 1 v263 τ51) fun v264 =>
 E ED [v264] τ51 (c2 Q fun v266 v268 τ265 =>
 tI .i64 (fun n267 =>
 tI .i64 (fun n269 =>
 om (BX v42) fun v272 =>
 om (AB 1 v272) fun v273 =>
 om (AD false 1 v273 τ265) fun v274 =>
 Bi (VN (n267)) fun n282 =>
 E IN [v274,(.int .u64 n28),(.int .u64 n60),(.int .u64 n282)] τ265 (c4 Q fun v284 v286 v288 v290 τ283 =>
 tI .u64 (fun n285 =>
 tI .u64 (fun n287 =>
 tB (fun c289 =>
 tI .i64 (fun n291 =>
 If (!decide (n291=0)) (
 Q (.ret (.bool false)) τ283) (
 If c289 (
 om (BX v42) fun v324 =>
 om (AB 0 v324) fun v325 =>
 om (AD false 1 v325 τ283) fun v326 =>
 Bi (F3 (n287)) fun n331 =>
 E DI [v326,(.int .i64 n331)] τ283 (c2 Q fun v333 v335 τ332 =>
 tB (fun c334 =>
 tI .i64 (fun n336 =>
 (EA N1 E Q n285 n30 v38 v42 n46 v29 τ332)) v335) v333)) (
 BB τ283 (.cells [(.int .u64 n60)] AL false) fun b368 τ369 =>
 pu (BN AL 1 8 v29 (.slice (some ⟨b368,0,none⟩) 1 1) τ369) fun r370 =>
 (EA N1 E Q n285 n30 v38 v42 n46 r370.1 r370.2)))) v290) v288) v286) v284)) v268) v266))) (
 (D8 E Q v42 v38 n46 n28 v29 τ51))
def GX (E:BP) (Q:RK) (c8:Bool) (v11 v22 v33:Value) (τ7:AHeap):Prop :=
 If c8 (
 Q (.ret (.bool false)) τ7) (
 om (BX v11) fun v13 =>
 om (AB 0 v13) fun v14 =>
 om (AD false 1 v14 τ7) fun v15 =>
 E GI [v15] τ7 (cI Q .i64 fun n17 τ16 =>
 A3 .i64 (BJ v22) fun n26 =>
 ∃ I371:Nat→Int→Value→Int→AHeap→Prop,(∃ m,I371 m 0 (.slice none 0 0) 0 τ16) ∧
 ∀ m (n28:Int) (v29:Value) (n30:Int) (σ':AHeap),I371 m n28 v29 n30 σ'→(JR (fun n28 v29 n30 σ'=>∃ m',m'<m∧I371 m' n28 v29 n30 σ') E Q v33 v11 n17 v22 n26 n28 v29 n30 σ')))
def M8 (E:BP) (Q:RK) (x0 x1:Value) (σ:AHeap):Prop :=
 E NE [(.int .i64 500),(.int .i64 6)] σ (cV Q fun v3 τ2 =>
 E PV [] τ2 (cB Q fun c6 τ5 =>
 If (!c6) (
 (GX E Q true v3 x0 x1 τ5)) (
 DJ (BA (some (.pointer BI)) .eql v3 (.pointer none)) fun c376 =>
 (GX E Q c376 v3 x0 x1 τ5))))
theorem VS {Q:RK} {x0 x1:Value} {σ:AHeap} (h:M8 E Q x0 x1 σ):E NB [x0,x1] σ Q :=
 BT Tryz.func7 (hl [(2,.loopr [1,5,6,35,36] [7,8,37] [1,4,5,6,7,8] [1,4,5,6,7,8,37]),(9,.loopr [1,5,6] [7,8,17] [4,5,6,7] [4,5,6,7,8,17]),(13,.ord (il 0 19)),(15,.ord (il 0 10))]) (fun | 7=>(.i .u64) | 17=>(.i .i64) | 37=>(.i .i64) | _=>.v) (by kernel_rfl) (Eq.mpr (by kernel_rfl) h)
end Go.Ax.C
