/- Proved: 'CacheWrites' returns true, for every input; no condition. By a calculus of weakest preconditions over an abstract heap, which is sound for the machine. -/
import Derived.Test.YtfeamgocomlepaaW5
import Derived.Test.YtfeamgocomlepaaRows
import Derived.WalkKit
import Derived.ProofKit
import Derived.OpenShut
import Derived.SizedLaws
set_option linter.unusedVariables false
set_option linter.unusedSimpArgs false
set_option linter.unnecessarySimpa false
set_option linter.constructorNameAsVariable false
set_option linter.unusedVariables false
set_option maxRecDepth 100000
namespace Go.Ax.C
open Go.Proofs
def s_cache_Cache_Dirty_k10 (N1 : Value → Int → AHeap → Prop) (E : EvT) (Q : RK) (n50 : Int) (v52 : Value) (τ47 : AHeap) : Prop :=
 Bi (w64 (n50 + 1)) fun n51 =>
 N1 v52 n51 τ47
def s_cache_Cache_Dirty_b1 (N1 : Value → Int → AHeap → Prop) (E : EvT) (Q : RK) (v16 : Value) (n18 : Int) (v13 : Value) (n14 : Int) (τ19 : AHeap) : Prop :=
 If (decide (n14 < n18)) (
 om (aIndexAddr 1 v16 (.int .i64 n14)) fun v27 =>
 om (aLoad false 1 v27 τ19) fun v28 =>
 om (aNil v28) fun v31 =>
 om (aFieldAddr 3 v31) fun v32 =>
 ldB (aLoad false 1 v32 τ19) fun c33 =>
 If c33 (
 om (aNil v28) fun v41 =>
 om (aFieldAddr 0 v41) fun v42 =>
 ldI .i64 (aLoad false 1 v42 τ19) fun n43 =>
 wNew τ19 (.cells [(.int .i64 n43)] t_int false) fun b44 τ45 =>
 pu (aAppend t_int 1 8 v13 (.slice (some ⟨b44, 0, none⟩) 1 1) τ45) fun r46 =>
 (s_cache_Cache_Dirty_k10 N1 E Q n14 r46.1 r46.2)) (
 (s_cache_Cache_Dirty_k10 N1 E Q n14 v13 τ19))) (
 E f_slices_Sort_sl_int_int [v13] τ19 (c0 Q fun τ55 =>
 Q (.ret v13) τ55))
/-- (*cistern/cache.Cache).Dirty -/
def s_cache_Cache_Dirty (E : EvT) (Q : RK) (x0 : Nat) (σ : AHeap) : Prop :=
 If false (
 Q (.ret (.slice none 0 0)) σ) (
 om (L x0 4 σ) fun v10 =>
 ldI .i64 (lenS v10) fun n11 =>
 ∃ I58 : Nat → Value → Int → AHeap → Prop, (∃ m, I58 m (.slice none 0 0) 0 σ) ∧
 ∀ m (v13 : Value) (n14 : Int) (σ' : AHeap), I58 m v13 n14 σ' → (s_cache_Cache_Dirty_b1 (fun v13 n14 σ' => ∃ m', m' < m ∧ I58 m' v13 n14 σ') E Q v10 n11 v13 n14 σ'))
theorem q_cache_Cache_Dirty (E : EvT) (Q : RK) (x0 : Nat) (σ : AHeap) : xfn P E Try.f44 (hl [(2, .loopr [11, 12] [3, 13] [3] [3, 13])]) (fun | 13 => (.i .i64) | _ => .v) [(.pointer (some ⟨x0, 0, none⟩))] σ Q = s_cache_Cache_Dirty E Q x0 σ := by kernel_rfl
theorem e_cache_Cache_Dirty {Q : RK} {x0 : Nat} {σ : AHeap} (h : s_cache_Cache_Dirty E Q x0 σ) : E f_cache_Cache_Dirty [(.pointer (some ⟨x0, 0, none⟩))] σ Q :=
  exfn Try.func44 _ _ (by kernel_rfl) (Eq.mpr (q_cache_Cache_Dirty E Q x0 σ) h)

def s_cache_Cache_Flush_b1 (N1 : Int → AHeap → Prop) (E : EvT) (Q : RK) (b20 : Nat) (v22 : Value) (n24 n18 : Int) (τ25 : AHeap) : Prop :=
 If (decide (n18 < n24)) (
 om (aIndexAddr 1 v22 (.int .i64 n18)) fun v33 =>
 ldI .i64 (aLoad false 1 v33 τ25) fun n34 =>
 om (L b20 3 τ25) fun v39 =>
 om (aLookup P t_m_int_p_cache_item v39 (.int .i64 n34) false τ25) fun v41 =>
 E f_cache_Cache_write [(.pointer (some ⟨b20, 0, none⟩)), v41] τ25 (cI Q .i64 fun n43 τ42 =>
 If (!decide (n43 = 0)) (
 Q (.ret (.int .i64 n43)) τ42) (
 Bi (w64 (n18 + 1)) fun n54 =>
 N1 n54 τ42))) (
 Q (.ret (.int .i64 0)) τ25)
/-- (*cistern/cache.Cache).Flush -/
def s_cache_Cache_Flush (E : EvT) (Q : RK) (x0 : Nat) (σ : AHeap) : Prop :=
 E f_cache_Cache_ready [(.pointer (some ⟨x0, 0, none⟩)), (.int .i64 0)] σ (cI Q .i64 fun n4 τ3 =>
 If (!decide (n4 = 0)) (
 Q (.ret (.int .i64 n4)) τ3) (
 E f_cache_Cache_Dirty [(.pointer (some ⟨x0, 0, none⟩))] τ3 (cV Q fun v15 τ14 =>
 ldI .i64 (lenS v15) fun n16 =>
 ∃ I56 : Nat → Int → AHeap → Prop, (∃ m, I56 m 0 τ14) ∧
 ∀ m (n18 : Int) (σ' : AHeap), I56 m n18 σ' → (s_cache_Cache_Flush_b1 (fun n18 σ' => ∃ m', m' < m ∧ I56 m' n18 σ') E Q x0 v15 n16 n18 σ'))))
theorem q_cache_Cache_Flush (E : EvT) (Q : RK) (x0 : Nat) (σ : AHeap) : xfn P E Try.f45 (hl [(2, .loopr [0, 13, 14] [15] [2] [2, 15])]) (fun | 15 => (.i .i64) | _ => .v) [(.pointer (some ⟨x0, 0, none⟩))] σ Q = s_cache_Cache_Flush E Q x0 σ := by kernel_rfl
theorem e_cache_Cache_Flush {Q : RK} {x0 : Nat} {σ : AHeap} (h : s_cache_Cache_Flush E Q x0 σ) : E f_cache_Cache_Flush [(.pointer (some ⟨x0, 0, none⟩))] σ Q :=
  exfn Try.func45 _ _ (by kernel_rfl) (Eq.mpr (q_cache_Cache_Flush E Q x0 σ) h)

/-- (*cistern/cache.Cache).Drop -/
def s_cache_Cache_Drop (E : EvT) (Q : RK) (x0 : Nat) (σ : AHeap) : Prop :=
 om (L x0 0 σ) fun v1 =>
 ldB (aBin (some (.pointer t_disk_Disk)) .neq v1 (.pointer none)) fun c2 =>
 If c2 (
 pu (aMakeMap P t_m_int_p_cache_item none σ) fun r6 =>
 St x0 3 r6.1 r6.2 fun τ7 =>
 St x0 4 (.slice none 0 0) τ7 fun τ8 =>
 Q (.ret (.tuple #[])) τ8) (
 Q (.ret (.tuple #[])) σ)
theorem q_cache_Cache_Drop (E : EvT) (Q : RK) (x0 : Nat) (σ : AHeap) : xfn P E Try.f53 (fun _ => none) (fun _ => .v) [(.pointer (some ⟨x0, 0, none⟩))] σ Q = s_cache_Cache_Drop E Q x0 σ := by kernel_rfl
theorem e_cache_Cache_Drop {Q : RK} {x0 : Nat} {σ : AHeap} (h : s_cache_Cache_Drop E Q x0 σ) : E f_cache_Cache_Drop [(.pointer (some ⟨x0, 0, none⟩))] σ Q :=
  exfn Try.func53 _ _ (by kernel_rfl) (Eq.mpr (q_cache_Cache_Drop E Q x0 σ) h)

def s_law05_same_b1 (N1 : Int → AHeap → Prop) (E : EvT) (Q : RK) (v14 v18 : Value) (n10 : Int) (τ19 : AHeap) : Prop :=
 ldI .i64 (lenS v14) fun n20 =>
 If (decide (n10 < n20)) (
 om (aIndexAddr 1 v14 (.int .i64 n10)) fun v28 =>
 ldI .i64 (aLoad false 1 v28 τ19) fun n29 =>
 om (aIndexAddr 1 v18 (.int .i64 n10)) fun v32 =>
 ldI .i64 (aLoad false 1 v32 τ19) fun n33 =>
 If (!decide (n29 = n33)) (
 Q (.ret (.bool false)) τ19) (
 Bi (w64 (n10 + 1)) fun n39 =>
 N1 n39 τ19)) (
 Q (.ret (.bool true)) τ19)
/-- cistern/cisternlaw05.same -/
def s_law05_same (E : EvT) (Q : RK) (x0 x1 : Value) (σ : AHeap) : Prop :=
 ldI .i64 (lenS x0) fun n3 =>
 ldI .i64 (lenS x1) fun n5 =>
 If (!decide (n3 = n5)) (
 Q (.ret (.bool false)) σ) (
 ∃ I41 : Nat → Int → AHeap → Prop, (∃ m, I41 m 0 σ) ∧
 ∀ m (n10 : Int) (σ' : AHeap), I41 m n10 σ' → (s_law05_same_b1 (fun n10 σ' => ∃ m', m' < m ∧ I41 m' n10 σ') E Q x0 x1 n10 σ'))
theorem q_law05_same (E : EvT) (Q : RK) (x0 x1 : Value) (σ : AHeap) : xfn P E Try.f43 (hl [(2, .loopr [0, 1] [5] [4] [4, 5]), (5, .ord [(0, []), (1, []), (2, []), (3, []), (4, []), (5, []), (6, []), (7, []), (8, [])])]) (fun | 5 => (.i .i64) | _ => .v) [x0, x1] σ Q = s_law05_same E Q x0 x1 σ := by kernel_rfl
theorem e_law05_same {Q : RK} {x0 x1 : Value} {σ : AHeap} (h : s_law05_same E Q x0 x1 σ) : E f_law05_same [x0, x1] σ Q :=
  exfn Try.func43 _ _ (by kernel_rfl) (Eq.mpr (q_law05_same E Q x0 x1 σ) h)

def s_law05_CacheUnseen_k24 (N2 : Int → AHeap → Prop) (E : EvT) (Q : RK) (c222 : Bool) (n224 : Int) (v226 v227 : Value) (b229 : Nat) (n231 : Int) (τ221 : AHeap) : Prop :=
 If c222 (
 Q (.ret (.bool false)) τ221) (
 Bi (w64 (n231 + 1)) fun n234 =>
 N2 n234 τ221)
def s_law05_CacheUnseen_k23 (N2 : Int → AHeap → Prop) (E : EvT) (Q : RK) (v210 : Value) (n220 n223 : Int) (v225 : Value) (b228 : Nat) (n230 : Int) (τ209 : AHeap) : Prop :=
 E f_cache_Cache_Held [v210] τ209 (cI Q .i64 fun n212 τ211 =>
 If (decide (n220 < n212)) (
 (s_law05_CacheUnseen_k24 N2 E Q true n223 v225 v210 b228 n230 τ211)) (
 E f_cache_Cache_Dirty [v210] τ211 (cV Q fun v240 τ239 =>
 ldI .i64 (lenS v240) fun n241 =>
 E f_cache_Cache_Held [v210] τ239 (cI Q .i64 fun n243 τ242 =>
 (s_law05_CacheUnseen_k24 N2 E Q (decide (n243 < n241)) n223 v225 v210 b228 n230 τ242)))))
def s_law05_CacheUnseen_k28 (N2 : Int → AHeap → Prop) (E : EvT) (Q : RK) (c256 : Bool) (n259 : Int) (v262 v264 : Value) (b267 : Nat) (n270 n273 : Int) (τ255 : AHeap) : Prop :=
 If c256 (
 Q (.ret (.bool false)) τ255) (
 (s_law05_CacheUnseen_k23 N2 E Q v264 n273 n259 v262 b267 n270 τ255))
def s_law05_CacheUnseen_k30 (N2 : Int → AHeap → Prop) (E : EvT) (Q : RK) (c288 : Bool) (n290 : Int) (v292 v293 : Value) (b295 : Nat) (n297 n299 : Int) (τ287 : AHeap) : Prop :=
 If c288 (
 Q (.ret (.bool false)) τ287) (
 (s_law05_CacheUnseen_k23 N2 E Q v293 n299 n290 v292 b295 n297 τ287))
def s_law05_CacheUnseen_b3 (N2 : Int → AHeap → Prop) (N3 : Int → AHeap → Prop) (E : EvT) (Q : RK) (n314 n318 : Int) (v324 v328 v331 : Value) (b335 : Nat) (n339 n310 : Int) (τ340 : AHeap) : Prop :=
 If (decide (n310 < n314)) (
 E f_disk_Disk_Read [v328, (.int .i64 n310)] τ340 (c2 Q fun v349 v350 τ348 =>
 tI .i64 (fun n351 =>
 om (aIndexAddrArr 24 1 (.pointer (some ⟨b335, 0, none⟩)) (.int .i64 n310)) fun v354 =>
 pu (aStore 1 v354 v349 τ348) fun τ355 =>
 If (!decide (n351 = 0)) (
 Q (.ret (.bool false)) τ355) (
 Bi (w64 (n310 + 1)) fun n388 =>
 N3 n388 τ355)) v350)) (
 (s_law05_CacheUnseen_k23 N2 E Q v331 n318 n314 v328 b335 n339 τ340))
def s_law05_CacheUnseen_k47 (N4 : Int → AHeap → Prop) (E : EvT) (Q : RK) (c442 : Bool) (n444 : Int) (τ441 : AHeap) : Prop :=
 If c442 (
 Q (.ret (.bool false)) τ441) (
 Bi (w64 (n444 + 1)) fun n447 =>
 N4 n447 τ441)
def s_law05_CacheUnseen_b4 (N4 : Int → AHeap → Prop) (E : EvT) (Q : RK) (n417 : Int) (v420 : Value) (b426 : Nat) (n411 : Int) (τ427 : AHeap) : Prop :=
 If (decide (n411 < n417)) (
 E f_disk_Disk_Read [v420, (.int .i64 n411)] τ427 (c2 Q fun v436 v437 τ435 =>
 tI .i64 (fun n438 =>
 If (!decide (n438 = 0)) (
 (s_law05_CacheUnseen_k47 N4 E Q true n411 τ435)) (
 ldS (aConv P t_sl_uint8 t_string v436 τ435) fun s449 =>
 om (aIndexAddrArr 24 1 (.pointer (some ⟨b426, 0, none⟩)) (.int .i64 n411)) fun v453 =>
 om (aLoad false 1 v453 τ435) fun v454 =>
 ldS (aConv P t_sl_uint8 t_string v454 τ435) fun s455 =>
 ldB (aBin (some .string) .neq (.string s449) (.string s455)) fun c456 =>
 (s_law05_CacheUnseen_k47 N4 E Q c456 n411 τ435))) v437)) (
 E f_law05_wakes [] τ427 (cB Q fun c459 τ458 =>
 Q (.ret (.bool c459)) τ458))
def s_law05_CacheUnseen_k40 (E : EvT) (Q : RK) (c403 : Bool) (v406 : Value) (n413 : Int) (b422 : Nat) (τ402 : AHeap) : Prop :=
 If c403 (
 Q (.ret (.bool false)) τ402) (
 E f_disk_Disk_Crash [v406, (.slice none 0 0)] τ402 (c0 Q fun τ408 =>
 ∃ I460 : Nat → Int → AHeap → Prop, (∃ m, I460 m 0 τ408) ∧
 ∀ m (n411 : Int) (σ' : AHeap), I460 m n411 σ' → (s_law05_CacheUnseen_b4 (fun n411 σ' => ∃ m', m' < m ∧ I460 m' n411 σ') E Q n413 v406 b422 n411 σ')))
def s_law05_CacheUnseen_b2 (N2 : Int → AHeap → Prop) (E : EvT) (Q : RK) (n116 n119 : Int) (v122 v125 v128 : Value) (b131 : Nat) (n113 : Int) (τ132 : AHeap) : Prop :=
 ldI .i64 (lenS v122) fun n133 =>
 If (decide (n113 < n133)) (
 om (aIndexAddr 4 v122 (.int .i64 n113)) fun v141 =>
 om (aFieldAddr 1 v141) fun v142 =>
 ldI .i64 (aLoad false 1 v142 τ132) fun n143 =>
 Bi (w64 (n116 - 1)) fun n146 =>
 E f_law05_within [(.int .i64 n143), (.int .i64 0), (.int .i64 n146)] τ132 (cI Q .i64 fun n148 τ147 =>
 om (aIndexAddr 4 v122 (.int .i64 n113)) fun v152 =>
 om (aFieldAddr 0 v152) fun v153 =>
 ldI .i64 (aLoad false 1 v153 τ147) fun n154 =>
 If (decide (n154 = 0)) (
 om (aIndexAddr 4 v122 (.int .i64 n113)) fun v166 =>
 om (aFieldAddr 2 v166) fun v167 =>
 ldI .u8 (aLoad false 1 v167 τ147) fun n168 =>
 E f_law05_block [(.int .u8 n168)] τ147 (cV Q fun v170 τ169 =>
 om (aIndexAddrArr 24 1 (.pointer (some ⟨b131, 0, none⟩)) (.int .i64 n148)) fun v176 =>
 pu (aStore 1 v176 v170 τ169) fun τ177 =>
 om (aIndexAddrArr 24 1 (.pointer (some ⟨b131, 0, none⟩)) (.int .i64 n148)) fun v187 =>
 om (aLoad false 1 v187 τ177) fun v188 =>
 E f_cache_Cache_Put [v128, (.int .i64 n148), v188] τ177 (cI Q .i64 fun n190 τ189 =>
 If (!decide (n190 = 0)) (
 Q (.ret (.bool false)) τ189) (
 (s_law05_CacheUnseen_k23 N2 E Q v128 n119 n116 v125 b131 n113 τ189))))) (
 If (decide (n154 = 1)) (
 E f_cache_Cache_Get [v128, (.int .i64 n148)] τ147 (c2 Q fun v250 v251 τ249 =>
 tI .i64 (fun n252 =>
 If (!decide (n252 = 0)) (
 (s_law05_CacheUnseen_k28 N2 E Q true n116 v125 v128 b131 n113 n119 τ249)) (
 ldS (aConv P t_sl_uint8 t_string v250 τ249) fun s275 =>
 om (aIndexAddrArr 24 1 (.pointer (some ⟨b131, 0, none⟩)) (.int .i64 n148)) fun v277 =>
 om (aLoad false 1 v277 τ249) fun v278 =>
 ldS (aConv P t_sl_uint8 t_string v278 τ249) fun s279 =>
 ldB (aBin (some .string) .neq (.string s275) (.string s279)) fun c280 =>
 (s_law05_CacheUnseen_k28 N2 E Q c280 n116 v125 v128 b131 n113 n119 τ249))) v251)) (
 If (decide (n154 = 2)) (
 E f_cache_Cache_Flush [v128] τ147 (cI Q .i64 fun n286 τ285 =>
 If (!decide (n286 = 0)) (
 (s_law05_CacheUnseen_k30 N2 E Q true n116 v125 v128 b131 n113 n119 τ285)) (
 E f_cache_Cache_Dirty [v128] τ285 (cV Q fun v301 τ300 =>
 ldI .i64 (lenS v301) fun n302 =>
 (s_law05_CacheUnseen_k30 N2 E Q (decide (0 < n302)) n116 v125 v128 b131 n113 n119 τ300))))) (
 If (decide (n154 = 3)) (
 E f_cache_Cache_Drop [v128] τ147 (c0 Q fun τ307 =>
 ∃ I396 : Nat → Int → AHeap → Prop, (∃ m, I396 m 0 τ307) ∧
 ∀ m (n310 : Int) (σ' : AHeap), I396 m n310 σ' → (s_law05_CacheUnseen_b3 N2 (fun n310 σ' => ∃ m', m' < m ∧ I396 m' n310 σ') E Q n116 n119 v122 v125 v128 b131 n113 n310 σ'))) (
 (s_law05_CacheUnseen_k23 N2 E Q v128 n119 n116 v125 b131 n113 τ147))))))) (
 E f_cache_Cache_Flush [v128] τ132 (cI Q .i64 fun n401 τ400 =>
 If (!decide (n401 = 0)) (
 (s_law05_CacheUnseen_k40 E Q true v125 n116 b131 τ400)) (
 E f_disk_Disk_Barrier [v125] τ400 (cI Q .i64 fun n463 τ462 =>
 (s_law05_CacheUnseen_k40 E Q (!decide (n463 = 0)) v125 n116 b131 τ462)))))
def s_law05_CacheUnseen_b1 (N1 : Int → AHeap → Prop) (E : EvT) (Q : RK) (n48 n54 : Int) (v65 v71 v77 : Value) (b80 : Nat) (n39 : Int) (τ81 : AHeap) : Prop :=
 If (decide (n39 < n48)) (
 pu (aMake t_uint8 1 [(.int .u8 0)] (.int .i64 256) (.int .i64 256) τ81) fun r87 =>
 om (aIndexAddrArr 24 1 (.pointer (some ⟨b80, 0, none⟩)) (.int .i64 n39)) fun v90 =>
 pu (aStore 1 v90 r87.1 r87.2) fun τ91 =>
 Bi (w64 (n39 + 1)) fun n94 =>
 N1 n94 τ91) (
 ∃ I464 : Nat → Int → AHeap → Prop, (∃ m, I464 m 0 τ81) ∧
 ∀ m (n113 : Int) (σ' : AHeap), I464 m n113 σ' → (s_law05_CacheUnseen_b2 (fun n113 σ' => ∃ m', m' < m ∧ I464 m' n113 σ') E Q n48 n54 v65 v71 v77 b80 n113 σ'))
/-- cistern/cisternlaw05.CacheUnseen -/
def s_law05_CacheUnseen (E : EvT) (Q : RK) (x0 x1 : Int) (x2 : Value) (σ : AHeap) : Prop :=
 E f_law05_within [(.int .i64 x0), (.int .i64 1), (.int .i64 24)] σ (cI Q .i64 fun n4 τ3 =>
 E f_law05_within [(.int .i64 x1), (.int .i64 1), (.int .i64 12)] τ3 (cI Q .i64 fun n7 τ6 =>
 E f_disk_New [(.int .i64 n4)] τ6 (c2 Q fun v11 v12 τ10 =>
 tI .i64 (fun n13 =>
 If (!decide (n13 = 0)) (
 Q (.ret (.bool false)) τ10) (
 E f_cache_New [v11, (.int .i64 n7)] τ10 (c2 Q fun v27 v28 τ26 =>
 tI .i64 (fun n29 =>
 If (!decide (n29 = 0)) (
 Q (.ret (.bool false)) τ26) (
 wNew τ26 (.cells [(.slice none 0 0), (.slice none 0 0), (.slice none 0 0), (.slice none 0 0), (.slice none 0 0), (.slice none 0 0), (.slice none 0 0), (.slice none 0 0), (.slice none 0 0), (.slice none 0 0), (.slice none 0 0), (.slice none 0 0), (.slice none 0 0), (.slice none 0 0), (.slice none 0 0), (.slice none 0 0), (.slice none 0 0), (.slice none 0 0), (.slice none 0 0), (.slice none 0 0), (.slice none 0 0), (.slice none 0 0), (.slice none 0 0), (.slice none 0 0)] t_a24_sl_uint8 false) fun b35 τ36 =>
 ∃ I466 : Nat → Int → AHeap → Prop, (∃ m, I466 m 0 τ36) ∧
 ∀ m (n39 : Int) (σ' : AHeap), I466 m n39 σ' → (s_law05_CacheUnseen_b1 (fun n39 σ' => ∃ m', m' < m ∧ I466 m' n39 σ') E Q n4 n7 x2 v11 v27 b35 n39 σ'))) v28))) v12)))
theorem q_law05_CacheUnseen (E : EvT) (Q : RK) (x0 x1 : Int) (x2 : Value) (σ : AHeap) : xfn P E Try.f12 (hl [(3, .loopr [0, 1, 2, 7, 9, 11] [12] [0, 1, 2, 7, 9, 11] [0, 1, 2, 7, 9, 11, 12]), (7, .loopr [0, 1, 2, 7, 9, 11] [13] [0, 6, 7, 9, 11] [0, 6, 7, 9, 11, 13]), (14, .ord [(0, []), (1, []), (2, []), (3, []), (4, []), (5, []), (6, []), (7, []), (8, []), (9, []), (10, [])]), (20, .loopr [0, 1, 2, 7, 9, 11, 13] [17] [0, 1, 2, 6, 7, 9, 11, 13] [0, 1, 2, 6, 7, 9, 11, 13, 17]), (27, .loopr [0, 7, 11] [18] [6] [6, 18]), (30, .ord [(0, []), (1, []), (2, []), (3, []), (4, []), (5, []), (6, []), (7, []), (8, []), (9, []), (10, [])])]) (fun | 12 => (.i .i64) | 13 => (.i .i64) | 17 => (.i .i64) | 18 => (.i .i64) | _ => .v) [(.int .i64 x0), (.int .i64 x1), x2] σ Q = s_law05_CacheUnseen E Q x0 x1 x2 σ := by kernel_rfl
theorem e_law05_CacheUnseen {Q : RK} {x0 x1 : Int} {x2 : Value} {σ : AHeap} (h : s_law05_CacheUnseen E Q x0 x1 x2 σ) : E f_law05_CacheUnseen [(.int .i64 x0), (.int .i64 x1), x2] σ Q :=
  exfn Try.func12 _ _ (by kernel_rfl) (Eq.mpr (q_law05_CacheUnseen E Q x0 x1 x2 σ) h)

def s_law05_wakes_k6 (E : EvT) (Q : RK) (c21 : Bool) (v24 v63 : Value) (τ20 : AHeap) : Prop :=
 If c21 (
 Q (.ret (.bool false)) τ20) (
 E f_cache_Cache_Get [v24, (.int .i64 0)] τ20 (c2 Q fun v27 v28 τ26 =>
 tI .i64 (fun n29 =>
 E f_cache_Cache_Get [v24, (.int .i64 2)] τ26 (c2 Q fun v33 v34 τ32 =>
 tI .i64 (fun n35 =>
 E f_cache_Cache_Dirty [v24] τ32 (cV Q fun v39 τ38 =>
 If (decide (n29 = 0)) (
 If (decide (n35 = 0)) (
 ldS (aConv P t_sl_uint8 t_string v27 τ38) fun s49 =>
 E f_law05_block [(.int .u8 1)] τ38 (cV Q fun v51 τ50 =>
 ldS (aConv P t_sl_uint8 t_string v27 τ50) fun s52 =>
 veq1 (.string s52) (.string s49) = true ∧
 ldS (aConv P t_sl_uint8 t_string v51 τ50) fun s53 =>
 ldB (aBin (some .string) .eql (.string s49) (.string s53)) fun c54 =>
 If c54 (
 ldS (aConv P t_sl_uint8 t_string v33 τ50) fun s57 =>
 pu (aMake t_uint8 1 [(.int .u8 0)] (.int .i64 256) (.int .i64 256) τ50) fun r58 =>
 ldS (aConv P t_sl_uint8 t_string v33 r58.2) fun s59 =>
 veq1 (.string s59) (.string s57) = true ∧
 ldS (aConv P t_sl_uint8 t_string r58.1 r58.2) fun s60 =>
 ldB (aBin (some .string) .eql (.string s57) (.string s60)) fun c61 =>
 If c61 (
 E f_disk_Disk_Flight [v63] r58.2 (cI Q .i64 fun n69 τ68 =>
 If (decide (n69 = 4)) (
 ldI .i64 (lenS v39) fun n71 =>
 If (decide (n71 = 1)) (
 om (aIndexAddr 1 v39 (.int .i64 0)) fun v72 =>
 ldI .i64 (aLoad false 1 v72 τ68) fun n73 =>
 If (decide (n73 = 0)) (
 E f_cache_Cache_Flush [v24] τ68 (cI Q .i64 fun n76 τ75 =>
 If (decide (n76 = 0)) (
 E f_disk_Disk_Flight [v63] τ75 (cI Q .i64 fun n78 τ77 =>
 If (decide (n78 = 8)) (
 E f_cache_Cache_Held [v24] τ77 (cI Q .i64 fun n80 τ79 =>
 Q (.ret (.bool (decide (n80 = 2)))) τ79)) (
 Q (.ret (.bool false)) τ77))) (
 Q (.ret (.bool false)) τ75))) (
 Q (.ret (.bool false)) τ68)) (
 Q (.ret (.bool false)) τ68)) (
 Q (.ret (.bool false)) τ68))) (
 Q (.ret (.bool false)) r58.2)) (
 Q (.ret (.bool false)) τ50))) (
 Q (.ret (.bool false)) τ38)) (
 Q (.ret (.bool false)) τ38))) v34)) v28))
/-- cistern/cisternlaw05.wakes -/
def s_law05_wakes (E : EvT) (Q : RK) (σ : AHeap) : Prop :=
 E f_disk_New [(.int .i64 4)] σ (c2 Q fun v3 v4 τ2 =>
 tI .i64 (fun n5 =>
 If (!decide (n5 = 0)) (
 Q (.ret (.bool false)) τ2) (
 E f_cache_New [v3, (.int .i64 2)] τ2 (c2 Q fun v15 v16 τ14 =>
 tI .i64 (fun n17 =>
 If (!decide (n17 = 0)) (
 (s_law05_wakes_k6 E Q true v15 v3 τ14)) (
 E f_law05_block [(.int .u8 1)] τ14 (cV Q fun v82 τ81 =>
 E f_cache_Cache_Put [v15, (.int .i64 0), v82] τ81 (cI Q .i64 fun n84 τ83 =>
 If (!decide (n84 = 0)) (
 (s_law05_wakes_k6 E Q true v15 v3 τ83)) (
 E f_law05_block [(.int .u8 2)] τ83 (cV Q fun v86 τ85 =>
 E f_cache_Cache_Put [v15, (.int .i64 1), v86] τ85 (cI Q .i64 fun n88 τ87 =>
 If (!decide (n88 = 0)) (
 (s_law05_wakes_k6 E Q true v15 v3 τ87)) (
 E f_disk_Disk_Flight [v3] τ87 (cI Q .i64 fun n90 τ89 =>
 (s_law05_wakes_k6 E Q (!decide (n90 = 0)) v15 v3 τ89)))))))))) v16))) v4)
theorem q_law05_wakes (E : EvT) (Q : RK) (σ : AHeap) : xfn P E Try.f41 (hl [(2, .ord [(0, []), (1, []), (2, []), (3, []), (4, []), (5, []), (6, []), (7, []), (8, []), (9, [8]), (10, []), (11, []), (12, []), (13, []), (14, []), (15, []), (16, [15]), (17, []), (18, []), (19, []), (20, []), (21, []), (22, []), (23, []), (24, []), (25, []), (26, []), (27, []), (28, []), (29, []), (30, []), (31, []), (32, []), (33, []), (34, []), (35, []), (36, []), (37, []), (38, []), (39, []), (40, []), (41, []), (42, []), (43, []), (44, []), (45, []), (46, []), (47, []), (48, []), (49, []), (50, []), (51, [])])]) (fun _ => .v) [] σ Q = s_law05_wakes E Q σ := by kernel_rfl
theorem e_law05_wakes {Q : RK} {σ : AHeap} (h : s_law05_wakes E Q σ) : E f_law05_wakes [] σ Q :=
  exfn Try.func41 _ _ (by kernel_rfl) (Eq.mpr (q_law05_wakes E Q σ) h)

end Go.Ax.C
set_option maxRecDepth 100000
namespace Go.Ax.C
open Go.Proofs Go.RowKit
open O (CacheA Disk It DPlain Rec COk CO toIt ptrs itemsL ItemA pairs MapA)

variable {l r r2 : List Assn} {σ : AHeap} {Q : RK}

def dirtyOf (M : List Rec) : List Int := (M.filter (·.dirty)).map fun x => (x.pl : Int)

theorem items_cell {R : List Rec} {m : List Assn} {k : Nat} {x : Rec} (h : H (Star (itemsL 0 R) :: m) σ) (hk : R[k]? = some x) : σ.row x.ib = some [.int .i64 x.pl, .int .i64 k, .int .u64 x.used, .bool x.dirty, x.sv] := by
  have h1 := O.item_out h hk
  unfold ItemA at h1
  rw [H_sep] at h1
  exact h1.row 0 rfl

theorem ptrs_own {v : Value} {R : List Rec} {m : List Assn} {k : Nat} {x : Rec} (h : H (Own t_p_cache_item 1 v R.length (ptrs R) :: m) σ) (hk : R[k]? = some x) :
    ∃ b, aIndexAddr 1 v (.int .i64 (k : Nat)) = some (.pointer (some ⟨b, k, none⟩)) ∧ aLoad false 1 (.pointer (some ⟨b, k, none⟩)) σ = some (.pointer (some ⟨x.ib, 0, none⟩)) := by
  have hkl := (List.getElem?_eq_some_iff.1 hk).1
  obtain ⟨b, c, rfl, hc, rest, hrow⟩ := h.own_form 0 rfl (by omega)
  refine ⟨b, ?_, ?_⟩
  · rw [idxA (by omega)]; simp
  · rw [load1 hrow, List.getElem?_append_left (by rw [O.ptrs_len]; omega), O.ptrs_get hk]

theorem cdirty_co {cb nn now mb : Nat} {dv rowv : Value} {R M : List Rec} {I0 : Assn} (h : H (CO cb dv nn now mb rowv R M I0) σ) (hb : R.length < 1099511627776) (hpl : ∀ x ∈ R, x.pl < 1099511627776)
    (hQ : ∀ w n zs σ', zs.Perm (dirtyOf R) → zs.Pairwise (· ≤ ·) → zs.length = n → H (Own t_int 1 w n (iz zs) :: CO cb dv nn now mb rowv R M I0) σ' → Q (.ret w) σ') : E f_cache_Cache_Dirty [.pointer (some ⟨cb, 0, none⟩)] σ Q := by
  apply e_cache_Cache_Dirty; unfold s_cache_Cache_Dirty
  rw [If_false]
  have hr := h
  unfold CO at hr
  refine ld hr ?_
  obtain ⟨ra, rc, hrv⟩ := O.row_form (O.co_row.1 h)
  rw [hrv, lenS_slice, ldI_some, ← hrv]
  refine ⟨fun m v n τ => ∃ i w : Nat, m = R.length - i ∧ i ≤ R.length ∧ n = (i : Nat) ∧ w = (dirtyOf (R.take i)).length ∧ H (Own t_int 1 v w (iz (dirtyOf (R.take i))) :: CO cb dv nn now mb rowv R M I0) τ,
    ⟨_, 0, 0, rfl, by omega, rfl, by simp [dirtyOf], ?_⟩, ?_⟩
  · simpa [dirtyOf, iz] using (h.own_nil t_int 1).unsnoc
  rintro m v _ τ ⟨i, w, rfl, hi, rfl, hw, h1⟩
  unfold s_cache_Cache_Dirty_b1
  refine If_dec (fun g => ?_) fun g => ?_
  · have hilt : i < R.length := by omega
    obtain ⟨x, hx⟩ : ∃ x, R[i]? = some x := ⟨_, List.getElem?_eq_getElem hilt⟩
    have h2 : H (Own t_p_cache_item 1 rowv R.length (ptrs R) :: [Own t_int 1 v w (iz (dirtyOf (R.take i)))]) τ := h1.pick [2, 0] (by decide)
    have h3 : H (Star (itemsL 0 R) :: [Own t_int 1 v w (iz (dirtyOf (R.take i)))]) τ := h1.pick [3, 0] (by decide)
    obtain ⟨b, e1, e2⟩ := ptrs_own h2 hx
    have hrow := items_cell h3 hx
    have htake : R.take (i + 1) = R.take i ++ [x] := by rw [List.take_add_one, hx]; rfl
    rw [e1, om_some, e2, om_some]
    simp only [nil_ptr, om_some, fieldAddr_ptr, Nat.zero_add]
    rw [load1 hrow]
    simp only [List.getElem?_cons_succ, List.getElem?_cons_zero, ldB_some]
    have hxp := hpl x (List.mem_of_getElem? hx)
    refine If_b (fun hd => ?_) fun hd => ?_
    · rw [load1 hrow]
      simp only [List.getElem?_cons_zero, ldI_some]
      refine nw h1 ?_
      intro tb τ1 h4
      have ht : srcOf 1 (.slice (some ⟨tb, 0, none⟩) 1 1) τ1 = some (1, [.int .i64 (x.pl : Nat)]) := by
        rw [src_row (h4.row 0 rfl) (by simp)]; rfl
      have hwl : w ≤ i := by
        rw [hw]; simp only [dirtyOf, List.length_map]
        have := List.length_filter_le (fun x : Rec => x.dirty) (R.take i)
        simp at this; omega
      refine append_own (h4.perm (List.Perm.swap _ _ _)) 0 rfl ht (by omega) (by omega) (by rfl) ?_
      intro nx τ2 h5
      unfold s_cache_Cache_Dirty_k10
      refine b64 ((i + 1 : Nat) : Int) (by omega) ?_
      refine ⟨_, by omega, i + 1, w + 1, rfl, by omega, rfl, ?_, ?_⟩
      · rw [htake]; simp [dirtyOf, hd, hw]
      · rw [htake]
        have e6 : iz (dirtyOf (R.take i ++ [x])) = iz (dirtyOf (R.take i)) ++ [.int .i64 (x.pl : Nat)] := by simp [dirtyOf, hd, iz]
        rw [e6]
        exact h5.pick [0, 2, 3, 4, 5, 6] (by decide)
    · unfold s_cache_Cache_Dirty_k10
      refine b64 ((i + 1 : Nat) : Int) (by omega) ?_
      refine ⟨_, by omega, i + 1, w, rfl, by omega, rfl, ?_, ?_⟩
      · rw [htake]; simp [dirtyOf, hd, hw]
      · rw [htake]
        have e6 : dirtyOf (R.take i ++ [x]) = dirtyOf (R.take i) := by simp [dirtyOf, hd]
        rw [e6]; exact h1
  · have : i = R.length := by omega
    subst this
    rw [List.take_length] at hw h1
    have hwl : w ≤ R.length := by
      rw [hw]; simp only [dirtyOf, List.length_map]
      exact List.length_filter_le (fun x : Rec => x.dirty) R
    refine sort_ok h1 (by omega) hw.symm ?_
    intro τ1 h2
    rw [c0_ret]
    refine hQ v w (sorted (dirtyOf R)) τ1 (List.mergeSort_perm _ _) ?_ (by simp [sorted, hw]) h2
    have := List.pairwise_mergeSort (le := fun x y : Int => decide (x ≤ y)) (by intro a b c; simp; omega) (by intro a b; simp; omega) (dirtyOf R)
    exact this.imp fun h => by simpa using h

/-! ### Flush -/
theorem ints_get {v : Value} {n k : Nat} {z : Int} {zs : List Int} {m : List Assn} (h : H (Own t_int 1 v n (iz zs) :: m) σ) (hn : zs.length = n) (hk : zs[k]? = some z) :
    ∃ p, aIndexAddr 1 v (.int .i64 (k : Nat)) = some p ∧ aLoad false 1 p σ = some (.int .i64 z) := by
  have hkl := (List.getElem?_eq_some_iff.1 hk).1
  obtain ⟨b, c, rfl, hc, rest, hrow⟩ := h.own_form 0 rfl (by omega)
  refine ⟨.pointer (some ⟨b, 0 + k * 1, none⟩), ?_, ?_⟩
  · rw [idxA (by omega)]; simp
  · rw [load1 hrow, List.getElem?_append_left (by simp [iz]; omega)]
    simp [iz, hk]
theorem own_in {X A : Assn} {cb nn now mb : Nat} {dv rowv : Value} {R M : List Rec} : H (X :: CO cb dv nn now mb rowv R M (Star (A :: r))) σ ↔ H (CO cb dv nn now mb rowv R M (Star [A, Star (X :: r)])) σ := by
  constructor
  · intro h
    have h1 : H (Star (A :: r) :: [X, pt cb (.cells [dv, .int .i64 nn, .int .u64 now, .map (some mb), rowv] t_cache_Cache false), Own t_p_cache_item 1 rowv R.length (ptrs R), Star (itemsL 0 R), MapA mb (pairs M)]) σ := h.pick [5, 0, 1, 2, 3, 4] (by decide)
    have h2 := (H_star (l := A :: r)).1 h1
    have h3 : H ((X :: r) ++ [A, pt cb (.cells [dv, .int .i64 nn, .int .u64 now, .map (some mb), rowv] t_cache_Cache false), Own t_p_cache_item 1 rowv R.length (ptrs R), Star (itemsL 0 R), MapA mb (pairs M)]) σ := h2.perm (by
      show (A :: (r ++ X :: _)).Perm (X :: (r ++ A :: _))
      exact ((List.perm_middle (l₁ := r)).cons A).trans ((List.Perm.swap _ _ _).trans ((List.perm_middle (l₁ := r)).symm.cons X)))
    have h4 := H_star.2 h3
    have h5 : H ([A, Star (X :: r)] ++ [pt cb (.cells [dv, .int .i64 nn, .int .u64 now, .map (some mb), rowv] t_cache_Cache false), Own t_p_cache_item 1 rowv R.length (ptrs R), Star (itemsL 0 R), MapA mb (pairs M)]) σ := h4.pick [1, 0, 2, 3, 4, 5] (by decide)
    exact (H_star.2 h5).pick [1, 2, 3, 4, 0] (by decide)
  · intro h
    have h1 : H (Star [A, Star (X :: r)] :: [pt cb (.cells [dv, .int .i64 nn, .int .u64 now, .map (some mb), rowv] t_cache_Cache false), Own t_p_cache_item 1 rowv R.length (ptrs R), Star (itemsL 0 R), MapA mb (pairs M)]) σ := h.pick [4, 0, 1, 2, 3] (by decide)
    have h2 : H (Star (X :: r) :: [A, pt cb (.cells [dv, .int .i64 nn, .int .u64 now, .map (some mb), rowv] t_cache_Cache false), Own t_p_cache_item 1 rowv R.length (ptrs R), Star (itemsL 0 R), MapA mb (pairs M)]) σ := (H_star.1 h1).pick [1, 0, 2, 3, 4, 5] (by decide)
    have h3 := (H_star (l := X :: r)).1 h2
    have h4 : H ((A :: r) ++ [X, pt cb (.cells [dv, .int .i64 nn, .int .u64 now, .map (some mb), rowv] t_cache_Cache false), Own t_p_cache_item 1 rowv R.length (ptrs R), Star (itemsL 0 R), MapA mb (pairs M)]) σ := h3.perm (by
      show (X :: (r ++ A :: _)).Perm (A :: (r ++ X :: _))
      exact ((List.perm_middle (l₁ := r)).cons X).trans ((List.Perm.swap _ _ _).trans ((List.perm_middle (l₁ := r)).symm.cons A)))
    exact (H_star.2 h4).pick [1, 2, 3, 4, 5, 0] (by decide)

/-- Those of some places are clean. -/
def clS (S : List Int) (x : Rec) : Rec := if (x.pl : Int) ∈ S then O.clean x else x
/-- Blocks are written one behind the other. -/
def flings (b : Nat → List UInt8) (D : DM) (zs : List Int) : DM := zs.foldl (fun D z => D.fling z.toNat (b z.toNat)) D
theorem flings_snoc (b : Nat → List UInt8) (D : DM) (zs : List Int) (z : Int) : flings b D (zs ++ [z]) = (flings b D zs).fling z.toNat (b z.toNat) := by simp [flings]
theorem flings_plain {b : Nat → List UInt8} {n : Nat} : ∀ (zs : List Int) (D : DM), DPlain D n → (∀ z ∈ zs, z.toNat < n ∧ (b z.toNat).length = 256) → DPlain (flings b D zs) n ∧ (flings b D zs).fly.length = D.fly.length + 4 * zs.length ∧
    ∀ a < n, (flings b D zs).block a = if a ∈ zs.map Int.toNat then b a else D.block a
  | [], D, hD, _ => ⟨hD, rfl, fun a _ => by simp [flings]⟩
  | z :: zs, D, hD, hz => by
    have hz0 := hz z (by simp)
    have hD1 := hD.fling hz0.1 hz0.2
    obtain ⟨p1, p2, p3⟩ := flings_plain zs (D.fling z.toNat (b z.toNat)) hD1 fun y hy => hz y (by simp [hy])
    refine ⟨p1, ?_, fun a ha => ?_⟩
    · show (flings b (D.fling z.toNat (b z.toNat)) zs).fly.length = _
      rw [p2]; simp [DM.fling, parts]; omega
    · show (flings b (D.fling z.toNat (b z.toNat)) zs).block a = _
      rw [p3 a ha, O.block_fling hD.ok ha hz0.2]
      by_cases h1 : a ∈ zs.map Int.toNat
      · rw [if_pos h1, if_pos (by simp only [List.map_cons, List.mem_cons]; exact .inr h1)]
      · rw [if_neg h1]
        by_cases h2 : a = z.toNat
        · rw [if_pos h2, if_pos (by simp [h2]), h2]
        · rw [if_neg h2, if_neg]
          simp only [List.map_cons, List.mem_cons]
          intro h3
          rcases h3 with h3 | h3
          · exact h2 h3
          · exact h1 h3

theorem clS_nil (x : Rec) : clS [] x = x := by simp [clS]
theorem clS_map (M : List Rec) : M.map (clS []) = M := by rw [show clS [] = id from funext clS_nil, List.map_id]
theorem clS_pl (S : List Int) (x : Rec) : (clS S x).pl = x.pl := by unfold clS; split <;> rfl
theorem clS_b (S : List Int) (x : Rec) : (clS S x).b = x.b := by unfold clS; split <;> rfl

def cleanI (x : It) : It := { x with dirty := false }

theorem cflush {v dv : Value} {K n : Nat} {C : O.CM} {D : DM} (h : H l σ) [k1 : AtV l v (CacheA v dv K C) r] [k2 : AtV r dv (Disk dv D) r2] (hI : CInv C D n) (hm : D.fly.length < 1099511600000)
    (hQ : ∀ zs σ', zs.Perm ((C.its.filter (·.dirty)).map fun x => (x.pl : Int)) → zs.Pairwise (· ≤ ·) → CInv { C with its := C.its.map cleanI } (flings (content C D) D zs) n → (∀ x < n, content { C with its := C.its.map cleanI } (flings (content C D) D zs) x = content C D x) →
      (∀ x < n, (flings (content C D) D zs).block x = content C D x) → (flings (content C D) D zs).fly.length = D.fly.length + 4 * zs.length →
      H (CacheA v dv K { C with its := C.its.map cleanI } :: Disk dv (flings (content C D) D zs) :: r2) σ' → Q (.ret (.int .i64 0)) σ') : E f_cache_Cache_Flush [v] σ Q := by
  have h1 := H_two.1 ((h.atv v).perm (k2.perm.cons _))
  obtain ⟨cb, mb, now, rowv, R, M, rfl, hc, hM, hnow, h2⟩ := O.cache_out h1
  have hn0 := hI.dp.ok.lo
  have hn1 := hI.dp.ok.hi
  have hCh := hI.ok.hi
  have hCl := hI.ok.len
  have hRl := hc.perm.length_eq
  have hMl : M.length = C.its.length := by rw [← hM, List.length_map]
  have hRM : ∀ x ∈ R, x ∈ M := fun x hx => hc.perm.mem_iff.1 hx
  have hMi : ∀ x ∈ M, x.pl < n ∧ x.b.length = 256 := fun x hx => hI.ok.it (toIt x) (by rw [← hM]; exact List.mem_map_of_mem hx)
  apply e_cache_Cache_Flush; unfold s_cache_Cache_Flush
  refine O.up (O.cready_ok (a := 0) h2 hI.dp (by omega) ?_)
  rw [cI_ret]
  refine If_ne (fun g => absurd rfl g) fun _ => ?_
  refine cdirty_co h2 (by omega) (fun x hx => by have := (hMi x (hRM x hx)).1; omega) ?_
  intro w wn zs σ1 hzp hzs hzn h3
  rw [cV_ret]
  obtain ⟨wa, wc, hw⟩ := (h3.own_src 0 rfl).2.2
  have hzl : zs.length ≤ R.length := by
    rw [hzp.length_eq]; simp only [dirtyOf, List.length_map]; exact List.length_filter_le _ _
  rw [hw, lenS_slice, ldI_some, ← hw]
  have hb : ∀ x ∈ M, content C D x.pl = x.b := fun x hx => content_mem hI.ok (x := toIt x) (by rw [← hM]; exact List.mem_map_of_mem hx)
  have hnd : zs.Nodup := by
    have hn2 : (dirtyOf M).Nodup := by
      unfold dirtyOf
      have h5 : (M.filter (·.dirty)).Sublist M := List.filter_sublist
      have h6 : ((M.filter (·.dirty)).map fun x => (x.pl : Int)).Sublist ((M.map (·.pl)).map fun y : Nat => (y : Int)) := by
        rw [List.map_map]; exact h5.map _
      refine h6.nodup ?_
      have := hc.nd
      rw [List.nodup_iff_pairwise_ne] at this ⊢
      rw [List.pairwise_map]
      exact this.imp fun h e => h (by omega)
    have h7 : (dirtyOf R).Perm (dirtyOf M) := (hc.perm.filter _).map _
    exact (hzp.trans h7).nodup_iff.2 hn2
  have hzM : ∀ z ∈ zs, ∃ x ∈ M, x.dirty = true ∧ z = (x.pl : Int) := by
    intro z hz
    have := hzp.mem_iff.1 hz
    unfold dirtyOf at this
    obtain ⟨x, hx, rfl⟩ := List.mem_map.1 this
    have hx := List.mem_filter.1 hx
    exact ⟨x, hRM x hx.1, hx.2, rfl⟩
  have hzb : ∀ z ∈ zs, z.toNat < n ∧ (content C D z.toNat).length = 256 := by
    intro z hz
    obtain ⟨x, hx, _, rfl⟩ := hzM z hz
    have := hMi x hx
    simp only [Int.toNat_natCast]
    exact ⟨this.1, by rw [hb x hx]; exact this.2⟩
  refine ⟨fun m i τ => ∃ (k : Nat) (R' : List Rec), m = zs.length - k ∧ i = (k : Int) ∧ k ≤ zs.length ∧ COk R' (M.map (clS (zs.take k))) now ∧
      H (Own t_int 1 w wn (iz zs) :: CO cb dv C.n now mb rowv R' (M.map (clS (zs.take k))) (Star [Disk dv (flings (content C D) D (zs.take k)), Star r2])) τ,
    ⟨_, 0, R, rfl, rfl, by omega, ?_, ?_⟩, ?_⟩
  · rw [List.take_zero, clS_map]; exact hc
  · rw [List.take_zero, clS_map]; exact h3
  rintro m _ τ ⟨k, R', rfl, rfl, hk, hc', h4⟩
  unfold s_cache_Cache_Flush_b1
  refine If_dec (fun g => ?_) fun g => ?_
  · have hkl : k < zs.length := by omega
    obtain ⟨z, hz⟩ : ∃ z, zs[k]? = some z := ⟨_, List.getElem?_eq_getElem hkl⟩
    obtain ⟨p, e1, e2⟩ := ints_get h4 hzn hz
    rw [e1, om_some, e2, ldI_some]
    obtain ⟨x, hx, hxd, rfl⟩ := hzM z (List.mem_of_getElem? hz)
    have hxi := hMi x hx
    have htk : zs.take (k + 1) = zs.take k ++ [(x.pl : Int)] := by rw [List.take_add_one, hz]; rfl
    have hnk : (x.pl : Int) ∉ zs.take k := by
      intro hm
      obtain ⟨j, hj, he⟩ := List.mem_iff_getElem.1 hm
      rw [List.length_take] at hj
      rw [List.getElem_take] at he
      have h8 := List.getElem?_eq_some_iff.1 hz
      obtain ⟨h9, h10⟩ := h8
      have := (List.getElem_inj (i := j) (j := k) (h₀ := by omega) (h₁ := h9) hnd).1 (by rw [he, h10])
      omega
    have hclx : clS (zs.take k) x = x := by simp [clS, hnk]
    obtain ⟨A, B, hAB⟩ := List.append_of_mem hx
    have hM' : M.map (clS (zs.take k)) = A.map (clS (zs.take k)) ++ x :: B.map (clS (zs.take k)) := by rw [hAB]; simp [hclx]
    have hnd2 := hc.nd
    rw [hAB] at hnd2
    simp only [List.map_append, List.map_cons, List.nodup_append, List.nodup_cons] at hnd2
    have hA : A.map (clS (zs.take (k + 1))) = A.map (clS (zs.take k)) := by
      refine List.map_congr_left fun y hy => ?_
      have : y.pl ≠ x.pl := fun e => hnd2.2.2 y.pl (List.mem_map_of_mem hy) x.pl (by simp) e
      have h11 : ¬ (y.pl : Int) = (x.pl : Int) := by omega
      simp only [clS, htk, List.mem_append, List.mem_singleton, h11, or_false]
    have hB : B.map (clS (zs.take (k + 1))) = B.map (clS (zs.take k)) := by
      refine List.map_congr_left fun y hy => ?_
      have : y.pl ≠ x.pl := fun e => hnd2.2.1.1 (by rw [← e]; exact List.mem_map_of_mem hy)
      have h11 : ¬ (y.pl : Int) = (x.pl : Int) := by omega
      simp only [clS, htk, List.mem_append, List.mem_singleton, h11, or_false]
    have hM2 : M.map (clS (zs.take (k + 1))) = A.map (clS (zs.take k)) ++ O.clean x :: B.map (clS (zs.take k)) := by
      rw [← hA, ← hB]
      conv => lhs; rw [hAB]
      simp [clS, htk]
    rw [hM'] at h4 hc'
    have h5 := own_in.1 h4
    have h5' := h5
    unfold CO at h5'
    refine ld h5' ?_
    have hlk := O.lookup_yes (p := (x.pl, x.ib)) false h5' (i := 3) rfl (by simp [O.pairs])
    simp only at hlk
    rw [hlk, om_some]
    have hxR : x ∈ R' := hc'.perm.mem_iff.2 (by simp)
    obtain ⟨j, hj, hjx⟩ := List.getElem_of_mem hxR
    have hj' : R'[j]? = some x := by rw [List.getElem?_eq_getElem hj, hjx]
    have hzb' : ∀ z ∈ zs.take k, z.toNat < n ∧ (content C D z.toNat).length = 256 := fun z hz => hzb z (List.mem_of_mem_take hz)
    obtain ⟨q1, q2, q3⟩ := flings_plain (zs.take k) D hI.dp hzb'
    refine O.up (O.witem_ok h5 hj' q1 hxi.1 hxi.2 (by rw [q2, List.length_take]; omega) ?_)
    intro τ1 h6
    rw [cI_ret]
    refine If_ne (fun g => absurd rfl g) fun _ => ?_
    refine b64 ((k + 1 : Nat) : Int) (by omega) ?_
    have hc2 : COk (R'.set j (O.clean x)) (A.map (clS (zs.take k)) ++ O.clean x :: B.map (clS (zs.take k))) now := O.COk.mod hc' hj' rfl rfl
    have h7 := own_in.2 h6
    refine ⟨_, by omega, k + 1, R'.set j (O.clean x), rfl, rfl, by omega, by rw [hM2]; exact hc2, ?_⟩
    rw [hM2, htk, flings_snoc]
    have e5 : O.wrote (flings (content C D) D (zs.take k)) x = (flings (content C D) D (zs.take k)).fling ((x.pl : Int)).toNat (content C D ((x.pl : Int)).toNat) := by
      simp only [O.wrote, hxd, if_true, Int.toNat_natCast]; rw [hb x hx]
    rw [← e5]
    exact h7
  · have : k = zs.length := by omega
    subst this
    rw [List.take_length] at h4 hc'
    obtain ⟨q1, q2, q3⟩ := flings_plain zs D hI.dp hzb
    have hz2 : ∀ x ∈ M, ((x.pl : Int) ∈ zs ↔ x.dirty = true) := by
      intro x hx
      constructor
      · intro hz
        obtain ⟨y, hy, hyd, he⟩ := hzM _ hz
        have : x.pl = y.pl := by omega
        have hxy : x = y := by
          have h12 := hc.nd
          obtain ⟨i1, hi1, e1⟩ := List.getElem_of_mem hx
          obtain ⟨i2, hi2, e2⟩ := List.getElem_of_mem hy
          have h13 := (List.getElem_inj (i := i1) (j := i2) (h₀ := by simpa using hi1) (h₁ := by simpa using hi2) h12).1 (by simp [e1, e2, this])
          subst h13; rw [← e1, ← e2]
        rw [hxy]; exact hyd
      · intro hd
        refine hzp.mem_iff.2 ?_
        unfold dirtyOf
        exact List.mem_map.2 ⟨x, List.mem_filter.2 ⟨hc.perm.mem_iff.2 hx, hd⟩, rfl⟩
    have hMc : (M.map (clS zs)).map toIt = C.its.map cleanI := by
      rw [← hM, List.map_map, List.map_map]
      refine List.map_congr_left fun x hx => ?_
      simp only [Function.comp, clS]
      by_cases hd : x.dirty = true
      · rw [if_pos ((hz2 x hx).2 hd)]; rfl
      · rw [if_neg (fun h => hd ((hz2 x hx).1 h))]
        simp only [toIt, cleanI]
        simp at hd; rw [hd]
    have hbl : ∀ a < n, (flings (content C D) D zs).block a = content C D a := by
      intro a ha
      rw [q3 a ha]
      by_cases hmem : a ∈ zs.map Int.toNat
      · rw [if_pos hmem]
      · rw [if_neg hmem]
        by_cases hx : ∃ x ∈ M, x.pl = a
        · obtain ⟨x, hx, rfl⟩ := hx
          have hnd : ¬ x.dirty = true := fun hd => hmem (List.mem_map.2 ⟨(x.pl : Int), (hz2 x hx).2 hd, by simp⟩)
          rw [hb x hx]
          exact hI.cl (toIt x) (by rw [← hM]; exact List.mem_map_of_mem hx) (by simpa [toIt] using hnd)
        · rw [content_no]
          intro y hy e
          rw [← hM] at hy
          obtain ⟨x, hx', rfl⟩ := List.mem_map.1 hy
          exact hx ⟨x, hx', e⟩
    have hok : ({ C with its := C.its.map cleanI } : O.CM).Ok n := by
      refine ⟨hI.ok.lo, hI.ok.hi, by simpa using hI.ok.len, fun x hx => ?_, ?_⟩
      · obtain ⟨y, hy, rfl⟩ := List.mem_map.1 hx
        exact hI.ok.it y hy
      · simpa [List.map_map, Function.comp_def, cleanI] using hI.ok.nd
    have hcon : ∀ x < n, content { C with its := C.its.map cleanI } (flings (content C D) D zs) x = content C D x := by
      intro x hx
      by_cases hm : ∃ y ∈ C.its, y.pl = x
      · obtain ⟨y, hy, rfl⟩ := hm
        rw [content_mem hI.ok hy]
        exact content_mem hok (x := cleanI y) (List.mem_map_of_mem hy)
      · rw [content_no (C := { C with its := C.its.map cleanI }), hbl x hx]
        intro y hy e
        obtain ⟨y', hy', rfl⟩ := List.mem_map.1 hy
        exact hm ⟨y', hy', e⟩
    have hzp2 : zs.Perm ((C.its.filter (·.dirty)).map fun x => (x.pl : Int)) := by
      refine hzp.trans (((hc.perm.filter _).map _).trans ?_)
      rw [← hM, List.filter_map, List.map_map]
      exact .refl _
    refine hQ zs τ hzp2 hzs ⟨hok, q1, fun x hx _ => ?_⟩ hcon hbl q2 ?_
    · obtain ⟨y, hy, rfl⟩ := List.mem_map.1 hx
      show (flings (content C D) D zs).block y.pl = y.b
      rw [hbl _ (hI.ok.it y hy).1]
      exact content_mem hI.ok hy
    · have h8 : H (CO cb dv C.n now mb rowv R' (M.map (clS zs)) (Star [Disk dv (flings (content C D) D zs), Star r2])) τ := h4.pick [1, 2, 3, 4, 5] (by decide)
      exact H_two.2 (O.cache_in hc' hMc hnow h8)

/-- Drop: it holds nothing. -/
theorem cdrop {v dv : Value} {K : Nat} {C : O.CM} {D : DM} (h : H l σ) [k1 : AtV l v (CacheA v dv K C) r] [k2 : AtV r dv (Disk dv D) r2]
    (hQ : ∀ σ', H (CacheA v dv K { C with its := [] } :: Disk dv D :: r2) σ' → Q (.ret (.tuple #[])) σ') : E f_cache_Cache_Drop [v] σ Q := by
  have h1 := H_two.1 ((h.atv v).perm (k2.perm.cons _))
  obtain ⟨cb, mb, now, rowv, R, M, rfl, hc, hM, hnow, h2⟩ := O.cache_out h1
  have h3 := O.co_disk.1 h2
  obtain ⟨db, rfl⟩ := O.disk_ptr h3 4 rfl
  apply e_cache_Cache_Drop; unfold s_cache_Cache_Drop
  refine ld h3 ?_
  rw [bin_pne1, ldB_some, If_true, O.mkMap_eq]
  show pu (some (Value.map (some σ.size), σ.push (AObj.map [] 0))) _
  rw [pu_some]
  have hp := h3.push (AObj.map [] 0)
  have hp' := hp.unsnoc
  refine st hp' rfl ?_
  intro σ1 h4
  refine st h4 rfl ?_
  intro σ2 h5
  have h6 := h5.own_nil t_p_cache_item 1
  refine hQ σ2 ?_
  have hn0 : COk [] [] now := ⟨List.Perm.refl _, List.Pairwise.nil, fun r hr => by simp at hr, fun k h0 hk => by simp at hk, by simp⟩
  have h7 : H [MapA σ.size [], Disk (.pointer (some ⟨db, 0, none⟩)) D, Star r2, pt cb (.cells [.pointer (some ⟨db, 0, none⟩), .int .i64 C.n, .int .u64 now, .map (some σ.size), .slice none 0 0] t_cache_Cache false), Own t_p_cache_item 1 (.slice none 0 0) 0 []] σ2 := by
    refine H_ex.2 ⟨([], 0), ?_⟩
    rw [H_sep]
    refine H_pure.2 ⟨⟨by simp, fun e he => by simp at he, fun e he => by simp at he⟩, ?_⟩
    exact h6.pick [1, 5, 6, 0, 7] (by decide)
  have h8 := (H_star (l := [Disk (.pointer (some ⟨db, 0, none⟩)) D, Star r2])).2 (h7.emp_end.pick [1, 2, 0, 3, 4, 5] (by decide))
  exact H_two.2 (O.cache_in (C := { C with its := [] }) (R := []) (M := []) (mb := σ.size) hn0 rfl hnow (h8.pick [2, 3, 4, 1, 0] (by decide)))
end Go.Ax.C
set_option maxRecDepth 100000
namespace Go.Ax.O
open Go.Proofs Go.RowKit

variable {l m : List Assn} {σ : AHeap} {Q : WK}

theorem within3_ok {k : Int} {lo hi : Nat} (hn : lo ≤ hi ∧ hi ≤ 1000) (hk : ∀ a : Nat, lo ≤ a → a ≤ hi → Q (.int .i64 a) σ) : E f_law05_within [.int .i64 k, .int .i64 lo, .int .i64 hi] σ Q := by
  apply o_law05_within_ev; unfold o_law05_within
  have h0 : IntKind.i64.wrap ((hi : Int) - (lo : Int)) = ((hi - lo : Nat) : Int) := by rw [wrap_i64 (by omega)]; omega
  have h00 : IntKind.i64.wrap (((hi - lo : Nat) : Int) + 1) = ((hi - lo + 1 : Nat) : Int) := by rw [wrap_i64 (by omega)]; omega
  have h1 : IntKind.u64.wrap ((hi - lo + 1 : Nat) : Int) = ((hi - lo + 1 : Nat) : Int) := wrap_u64 (by omega)
  have h2 : 0 ≤ IntKind.u64.wrap k := by
    simp [IntKind.wrap, IntKind.bits, IntKind.signed]; omega
  obtain ⟨m, hm⟩ : ∃ m : Nat, IntKind.u64.wrap k = m := ⟨(IntKind.u64.wrap k).toNat, by omega⟩
  have h3 : ¬ ((hi - lo + 1 : Nat) : Int) = 0 := by omega
  have h4 : ((m : Nat) : Int).tmod ((hi - lo + 1 : Nat) : Int) = ((m % (hi - lo + 1) : Nat) : Int) := rfl
  have h5 : m % (hi - lo + 1) < hi - lo + 1 := Nat.mod_lt _ (by omega)
  have h6 : IntKind.i64.wrap ((m % (hi - lo + 1) : Nat) : Int) = ((m % (hi - lo + 1) : Nat) : Int) := wrap_i64 (by omega)
  have h7 : IntKind.i64.wrap ((lo : Int) + ((m % (hi - lo + 1) : Nat) : Int)) = ((lo + m % (hi - lo + 1) : Nat) : Int) := by rw [wrap_i64 (by omega)]; omega
  simp only [conv_int, bin_sub, bin_add, h0, h00, h1, hm, pu_some, bin_rem, if_neg h3, h4, h6, h7]
  exact hk _ (by omega) (by omega)

/-- What a block of the tests is. -/
def blk5 (x : UInt8) (n : Nat) : List UInt8 := (List.range n).map fun i => x + UInt8.ofNat (i / 64)
theorem blk5_len (x : UInt8) (n : Nat) : (blk5 x n).length = n := by simp [blk5]
theorem blk5_snoc (x : UInt8) (n : Nat) : blk5 x (n + 1) = blk5 x n ++ [x + UInt8.ofNat (n / 64)] := by simp [blk5, List.range_succ]
theorem add_u8 (x : UInt8) (q : Nat) (hq : q < 256) : Value.int .u8 (IntKind.u8.wrap ((x.toNat : Int) + (q : Int))) = by8 (x + UInt8.ofNat q) := by
  simp only [by8, UInt8.toNat_add, UInt8.toNat_ofNat']
  congr 1
  simp [IntKind.wrap, IntKind.bits, IntKind.signed]
theorem block5_ok {x : UInt8} (h : H l σ) (hk : ∀ w σ', H (l ++ [Own t_uint8 1 w 256 (bv (blk5 x 256))]) σ' → Q w σ') : E f_law05_block [by8 x] σ Q := by
  apply o_law05_block_ev; unfold o_law05_block
  refine make_ok (H_one.2 h) (by omega) ?_
  intro b σ1 h1
  have e64 : reps (Int.toNat 256) [Value.int .u8 0] = bv (List.replicate 256 0) := by rw [reps_one, show (Value.int .u8 0) = by8 0 from rfl, bv_replicate]; rfl
  rw [e64] at h1
  have h2 := h1.to_own 1 rfl (n := 256) (z := 1) (by simp) (by unfold OPEN; omega)
  simp
  refine ⟨fun m x0 x3 x4 τ => ∃ (k : Nat), m = 256 - k ∧ k ≤ 256 ∧ x0 = by8 x ∧ x3 = .slice (some ⟨b, 0, none⟩) 256 256 ∧ x4 = .int .i64 k ∧ H [Star l, Own t_uint8 1 (.slice (some ⟨b, 0, none⟩) 256 256) 256 (bv (blk5 x k ++ List.replicate (256 - k) 0))] τ, ⟨_, 0, rfl, by omega, rfl, rfl, rfl, by rw [show blk5 x 0 ++ List.replicate (256 - 0) 0 = List.replicate 256 0 by simp [blk5]]; exact h2⟩, ?_⟩
  clear h1 h2
  rintro m _ _ _ τ ⟨k, rfl, hk2, rfl, rfl, rfl, h3⟩
  suffices hb : ∀ N : Value → Value → Value → AHeap → Prop, (∀ τ', k < 256 → H [Star l, Own t_uint8 1 (.slice (some ⟨b, 0, none⟩) 256 256) 256 (bv (blk5 x (k + 1) ++ List.replicate (256 - (k + 1)) 0))] τ' → N (by8 x) (.slice (some ⟨b, 0, none⟩) 256 256) (.int .i64 (k + 1 : Nat)) τ') →
      o_law05_block_b1 N Q (by8 x) (.slice (some ⟨b, 0, none⟩) 256 256) (.int .i64 k) τ from
    hb _ fun τ' hlt h' => ⟨_, by omega, k + 1, rfl, by omega, rfl, rfl, rfl, h'⟩
  intro N hN
  unfold o_law05_block_b1
  simp only [lenS_slice, pu_some, bin_lss]
  refine wC_dec (fun g1 => ?_) fun g1 => ?_
  · have g1 : k < 256 := by omega
    have w1 : IntKind.i64.wrap (((k : Nat) : Int).tdiv 64) = ((k / 64 : Nat) : Int) := by
      rw [show ((k : Nat) : Int).tdiv 64 = ((k / 64 : Nat) : Int) from rfl, wrap_i64 (by omega)]
    have w2 : IntKind.u8.wrap ((k / 64 : Nat) : Int) = ((k / 64 : Nat) : Int) := wrap_u8 (by omega)
    simp only [bin_quo, show ¬ (64 : Int) = 0 by decide, if_false, w1, pu_some, conv_int, w2]
    rw [show by8 x = .int .u8 (x.toNat : Int) from rfl]
    simp only [bin_add, pu_some]
    rw [add_u8 _ _ (by omega), idxA (by omega)]
    simp only [pu_some, Int.toNat_natCast, Nat.mul_one, Nat.zero_add]
    refine store_own h3 1 rfl (by omega) rfl (by simp [blk5_len]; omega) ?_
    intro τ1 h4
    rw [wrap_i64 (by omega)]
    refine hN τ1 g1 ?_
    have e : (bv (blk5 x k ++ List.replicate (256 - k) 0)).set k (by8 (x + UInt8.ofNat (k / 64))) = bv (blk5 x (k + 1) ++ List.replicate (256 - (k + 1)) 0) := by
      rw [bv_set, List.set_append_right _ _ (by rw [blk5_len]; omega), blk5_len, Nat.sub_self, show 256 - k = (256 - (k + 1)) + 1 by omega, List.replicate_succ, List.set_cons_zero, blk5_snoc]
      simp
    rw [e] at h4
    exact h4
  · have : k = 256 := by omega
    subst this
    refine hk _ τ (H_app.2 ?_)
    simpa using h3
end Go.Ax.O
set_option maxRecDepth 100000
namespace Go.Ax.C
open Go.Proofs Go.RowKit
open O (CacheA Disk It DPlain CO ptrs itemsL MapA pairs)

variable {l r r2 : List Assn} {σ : AHeap} {Q : RK}

theorem H_one1 {A : Assn} (h : H (A :: l) σ) : H [A, Star l] σ :=
  (H_star.2 (h.perm (List.perm_append_comm (l₁ := [A]) (l₂ := l)))).perm (List.perm_append_comm (l₁ := [Star l]) (l₂ := [A]))
theorem dnew {n : Nat} (h : H l σ) (hn : 1 ≤ n ∧ n ≤ 1024) (hQ : ∀ v σ', H (Disk v (.new n) :: l) σ' → Q (.ret (.tuple #[v, .int .i64 0])) σ') : E f_disk_New [.int .i64 (n : Nat)] σ Q := by
  refine O.up (O.new_yes h (by omega) ?_)
  intro v σ' h1
  exact hQ v σ' h1.unsnoc
theorem new_plain {n : Nat} (hn : 1 ≤ n ∧ n ≤ 1024) : DPlain (.new n) n := by
  refine ⟨⟨hn.1, hn.2, ?_, ?_⟩, rfl, rfl⟩
  · simp [DM.new]
  · intro f hf; simp [DM.new] at hf
theorem cnew {dv : Value} {D : DM} {n k : Nat} (h : H l σ) [k1 : AtV l dv (Disk dv D) r] (hD : D.Ok n) (hk : 1 ≤ k ∧ k ≤ 1024) (hQ : ∀ v σ', H (CacheA v dv 0 ⟨k, []⟩ :: Disk dv D :: r) σ' → Q (.ret (.tuple #[v, .int .i64 0])) σ') : E f_cache_New [dv, .int .i64 k] σ Q := by
  have h1 : H [Disk dv D, Star r] σ := H_one1 (h.atv dv)
  refine O.up (O.cnew_ok h1 hD hk ?_)
  intro v σ' h2
  exact hQ v σ' (H_two.2 h2)
theorem cinv_new {n k : Nat} (hn : 1 ≤ n ∧ n ≤ 1024) (hk : 1 ≤ k ∧ k ≤ 1024) : CInv ⟨k, []⟩ (.new n) n :=
  ⟨⟨hk.1, hk.2, by simp, by simp, by simp⟩, new_plain hn, by simp⟩
theorem dread {dv : Value} {D : DM} {n a : Nat} (h : H l σ) [k1 : AtV l dv (Disk dv D) r] (hD : DPlain D n) (hm : D.fly.length < 1099511627776) (ha : a < n)
    (hQ : ∀ w σ', H (Own t_uint8 1 w 256 (bv (D.block a)) :: Disk dv D :: r) σ' → Q (.ret (.tuple #[w, .int .i64 0])) σ') : E f_disk_Disk_Read [dv, .int .i64 a] σ Q := by
  refine O.up (O.read_yes (h.atv dv) 0 rfl hD.ok hm ?_ ?_)
  · rw [O.ready_in hD.ok ha, hD.off]; rfl
  intro w σ' h1
  rw [Int.toNat_natCast] at h1
  exact hQ w σ' h1.unsnoc
theorem dflight {dv : Value} {D : DM} (h : H l σ) [k1 : AtV l dv (Disk dv D) r] (hQ : Q (.ret (.int .i64 D.fly.length)) σ) : E f_disk_Disk_Flight [dv] σ Q :=
  O.up (O.flight_ok (h.atv dv) 0 rfl hQ)
theorem dbarrier {dv : Value} {D : DM} {n : Nat} (h : H l σ) [k1 : AtV l dv (Disk dv D) r] (hD : DPlain D n) (hm : D.fly.length < 1099511627776) (hQ : ∀ σ', H (Disk dv D.land :: r) σ' → Q (.ret (.int .i64 0)) σ') : E f_disk_Disk_Barrier [dv] σ Q := by
  have e : D.barrier = (D.land, 0) := by
    unfold DM.barrier DM.burn
    have hlo := hD.ok.lo
    have := O.ready_in hD.ok (a := 0) (by omega)
    rw [hD.off] at this
    simp only [Bool.false_eq_true, if_false] at this
    have h0 : D.ready 0 = 0 := by simpa using this
    simp [h0, hD.fuse]
  refine O.up (O.barrier_ok (h.atv dv) 0 rfl hD.ok (by rw [hD.fuse]; omega) hm ?_)
  rw [e]
  intro σ' h1
  exact hQ σ' h1
theorem cheld {v dv : Value} {K : Nat} {C : O.CM} (h : H l σ) [k1 : AtV l v (CacheA v dv K C) r] (hQ : Q (.ret (.int .i64 C.its.length)) σ) : E f_cache_Cache_Held [v] σ Q :=
  O.up (O.held_ok (h.atv v) hQ)
theorem dcrash0 {dv : Value} {D : DM} {n : Nat} (h : H l σ) [k1 : AtV l dv (Disk dv D) r] (hD : D.Ok n) (hm : D.fly.length < 1099511627776) (hQ : ∀ σ', H (Disk dv (D.crash []) :: r) σ' → Q (.ret (.tuple #[])) σ') : E f_disk_Disk_Crash [dv, .slice none 0 0] σ Q := by
  refine O.up (O.crash_ok (picks := []) (h.atv dv) 0 rfl hD hm ?_ ?_)
  · intro τ hτ
    exact Rd.nil τ 0
  · intro σ' h1; exact hQ σ' h1

theorem cdirty {v dv : Value} {K n : Nat} {C : O.CM} (h : H l σ) [k1 : AtV l v (CacheA v dv K C) r] (hC : C.Ok n) (hn : n ≤ 1024)
    (hQ : ∀ w zs σ', zs.Perm ((C.its.filter (·.dirty)).map fun x => (x.pl : Int)) → zs.Pairwise (· ≤ ·) → H (Own t_int 1 w zs.length (iz zs) :: CacheA v dv K C :: r) σ' → Q (.ret w) σ') : E f_cache_Cache_Dirty [v] σ Q := by
  obtain ⟨cb, mb, now, rowv, R, M, rfl, hc, hM, hnow, h2⟩ := O.cache_out (h.atv v)
  have hRl := hc.perm.length_eq
  have hMl : M.length = C.its.length := by rw [← hM, List.length_map]
  have hhi := hC.hi
  have hlen := hC.len
  refine cdirty_co h2 (by omega) (fun x hx => ?_) ?_
  · have := (hC.it (O.toIt x) (by rw [← hM]; exact List.mem_map_of_mem (hc.perm.mem_iff.1 hx))).1
    simp only [O.toIt] at this; omega
  intro w m zs σ' hp hs hl h3
  subst hl
  refine hQ w zs σ' ?_ hs ?_
  · refine hp.trans (((hc.perm.filter _).map _).trans ?_)
    rw [← hM, List.filter_map, List.map_map]
    exact .refl _
  · have h4 : H (CO cb dv C.n now mb rowv R M (Star (r ++ [Own t_int 1 w zs.length (iz zs)]))) σ' := by
      have h5 : H (Star r :: [Own t_int 1 w zs.length (iz zs), pt cb (.cells [dv, .int .i64 C.n, .int .u64 now, .map (some mb), rowv] t_cache_Cache false), Own t_p_cache_item 1 rowv R.length (ptrs R), Star (itemsL 0 R), MapA mb (pairs M)]) σ' := h3.pick [5, 0, 1, 2, 3, 4] (by decide)
      have h6 := H_star.1 h5
      have h7 : H ((r ++ [Own t_int 1 w zs.length (iz zs)]) ++ [pt cb (.cells [dv, .int .i64 C.n, .int .u64 now, .map (some mb), rowv] t_cache_Cache false), Own t_p_cache_item 1 rowv R.length (ptrs R), Star (itemsL 0 R), MapA mb (pairs M)]) σ' := by simpa using h6
      exact (H_star.2 h7).pick [1, 2, 3, 4, 0] (by decide)
    have h8 := O.cache_in hc hM hnow h4
    refine h8.perm ?_
    exact ((List.perm_append_comm (l₁ := r) (l₂ := [Own t_int 1 w zs.length (iz zs)])).cons _).trans (.swap _ _ _)

/-- New bytes. -/
theorem mkb {n : Nat} {K : Value × AHeap → Prop} (h : H l σ) (hn : 0 < n ∧ n ≤ 1099511627776) (hk : ∀ b σ', H (Own t_uint8 1 (.slice (some ⟨b, 0, none⟩) n n) n (bv (List.replicate n 0)) :: l) σ' → K (.slice (some ⟨b, 0, none⟩) n n, σ')) :
    pu (aMake t_uint8 1 [(.int .u8 0)] (.int .i64 n) (.int .i64 n) σ) K := by
  refine make_ok (H_one.2 h) (by omega) ?_
  intro b σ1 h1
  have e64 : reps (Int.toNat n) [Value.int .u8 0] = bv (List.replicate n 0) := by rw [reps_one, show (Value.int .u8 0) = by8 0 from rfl, O.bv_replicate, Int.toNat_natCast]
  rw [e64] at h1
  have h2 := h1.to_own 1 rfl (n := n) (z := 1) (by simp) (by unfold OPEN; omega)
  have h3 := H_star.1 h2
  rw [Int.toNat_natCast]
  exact hk b σ1 h3.unsnoc

/-- A text of bytes. -/
def str (x : List UInt8) : ByteArray := ⟨x.toArray⟩
theorem conv_str {e n : Nat} {w : Value} {x : List UInt8} (h : H l σ) [k1 : AtV l w (Own e 1 w n (bv x)) r] : aConv P t_sl_uint8 t_string w σ = some (.string (str x)) := by
  obtain ⟨hs, hn, a, c, rfl⟩ := (h.atv w).own_src 0 rfl
  have h1 : ∀ a n c, aConv P t_sl_uint8 t_string (.slice a n c) σ = aBytesStr (.slice a n c) σ := fun a n c => by kernel_rfl
  rw [h1, bytesStr_src hs]; rfl
theorem str_inj {x y : List UInt8} : str x = str y ↔ x = y := by
  constructor
  · intro h; unfold str at h
    have := congrArg (·.data.toList) h
    simpa using this
  · rintro rfl; rfl
theorem beq_str (x y : List UInt8) : aBin (some .string) .eql (.string (str x)) (.string (str y)) = some (.bool (decide (x = y))) := by
  simp only [aBin, aStr, ByteArray.toList_eq, str]
  simp
  by_cases e : x = y <;> simp [e]
theorem bne_str (x y : List UInt8) : aBin (some .string) .neq (.string (str x)) (.string (str y)) = some (.bool (decide (x ≠ y))) := by
  simp only [aBin, aStr, ByteArray.toList_eq, str]
  simp
  by_cases e : x = y <;> simp [e]
theorem veq_str (x : ByteArray) : veq1 (.string x) (.string x) = true := by
  simp [veq1, veq, veq0]
theorem block5 {x : UInt8} (h : H l σ) (hk : ∀ w σ', H (Own t_uint8 1 w 256 (bv (O.blk5 x 256)) :: l) σ' → Q (.ret w) σ') : E f_law05_block [.int .u8 (x.toNat : Nat)] σ Q := by
  refine O.up (O.block5_ok (x := x) h ?_)
  intro w σ' h1
  exact hk w σ' h1.unsnoc
theorem within5 {k : Int} {lo hi : Nat} (hn : lo ≤ hi ∧ hi ≤ 1000) (hk : ∀ a : Nat, lo ≤ a → a ≤ hi → Q (.ret (.int .i64 a)) σ) : E f_law05_within [.int .i64 k, .int .i64 lo, .int .i64 hi] σ Q :=
  O.up (O.within3_ok hn hk)

/-! ### Exactly -/
theorem cput_new {v dv w : Value} {K n a : Nat} {C : O.CM} {D : DM} {r3 : List Assn} {bs : List UInt8} (h : H l σ) [k1 : AtV l v (CacheA v dv K C) r] [k2 : AtV r dv (Disk dv D) r2] [k3 : AtV r2 w (Own t_uint8 1 w 256 (bv bs)) r3] (hC : C.Ok n) (hD : DPlain D n) (hno : ∀ x ∈ C.its, x.pl ≠ a) (ha : a < n) (hm : D.fly.length < 1099511627000) (hK : K + 1 < 18446744073709551616)
    (hQ : ∀ σ', H (CacheA v dv (K + 1) { C with its := (C.room D).1 ++ [⟨a, true, bs⟩] } :: Disk dv (C.room D).2 :: Own t_uint8 1 w 256 (bv bs) :: r3) σ' → Q (.ret (.int .i64 0)) σ') : E f_cache_Cache_Put [v, .int .i64 a, w] σ Q := by
  have h1 := H_thr.1 (((h.atv v).perm (k2.perm.cons _)).perm ((k3.perm.cons _).cons _))
  refine O.up (O.put_miss h1 hC hno ha hD hm hK ?_)
  intro σ' h2
  exact hQ σ' (H_thr.2 h2)
theorem cget_new {v dv : Value} {K n a : Nat} {C : O.CM} {D : DM} (h : H l σ) [k1 : AtV l v (CacheA v dv K C) r] [k2 : AtV r dv (Disk dv D) r2] (hC : C.Ok n) (hD : DPlain D n) (hno : ∀ x ∈ C.its, x.pl ≠ a) (ha : a < n) (hm : D.fly.length < 1099511627000) (hK : K + 2 < 18446744073709551616)
    (hQ : ∀ w σ', H (Own t_uint8 1 w 256 (bv ((C.room D).2.block a)) :: CacheA v dv (K + 2) { C with its := (C.room D).1 ++ [⟨a, false, (C.room D).2.block a⟩] } :: Disk dv (C.room D).2 :: r2) σ' → Q (.ret (.tuple #[w, .int .i64 0])) σ') : E f_cache_Cache_Get [v, .int .i64 a] σ Q := by
  have h1 := H_two.1 ((h.atv v).perm (k2.perm.cons _))
  refine O.up (O.get_miss h1 hC hno ha hD hm hK ?_)
  intro w σ' h2
  exact hQ w σ' (H_thr.2 (h2.pick [3, 0, 1, 2] (by decide)))
theorem cget_old {v dv : Value} {K n : Nat} {C : O.CM} {D : DM} {A B : List It} {it : It} (h : H l σ) [k1 : AtV l v (CacheA v dv K C) r] [k2 : AtV r dv (Disk dv D) r2] (hC : C.Ok n) (hD : DPlain D n) (hits : C.its = A ++ it :: B) (hK : K + 1 < 18446744073709551616)
    (hQ : ∀ w σ', H (Own t_uint8 1 w 256 (bv it.b) :: CacheA v dv (K + 1) { C with its := A ++ B ++ [it] } :: Disk dv D :: r2) σ' → Q (.ret (.tuple #[w, .int .i64 0])) σ') : E f_cache_Cache_Get [v, .int .i64 it.pl] σ Q := by
  have h1 := H_two.1 ((h.atv v).perm (k2.perm.cons _))
  refine O.up (O.get_hit h1 hC hits hD hK ?_)
  intro w σ' h2
  exact hQ w σ' (H_thr.2 (h2.pick [3, 0, 1, 2] (by decide)))
end Go.Ax.C
set_option maxRecDepth 100000
namespace Go.Ax.C
open Go.Proofs Go.RowKit
open O (CacheA Disk It DPlain)

variable {l r r2 : List Assn} {σ : AHeap} {Q : RK}

theorem blk5_ne {x : UInt8} : (O.blk5 x 256).length = 256 := O.blk5_len x 256

theorem wakes5 (hQ : ∀ σ', Q (.ret (.bool true)) σ') (h : H l σ) : E f_law05_wakes [] σ Q := by
  apply e_law05_wakes; unfold s_law05_wakes
  refine dnew (n := 4) h (by omega) ?_
  intro dv σ1 h1
  rw [c2_ret, tI_int]
  refine If_ne (fun g => absurd rfl g) fun _ => ?_
  have hD : DPlain (.new 4) 4 := new_plain (by omega)
  refine cnew (k := 2) h1 hD.ok (by omega) ?_
  intro v σ2 h2
  rw [c2_ret, tI_int]
  refine If_ne (fun g => absurd rfl g) fun _ => ?_
  refine block5 (x := 1) h2 ?_
  intro w1 σ3 h3
  rw [cV_ret]
  have hC0 : (⟨2, []⟩ : O.CM).Ok 4 := ⟨by simp, by simp, by simp, by simp, by simp⟩
  refine cput_new (a := 0) h3 hC0 hD (by simp) (by omega) (by simp [DM.new]) (by omega) ?_
  intro σ4 h4
  rw [cI_ret]
  refine If_ne (fun g => absurd rfl g) fun _ => ?_
  have e1 : (⟨2, []⟩ : O.CM).room (.new 4) = ([], .new 4) := rfl
  rw [e1] at h4
  refine block5 (x := 2) h4 ?_
  intro w2 σ5 h5
  rw [cV_ret]
  have hC1 : (⟨2, [⟨0, true, O.blk5 1 256⟩]⟩ : O.CM).Ok 4 := ⟨by simp, by simp, by simp, by simp [O.blk5_len], by simp⟩
  refine cput_new (a := 1) h5 hC1 hD (by simp) (by omega) (by simp [DM.new]) (by omega) ?_
  intro σ6 h6
  rw [cI_ret]
  refine If_ne (fun g => absurd rfl g) fun _ => ?_
  have e2 : (⟨2, [⟨0, true, O.blk5 1 256⟩]⟩ : O.CM).room (.new 4) = ([⟨0, true, O.blk5 1 256⟩], .new 4) := rfl
  rw [e2] at h6
  refine dflight h6 ?_
  rw [cI_ret]
  unfold s_law05_wakes_k6
  refine If_f (by simp [DM.new]) ?_
  have hC2 : (⟨2, [⟨0, true, O.blk5 1 256⟩, ⟨1, true, O.blk5 2 256⟩]⟩ : O.CM).Ok 4 := ⟨by simp, by simp, by simp, by simp [O.blk5_len], by simp⟩
  refine cget_old (A := []) (it := ⟨0, true, O.blk5 1 256⟩) (B := [⟨1, true, O.blk5 2 256⟩]) h6 hC2 hD rfl (by omega) ?_
  intro w3 σ7 h7
  rw [c2_ret, tI_int]
  have hC3 : (⟨2, [⟨1, true, O.blk5 2 256⟩, ⟨0, true, O.blk5 1 256⟩]⟩ : O.CM).Ok 4 := ⟨by simp, by simp, by simp, by simp [O.blk5_len], by simp⟩
  refine cget_new (a := 2) h7 hC3 hD (by simp) (by omega) (by simp [DM.new]) (by omega) ?_
  intro w4 σ8 h8
  rw [c2_ret, tI_int]
  have e3 : (⟨2, [⟨1, true, O.blk5 2 256⟩, ⟨0, true, O.blk5 1 256⟩]⟩ : O.CM).room (.new 4) = ([⟨0, true, O.blk5 1 256⟩], (DM.new 4).fling 1 (O.blk5 2 256)) := rfl
  change H (_ :: CacheA v dv _ { (⟨2, [⟨1, true, O.blk5 2 256⟩, ⟨0, true, O.blk5 1 256⟩]⟩ : O.CM) with its := ((⟨2, [⟨1, true, O.blk5 2 256⟩, ⟨0, true, O.blk5 1 256⟩]⟩ : O.CM).room (.new 4)).1 ++ _ } :: _) _ at h8
  rw [e3] at h8
  have hD1 : DPlain ((DM.new 4).fling 1 (O.blk5 2 256)) 4 := hD.fling (by omega) (O.blk5_len _ _)
  have e4 : ((DM.new 4).fling 1 (O.blk5 2 256)).block 2 = List.replicate 256 0 := by
    rw [O.block_fling hD.ok (by omega) (O.blk5_len _ _), if_neg (by omega), O.block_new (by omega)]
  rw [e4] at h8
  have hC4 : (⟨2, [⟨0, true, O.blk5 1 256⟩, ⟨2, false, List.replicate 256 0⟩]⟩ : O.CM).Ok 4 := ⟨by simp, by simp, by simp, by simp [O.blk5_len], by simp⟩
  have hI4 : CInv ⟨2, [⟨0, true, O.blk5 1 256⟩, ⟨2, false, List.replicate 256 0⟩]⟩ ((DM.new 4).fling 1 (O.blk5 2 256)) 4 := ⟨hC4, hD1, by simp [e4]⟩
  refine cdirty h8 hC4 (by omega) ?_
  intro dw zs σ9 hzp hzs h9
  have hz : zs = [0] := List.perm_singleton.1 hzp
  subst hz
  rw [cV_ret]
  refine If_t rfl (If_t rfl ?_)
  rw [conv_str (w := w3) h9, ldS_some]
  refine block5 (x := 1) h9 ?_
  intro w5 σ10 h10
  rw [cV_ret, conv_str (w := w3) h10, ldS_some]
  refine ⟨veq_str _, ?_⟩
  rw [conv_str (w := w5) h10, ldS_some, beq_str, ldB_some]
  refine If_t (by simp) ?_
  rw [conv_str (w := w4) h10, ldS_some]
  refine mkb (n := 256) h10 (by omega) ?_
  intro b σ11 h11
  rw [conv_str (w := w4) h11, ldS_some]
  refine ⟨veq_str _, ?_⟩
  rw [conv_str (w := .slice (some ⟨b, 0, none⟩) 256 256) h11, ldS_some, beq_str, ldB_some]
  refine If_t (by simp) ?_
  refine dflight h11 ?_
  rw [cI_ret]
  refine If_t (by simp [DM.fling, parts, DM.new]) ?_
  obtain ⟨wa, wc, hw⟩ := (h11.atv dw).own_src 0 rfl |>.2.2
  rw [hw, lenS_slice, ldI_some, ← hw]
  refine If_t rfl ?_
  obtain ⟨p, q1, q2⟩ := ints_get (k := 0) (z := 0) (h11.atv dw) rfl rfl
  have q1' : aIndexAddr 1 dw (.int .i64 0) = some p := q1
  rw [q1', om_some, q2, ldI_some]
  refine If_t rfl ?_
  refine cflush h11 hI4 (by simp [DM.fling, parts, DM.new]) ?_
  intro zs' σ12 hzp' _ _ _ _ hfl h12
  rw [cI_ret]
  refine If_t rfl ?_
  have hz' : zs' = [0] := List.perm_singleton.1 hzp'
  subst hz'
  refine dflight h12 ?_
  rw [cI_ret]
  refine If_t (by rw [hfl]; simp [DM.fling, parts, DM.new]) ?_
  refine cheld h12 ?_
  rw [cI_ret]
  exact hQ σ12
end Go.Ax.C
set_option maxRecDepth 100000
namespace Go.Ax.O

theorem put_window {n a : Nat} {l : List UInt8} {f : Flight} (hl : l.length = 256 * n) (hf : FlyOk n f) (ha : a < n) :
    ((put l f.1 f.2).drop (a * 256)).take 256 = if a * 256 ≤ f.1 ∧ f.1 < a * 256 + 256 then put ((l.drop (a * 256)).take 256) (f.1 - a * 256) f.2 else (l.drop (a * 256)).take 256 := by
  obtain ⟨h1, h2, h3⟩ := hf
  have hw : ((l.drop (a * 256)).take 256).length = 256 := by simp; omega
  apply List.ext_getElem?
  intro i
  rw [List.getElem?_take, List.getElem?_drop, put_get _ _ _ (by omega), h1]
  by_cases hin : a * 256 ≤ f.1 ∧ f.1 < a * 256 + 256
  · rw [if_pos hin, put_get _ _ _ (by rw [hw, h1]; omega), h1, List.getElem?_take, List.getElem?_drop]
    by_cases hi : i < 256
    · rw [if_pos hi, if_pos hi]
      by_cases hp : f.1 ≤ a * 256 + i ∧ a * 256 + i < f.1 + 64
      · rw [if_pos hp, if_pos (by omega)]; congr 1; omega
      · rw [if_neg hp, if_neg (by omega)]
    · rw [if_neg hi, if_neg (by omega), if_neg hi]
  · rw [if_neg hin, List.getElem?_take, List.getElem?_drop]
    by_cases hi : i < 256
    · rw [if_pos hi, if_pos hi, if_neg (by omega)]
    · rw [if_neg hi, if_neg hi]
theorem laid_window {n a : Nat} (ha : a < n) : ∀ (fs : List Flight) (l : List UInt8), l.length = 256 * n → (∀ f ∈ fs, FlyOk n f) → ((laid l fs).drop (a * 256)).take 256 = over (a * 256) ((l.drop (a * 256)).take 256) fs
  | [], l, _, _ => rfl
  | f :: fs, l, hl, hf => by
    have h1 := hf f (by simp)
    have hp : (put l f.1 f.2).length = 256 * n := by rw [put_length _ _ _ (by rw [h1.len, hl]; exact h1.fit), hl]
    have h2 := laid_window ha fs (put l f.1 f.2) hp fun g hg => hf g (by simp [hg])
    show ((laid (put l f.1 f.2) fs).drop (a * 256)).take 256 = over (a * 256) (if a * 256 ≤ f.1 ∧ f.1 < a * 256 + 256 then put ((l.drop (a * 256)).take 256) (f.1 - a * 256) f.2 else (l.drop (a * 256)).take 256) fs
    rw [h2, put_window hl h1 ha]
theorem land_block {D : DM} {n a : Nat} (hD : D.Ok n) (ha : a < n) : D.land.block a = D.block a := by
  rw [block_still _ (by rfl)]
  exact laid_window ha D.fly D.last hD.len hD.fly
theorem land_plain {D : DM} {n : Nat} (hD : DPlain D n) : DPlain D.land n :=
  ⟨⟨hD.ok.lo, hD.ok.hi, laid_length _ _ hD.ok.len hD.ok.fly, fun f hf => by simp [DM.land] at hf⟩, hD.off, hD.fuse⟩
theorem crash_still {D : DM} {picks : List UInt8} (h : D.fly = []) : D.crash picks = ⟨D.last, [], 0, false⟩ := by
  unfold DM.crash; rw [h]; rfl
end Go.Ax.O
set_option maxRecDepth 100000
namespace Go.Ax
open Go.Proofs Go.RowKit

theorem Ev.law {P : Program} {f : FuncId} {fn : Func} (hf : P.funcs[f]? = some fn) (hb : fn.body.isNone = false) {args args' : List Value} {ρ : List RB} {σ : AHeap} {W : World}
    (hr : Rel W.heap.size W ρ σ W) (ha : LR ρ args args') (h : Ev P f args σ fun r _ => r = .ret (.bool true)) : Calls P f args'.toArray W fun e w' => e = .returned (.bool true) ∧ Below W.heap.size W w' := by
  obtain ⟨fn', h1, h2, h3⟩ := h _ _ _ _ _ hr ha
  rw [hf] at h1; cases h1
  rcases h3 with ⟨_, hc⟩ | ⟨v, v', ρ', σ', w', _, hrun, _⟩
  · refine hc.mono fun e w' he => ?_
    obtain ⟨r, ρ', σ', hq, hres, _, hr'⟩ := he
    subst hq
    obtain ⟨v', rfl, hv⟩ := hres
    rw [hv.bool_inv]
    exact ⟨rfl, hr'.below⟩
  · rw [run_callFunc hf h2 hb] at hrun
    simp at hrun

variable {l : List Assn} {σ : AHeap}
def i64r (n : Int) : Prop := -9223372036854775808 ≤ n ∧ n < 9223372036854775808
def U8A : List Value → UInt8 → Assn := fun cs b => pure' (cs = [by8 b])
theorem U8A.dup (c : List Value) (b : UInt8) : Dup (U8A c b) := Dup.pure _
def I64A : List Value → Int → Assn := fun cs n => pure' (cs = [.int .i64 n] ∧ i64r n)
theorem I64A.dup (c : List Value) (b : Int) : Dup (I64A c b) := Dup.pure _
/-- A slice of bytes of an argument. -/
def BytesA (v : Value) (x : List UInt8) : Assn := RowsA 1 1 U8A v x
theorem BytesA.dup (v : Value) (x : List UInt8) : Dup (BytesA v x) := RowsA.dup U8A.dup v x
theorem zip_u8 : ∀ {css : List (List Value)} {x : List UInt8} {l : List Assn} {σ : AHeap}, css.length = x.length → H (Zip U8A css x :: l) σ → css.flatten = bv x
  | [], [], l, σ, _, _ => rfl
  | [], _ :: _, l, σ, h, _ => by simp at h
  | _ :: _, [], l, σ, h, _ => by simp at h
  | c :: css, b :: x, l, σ, hl, h => by
    simp only [Zip, H_sep, U8A, H_pure] at h
    obtain ⟨rfl, h⟩ := h
    simp [zip_u8 (by simpa using hl) h]
theorem H.bytes_rd {v : Value} {x : List UInt8} (h : H l σ) (i : Nat) (hi : l[i]? = some (BytesA v x)) : Rd σ v x ∧ x.length ≤ reachBytes := by
  rcases H_rows.1 (h.front i hi) with ⟨⟨rfl, rfl | rfl⟩, _⟩ | ⟨id, cap, e, css, h1, rfl, h2, h3, h4, h5, h6⟩
  · exact ⟨Rd.nil _ _, by simp⟩
  · exact ⟨⟨src_zero _ _ _ _, ⟨_, _, rfl⟩, fun k b h => by simp at h⟩, by simp⟩
  · have hrow := row_ro h1.rget0.1
    rw [zip_u8 h4 h1.tail] at hrow
    exact ⟨rd_row (o := 0) hrow (by simp) (by simp), by omega⟩

variable {P : Program}
theorem AbsT.bytes {t e : TypeId} (ht : P.underlying t = some (.slice e)) (hc : P.cellsOf t = 1) (he : P.underlying e = some (.int .u8)) (hz : P.cellsOf e = 1) (hb : P.bytesOf e = 1) : AbsT P t (M := List UInt8) fun cs x => ex fun v => sep (pure' (cs = [v])) (BytesA v x) := by
  have h := AbsT.slice (P := P) (t := t) (e := e) (A := U8A) ht hc (by omega) (AbsT.u8 he hz)
  rw [hz, hb] at h
  exact h
theorem AbsT.i64 {t : TypeId} (ht : P.underlying t = some (.int .i64)) (hc : P.cellsOf t = 1) : AbsT P t (M := Int) I64A := by
  refine AbsT.imp id (AbsT.int (P := P) (t := t) (k := .i64) ht hc) ?_
  intro cs m l σ h
  obtain ⟨⟨h1, h2⟩, h⟩ := H_pure.1 h
  refine H_pure.2 ⟨⟨h1, ?_⟩, h⟩
  simp [Lit.wf, IntKind.min, IntKind.max, IntKind.signed, IntKind.bits] at h2
  unfold i64r; simp only [id]; omega
theorem AbsT.rows {t e : TypeId} {M : Type} {A : List Value → M → Assn} {z by' : Nat} (ht : P.underlying t = some (.slice e)) (hc : P.cellsOf t = 1) (hz : P.cellsOf e = z) (hb : P.bytesOf e = by') (h0 : 0 < z) (hE : AbsT P e A) :
    AbsT P t (M := List M) fun cs L => ex fun v => sep (pure' (cs = [v])) (RowsA z by' A v L) := by
  subst hz; subst hb
  exact AbsT.slice ht hc h0 hE
end Go.Ax
set_option maxRecDepth 100000
namespace Go.Ax.C
open Go.Proofs Go.RowKit
open O (CacheA Disk It DPlain)

variable {l r r2 m : List Assn} {σ : AHeap} {Q : RK}

/-! ### Rows of bytes of their own -/
def owns : List Value → List (List UInt8) → List Assn
  | v :: vs, x :: xs => Own t_uint8 1 v 256 (bv x) :: owns vs xs
  | _, _ => []
theorem owns_get : ∀ (vs : List Value) (xs : List (List UInt8)) (k : Nat) (v : Value) (x : List UInt8), vs[k]? = some v → xs[k]? = some x → (owns vs xs)[k]? = some (Own t_uint8 1 v 256 (bv x))
  | [], _, k, v, x, h, _ => by simp at h
  | _ :: _, [], k, v, x, _, h => by simp at h
  | v :: vs, x :: xs, 0, v', x', h, h' => by simp at h h'; subst h; subst h'; rfl
  | v :: vs, x :: xs, k + 1, v', x', h, h' => by
    simp only [owns, List.getElem?_cons_succ] at h h' ⊢
    exact owns_get vs xs k v' x' h h'
theorem owns_set : ∀ (vs : List Value) (xs : List (List UInt8)) (k : Nat) (v : Value) (x : List UInt8), k < vs.length → k < xs.length → (owns vs xs).set k (Own t_uint8 1 v 256 (bv x)) = owns (vs.set k v) (xs.set k x)
  | [], _, k, v, x, h, _ => by simp at h
  | _ :: _, [], k, v, x, _, h => by simp at h
  | v :: vs, x :: xs, 0, v', x', h, h' => rfl
  | v :: vs, x :: xs, k + 1, v', x', h, h' => by
    simp only [owns, List.set_cons_succ]
    rw [owns_set vs xs k v' x' (by simpa using h) (by simpa using h')]
theorem owns_snoc : ∀ (vs : List Value) (xs : List (List UInt8)) (x : List UInt8) (v : Value), xs.length < vs.length → owns (vs.set xs.length v) (xs ++ [x]) = owns vs xs ++ [Own t_uint8 1 v 256 (bv x)]
  | [], _, x, v, h => by simp at h
  | v0 :: vs, [], x, v, h => by simp [owns]
  | v0 :: vs, y :: xs, x, v, h => by
    simp only [List.cons_append, owns, List.length_cons, List.set_cons_succ]
    rw [owns_snoc vs xs x v (by simpa using h)]
theorem owns_out {vs : List Value} {xs : List (List UInt8)} {k : Nat} {v : Value} {x : List UInt8} (h : H (Star (owns vs xs) :: m) σ) (hv : vs[k]? = some v) (hx : xs[k]? = some x) : H (Own t_uint8 1 v 256 (bv x) :: Star ((owns vs xs).set k emp) :: m) σ := by
  have h1 := H_star.1 h
  have hk := owns_get vs xs k v x hv hx
  have h2 := h1.front k (by rw [List.getElem?_append_left (List.getElem?_eq_some_iff.1 hk).1]; exact hk)
  rw [List.set_append_left _ _ (List.getElem?_eq_some_iff.1 hk).1] at h2
  have h3 : H (((owns vs xs).set k emp) ++ (Own t_uint8 1 v 256 (bv x) :: m)) σ := h2.perm List.perm_middle.symm
  exact (H_star.2 h3).perm (.swap _ _ _)
theorem owns_in {vs : List Value} {xs : List (List UInt8)} {k : Nat} {v : Value} {x : List UInt8} (hv : k < vs.length) (hx : k < xs.length) (h : H (Own t_uint8 1 v 256 (bv x) :: Star ((owns vs xs).set k emp) :: m) σ) : H (Star (owns (vs.set k v) (xs.set k x)) :: m) σ := by
  rw [← owns_set vs xs k v x hv hx]
  have hk := owns_get vs xs k vs[k] xs[k] (List.getElem?_eq_getElem hv) (List.getElem?_eq_getElem hx)
  have hl := (List.getElem?_eq_some_iff.1 hk).1
  refine H_star.2 ?_
  have h3 := H_star.1 (h.perm (.swap _ _ _))
  have h4 := h3.perm (List.perm_middle)
  have h5 : H ((owns vs xs ++ m).set k (Own t_uint8 1 v 256 (bv x))) σ := H.back k (A := Own t_uint8 1 vs[k] 256 (bv xs[k])) (by rw [List.getElem?_append_left hl]; exact hk) (by rw [List.set_append_left _ _ hl]; exact h4)
  rwa [List.set_append_left _ _ hl] at h5

/-! ### Acts -/
structure Act5 where
  What : Int
  At : Int
  X : UInt8
def Act5A (cs : List Value) (a : Act5) : Assn := ex fun v => pure' (cs = [.int .i64 a.What, .int .i64 a.At, by8 a.X, v])
theorem Act5A.dup (c : List Value) (a : Act5) : Dup (Act5A c a) := Dup.ex fun _ => Dup.pure _
def Acts5 (v : Value) (L : List Act5) : Assn := RowsA 4 48 Act5A v L
instance (v : Value) (L : List Act5) (l : List Assn) : AtV (Acts5 v L :: l) v (Acts5 v L) l := ⟨.refl _⟩
theorem acts5_get {v : Value} {L : List Act5} {k : Nat} {a : Act5} (h : H l σ) [k1 : AtV l v (Acts5 v L) r] (hk : L[k]? = some a) :
    ∃ b, (aIndexAddr 4 v (.int .i64 (k : Nat)) = some (.pointer (some ⟨b, k * 4, none⟩))) ∧ aLoad false 1 (.pointer (some ⟨b, k * 4 + 0, none⟩)) σ = some (.int .i64 a.What) ∧
      aLoad false 1 (.pointer (some ⟨b, k * 4 + 1, none⟩)) σ = some (.int .i64 a.At) ∧ aLoad false 1 (.pointer (some ⟨b, k * 4 + 2, none⟩)) σ = some (.int .u8 (a.X.toNat : Nat)) := by
  obtain ⟨b, cs, e1, _, e3, _, h1⟩ := (h.atv v).rows_elem 0 rfl hk
  obtain ⟨w, h2⟩ := H_ex.1 h1
  obtain ⟨rfl, _⟩ := H_pure.1 h2
  exact ⟨b, e1 .i64, e3 1 0 (by omega), e3 1 1 (by omega), e3 1 2 (by omega)⟩
theorem acts5_form {v : Value} {L : List Act5} (h : H l σ) [k1 : AtV l v (Acts5 v L) r] : ∃ a c, v = .slice a L.length c := (h.atv v).rows_form 0 rfl

/-! ### The test -/
/-- What stands between the calls. -/
structure Un (n kk : Nat) (C : O.CM) (D : DM) (K i : Nat) (xs : List (List UInt8)) (vs : List Value) : Prop where
  inv : CInv C D n
  cn : C.n = kk
  k : K ≤ 2 * i
  fly : D.fly.length ≤ 52 * i
  xl : xs.length = n
  vl : vs.length = 24
  now : ∀ a < n, xs[a]? = some (content C D a)
def UnA (b : Nat) (v dv lv : Value) (L : List Act5) (K : Nat) (C : O.CM) (D : DM) (xs : List (List UInt8)) (vs : List Value) : List Assn :=
  [CacheA v dv K C, Disk dv D, pt b (.cells vs t_a24_sl_uint8 false), Star (owns vs xs), Acts5 lv L]

variable {n kk : Nat} {b : Nat} {v dv lv : Value} {L : List Act5}

theorem un_k24 {N : Int → AHeap → Prop} {i : Nat} (hi : i < 1048577) (hN : N ((i + 1 : Nat) : Int) σ) (x1 : Int) (x2 : Value) (x3 : Value) (x4 : Nat) : s_law05_CacheUnseen_k24 N E Q false x1 x2 x3 x4 (i : Int) σ := by
  unfold s_law05_CacheUnseen_k24
  refine If_f rfl ?_
  exact b64 ((i + 1 : Nat) : Int) (by omega) hN

theorem dirty_le (C : O.CM) : ((C.its.filter (·.dirty)).map fun x => (x.pl : Int)).length ≤ C.its.length := by
  rw [List.length_map]; exact List.length_filter_le _ _

theorem un_k23 {N : Int → AHeap → Prop} {i K : Nat} {C : O.CM} {D : DM} {xs : List (List UInt8)} {vs : List Value} (hi : i < L.length) (hL : L.length ≤ 1048576) (hu : Un n kk C D K (i + 1) xs vs) (hn : n ≤ 24)
    (h : H (UnA b v dv lv L K C D xs vs) σ) (hN : ∀ τ C D K xs vs, Un n kk C D K (i + 1) xs vs → H (UnA b v dv lv L K C D xs vs) τ → N ((i + 1 : Nat) : Int) τ) :
    s_law05_CacheUnseen_k23 N E Q v kk n dv b (i : Int) σ := by
  unfold s_law05_CacheUnseen_k23
  have hlen := hu.inv.ok.len
  have hkn := hu.cn
  unfold UnA at h
  refine cheld h ?_
  rw [cI_ret]
  refine If_f (by simp; omega) ?_
  refine cdirty h hu.inv.ok (by omega) ?_
  intro w zs τ hp hs h1
  rw [cV_ret]
  obtain ⟨wa, wc, hw⟩ := ((h1.atv w).own_src 0 rfl).2.2
  rw [hw, lenS_slice, ldI_some]
  refine cheld h1 ?_
  rw [cI_ret]
  have hz := hp.length_eq
  have hd := dirty_le C
  have e : decide ((C.its.length : Int) < (zs.length : Int)) = false := by simp; omega
  rw [e]
  refine un_k24 (by omega) ?_ _ _ _ _
  exact hN τ C D K xs vs hu (h1.pick [1, 2, 3, 4, 5] (by decide))

theorem un_b4 {D : DM} {xs : List (List UInt8)} {vs : List Value} (hD : DPlain D n) (hn : n ≤ 24) (hm : D.fly = []) (hxl : xs.length = n) (hvl : vs.length = 24) (hnow : ∀ a < n, xs[a]? = some (D.block a))
    (hQ : ∀ σ', Q (.ret (.bool true)) σ') (h : H [Disk dv D, pt b (.cells vs t_a24_sl_uint8 false), Star (owns vs xs)] σ) :
    ∃ I460 : Nat → Int → AHeap → Prop, (∃ m, I460 m 0 σ) ∧
      ∀ m (n411 : Int) (σ' : AHeap), I460 m n411 σ' → (s_law05_CacheUnseen_b4 (fun n411 σ' => ∃ m', m' < m ∧ I460 m' n411 σ') E Q n dv b n411 σ') := by
  refine ⟨fun m k τ => ∃ i : Nat, m = n - i ∧ k = (i : Int) ∧ i ≤ n ∧ H [Disk dv D, pt b (.cells vs t_a24_sl_uint8 false), Star (owns vs xs)] τ, ⟨_, 0, rfl, rfl, by omega, h⟩, ?_⟩
  rintro m _ τ ⟨i, rfl, rfl, hi, h⟩
  unfold s_law05_CacheUnseen_b4
  refine If_dec (fun g => ?_) fun g => ?_
  · have hi' : i < n := by omega
    have hvi : vs[i]? = some vs[i] := List.getElem?_eq_getElem (by omega)
    refine dread h hD (by rw [hm]; simp) hi' ?_
    intro w τ1 h1
    rw [c2_ret, tI_int]
    refine If_ne (fun g => absurd rfl g) fun _ => ?_
    rw [conv_str (w := w) h1, ldS_some, idxAA (by omega), om_some]
    have h2 : H (Star (owns vs xs) :: [Own t_uint8 1 w 256 (bv (D.block i)), Disk dv D, pt b (.cells vs t_a24_sl_uint8 false)]) τ1 := h1.pick [3, 0, 1, 2] (by decide)
    have h3 := owns_out h2 hvi (hnow i hi')
    rw [load1 (h1.row 2 rfl)]
    simp only [Int.toNat_natCast, Nat.zero_add, Nat.mul_one]
    rw [hvi, om_some, conv_str (w := vs[i]) h3, ldS_some, bne_str, ldB_some]
    unfold s_law05_CacheUnseen_k47
    refine If_f (by simp) ?_
    refine b64 ((i + 1 : Nat) : Int) (by omega) ?_
    exact ⟨_, by omega, i + 1, rfl, rfl, by omega, h1.pick [1, 2, 3] (by decide)⟩
  · refine wakes5 (fun σ' => ?_) (H.nil τ)
    rw [cB_ret]
    exact hQ σ'

theorem un_k40 {D : DM} {xs : List (List UInt8)} {vs : List Value} (hD : DPlain D n) (hn : n ≤ 24) (hm : D.fly = []) (hxl : xs.length = n) (hvl : vs.length = 24) (hnow : ∀ a < n, xs[a]? = some (D.block a))
    (hQ : ∀ σ', Q (.ret (.bool true)) σ') (h : H [Disk dv D, pt b (.cells vs t_a24_sl_uint8 false), Star (owns vs xs)] σ) : s_law05_CacheUnseen_k40 E Q false dv n b σ := by
  unfold s_law05_CacheUnseen_k40
  refine If_f rfl ?_
  refine dcrash0 h hD.ok (by rw [hm]; simp) ?_
  intro σ1 h1
  rw [c0_ret]
  have e := O.crash_still (picks := []) hm
  rw [e] at h1
  have hD1 : DPlain ⟨D.last, [], 0, false⟩ n := ⟨⟨hD.ok.lo, hD.ok.hi, hD.ok.len, by simp⟩, rfl, rfl⟩
  refine un_b4 hD1 hn rfl hxl hvl (fun a ha => ?_) hQ h1
  rw [hnow a ha, O.block_still a hm, O.block_still a rfl]

theorem Un.step {C C' : O.CM} {D D' : DM} {K K' i : Nat} {xs : List (List UInt8)} {vs : List Value} (h : Un n kk C D K i xs vs) (hi : CInv C' D' n) (hc : C'.n = C.n) (hk : K' ≤ K + 2) (hf : D'.fly.length ≤ D.fly.length + 52) (hcon : ∀ x < n, content C' D' x = content C D x) : Un n kk C' D' K' (i + 1) xs vs :=
  ⟨hi, by rw [hc, h.cn], by have := h.k; omega, by have := h.fly; omega, h.xl, h.vl, fun a ha => by rw [h.now a ha, hcon a ha]⟩
theorem Un.up {C : O.CM} {D : DM} {K i j : Nat} {xs : List (List UInt8)} {vs : List Value} (h : Un n kk C D K i xs vs) (hj : i ≤ j) : Un n kk C D K j xs vs :=
  ⟨h.inv, h.cn, by have := h.k; omega, by have := h.fly; omega, h.xl, h.vl, h.now⟩

/-- A row of bytes goes into the array. -/
theorem now_set {w : Value} {k : Nat} {x : List UInt8} {xs : List (List UInt8)} {vs : List Value} {K : AHeap → Prop} (h : H (Own t_uint8 1 w 256 (bv x) :: pt b (.cells vs t_a24_sl_uint8 false) :: Star (owns vs xs) :: m) σ) (hv : k < vs.length) (hx : k < xs.length)
    (hK : ∀ σ', H (pt b (.cells (vs.set k w) t_a24_sl_uint8 false) :: Star (owns (vs.set k w) (xs.set k x)) :: m) σ' → K σ') : pu (aStore 1 (.pointer (some ⟨b, k, none⟩)) w σ) K := by
  refine store1 h 1 rfl (O.own_one h (i := 0) rfl) hv ?_
  intro σ1 h1
  refine hK σ1 ?_
  have h2 : H (Star (owns vs xs) :: pt b (.cells (vs.set k w) t_a24_sl_uint8 false) :: Own t_uint8 1 w 256 (bv x) :: m) σ1 := h1.perm (by
    refine (List.Perm.swap _ _ _).trans ?_
    refine (List.Perm.cons _ (List.Perm.swap _ _ _)).trans ?_
    exact (List.Perm.swap _ _ _).trans (List.Perm.cons _ (List.Perm.refl _)))
  have hv' := List.getElem?_eq_getElem hv
  have hx' := List.getElem?_eq_getElem hx
  have h3 := owns_out h2 hv' hx'
  have h4 : H (Own t_uint8 1 w 256 (bv x) :: Star ((owns vs xs).set k emp) :: pt b (.cells (vs.set k w) t_a24_sl_uint8 false) :: m) σ1 := h3.tail.perm (by
    refine (List.Perm.cons _ (List.Perm.swap _ _ _)).trans ?_
    exact (List.Perm.swap _ _ _))
  exact (owns_in hv hx h4).perm (List.Perm.swap _ _ _)

theorem un_drop {N : Int → AHeap → Prop} {i K : Nat} {C : O.CM} {D : DM} {xs : List (List UInt8)} {vs : List Value} (hi : i < L.length) (hL : L.length ≤ 1048576) (hu : Un n kk C D K i xs vs) (hn : n ≤ 24)
    (h : H (UnA b v dv lv L K C D xs vs) σ) (hN : ∀ τ C D K xs vs, Un n kk C D K (i + 1) xs vs → H (UnA b v dv lv L K C D xs vs) τ → N ((i + 1 : Nat) : Int) τ) :
    E f_cache_Cache_Drop [v] σ (c0 Q fun τ307 =>
      ∃ I396 : Nat → Int → AHeap → Prop, (∃ m, I396 m 0 τ307) ∧
      ∀ m (n310 : Int) (σ' : AHeap), I396 m n310 σ' → (s_law05_CacheUnseen_b3 N (fun n310 σ' => ∃ m', m' < m ∧ I396 m' n310 σ') E Q n kk lv dv v b i n310 σ')) := by
  have hDp := hu.inv.dp
  have hfl := hu.fly
  unfold UnA at h
  refine cdrop h ?_
  intro τ0 h0
  rw [c0_ret]
  let C' : O.CM := { C with its := [] }
  have hC' : CInv C' D n := ⟨⟨hu.inv.ok.lo, hu.inv.ok.hi, by simp [C'], by simp [C'], by simp [C']⟩, hDp, by simp [C']⟩
  have hcon : ∀ a, content C' D a = D.block a := fun a => content_no (by simp [C'])
  refine ⟨fun m k τ => ∃ (j : Nat) (xs' : List (List UInt8)) (vs' : List Value), m = n - j ∧ k = (j : Int) ∧ j ≤ n ∧ xs'.length = n ∧ vs'.length = 24 ∧ (∀ a < j, xs'[a]? = some (D.block a)) ∧ H (UnA b v dv lv L K C' D xs' vs') τ,
    ⟨_, 0, xs, vs, rfl, rfl, by omega, hu.xl, hu.vl, fun a ha => by omega, h0⟩, ?_⟩
  rintro m _ τ ⟨j, xs', vs', rfl, rfl, hj, hx, hv, hb, h1⟩
  unfold s_law05_CacheUnseen_b3
  refine If_dec (fun g => ?_) fun g => ?_
  · have hj' : j < n := by omega
    unfold UnA at h1
    refine dread h1 hDp (by omega) hj' ?_
    intro w τ1 h2
    rw [c2_ret, tI_int, idxAA (by omega), om_some]
    simp only [Int.toNat_natCast, Nat.zero_add, Nat.mul_one]
    refine now_set (h2.pick [0, 3, 4, 1, 2, 5] (by decide)) (by omega) (by omega) ?_
    intro τ2 h3
    refine If_ne (fun g => absurd trivial g) fun _ => ?_
    refine b64 ((j + 1 : Nat) : Int) (by omega) ?_
    refine ⟨_, by omega, j + 1, xs'.set j (D.block j), vs'.set j w, rfl, rfl, by omega, by simpa using hx, by simpa using hv, fun a ha => ?_, h3.pick [3, 2, 0, 1, 4] (by decide)⟩
    by_cases e : j = a
    · subst e; rw [List.getElem?_set_self (by omega)]
    · rw [List.getElem?_set_ne e]; exact hb a (by omega)
  · have : j = n := by omega
    subst this
    refine un_k23 (xs := xs') (vs := vs') hi hL ⟨hC', hu.cn, by have := hu.k; omega, by omega, hx, hv, fun a ha => by rw [hb a ha, hcon]⟩ hn h1 hN

theorem un_b2 {N : Int → AHeap → Prop} {i K : Nat} {C : O.CM} {D : DM} {xs : List (List UInt8)} {vs : List Value} (hi : i ≤ L.length) (hL : L.length ≤ 1048576) (hu : Un n kk C D K i xs vs) (hn : 1 ≤ n ∧ n ≤ 24) (hkk : kk ≤ 12)
    (h : H (UnA b v dv lv L K C D xs vs) σ) (hN : i < L.length → ∀ τ C D K xs vs, Un n kk C D K (i + 1) xs vs → H (UnA b v dv lv L K C D xs vs) τ → N ((i + 1 : Nat) : Int) τ) (hQ : ∀ σ', Q (.ret (.bool true)) σ') :
    s_law05_CacheUnseen_b2 N E Q n kk lv dv v b (i : Int) σ := by
  have hI := hu.inv
  have hDp := hI.dp
  have hfl := hu.fly
  have hK := hu.k
  have hh := h
  unfold UnA at h
  unfold s_law05_CacheUnseen_b2
  obtain ⟨la, lc, hlv⟩ := acts5_form (v := lv) h
  rw [hlv, lenS_slice, ldI_some, ← hlv]
  refine If_dec (fun g => ?_) fun g => ?_
  · have hi' : i < L.length := by omega
    obtain ⟨a, ha⟩ : ∃ a, L[i]? = some a := ⟨_, List.getElem?_eq_getElem hi'⟩
    obtain ⟨ab, e1, e2, e3, e4⟩ := acts5_get (v := lv) h ha
    rw [e1, om_some, fieldAddr_ptr, om_some, e3, ldI_some]
    refine b64 ((n - 1 : Nat) : Int) (by omega) ?_
    refine within5 (lo := 0) (hi := n - 1) (by omega) ?_
    intro at' _ hat
    rw [cI_ret]
    simp only [om_some, fieldAddr_ptr]
    rw [e2, ldI_some]
    refine If_dec (fun g1 => ?_) fun g1 => ?_
    · rw [e4, ldI_some]
      refine block5 (x := a.X) h ?_
      intro w τ1 h1
      rw [cV_ret, idxAA (by omega), om_some]
      simp only [Int.toNat_natCast, Nat.zero_add, Nat.mul_one]
      refine now_set (h1.pick [0, 3, 4, 1, 2, 5] (by decide)) (by have := hu.vl; omega) (by have := hu.xl; omega) ?_
      intro τ2 h2
      rw [om_some, load1 (h2.row 0 rfl), List.getElem?_set_self (by have := hu.vl; omega), om_some]
      have h3 : H (Star (owns (vs.set at' w) (xs.set at' (O.blk5 a.X 256))) :: [CacheA v dv K C, Disk dv D, pt b (.cells (vs.set at' w) t_a24_sl_uint8 false), Acts5 lv L]) τ2 := h2.pick [1, 2, 3, 0, 4] (by decide)
      have hv2 : (vs.set at' w)[at']? = some w := List.getElem?_set_self (by have := hu.vl; omega)
      have hx2 : (xs.set at' (O.blk5 a.X 256))[at']? = some (O.blk5 a.X 256) := List.getElem?_set_self (by have := hu.xl; omega)
      have h4 := owns_out h3 hv2 hx2
      refine cput h4 hI (by omega) (O.blk5_len _ _) (by omega) (by omega) ?_
      intro τ3 C' D' hI' hcn hcon hf _ _ _ h5
      rw [cI_ret]
      refine If_ne (fun g => absurd rfl g) fun _ => ?_
      have h6 : H (Own t_uint8 1 w 256 (bv (O.blk5 a.X 256)) :: Star ((owns (vs.set at' w) (xs.set at' (O.blk5 a.X 256))).set at' emp) :: [CacheA v dv (K + 2) C', Disk dv D', pt b (.cells (vs.set at' w) t_a24_sl_uint8 false), Acts5 lv L]) τ3 := h5.to
      have h7 := owns_in (by have := hu.vl; simp; omega) (by have := hu.xl; simp; omega) h6
      rw [List.set_set, List.set_set] at h7
      refine un_k23 hi' hL ⟨hI', by rw [hcn, hu.cn], by omega, by omega, by simpa using hu.xl, by simpa using hu.vl, fun x hx => ?_⟩ hn.2 (h7.pick [1, 2, 3, 0, 4] (by decide)) (hN hi')
      rw [hcon x hx]
      by_cases e : at' = x
      · subst e; rw [List.getElem?_set_self (by have := hu.xl; omega), if_pos rfl]
      · rw [List.getElem?_set_ne e, if_neg (fun e' => e e'.symm)]; exact hu.now x hx
    · refine If_dec (fun g2 => ?_) fun g2 => ?_
      · refine cget h hI (by omega) (by omega) (by omega) ?_
        intro w τ1 C' D' hI' hcn hcon hf _ _ h1
        rw [c2_ret, tI_int]
        refine If_ne (fun g => absurd rfl g) fun _ => ?_
        rw [conv_str (w := w) h1, ldS_some, idxAA (by omega), om_some]
        obtain ⟨va, hvi⟩ : ∃ va, vs[at']? = some va := ⟨_, List.getElem?_eq_getElem (by have := hu.vl; omega)⟩
        have h2 : H (Star (owns vs xs) :: [Own t_uint8 1 w 256 (bv (content C D at')), CacheA v dv (K + 2) C', Disk dv D', pt b (.cells vs t_a24_sl_uint8 false), Acts5 lv L]) τ1 := h1.pick [4, 0, 1, 2, 3, 5] (by decide)
        have h3 := owns_out h2 hvi (hu.now at' (by omega))
        rw [load1 (h1.row 3 rfl)]
        simp only [Int.toNat_natCast, Nat.zero_add, Nat.mul_one]
        rw [hvi, om_some, conv_str (w := va) h3, ldS_some, bne_str, ldB_some]
        unfold s_law05_CacheUnseen_k28
        refine If_f (by simp) ?_
        exact un_k23 hi' hL (hu.step hI' hcn (by omega) (by omega) hcon) hn.2 (h1.pick [1, 2, 3, 4, 5] (by decide)) (hN hi')
      · refine If_dec (fun g3 => ?_) fun g3 => ?_
        · refine cflush h hI (by omega) ?_
          intro zs τ1 hzp _ hI' hcon _ hf h1
          rw [cI_ret]
          refine If_ne (fun g => absurd rfl g) fun _ => ?_
          have hz := hzp.length_eq
          have hd := dirty_le C
          have hCl := hI.ok.len
          have hcn := hu.cn
          refine cdirty h1 hI'.ok (by omega) ?_
          intro w zs2 τ2 hz2 _ h2
          rw [cV_ret]
          obtain ⟨wa, wc, hw⟩ := ((h2.atv w).own_src 0 rfl).2.2
          rw [hw, lenS_slice, ldI_some]
          have e0 : zs2 = [] := by
            have : (List.map cleanI C.its).filter (·.dirty) = [] := by
              rw [List.filter_eq_nil_iff]
              intro x hx
              obtain ⟨y, _, rfl⟩ := List.mem_map.1 hx
              simp [cleanI]
            rw [this] at hz2
            exact List.perm_nil.1 hz2
          unfold s_law05_CacheUnseen_k30
          refine If_f (by rw [e0]; rfl) ?_
          exact un_k23 hi' hL (hu.step hI' rfl (by omega) (by omega) hcon) hn.2 (h2.pick [1, 2, 3, 4, 5] (by decide)) (hN hi')
        · refine If_dec (fun g4 => ?_) fun g4 => ?_
          · exact un_drop hi' hL hu hn.2 h (hN hi')
          · exact un_k23 hi' hL (hu.up (by omega)) hn.2 hh (hN hi')
  · have hCl := hI.ok.len
    have hcn := hu.cn
    refine cflush h hI (by omega) ?_
    intro zs τ1 hzp _ hI' hcon hbl hf h1
    rw [cI_ret]
    refine If_ne (fun g => absurd rfl g) fun _ => ?_
    have hz := hzp.length_eq
    have hd := dirty_le C
    refine dbarrier h1 hI'.dp (by omega) ?_
    intro τ2 h2
    rw [cI_ret]
    have hDl := O.land_plain hI'.dp
    refine un_k40 hDl hn.2 rfl hu.xl hu.vl (fun a ha => ?_) hQ (h2.pick [0, 2, 3] (by decide))
    rw [hu.now a ha, O.land_block hI'.dp.ok ha, hbl a ha]

theorem cacheUnseen_ev {x0 x1 : Int} {x2 : Value} {L : List Act5} (hL : L.length ≤ 1048576) (h : H [Acts5 x2 L] σ) : E f_law05_CacheUnseen [.int .i64 x0, .int .i64 x1, x2] σ fun r _ => r = .ret (.bool true) := by
  apply e_law05_CacheUnseen; unfold s_law05_CacheUnseen
  refine within5 (lo := 1) (hi := 24) (by omega) ?_
  intro n hn1 hn2
  rw [cI_ret]
  refine within5 (lo := 1) (hi := 12) (by omega) ?_
  intro kk hk1 hk2
  rw [cI_ret]
  refine dnew (n := n) h (by omega) ?_
  intro dv σ1 h1
  rw [c2_ret, tI_int]
  refine If_ne (fun g => absurd rfl g) fun _ => ?_
  refine cnew (k := kk) h1 (new_plain (by omega)).ok (by omega) ?_
  intro v σ2 h2
  rw [c2_ret, tI_int]
  refine If_ne (fun g => absurd rfl g) fun _ => ?_
  refine nw h2 ?_
  intro b σ3 h3
  have hI : CInv ⟨kk, []⟩ (.new n) n := cinv_new (by omega) (by omega)
  refine ⟨fun m k τ => ∃ (i : Nat) (vs : List Value), m = n - i ∧ k = (i : Int) ∧ i ≤ n ∧ vs.length = 24 ∧ H [pt b (.cells vs t_a24_sl_uint8 false), Star (owns vs (List.replicate i (List.replicate 256 0))), CacheA v dv 0 ⟨kk, []⟩, Disk dv (.new n), Acts5 x2 L] τ,
    ⟨_, 0, List.replicate 24 (.slice none 0 0), rfl, rfl, by omega, rfl, ?_⟩, ?_⟩
  · have h4 : H (Star [] :: [pt b _, CacheA v dv 0 ⟨kk, []⟩, Disk dv (.new n), Acts5 x2 L]) σ3 := H_star.2 h3
    exact h4.perm (.swap _ _ _)
  rintro m _ τ ⟨i, vs, rfl, rfl, hi, hvl, h4⟩
  unfold s_law05_CacheUnseen_b1
  refine If_dec (fun g => ?_) fun g => ?_
  · refine mkb (n := 256) h4 (by omega) ?_
    intro wb τ1 h5
    rw [idxAA (by omega), om_some]
    simp only [Int.toNat_natCast, Nat.zero_add, Nat.mul_one]
    refine store1 h5 1 rfl rfl (by omega) ?_
    intro τ2 h6
    refine b64 ((i + 1 : Nat) : Int) (by omega) ?_
    refine ⟨_, by omega, i + 1, vs.set i (.slice (some ⟨wb, 0, none⟩) 256 256), rfl, rfl, by omega, by simpa using hvl, ?_⟩
    have e : owns (vs.set i (.slice (some ⟨wb, 0, none⟩) 256 256)) (List.replicate (i + 1) (List.replicate 256 0)) = owns vs (List.replicate i (List.replicate 256 0)) ++ [Own t_uint8 1 (.slice (some ⟨wb, 0, none⟩) 256 256) 256 (bv (List.replicate 256 0))] := by
      rw [List.replicate_succ']
      have := owns_snoc vs (List.replicate i (List.replicate 256 0)) (List.replicate 256 0) (.slice (some ⟨wb, 0, none⟩) 256 256) (by simp; omega)
      rw [List.length_replicate] at this
      exact this
    rw [e]
    have h7 : H (Star (owns vs (List.replicate i (List.replicate 256 0))) :: [Own t_uint8 1 (.slice (some ⟨wb, 0, none⟩) 256 256) 256 (bv (List.replicate 256 0)), pt b (.cells (vs.set i (.slice (some ⟨wb, 0, none⟩) 256 256)) t_a24_sl_uint8 false), CacheA v dv 0 ⟨kk, []⟩, Disk dv (.new n), Acts5 x2 L]) τ2 := h6.pick [2, 0, 1, 3, 4, 5] (by decide)
    have h8 : H ((owns vs (List.replicate i (List.replicate 256 0)) ++ [Own t_uint8 1 (.slice (some ⟨wb, 0, none⟩) 256 256) 256 (bv (List.replicate 256 0))]) ++ [pt b (.cells (vs.set i (.slice (some ⟨wb, 0, none⟩) 256 256)) t_a24_sl_uint8 false), CacheA v dv 0 ⟨kk, []⟩, Disk dv (.new n), Acts5 x2 L]) τ2 := by simpa using H_star.1 h7
    exact (H_star.2 h8).perm (.swap _ _ _)
  · have : i = n := by omega
    subst this
    have hu : Un i kk ⟨kk, []⟩ (.new i) 0 0 (List.replicate i (List.replicate 256 0)) vs := ⟨hI, rfl, by omega, by simp [DM.new], by simp, hvl, fun a ha => by
      rw [List.getElem?_replicate, if_pos ha, content_no (by simp), O.block_new ha]⟩
    refine ⟨fun m k τ => ∃ (j : Nat) (C : O.CM) (D : DM) (K : Nat) (xs : List (List UInt8)) (vs : List Value), m = L.length - j ∧ k = (j : Int) ∧ j ≤ L.length ∧ Un i kk C D K j xs vs ∧ H (UnA b v dv x2 L K C D xs vs) τ,
      ⟨_, 0, _, _, _, _, _, rfl, rfl, by omega, hu, h4.pick [2, 3, 0, 1, 4] (by decide)⟩, ?_⟩
    rintro m _ τ' ⟨j, C, D, K, xs, vs', rfl, rfl, hj, hu', h5⟩
    refine un_b2 hj hL hu' (by omega) hk2 h5 ?_ (fun _ => rfl)
    intro hjl τ2 C2 D2 K2 xs2 vs2 hu2 h6
    exact ⟨_, by omega, j + 1, C2, D2, K2, xs2, vs2, rfl, rfl, by omega, hu2, h6⟩
end Go.Ax.C
set_option linter.unusedVariables false
set_option maxRecDepth 100000
namespace Go.Ax.C
open Go.Proofs
def s_law05_CacheWrites_k21 (N1 : Int → AHeap → Prop) (E : EvT) (Q : RK) (n175 n177 : Int) (v178 v179 : Value) (b180 : Nat) (τ174 : AHeap) : Prop :=
 Bi (w64 (n175 + 1)) fun n176 =>
 N1 n176 τ174
def s_law05_CacheWrites_k17 (N1 : Int → AHeap → Prop) (E : EvT) (Q : RK) (v137 : Value) (n138 : Int) (v144 : Value) (n147 n157 : Int) (v161 : Value) (b167 : Nat) (τ135 : AHeap) : Prop :=
 om (aIndexAddr 4 v137 (.int .i64 n138)) fun v139 =>
 om (aFieldAddr 0 v139) fun v140 =>
 ldI .i64 (aLoad false 1 v140 τ135) fun n141 =>
 If (decide (n141 = 1)) (
 E f_cache_Cache_Get [v144, (.int .i64 n147)] τ135 (c2 Q fun v150 v151 τ149 =>
 tI .i64 (fun n152 =>
 If (!decide (n152 = 0)) (
 Q (.ret (.bool false)) τ149) (
 (s_law05_CacheWrites_k21 N1 E Q n138 n157 v161 v144 b167 τ149))) v151)) (
 (s_law05_CacheWrites_k21 N1 E Q n138 n157 v161 v144 b167 τ135))
def s_law05_CacheWrites_k28 (N2 : Value → Int → AHeap → Prop) (E : EvT) (Q : RK) (n222 : Int) (v227 v231 v232 : Value) (τ221 : AHeap) : Prop :=
 Bi (w64 (n222 + 1)) fun n223 =>
 N2 v232 n223 τ221
def s_law05_CacheWrites_k40 (N3 : Int → AHeap → Prop) (E : EvT) (Q : RK) (c314 : Bool) (n315 : Int) (τ313 : AHeap) : Prop :=
 If c314 (
 Q (.ret (.bool false)) τ313) (
 Bi (w64 (n315 + 1)) fun n318 =>
 N3 n318 τ313)
def s_law05_CacheWrites_k38 (N3 : Int → AHeap → Prop) (E : EvT) (Q : RK) (c296 : Bool) (n298 : Int) (v303 v308 : Value) (τ295 : AHeap) : Prop :=
 If c296 (
 Q (.ret (.bool false)) τ295) (
 If (decide (n298 = 0)) (
 om (aSlice 1 v303 none (some (.int .i64 128)) none) fun v305 =>
 ldS (aConv P t_sl_uint8 t_string v305 τ295) fun s306 =>
 om (aSlice 1 v308 none (some (.int .i64 128)) none) fun v310 =>
 ldS (aConv P t_sl_uint8 t_string v310 τ295) fun s311 =>
 ldB (aBin (some .string) .neq (.string s306) (.string s311)) fun c312 =>
 If c312 (
 isSkip skipV = true ∧
 (s_law05_CacheWrites_k40 N3 E Q true n298 τ295)) (
 If (decide (0 < n298)) (
 ldS (aConv P t_sl_uint8 t_string v303 τ295) fun s319 =>
 pu (aMake t_uint8 1 [(.int .u8 0)] (.int .i64 256) (.int .i64 256) τ295) fun r320 =>
 ldS (aConv P t_sl_uint8 t_string v303 r320.2) fun s321 =>
 veq1 (.string s321) (.string s319) = true ∧
 ldS (aConv P t_sl_uint8 t_string r320.1 r320.2) fun s322 =>
 ldB (aBin (some .string) .neq (.string s319) (.string s322)) fun c323 =>
 (s_law05_CacheWrites_k40 N3 E Q c323 n298 r320.2)) (
 (s_law05_CacheWrites_k40 N3 E Q false n298 τ295)))) (
 If (decide (0 < n298)) (
 ldS (aConv P t_sl_uint8 t_string v303 τ295) fun s324 =>
 pu (aMake t_uint8 1 [(.int .u8 0)] (.int .i64 256) (.int .i64 256) τ295) fun r325 =>
 ldS (aConv P t_sl_uint8 t_string v303 r325.2) fun s326 =>
 veq1 (.string s326) (.string s324) = true ∧
 ldS (aConv P t_sl_uint8 t_string r325.1 r325.2) fun s327 =>
 ldB (aBin (some .string) .neq (.string s324) (.string s327)) fun c328 =>
 (s_law05_CacheWrites_k40 N3 E Q c328 n298 r325.2)) (
 (s_law05_CacheWrites_k40 N3 E Q false n298 τ295))))
def s_law05_CacheWrites_b3 (N3 : Int → AHeap → Prop) (E : EvT) (Q : RK) (v250 v256 v262 : Value) (n247 : Int) (τ263 : AHeap) : Prop :=
 ldI .i64 (lenS v262) fun n264 =>
 If (decide (n247 < n264)) (
 om (aIndexAddr 1 v262 (.int .i64 n247)) fun v274 =>
 ldI .i64 (aLoad false 1 v274 τ263) fun n275 =>
 E f_disk_Disk_Read [v250, (.int .i64 n275)] τ263 (c2 Q fun v277 v278 τ276 =>
 tI .i64 (fun n279 =>
 om (aIndexAddr 1 v262 (.int .i64 n247)) fun v286 =>
 ldI .i64 (aLoad false 1 v286 τ276) fun n287 =>
 E f_cache_Cache_Get [v256, (.int .i64 n287)] τ276 (c2 Q fun v289 v290 τ288 =>
 tI .i64 (fun n291 =>
 If (!decide (n279 = 0)) (
 (s_law05_CacheWrites_k38 N3 E Q true n247 v277 v289 τ288)) (
 (s_law05_CacheWrites_k38 N3 E Q (!decide (n291 = 0)) n247 v277 v289 τ288))) v290)) v278)) (
 E f_law05_wakes [] τ263 (cB Q fun c332 τ331 =>
 Q (.ret (.bool c332)) τ331))
def s_law05_CacheWrites_k30 (E : EvT) (Q : RK) (c238 : Bool) (v240 v252 v258 : Value) (τ237 : AHeap) : Prop :=
 If c238 (
 Q (.ret (.bool false)) τ237) (
 wNew τ237 (.cells [(.int .u8 1), (.int .u8 1)] t_uint8 false) fun b242 τ243 =>
 E f_disk_Disk_Crash [v240, (.slice (some ⟨b242, 0, none⟩) 2 2)] τ243 (c0 Q fun τ244 =>
 ∃ I333 : Nat → Int → AHeap → Prop, (∃ m, I333 m 0 τ244) ∧
 ∀ m (n247 : Int) (σ' : AHeap), I333 m n247 σ' → (s_law05_CacheWrites_b3 (fun n247 σ' => ∃ m', m' < m ∧ I333 m' n247 σ') E Q v240 v252 v258 n247 σ')))
def s_law05_CacheWrites_b2 (N2 : Value → Int → AHeap → Prop) (E : EvT) (Q : RK) (n189 : Int) (v193 v197 : Value) (b201 : Nat) (v184 : Value) (n185 : Int) (τ202 : AHeap) : Prop :=
 If (decide (n185 < n189)) (
 om (aIndexAddrArr 20 1 (.pointer (some ⟨b201, 0, none⟩)) (.int .i64 n185)) fun v210 =>
 ldB (aLoad false 1 v210 τ202) fun c211 =>
 If c211 (
 wNew τ202 (.cells [(.int .i64 n185)] t_int false) fun b218 τ219 =>
 pu (aAppend t_int 1 8 v184 (.slice (some ⟨b218, 0, none⟩) 1 1) τ219) fun r220 =>
 (s_law05_CacheWrites_k28 N2 E Q n185 v193 v197 r220.1 r220.2)) (
 (s_law05_CacheWrites_k28 N2 E Q n185 v193 v197 v184 τ202))) (
 E f_disk_Disk_Flight [v193] τ202 (cI Q .i64 fun n236 τ235 =>
 If (!decide (n236 = 0)) (
 (s_law05_CacheWrites_k30 E Q true v193 v197 v184 τ235)) (
 E f_cache_Cache_Dirty [v197] τ235 (cV Q fun v336 τ335 =>
 E f_law05_same [v336, v184] τ335 (cB Q fun c338 τ337 =>
 If (!c338) (
 (s_law05_CacheWrites_k30 E Q true v193 v197 v184 τ337)) (
 E f_cache_Cache_Flush [v197] τ337 (cI Q .i64 fun n340 τ339 =>
 If (!decide (n340 = 0)) (
 (s_law05_CacheWrites_k30 E Q true v193 v197 v184 τ339)) (
 E f_disk_Disk_Flight [v193] τ339 (cI Q .i64 fun n342 τ341 =>
 ldI .i64 (lenS v184) fun n343 =>
 Bi (w64 (4 * n343)) fun n344 =>
 If (!decide (n342 = n344)) (
 (s_law05_CacheWrites_k30 E Q true v193 v197 v184 τ341)) (
 E f_cache_Cache_Flush [v197] τ341 (cI Q .i64 fun n346 τ345 =>
 If (!decide (n346 = 0)) (
 (s_law05_CacheWrites_k30 E Q true v193 v197 v184 τ345)) (
 E f_disk_Disk_Flight [v193] τ345 (cI Q .i64 fun n348 τ347 =>
 ldI .i64 (lenS v184) fun n349 =>
 Bi (w64 (4 * n349)) fun n350 =>
 (s_law05_CacheWrites_k30 E Q (!decide (n348 = n350)) v193 v197 v184 τ347))))))))))))))
def s_law05_CacheWrites_b1 (N1 : Int → AHeap → Prop) (E : EvT) (Q : RK) (n41 : Int) (v52 v58 v64 : Value) (b67 : Nat) (n35 : Int) (τ68 : AHeap) : Prop :=
 ldI .i64 (lenS v52) fun n69 =>
 If (decide (n35 < n69)) (
 om (aIndexAddr 4 v52 (.int .i64 n35)) fun v77 =>
 om (aFieldAddr 1 v77) fun v78 =>
 ldI .i64 (aLoad false 1 v78 τ68) fun n79 =>
 Bi (w64 (n41 - 1)) fun n82 =>
 E f_law05_within [(.int .i64 n79), (.int .i64 0), (.int .i64 n82)] τ68 (cI Q .i64 fun n84 τ83 =>
 om (aIndexAddr 4 v52 (.int .i64 n35)) fun v88 =>
 om (aFieldAddr 0 v88) fun v89 =>
 ldI .i64 (aLoad false 1 v89 τ83) fun n90 =>
 If (decide (n90 = 0)) (
 om (aIndexAddrArr 20 1 (.pointer (some ⟨b67, 0, none⟩)) (.int .i64 n84)) fun v99 =>
 pu (aStore 1 v99 (.bool true) τ83) fun τ100 =>
 om (aIndexAddr 4 v52 (.int .i64 n35)) fun v112 =>
 om (aFieldAddr 2 v112) fun v113 =>
 ldI .u8 (aLoad false 1 v113 τ100) fun n114 =>
 E f_law05_block [(.int .u8 n114)] τ100 (cV Q fun v116 τ115 =>
 E f_cache_Cache_Put [v64, (.int .i64 n84), v116] τ115 (cI Q .i64 fun n118 τ117 =>
 If (!decide (n118 = 0)) (
 Q (.ret (.bool false)) τ117) (
 (s_law05_CacheWrites_k17 N1 E Q v52 n35 v64 n84 n41 v58 b67 τ117))))) (
 (s_law05_CacheWrites_k17 N1 E Q v52 n35 v64 n84 n41 v58 b67 τ83)))) (
 ∃ I351 : Nat → Value → Int → AHeap → Prop, (∃ m, I351 m (.slice none 0 0) 0 τ68) ∧
 ∀ m (v184 : Value) (n185 : Int) (σ' : AHeap), I351 m v184 n185 σ' → (s_law05_CacheWrites_b2 (fun v184 n185 σ' => ∃ m', m' < m ∧ I351 m' v184 n185 σ') E Q n41 v58 v64 b67 v184 n185 σ'))
/-- cistern/cisternlaw05.CacheWrites -/
def s_law05_CacheWrites (E : EvT) (Q : RK) (x0 : Int) (x1 : Value) (σ : AHeap) : Prop :=
 E f_law05_within [(.int .i64 x0), (.int .i64 1), (.int .i64 20)] σ (cI Q .i64 fun n4 τ3 =>
 E f_disk_New [(.int .i64 n4)] τ3 (c2 Q fun v8 v9 τ7 =>
 tI .i64 (fun n10 =>
 If (!decide (n10 = 0)) (
 Q (.ret (.bool false)) τ7) (
 E f_cache_New [v8, (.int .i64 n4)] τ7 (c2 Q fun v23 v24 τ22 =>
 tI .i64 (fun n25 =>
 If (!decide (n25 = 0)) (
 Q (.ret (.bool false)) τ22) (
 wNew τ22 (.cells [(.bool false), (.bool false), (.bool false), (.bool false), (.bool false), (.bool false), (.bool false), (.bool false), (.bool false), (.bool false), (.bool false), (.bool false), (.bool false), (.bool false), (.bool false), (.bool false), (.bool false), (.bool false), (.bool false), (.bool false)] t_a20_bool false) fun b31 τ32 =>
 ∃ I353 : Nat → Int → AHeap → Prop, (∃ m, I353 m 0 τ32) ∧
 ∀ m (n35 : Int) (σ' : AHeap), I353 m n35 σ' → (s_law05_CacheWrites_b1 (fun n35 σ' => ∃ m', m' < m ∧ I353 m' n35 σ') E Q n4 x1 v8 v23 b31 n35 σ'))) v24))) v9))
theorem q_law05_CacheWrites (E : EvT) (Q : RK) (x0 : Int) (x1 : Value) (σ : AHeap) : xfn P E Try.f8 (hl [(3, .loopr [0, 1, 5, 7, 9] [10] [0, 4, 5, 7, 9] [0, 4, 5, 7, 9, 10]), (11, .loopr [0, 5, 7, 9] [14, 15] [5, 7, 14] [5, 7, 14, 15]), (17, .loopr [5, 7, 14] [16] [4] [4, 16]), (21, .ord [(0, []), (1, []), (2, []), (3, []), (4, []), (5, []), (6, []), (7, []), (8, []), (9, []), (10, []), (11, []), (12, []), (13, []), (14, []), (15, []), (16, []), (17, [16]), (18, []), (19, []), (20, []), (21, [])])]) (fun | 10 => (.i .i64) | 15 => (.i .i64) | 16 => (.i .i64) | _ => .v) [(.int .i64 x0), x1] σ Q = s_law05_CacheWrites E Q x0 x1 σ := by kernel_rfl
theorem e_law05_CacheWrites {Q : RK} {x0 : Int} {x1 : Value} {σ : AHeap} (h : s_law05_CacheWrites E Q x0 x1 σ) : E f_law05_CacheWrites [(.int .i64 x0), x1] σ Q :=
  exfn Try.func8 _ _ (by kernel_rfl) (Eq.mpr (q_law05_CacheWrites E Q x0 x1 σ) h)

end Go.Ax.C
set_option maxRecDepth 100000
namespace Go.Ax.C
open Go.Proofs Go.RowKit
open O (CacheA Disk It DPlain)

variable {l r r2 m : List Assn} {σ : AHeap} {Q : RK}

/-! ### Plain -/
theorem nodup_len : ∀ (n : Nat) (l : List Nat), l.Nodup → (∀ x ∈ l, x < n) → l.length ≤ n
  | 0, [], _, _ => by simp
  | 0, x :: l, _, h => by have := h x (by simp); omega
  | n + 1, l, hn, h => by
    have h1 : (l.erase n).Nodup := hn.erase n
    have h2 := nodup_len n (l.erase n) h1 fun x hx => by
      have h3 := (List.Nodup.mem_erase_iff hn).1 hx
      have := h x h3.2
      have := h3.1
      omega
    rw [List.length_erase] at h2
    split at h2 <;> omega
theorem full_mem {n a : Nat} {C : O.CM} (h : C.Ok n) (hc : n ≤ C.its.length) (ha : a < n) : ∃ y ∈ C.its, y.pl = a := by
  apply Classical.byContradiction
  intro hno
  have h1 := nodup_len n (a :: C.its.map (·.pl)) (by
    rw [List.nodup_cons]
    refine ⟨fun hm => ?_, h.nd⟩
    obtain ⟨y, hy, e⟩ := List.mem_map.1 hm
    exact hno ⟨y, hy, e⟩) (fun x hx => by
      rcases List.mem_cons.1 hx with rfl | hx
      · exact ha
      · obtain ⟨y, hy, rfl⟩ := List.mem_map.1 hx
        exact (h.it y hy).1)
  simp at h1; omega

/-- Places that are dirty, by rising places. -/
def wantsN (ds : List Bool) (k : Nat) : List Nat := (List.range k).filter fun a => decide (ds[a]? = some true)
def wants (ds : List Bool) (k : Nat) : List Int := (wantsN ds k).map fun a : Nat => (a : Int)
theorem wants_snoc (ds : List Bool) (k : Nat) : wants ds (k + 1) = wants ds k ++ if ds[k]? = some true then [(k : Int)] else [] := by
  unfold wants wantsN
  rw [List.range_succ, List.filter_append, List.map_append]
  congr 1
  by_cases h : ds[k]? = some true <;> simp [h]
theorem wants_le (ds : List Bool) (k : Nat) : (wants ds k).length ≤ k := by
  unfold wants wantsN
  rw [List.length_map]
  have := List.length_filter_le (fun a => decide (ds[a]? = some true)) (List.range k)
  simpa using this
theorem wants_lt (ds : List Bool) (k : Nat) : (wants ds k).Pairwise (· < ·) := by
  unfold wants wantsN
  rw [List.pairwise_map]
  exact (List.pairwise_lt_range.filter _).imp fun h => by omega
theorem wants_mem {ds : List Bool} {k : Nat} {z : Int} (h : z ∈ wants ds k) : ∃ a : Nat, z = a ∧ a < k ∧ ds[a]? = some true := by
  unfold wants wantsN at h
  obtain ⟨a, ha, rfl⟩ := List.mem_map.1 h
  have := List.mem_filter.1 ha
  exact ⟨a, rfl, by simpa using this.1, by simpa using this.2⟩
theorem wants_eq {ds : List Bool} {n : Nat} {C : O.CM} {zs : List Int} (hC : C.Ok n) (hd : ∀ a < n, (ds[a]? = some true ↔ ∃ y ∈ C.its, y.pl = a ∧ y.dirty = true))
    (hp : zs.Perm ((C.its.filter (·.dirty)).map fun x => (x.pl : Int))) (hs : zs.Pairwise (· ≤ ·)) : zs = wants ds n := by
  have hnd : ((C.its.filter (·.dirty)).map fun x => (x.pl : Int)).Nodup := by
    have h6 : ((C.its.filter (·.dirty)).map fun x => (x.pl : Int)).Sublist ((C.its.map (·.pl)).map fun y : Nat => (y : Int)) := by
      rw [List.map_map]; exact List.filter_sublist.map _
    refine h6.nodup ?_
    have := hC.nd
    rw [List.nodup_iff_pairwise_ne] at this ⊢
    rw [List.pairwise_map]
    exact this.imp fun h e => h (by omega)
  have hwn : (wants ds n).Nodup := by
    rw [List.nodup_iff_pairwise_ne]; exact (wants_lt ds n).imp fun h => by omega
  have hp2 : ((C.its.filter (·.dirty)).map fun x => (x.pl : Int)).Perm (wants ds n) := by
    rw [List.perm_ext_iff_of_nodup hnd hwn]
    intro z
    constructor
    · intro h
      obtain ⟨y, hy, rfl⟩ := List.mem_map.1 h
      have hy := List.mem_filter.1 hy
      have hlt := (hC.it y hy.1).1
      refine List.mem_map.2 ⟨y.pl, List.mem_filter.2 ⟨List.mem_range.2 hlt, ?_⟩, rfl⟩
      simpa using (hd y.pl hlt).2 ⟨y, hy.1, rfl, hy.2⟩
    · intro h
      obtain ⟨a, rfl, ha, hda⟩ := wants_mem h
      obtain ⟨y, hy, rfl, hyd⟩ := (hd a ha).1 hda
      exact List.mem_map.2 ⟨y, List.mem_filter.2 ⟨hy, hyd⟩, rfl⟩
  refine (hp.trans hp2).eq_of_pairwise (le := (· ≤ ·)) (fun a b _ _ h1 h2 => by omega) hs ((wants_lt ds n).imp fun h => by omega)

/-! ### A crash that lays two sectors -/
theorem flings_last (b : Nat → List UInt8) : ∀ (zs : List Int) (D : DM), (flings b D zs).last = D.last ∧ ∃ rest, (flings b D zs).fly = D.fly ++ rest
  | [], D => ⟨rfl, [], by simp [flings]⟩
  | z :: zs, D => by
    obtain ⟨h1, rest, h2⟩ := flings_last b zs (D.fling z.toNat (b z.toNat))
    refine ⟨h1, parts z.toNat (b z.toNat) ++ rest, ?_⟩
    show (flings b (D.fling z.toNat (b z.toNat)) zs).fly = _
    rw [h2]; simp [DM.fling]
theorem crashed_none : ∀ (fs : List Flight) (l : List UInt8) (k : Nat), 2 ≤ k → crashed [1, 1] l k fs = l
  | [], l, k, _ => rfl
  | f :: fs, l, k, h => by
    have e : cutOf [1, 1] k = 0 := by
      unfold cutOf
      rw [List.getElem?_eq_none (by simpa using h)]
    simp only [crashed, e, List.take_zero, put_nil]
    exact crashed_none fs l (k + 1) (by omega)
theorem crash_two {n z : Nat} {b : List UInt8} {D : DM} {rest : List Flight} (hn : 1 ≤ n ∧ n ≤ 1024) (hz : z < n) (hb : b.length = 256) (hl : D.last = (DM.new n).last) (hf : D.fly = parts z b ++ rest) :
    DPlain (D.crash [1, 1]) n ∧ (D.crash [1, 1]).fly = [] ∧ (∀ a < n, a ≠ z → (D.crash [1, 1]).block a = List.replicate 256 0) ∧ ((D.crash [1, 1]).block z).take 128 = b.take 128 := by
  let f0 : Flight := (z * 256, (b.drop 0).take 64)
  let f1 : Flight := (z * 256 + 64, (b.drop 64).take 64)
  have e : D.crash [1, 1] = ⟨put (put (DM.new n).last f0.1 f0.2) f1.1 f1.2, [], 0, false⟩ := by
    unfold DM.crash
    rw [hf, hl]
    show (⟨crashed [1, 1] _ 0 (f0 :: f1 :: _ :: _ :: rest), [], 0, false⟩ : DM) = _
    rw [crashed, crashed, crashed_none _ _ _ (by omega)]
    have c0 : cutOf [1, 1] 0 = 64 := rfl
    have c1 : cutOf [1, 1] (0 + 1) = 64 := rfl
    rw [c0, c1]
    have t0 : f0.2.take 64 = f0.2 := List.take_of_length_le (by simp [f0]; omega)
    have t1 : f1.2.take 64 = f1.2 := List.take_of_length_le (by simp [f1]; omega)
    rw [t0, t1]
  have g0 : FlyOk n f0 := ⟨by simp [f0]; omega, by simp [f0]; omega, by simp [f0]; omega⟩
  have g1 : FlyOk n f1 := ⟨by simp [f1]; omega, by simp [f1]; omega, by simp [f1]; omega⟩
  have hlen0 : (DM.new n).last.length = 256 * n := by simp [DM.new]
  have hlen1 : (put (DM.new n).last f0.1 f0.2).length = 256 * n := by rw [put_length _ _ _ (by rw [g0.len, hlen0]; exact g0.fit), hlen0]
  have hlen2 : (put (put (DM.new n).last f0.1 f0.2) f1.1 f1.2).length = 256 * n := by rw [put_length _ _ _ (by rw [g1.len, hlen1]; exact g1.fit), hlen1]
  have hw0 : ∀ a < n, ((DM.new n).last.drop (a * 256)).take 256 = List.replicate 256 0 := fun a ha => by
    have := O.block_new ha
    rwa [O.block_still _ (by rfl)] at this
  have hblk : ∀ a < n, (D.crash [1, 1]).block a = (((put (put (DM.new n).last f0.1 f0.2) f1.1 f1.2).drop (a * 256)).take 256) := fun a ha => by
    rw [e, O.block_still _ (by rfl)]
  refine ⟨?_, by rw [e], fun a ha hne => ?_, ?_⟩
  · rw [e]; exact ⟨⟨hn.1, hn.2, hlen2, by simp⟩, rfl, rfl⟩
  · rw [hblk a ha, O.put_window hlen1 g1 ha, if_neg (by simp only [f1]; omega), O.put_window hlen0 g0 ha, if_neg (by simp only [f0]; omega), hw0 a ha]
  · rw [hblk z hz, O.put_window hlen1 g1 hz, if_pos (by simp only [f1]; omega), O.put_window hlen0 g0 hz, if_pos (by simp only [f0]; omega), hw0 z hz]
    have p0 : f0.1 - z * 256 = 0 := by simp [f0]
    have p1 : f1.1 - z * 256 = 64 := by simp [f1]
    rw [p0, p1]
    have l0 : f0.2.length = 64 := g0.len
    have l1 : f1.2.length = 64 := g1.len
    have hp : (put (List.replicate 256 (0 : UInt8)) 0 f0.2).length = 256 := by rw [put_length _ _ _ (by simp; omega)]; simp
    apply List.ext_getElem?
    intro i
    rw [List.getElem?_take, List.getElem?_take]
    by_cases hi : i < 128
    · rw [if_pos hi, if_pos hi, O.put_get _ _ _ (by omega), O.put_get _ _ _ (by simp; omega), l0, l1]
      by_cases h1 : 64 ≤ i ∧ i < 64 + 64
      · rw [if_pos h1]
        simp only [f1]
        rw [List.getElem?_take, if_pos (by omega), List.getElem?_drop]; congr 1; omega
      · rw [if_neg h1, if_pos (by omega)]
        simp only [f0]
        rw [List.getElem?_take, if_pos (by omega), List.getElem?_drop]; congr 1; omega
    · rw [if_neg hi, if_neg hi]
end Go.Ax.C
set_option maxRecDepth 100000
namespace Go.Ax.C
open Go.Proofs Go.RowKit
open O (CacheA Disk It DPlain)

variable {l r r2 m : List Assn} {σ : AHeap} {Q : RK}

theorem own_ints_form {v : Value} {n : Nat} {xs : List Value} {e : Nat} (h : H l σ) [k1 : AtV l v (Own e 1 v n xs) r] : ∃ a c, v = .slice a n c := ((h.atv v).own_src 0 rfl).2.2

/-- Two rows of the same numbers. -/
theorem same5 {v w : Value} {n : Nat} {zs : List Int} (h : H l σ) [k1 : AtV l v (Own t_int 1 v n (iz zs)) r] [k2 : AtV r w (Own t_int 1 w n (iz zs)) r2] (hn : zs.length = n) (hb : n < 1099511627776) (hQ : Q (.ret (.bool true)) σ) : E f_law05_same [v, w] σ Q := by
  have h1 := h.atv v
  have h2 : H (Own t_int 1 w n (iz zs) :: Own t_int 1 v n (iz zs) :: r2) σ := (h1.perm (k2.perm.cons _)).perm (.swap _ _ _)
  obtain ⟨va, vc, hv⟩ := (h1.own_src 0 rfl).2.2
  obtain ⟨wa, wc, hw⟩ := (h2.own_src 0 rfl).2.2
  apply e_law05_same; unfold s_law05_same
  rw [hv, lenS_slice, ldI_some, hw, lenS_slice, ldI_some, ← hv, ← hw]
  refine If_ne (fun g => absurd rfl g) fun _ => ?_
  refine ⟨fun m k τ => ∃ i : Nat, m = n - i ∧ k = (i : Int) ∧ i ≤ n ∧ τ = σ, ⟨_, 0, rfl, rfl, by omega, rfl⟩, ?_⟩
  rintro m _ _ ⟨i, rfl, rfl, hi, rfl⟩
  unfold s_law05_same_b1
  rw [hv, lenS_slice, ldI_some, ← hv]
  refine If_dec (fun g => ?_) fun g => hQ
  obtain ⟨z, hz⟩ : ∃ z, zs[i]? = some z := ⟨_, List.getElem?_eq_getElem (by omega)⟩
  obtain ⟨p, p1, p2⟩ := ints_get h1 hn hz
  obtain ⟨q, q1, q2⟩ := ints_get h2 hn hz
  rw [p1, om_some, p2, ldI_some, q1, om_some, q2, ldI_some]
  refine If_ne (fun g => absurd rfl g) fun _ => ?_
  refine b64 ((i + 1 : Nat) : Int) (by omega) ?_
  exact ⟨_, by omega, i + 1, rfl, rfl, by omega, rfl⟩

theorem dcrash2 {dv pv : Value} {D : DM} {n : Nat} {picks : List UInt8} (h : H l σ) [k1 : AtV l dv (Disk dv D) r] (hD : D.Ok n) (hm : D.fly.length < 1099511627776) (hp : ∀ τ, H r τ → Rd τ pv picks) (hQ : ∀ σ', H (Disk dv (D.crash picks) :: r) σ' → Q (.ret (.tuple #[])) σ') : E f_disk_Disk_Crash [dv, pv] σ Q := by
  refine O.up (O.crash_ok (picks := picks) (h.atv dv) 0 rfl hD hm ?_ ?_)
  · intro τ hτ
    exact hp τ (H_emp.1 hτ)
  · intro σ' h1; exact hQ σ' h1

/-! ### The first loop -/
structure Wr (n : Nat) (C : O.CM) (ds : List Bool) : Prop where
  inv : CInv C (.new n) n
  cn : C.n = n
  dl : ds.length = 20
  dd : ∀ a < n, (ds[a]? = some true ↔ ∃ y ∈ C.its, y.pl = a ∧ y.dirty = true)
def WrA (b : Nat) (v dv lv : Value) (L : List Act5) (K : Nat) (C : O.CM) (n : Nat) (ds : List Bool) : List Assn :=
  [CacheA v dv K C, Disk dv (.new n), pt b (.cells (ds.map .bool) t_a20_bool false), Acts5 lv L]

variable {n : Nat} {b : Nat} {v dv lv : Value} {L : List Act5}

theorem acts5_len (h : H l σ) [k1 : AtV l lv (Acts5 lv L) r] : L.length ≤ 140737488355328 := by
  rcases H_rows.1 (h.atv lv) with ⟨⟨rfl, _⟩, _⟩ | ⟨id, cap, e, css, _, _, _, _, _, _, h6⟩
  · simp
  · unfold reachBytes at h6; omega
theorem room_or {C : O.CM} {a : Nat} {ds : List Bool} (hu : Wr n C ds) (ha : a < n) : C.its.length < C.n ∨ ∃ y ∈ C.its, y.pl = a := by
  by_cases h : C.its.length < C.n
  · exact .inl h
  · exact .inr (full_mem hu.inv.ok (by have := hu.cn; omega) ha)

theorem wr_k21 {N : Int → AHeap → Prop} {i : Nat} (hi : i < 9223372036854775807) (hN : N ((i + 1 : Nat) : Int) σ) (x1 : Int) (x2 x3 : Value) (x4 : Nat) : s_law05_CacheWrites_k21 N E Q (i : Int) x1 x2 x3 x4 σ := by
  unfold s_law05_CacheWrites_k21
  exact b64 ((i + 1 : Nat) : Int) (by omega) hN

theorem wr_k17 {N : Int → AHeap → Prop} {i a K : Nat} {C : O.CM} {ds : List Bool} {act : Act5} (hL : i < L.length) (ha : L[i]? = some act) (han : a < n) (hu : Wr n C ds) (hK : K ≤ 4 * i + 2)
    (h : H (WrA b v dv lv L K C n ds) σ) (hN : ∀ τ C K ds, Wr n C ds → K ≤ 4 * (i + 1) → H (WrA b v dv lv L K C n ds) τ → N ((i + 1 : Nat) : Int) τ) :
    s_law05_CacheWrites_k17 N E Q lv i v a n dv b σ := by
  have hh := h
  have hI := hu.inv
  unfold WrA at h
  have hLl := acts5_len (lv := lv) (L := L) h
  unfold s_law05_CacheWrites_k17
  obtain ⟨ab, e1, e2, e3, e4⟩ := acts5_get (v := lv) h ha
  rw [e1, om_some]
  simp only [om_some, fieldAddr_ptr]
  rw [e2, ldI_some]
  refine If_dec (fun g => ?_) fun g => ?_
  · refine cget h hI han (by simp [DM.new]) (by omega) ?_
    intro w τ1 C' D' hI' hcn _ _ hd hst h1
    obtain ⟨hD', hkeep⟩ := hst (room_or hu han)
    subst hD'
    rw [c2_ret, tI_int]
    refine If_ne (fun g => absurd rfl g) fun _ => ?_
    refine wr_k21 (by omega) ?_ _ _ _ _
    refine hN τ1 C' _ ds ⟨hI', by rw [hcn, hu.cn], hu.dl, fun x hx => ?_⟩ (by omega) (h1.pick [1, 2, 3, 4] (by decide))
    rw [hu.dd x hx]
    constructor
    · rintro ⟨y, hy, e, hyd⟩; exact ⟨y, hkeep y hy, e, hyd⟩
    · rintro ⟨y, hy, e, hyd⟩; exact ⟨y, hd y hy hyd, e, hyd⟩
  · refine wr_k21 (by omega) ?_ _ _ _ _
    exact hN σ C K ds hu (by omega) hh

theorem wr_b1 {N : Int → AHeap → Prop} {i K : Nat} {C : O.CM} {ds : List Bool} (hn : 1 ≤ n ∧ n ≤ 20) (hi : i ≤ L.length) (hu : Wr n C ds) (hK : K ≤ 4 * i)
    (h : H (WrA b v dv lv L K C n ds) σ) (hN : i < L.length → ∀ τ C K ds, Wr n C ds → K ≤ 4 * (i + 1) → H (WrA b v dv lv L K C n ds) τ → N ((i + 1 : Nat) : Int) τ)
    (hE : i = L.length → ∃ I351 : Nat → Value → Int → AHeap → Prop, (∃ m, I351 m (.slice none 0 0) 0 σ) ∧
      ∀ m (v184 : Value) (n185 : Int) (σ' : AHeap), I351 m v184 n185 σ' → (s_law05_CacheWrites_b2 (fun v184 n185 σ' => ∃ m', m' < m ∧ I351 m' v184 n185 σ') E Q n dv v b v184 n185 σ')) :
    s_law05_CacheWrites_b1 N E Q n lv dv v b i σ := by
  have hI := hu.inv
  unfold WrA at h
  have hLl := acts5_len (lv := lv) (L := L) h
  unfold s_law05_CacheWrites_b1
  obtain ⟨la, lc, hlv⟩ := acts5_form (v := lv) h
  rw [hlv, lenS_slice, ldI_some, ← hlv]
  refine If_dec (fun g => ?_) fun g => hE (by omega)
  have hi' : i < L.length := by omega
  obtain ⟨act, ha⟩ : ∃ a, L[i]? = some a := ⟨_, List.getElem?_eq_getElem hi'⟩
  obtain ⟨ab, e1, e2, e3, e4⟩ := acts5_get (v := lv) h ha
  rw [e1, om_some, fieldAddr_ptr, om_some, e3, ldI_some]
  refine b64 ((n - 1 : Nat) : Int) (by omega) ?_
  refine within5 (lo := 0) (hi := n - 1) (by omega) ?_
  intro a _ hat
  rw [cI_ret]
  simp only [om_some, fieldAddr_ptr]
  rw [e2, ldI_some]
  refine If_dec (fun g1 => ?_) fun g1 => ?_
  · rw [idxAA (by omega), om_some]
    simp only [Int.toNat_natCast, Nat.zero_add, Nat.mul_one]
    refine store1 h 2 rfl rfl (by have := hu.dl; simp; omega) ?_
    intro τ1 h1
    have h1 : H [CacheA v dv K C, Disk dv (.new n), pt b (.cells ((ds.map .bool).set a (.bool true)) t_a20_bool false), Acts5 lv L] τ1 := h1
    rw [← List.map_set] at h1
    obtain ⟨ab', e1', e2', e3', e4'⟩ := acts5_get (v := lv) h1 ha
    have eab : ab' = ab := by rw [e1] at e1'; simpa using e1'.symm
    subst eab
    rw [e4', ldI_some]
    refine block5 (x := act.X) h1 ?_
    intro w τ2 h2
    rw [cV_ret]
    refine cput h2 hI (by omega) (O.blk5_len _ _) (by simp [DM.new]) (by omega) ?_
    intro τ3 C' D' hI' hcn _ _ hd1 hd2 hst h3
    obtain ⟨hD', hkeep⟩ := hst (room_or hu (by omega))
    subst hD'
    rw [cI_ret]
    refine If_ne (fun g => absurd rfl g) fun _ => ?_
    refine wr_k17 hi' ha (by omega) (C := C') (ds := ds.set a true) ⟨hI', by rw [hcn, hu.cn], by simpa using hu.dl, fun x hx => ?_⟩ (by omega) (h3.pick [1, 2, 3, 4] (by decide)) (hN hi')
    by_cases e : a = x
    · subst e
      rw [List.getElem?_set_self (by have := hu.dl; omega)]
      obtain ⟨y, hy, e, hyd⟩ := hd2
      exact ⟨fun _ => ⟨y, hy, e, hyd⟩, fun _ => rfl⟩
    · rw [List.getElem?_set_ne e, hu.dd x hx]
      constructor
      · rintro ⟨y, hy, rfl, hyd⟩; exact ⟨y, hkeep y hy (fun e' => e e'.symm), rfl, hyd⟩
      · rintro ⟨y, hy, rfl, hyd⟩
        rcases hd1 y hy hyd with h | h
        · exact absurd h.symm e
        · exact ⟨y, h, rfl, hyd⟩
  · exact wr_k17 hi' ha (by omega) hu (by omega) h (hN hi')
end Go.Ax.C
set_option maxRecDepth 100000
namespace Go.Ax.C
open Go.Proofs Go.RowKit
open O (CacheA Disk It DPlain)

variable {l r r2 m : List Assn} {σ : AHeap} {Q : RK}
variable {n : Nat} {b : Nat} {v dv lv wv : Value} {L : List Act5}

/-- What holds behind the flush, behind the crash. -/
structure Wd (n : Nat) (cont : Nat → List UInt8) (D : DM) (zs : List Int) : Prop where
  dp : DPlain D n
  fl : D.fly = []
  oth : ∀ a < n, (∀ z, zs[0]? = some z → a ≠ z.toNat) → D.block a = List.replicate 256 0
  fst : ∀ z, zs[0]? = some z → (D.block z.toNat).take 128 = (cont z.toNat).take 128

theorem conv_take {e k : Nat} {w : Value} {x : List UInt8} (h : H l σ) [k1 : AtV l w (Own e 1 w 256 (bv x)) r] (hk : k ≤ 256) (hx : x.length = 256) :
    ∃ u, aSlice 1 w none (some (.int .i64 k)) none = some u ∧ aConv P t_sl_uint8 t_string u σ = some (.string (str (x.take k))) := by
  obtain ⟨bb, c, rfl, hc, rest, hrow⟩ := (h.atv w).own_form 0 rfl (by omega)
  obtain ⟨c', e1, _⟩ := slice_to (hi := (k : Nat)) (k := .i64) (b := bb) (o := 0) hc (by omega) (by omega)
  refine ⟨_, e1, ?_⟩
  have h1 : ∀ a n c, aConv P t_sl_uint8 t_string (.slice a n c) σ = aBytesStr (.slice a n c) σ := fun a n c => by kernel_rfl
  rw [h1]
  have hb : bv (x.take k) = (bv x).take k := by simp [bv, List.map_take]
  have hr := rd_row (x := x.take k) (cap := c') (o := 0) hrow (by
    rw [List.drop_zero, List.length_take, Nat.min_eq_left (by omega), List.take_append_of_le_length (by simp; omega), hb]) (by simp; omega)
  have hl : (x.take k).length = k := by rw [List.length_take, Nat.min_eq_left (by omega)]
  have hs := hr.src
  rw [hl] at hs
  rw [Int.toNat_natCast, bytesStr_src hs]
  rfl

theorem wr_b3 {cont : Nat → List UInt8} {D : DM} {C0 : O.CM} {zs : List Int} {K0 : Nat} (hn : 1 ≤ n ∧ n ≤ 20) (hw : Wd n cont D zs) (hC : C0.Ok n) (hz : ∀ z ∈ zs, ∃ a : Nat, z = a ∧ a < n ∧ ∃ y ∈ C0.its, y.pl = a ∧ y.b = cont a) (hzd : zs.Pairwise (· < ·)) (hzl : zs.length ≤ 20) (hK : K0 ≤ 18446744073709000000)
    (h : H [CacheA v dv K0 C0, Disk dv D, Own t_int 1 wv zs.length (iz zs)] σ) (hQ : ∀ σ', Q (.ret (.bool true)) σ') :
    ∃ I333 : Nat → Int → AHeap → Prop, (∃ m, I333 m 0 σ) ∧
      ∀ m (n247 : Int) (σ' : AHeap), I333 m n247 σ' → (s_law05_CacheWrites_b3 (fun n247 σ' => ∃ m', m' < m ∧ I333 m' n247 σ') E Q dv v wv n247 σ') := by
  refine ⟨fun m k τ => ∃ (i K : Nat) (C : O.CM), m = zs.length - i ∧ k = (i : Int) ∧ i ≤ zs.length ∧ K ≤ K0 + i ∧ C.n = C0.n ∧ C.its.Perm C0.its ∧ H [CacheA v dv K C, Disk dv D, Own t_int 1 wv zs.length (iz zs)] τ,
    ⟨_, 0, K0, C0, rfl, rfl, by omega, by omega, rfl, .refl _, h⟩, ?_⟩
  rintro m _ τ ⟨i, K, C, rfl, rfl, hi, hKi, hcn, hcp, h⟩
  have hCok : C.Ok n := ⟨by rw [hcn]; exact hC.lo, by rw [hcn]; exact hC.hi, by rw [hcn, hcp.length_eq]; exact hC.len, fun x hx => hC.it x (hcp.mem_iff.1 hx), ((hcp.map _).nodup_iff).2 hC.nd⟩
  unfold s_law05_CacheWrites_b3
  obtain ⟨wa, wc, hwv⟩ := own_ints_form (v := wv) h
  rw [hwv, lenS_slice, ldI_some, ← hwv]
  refine If_dec (fun g => ?_) fun g => ?_
  · have hi' : i < zs.length := by omega
    obtain ⟨z, hzi⟩ : ∃ z, zs[i]? = some z := ⟨_, List.getElem?_eq_getElem hi'⟩
    obtain ⟨a, rfl, han, y, hy, hya, hyb⟩ := hz z (List.mem_of_getElem? hzi)
    obtain ⟨p, p1, p2⟩ := ints_get (h.atv wv) rfl hzi
    rw [p1, om_some, p2, ldI_some]
    refine dread h hw.dp (by rw [hw.fl]; simp) han ?_
    intro w1 τ1 h1
    rw [c2_ret, tI_int, om_some]
    obtain ⟨p', p1', p2'⟩ := ints_get (h1.atv wv) rfl hzi
    have ep : p' = p := by rw [p1] at p1'; simpa using p1'.symm
    subst ep
    rw [p2', ldI_some]
    obtain ⟨A, B, hAB⟩ := List.append_of_mem (hcp.mem_iff.2 hy)
    have hpl : (a : Int) = (y.pl : Int) := by omega
    rw [hpl]
    refine cget_old h1 hCok hw.dp hAB (by omega) ?_
    intro w2 τ2 h2
    rw [c2_ret, tI_int]
    refine If_ne (fun g => absurd rfl g) fun _ => ?_
    have hyl : y.b.length = 256 := (hC.it y hy).2
    have hbl : (D.block a).length = 256 := O.block_len hw.dp.ok han
    unfold s_law05_CacheWrites_k38
    refine If_f (by simp) ?_
    have hnext : ∀ τ', H [CacheA v dv (K + 1) { C with its := A ++ B ++ [y] }, Disk dv D, Own t_int 1 wv zs.length (iz zs)] τ' → s_law05_CacheWrites_k40 (fun n247 σ' => ∃ m', m' < zs.length - i ∧ ∃ (i K : Nat) (C : O.CM), m' = zs.length - i ∧ n247 = (i : Int) ∧ i ≤ zs.length ∧ K ≤ K0 + i ∧ C.n = C0.n ∧ C.its.Perm C0.its ∧ H [CacheA v dv K C, Disk dv D, Own t_int 1 wv zs.length (iz zs)] σ') E Q false i τ' := by
      intro τ' h'
      unfold s_law05_CacheWrites_k40
      refine If_f rfl ?_
      refine b64 ((i + 1 : Nat) : Int) (by omega) ?_
      refine ⟨_, by omega, i + 1, K + 1, { C with its := A ++ B ++ [y] }, rfl, rfl, by omega, by omega, hcn, ?_, h'⟩
      refine List.Perm.trans ?_ hcp
      rw [hAB]
      show (A ++ B ++ [y]).Perm (A ++ y :: B)
      rw [List.append_assoc]
      exact List.Perm.append_left A (by simp)
    refine If_dec (fun g0 => ?_) fun g0 => ?_
    · have hi0 : i = 0 := by omega
      subst hi0
      obtain ⟨u1, s1, t1⟩ := conv_take (k := 128) (w := w1) h2 (by omega) hbl
      obtain ⟨u2, s2, t2⟩ := conv_take (k := 128) (w := w2) h2 (by omega) hyl
      have s1' : aSlice 1 w1 none (some (.int .i64 128)) none = some u1 := s1
      have s2' : aSlice 1 w2 none (some (.int .i64 128)) none = some u2 := s2
      rw [s1', om_some, t1, ldS_some, s2', om_some, t2, ldS_some, bne_str, ldB_some]
      have hfst := hw.fst _ hzi
      rw [Int.toNat_natCast] at hfst
      refine If_f (by rw [hfst, hyb]; simp) ?_
      refine If_f (by simp) ?_
      exact hnext τ2 (h2.pick [1, 2, 4] (by decide))
    · refine If_t (by simp; omega) ?_
      have hne : ∀ z, zs[0]? = some z → a ≠ z.toNat := by
        intro z hz0 e
        have h3 := List.pairwise_iff_getElem.1 hzd 0 i (by omega) hi' (by omega)
        obtain ⟨_, h4⟩ := List.getElem?_eq_some_iff.1 hz0
        obtain ⟨_, h5⟩ := List.getElem?_eq_some_iff.1 hzi
        rw [h4, h5] at h3
        obtain ⟨a0, rfl, _⟩ := hz z (List.mem_of_getElem? hz0)
        simp at e; omega
      rw [conv_str (w := w1) h2, ldS_some]
      refine mkb (n := 256) h2 (by omega) ?_
      intro bb τ3 h3
      rw [conv_str (w := w1) h3, ldS_some]
      refine ⟨veq_str _, ?_⟩
      rw [conv_str (w := .slice (some ⟨bb, 0, none⟩) 256 256) h3, ldS_some, bne_str, ldB_some]
      have e0 := hw.oth a han hne
      rw [e0]
      have : decide (List.replicate 256 (0 : UInt8) ≠ List.replicate 256 0) = false := by simp
      rw [this]
      exact hnext τ3 (h3.pick [2, 3, 5] (by decide))
  · refine wakes5 (fun σ' => ?_) (H.nil τ)
    rw [cB_ret]
    exact hQ σ'

theorem map_clean (M : List It) : (M.map cleanI).map cleanI = M.map cleanI := by simp [cleanI]
theorem clean_dirty (M : List It) : (M.map cleanI).filter (·.dirty) = [] := by
  rw [List.filter_eq_nil_iff]
  intro x hx
  obtain ⟨y, _, rfl⟩ := List.mem_map.1 hx
  simp [cleanI]

theorem wr_k30 {C0 C1 : O.CM} {D : DM} {ds : List Bool} {zs : List Int} {K : Nat} (hn : 1 ≤ n ∧ n ≤ 20) (hu : Wr n C0 ds) (hzs : zs = wants ds n) (hC1 : C1 = { C0 with its := C0.its.map cleanI }) (hD : D = flings (content C0 (.new n)) (.new n) zs) (hDp : DPlain D n) (hfl : D.fly.length ≤ 80) (hK : K ≤ 18446744073708000000)
    (h : H [CacheA v dv K C1, Disk dv D, Own t_int 1 wv zs.length (iz zs)] σ) (hQ : ∀ σ', Q (.ret (.bool true)) σ') : s_law05_CacheWrites_k30 E Q false dv v wv σ := by
  unfold s_law05_CacheWrites_k30
  refine If_f rfl ?_
  refine nw h ?_
  intro b1 τ1 h1
  refine dcrash2 (picks := [1, 1]) h1 hDp.ok (by omega) ?_ ?_
  · intro τ hτ
    have hr := hτ.row 0 rfl
    exact rd_row (x := [1, 1]) (cap := 2) (o := 0) hr rfl (by simp)
  intro τ2 h2
  rw [c0_ret]
  have hzl : zs.length ≤ n := by rw [hzs]; exact wants_le ds n
  have hzm : ∀ z ∈ zs, ∃ a : Nat, z = a ∧ a < n ∧ ∃ y ∈ C1.its, y.pl = a ∧ y.b = content C0 (.new n) a := by
    intro z hz
    rw [hzs] at hz
    obtain ⟨a, rfl, ha, hda⟩ := wants_mem hz
    obtain ⟨y, hy, rfl, hyd⟩ := (hu.dd a ha).1 hda
    refine ⟨y.pl, rfl, ha, cleanI y, ?_, rfl, ?_⟩
    · rw [hC1]; exact List.mem_map_of_mem hy
    · show y.b = _
      rw [content_mem hu.inv.ok hy]
  have hC1ok : C1.Ok n := by
    rw [hC1]
    refine ⟨hu.inv.ok.lo, hu.inv.ok.hi, by simpa using hu.inv.ok.len, fun x hx => ?_, ?_⟩
    · obtain ⟨y, hy, rfl⟩ := List.mem_map.1 hx
      exact hu.inv.ok.it y hy
    · simpa [List.map_map, Function.comp_def, cleanI] using hu.inv.ok.nd
  have hwd : Wd n (content C0 (.new n)) (D.crash [1, 1]) zs := by
    cases hz : zs with
    | nil =>
      have e : D = .new n := by rw [hD, hz]; rfl
      rw [e, O.crash_still rfl]
      refine ⟨⟨⟨hn.1, by omega, by simp [DM.new], by simp⟩, rfl, rfl⟩, rfl, fun a ha _ => ?_, fun z hz => by simp at hz⟩
      have := O.block_new ha
      rwa [O.block_still _ (by rfl)] at this ⊢
    | cons z t =>
      obtain ⟨a, rfl, ha, y, hy, hya, hyb⟩ := hzm z (by rw [hz]; simp)
      have hlen : (content C0 (.new n) a).length = 256 := by rw [← hyb]; exact (hC1ok.it y hy).2
      obtain ⟨e1, rest, e2⟩ := flings_last (content C0 (.new n)) t ((DM.new n).fling a (content C0 (.new n) a))
      have eD : D = flings (content C0 (.new n)) ((DM.new n).fling a (content C0 (.new n) a)) t := by rw [hD, hz]; rfl
      have hl : D.last = (DM.new n).last := by rw [eD, e1]; rfl
      have hf : D.fly = parts a (content C0 (.new n) a) ++ rest := by rw [eD, e2]; simp [DM.fling, DM.new]
      obtain ⟨q1, q2, q3, q4⟩ := crash_two (by omega) ha hlen hl hf
      refine ⟨q1, q2, fun x hx hne => q3 x hx (by simpa using hne _ rfl), fun z hz => ?_⟩
      simp at hz; subst hz
      simpa using q4
  refine wr_b3 (K0 := K) hn hwd hC1ok hzm (by rw [hzs]; exact wants_lt ds n) (by omega) (by omega) ?_ hQ
  exact h2.pick [2, 0, 3] (by decide)

theorem wr_b2 {C : O.CM} {ds : List Bool} {K : Nat} (hn : 1 ≤ n ∧ n ≤ 20) (hu : Wr n C ds) (hK : K ≤ 18446744073708000000)
    (h : H (WrA b v dv lv L K C n ds) σ) (hQ : ∀ σ', Q (.ret (.bool true)) σ') :
    ∃ I351 : Nat → Value → Int → AHeap → Prop, (∃ m, I351 m (.slice none 0 0) 0 σ) ∧
      ∀ m (v184 : Value) (n185 : Int) (σ' : AHeap), I351 m v184 n185 σ' → (s_law05_CacheWrites_b2 (fun v184 n185 σ' => ∃ m', m' < m ∧ I351 m' v184 n185 σ') E Q n dv v b v184 n185 σ') := by
  unfold WrA at h
  refine ⟨fun m w i τ => ∃ k : Nat, m = n - k ∧ i = (k : Int) ∧ k ≤ n ∧ H [Own t_int 1 w (wants ds k).length (iz (wants ds k)), CacheA v dv K C, Disk dv (.new n), pt b (.cells (ds.map .bool) t_a20_bool false)] τ, ⟨_, 0, rfl, rfl, by omega, ?_⟩, ?_⟩
  · have := (h.own_nil t_int 1).unsnoc
    exact this.pick [0, 1, 2, 3] (by decide)
  rintro m w _ τ ⟨k, rfl, rfl, hk, h1⟩
  have hwl := wants_le ds k
  unfold s_law05_CacheWrites_b2
  refine If_dec (fun g => ?_) fun g => ?_
  · have hkn : k < n := by omega
    rw [idxAA (by omega), om_some, load1 (h1.row 3 rfl)]
    simp only [Int.toNat_natCast, Nat.zero_add, Nat.mul_one]
    obtain ⟨d, hd⟩ : ∃ d, ds[k]? = some d := ⟨_, List.getElem?_eq_getElem (by have := hu.dl; omega)⟩
    rw [List.getElem?_map, hd]
    show ldB (some (.bool d)) _
    rw [ldB_some]
    have hs := wants_snoc ds k
    unfold s_law05_CacheWrites_k28
    refine If_b (fun hb => ?_) fun hb => ?_
    · refine nw h1 ?_
      intro tb τ1 h4
      have ht : srcOf 1 (.slice (some ⟨tb, 0, none⟩) 1 1) τ1 = some (1, [.int .i64 (k : Nat)]) := by
        rw [src_row (h4.row 0 rfl) (by simp)]; rfl
      refine append_own (h4.perm (List.Perm.swap _ _ _)) 0 rfl ht (by omega) (by omega) (by rfl) ?_
      intro nx τ2 h5
      refine b64 ((k + 1 : Nat) : Int) (by omega) ?_
      refine ⟨_, by omega, k + 1, rfl, rfl, by omega, ?_⟩
      rw [hs, if_pos (by rw [hd, hb])]
      have e6 : iz (wants ds k ++ [(k : Int)]) = iz (wants ds k) ++ [.int .i64 (k : Nat)] := by simp [iz]
      rw [e6, List.length_append]
      exact h5.pick [0, 2, 3, 4] (by decide)
    · refine b64 ((k + 1 : Nat) : Int) (by omega) ?_
      refine ⟨_, by omega, k + 1, rfl, rfl, by omega, ?_⟩
      rw [hs, if_neg (by rw [hd, hb]; simp), List.append_nil]
      exact h1
  · have : k = n := by omega
    subst this
    have hI := hu.inv
    have hcn := hu.cn
    have hCl := hI.ok.len
    refine dflight h1 ?_
    rw [cI_ret]
    refine If_ne (fun g => absurd (by simp [DM.new]) g) fun _ => ?_
    refine cdirty h1 hI.ok (by omega) ?_
    intro w2 zs τ1 hzp hzs h2
    have hz := wants_eq hI.ok hu.dd hzp hzs
    subst hz
    rw [cV_ret]
    refine same5 h2 rfl (by omega) ?_
    rw [cB_ret]
    refine If_f rfl ?_
    refine cflush h2 hI (by simp [DM.new]) ?_
    intro zs2 τ2 hzp2 hzs2 hI2 hcon hbl hfl h3
    have hz2 := wants_eq hI.ok hu.dd hzp2 hzs2
    subst hz2
    rw [cI_ret]
    refine If_ne (fun g => absurd rfl g) fun _ => ?_
    refine dflight h3 ?_
    rw [cI_ret]
    obtain ⟨wa, wc, hw⟩ := own_ints_form (v := w) h3
    rw [hw, lenS_slice, ldI_some, ← hw]
    refine b64 ((4 * (wants ds k).length : Nat) : Int) (by omega) ?_
    have hf0 : (DM.new k).fly.length = 0 := rfl
    refine If_ne (fun g => absurd (by omega) g) fun _ => ?_
    refine cflush h3 hI2 (by omega) ?_
    intro zs3 τ3 hzp3 _ hI3 _ _ hfl3 h4
    have hz3 : zs3 = [] := by
      rw [clean_dirty] at hzp3
      exact List.perm_nil.1 hzp3
    subst hz3
    rw [cI_ret]
    refine If_ne (fun g => absurd rfl g) fun _ => ?_
    refine dflight h4 ?_
    rw [cI_ret, ldI_some]
    refine b64 ((4 * (wants ds k).length : Nat) : Int) (by omega) ?_
    have e9 : (!decide (((flings (content { C with its := C.its.map cleanI } (flings (content C (.new k)) (.new k) (wants ds k))) (flings (content C (.new k)) (.new k) (wants ds k)) []).fly.length : Int) = ((4 * (wants ds k).length : Nat) : Int))) = false := by
      rw [hfl3]; simp; omega
    rw [e9]
    refine wr_k30 hn hu rfl (C1 := { C with its := (C.its.map cleanI).map cleanI }) (by rw [map_clean]) rfl hI2.dp (by omega) hK (h4.pick [0, 1, 3] (by decide)) hQ

theorem cacheWrites_ev {x0 : Int} {x1 : Value} {L : List Act5} (h : H [Acts5 x1 L] σ) : E f_law05_CacheWrites [.int .i64 x0, x1] σ fun r _ => r = .ret (.bool true) := by
  apply e_law05_CacheWrites; unfold s_law05_CacheWrites
  refine within5 (lo := 1) (hi := 20) (by omega) ?_
  intro n hn1 hn2
  rw [cI_ret]
  refine dnew (n := n) h (by omega) ?_
  intro dv σ1 h1
  rw [c2_ret, tI_int]
  refine If_ne (fun g => absurd rfl g) fun _ => ?_
  refine cnew (k := n) h1 (new_plain (by omega)).ok (by omega) ?_
  intro v σ2 h2
  rw [c2_ret, tI_int]
  refine If_ne (fun g => absurd rfl g) fun _ => ?_
  refine nw h2 ?_
  intro b σ3 h3
  have hLl := acts5_len (lv := x1) (L := L) h
  have hu0 : Wr n ⟨n, []⟩ (List.replicate 20 false) := ⟨cinv_new (by omega) (by omega), rfl, by simp, fun a ha => by
    rw [List.getElem?_replicate, if_pos (by omega)]; simp⟩
  refine ⟨fun m k τ => ∃ (i : Nat) (C : O.CM) (K : Nat) (ds : List Bool), m = L.length - i ∧ k = (i : Int) ∧ i ≤ L.length ∧ Wr n C ds ∧ K ≤ 4 * i ∧ H (WrA b v dv x1 L K C n ds) τ,
    ⟨_, 0, _, 0, _, rfl, rfl, by omega, hu0, by omega, h3.pick [1, 2, 0, 3] (by decide)⟩, ?_⟩
  rintro m _ τ ⟨i, C, K, ds, rfl, rfl, hi, hu, hK, h4⟩
  refine wr_b1 (by omega) hi hu hK h4 ?_ ?_
  · intro hil τ' C' K' ds' hu' hK' h5
    exact ⟨_, by omega, i + 1, C', K', ds', rfl, rfl, by omega, hu', hK', h5⟩
  · intro _
    exact wr_b2 (by omega) hu (by omega) h4 fun _ => rfl
end Go.Ax.C
/- Proved: 'CacheWrites' returns true, for every input; no condition. By a calculus of weakest preconditions over an abstract heap, which is sound for the machine. -/
namespace Go.Proofs.Ytfeamgocomlepaa.cacheWrites
open Go.ChangeShapes Go.WideShapes Go.ChangeAt Go.RowKit
set_option linter.unusedVariables false
set_option maxRecDepth 100000

theorem own : ownKnob Try.prog.godebug = none := by kernel_rfl

def fs65 : Array Field := #[{ name := "What", type := 3, offset := 0, embedded := false, tag := "", pkgPath := "", byteOffset := 0 }, { name := "At", type := 3, offset := 1, embedded := false, tag := "", pkgPath := "", byteOffset := 8 }, { name := "X", type := 5, offset := 2, embedded := false, tag := "", pkgPath := "", byteOffset := 16 }, { name := "Picks", type := 23, offset := 3, embedded := false, tag := "", pkgPath := "", byteOffset := 24 }]
theorem intT : Ax.AbsT Try.prog 3 Ax.I64A := Ax.AbsT.i64 (by kernel_rfl) (by kernel_rfl)
theorem actT : Ax.AbsT Try.prog 65 Ax.C.Act5A := by
  refine Ax.AbsT.imp (fun m : Int × Int × UInt8 × List UInt8 × Unit => (⟨m.1, m.2.1, m.2.2.1⟩ : Ax.C.Act5)) (Ax.AbsT.struct (fs := fs65) (tot := 1 + (1 + (1 + (1 + 0)))) (by kernel_rfl) (by kernel_rfl)
    (Ax.AbsF.cons (z := 1) rfl (by kernel_rfl) intT <| Ax.AbsF.cons (z := 1) rfl (by kernel_rfl) intT <| Ax.AbsF.cons (z := 1) rfl (by kernel_rfl) (Ax.AbsT.u8 (by kernel_rfl) (by kernel_rfl)) <| Ax.AbsF.cons (z := 1) rfl (by kernel_rfl) (Ax.AbsT.bytes (e := 5) (by kernel_rfl) (by kernel_rfl) (by kernel_rfl) (by kernel_rfl) (by kernel_rfl)) <| Ax.AbsF.nil 4)) ?_
  intro cs m l σ h
  simp only [Ax.H_ex, Ax.H_sep, Ax.H_pure, Ax.I64A] at h
  obtain ⟨⟨c1, r1⟩, ⟨rfl, _⟩, ⟨rfl, h1⟩, ⟨c2, r2⟩, ⟨rfl, _⟩, ⟨rfl, h2⟩, ⟨c3, r3⟩, ⟨rfl, _⟩, rfl, ⟨c4, r4⟩, ⟨rfl, _⟩, v, rfl, h⟩ := h
  have h5 := h.perm (List.Perm.swap _ _ _)
  simp only [Ax.H_ex, Ax.H_sep, Ax.H_pure] at h5
  obtain ⟨rfl, h6⟩ := h5
  exact Ax.H_ex.2 ⟨v, Ax.H_pure.2 ⟨by simp, h6.tail⟩⟩
theorem actsT : Ax.AbsT Try.prog 62 (M := List Ax.C.Act5) fun cs x => Ax.ex fun v => Ax.sep (Ax.pure' (cs = [v])) (Ax.C.Acts5 v x) :=
  Ax.AbsT.rows (t := 62) (e := 65) (z := 4) (by' := 48) (by kernel_rfl) (by kernel_rfl) (by kernel_rfl) (by kernel_rfl) (by decide) actT

theorem walk {H : Type} {enc : TypeId × Value → H} {W : World} {base : Nat} {v0 v1 : Value} {x0 x1 : DataW H} {p0 p1 : List MemPlace} (o0 : Value.okWide Try.prog W .any base 3 v0) (o1 : ∃ a l c, v1 = .slice a l c)
    (h0 : DataW.Trod enc Try.prog W 0 (fun _ => true) true 3 v0 x0 p0) (h1 : DataW.Trod enc Try.prog W 0 (fun _ => true) true 62 v1 x1 p1) (hw : (DataW.weightsEach Try.prog [3, 62] [x0, x1]).all (· ≤ reachBytes) = true) :
    Calls Try.prog 8 #[v0, v1] W fun e w' => e = .returned (.bool true) ∧ Below W.heap.size W w' := by
  obtain ⟨n0, h0⟩ := h0
  obtain ⟨n1, h1⟩ := h1
  obtain ⟨a, c, c', rfl⟩ := o1
  obtain ⟨k, rfl⟩ := okWide_int (show Try.prog.underlying 3 = some (.int .i64) by kernel_rfl) o0
  simp only [List.all_eq_true, DataW.weightsEach, List.mem_append, List.append_nil, decide_eq_true_eq] at hw
  obtain ⟨ρ1, σ1, c1, m1, q1, q2, q3, q4, q5⟩ := intT (Ax.Rel.start W) h0 fun w hm => hw w (.inl hm)
  obtain ⟨ρ2, σ2, c2, L, r1, r2, r3, r4, r5⟩ := actsT q2 h1 fun w hm => hw w (.inr hm)
  have hh := r5 _ (q5 [] (Ax.H.nil _))
  obtain ⟨v, hv1⟩ := Ax.H_ex.1 hh
  rw [Ax.H_sep] at hv1
  obtain ⟨e1, hv2⟩ := Ax.H_pure.1 hv1
  subst e1
  have hv3 := hv2.perm (List.Perm.swap _ _ _)
  obtain ⟨⟨e2, hi⟩, hh3⟩ := Ax.H_pure.1 hv3
  subst e2
  have ha : Ax.LR ρ2 [.int .i64 m1, v] [.int .i64 k, .slice a c c'] := (q3.mono r1).append r3
  exact Ax.Ev.law Try.func8 (by kernel_rfl) r2 ha (by rw [← Ax.C.E_eq]; exact Ax.C.cacheWrites_ev hh3)

theorem lifted (os : Os) (started : os.Started) (H : Type) (enc : TypeId × Value → H) :
    ReturnsInHanded {} Try.checked os 8 .any (Rows.cacheWritesSpec.pre6 enc Try.prog Try.f8 Rows.cacheWritesRow.domain false) (Rows.cacheWritesSpec.post enc Try.prog Try.f8 false true false false) := by
  refine returnsInHanded_of_change_sized (C := Try.checked) own started (by kernel_rfl) Try.func8
    (ChangeSpec.witness6 (enc := enc) (C := Try.checked) false ⟨#[], #[.int .i64 0, .slice none 0 0], []⟩ 8 (by kernel_rfl) (by kernel_rfl) (by kernel_rfl) (by kernel_rfl)) ?_
  intro W base args ds gs before hval0 hW hcnd hwt _
  have hW' := hW
  obtain ⟨p, q, hA0, hV, rfl, hfz, hnd⟩ := hW
  have hA : DataW.TrodAll enc Try.prog W 0 (fun _ => true) true Try.f8.params.toList args.toList ds p := hA0
  have hval : ∀ (j : Nat) t v, Try.f8.params[j]? = some t → args[j]? = some v → Value.okWide Try.prog W .any base t v := hval0
  have hA1 := hA
  rw [Try.params8] at hA1 hval
  obtain ⟨v0, vs0, d0, ds0, p0, q0, hargs, rfl, rfl, h0, r0⟩ := trodAll_cons hA1
  obtain ⟨v1, vs1, d1, ds1, p1, q1, rfl, rfl, rfl, h1, r1⟩ := trodAll_cons r0
  obtain ⟨rfl, rfl, rfl⟩ := trodAll_nil r1
  obtain rfl : args = #[v0, v1] := by cases args; simp_all
  obtain ⟨rfl, rfl⟩ := trodVars_none hV
  clear hA0 hval0
  refine (walk (hval 0 3 v0 rfl rfl) (okWide_slice (show Try.prog.underlying 62 = some (.slice 65) by kernel_rfl) (hval 1 62 v1 rfl rfl)) h0 h1 (by
    have e : Try.f8.params.toList ++ Rows.cacheWritesSpec.plain.varTypes Try.checked.prog = [3, 62] := by rw [Try.params8]; rfl
    rw [e] at hwt
    exact hwt)).mono fun e W' ⟨he, hb⟩ => ?_
  subst he
  refine ⟨_, rfl, ⟨_, [], _, [], (p0 ++ (p1 ++ [])), [], hW', trodAll_cons_mk (shut_bool Try.underlying4 _) trodAll_mk0, ?_, rfl, hb.frame _, fun h => by cases h⟩⟩
  refine Ax.trodAll_below (by kernel_rfl) (by kernel_rfl) (by kernel_rfl) hb (fun t ht => of_decide_eq_true (List.all_eq_true.1 (show (Try.f8.params.toList.all fun t => decide (t < Try.checked.prog.types.size)) = true by kernel_rfl) t ht)) hA ?_
  intro x hx
  simpa using hA.lt x hx

theorem over : Rows.cacheWritesRow.holds Try.pinned (OpenSpec.ofChange Rows.cacheWritesSpec) :=
  OpenClaim.holds_of_wide 8 Try.f8 rfl rfl rfl rfl rfl rfl rfl ⟨rfl, rfl, rfl, rfl, rfl⟩ rfl rfl rfl rfl rfl (by kernel_rfl) Try.func8 (by kernel_rfl)
    (of_decide_eq_true (by kernel_rfl)) (by unfold Func.isWrapper; first | (rw [if_pos (by decide +kernel)]; kernel_rfl) | (rw [if_neg (by decide +kernel)]; exact ⟨rfl, rfl⟩))
    (fun os started H enc _ => lifted os started H enc)

theorem proved : Rows.CacheWritesSaid := over
#print axioms proved
end Go.Proofs.Ytfeamgocomlepaa.cacheWrites
