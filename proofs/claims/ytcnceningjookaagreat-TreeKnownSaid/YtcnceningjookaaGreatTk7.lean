/- Texts of one proof, joined. No statement of the seat is proved here. -/
import Derived.Test.YtcnceningjookaaGreatTk6
set_option linter.unusedVariables false
set_option linter.unusedSimpArgs false
set_option linter.unnecessarySimpa false
set_option linter.constructorNameAsVariable false
set_option maxRecDepth 100000
namespace Go.Ax.C
open Go.Proofs Go.RowKit
variable {l r r2 m : List Assn} {σ : AHeap} {Q : RK}
theorem flatten_get {z : Nat} {css : List (List Value)} {k j : Nat} {c : List Value} (hz : ∀ c ∈ css, c.length = z) (hk : css[k]? = some c) (hj : j < z) : css.flatten[k * z + j]? = c[j]? := by
  have := congrArg (·[j]?) (flatten_part hz hk)
  simp only [List.getElem?_take, if_pos hj, List.getElem?_drop] at this
  exact this
theorem flatten_set {z : Nat} : ∀ {css : List (List Value)} {k j : Nat} {c vs : List Value}, (∀ c ∈ css, c.length = z) → css[k]? = some c → j + vs.length ≤ z → splice css.flatten (k * z + j) vs = (css.set k (splice c j vs)).flatten
  | [], k, j, c, vs, _, h, _ => by simp at h
  | x :: css, 0, j, c, vs, hz, hk, hj => by
    simp at hk; subst hk
    have hx := hz x (by simp)
    simp only [List.flatten_cons, List.set_cons_zero, Nat.zero_mul, Nat.zero_add]
    rw [splice_append _ _ _ _ (by omega)]
  | x :: css, k + 1, j, c, vs, hz, hk, hj => by
    simp at hk
    have hx := hz x (by simp)
    have ih := flatten_set (k := k) (j := j) (c := c) (vs := vs) (fun c hc => hz c (by simp [hc])) hk hj
    simp only [List.flatten_cons, List.set_cons_succ]
    rw [← ih, show (k + 1) * z + j = x.length + (k * z + j) by rw [hx, Nat.succ_mul]; omega]
    unfold splice
    rw [List.take_append, List.drop_append, List.take_of_length_le (by omega), List.drop_of_length_le (by omega)]
    simp only [Nat.add_sub_cancel_left, List.nil_append, List.append_assoc]
    rw [show x.length + (k * z + j) + vs.length - x.length = k * z + j + vs.length by omega]
theorem storeN_own {l : List Assn} {σ : AHeap} (h : H l σ) (i : Nat) {e z n b o c k0 : Nat} {vs xs : List Value} {k : AHeap → Prop} (hi : l[i]? = some (Own e z (.slice (some ⟨b, 0, none⟩) n c) n xs)) (hn : 0 < n) (hl : vs.length = k0) (hp : 0 < k0) (hw : vs.all one = true) (ho : o + k0 ≤ xs.length)
    (hk : ∀ σ', H (l.set i (Own e z (.slice (some ⟨b, 0, none⟩) n c) n (splice xs o vs))) σ' → k σ') : pu (aStore k0 (.pointer (some ⟨b, o, none⟩)) (.agg vs.toArray) σ) k := by
  rcases H_own.1 (h.front i hi) with ⟨⟨rfl, rfl, _⟩, h⟩ | ⟨b', c', opn, rest, h1, hx, hr, hv, hn, ho2⟩
  · omega
  · cases hv
    refine storeN h1 0 rfl hl hp hw (by simp; omega) ?_
    intro σ' h3
    simp only [List.set_cons_zero] at h3
    rw [splice_append _ _ _ _ (by omega)] at h3
    exact hk _ (H.back i hi (H_own.2 (.inr ⟨b, c, opn, rest, h3, by rw [splice_length _ _ _ (by omega)]; exact hx, hr, rfl, hn, ho2⟩)))
structure Sp where
  at' : Nat
  n : Nd
  nx : Nat
  kv : Value
  vv : Value
def spc (s : Sp) : List Value := [.int .u64 s.at', .bool s.n.leaf, s.kv, s.vv, .int .i64 s.nx]
theorem spc_len {L : List Sp} : ∀ c ∈ L.map spc, c.length = 5 := by
  intro c hc
  obtain ⟨s, _, rfl⟩ := List.mem_map.1 hc
  rfl
def ndsL (L : List Sp) : List Assn := L.flatMap fun s => [RoU s.kv s.n.keys, RoU s.vv s.n.vals]
def NdsA (L : List Sp) : Assn := Star (ndsL L)
theorem NdsA.dup (L : List Sp) : Dup (NdsA L) := Dup.star fun A hA => by
  obtain ⟨s, _, hs⟩ := List.mem_flatMap.1 hA
  simp at hs
  rcases hs with rfl | rfl
  · exact RoU.dup _ _
  · exact RoU.dup _ _
theorem nds_app (L K : List Sp) : NdsA (L ++ K) = sep (NdsA L) (NdsA K) := by
  unfold NdsA ndsL
  rw [List.flatMap_append, Star_append]
theorem nds_one (s : Sp) : H (NdsA [s] :: l) σ ↔ H (RoU s.kv s.n.keys :: RoU s.vv s.n.vals :: l) σ := by
  unfold NdsA ndsL
  rw [H_star]; rfl
theorem nds_get {L : List Sp} {s : Sp} (h : H (NdsA L :: l) σ) (hs : s ∈ L) : H (RoU s.kv s.n.keys :: RoU s.vv s.n.vals :: NdsA L :: l) σ := by
  have h2 : H (NdsA L :: NdsA L :: l) σ := h.dup0 (NdsA.dup L)
  obtain ⟨A, B, e⟩ := List.append_of_mem hs
  have key : ∀ X, H (NdsA (A ++ ([s] ++ B)) :: X :: l) σ → H (NdsA [s] :: X :: l) σ := by
    intro X hX
    rw [nds_app, nds_app, H_sep] at hX
    have h3 := hX.tail
    rw [H_sep] at h3
    exact h3.second
  have h3 := key (NdsA L) (by rw [show A ++ ([s] ++ B) = L by rw [e]; rfl]; exact h2)
  exact (nds_one s).1 h3
theorem nds_set {L : List Sp} {k : Nat} {s : Sp} (h : H (NdsA L :: NdsA [s] :: l) σ) (hk : k < L.length) : H (NdsA (L.set k s) :: l) σ := by
  have e : L.set k s = L.take k ++ ([s] ++ L.drop (k + 1)) := by rw [List.set_eq_take_append_cons_drop, if_pos hk]; rfl
  rw [e, nds_app, nds_app, H_sep]
  have e2 : L = L.take k ++ ([L[k]] ++ L.drop (k + 1)) := by
    conv => lhs; rw [← List.take_append_drop k L, List.drop_eq_getElem_cons hk]
    rfl
  have h1 : H (sep (NdsA (L.take k)) (sep (NdsA [L[k]]) (NdsA (L.drop (k + 1)))) :: NdsA [s] :: l) σ := by
    rw [← nds_app, ← nds_app, ← e2]; exact h
  rw [H_sep] at h1
  have h2 : H (sep (NdsA [L[k]]) (NdsA (L.drop (k + 1))) :: NdsA (L.take k) :: NdsA [s] :: l) σ := h1.perm (.swap _ _ _)
  rw [H_sep] at h2
  have h3 : H (NdsA (L.drop (k + 1)) :: NdsA (L.take k) :: NdsA [s] :: l) σ := h2.tail
  have h4 : H (NdsA (L.take k) :: NdsA [s] :: NdsA (L.drop (k + 1)) :: l) σ := h3.perm ((List.Perm.swap _ _ _).trans ((List.Perm.swap _ _ _).cons _))
  have h5 : H (sep (NdsA [s]) (NdsA (L.drop (k + 1))) :: NdsA (L.take k) :: l) σ := by
    rw [H_sep]
    exact h4.perm ((List.Perm.swap _ _ _).trans ((List.Perm.swap _ _ _).cons _))
  exact h5.perm (.swap _ _ _)
structure StpOk (s : Sp) : Prop where
  sm : s.n.small
  eq : s.n.vals.length = s.n.keys.length
  le : s.n.keys.length ≤ 400
  at8 : s.at' < 2147483648
  nx : s.nx < 1000
  o1 : one s.kv = true
  o2 : one s.vv = true
abbrev WyL (wb sb : Nat) (wv : Value) (L : List Sp) (l : List Assn) : List Assn :=
  pt wb (.cells [.pointer (some ⟨sb, 0, none⟩), wv] t_tree_way false) :: Own t_tree_step 5 wv L.length (L.map spc).flatten :: NdsA L :: l
def WyA (wb sb : Nat) (L : List Sp) : Assn := ex fun wv : Value => sep (pure' (∀ s ∈ L, StpOk s)) (Star (WyL wb sb wv L []))
theorem H_wy {wb sb : Nat} {L : List Sp} : H (WyA wb sb L :: l) σ ↔ ∃ wv, (∀ s ∈ L, StpOk s) ∧ H (WyL wb sb wv L l) σ := by
  unfold WyA
  rw [H_ex]
  constructor
  · rintro ⟨wv, h⟩
    rw [H_sep, H_pure, H_star] at h
    exact ⟨wv, h.1, h.2⟩
  · rintro ⟨wv, h1, h2⟩
    refine ⟨wv, ?_⟩
    rw [H_sep, H_pure, H_star]
    exact ⟨h1, h2⟩
theorem sp_el {wb sb k : Nat} {wv : Value} {L : List Sp} {s : Sp} (h : H (WyL wb sb wv L l) σ) (hk : L[k]? = some s) :
    ∃ b c, wv = .slice (some ⟨b, 0, none⟩) L.length c ∧ (∀ kd, aIndexAddr 5 wv (.int kd (k : Nat)) = some (.pointer (some ⟨b, k * 5, none⟩))) ∧ (∀ m, aLoad false m (.pointer (some ⟨b, k * 5, none⟩)) σ = some (.int .u64 s.at')) ∧
      (∀ m, aLoad false m (.pointer (some ⟨b, k * 5 + 1, none⟩)) σ = some (.bool s.n.leaf)) ∧ (∀ m, aLoad false m (.pointer (some ⟨b, k * 5 + 2, none⟩)) σ = some s.kv) ∧
      (∀ m, aLoad false m (.pointer (some ⟨b, k * 5 + 3, none⟩)) σ = some s.vv) ∧ (∀ m, aLoad false m (.pointer (some ⟨b, k * 5 + 4, none⟩)) σ = some (.int .i64 s.nx)) := by
  have hkl := (List.getElem?_eq_some_iff.1 hk).1
  obtain ⟨b, e1, e2, e3⟩ := h.own_elem 1 rfl hkl
  obtain ⟨b', c, hwv, _⟩ := h.own_form 1 rfl (by omega)
  have hbb : b' = b := by
    have := e1 .i64
    rw [hwv, idxA (by omega)] at this
    simp at this; exact this
  subst hbb
  have hc : (L.map spc)[k]? = some (spc s) := by rw [List.getElem?_map, hk]; rfl
  have g : ∀ j, j < 5 → (L.map spc).flatten[k * 5 + j]? = (spc s)[j]? := fun j hj => flatten_get spc_len hc hj
  refine ⟨b', c, hwv, e1, fun m => ?_, fun m => ?_, fun m => ?_, fun m => ?_, fun m => ?_⟩
  · have := e3 m 0 (by omega); rw [g 0 (by omega)] at this; exact this
  · have := e3 m 1 (by omega); rw [g 1 (by omega)] at this; exact this
  · have := e3 m 2 (by omega); rw [g 2 (by omega)] at this; exact this
  · have := e3 m 3 (by omega); rw [g 3 (by omega)] at this; exact this
  · have := e3 m 4 (by omega); rw [g 4 (by omega)] at this; exact this
theorem wy_len {wb sb : Nat} {wv : Value} {L : List Sp} (h : H (WyL wb sb wv L l) σ) : lenS wv = some (.int .i64 L.length) := own_len h.tail
def flt (e : Nat) : Value := .iface t_tree_fault (.agg #[.int .i64 e])
theorem must0 (hQ : Q (.ret (.tuple #[])) σ) : E f_tree_must [.int .i64 0] σ Q := by
  apply e_tree_must; unfold s_tree_must
  exact hQ
theorem must1 {e : Nat} (he : e ≠ 0) (hQ : Q (.pan (flt e)) σ) : E f_tree_must [.int .i64 e] σ Q := by
  apply e_tree_must; unfold s_tree_must
  refine If_ne (fun _ => hQ) fun g => absurd g (by omega)
def svN (T : TS) (a : Nat) (n : Nd) : R Unit := if n.fits then if n.May then if a < T.now.length then .ok () (T.put a n) else .stuck else .err 1 T else .ok () T
theorem svN_now {T T' : TS} {a : Nat} {n : Nd} (h : svN T a n = .ok () T') : T'.now = T.now ∧ T'.was = T.was := by
  unfold svN at h
  split at h
  · split at h
    · split at h
      · cases h; exact ⟨rfl, rfl⟩
      · cases h
    · cases h
  · cases h; exact ⟨rfl, rfl⟩
theorem wsave {wb sb rb k : Nat} {T : TS} {M : Nat} {L : List Sp} {s : Sp} {n : Nd} {kv vv : Value} (h : H (WyA wb sb L :: StA sb rb T M :: RoU kv n.keys :: RoU vv n.vals :: l) σ) (hM : M ≤ 100000000000) (hk : L[k]? = some s)
    (hs : n.small) (he : n.vals.length = n.keys.length) (hl : n.keys.length ≤ 400) (hst : svN T s.at' n ≠ .stuck)
    (hno : ∀ e σ', e ≠ 0 → svN T s.at' n = .err e T → H (StA sb rb T (M + 1) :: l) σ' → Q (.pan (flt e)) σ')
    (hyes : ∀ T' σ', svN T s.at' n = .ok () T' → H (WyA wb sb (L.set k { s with n := n, kv := kv, vv := vv }) :: StA sb rb T' (M + 1) :: l) σ' → Q (.ret (.tuple #[])) σ') :
    E f_tree_way_save [.pointer (some ⟨wb, 0, none⟩), .int .i64 k, .agg #[.bool n.leaf, kv, vv]] σ Q := by
  apply e_tree_way_save; unfold s_tree_way_save
  refine nw h ?_
  intro b1 σ1 h1
  obtain ⟨wv, hok, h2⟩ := H_wy.1 (h1.perm (.swap _ _ _))
  have hkl := (List.getElem?_eq_some_iff.1 hk).1
  have hso := hok s (List.mem_of_getElem? hk)
  obtain ⟨ak, ck, hkv⟩ := rou_form (h2.re : H (RoU kv n.keys :: l) σ1)
  obtain ⟨av, cv, hvv⟩ := rou_form (h2.re : H (RoU vv n.vals :: l) σ1)
  have ok1 : one kv = true := by rw [hkv]; rfl
  have ok2 : one vv = true := by rw [hvv]; rfl
  obtain ⟨b, c, hwv, e1, _⟩ := sp_el h2 hk
  rw [LV h2, LB h2, LV h2, LV h2, e1, om_some, fieldAddr_ptr, om_some]
  subst hwv
  have hb5 : k * 5 + 5 ≤ (L.map spc).flatten.length := by
    rw [flatten_len spc_len, List.length_map, ← Nat.succ_mul]
    exact Nat.mul_le_mul_right _ hkl
  refine storeN_own (vs := [.bool n.leaf, kv, vv]) h2 1 rfl (by omega) rfl (by omega) (by simp only [List.all_cons, ok1, ok2, List.all_nil]; rfl) (by omega) ?_
  intro σ2 h3
  have ec : splice (L.map spc).flatten (k * 5 + 1) [.bool n.leaf, kv, vv] = ((L.set k { s with n := n, kv := kv, vv := vv }).map spc).flatten := by
    rw [flatten_set spc_len (c := spc s) (by rw [List.getElem?_map, hk]; rfl) (by simp), List.map_set]
    rfl
  rw [ec] at h3
  have h3 : H (pt wb (.cells [.pointer (some ⟨sb, 0, none⟩), .slice (some ⟨b, 0, none⟩) L.length c] t_tree_way false) :: Own t_tree_step 5 (.slice (some ⟨b, 0, none⟩) L.length c) L.length ((L.set k { s with n := n, kv := kv, vv := vv }).map spc).flatten :: NdsA L :: pt b1 (.cells [.bool n.leaf, kv, vv] t_api_Node false) :: StA sb rb T M :: RoU kv n.keys :: RoU vv n.vals :: l) σ2 := h3
  have hsl : (L.set k { s with n := n, kv := kv, vv := vv }).length = L.length := by simp
  -- the way with the node in its place
  have hwy : H (WyA wb sb (L.set k { s with n := n, kv := kv, vv := vv }) :: StA sb rb T M :: pt b1 (.cells [.bool n.leaf, kv, vv] t_api_Node false) :: RoU kv n.keys :: RoU vv n.vals :: l) σ2 := by
    refine H_wy.2 ⟨.slice (some ⟨b, 0, none⟩) L.length c, fun x hx => ?_, ?_⟩
    · rcases List.mem_or_eq_of_mem_set hx with h | h
      · exact hok x h
      · subst h; exact ⟨hs, he, hl, hso.at8, hso.nx, ok1, ok2⟩
    · unfold WyL
      rw [hsl]
      have h4 : H (NdsA L :: pt wb (.cells [.pointer (some ⟨sb, 0, none⟩), .slice (some ⟨b, 0, none⟩) L.length c] t_tree_way false) :: Own t_tree_step 5 (.slice (some ⟨b, 0, none⟩) L.length c) L.length ((L.set k { s with n := n, kv := kv, vv := vv }).map spc).flatten :: pt b1 (.cells [.bool n.leaf, kv, vv] t_api_Node false) :: StA sb rb T M :: RoU kv n.keys :: RoU vv n.vals :: l) σ2 := h3.re
      have h5 : H (RoU kv n.keys :: RoU vv n.vals :: NdsA L :: pt wb (.cells [.pointer (some ⟨sb, 0, none⟩), .slice (some ⟨b, 0, none⟩) L.length c] t_tree_way false) :: Own t_tree_step 5 (.slice (some ⟨b, 0, none⟩) L.length c) L.length ((L.set k { s with n := n, kv := kv, vv := vv }).map spc).flatten :: pt b1 (.cells [.bool n.leaf, kv, vv] t_api_Node false) :: StA sb rb T M :: RoU kv n.keys :: RoU vv n.vals :: l) σ2 := by
        have q1 : H (RoU kv n.keys :: _) σ2 := h4.fnd (RoU kv n.keys)
        have q2 := rou_dup q1
        have q3 : H (RoU vv n.vals :: _) σ2 := q2.fnd (RoU vv n.vals)
        have q4 := rou_dup q3
        exact q4.re
      have h6 : H (NdsA L :: NdsA [{ s with n := n, kv := kv, vv := vv }] :: pt wb (.cells [.pointer (some ⟨sb, 0, none⟩), .slice (some ⟨b, 0, none⟩) L.length c] t_tree_way false) :: Own t_tree_step 5 (.slice (some ⟨b, 0, none⟩) L.length c) L.length ((L.set k { s with n := n, kv := kv, vv := vv }).map spc).flatten :: pt b1 (.cells [.bool n.leaf, kv, vv] t_api_Node false) :: StA sb rb T M :: RoU kv n.keys :: RoU vv n.vals :: l) σ2 :=
        ((nds_one { s with n := n, kv := kv, vv := vv }).2 h5).perm (.swap _ _ _)
      exact (nds_set h6 hkl).re
  have hdrop : ∀ {τ : AHeap} {T1 : TS} {N : Nat}, H (WyA wb sb (L.set k { s with n := n, kv := kv, vv := vv }) :: StA sb rb T1 N :: pt b1 (.cells [.bool n.leaf, kv, vv] t_api_Node false) :: RoU kv n.keys :: RoU vv n.vals :: l) τ → H (WyA wb sb (L.set k { s with n := n, kv := kv, vv := vv }) :: StA sb rb T1 N :: l) τ := fun ht => ht.re
  have hlv : lenS kv = some (.int .i64 n.keys.length) := by rw [hkv]; rfl
  unfold svN at hst hno hyes
  have h3' : H (pt b1 (.cells [.bool n.leaf, kv, vv] t_api_Node false) :: l) σ2 := hwy.re
  rw [LV h3', hlv, ldI_some]
  have skip : ¬ n.fits → Q (.ret (.tuple #[])) σ2 := fun hf => by
    rw [if_neg hf] at hyes
    refine hyes T σ2 rfl ?_
    have q : H (StA sb rb T M :: WyA wb sb (L.set k { s with n := n, kv := kv, vv := vv }) :: l) σ2 := hwy.re
    exact (st_le (by omega) q).perm (.swap _ _ _)
  have k3 : s_tree_way_save_k3 E Q (decide ((n.keys.length : Int) ≤ 8)) wb k b1 σ2 ∨ n.keys.length = 0 := by
    by_cases h0 : n.keys.length = 0
    · exact .inr h0
    left
    unfold s_tree_way_save_k3
    refine If_dec (fun g => ?_) fun g => skip (fun hf => g (by have := hf.2; omega))
    have hf : n.fits := ⟨by omega, by omega⟩
    rw [if_pos hf] at hst hno hyes
    obtain ⟨wv, hok', h5⟩ := H_wy.1 hwy
    obtain ⟨b2, c2, hwv2, f1, f2, _⟩ := sp_el h5 (k := k) (s := { s with n := n, kv := kv, vv := vv }) (by rw [List.getElem?_set, if_pos rfl, if_pos hkl])
    rw [LV h5, LV h5, f1, om_some, fieldAddr_ptr, Nat.add_zero, om_some, f2, ldI_some, LB h5, LV h5, LV h5]
    have hwy' : H (StA sb rb T M :: WyA wb sb (L.set k { s with n := n, kv := kv, vv := vv }) :: pt b1 (.cells [.bool n.leaf, kv, vv] t_api_Node false) :: RoU kv n.keys :: RoU vv n.vals :: l) σ2 := hwy.re
    refine ssave hwy' (by omega) (NdS.two.cons.cons) hs (by omega) (by omega) ?_ ?_ ?_
    · intro hor τ ht
      rw [cI_ret]
      have hm : ¬ n.May := by
        rcases hor with h | h
        · have := hso.at8; simp only at h; omega
        · exact h
      rw [if_neg hm] at hno
      refine must1 (by decide) ?_
      exact hno 1 τ (by decide) rfl (st_le (by omega) (ht.re : H (StA sb rb T M :: l) τ))
    · intro _ hm hge τ ht
      rw [if_pos hm, if_neg (by simpa using hge)] at hst
      exact absurd rfl hst
    · intro hm ha τ ht
      rw [if_pos hm, if_pos ha] at hyes
      rw [cI_ret]
      refine must0 ?_
      rw [c0_ret]
      exact hyes _ τ rfl ht.re
  refine If_dec (fun g => ?_) fun g => ?_
  · rw [LV h3', hlv, ldI_some]
    rcases k3 with h | h
    · exact h
    · omega
  · unfold s_tree_way_save_k3
    exact skip (fun hf => g (by have := hf.1; omega))
def Nd.setN (n : Nd) (i key val : Nat) : Nd := ⟨n.leaf, setF i key val true n.keys, setF i key val false n.vals⟩
theorem small_set {n : Nd} {i key val : Nat} (h : n.small) (hk : key < 18446744073709551616) (hv : val < 18446744073709551616) : (n.setN i key val).small := by
  refine ⟨fun x hx => ?_, fun x hx => ?_⟩
  · rcases List.mem_or_eq_of_mem_set hx with h1 | h1
    · exact h.1 x h1
    · simp at h1; omega
  · rcases List.mem_or_eq_of_mem_set hx with h1 | h1
    · exact h.2 x h1
    · simp at h1; omega
theorem wset {wb sb rb k i key val : Nat} {T : TS} {M : Nat} {L : List Sp} {s : Sp} (h : H (WyA wb sb L :: StA sb rb T M :: l) σ) (hM : M ≤ 100000000000) (hk : L[k]? = some s) (hi : i < s.n.keys.length) (hkey : key < 18446744073709551616) (hval : val < 18446744073709551616)
    (hst : svN T s.at' (s.n.setN i key val) ≠ .stuck)
    (hno : ∀ e σ', e ≠ 0 → svN T s.at' (s.n.setN i key val) = .err e T → H (StA sb rb T (M + 1) :: l) σ' → Q (.pan (flt e)) σ')
    (hyes : ∀ T' kv vv σ', svN T s.at' (s.n.setN i key val) = .ok () T' → H (WyA wb sb (L.set k { s with n := s.n.setN i key val, kv := kv, vv := vv }) :: StA sb rb T' (M + 1) :: l) σ' → Q (.ret (.tuple #[])) σ') :
    E f_tree_way_set [.pointer (some ⟨wb, 0, none⟩), .int .i64 k, .int .i64 i, .int .u64 key, .int .u64 val] σ Q := by
  apply e_tree_way_set; unfold s_tree_way_set
  obtain ⟨wv, hok, h2⟩ := H_wy.1 h
  have hso := hok s (List.mem_of_getElem? hk)
  obtain ⟨b, c, hwv, e1, e2, e3, e4, e5, e6⟩ := sp_el h2 hk
  rw [LV h2, e1, om_some]
  simp only [fieldAddr_ptr, om_some, Nat.add_assoc, Nat.reduceAdd, Nat.add_zero]
  rw [e3, ldB_some, e4, om_some, e5, om_some]
  have h3 : H (NdsA L :: StA sb rb T M :: pt wb (.cells [.pointer (some ⟨sb, 0, none⟩), wv] t_tree_way false) :: Own t_tree_step 5 wv L.length (L.map spc).flatten :: l) σ := h2.re
  have h4 := nds_get h3 (List.mem_of_getElem? hk)
  have hl := hso.le
  refine kset (lf := s.n.leaf) h4 NdS.two hso.eq.symm (by omega) hi ?_
  intro kv' vv' σ1 h5
  rw [cV_ret]
  have h6 : H (WyA wb sb L :: StA sb rb T M :: RoU kv' (s.n.setN i key val).keys :: RoU vv' (s.n.setN i key val).vals :: l) σ1 := by
    refine H_wy.2 ⟨wv, hok, ?_⟩
    have h5 : H (RoU kv' (s.n.setN i key val).keys :: RoU vv' (s.n.setN i key val).vals :: RoU s.kv s.n.keys :: RoU s.vv s.n.vals :: NdsA L :: StA sb rb T M :: pt wb (.cells [.pointer (some ⟨sb, 0, none⟩), wv] t_tree_way false) :: Own t_tree_step 5 wv L.length (L.map spc).flatten :: l) σ1 := h5
    exact h5.re
  refine wsave (n := s.n.setN i key val) h6 hM hk (small_set hso.sm hkey hval) (by simp [Nd.setN, setF]; exact hso.eq) (by simp [Nd.setN, setF]; exact hl) hst ?_ ?_
  · intro e σ' he hn ht
    rw [c0_pan]
    exact hno e σ' he hn ht
  · intro T' σ' hn ht
    rw [c0_ret]
    exact hyes T' kv' vv' σ' hn ht
end Go.Ax.C
set_option maxRecDepth 100000
namespace Go.Ax.C
open Go.Proofs Go.RowKit
variable {l r r2 m : List Assn} {σ : AHeap} {Q : RK}
structure Wp where
  at' : Nat
  n : Nd
  nx : Nat
def Sp.w (s : Sp) : Wp := ⟨s.at', s.n, s.nx⟩
def wsetA (P : List Wp) (k i key val : Nat) (T : TS) : R (List Wp) :=
  match P[k]? with
  | none => .stuck
  | some s => if i < s.n.keys.length then (svN T s.at' (s.n.setN i key val)).bind fun _ T => .ok (P.set k { s with n := s.n.setN i key val }) T else .stuck
def lnkA (P : List Wp) (a own : Nat) (T : TS) : R (List Wp) :=
  match P[P.length - 1]? with
  | none => .ok P T
  | some s => if own = a then .ok P T else match s.n.keys[s.nx]? with
    | none => .stuck
    | some key => wsetA P (P.length - 1) s.nx key own T
def lowA (lower : Bool) (key : Nat) (P : List Wp) (n : Nd) (T : TS) : R (List Wp) :=
  match n.keys[0]?, n.vals[0]? with
  | some k0, some v0 => if lower = true ∧ key < k0 then wsetA P (P.length - 1) 0 key v0 T else .ok P T
  | _, _ => .stuck
def nextA (key : Nat) (P : List Wp) (go : List Wp → Nat → TS → R (List Wp)) (T : TS) : R (List Wp) :=
  match P[P.length - 1]? with
  | none => .stuck
  | some s => match s.n.vals[childK s.n.keys key]? with
    | none => .stuck
    | some v => go (P.set (P.length - 1) { s with nx := childK s.n.keys key }) v T
def downA (lower : Bool) (key : Nat) : Nat → List Wp → Nat → TS → R (List Wp)
  | 0, _, _, T => .err 23 T
  | f + 1, P, a, T => (T.shadow a).bind fun q T => (lnkA P a q.1 T).bind fun P T =>
      if q.2.leaf then .ok (P ++ [⟨q.1, q.2, 0⟩]) T
      else (lowA lower key (P ++ [⟨q.1, q.2, 0⟩]) q.2 T).bind fun P T => nextA key P (downA lower key f) T
theorem wset' {wb sb rb k i key val : Nat} {T : TS} {M : Nat} {L : List Sp} (h : H (WyA wb sb L :: StA sb rb T M :: l) σ) (hM : M ≤ 100000000000) (hkey : key < 18446744073709551616) (hval : val < 18446744073709551616)
    (hst : wsetA (L.map Sp.w) k i key val T ≠ .stuck)
    (hno : ∀ e T' σ', e ≠ 0 → wsetA (L.map Sp.w) k i key val T = .err e T' → H (StA sb rb T' (M + 1) :: l) σ' → Q (.pan (flt e)) σ')
    (hyes : ∀ T' L' σ', L'.length = L.length → wsetA (L.map Sp.w) k i key val T = .ok (L'.map Sp.w) T' → H (WyA wb sb L' :: StA sb rb T' (M + 1) :: l) σ' → Q (.ret (.tuple #[])) σ') :
    E f_tree_way_set [.pointer (some ⟨wb, 0, none⟩), .int .i64 k, .int .i64 i, .int .u64 key, .int .u64 val] σ Q := by
  unfold wsetA at hst hno hyes
  cases hk : L[k]? with
  | none => rw [List.getElem?_map, hk] at hst; exact absurd rfl hst
  | some s =>
    rw [List.getElem?_map, hk] at hst hno hyes
    simp only [Option.map_some] at hst hno hyes
    have hw : s.w = ⟨s.at', s.n, s.nx⟩ := rfl
    rw [hw] at hst hno hyes
    simp only at hst hno hyes
    by_cases hi : i < s.n.keys.length
    · rw [if_pos hi] at hst hno hyes
      refine wset h hM hk hi hkey hval (fun e => hst (by rw [e]; rfl)) ?_ ?_
      · intro e σ' he hn ht
        exact hno e T σ' he (by rw [hn]; rfl) ht
      · intro T' kv vv σ' hn ht
        refine hyes T' _ σ' (by simp) ?_ ht
        rw [hn, List.map_set]; rfl
    · rw [if_neg hi] at hst; exact absurd rfl hst
theorem wy_push {wb sb sb2 : Nat} {wv : Value} {L : List Sp} {s : Sp} {K : Value × AHeap → Prop} (h : H (pt sb2 (.cells (spc s) t_tree_step false) :: WyL wb sb wv L (RoU s.kv s.n.keys :: RoU s.vv s.n.vals :: l)) σ) (hok : ∀ s ∈ L, StpOk s) (hs : StpOk s) (hL : L.length ≤ 1000)
    (hK : ∀ w σ', one w = true → (∀ τ, H (pt wb (.cells [.pointer (some ⟨sb, 0, none⟩), w] t_tree_way false) :: Own t_tree_step 5 w (L.length + 1) ((L ++ [s]).map spc).flatten :: NdsA (L ++ [s]) :: l) τ → H (WyA wb sb (L ++ [s]) :: l) τ) →
      H (pt wb (.cells [.pointer (some ⟨sb, 0, none⟩), wv] t_tree_way false) :: Own t_tree_step 5 w (L.length + 1) ((L ++ [s]).map spc).flatten :: NdsA (L ++ [s]) :: l) σ' → K (w, σ')) :
    pu (aAppend t_tree_step 5 72 wv (.slice (some ⟨sb2, 0, none⟩) 1 1) σ) K := by
  have ht : srcOf 5 (.slice (some ⟨sb2, 0, none⟩) 1 1) σ = some (1, spc s) := by
    rw [src_row (h.row 0 rfl) (by simp [spc])]; rfl
  refine append_own h 2 rfl ht (by omega) (by omega) (by simp only [spc, List.all_cons, hs.o1, hs.o2, List.all_nil]; rfl) ?_
  intro w σ1 h1
  have ho := O.own_one h1 (i := 2) rfl
  have h2 : H (pt sb2 (.cells (spc s) t_tree_step false) :: pt wb (.cells [.pointer (some ⟨sb, 0, none⟩), wv] t_tree_way false) :: Own t_tree_step 5 w (L.length + 1) ((L.map spc).flatten ++ spc s) :: NdsA L :: RoU s.kv s.n.keys :: RoU s.vv s.n.vals :: l) σ1 := h1
  have e : (L.map spc).flatten ++ spc s = ((L ++ [s]).map spc).flatten := by simp
  rw [e] at h2
  refine hK w σ1 ho (fun τ ht => H_wy.2 ⟨w, fun x hx => ?_, ?_⟩) ?_
  · rcases List.mem_append.1 hx with h | h
    · exact hok x h
    · simp at h; subst h; exact hs
  · unfold WyL
    rw [List.length_append]
    exact ht
  · have h3 : H (RoU s.kv s.n.keys :: RoU s.vv s.n.vals :: NdsA L :: pt wb (.cells [.pointer (some ⟨sb, 0, none⟩), wv] t_tree_way false) :: Own t_tree_step 5 w (L.length + 1) ((L ++ [s]).map spc).flatten :: l) σ1 := h2.re
    have h4 := (nds_one s).2 h3
    have h5 : H (sep (NdsA L) (NdsA [s]) :: pt wb (.cells [.pointer (some ⟨sb, 0, none⟩), wv] t_tree_way false) :: Own t_tree_step 5 w (L.length + 1) ((L ++ [s]).map spc).flatten :: l) σ1 := by
      rw [H_sep]; exact h4.perm (.swap _ _ _)
    rw [← nds_app] at h5
    exact h5.re
theorem st_ptr0 {sb rb : Nat} {T : TS} {M : Nat} (h : H (StA sb rb T M :: l) σ) : L sb 0 σ = some (.pointer (some ⟨rb, 0, none⟩)) := by
  obtain ⟨cb, dv, K, C, D, _, h6⟩ := H_st.1 h
  exact L_eq h6
theorem down_k16 {N1 : Int → AHeap → Prop} {wb sb rb key : Nat} {T : TS} {M : Nat} {L : List Sp} {s : Sp} {go : List Wp → Nat → TS → R (List Wp)} (h : H (WyA wb sb L :: StA sb rb T M :: l) σ) (hs : L[L.length - 1]? = some s) (hkey : key < 18446744073709551616)
    (hst : nextA key (L.map Sp.w) go T ≠ .stuck)
    (hN : ∀ v L' σ', L'.length = L.length → nextA key (L.map Sp.w) go T = go (L'.map Sp.w) v T → v < 18446744073709551616 → H (WyA wb sb L' :: StA sb rb T M :: l) σ' → N1 v σ') :
    s_tree_down_k16 N1 E Q wb ((L.length - 1 : Nat) : Int) key σ := by
  unfold s_tree_down_k16
  obtain ⟨wv, hok, h2⟩ := H_wy.1 h
  have hso := hok s (List.mem_of_getElem? hs)
  have hLl := (List.getElem?_eq_some_iff.1 hs).1
  obtain ⟨b, c, hwv, e1, e2, e3, e4, e5, e6⟩ := sp_el h2 hs
  rw [LV h2, e1, om_some]
  simp only [fieldAddr_ptr, om_some, Nat.add_assoc, Nat.reduceAdd, Nat.add_zero]
  rw [e3, ldB_some, e4, om_some, e5, om_some]
  have h3 : H (NdsA L :: StA sb rb T M :: pt wb (.cells [.pointer (some ⟨sb, 0, none⟩), wv] t_tree_way false) :: Own t_tree_step 5 wv L.length (L.map spc).flatten :: l) σ := h2.re
  have h4 := nds_get h3 (List.mem_of_getElem? hs)
  have hl := hso.le
  refine kchild (lf := s.n.leaf) h4 NdS.two hso.eq.symm (by omega) ?_
  intro σ1 h5
  rw [cI_ret]
  have h6 : H (pt wb (.cells [.pointer (some ⟨sb, 0, none⟩), wv] t_tree_way false) :: Own t_tree_step 5 wv L.length (L.map spc).flatten :: NdsA L :: StA sb rb T M :: l) σ1 := h5.re
  rw [LV h6, e1, om_some]
  simp only [fieldAddr_ptr, om_some, Nat.add_assoc, Nat.reduceAdd, Nat.add_zero]
  subst hwv
  have hb5 : (L.length - 1) * 5 + 4 < (L.map spc).flatten.length := by
    rw [flatten_len spc_len, List.length_map]
    omega
  refine store_own h6 1 rfl (by omega) rfl hb5 ?_
  intro σ2 h7
  unfold nextA at hst hN
  have hPs : (L.map Sp.w)[(L.map Sp.w).length - 1]? = some s.w := by rw [List.length_map, List.getElem?_map, hs]; rfl
  rw [hPs] at hst hN
  simp only at hst hN
  have hw : s.w = ⟨s.at', s.n, s.nx⟩ := rfl
  rw [hw] at hst hN
  simp only at hst hN
  cases hv : s.n.vals[childK s.n.keys key]? with
  | none => rw [hv] at hst; exact absurd rfl hst
  | some v =>
  rw [hv] at hN
  simp only at hN
  have hcl := (List.getElem?_eq_some_iff.1 hv).1
  have hs1 : (L.map spc)[L.length - 1]? = some (spc s) := by rw [List.getElem?_map, hs]; rfl
  have ec : (L.map spc).flatten.set ((L.length - 1) * 5 + 4) (.int .i64 (childK s.n.keys key : Nat)) = ((L.set (L.length - 1) { s with nx := childK s.n.keys key }).map spc).flatten := by
    rw [← splice_one _ _ _ hb5, flatten_set spc_len (c := spc s) hs1 (by simp), List.map_set]
    rfl
  rw [ec] at h7
  have h8 : H (WyL wb sb (.slice (some ⟨b, 0, none⟩) L.length c) (L.set (L.length - 1) { s with nx := childK s.n.keys key }) (NdsA L :: StA sb rb T M :: l)) σ2 := by
    have q0 : H (pt wb (.cells [.pointer (some ⟨sb, 0, none⟩), .slice (some ⟨b, 0, none⟩) L.length c] t_tree_way false) :: Own t_tree_step 5 (.slice (some ⟨b, 0, none⟩) L.length c) L.length ((L.set (L.length - 1) { s with nx := childK s.n.keys key }).map spc).flatten :: NdsA L :: StA sb rb T M :: l) σ2 := h7
    have q : H (NdsA L :: pt wb (.cells [.pointer (some ⟨sb, 0, none⟩), .slice (some ⟨b, 0, none⟩) L.length c] t_tree_way false) :: Own t_tree_step 5 (.slice (some ⟨b, 0, none⟩) L.length c) L.length ((L.set (L.length - 1) { s with nx := childK s.n.keys key }).map spc).flatten :: StA sb rb T M :: l) σ2 := q0.re
    have q2 := nds_get q (List.mem_of_getElem? hs)
    have q3 : H (NdsA [{ s with nx := childK s.n.keys key }] :: NdsA L :: _) σ2 := (nds_one { s with nx := childK s.n.keys key }).2 q2
    have q4 := q3.dup 1 rfl (NdsA.dup L)
    have q5 : H (NdsA L :: NdsA [{ s with nx := childK s.n.keys key }] :: NdsA L :: pt wb (.cells [.pointer (some ⟨sb, 0, none⟩), .slice (some ⟨b, 0, none⟩) L.length c] t_tree_way false) :: Own t_tree_step 5 (.slice (some ⟨b, 0, none⟩) L.length c) L.length ((L.set (L.length - 1) { s with nx := childK s.n.keys key }).map spc).flatten :: StA sb rb T M :: l) σ2 := by
      have := q4.unsnoc
      exact this.re
    have q6 := nds_set q5 (by omega : L.length - 1 < L.length)
    unfold WyL
    rw [List.length_set]
    exact q6.re
  have hsn : (L.set (L.length - 1) { s with nx := childK s.n.keys key })[L.length - 1]? = some { s with nx := childK s.n.keys key } := by rw [List.getElem?_set, if_pos rfl, if_pos (by omega)]
  obtain ⟨b2, c2, hwv2, g1, g2, g3, g4, g5, g6⟩ := sp_el h8 hsn
  rw [LV h8, g1, om_some]
  simp only [fieldAddr_ptr, om_some, Nat.add_assoc, Nat.reduceAdd, Nat.add_zero]
  rw [g5, om_some]
  have h9 : H (NdsA L :: l) σ2 := h8.re
  have hus := (NdS.two (l := NdsA L :: l) (n := s.n) σ2 (nds_get h9 (List.mem_of_getElem? hs))).2
  obtain ⟨p, ia, la⟩ := us_get hus hv
  rw [ia, om_some, la, ldI_some]
  refine hN v (L.set (L.length - 1) { s with nx := childK s.n.keys key }) σ2 (by simp) ?_ (hso.sm.2 v (List.mem_of_getElem? hv)) ?_
  · rw [List.map_set, List.length_map]; rfl
  · refine H_wy.2 ⟨.slice (some ⟨b, 0, none⟩) L.length c, fun x hx => ?_, h8.re⟩
    rcases List.mem_or_eq_of_mem_set hx with h | h
    · exact hok x h
    · subst h
      have := hso.eq
      exact ⟨hso.sm, hso.eq, hso.le, hso.at8, show childK s.n.keys key < 1000 by omega, hso.o1, hso.o2⟩
set_option maxHeartbeats 1000000 in
theorem wdown {sb rb root key : Nat} {lower : Bool} {T : TS} {M : Nat} (h : H (StA sb rb T M :: l) σ) (hM : M ≤ 90000000000) (hroot : root < 18446744073709551616) (hkey : key < 18446744073709551616) (hst : downA lower key 12 [] root T ≠ .stuck)
    (hno : ∀ e T' σ', e ≠ 0 → downA lower key 12 [] root T = .err e T' → H (StA sb rb T' (M + 60) :: l) σ' → Q (.pan (flt e)) σ')
    (hyes : ∀ wb L T' σ', downA lower key 12 [] root T = .ok (L.map Sp.w) T' → L.length ≤ 12 → H (WyA wb sb L :: StA sb rb T' (M + 60) :: l) σ' → Q (.ret (.pointer (some ⟨wb, 0, none⟩))) σ') :
    E f_tree_down [.pointer (some ⟨sb, 0, none⟩), .int .u64 root, .int .u64 key, .bool lower] σ Q := by
  apply e_tree_down; unfold s_tree_down
  refine nw h ?_
  intro wb σ1 h1
  have h2 := (h1.own_nil t_tree_step 5).unsnoc
  have h3 : H (WyA wb sb [] :: StA sb rb T M :: l) σ1 := by
    refine H_wy.2 ⟨.slice none 0 0, by simp, ?_⟩
    have h4 : H (NdsA [] :: Own t_tree_step 5 (.slice none 0 0) 0 [] :: pt wb (.cells [.pointer (some ⟨sb, 0, none⟩), .slice none 0 0] t_tree_way false) :: StA sb rb T M :: l) σ1 := H_emp.2 h2
    have h5 : H (pt wb (.cells [.pointer (some ⟨sb, 0, none⟩), .slice none 0 0] t_tree_way false) :: Own t_tree_step 5 (.slice none 0 0) 0 [] :: NdsA [] :: StA sb rb T M :: l) σ1 := h4.re
    exact h5
  refine ⟨fun m i τ => ∃ (a : Nat) (L : List Sp) (T1 : TS), i = a ∧ a < 18446744073709551616 ∧ m = 12 - L.length ∧ L.length ≤ 12 ∧ downA lower key 12 [] root T = downA lower key (12 - L.length) (L.map Sp.w) a T1 ∧ H (WyA wb sb L :: StA sb rb T1 (M + 4 * L.length) :: l) τ,
    ⟨_, root, [], T, rfl, hroot, rfl, by simp, rfl, h3⟩, ?_⟩
  clear h h1 h2 h3
  rintro m _ τ ⟨a, L, T1, rfl, ha64, hm, hL, hdn, h⟩
  unfold s_tree_down_b1
  obtain ⟨wv, hok, h2⟩ := H_wy.1 h
  rw [LV h2, wy_len h2, ldI_some]
  refine If_dec (fun g => ?_) fun g => ?_
  · have : 12 - L.length = 0 := by omega
    rw [this] at hdn
    have hd : downA lower key 12 [] root T = .err 23 T1 := hdn
    refine must1 (e := 23) (by decide) ?_
    rw [c0_pan]
    have h4 : H (StA sb rb T1 (M + 4 * L.length) :: l) τ := h.tail
    exact hno 23 T1 τ (by decide) hd (st_le (by omega) h4)
  obtain ⟨f, hf⟩ : ∃ f, 12 - L.length = f + 1 := ⟨11 - L.length, by omega⟩
  rw [hf] at hdn
  have hdn2 : downA lower key (f + 1) (L.map Sp.w) a T1 = (T1.shadow a).bind fun q T => (lnkA (L.map Sp.w) a q.1 T).bind fun P T =>
      if q.2.leaf then .ok (P ++ [⟨q.1, q.2, 0⟩]) T
      else (lowA lower key (P ++ [⟨q.1, q.2, 0⟩]) q.2 T).bind fun P T => nextA key P (downA lower key f) T := rfl
  rw [hdn2] at hdn
  clear hdn2
  unfold s_tree_down_k5
  have h4 : H (StA sb rb T1 (M + 4 * L.length) :: WyA wb sb L :: l) τ := h.perm (.swap _ _ _)
  refine sshadow h4 (by omega) (fun e => hst (by rw [hdn, e]; rfl)) ?_ ?_
  · intro e T2 τ1 he hsh h5
    rw [c3_ret, tI_int, tI_int]
    refine nw h5 ?_
    intro b41 τ2 h6
    refine st3 h6 rfl rfl rfl ?_
    intro τ3 h7
    refine must1 he ?_
    rw [c0_pan]
    have h8 : H (StA sb rb T2 (M + 4 * L.length + 2) :: l) τ3 := h7.re
    exact hno e T2 τ3 he (by rw [hdn, hsh]; rfl) (st_le (by omega) h8)
  intro own n T2 kv vv τ1 hsh hmay hsm hown h5
  rw [hsh] at hdn
  simp only [R.bind_ok] at hdn
  have hln := hmay.1
  obtain ⟨a1, c1, hkv⟩ := rou_form h5
  obtain ⟨a2, c2, hvv⟩ := rou_form h5.tail
  have ok1 : one kv = true := by rw [hkv]; rfl
  have ok2 : one vv = true := by rw [hvv]; rfl
  rw [c3_ret, tI_int, tI_int]
  refine nw h5 ?_
  intro b41 τ2 h6
  refine st3 h6 rfl ok1 ok2 ?_
  intro τ3 h7
  refine must0 ?_
  rw [c0_ret]
  have hN := st_ok h4
  have hhi := hN.hi
  have h7 : H (WyA wb sb L :: StA sb rb T2 (M + 4 * L.length + 2) :: pt b41 (.cells [.bool n.leaf, kv, vv] t_api_Node false) :: RoU kv n.keys :: RoU vv n.vals :: l) τ3 := h7.re
  obtain ⟨wv3, hok3, h8⟩ := H_wy.1 h7
  rw [LV h8, wy_len h8, ldI_some]
  refine b64 ((L.length : Int) - 1) (by omega) ?_
  -- behind the link
  have k10 : ∀ (L3 : List Sp) (T3 : TS) (τ : AHeap), L3.length = L.length → lnkA (L.map Sp.w) a own T2 = .ok (L3.map Sp.w) T3 → H (WyA wb sb L3 :: StA sb rb T3 (M + 4 * L.length + 3) :: pt b41 (.cells [.bool n.leaf, kv, vv] t_api_Node false) :: RoU kv n.keys :: RoU vv n.vals :: l) τ →
      s_tree_down_k10 (fun n9 σ' => ∃ m', m' < m ∧ ∃ (a : Nat) (L : List Sp) (T1 : TS), n9 = a ∧ a < 18446744073709551616 ∧ m' = 12 - L.length ∧ L.length ≤ 12 ∧ downA lower key 12 [] root T = downA lower key (12 - L.length) (L.map Sp.w) a T1 ∧ H (WyA wb sb L :: StA sb rb T1 (M + 4 * L.length) :: l) σ') E Q wb own b41 a lower key τ := by
    intro L3 T3 τ hl3 hlnk ht
    rw [hlnk] at hdn
    simp only [R.bind_ok] at hdn
    unfold s_tree_down_k10
    obtain ⟨wv, hok, h2⟩ := H_wy.1 ht
    rw [LV h2, LB h2, LV h2, LV h2]
    refine nw h2 ?_
    intro b97 τ1 h3
    obtain ⟨_, _, wa, wc, hwv⟩ := h3.own_src 2 rfl
    rw [LV h3]
    have : veq1 wv wv = true := by rw [hwv]; simp [veq1, veq, veq0]
    refine ⟨this, ?_⟩
    have hs : StpOk ⟨own, n, 0, kv, vv⟩ := ⟨hsm, hln.2.2, (show n.keys.length ≤ 400 by omega), (show own < 2147483648 by omega), (show 0 < 1000 by omega), ok1, ok2⟩
    have h3 : H (pt b97 (.cells (spc ⟨own, n, 0, kv, vv⟩) t_tree_step false) :: WyL wb sb wv L3 (RoU kv n.keys :: RoU vv n.vals :: StA sb rb T3 (M + 4 * L.length + 3) :: pt b41 (.cells [.bool n.leaf, kv, vv] t_api_Node false) :: RoU kv n.keys :: RoU vv n.vals :: l)) τ1 := by
      have q : H (RoU kv n.keys :: _) τ1 := h3.fnd (RoU kv n.keys)
      have q2 := rou_dup q
      have q3 : H (RoU vv n.vals :: _) τ1 := q2.fnd (RoU vv n.vals)
      have q4 := rou_dup q3
      have q5 : H (pt b97 (.cells [.int .u64 (own : Nat), .bool n.leaf, kv, vv, .int .i64 0] t_tree_step false) :: WyL wb sb wv L3 (RoU kv n.keys :: RoU vv n.vals :: StA sb rb T3 (M + 4 * L.length + 3) :: pt b41 (.cells [.bool n.leaf, kv, vv] t_api_Node false) :: RoU kv n.keys :: RoU vv n.vals :: l)) τ1 := q4.re
      exact q5
    refine wy_push h3 hok hs (by omega) ?_
    intro w τ2 how hin h4
    refine st h4 how ?_
    intro τ3 h5
    have h6 := hin τ3 h5
    have hmap : L3.map Sp.w ++ [(⟨own, n, 0⟩ : Wp)] = (L3 ++ [(⟨own, n, 0, kv, vv⟩ : Sp)]).map Sp.w := by simp [Sp.w]
    rw [hmap] at hdn
    have hb : H (pt b41 (.cells [.bool n.leaf, kv, vv] t_api_Node false) :: RoU kv n.keys :: RoU vv n.vals :: l) τ3 := h6.re
    rw [LB hb]
    have hlen4 : (L3 ++ [(⟨own, n, 0, kv, vv⟩ : Sp)]).length = L.length + 1 := by simp [hl3]
    refine If_b (fun gl => ?_) fun gl => ?_
    · rw [if_pos gl] at hdn
      have h7 : H (StA sb rb T3 (M + 4 * L.length + 3) :: WyA wb sb (L3 ++ [⟨own, n, 0, kv, vv⟩]) :: l) τ3 := h6.re
      exact hyes wb _ T3 τ3 hdn (by omega) ((st_le (N := M + 60) (by omega) h7).perm (.swap _ _ _))
    rw [if_neg (by simp [gl])] at hdn
    obtain ⟨wv5, hok5, h7⟩ := H_wy.1 h6
    rw [LV h7, wy_len h7, ldI_some]
    refine b64 ((((L3 ++ [(⟨own, n, 0, kv, vv⟩ : Sp)]).length - 1 : Nat)) : Int) (by omega) ?_
    -- behind the lower key
    have k16 : ∀ (L5 : List Sp) (T5 : TS) (τ : AHeap), L5.length = L.length + 1 → lowA lower key ((L3 ++ [(⟨own, n, 0, kv, vv⟩ : Sp)]).map Sp.w) n T3 = .ok (L5.map Sp.w) T5 → H (WyA wb sb L5 :: StA sb rb T5 (M + 4 * L.length + 4) :: l) τ →
        s_tree_down_k16 (fun n9 σ' => ∃ m', m' < m ∧ ∃ (a : Nat) (L : List Sp) (T1 : TS), n9 = a ∧ a < 18446744073709551616 ∧ m' = 12 - L.length ∧ L.length ≤ 12 ∧ downA lower key 12 [] root T = downA lower key (12 - L.length) (L.map Sp.w) a T1 ∧ H (WyA wb sb L :: StA sb rb T1 (M + 4 * L.length) :: l) σ') E Q wb (((L3 ++ [(⟨own, n, 0, kv, vv⟩ : Sp)]).length - 1 : Nat) : Int) key τ := by
      intro L5 T5 τ hl5 hlow ht
      rw [hlow] at hdn
      simp only [R.bind_ok] at hdn
      obtain ⟨s5, hs5⟩ : ∃ s, L5[L5.length - 1]? = some s := ⟨_, List.getElem?_eq_getElem (by omega)⟩
      rw [hlen4, ← hl5]
      refine down_k16 (go := downA lower key f) ht hs5 hkey (fun e => hst (by rw [hdn, e])) ?_
      intro v L6 τ6 hl6 hnx hv ht6
      rw [hnx] at hdn
      refine ⟨12 - L6.length, by omega, v, L6, T5, rfl, hv, rfl, by omega, ?_, ?_⟩
      · rw [hdn, show 12 - L6.length = f by omega]
      · have : M + 4 * L6.length = M + 4 * L.length + 4 := by omega
        rw [this]; exact ht6
    have hk0 : ∃ k0 v0, n.keys[0]? = some k0 ∧ n.vals[0]? = some v0 := ⟨_, _, List.getElem?_eq_getElem (by omega), List.getElem?_eq_getElem (by omega)⟩
    obtain ⟨k0, v0, hk0, hv0⟩ := hk0
    have hlo : lowA lower key ((L3 ++ [(⟨own, n, 0, kv, vv⟩ : Sp)]).map Sp.w) n T3 = if lower = true ∧ key < k0 then wsetA ((L3 ++ [(⟨own, n, 0, kv, vv⟩ : Sp)]).map Sp.w) (((L3 ++ [(⟨own, n, 0, kv, vv⟩ : Sp)]).map Sp.w).length - 1) 0 key v0 T3 else .ok ((L3 ++ [(⟨own, n, 0, kv, vv⟩ : Sp)]).map Sp.w) T3 := by
      unfold lowA; rw [hk0, hv0]
    have hdrop : H (StA sb rb T3 (M + 4 * L.length + 3) :: WyA wb sb (L3 ++ [⟨own, n, 0, kv, vv⟩]) :: l) τ3 := h6.re
    have k15f : (¬ (lower = true ∧ key < k0)) → s_tree_down_k15 (fun n9 σ' => ∃ m', m' < m ∧ ∃ (a : Nat) (L : List Sp) (T1 : TS), n9 = a ∧ a < 18446744073709551616 ∧ m' = 12 - L.length ∧ L.length ≤ 12 ∧ downA lower key 12 [] root T = downA lower key (12 - L.length) (L.map Sp.w) a T1 ∧ H (WyA wb sb L :: StA sb rb T1 (M + 4 * L.length) :: l) σ') E Q false wb (((L3 ++ [(⟨own, n, 0, kv, vv⟩ : Sp)]).length - 1 : Nat) : Int) key b41 τ3 := by
      intro hc
      unfold s_tree_down_k15
      refine If_f rfl ?_
      exact k16 _ T3 τ3 hlen4 (by rw [hlo, if_neg hc]) ((st_le (N := M + 4 * L.length + 4) (by omega) hdrop).perm (.swap _ _ _))
    refine If_b (fun gw => ?_) fun gw => ?_
    · have husk := NdS.two (l := l) τ3 hb.tail
      obtain ⟨p, ia, la⟩ := us_get husk.1 hk0
      rw [LV hb, show (0 : Int) = ((0 : Nat) : Int) from rfl, ia, om_some, la, ldI_some]
      by_cases hlt : key < k0
      · have e : decide ((key : Int) < (k0 : Int)) = true := by simp; omega
        rw [e]
        unfold s_tree_down_k15
        refine If_t rfl ?_
        obtain ⟨p2, ia2, la2⟩ := us_get husk.2 hv0
        rw [LV hb, show (0 : Int) = ((0 : Nat) : Int) from rfl, ia2, om_some, la2, ldI_some]
        rw [if_pos ⟨gw, hlt⟩] at hlo
        rw [List.length_map] at hlo
        refine wset' h6 (by omega) hkey (hsm.2 v0 (List.mem_of_getElem? hv0)) (fun e => hst (by rw [hdn, hlo, e]; rfl)) ?_ ?_
        · intro e T4 τ4 he hse h9
          rw [c0_pan]
          have h10 : H (StA sb rb T4 (M + 4 * L.length + 3 + 1) :: l) τ4 := h9.re
          exact hno e T4 τ4 he (by rw [hdn, hlo, hse]; rfl) (st_le (by omega) h10)
        · intro T4 L5 τ4 hl5 hse h9
          rw [c0_ret]
          exact k16 L5 T4 τ4 (by omega) (by rw [hlo, hse]) h9.re
      · have e : decide ((key : Int) < (k0 : Int)) = false := by simp; omega
        rw [e]
        exact k15f (fun h => hlt h.2)
    · exact k15f (fun h => by rw [gw] at h; exact absurd h.1 (by decide))
  by_cases hL0 : L.length = 0
  · refine If_dec (fun g => absurd g (by omega)) fun _ => ?_
    unfold s_tree_down_k9
    refine If_f rfl ?_
    have hnil : L = [] := List.length_eq_zero_iff.1 hL0
    subst hnil
    have h9 : H (StA sb rb T2 (M + 4 * ([] : List Sp).length + 2) :: WyA wb sb [] :: pt b41 (.cells [.bool n.leaf, kv, vv] t_api_Node false) :: RoU kv n.keys :: RoU vv n.vals :: l) τ3 := h7.re
    exact k10 [] T2 τ3 rfl rfl ((st_le (N := M + 4 * ([] : List Sp).length + 3) (by omega) h9).perm (.swap _ _ _))
  refine If_dec (fun _ => ?_) fun g => absurd (by omega) g
  obtain ⟨s, hs⟩ : ∃ s, L[L.length - 1]? = some s := ⟨_, List.getElem?_eq_getElem (by omega)⟩
  have hlk : lnkA (L.map Sp.w) a own T2 = if own = a then .ok (L.map Sp.w) T2 else match s.n.keys[s.nx]? with
    | none => .stuck
    | some key => wsetA (L.map Sp.w) (L.length - 1) s.nx key own T2 := by
    unfold lnkA
    rw [List.length_map, List.getElem?_map, hs]; rfl
  unfold s_tree_down_k9
  rw [show ((L.length : Int) - 1) = ((L.length - 1 : Nat) : Int) by omega]
  by_cases hoa : own = a
  · rw [if_pos hoa] at hlk
    refine If_f (by simp [hoa]) ?_
    have h9 : H (StA sb rb T2 (M + 4 * L.length + 2) :: WyA wb sb L :: pt b41 (.cells [.bool n.leaf, kv, vv] t_api_Node false) :: RoU kv n.keys :: RoU vv n.vals :: l) τ3 := h7.re
    exact k10 L T2 τ3 rfl hlk ((st_le (N := M + 4 * L.length + 3) (by omega) h9).perm (.swap _ _ _))
  rw [if_neg hoa] at hlk
  refine If_t (by simp; omega) ?_
  obtain ⟨b, c, hwv, e1, e2, e3, e4, e5, e6⟩ := sp_el h8 hs
  rw [LV h8, e1, om_some]
  simp only [fieldAddr_ptr, om_some, Nat.add_assoc, Nat.reduceAdd, Nat.add_zero]
  rw [e6, ldI_some, LV h8, e1, om_some]
  simp only [fieldAddr_ptr, om_some, Nat.add_assoc, Nat.reduceAdd, Nat.add_zero]
  rw [e4, om_some, LV h8, e1, om_some]
  simp only [fieldAddr_ptr, om_some, Nat.add_assoc, Nat.reduceAdd, Nat.add_zero]
  rw [e6, ldI_some]
  cases hkx : s.n.keys[s.nx]? with
  | none =>
    rw [hkx] at hlk
    exact absurd (by rw [hdn, hlk]; rfl) hst
  | some kx =>
  rw [hkx] at hlk
  simp only at hlk
  have hso := hok3 s (List.mem_of_getElem? hs)
  have h9 : H (NdsA L :: l) τ3 := h8.re
  obtain ⟨p, ia, la⟩ := us_get (NdS.two (l := NdsA L :: l) (n := s.n) τ3 (nds_get h9 (List.mem_of_getElem? hs))).1 hkx
  rw [ia, om_some, la, ldI_some]
  refine wset' h7 (by omega) (hso.sm.1 kx (List.mem_of_getElem? hkx)) (by omega) (fun e => hst (by rw [hdn, hlk, e]; rfl)) ?_ ?_
  · intro e T4 τ4 he hse h9
    rw [c0_pan]
    have h10 : H (StA sb rb T4 (M + 4 * L.length + 2 + 1) :: l) τ4 := h9.re
    exact hno e T4 τ4 he (by rw [hdn, hlk, hse]; rfl) (st_le (by omega) h10)
  · intro T4 L5 τ4 hl5 hse h9
    rw [c0_ret]
    exact k10 L5 T4 τ4 hl5 (by rw [hlk, hse]) h9
end Go.Ax.C
set_option maxRecDepth 100000
namespace Go.Ax.C
open Go.Proofs Go.RowKit
variable {l r r2 m : List Assn} {σ : AHeap} {Q : RK}
theorem told0 (hQ : Q (.ret (.int .i64 0)) σ) : E f_tree_told [.nilIface] σ Q := by
  apply e_tree_told; unfold s_tree_told
  have e : aBin (P.underlying t_if_) .eql .nilIface .nilIface = some (.bool true) := by kernel_rfl
  rw [e, ldB_some]
  exact hQ
theorem told1 {e : Nat} (h : H l σ) (hQ : ∀ σ', H l σ' → Q (.ret (.int .i64 e)) σ') : E f_tree_told [flt e] σ Q := by
  apply e_tree_told; unfold s_tree_told
  have e1 : aBin (P.underlying t_if_) .eql (flt e) .nilIface = some (.bool false) := by unfold flt; kernel_rfl
  have e2 : aAssert P t_tree_fault true (flt e) = some (.tuple #[.agg #[.int .i64 e], .bool true]) := by unfold flt; kernel_rfl
  rw [e1, ldB_some]
  refine If_f rfl ?_
  rw [e2, om_some, xExt0, om_some, xExt1, ldB_some]
  refine nw h ?_
  intro b σ1 h1
  unfold St
  refine storeN (vs := [.int .i64 (e : Nat)]) h1 0 rfl rfl (by omega) rfl (by simp) ?_
  intro σ2 h2
  have h3 : H (pt b (.cells [.int .i64 (e : Nat)] t_tree_fault false) :: l) σ2 := h2
  refine If_f rfl ?_
  rw [LI h3]
  exact hQ σ2 h3.tail
def TS.ld (T : TS) (a : Nat) : Option Nd := if a < T.now.length then T.node a else none
theorem ld_some {T : TS} {a : Nat} {n : Nd} (h : T.ld a = some n) : a < T.now.length ∧ T.g a = .nd n ∧ n.fits := by
  unfold TS.ld at h
  split at h
  · rename_i ha; exact ⟨ha, node_some h⟩
  · cases h
def lookupA (key : Nat) : Nat → Nat → TS → R (Nat × Bool)
  | 0, a, T => if a = 0 then .ok (0, false) T else .err 23 T
  | f + 1, a, T => if a = 0 then .ok (0, false) T else match T.ld a with
    | none => .stuck
    | some n =>
      if n.leaf then if n.keys[findK n.keys key]? = some key then match n.vals[findK n.keys key]? with
        | some v => .ok (v, true) T
        | none => .stuck else .ok (0, false) T
      else match n.vals[childK n.keys key]? with
        | some v => lookupA key f v T
        | none => .stuck
theorem lookupA_T {key : Nat} : ∀ {f a : Nat} {T T' : TS} {v : Nat × Bool}, lookupA key f a T = .ok v T' → T' = T
  | 0, a, T, T', v, h => by
    unfold lookupA at h
    split at h
    · cases h; rfl
    · cases h
  | f + 1, a, T, T', v, h => by
    unfold lookupA at h
    split at h
    · cases h; rfl
    · split at h
      · cases h
      · split at h
        · split at h
          · split at h
            · cases h; rfl
            · cases h
          · cases h; rfl
        · split at h
          · exact lookupA_T h
          · cases h
theorem wlookup {sb rb root key : Nat} {T : TS} {M : Nat} (h : H (StA sb rb T M :: l) σ) (hM : M ≤ 90000000000) (hroot : root < 18446744073709551616) (hst : lookupA key 12 root T ≠ .stuck)
    (hno : ∀ e T' σ', e ≠ 0 → lookupA key 12 root T = .err e T' → H (StA sb rb T (M + 12) :: l) σ' → Q (.ret (.tuple #[.int .u64 0, .bool false, .int .i64 e])) σ')
    (hyes : ∀ v b T' σ', lookupA key 12 root T = .ok (v, b) T' → H (StA sb rb T (M + 12) :: l) σ' → Q (.ret (.tuple #[.int .u64 v, .bool b, .int .i64 0])) σ') :
    E f_tree_Lookup [.pointer (some ⟨sb, 0, none⟩), .int .u64 root, .int .u64 key] σ Q := by
  apply e_tree_Lookup; unfold s_tree_Lookup
  refine sright h ?_
  rw [if_neg (by omega), cI_ret]
  refine If_ne (fun g => absurd rfl g) fun _ => ?_
  refine ⟨fun m i d τ => ∃ (a k : Nat), i = a ∧ d = k ∧ m = 12 - k ∧ a < 18446744073709551616 ∧ k ≤ 12 ∧ lookupA key 12 root T = lookupA key (12 - k) a T ∧ H (StA sb rb T (M + k) :: l) τ, ⟨_, root, 0, rfl, rfl, rfl, hroot, by omega, rfl, h⟩, ?_⟩
  clear h
  rintro m _ _ τ ⟨a, k, rfl, rfl, hm, ha, hk, hl, h⟩
  unfold s_tree_Lookup_b1
  have hz : ∀ f, lookupA key f 0 T = .ok (0, false) T := fun f => by cases f <;> rfl
  refine If_ne (fun g => ?_) fun g => ?_
  · refine If_dec (fun g2 => ?_) fun g2 => ?_
    · have : k = 12 := by omega
      subst this
      have e : lookupA key 12 root T = .err 23 T := by
        rw [hl]; show (if a = 0 then _ else _) = _; rw [if_neg (by omega)]
      exact hno 23 T τ (by decide) e h
    · obtain ⟨f, hf⟩ : ∃ f, 12 - k = f + 1 := ⟨11 - k, by omega⟩
      rw [hf] at hl
      have hl2 : lookupA key (f + 1) a T = if a = 0 then .ok (0, false) T else match T.ld a with
        | none => .stuck
        | some n =>
          if n.leaf then if n.keys[findK n.keys key]? = some key then match n.vals[findK n.keys key]? with
            | some v => .ok (v, true) T
            | none => .stuck else .ok (0, false) T
          else match n.vals[childK n.keys key]? with
            | some v => lookupA key f v T
            | none => .stuck := rfl
      rw [hl2, if_neg (by omega)] at hl
      clear hl2
      cases hn : T.ld a with
      | none => rw [hn] at hl; exact absurd hl hst
      | some n =>
      rw [hn] at hl
      simp only at hl
      obtain ⟨hal, hg, hfit⟩ := ld_some hn
      refine sload h (by omega) hal hg hfit ?_
      intro kv vv τ1 hmay hsm h1
      have hln := hmay.1
      obtain ⟨a1, c1, hkv⟩ := rou_form h1
      obtain ⟨a2, c2, hvv⟩ := rou_form h1.tail
      rw [c2_ret, tI_int]
      refine nw h1 ?_
      intro b54 τ2 h2
      refine st3 h2 rfl (by rw [hkv]; rfl) (by rw [hvv]; rfl) ?_
      intro τ3 h3
      refine If_ne (fun g => absurd rfl g) fun _ => ?_
      have hns : NdS (pt b54 (.cells [.bool n.leaf, kv, vv] t_api_Node false) :: RoU kv n.keys :: RoU vv n.vals :: StA sb rb T (M + k + 1) :: l) kv vv n := NdS.two.cons
      have fin : ∀ {τ : AHeap}, H (pt b54 (.cells [.bool n.leaf, kv, vv] t_api_Node false) :: RoU kv n.keys :: RoU vv n.vals :: StA sb rb T (M + k + 1) :: l) τ → H (StA sb rb T (M + 12) :: l) τ := fun ht => st_le (by omega) ht.tail.tail.tail
      rw [LB h3]
      refine If_b (fun gl => ?_) fun gl => ?_
      · rw [if_pos gl] at hl
        rw [LB h3, LV h3, LV h3]
        refine kfind h3 hns hln.2.2.symm (by omega) ?_
        intro τ4 h4
        rw [c2_ret, tI_int, tB_bool]
        refine If_ne (p := n.keys[findK n.keys key]? = some key) (fun gk => ?_) fun gk => ?_
        · rw [if_neg gk] at hl
          exact hyes 0 false T τ4 hl (fin h4)
        · rw [if_pos gk] at hl
          cases hv : n.vals[findK n.keys key]? with
          | none => rw [hv] at hl; exact absurd hl hst
          | some v =>
            rw [hv] at hl
            obtain ⟨p, ia, la⟩ := us_get (hns τ4 h4).2 hv
            rw [LV h4, ia, om_some, la, ldI_some]
            exact hyes v true T τ4 hl (fin h4)
      · rw [if_neg (by simp [gl])] at hl
        rw [LV h3, LB h3, LV h3, LV h3]
        refine kchild h3 hns hln.2.2.symm (by omega) ?_
        intro τ4 h4
        rw [cI_ret, LV h4]
        refine ⟨by rw [hvv]; simp [veq1, veq, veq0], ?_⟩
        cases hv : n.vals[childK n.keys key]? with
        | none => rw [hv] at hl; exact absurd hl hst
        | some v =>
          rw [hv] at hl
          obtain ⟨p, ia, la⟩ := us_get (hns τ4 h4).2 hv
          rw [ia, om_some, la, ldI_some]
          refine b64 ((k + 1 : Nat) : Int) (by omega) ?_
          refine ⟨12 - (k + 1), by omega, v, k + 1, rfl, rfl, rfl, hsm.2 v (List.mem_of_getElem? hv), by omega, ?_, h4.tail.tail.tail⟩
          rw [hl, show 12 - (k + 1) = f by omega]
  · have : a = 0 := by omega
    subst this
    exact hyes 0 false T τ (by rw [hl, hz]) (st_le (by omega) h)
end Go.Ax.C
set_option maxRecDepth 100000
namespace Go.Ax.C
open Go.Proofs Go.RowKit
variable {l r r2 m : List Assn} {σ : AHeap} {Q : RK}
theorem dupR {v : Value} {xs : List Nat} (h : H l σ) [k : Fnd l (RoU v xs) r] : H (RoU v xs :: l) σ :=
  (rou_dup (h.fnd (RoU v xs))).perm ((k.perm.symm).cons _)
theorem mk2 {b x y : Nat} (h : H (pt b (.cells [.int .u64 x, .int .u64 y] t_uint64 false) :: l) σ) : H (RoU (.slice (some ⟨b, 0, none⟩) 2 2) [x, y] :: l) σ :=
  own_rou (n := 2) (h.to_own (n := 2) (z := 1) 0 rfl rfl (by unfold OPEN; omega))
theorem mk1 {b x : Nat} (h : H (pt b (.cells [.int .u64 x] t_uint64 false) :: l) σ) : H (RoU (.slice (some ⟨b, 0, none⟩) 1 1) [x] :: l) σ :=
  own_rou (n := 1) (h.to_own (n := 1) (z := 1) 0 rfl rfl (by unfold OPEN; omega))
theorem us_at {v : Value} {xs : List Nat} {k x : Nat} {p : Addr} (h : Us σ v xs) (hk : xs[k]? = some x) (ia : aIndexAddr 1 v (.int .i64 k) = some (.pointer (some p))) : aLoad false 1 (.pointer (some p)) σ = some (.int .u64 x) := by
  obtain ⟨q, h1, h2⟩ := us_get h hk
  rw [ia] at h1
  cases h1
  exact h2
theorem veq_sl {v : Value} {p : Prop} (h : ∃ a n c, v = .slice a n c) : (veq1 v v = true ∧ p) = p := by
  obtain ⟨a, n, c, rfl⟩ := h
  exact veq_slice
def Nd.insN (n : Nd) (i key val : Nat) : Nd := ⟨n.leaf, insF i key val true n.keys, insF i key val false n.vals⟩
def Nd.lo (n : Nd) : Nd := ⟨n.leaf, n.keys.take (halfK n), n.vals.take (halfK n)⟩
def Nd.hi (n : Nd) : Nd := ⟨n.leaf, n.keys.drop (halfK n), n.vals.drop (halfK n)⟩
theorem small_ins {n : Nd} {i key val : Nat} (h : n.small) (hk : key < 18446744073709551616) (hv : val < 18446744073709551616) : (n.insN i key val).small := by
  refine ⟨fun x hx => ?_, fun x hx => ?_⟩
  · simp only [Nd.insN, insF, if_true, List.mem_append, List.mem_cons] at hx
    rcases hx with h1 | h1 | h1
    · exact h.1 x (List.mem_of_mem_take h1)
    · omega
    · exact h.1 x (List.mem_of_mem_drop h1)
  · simp only [Nd.insN, insF, Bool.false_eq_true, if_false, List.mem_append, List.mem_cons] at hx
    rcases hx with h1 | h1 | h1
    · exact h.2 x (List.mem_of_mem_take h1)
    · omega
    · exact h.2 x (List.mem_of_mem_drop h1)
theorem ins_len {n : Nd} {i key val : Nat} (h : n.vals.length = n.keys.length) (hi : i ≤ n.keys.length) : (n.insN i key val).keys.length = n.keys.length + 1 ∧ (n.insN i key val).vals.length = (n.insN i key val).keys.length := by
  simp [Nd.insN, insF]; omega
theorem small_lo {n : Nd} (h : n.small) : n.lo.small := ⟨fun x hx => h.1 x (List.mem_of_mem_take hx), fun x hx => h.2 x (List.mem_of_mem_take hx)⟩
theorem small_hi {n : Nd} (h : n.small) : n.hi.small := ⟨fun x hx => h.1 x (List.mem_of_mem_drop hx), fun x hx => h.2 x (List.mem_of_mem_drop hx)⟩
def wsaveA (P : List Wp) (k : Nat) (n : Nd) (T : TS) : R (List Wp) :=
  match P[k]? with
  | none => .stuck
  | some s => (svN T s.at' n).bind fun _ T => .ok (P.set k { s with n := n }) T
theorem wsave' {wb sb rb k : Nat} {T : TS} {M : Nat} {L : List Sp} {n : Nd} {kv vv : Value} (h : H (WyA wb sb L :: StA sb rb T M :: RoU kv n.keys :: RoU vv n.vals :: l) σ) (hM : M ≤ 100000000000)
    (hs : n.small) (he : n.vals.length = n.keys.length) (hl : n.keys.length ≤ 400) (hst : wsaveA (L.map Sp.w) k n T ≠ .stuck)
    (hno : ∀ e T' σ', e ≠ 0 → wsaveA (L.map Sp.w) k n T = .err e T' → H (StA sb rb T' (M + 1) :: l) σ' → Q (.pan (flt e)) σ')
    (hyes : ∀ T' L' σ', L'.length = L.length → wsaveA (L.map Sp.w) k n T = .ok (L'.map Sp.w) T' → H (WyA wb sb L' :: StA sb rb T' (M + 1) :: l) σ' → Q (.ret (.tuple #[])) σ') :
    E f_tree_way_save [.pointer (some ⟨wb, 0, none⟩), .int .i64 k, .agg #[.bool n.leaf, kv, vv]] σ Q := by
  unfold wsaveA at hst hno hyes
  cases hk : L[k]? with
  | none => rw [List.getElem?_map, hk] at hst; exact absurd rfl hst
  | some s =>
    rw [List.getElem?_map, hk] at hst hno hyes
    simp only [Option.map_some] at hst hno hyes
    have hw : s.w = ⟨s.at', s.n, s.nx⟩ := rfl
    rw [hw] at hst hno hyes
    simp only at hst hno hyes
    refine wsave h hM hk hs he hl (fun e => hst (by rw [e]; rfl)) ?_ ?_
    · intro e σ' he hn ht
      exact hno e T σ' he (by rw [hn]; rfl) ht
    · intro T' σ' hn ht
      refine hyes T' (L.set k { s with n := n, kv := kv, vv := vv }) σ' (by simp) ?_ ht
      rw [hn, List.map_set]; rfl
def splitA (P : List Wp) (k : Nat) (T : TS) : R (List Wp) :=
  match P[k]? with
  | none => .stuck
  | some x =>
    if x.n.keys.length ≤ 8 then .ok P T
    else (wsaveA P k x.n.lo T).bind fun P T => (T.make x.n.hi).bind fun a T => match x.n.lo.keys[0]?, x.n.hi.keys[0]? with
      | some a0, some b0 =>
        if 0 < k then match P[k - 1]? with
          | none => .stuck
          | some up => if up.nx + 1 ≤ up.n.keys.length ∧ up.n.keys.length < 400 then wsaveA P (k - 1) (up.n.insN (up.nx + 1) b0 a) T else .stuck
        else (T.make ⟨false, [a0, b0], [x.at', a]⟩).bind fun top T => .ok (⟨top, ⟨false, [a0, b0], [x.at', a]⟩, 0⟩ :: P) T
      | _, _ => .stuck
theorem make_lt {T T' : TS} {n : Nd} {a : Nat} (h : T.make n = .ok a T') : a < T.now.length ∧ T'.now.length = T.now.length ∧ T'.was = T.was ∧ n.May := by
  unfold TS.make at h
  split at h
  · rename_i hm
    unfold TS.alloc at h
    split at h
    · cases h
    · rename_i b hb
      cases h
      refine ⟨?_, by simp [TS.put], rfl, hm⟩
      unfold least at hb
      rw [List.findIdx?_eq_some_iff_getElem] at hb
      obtain ⟨h1, _⟩ := hb
      simp [fre] at h1; omega
  · cases h
theorem split_k11 {wb sb rb b a0 b0 xa a : Nat} {T : TS} {M : Nat} {L : List Sp} {kv vv : Value} (h : H (pt b (.cells [.bool false, kv, vv] t_api_Node false) :: RoU kv [a0, b0] :: RoU vv [xa, a] :: WyA wb sb L :: StA sb rb T M :: l) σ) (hM : M ≤ 100000000000) (hL : L.length ≤ 100) (hs : (⟨false, [a0, b0], [xa, a]⟩ : Nd).small)
    (hno : ∀ e T' σ', e ≠ 0 → T.make ⟨false, [a0, b0], [xa, a]⟩ = .err e T' → H (StA sb rb T' (M + 1) :: l) σ' → Q (.pan (flt e)) σ')
    (hyes : ∀ top T' kv vv σ', T.make ⟨false, [a0, b0], [xa, a]⟩ = .ok top T' → H (WyA wb sb (⟨top, ⟨false, [a0, b0], [xa, a]⟩, 0, kv, vv⟩ :: L) :: StA sb rb T' (M + 1) :: l) σ' → Q (.ret (.tuple #[])) σ') :
    s_tree_way_split_k11 E Q wb b σ := by
  unfold s_tree_way_split_k11
  have h1 : H (WyA wb sb L :: pt b (.cells [.bool false, kv, vv] t_api_Node false) :: RoU kv [a0, b0] :: RoU vv [xa, a] :: StA sb rb T M :: l) σ := h.re
  obtain ⟨ak, ck, hkv⟩ := rou_form h.tail
  obtain ⟨av, cv, hvv⟩ := rou_form h.tail.tail
  have ok1 : one kv = true := by rw [hkv]; rfl
  have ok2 : one vv = true := by rw [hvv]; rfl
  obtain ⟨wv, hok, h2⟩ := H_wy.1 h1
  rw [LV h2, LB h2, LV h2, LV h2]
  have h3 : H (StA sb rb T M :: RoU kv [a0, b0] :: RoU vv [xa, a] :: pt b (.cells [.bool false, kv, vv] t_api_Node false) :: WyA wb sb L :: l) σ := h.re
  have hrf := (st_ok h3).hi
  refine smake (n := ⟨false, [a0, b0], [xa, a]⟩) h3 hM (NdS.two (n := ⟨false, [a0, b0], [xa, a]⟩)) hs (by simp) (by simp) ?_ ?_
  · intro e σ1 he hm h4
    rw [c2_ret, tI_int, tI_int]
    refine must1 he ?_
    rw [c0_pan]
    have h5 : H (StA sb rb T M :: l) σ1 := h4.re
    exact hno e T σ1 he hm (st_le (by omega) h5)
  · intro top T1 σ1 hm h4
    have hlt := make_lt hm
    rw [c2_ret, tI_int, tI_int]
    refine must0 ?_
    rw [c0_ret]
    have h5 : H (WyA wb sb L :: RoU kv [a0, b0] :: RoU vv [xa, a] :: pt b (.cells [.bool false, kv, vv] t_api_Node false) :: StA sb rb T1 (M + 1) :: l) σ1 := h4.re
    obtain ⟨wv1, hok1, h6⟩ := H_wy.1 h5
    rw [LB h6, LV h6, LV h6, LV h6]
    refine nw h6 ?_
    intro b2 σ2 h7
    rw [LV h7]
    obtain ⟨hsrc, hxl, wa, wc, hwv⟩ := h7.own_src 2 rfl
    rw [veq_sl ⟨_, _, _, hwv⟩]
    have h8 : H (Own t_tree_step 5 (.slice (some ⟨b2, 0, none⟩) 1 1) 1 (spc ⟨top, ⟨false, [a0, b0], [xa, a]⟩, 0, kv, vv⟩) :: WyL wb sb wv1 L (RoU kv [a0, b0] :: RoU vv [xa, a] :: pt b (.cells [.bool false, kv, vv] t_api_Node false) :: StA sb rb T1 (M + 1) :: l)) σ2 :=
      h7.to_own (n := 1) (z := 5) 0 rfl rfl (by unfold OPEN; omega)
    have hsp : ∀ s ∈ L, StpOk s := hok1
    refine append_own h8 0 rfl hsrc (by omega) (by omega) ?_ ?_
    · rw [List.all_eq_true]
      intro v hv
      rw [List.mem_flatten] at hv
      obtain ⟨c, hc, hv⟩ := hv
      obtain ⟨s, hs, rfl⟩ := List.mem_map.1 hc
      have := hsp s hs
      simp only [spc, List.mem_cons, List.not_mem_nil, or_false] at hv
      rcases hv with rfl | rfl | rfl | rfl | rfl
      · rfl
      · rfl
      · exact this.o1
      · exact this.o2
      · rfl
    · intro w σ3 h9
      have ho := O.own_one h9 (i := 0) rfl
      have h10 : H (Own t_tree_step 5 w (1 + L.length) (spc ⟨top, ⟨false, [a0, b0], [xa, a]⟩, 0, kv, vv⟩ ++ (L.map spc).flatten) :: pt wb (.cells [.pointer (some ⟨sb, 0, none⟩), wv1] t_tree_way false) :: Own t_tree_step 5 wv1 L.length (L.map spc).flatten :: NdsA L :: RoU kv [a0, b0] :: RoU vv [xa, a] :: pt b (.cells [.bool false, kv, vv] t_api_Node false) :: StA sb rb T1 (M + 1) :: l) σ3 := h9
      refine st h10 ho ?_
      intro σ4 h11
      refine hyes top T1 kv vv σ4 hm (H_wy.2 ⟨w, fun s hs' => ?_, ?_⟩)
      · rcases List.mem_cons.1 hs' with rfl | hs'
        · exact ⟨hs, rfl, (show 2 ≤ 400 by omega), (show top < 2147483648 by omega), (show 0 < 1000 by omega), ok1, ok2⟩
        · exact hok1 s hs'
      · have h12 : H (RoU kv [a0, b0] :: RoU vv [xa, a] :: NdsA L :: pt wb (.cells [.pointer (some ⟨sb, 0, none⟩), w] t_tree_way false) :: Own t_tree_step 5 w (1 + L.length) (spc ⟨top, ⟨false, [a0, b0], [xa, a]⟩, 0, kv, vv⟩ ++ (L.map spc).flatten) :: StA sb rb T1 (M + 1) :: l) σ4 := h11.re
        have h13 := (nds_one (⟨top, ⟨false, [a0, b0], [xa, a]⟩, 0, kv, vv⟩ : Sp)).2 h12
        rw [← H_sep, ← nds_app] at h13
        have e1 : (⟨top, ⟨false, [a0, b0], [xa, a]⟩, 0, kv, vv⟩ :: L : List Sp).length = 1 + L.length := by simp; omega
        unfold WyL
        rw [e1]
        have h14 : H (NdsA (⟨top, ⟨false, [a0, b0], [xa, a]⟩, 0, kv, vv⟩ :: L) :: pt wb (.cells [.pointer (some ⟨sb, 0, none⟩), w] t_tree_way false) :: Own t_tree_step 5 w (1 + L.length) (((⟨top, ⟨false, [a0, b0], [xa, a]⟩, 0, kv, vv⟩ :: L : List Sp).map spc).flatten) :: StA sb rb T1 (M + 1) :: l) σ4 := h13
        exact h14.re
end Go.Ax.C
set_option maxRecDepth 100000
namespace Go.Ax.C
open Go.Proofs Go.RowKit
variable {l r r2 m : List Assn} {σ : AHeap} {Q : RK}
theorem wsaveA_len {P P' : List Wp} {k : Nat} {n : Nd} {T T' : TS} (h : wsaveA P k n T = .ok P' T') : P'.length = P.length ∧ T'.now = T.now ∧ T'.was = T.was := by
  unfold wsaveA at h
  split at h
  · cases h
  · rename_i s _
    cases hs : svN T s.at' n with
    | ok u T1 => rw [hs] at h; cases h; exact ⟨by simp, svN_now hs⟩
    | err e T1 => rw [hs] at h; cases h
    | stuck => rw [hs] at h; cases h
theorem store5 {b : Nat} {q : Bool} {c vs : List Value} {e : TypeId} {K : AHeap → Prop} (h : H (pt b (.cells c e q) :: l) σ) (hc : c.length = 5) (hv : vs.length = 5) (ho : vs.all one = true)
    (hK : ∀ σ', H (pt b (.cells vs e q) :: l) σ' → K σ') : pu (aStore 5 (.pointer (some ⟨b, 0, none⟩)) (.agg vs.toArray) σ) K := by
  refine storeN h 0 rfl hv (by omega) ho (by omega) ?_
  intro σ1 h1
  have hs : splice c 0 vs = vs := by
    unfold splice
    rw [List.take_zero, List.nil_append, Nat.zero_add, List.drop_of_length_le (by omega), List.append_nil]
  have h2 : H (pt b (.cells (splice c 0 vs) e q) :: l) σ1 := h1
  rw [hs] at h2
  exact hK σ1 h2
set_option maxHeartbeats 2000000 in
theorem wsplit {wb sb rb k : Nat} {T : TS} {M : Nat} {L : List Sp} (h : H (WyA wb sb L :: StA sb rb T M :: l) σ) (hM : M ≤ 90000000000) (hL : L.length ≤ 100) (hst : splitA (L.map Sp.w) k T ≠ .stuck)
    (hno : ∀ e T' σ', e ≠ 0 → splitA (L.map Sp.w) k T = .err e T' → H (StA sb rb T' (M + 3) :: l) σ' → Q (.pan (flt e)) σ')
    (hyes : ∀ T' L' σ', L'.length ≤ L.length + 1 → (0 < k → L'.length = L.length) → splitA (L.map Sp.w) k T = .ok (L'.map Sp.w) T' → H (WyA wb sb L' :: StA sb rb T' (M + 3) :: l) σ' → Q (.ret (.tuple #[])) σ') :
    E f_tree_way_split [.pointer (some ⟨wb, 0, none⟩), .int .i64 k] σ Q := by
  apply e_tree_way_split; unfold s_tree_way_split
  obtain ⟨wv, hok, h2⟩ := H_wy.1 h
  cases hk : L[k]? with
  | none => unfold splitA at hst; rw [List.getElem?_map, hk] at hst; exact absurd rfl hst
  | some x =>
  have hkl := (List.getElem?_eq_some_iff.1 hk).1
  have hxo := hok x (List.mem_of_getElem? hk)
  have hsp : splitA (L.map Sp.w) k T = if x.n.keys.length ≤ 8 then .ok (L.map Sp.w) T
    else (wsaveA (L.map Sp.w) k x.n.lo T).bind fun P T => (T.make x.n.hi).bind fun a T => match x.n.lo.keys[0]?, x.n.hi.keys[0]? with
      | some a0, some b0 =>
        if 0 < k then match P[k - 1]? with
          | none => .stuck
          | some up => if up.nx + 1 ≤ up.n.keys.length ∧ up.n.keys.length < 400 then wsaveA P (k - 1) (up.n.insN (up.nx + 1) b0 a) T else .stuck
        else (T.make ⟨false, [a0, b0], [x.at', a]⟩).bind fun top T => .ok (⟨top, ⟨false, [a0, b0], [x.at', a]⟩, 0⟩ :: P) T
      | _, _ => .stuck := by
    unfold splitA; rw [List.getElem?_map, hk]; rfl
  obtain ⟨b, c, hwv, e1, e2, e3, e4, e5, e6⟩ := sp_el h2 hk
  rw [LV h2, e1, om_some]
  simp only [fieldAddr_ptr, om_some, Nat.add_assoc, Nat.reduceAdd, Nat.add_zero]
  rw [e2, ldI_some, e3, ldB_some, e4, om_some, e5, om_some, e6, ldI_some]
  refine nw h2 ?_
  intro b13 σ1 h3
  refine store5 (vs := [.int .u64 (x.at' : Nat), .bool x.n.leaf, x.kv, x.vv, .int .i64 (x.nx : Nat)]) h3 rfl rfl (by simp only [List.all_cons, hxo.o1, hxo.o2, List.all_nil]; rfl) ?_
  intro σ2 h4
  have h5 : H (NdsA L :: pt b13 (.cells [.int .u64 (x.at' : Nat), .bool x.n.leaf, x.kv, x.vv, .int .i64 (x.nx : Nat)] t_tree_step false) :: pt wb (.cells [.pointer (some ⟨sb, 0, none⟩), wv] t_tree_way false) :: Own t_tree_step 5 wv L.length (L.map spc).flatten :: StA sb rb T M :: l) σ2 := h4.re
  have h6 := nds_get h5 (List.mem_of_getElem? hk)
  have hlx : lenS x.kv = some (.int .i64 x.n.keys.length) := by obtain ⟨a, c, hv⟩ := rou_form h6; rw [hv]; rfl
  rw [LV h4, hlx, ldI_some]
  refine If_dec (fun g => ?_) fun g => ?_
  · rw [if_pos (by omega)] at hsp
    refine hyes T L σ2 (by omega) (fun _ => rfl) hsp ?_
    have h7 : H (pt wb (.cells [.pointer (some ⟨sb, 0, none⟩), wv] t_tree_way false) :: Own t_tree_step 5 wv L.length (L.map spc).flatten :: NdsA L :: StA sb rb T M :: l) σ2 := h4.re
    have h8 : H (StA sb rb T M :: WyA wb sb L :: l) σ2 := (H_wy.2 ⟨wv, hok, h7⟩ : H (WyA wb sb L :: StA sb rb T M :: l) σ2).perm (.swap _ _ _)
    exact (st_le (N := M + 3) (by omega) h8).perm (.swap _ _ _)
  rw [if_neg (by omega)] at hsp
  rw [LB h4, LV h4, LV h4]
  have hle := hxo.le
  refine ksplit (lf := x.n.leaf) h6 NdS.two hxo.eq.symm (by omega) ?_
  intro k1 v1 k2 v2 σ3 h7
  rw [c2_ret]
  obtain ⟨ak1, ck1, hk1⟩ := rou_form h7
  obtain ⟨av1, cv1, hv1⟩ := rou_form h7.tail
  obtain ⟨ak2, ck2, hk2⟩ := rou_form h7.tail.tail
  obtain ⟨av2, cv2, hv2⟩ := rou_form h7.tail.tail.tail
  have ok1 : one k1 = true := by rw [hk1]; rfl
  have ok2 : one v1 = true := by rw [hv1]; rfl
  have ok3 : one k2 = true := by rw [hk2]; rfl
  have ok4 : one v2 = true := by rw [hv2]; rfl
  refine nw h7 ?_
  intro b31 σ4 h8
  refine nw h8 ?_
  intro b33 σ5 h9
  refine st3 h9 rfl ok1 ok2 ?_
  intro σ6 h10
  refine st3 h10 rfl ok3 ok4 ?_
  intro σ7 h11
  have hhalf : 1 ≤ halfK x.n ∧ halfK x.n < x.n.keys.length := by unfold halfK; omega
  have hlol : x.n.lo.keys.length = halfK x.n ∧ x.n.lo.vals.length = halfK x.n := by have := hxo.eq; simp [Nd.lo]; omega
  have hhil : x.n.hi.keys.length = x.n.keys.length - halfK x.n ∧ x.n.hi.vals.length = x.n.keys.length - halfK x.n := by have := hxo.eq; simp [Nd.hi]; omega
  obtain ⟨a0, ha0⟩ : ∃ a0, x.n.lo.keys[0]? = some a0 := ⟨_, List.getElem?_eq_getElem (by omega)⟩
  obtain ⟨b0, hb0⟩ : ∃ b0, x.n.hi.keys[0]? = some b0 := ⟨_, List.getElem?_eq_getElem (by omega)⟩
  rw [ha0, hb0] at hsp
  simp only at hsp
  have ha64 := (small_lo hxo.sm).1 a0 (List.mem_of_getElem? ha0)
  have hb64 := (small_hi hxo.sm).1 b0 (List.mem_of_getElem? hb0)
  -- what stays
  obtain ⟨SF, hSF⟩ : ∃ SF, SF = Star [pt b31 (.cells [.bool x.n.leaf, k1, v1] t_api_Node false), pt b33 (.cells [.bool x.n.leaf, k2, v2] t_api_Node false), pt b13 (.cells [.int .u64 (x.at' : Nat), .bool x.n.leaf, x.kv, x.vv, .int .i64 (x.nx : Nat)] t_tree_step false), RoU k1 x.n.lo.keys, RoU k2 x.n.hi.keys] := ⟨_, rfl⟩
  have hfr : ∀ {τ : AHeap} {A : List Assn}, H (SF :: A) τ → H (pt b31 (.cells [.bool x.n.leaf, k1, v1] t_api_Node false) :: pt b33 (.cells [.bool x.n.leaf, k2, v2] t_api_Node false) :: pt b13 (.cells [.int .u64 (x.at' : Nat), .bool x.n.leaf, x.kv, x.vv, .int .i64 (x.nx : Nat)] t_tree_step false) :: RoU k1 x.n.lo.keys :: RoU k2 x.n.hi.keys :: []) τ := fun {τ A} ht => by
    rw [hSF, H_star] at ht
    exact ht.left
  have h12 : H (WyA wb sb L :: StA sb rb T M :: SF :: RoU k1 x.n.lo.keys :: RoU v1 x.n.lo.vals :: RoU k2 x.n.hi.keys :: RoU v2 x.n.hi.vals :: l) σ7 := by
    have q : H (pt b33 (.cells [.bool x.n.leaf, k2, v2] t_api_Node false) :: pt b31 (.cells [.bool x.n.leaf, k1, v1] t_api_Node false) :: RoU k1 x.n.lo.keys :: RoU v1 x.n.lo.vals :: RoU k2 x.n.hi.keys :: RoU v2 x.n.hi.vals :: RoU x.kv x.n.keys :: RoU x.vv x.n.vals :: NdsA L :: pt b13 (.cells [.int .u64 (x.at' : Nat), .bool x.n.leaf, x.kv, x.vv, .int .i64 (x.nx : Nat)] t_tree_step false) :: pt wb (.cells [.pointer (some ⟨sb, 0, none⟩), wv] t_tree_way false) :: Own t_tree_step 5 wv L.length (L.map spc).flatten :: StA sb rb T M :: l) σ7 := h11
    have q1 := dupR (v := k2) (xs := x.n.hi.keys) (dupR (v := k1) (xs := x.n.lo.keys) q)
    have q2 : H (pt b31 (.cells [.bool x.n.leaf, k1, v1] t_api_Node false) :: pt b33 (.cells [.bool x.n.leaf, k2, v2] t_api_Node false) :: pt b13 (.cells [.int .u64 (x.at' : Nat), .bool x.n.leaf, x.kv, x.vv, .int .i64 (x.nx : Nat)] t_tree_step false) :: RoU k1 x.n.lo.keys :: RoU k2 x.n.hi.keys :: pt wb (.cells [.pointer (some ⟨sb, 0, none⟩), wv] t_tree_way false) :: Own t_tree_step 5 wv L.length (L.map spc).flatten :: NdsA L :: StA sb rb T M :: RoU k1 x.n.lo.keys :: RoU v1 x.n.lo.vals :: RoU k2 x.n.hi.keys :: RoU v2 x.n.hi.vals :: l) σ7 := q1.re
    have q3 : H (SF :: pt wb (.cells [.pointer (some ⟨sb, 0, none⟩), wv] t_tree_way false) :: Own t_tree_step 5 wv L.length (L.map spc).flatten :: NdsA L :: StA sb rb T M :: RoU k1 x.n.lo.keys :: RoU v1 x.n.lo.vals :: RoU k2 x.n.hi.keys :: RoU v2 x.n.hi.vals :: l) σ7 := by
      rw [hSF, H_star]; exact q2
    exact H_wy.2 ⟨wv, hok, q3.re⟩
  have f12 := hfr (h12.fnd SF)
  rw [LB f12, LV f12, LV f12]
  have h13 : H (WyA wb sb L :: StA sb rb T M :: RoU k1 x.n.lo.keys :: RoU v1 x.n.lo.vals :: SF :: RoU k2 x.n.hi.keys :: RoU v2 x.n.hi.vals :: l) σ7 := h12.re
  refine wsave' (n := x.n.lo) h13 (by omega) (small_lo hxo.sm) (by omega) (by omega) (fun e => hst (by rw [hsp, e]; rfl)) ?_ ?_
  · intro e T1 τ1 he hsv h14
    rw [c0_pan]
    have h15 : H (StA sb rb T1 (M + 1) :: l) τ1 := h14.re
    exact hno e T1 τ1 he (by rw [hsp, hsv]; rfl) (st_le (by omega) h15)
  intro T1 L1 τ1 hl1 hsv h14
  have hsl := wsaveA_len hsv
  rw [hsv] at hsp
  simp only [R.bind_ok] at hsp
  rw [c0_ret]
  obtain ⟨wv1, hok1, h15⟩ := H_wy.1 h14
  have f14 := hfr (h14.fnd SF)
  rw [LV h15, LB f14, LV f14, LV f14]
  have h16 : H (StA sb rb T1 (M + 1) :: RoU k2 x.n.hi.keys :: RoU v2 x.n.hi.vals :: WyA wb sb L1 :: SF :: l) τ1 := h14.re
  have hN1 := (st_ok h16).hi
  refine smake (n := x.n.hi) h16 (by omega) NdS.two (small_hi hxo.sm) (by omega) (by omega) ?_ ?_
  · intro e τ2 he hmk h17
    rw [c2_ret, tI_int, tI_int]
    refine must1 he ?_
    rw [c0_pan]
    have h19 : H (StA sb rb T1 (M + 1) :: l) τ2 := h17.re
    exact hno e T1 τ2 he (by rw [hsp, hmk]; rfl) (st_le (by omega) h19)
  intro a T2 τ2 hmk h17
  have hmlt := make_lt hmk
  rw [hmk] at hsp
  simp only [R.bind_ok] at hsp
  rw [c2_ret, tI_int, tI_int]
  refine must0 ?_
  rw [c0_ret]
  have h18 : H (WyA wb sb L1 :: StA sb rb T2 (M + 2) :: SF :: l) τ2 := by
    have q : H (StA sb rb T2 (M + 2) :: RoU k2 x.n.hi.keys :: RoU v2 x.n.hi.vals :: WyA wb sb L1 :: SF :: l) τ2 := h17
    exact q.re
  have f18 := hfr (h18.fnd SF)
  have hP1 : ∀ j : Nat, (L1.map Sp.w)[j]? = (L1[j]?).map Sp.w := fun j => List.getElem?_map
  refine If_dec (fun g0 => ?_) fun g0 => ?_
  · rw [if_pos (by omega)] at hsp
    obtain ⟨up, hup⟩ : ∃ up, L1[k - 1]? = some up := ⟨_, List.getElem?_eq_getElem (by omega)⟩
    rw [hP1, hup] at hsp
    obtain ⟨wv2, hok2, h19⟩ := H_wy.1 h18
    have huo := hok2 up (List.mem_of_getElem? hup)
    obtain ⟨b', c', hwv', u1, u2, u3, u4, u5, u6⟩ := sp_el h19 hup
    rw [LV h19]
    refine b64 ((k - 1 : Nat) : Int) (by omega) ?_
    rw [u1, om_some]
    simp only [fieldAddr_ptr, om_some, Nat.add_assoc, Nat.reduceAdd, Nat.add_zero]
    rw [u2, ldI_some, u3, ldB_some, u4, om_some, u5, om_some, u6, ldI_some]
    refine nw h19 ?_
    intro b90 σ8 h20
    refine store5 (vs := [.int .u64 (up.at' : Nat), .bool up.n.leaf, up.kv, up.vv, .int .i64 (up.nx : Nat)]) h20 rfl rfl (by simp only [List.all_cons, huo.o1, huo.o2, List.all_nil]; rfl) ?_
    intro σ9 h21
    refine b64 ((k - 1 : Nat) : Int) (by omega) ?_
    rw [LB h21, LV h21, LV h21, LI h21]
    have := huo.nx
    refine b64 ((up.nx + 1 : Nat) : Int) (by omega) ?_
    have f21 := hfr (h21.fnd SF)
    rw [LV f21]
    have husb := rou_us (f21.fnd (RoU k2 x.n.hi.keys))
    obtain ⟨p, ia, la⟩ := us_get husb hb0
    rw [show (0 : Int) = ((0 : Nat) : Int) from rfl, ia, om_some, la, ldI_some]
    have hwu : up.w = ⟨up.at', up.n, up.nx⟩ := rfl
    simp only [Option.map_some, hwu] at hsp
    by_cases hnx : up.nx + 1 ≤ up.n.keys.length ∧ up.n.keys.length < 400
    · rw [if_pos hnx] at hsp
      have h22 : H (NdsA L1 :: pt wb (.cells [.pointer (some ⟨sb, 0, none⟩), wv2] t_tree_way false) :: Own t_tree_step 5 wv2 L1.length (L1.map spc).flatten :: StA sb rb T2 (M + 2) :: l) σ9 := h21.re
      have h23 := nds_get h22 (List.mem_of_getElem? hup)
      have := huo.le
      have hil := ins_len (key := b0) (val := a) huo.eq hnx.1
      refine kinsert (lf := up.n.leaf) (i := up.nx + 1) (key := b0) (val := a) h23 NdS.two huo.eq.symm (by omega) hnx.1 ?_
      intro kv' vv' σ10 h24
      rw [cV_ret]
      have h25 : H (WyA wb sb L1 :: StA sb rb T2 (M + 2) :: RoU kv' (up.n.insN (up.nx + 1) b0 a).keys :: RoU vv' (up.n.insN (up.nx + 1) b0 a).vals :: l) σ10 := by
        have q : H (RoU kv' (up.n.insN (up.nx + 1) b0 a).keys :: RoU vv' (up.n.insN (up.nx + 1) b0 a).vals :: RoU up.kv up.n.keys :: RoU up.vv up.n.vals :: NdsA L1 :: pt wb (.cells [.pointer (some ⟨sb, 0, none⟩), wv2] t_tree_way false) :: Own t_tree_step 5 wv2 L1.length (L1.map spc).flatten :: StA sb rb T2 (M + 2) :: l) σ10 := h24
        exact H_wy.2 ⟨wv2, hok2, q.re⟩
      refine wsave' (n := up.n.insN (up.nx + 1) b0 a) h25 (by omega) (small_ins huo.sm hb64 (by omega)) hil.2 (by omega) (fun e => hst (by rw [hsp, e])) ?_ ?_
      · intro e T3 τ3 he hsv2 h26
        rw [c0_pan]
        exact hno e T3 τ3 he (by rw [hsp, hsv2]) h26
      · intro T3 L3 τ3 hl3 hsv2 h26
        rw [c0_ret]
        exact hyes T3 L3 τ3 (by omega) (fun _ => by omega) (by rw [hsp, hsv2]) h26
    · rw [if_neg hnx] at hsp
      exact absurd hsp hst
  · rw [if_neg (by omega)] at hsp
    have hxa := hxo.at8
    have hsm2 : (⟨false, [a0, b0], [x.at', a]⟩ : Nd).small := by
      refine ⟨fun y hy => ?_, fun y hy => ?_⟩
      · simp at hy; rcases hy with rfl | rfl <;> assumption
      · simp at hy; rcases hy with rfl | rfl <;> omega
    have husa := rou_us (f18.fnd (RoU k1 x.n.lo.keys))
    have husb := rou_us (f18.fnd (RoU k2 x.n.hi.keys))
    obtain ⟨p1, ia1, la1⟩ := us_get husa ha0
    obtain ⟨p2, ia2, la2⟩ := us_get husb hb0
    rw [LV f18, show (0 : Int) = ((0 : Nat) : Int) from rfl, ia1, om_some, la1, ldI_some, LV f18, ia2, om_some, la2, ldI_some, LI f18]
    -- what is read again
    have rd : ∀ {τ : AHeap} {A : List Assn} (K : Prop), H (SF :: A) τ → ((om (Ax.L b31 1 τ) fun v => veq1 v k1 = true ∧ ldI .u64 (aLoad false 1 (.pointer (some p1)) τ) fun n => veq1 (.int .u64 n) (.int .u64 a0) = true ∧ om (Ax.L b33 1 τ) fun v => veq1 v k2 = true ∧ ldI .u64 (aLoad false 1 (.pointer (some p2)) τ) fun n => veq1 (.int .u64 n) (.int .u64 b0) = true ∧ K) = K) := by
      intro τ A K ht
      have f := hfr ht
      rw [LV f, veq_sl ⟨_, _, _, hk1⟩, us_at (rou_us (f.fnd (RoU k1 x.n.lo.keys))) ha0 ia1, ldI_some, veq_int, LV f, veq_sl ⟨_, _, _, hk2⟩, us_at (rou_us (f.fnd (RoU k2 x.n.hi.keys))) hb0 ia2, ldI_some, veq_int]
    have rx : ∀ {τ : AHeap} {A : List Assn} (K : Prop), H (SF :: A) τ → ((ldI .u64 (Ax.L b13 0 τ) fun n => veq1 (.int .u64 n) (.int .u64 x.at') = true ∧ K) = K) := by
      intro τ A K ht
      have f := hfr ht
      rw [LI f, veq_int]
    -- the end
    have fin : ∀ {τ : AHeap} {nb kb vb : Nat}, H (pt nb (.cells [.bool false, .slice (some ⟨kb, 0, none⟩) 2 2, .slice (some ⟨vb, 0, none⟩) 2 2] t_api_Node false) :: pt kb (.cells [.int .u64 a0, .int .u64 b0] t_uint64 false) :: pt vb (.cells [.int .u64 x.at', .int .u64 a] t_uint64 false) :: WyA wb sb L1 :: StA sb rb T2 (M + 2) :: SF :: l) τ → s_tree_way_split_k11 E Q wb nb τ := by
      intro τ nb kb vb ht
      have q1 := mk2 (ht.perm (.swap _ _ _))
      have q2 : H (pt vb (.cells [.int .u64 x.at', .int .u64 a] t_uint64 false) :: RoU (.slice (some ⟨kb, 0, none⟩) 2 2) [a0, b0] :: pt nb (.cells [.bool false, .slice (some ⟨kb, 0, none⟩) 2 2, .slice (some ⟨vb, 0, none⟩) 2 2] t_api_Node false) :: WyA wb sb L1 :: StA sb rb T2 (M + 2) :: SF :: l) τ := q1.re
      have q3 := mk2 q2
      have q4 : H (pt nb (.cells [.bool false, .slice (some ⟨kb, 0, none⟩) 2 2, .slice (some ⟨vb, 0, none⟩) 2 2] t_api_Node false) :: RoU (.slice (some ⟨kb, 0, none⟩) 2 2) [a0, b0] :: RoU (.slice (some ⟨vb, 0, none⟩) 2 2) [x.at', a] :: WyA wb sb L1 :: StA sb rb T2 (M + 2) :: l) τ := q3.re
      refine split_k11 q4 (by omega) (by omega) hsm2 ?_ ?_
      · intro e T3 τ3 he hm3 h30
        exact hno e T3 τ3 he (by rw [hsp, hm3]; rfl) h30
      · intro top T3 kv vv τ3 hm3 h30
        refine hyes T3 _ τ3 (by simp; omega) (fun hk0 => by omega) ?_ h30
        rw [hsp, hm3]; rfl
    have nd0 : ∀ {τ : AHeap} {nb kb vb : Nat} {A : List Assn}, H (pt nb (.cells [.bool false, .slice none 0 0, .slice none 0 0] t_api_Node false) :: A) τ → (∀ τ', H (pt nb (.cells [.bool false, .slice (some ⟨kb, 0, none⟩) 2 2, .slice (some ⟨vb, 0, none⟩) 2 2] t_api_Node false) :: A) τ' → s_tree_way_split_k11 E Q wb nb τ') →
        pu (aStore 3 (.pointer (some ⟨nb, 0, none⟩)) (.agg #[.bool false, .slice (some ⟨kb, 0, none⟩) 2 2, .slice (some ⟨vb, 0, none⟩) 2 2]) τ) fun τ154 => s_tree_way_split_k11 E Q wb nb τ154 := by
      intro τ nb kb vb A ht hk
      exact st3 ht rfl rfl rfl hk
    refine ⟨?_, ?_, ?_⟩
    · refine nw h18 ?_
      intro kb τ3 g1
      rw [rx _ (g1.fnd SF)]
      refine ⟨?_, ?_⟩
      · refine nw g1 ?_
        intro vb τ4 g2
        rw [rd _ (g2.fnd SF)]
        refine On_one rfl (On_one rfl ?_)
        refine nw g2 ?_
        intro nb τ5 g3
        rw [rd _ (g3.fnd SF), rx _ (g3.fnd SF)]
        exact nd0 g3 fun τ' g4 => fin (kb := kb) (vb := vb) g4.re
      · refine nw g1 ?_
        intro nb τ4 g2
        rw [rd _ (g2.fnd SF), rx _ (g2.fnd SF)]
        refine nw g2 ?_
        intro vb τ5 g3
        rw [rd _ (g3.fnd SF)]
        refine On_one rfl (On_one rfl ?_)
        exact nd0 (g3.fnd (pt nb (.cells [.bool false, .slice none 0 0, .slice none 0 0] t_api_Node false))) fun τ' g4 => fin (kb := kb) (vb := vb) g4.re
    · refine nw h18 ?_
      intro vb τ3 g1
      rw [rd _ (g1.fnd SF)]
      refine ⟨?_, ?_⟩
      · refine nw g1 ?_
        intro kb τ4 g2
        rw [rx _ (g2.fnd SF)]
        refine On_one rfl (On_one rfl ?_)
        refine nw g2 ?_
        intro nb τ5 g3
        rw [rd _ (g3.fnd SF), rx _ (g3.fnd SF)]
        exact nd0 g3 fun τ' g4 => fin (kb := kb) (vb := vb) g4.re
      · refine nw g1 ?_
        intro nb τ4 g2
        rw [rd _ (g2.fnd SF), rx _ (g2.fnd SF)]
        refine nw g2 ?_
        intro kb τ5 g3
        rw [rx _ (g3.fnd SF)]
        refine On_one rfl (On_one rfl ?_)
        exact nd0 (g3.fnd (pt nb (.cells [.bool false, .slice none 0 0, .slice none 0 0] t_api_Node false))) fun τ' g4 => fin (kb := kb) (vb := vb) g4.re
    · refine nw h18 ?_
      intro nb τ3 g1
      rw [rd _ (g1.fnd SF), rx _ (g1.fnd SF)]
      refine ⟨?_, ?_⟩
      · refine nw g1 ?_
        intro kb τ4 g2
        rw [rx _ (g2.fnd SF)]
        refine nw g2 ?_
        intro vb τ5 g3
        rw [rd _ (g3.fnd SF)]
        refine On_one rfl (On_one rfl ?_)
        exact nd0 (g3.fnd (pt nb (.cells [.bool false, .slice none 0 0, .slice none 0 0] t_api_Node false))) fun τ' g4 => fin (kb := kb) (vb := vb) g4.re
      · refine nw g1 ?_
        intro vb τ4 g2
        rw [rd _ (g2.fnd SF)]
        refine nw g2 ?_
        intro kb τ5 g3
        rw [rx _ (g3.fnd SF)]
        refine On_one rfl (On_one rfl ?_)
        exact nd0 (g3.fnd (pt nb (.cells [.bool false, .slice none 0 0, .slice none 0 0] t_api_Node false))) fun τ' g4 => fin (kb := kb) (vb := vb) g4.re
end Go.Ax.C
set_option maxRecDepth 100000
namespace Go.Ax.C
open Go.Proofs Go.RowKit
variable {l r r2 m : List Assn} {σ : AHeap} {Q : RK}
def upA (f : List Wp → Nat → TS → R (List Wp)) : Nat → List Wp → TS → R (List Wp)
  | 0, P, T => .ok P T
  | k + 1, P, T => (f P k T).bind fun P T => upA f k P T
theorem wup {wb sb rb cost : Nat} {g : FuncId} {f : List Wp → Nat → TS → R (List Wp)} {T : TS} {M : Nat} {L : List Sp}
    (hg : ∀ (L : List Sp) (k : Nat) (T : TS) (M : Nat) (τ : AHeap) (Q' : RK), H (WyA wb sb L :: StA sb rb T M :: l) τ → M ≤ 90000000000 → L.length ≤ 50 → f (L.map Sp.w) k T ≠ .stuck →
      (∀ e T' σ', e ≠ 0 → f (L.map Sp.w) k T = .err e T' → H (StA sb rb T' (M + cost) :: l) σ' → Q' (.pan (flt e)) σ') →
      (∀ T' L' σ', L'.length ≤ L.length + 1 → f (L.map Sp.w) k T = .ok (L'.map Sp.w) T' → H (WyA wb sb L' :: StA sb rb T' (M + cost) :: l) σ' → Q' (.ret (.tuple #[])) σ') → E g [.pointer (some ⟨wb, 0, none⟩), .int .i64 k] τ Q')
    (h : H (WyA wb sb L :: StA sb rb T M :: l) σ) (hM : M + cost * L.length ≤ 80000000000) (hL : L.length ≤ 20) (hst : upA f L.length (L.map Sp.w) T ≠ .stuck)
    (hno : ∀ e T' σ', e ≠ 0 → upA f L.length (L.map Sp.w) T = .err e T' → H (StA sb rb T' (M + cost * L.length) :: l) σ' → Q (.pan (flt e)) σ')
    (hyes : ∀ T' L' σ', L'.length ≤ 2 * L.length → upA f L.length (L.map Sp.w) T = .ok (L'.map Sp.w) T' → H (WyA wb sb L' :: StA sb rb T' (M + cost * L.length) :: l) σ' → Q (.ret (.tuple #[])) σ') :
    E f_tree_way_up [.pointer (some ⟨wb, 0, none⟩), .func (.func g) #[.pointer (some ⟨wb, 0, none⟩)] #[]] σ Q := by
  apply e_tree_way_up; unfold s_tree_way_up
  obtain ⟨wv, hok, h2⟩ := H_wy.1 h
  rw [LV h2, wy_len h2, ldI_some]
  refine b64 ((L.length : Int) - 1) (by omega) ?_
  refine ⟨fun m i τ => ∃ (L1 : List Sp) (T1 : TS), i + 1 = m ∧ m ≤ L.length ∧ L1.length + m ≤ 2 * L.length ∧ upA f L.length (L.map Sp.w) T = upA f m (L1.map Sp.w) T1 ∧ H (WyA wb sb L1 :: StA sb rb T1 (M + cost * (L.length - m)) :: l) τ,
    ⟨L.length, L, T, by omega, Nat.le_refl _, by omega, rfl, by rw [Nat.sub_self, Nat.mul_zero]; exact h⟩, ?_⟩
  clear h h2 wv hok
  rintro m i τ ⟨L1, T1, hi, hm, hl1, hup, h⟩
  unfold s_tree_way_up_b1
  refine If_dec (fun g0 => ?_) fun g0 => ?_
  · obtain ⟨k, rfl⟩ : ∃ k : Nat, i = k := ⟨i.toNat, by omega⟩
    have hmk : m = k + 1 := by omega
    subst hmk
    have hup2 : upA f (k + 1) (L1.map Sp.w) T1 = (f (L1.map Sp.w) k T1).bind fun P T => upA f k P T := rfl
    rw [hup2] at hup
    have hc : cost * (L.length - (k + 1)) + cost = cost * (L.length - k) := by rw [← Nat.mul_succ]; congr 1; omega
    have hc2 : cost * (L.length - k) ≤ cost * L.length := Nat.mul_le_mul_left _ (by omega)
    show E g [.pointer (some ⟨wb, 0, none⟩), .int .i64 k] τ _
    refine hg L1 k T1 _ τ _ h (by omega) (by omega) (fun e => hst (by rw [hup, e]; rfl)) ?_ ?_
    · intro e T2 τ1 he hf h1
      rw [c0_pan]
      exact hno e T2 τ1 he (by rw [hup, hf]; rfl) (st_le (by omega) h1)
    · intro T2 L2 τ1 hl2 hf h1
      rw [c0_ret]
      refine b64 ((k : Int) - 1) (by omega) ?_
      refine ⟨k, by omega, L2, T2, by omega, by omega, by omega, by rw [hup, hf]; rfl, ?_⟩
      rw [show M + cost * (L.length - k) = M + cost * (L.length - (k + 1)) + cost by omega]
      exact h1
  · have hm0 : m = 0 := by omega
    subst hm0
    exact hyes T1 L1 τ (by omega) hup (by simpa using h)
def topA (P : List Wp) (old : Nat) (had : Bool) (T : TS) : R (Nat × Nat × Bool) :=
  match P[0]? with
  | none => .stuck
  | some s => .ok (s.at', old, had) T
def insA (T : TS) (root key val : Nat) : R (Nat × Nat × Bool) :=
  if val = 0 then .err 1 T
  else if root = 0 then (T.make ⟨true, [key], [val]⟩).bind fun a T => .ok (a, 0, false) T
  else (downA true key 12 [] root T).bind fun P T => match P[P.length - 1]? with
    | none => .stuck
    | some s =>
      if s.n.keys[findK s.n.keys key]? = some key then match s.n.vals[findK s.n.keys key]? with
        | none => .stuck
        | some old => (wsetA P (P.length - 1) (findK s.n.keys key) key val T).bind fun P T => (upA splitA P.length P T).bind fun P T => topA P old true T
      else if s.n.keys.length < 400 then (wsaveA P (P.length - 1) (s.n.insN (findK s.n.keys key) key val) T).bind fun P T => (upA splitA P.length P T).bind fun P T => topA P 0 false T
      else .stuck
abbrev In4 (b1 b3 b5 b7 : Nat) (to old : Nat) (had : Bool) (e : Nat) (l : List Assn) : List Assn :=
  pt b1 (.cells [.int .u64 to] t_uint64 false) :: pt b3 (.cells [.int .u64 old] t_uint64 false) :: pt b5 (.cells [.bool had] t_bool false) :: pt b7 (.cells [.int .i64 e] t_api_Errno false) :: l
theorem in4_ret {b1 b3 b5 b7 to old e : Nat} {had : Bool} (h : H (In4 b1 b3 b5 b7 to old had e l) σ) (hQ : H l σ → Q (.ret (.tuple #[.int .u64 to, .int .u64 old, .bool had, .int .i64 e])) σ) :
    pu (aLoad false 1 (.pointer (some ⟨b1, 0, none⟩)) σ) fun v67 => pu (aLoad false 1 (.pointer (some ⟨b3, 0, none⟩)) σ) fun v68 => pu (aLoad false 1 (.pointer (some ⟨b5, 0, none⟩)) σ) fun v69 => pu (aLoad false 1 (.pointer (some ⟨b7, 0, none⟩)) σ) fun v70 => Q (.ret (.tuple #[v67, v68, v69, v70])) σ := by
  rw [Ld h, pu_some, Ld h, pu_some, Ld h, pu_some, Ld h, pu_some]
  exact hQ h.tail.tail.tail.tail
theorem ins_c1_none {b1 b3 b5 b7 : Nat} {K : AHeap → Prop} (h : K σ) : Dv P f_tree_Insert_c1 [.pointer (some ⟨b1, 0, none⟩), .pointer (some ⟨b3, 0, none⟩), .pointer (some ⟨b5, 0, none⟩), .pointer (some ⟨b7, 0, none⟩)] none σ K := by
  apply e_tree_Insert_c1; unfold s_tree_Insert_c1
  refine told0 ?_
  rw [cI_ret]
  refine If_ne (fun g => absurd rfl g) fun _ => ?_
  exact h
theorem ins_c1_some {b1 b3 b5 b7 e to old e0 : Nat} {had : Bool} {K : AHeap → Prop} (h : H (In4 b1 b3 b5 b7 to old had e0 l) σ) (he : e ≠ 0) (hK : ∀ σ', H (In4 b1 b3 b5 b7 0 0 false e l) σ' → K σ') : Dv P f_tree_Insert_c1 [.pointer (some ⟨b1, 0, none⟩), .pointer (some ⟨b3, 0, none⟩), .pointer (some ⟨b5, 0, none⟩), .pointer (some ⟨b7, 0, none⟩)] (some (flt e)) σ K := by
  apply e_tree_Insert_c1; unfold s_tree_Insert_c1
  refine told1 h ?_
  intro σ1 h1
  rw [cI_ret]
  refine If_ne (fun _ => ?_) fun g => absurd g (by omega)
  refine st h1 rfl ?_
  intro σ2 h2
  refine st h2 rfl ?_
  intro σ3 h3
  refine st h3 rfl ?_
  intro σ4 h4
  refine st h4 rfl ?_
  intro σ5 h5
  exact hK σ5 h5.re
theorem wsplit' {wb sb rb : Nat} (L : List Sp) (k : Nat) (T : TS) (M : Nat) (τ : AHeap) (Q' : RK) (h : H (WyA wb sb L :: StA sb rb T M :: l) τ) (hM : M ≤ 90000000000) (hL : L.length ≤ 50) (hst : splitA (L.map Sp.w) k T ≠ .stuck)
    (hno : ∀ e T' σ', e ≠ 0 → splitA (L.map Sp.w) k T = .err e T' → H (StA sb rb T' (M + 3) :: l) σ' → Q' (.pan (flt e)) σ')
    (hyes : ∀ T' L' σ', L'.length ≤ L.length + 1 → splitA (L.map Sp.w) k T = .ok (L'.map Sp.w) T' → H (WyA wb sb L' :: StA sb rb T' (M + 3) :: l) σ' → Q' (.ret (.tuple #[])) σ') : E f_tree_way_split [.pointer (some ⟨wb, 0, none⟩), .int .i64 k] τ Q' :=
  wsplit h hM (by omega) hst hno fun T' L' σ' h1 _ h2 h3 => hyes T' L' σ' h1 h2 h3
set_option maxHeartbeats 2000000 in
theorem winsert {sb rb root key val : Nat} {T : TS} {M : Nat} (h : H (StA sb rb T M :: l) σ) (hM : M ≤ 70000000000) (hroot : root < 18446744073709551616) (hkey : key < 18446744073709551616) (hval : val < 18446744073709551616) (hst : insA T root key val ≠ .stuck)
    (hno : ∀ e T' σ', e ≠ 0 → insA T root key val = .err e T' → H (StA sb rb T' (M + 200) :: l) σ' → Q (.ret (.tuple #[.int .u64 0, .int .u64 0, .bool false, .int .i64 e])) σ')
    (hyes : ∀ to old had T' σ', insA T root key val = .ok (to, old, had) T' → H (StA sb rb T' (M + 200) :: l) σ' → Q (.ret (.tuple #[.int .u64 to, .int .u64 old, .bool had, .int .i64 0])) σ') :
    E f_tree_Insert [.pointer (some ⟨sb, 0, none⟩), .int .u64 root, .int .u64 key, .int .u64 val] σ Q := by
  apply e_tree_Insert; unfold s_tree_Insert
  refine nw h ?_
  intro b1 σ1 h1
  refine nw h1 ?_
  intro b3 σ2 h2
  refine nw h2 ?_
  intro b5 σ3 h3
  refine nw h3 ?_
  intro b7 σ4 h4
  have h4 : H (StA sb rb T M :: In4 b1 b3 b5 b7 0 0 false 0 l) σ4 := h4.re
  refine sright h4 ?_
  rw [if_neg (by omega), cI_ret]
  refine If_ne (fun g => absurd rfl g) fun _ => ?_
  unfold insA at hst hno hyes
  refine If_dec (fun g => ?_) fun g => ?_
  · rw [if_pos (by omega)] at hno
    refine st h4 rfl ?_
    intro τ1 g1
    refine st g1 rfl ?_
    intro τ2 g2
    refine st g2 rfl ?_
    intro τ3 g3
    refine st g3 rfl ?_
    intro τ4 g4
    have g5 : H (In4 b1 b3 b5 b7 0 0 false 1 (StA sb rb T M :: l)) τ4 := g4.re
    refine in4_ret (e := 1) g5 fun g6 => ?_
    exact hno 1 T τ4 (by decide) rfl (st_le (by omega) g6)
  rw [if_neg (by omega)] at hst hno hyes
  -- errors end here
  have pan : ∀ {e : Nat} {T' : TS} {τ : AHeap} {to old : Nat} {had : Bool} {N : Nat} {A : List Assn}, e ≠ 0 → N ≤ M + 200 → H (StA sb rb T' N :: In4 b1 b3 b5 b7 to old had 0 l) τ → (∀ σ', H (StA sb rb T' (M + 200) :: l) σ' → Q (.ret (.tuple #[.int .u64 0, .int .u64 0, .bool false, .int .i64 e])) σ') →
      qd P f_tree_Insert_c1 [(.pointer (some ⟨b1, 0, none⟩)), (.pointer (some ⟨b3, 0, none⟩)), (.pointer (some ⟨b5, 0, none⟩)), (.pointer (some ⟨b7, 0, none⟩))] (fun τ66 =>
       pu (aLoad false 1 (.pointer (some ⟨b1, 0, none⟩)) τ66) fun v67 =>
       pu (aLoad false 1 (.pointer (some ⟨b3, 0, none⟩)) τ66) fun v68 =>
       pu (aLoad false 1 (.pointer (some ⟨b5, 0, none⟩)) τ66) fun v69 =>
       pu (aLoad false 1 (.pointer (some ⟨b7, 0, none⟩)) τ66) fun v70 =>
       Q (.ret (.tuple #[v67, v68, v69, v70])) τ66) (.pan (flt e)) τ := by
    intro e T' τ to old had N A he hN ht hq
    have g1 : H (In4 b1 b3 b5 b7 to old had 0 (StA sb rb T' N :: l)) τ := ht.re
    refine ins_c1_some g1 he ?_
    intro τ1 g2
    refine in4_ret (e := e) g2 fun g3 => ?_
    exact hq τ1 (st_le hN g3)
  have ret : ∀ {to old e : Nat} {had : Bool} {T' : TS} {τ : AHeap} {N : Nat}, N ≤ M + 200 → H (In4 b1 b3 b5 b7 to old had e (StA sb rb T' N :: l)) τ → (∀ σ', H (StA sb rb T' (M + 200) :: l) σ' → Q (.ret (.tuple #[.int .u64 to, .int .u64 old, .bool had, .int .i64 e])) σ') →
      qd P f_tree_Insert_c1 [(.pointer (some ⟨b1, 0, none⟩)), (.pointer (some ⟨b3, 0, none⟩)), (.pointer (some ⟨b5, 0, none⟩)), (.pointer (some ⟨b7, 0, none⟩))] (fun τ66 =>
       pu (aLoad false 1 (.pointer (some ⟨b1, 0, none⟩)) τ66) fun v67 =>
       pu (aLoad false 1 (.pointer (some ⟨b3, 0, none⟩)) τ66) fun v68 =>
       pu (aLoad false 1 (.pointer (some ⟨b5, 0, none⟩)) τ66) fun v69 =>
       pu (aLoad false 1 (.pointer (some ⟨b7, 0, none⟩)) τ66) fun v70 =>
       Q (.ret (.tuple #[v67, v68, v69, v70])) τ66) (.ret (.tuple #[])) τ := by
    intro to old e had T' τ N hN ht hq
    refine ins_c1_none ?_
    refine in4_ret ht fun g3 => ?_
    exact hq τ (st_le hN g3)
  unfold s_tree_Insert_k7
  refine If_dec (fun g0 => ?_) fun g0 => ?_
  · rw [if_pos (by omega)] at hst hno hyes
    refine nw h4 ?_
    intro kb τ1 g1
    refine nw g1 ?_
    intro vb τ2 g2
    refine On_one rfl (On_one rfl ?_)
    have g3 : H (RoU (.slice (some ⟨kb, 0, none⟩) 1 1) [key] :: RoU (.slice (some ⟨vb, 0, none⟩) 1 1) [val] :: StA sb rb T M :: In4 b1 b3 b5 b7 0 0 false 0 l) τ2 := by
      have q1 := mk1 g2
      have q2 : H (pt kb (.cells [.int .u64 key] t_uint64 false) :: RoU (.slice (some ⟨vb, 0, none⟩) 1 1) [val] :: StA sb rb T M :: In4 b1 b3 b5 b7 0 0 false 0 l) τ2 := q1.re
      exact mk1 q2
    have g4 : H (StA sb rb T M :: RoU (.slice (some ⟨kb, 0, none⟩) 1 1) [key] :: RoU (.slice (some ⟨vb, 0, none⟩) 1 1) [val] :: In4 b1 b3 b5 b7 0 0 false 0 l) τ2 := g3.re
    refine smake (n := ⟨true, [key], [val]⟩) g4 (by omega) (NdS.two (n := ⟨true, [key], [val]⟩)) ⟨fun y hy => ?_, fun y hy => ?_⟩ (by simp) (by simp) ?_ ?_
    · simp at hy; omega
    · simp at hy; omega
    · intro e τ3 he hmk g5
      rw [c2_ret, tI_int, tI_int]
      have g6 : H (StA sb rb T M :: In4 b1 b3 b5 b7 0 0 false 0 l) τ3 := g5.re
      refine st g6 rfl ?_
      intro τ4 g7
      refine st g7 rfl ?_
      intro τ5 g8
      rw [LI g8, LI g8]
      refine st g8 rfl ?_
      intro τ6 g9
      rw [LI g9, veq_int]
      refine st g9 rfl ?_
      intro τ7 g10
      rw [LI g10, veq_int]
      refine st g10 rfl ?_
      intro τ8 g11
      rw [LI g11, veq_int]
      refine st g11 rfl ?_
      intro τ9 g12
      have g13 : H (In4 b1 b3 b5 b7 0 0 false e (StA sb rb T M :: l)) τ9 := g12.re
      refine ret (by omega) g13 ?_
      intro τ10 g14
      exact hno e T τ10 he (by rw [hmk]; rfl) g14
    · intro a T1 τ3 hmk g5
      rw [c2_ret, tI_int, tI_int]
      have g6 : H (StA sb rb T1 (M + 1) :: In4 b1 b3 b5 b7 0 0 false 0 l) τ3 := g5.re
      refine st g6 rfl ?_
      intro τ4 g7
      refine st g7 rfl ?_
      intro τ5 g8
      rw [LI g8, LI g8]
      refine st g8 rfl ?_
      intro τ6 g9
      rw [LI g9, veq_int]
      refine st g9 rfl ?_
      intro τ7 g10
      rw [LI g10, veq_int]
      refine st g10 rfl ?_
      intro τ8 g11
      rw [LI g11, veq_int]
      refine st g11 rfl ?_
      intro τ9 g12
      have g13 : H (In4 b1 b3 b5 b7 a 0 false 0 (StA sb rb T1 (M + 1) :: l)) τ9 := g12.re
      refine ret (by omega) g13 ?_
      intro τ10 g14
      exact hyes a 0 false T1 τ10 (by rw [hmk]; rfl) g14
  rw [if_neg (by omega)] at hst hno hyes
  refine wdown h4 (by omega) hroot hkey (fun e => hst (by rw [e]; rfl)) ?_ ?_
  · intro e T1 τ1 he hd g1
    rw [cV_pan]
    refine pan (A := []) he (by omega) g1 ?_
    intro τ2 g2
    exact hno e T1 τ2 he (by rw [hd]; rfl) g2
  intro wb L T1 τ1 hd hL12 g1
  rw [hd] at hst hno hyes
  simp only [R.bind_ok] at hst hno hyes
  rw [cV_ret]
  simp only [nil_ptr, om_some, fieldAddr_ptr, Nat.zero_add]
  obtain ⟨wv, hok, g2⟩ := H_wy.1 g1
  rw [List.length_map, List.getElem?_map] at hst hno hyes
  cases hs : L[L.length - 1]? with
  | none => rw [hs] at hst; exact absurd rfl hst
  | some s =>
  have hLl := (List.getElem?_eq_some_iff.1 hs).1
  have hso := hok s (List.mem_of_getElem? hs)
  have hwu : s.w = ⟨s.at', s.n, s.nx⟩ := rfl
  rw [hs] at hst hno hyes
  simp only [Option.map_some, hwu] at hst hno hyes
  rw [AV g2, wy_len g2, ldI_some]
  refine b64 ((L.length - 1 : Nat) : Int) (by omega) ?_
  obtain ⟨b', c', hwv', u1, u2, u3, u4, u5, u6⟩ := sp_el g2 hs
  rw [AV g2, u1, om_some]
  simp only [fieldAddr_ptr, om_some, Nat.add_assoc, Nat.reduceAdd, Nat.add_zero]
  rw [u3, ldB_some, u4, om_some, u5, om_some]
  have g3 : H (NdsA L :: pt wb (.cells [.pointer (some ⟨sb, 0, none⟩), wv] t_tree_way false) :: Own t_tree_step 5 wv L.length (L.map spc).flatten :: StA sb rb T1 (M + 60) :: In4 b1 b3 b5 b7 0 0 false 0 l) τ1 := g2.re
  have g4 := nds_get g3 (List.mem_of_getElem? hs)
  refine nw g4 ?_
  intro b161 τ2 g5
  refine st3 g5 rfl hso.o1 hso.o2 ?_
  intro τ3 g6
  rw [LB g6, LV g6, LV g6]
  have hle := hso.le
  refine kfind g6 (NdS.two.cons) hso.eq.symm (by omega) ?_
  intro τ4 g7
  rw [c2_ret, tI_int, tB_bool]
  have hus := NdS.two (n := s.n) τ4 g7.tail
  -- the way, as one
  have wy : ∀ {τ : AHeap} {to old : Nat} {had : Bool} {e : Nat}, H (pt b161 (.cells [.bool s.n.leaf, s.kv, s.vv] t_api_Node false) :: RoU s.kv s.n.keys :: RoU s.vv s.n.vals :: NdsA L :: pt wb (.cells [.pointer (some ⟨sb, 0, none⟩), wv] t_tree_way false) :: Own t_tree_step 5 wv L.length (L.map spc).flatten :: StA sb rb T1 (M + 60) :: In4 b1 b3 b5 b7 to old had e l) τ → H (WyA wb sb L :: StA sb rb T1 (M + 60) :: In4 b1 b3 b5 b7 to old had e l) τ := by
    intro τ to old had e ht
    exact H_wy.2 ⟨wv, hok, ht.re⟩
  -- behind the leaf
  have k17 : ∀ (L5 : List Sp) (T5 : TS) (old : Nat) (had : Bool) (τ : AHeap), L5.length = L.length → ((upA splitA (L5.map Sp.w).length (L5.map Sp.w) T5).bind fun P T => topA P old had T) ≠ .stuck →
      (∀ e T' σ', e ≠ 0 → ((upA splitA (L5.map Sp.w).length (L5.map Sp.w) T5).bind fun P T => topA P old had T) = .err e T' → H (StA sb rb T' (M + 200) :: l) σ' → Q (.ret (.tuple #[.int .u64 0, .int .u64 0, .bool false, .int .i64 e])) σ') →
      (∀ to old' had' T' σ', ((upA splitA (L5.map Sp.w).length (L5.map Sp.w) T5).bind fun P T => topA P old had T) = .ok (to, old', had') T' → H (StA sb rb T' (M + 200) :: l) σ' → Q (.ret (.tuple #[.int .u64 to, .int .u64 old', .bool had', .int .i64 0])) σ') →
      H (WyA wb sb L5 :: StA sb rb T5 (M + 61) :: In4 b1 b3 b5 b7 0 old false 0 l) τ →
      s_tree_Insert_k17 E (qd P f_tree_Insert_c1 [(.pointer (some ⟨b1, 0, none⟩)), (.pointer (some ⟨b3, 0, none⟩)), (.pointer (some ⟨b5, 0, none⟩)), (.pointer (some ⟨b7, 0, none⟩))] fun τ66 =>
       pu (aLoad false 1 (.pointer (some ⟨b1, 0, none⟩)) τ66) fun v67 =>
       pu (aLoad false 1 (.pointer (some ⟨b3, 0, none⟩)) τ66) fun v68 =>
       pu (aLoad false 1 (.pointer (some ⟨b5, 0, none⟩)) τ66) fun v69 =>
       pu (aLoad false 1 (.pointer (some ⟨b7, 0, none⟩)) τ66) fun v70 =>
       Q (.ret (.tuple #[v67, v68, v69, v70])) τ66) (.pointer (some ⟨wb, 0, none⟩)) b3 had b1 b5 b7 τ := by
    intro L5 T5 old had τ hl5 hst5 hno5 hyes5 ht
    rw [List.length_map] at hst5 hno5 hyes5
    unfold s_tree_Insert_k17
    refine wup (f := splitA) (cost := 3) (fun L k T M τ Q' h1 h2 h3 h4 h5 h6 => wsplit' L k T M τ Q' h1 h2 h3 h4 h5 h6) ht (by omega) (by omega) (fun e => hst5 (by rw [e]; rfl)) ?_ ?_
    · intro e T6 τ5 he hu q1
      rw [c0_pan]
      refine pan (A := []) he (by omega) q1 ?_
      intro τ6 q2
      exact hno5 e T6 τ6 he (by rw [hu]; rfl) q2
    · intro T6 L6 τ5 hl6 hu q1
      rw [hu] at hst5 hno5 hyes5
      simp only [R.bind_ok] at hst5 hno5 hyes5
      rw [c0_ret]
      simp only [nil_ptr, om_some, fieldAddr_ptr, Nat.zero_add]
      obtain ⟨wv6, hok6, q2⟩ := H_wy.1 q1
      unfold topA at hst5 hyes5
      rw [List.getElem?_map] at hst5 hyes5
      cases hs6 : L6[0]? with
      | none => rw [hs6] at hst5; exact absurd rfl hst5
      | some s6 =>
      rw [hs6] at hyes5
      obtain ⟨b6, c6, hwv6, w1, w2, _⟩ := sp_el q2 hs6
      rw [AV q2, show (0 : Int) = ((0 : Nat) : Int) from rfl, w1, om_some]
      simp only [fieldAddr_ptr, om_some, Nat.add_zero, Nat.zero_mul]
      simp only [Nat.zero_mul] at w2
      rw [w2, ldI_some]
      have q3 : H (WyA wb sb L6 :: StA sb rb T6 (M + 61 + 3 * L5.length) :: In4 b1 b3 b5 b7 0 old false 0 l) τ5 := q1
      rw [LI q3]
      refine st q3 rfl ?_
      intro τ6 q4
      rw [LI q4, veq_int]
      refine st q4 rfl ?_
      intro τ7 q5
      refine st q5 rfl ?_
      intro τ8 q6
      refine st q6 rfl ?_
      intro τ9 q7
      have q8 : H (In4 b1 b3 b5 b7 s6.at' old had 0 (StA sb rb T6 (M + 61 + 3 * L5.length) :: l)) τ9 := q7.re
      refine ret (by omega) q8 ?_
      intro τ10 q9
      exact hyes5 s6.at' old had T6 τ10 rfl q9
  refine If_b (fun gk => ?_) fun gk => ?_
  · have gk : s.n.keys[findK s.n.keys key]? = some key := by simpa using gk
    rw [if_pos gk] at hst hno hyes
    cases hov : s.n.vals[findK s.n.keys key]? with
    | none => rw [hov] at hst; exact absurd rfl hst
    | some old =>
    rw [hov] at hst hno hyes
    simp only at hst hno hyes
    obtain ⟨p, ia, la⟩ := us_get hus.2 hov
    rw [LV g7, ia, om_some, la, ldI_some]
    refine st g7 rfl ?_
    intro τ5 g8
    have g9 : H (WyA wb sb L :: StA sb rb T1 (M + 60) :: In4 b1 b3 b5 b7 0 old false 0 l) τ5 := wy g8.re
    refine wset' g9 (by omega) hkey hval (fun e => hst (by rw [e]; rfl)) ?_ ?_
    · intro e T6 τ6 he hw g10
      rw [c0_pan]
      refine pan (A := []) he (by omega) g10 ?_
      intro τ7 q2
      exact hno e T6 τ7 he (by rw [hw]; rfl) q2
    · intro T6 L6 τ6 hl6 hw g10
      rw [hw] at hst hno hyes
      simp only [R.bind_ok] at hst hno hyes
      rw [c0_ret, decide_eq_true gk]
      exact k17 L6 T6 old true τ6 hl6 hst hno hyes g10
  · have gk' : ¬ s.n.keys[findK s.n.keys key]? = some key := by simpa using gk
    rw [if_neg gk'] at hst hno hyes
    by_cases h400 : s.n.keys.length < 400
    · rw [if_pos h400] at hst hno hyes
      have hil := ins_len (key := key) (val := val) hso.eq (findK_le s.n.keys key)
      rw [LB g7, LV g7, LV g7]
      refine kinsert g7 (NdS.two.cons) hso.eq.symm (by omega) (findK_le _ _) ?_
      intro kv' vv' τ5 g8
      rw [cV_ret]
      have g8 : H (RoU kv' (s.n.insN (findK s.n.keys key) key val).keys :: RoU vv' (s.n.insN (findK s.n.keys key) key val).vals :: pt b161 (.cells [.bool s.n.leaf, s.kv, s.vv] t_api_Node false) :: RoU s.kv s.n.keys :: RoU s.vv s.n.vals :: NdsA L :: pt wb (.cells [.pointer (some ⟨sb, 0, none⟩), wv] t_tree_way false) :: Own t_tree_step 5 wv L.length (L.map spc).flatten :: StA sb rb T1 (M + 60) :: In4 b1 b3 b5 b7 0 0 false 0 l) τ5 := g8
      have g9 : H (WyA wb sb L :: StA sb rb T1 (M + 60) :: RoU kv' (s.n.insN (findK s.n.keys key) key val).keys :: RoU vv' (s.n.insN (findK s.n.keys key) key val).vals :: In4 b1 b3 b5 b7 0 0 false 0 l) τ5 := H_wy.2 ⟨wv, hok, g8.re⟩
      refine wsave' (n := s.n.insN (findK s.n.keys key) key val) g9 (by omega) (small_ins hso.sm hkey hval) hil.2 (by omega) (fun e => hst (by rw [e]; rfl)) ?_ ?_
      · intro e T6 τ6 he hw g10
        rw [c0_pan]
        refine pan (A := []) he (by omega) g10 ?_
        intro τ7 q2
        exact hno e T6 τ7 he (by rw [hw]; rfl) q2
      · intro T6 L6 τ6 hl6 hw g10
        rw [hw] at hst hno hyes
        simp only [R.bind_ok] at hst hno hyes
        rw [c0_ret, decide_eq_false gk']
        exact k17 L6 T6 0 false τ6 hl6 hst hno hyes g10
    · rw [if_neg h400] at hst
      exact absurd rfl hst
end Go.Ax.C
set_option maxRecDepth 100000
namespace Go.Ax.C
open Go.Proofs Go.RowKit
variable {l r r2 m : List Assn} {σ : AHeap} {Q : RK}
def Nd.remN (n : Nd) (i : Nat) : Nd := ⟨n.leaf, remF i true n.keys, remF i false n.vals⟩
def Nd.join (a b : Nd) : Nd := ⟨a.leaf, a.keys ++ b.keys, a.vals ++ b.vals⟩
def Nd.evA (a b : Nd) : Nd := ⟨a.leaf, (a.keys ++ b.keys).take (evenK a b), (a.vals ++ b.vals).take (evenK a b)⟩
def Nd.evB (a b : Nd) : Nd := ⟨a.leaf, (a.keys ++ b.keys).drop (evenK a b), (a.vals ++ b.vals).drop (evenK a b)⟩
theorem small_join {a b : Nd} (ha : a.small) (hb : b.small) : (a.join b).small := by
  refine ⟨fun x hx => ?_, fun x hx => ?_⟩
  · rcases List.mem_append.1 hx with h | h
    · exact ha.1 x h
    · exact hb.1 x h
  · rcases List.mem_append.1 hx with h | h
    · exact ha.2 x h
    · exact hb.2 x h
theorem small_evA {a b : Nd} (ha : a.small) (hb : b.small) : (a.evA b).small := ⟨fun x hx => (small_join ha hb).1 x (List.mem_of_mem_take hx), fun x hx => (small_join ha hb).2 x (List.mem_of_mem_take hx)⟩
theorem small_evB {a b : Nd} (ha : a.small) (hb : b.small) : (a.evB b).small := ⟨fun x hx => (small_join ha hb).1 x (List.mem_of_mem_drop hx), fun x hx => (small_join ha hb).2 x (List.mem_of_mem_drop hx)⟩
theorem small_rem {n : Nd} {i : Nat} (h : n.small) : (n.remN i).small := by
  refine ⟨fun x hx => ?_, fun x hx => ?_⟩
  · rcases List.mem_append.1 hx with h1 | h1
    · exact h.1 x (List.mem_of_mem_take h1)
    · exact h.1 x (List.mem_of_mem_drop h1)
  · rcases List.mem_append.1 hx with h1 | h1
    · exact h.2 x (List.mem_of_mem_take h1)
    · exact h.2 x (List.mem_of_mem_drop h1)
def savA (T : TS) (a : Nat) (n : Nd) : R Unit := if n.May then if a < T.now.length then .ok () (T.put a n) else .stuck else .err 1 T
theorem ssave' {sb rb a : Nat} {T : TS} {M : Nat} {n : Nd} {kv vv : Value} (h : H (StA sb rb T M :: l) σ) (hM : M ≤ 100000000000) (hn : NdS l kv vv n) (hs : n.small) (hk9 : n.keys.length < 9223372036854775808) (hv9 : n.vals.length < 9223372036854775808) (ha : a < 2147483648)
    (hst : savA T a n ≠ .stuck)
    (hno : ∀ (e : Nat) T' σ', e ≠ 0 → savA T a n = .err e T' → H (StA sb rb T' (M + 1) :: l) σ' → Q (.ret (.int .i64 e)) σ')
    (hyes : ∀ T' σ', savA T a n = .ok () T' → H (StA sb rb T' (M + 1) :: l) σ' → Q (.ret (.int .i64 0)) σ') :
    E f_tree_Shelf_Save [.pointer (some ⟨sb, 0, none⟩), .int .u64 a, .agg #[.bool n.leaf, kv, vv]] σ Q := by
  unfold savA at hst hno hyes
  refine ssave h hM hn hs hk9 hv9 ?_ ?_ ?_
  · intro hor σ1 h1
    have hm : ¬ n.May := by
      rcases hor with h | h
      · omega
      · exact h
    rw [if_neg hm] at hno
    exact hno 1 T σ1 (by decide) rfl (st_le (by omega) h1)
  · intro _ hm hge σ1 h1
    rw [if_pos hm, if_neg (by omega)] at hst
    exact absurd rfl hst
  · intro hm hlt σ1 h1
    rw [if_pos hm, if_pos hlt] at hyes
    exact hyes _ σ1 rfl h1
def mergeA (P : List Wp) (k : Nat) (upn : Nd) (left right aa : Nat) (an : Nd) (ab : Nat) (bn : Nd) (T : TS) : R (List Wp) :=
  if left < upn.keys.length ∧ right < upn.keys.length then
    if an.keys.length + bn.keys.length ≤ 8 then
      (savA T aa (an.join bn)).bind fun _ T => (T.dec ab).bind fun _ T => match (an.join bn).keys[0]? with
        | none => .stuck
        | some j0 => wsaveA P (k - 1) ((upn.setN left j0 aa).remN right) T
    else (savA T aa (an.evA bn)).bind fun _ T => (savA T ab (an.evB bn)).bind fun _ T => match (an.evA bn).keys[0]?, (an.evB bn).keys[0]? with
      | some c0, some d0 => wsaveA P (k - 1) ((upn.setN left c0 aa).setN right d0 ab) T
      | _, _ => .stuck
  else .stuck
theorem dec_now {T T' : TS} {a : Nat} {b : Bool} (h : T.dec a = .ok b T') : T'.now.length = T.now.length ∧ T'.was = T.was ∧ T'.g = T.g ∧ a < T.now.length := by
  unfold TS.dec at h
  split at h
  · cases h
  · rename_i x hx
    split at h
    · cases h
    · cases h; exact ⟨by simp, rfl, rfl, (List.getElem?_eq_some_iff.1 hx).1⟩
set_option maxHeartbeats 2000000 in
theorem fill_k18 {wb sb rb k left right aa ab ba bb bu z1 z2 : Nat} {an bn : Nd} {ka va kb vb : Value} {up : Sp} {T : TS} {M : Nat} {L : List Sp}
    (h : H (pt ba (.cells [.int .u64 aa, .bool an.leaf, ka, va, .int .i64 z1] t_tree_step false) :: pt bb (.cells [.int .u64 ab, .bool bn.leaf, kb, vb, .int .i64 z2] t_tree_step false) :: pt bu (.cells (spc up) t_tree_step false) ::
      RoU ka an.keys :: RoU va an.vals :: RoU kb bn.keys :: RoU vb bn.vals :: RoU up.kv up.n.keys :: RoU up.vv up.n.vals :: WyA wb sb L :: StA sb rb T M :: l) σ)
    (hM : M ≤ 99000000000) (hk : 0 < k ∧ k ≤ 100) (han : an.small ∧ an.vals.length = an.keys.length ∧ an.keys.length ≤ 400) (hbn : bn.small ∧ bn.vals.length = bn.keys.length ∧ bn.keys.length ≤ 400) (hup : StpOk up) (haa : aa < 2147483648) (hab : ab < 2147483648)
    (hst : mergeA (L.map Sp.w) k up.n left right aa an ab bn T ≠ .stuck)
    (hno : ∀ e T' σ', e ≠ 0 → mergeA (L.map Sp.w) k up.n left right aa an ab bn T = .err e T' → H (StA sb rb T' (M + 3) :: l) σ' → Q (.pan (flt e)) σ')
    (hyes : ∀ T' L' σ', L'.length = L.length → mergeA (L.map Sp.w) k up.n left right aa an ab bn T = .ok (L'.map Sp.w) T' → H (WyA wb sb L' :: StA sb rb T' (M + 3) :: l) σ' → Q (.ret (.tuple #[])) σ') :
    s_tree_way_fill_k18 E Q ba bb wb k bu left right σ := by
  unfold s_tree_way_fill_k18
  have h : H (pt ba (.cells [.int .u64 aa, .bool an.leaf, ka, va, .int .i64 z1] t_tree_step false) :: pt bb (.cells [.int .u64 ab, .bool bn.leaf, kb, vb, .int .i64 z2] t_tree_step false) :: pt bu (.cells [.int .u64 up.at', .bool up.n.leaf, up.kv, up.vv, .int .i64 up.nx] t_tree_step false) ::
      RoU ka an.keys :: RoU va an.vals :: RoU kb bn.keys :: RoU vb bn.vals :: RoU up.kv up.n.keys :: RoU up.vv up.n.vals :: WyA wb sb L :: StA sb rb T M :: l) σ := h
  have hla : lenS ka = some (.int .i64 an.keys.length) := by obtain ⟨a, c, hv⟩ := rou_form (h.fnd (RoU ka an.keys)); rw [hv]; rfl
  have hlb : lenS kb = some (.int .i64 bn.keys.length) := by obtain ⟨a, c, hv⟩ := rou_form (h.fnd (RoU kb bn.keys)); rw [hv]; rfl
  rw [LV h, hla, ldI_some, LV h, hlb, ldI_some]
  refine b64 ((an.keys.length + bn.keys.length : Nat) : Int) (by omega) ?_
  unfold mergeA at hst hno hyes
  by_cases hlr : left < up.n.keys.length ∧ right < up.n.keys.length
  case neg => rw [if_neg hlr] at hst; exact absurd rfl hst
  rw [if_pos hlr] at hst hno hyes
  have hul := hup.le
  have hue := hup.eq
  -- the shelf's pointer, the way's
  have pS : ∀ {τ : AHeap} {A : List Assn}, H (WyA wb sb L :: A) τ → Ax.L wb 0 τ = some (.pointer (some ⟨sb, 0, none⟩)) := by
    intro τ A ht
    obtain ⟨wv, _, h2⟩ := H_wy.1 ht
    exact L_eq h2
  have hns : NdS (pt ba (.cells [.int .u64 aa, .bool an.leaf, ka, va, .int .i64 z1] t_tree_step false) :: pt bb (.cells [.int .u64 ab, .bool bn.leaf, kb, vb, .int .i64 z2] t_tree_step false) :: pt bu (.cells [.int .u64 up.at', .bool up.n.leaf, up.kv, up.vv, .int .i64 up.nx] t_tree_step false) ::
      RoU ka an.keys :: RoU va an.vals :: RoU kb bn.keys :: RoU vb bn.vals :: RoU up.kv up.n.keys :: RoU up.vv up.n.vals :: WyA wb sb L :: StA sb rb T M :: l) ka va an := fun τ ht => NdS.two (l := l) τ ht.re
  have hnb : NdS (pt ba (.cells [.int .u64 aa, .bool an.leaf, ka, va, .int .i64 z1] t_tree_step false) :: pt bb (.cells [.int .u64 ab, .bool bn.leaf, kb, vb, .int .i64 z2] t_tree_step false) :: pt bu (.cells [.int .u64 up.at', .bool up.n.leaf, up.kv, up.vv, .int .i64 up.nx] t_tree_step false) ::
      RoU ka an.keys :: RoU va an.vals :: RoU kb bn.keys :: RoU vb bn.vals :: RoU up.kv up.n.keys :: RoU up.vv up.n.vals :: WyA wb sb L :: StA sb rb T M :: l) kb vb bn := fun τ ht => NdS.two (l := l) τ ht.re
  refine If_dec (fun g => ?_) fun g => ?_
  · rw [if_pos (by omega)] at hst hno hyes
    rw [LB h, LV h, LV h, LB h, LV h, LV h]
    refine kjoin h hns hnb han.2.1.symm hbn.2.1.symm (by omega) (by omega) ?_
    intro k1 v1 σ1 h1
    rw [cV_ret]
    obtain ⟨ak1, ck1, hk1⟩ := rou_form h1
    obtain ⟨av1, cv1, hv1⟩ := rou_form h1.tail
    have ok1 : one k1 = true := by rw [hk1]; rfl
    have ok2 : one v1 = true := by rw [hv1]; rfl
    refine nw h1 ?_
    intro bj σ2 h2
    refine st3 h2 rfl ok1 ok2 ?_
    intro σ3 h3
    have h4 : H (StA sb rb T M :: WyA wb sb L :: RoU k1 (an.join bn).keys :: RoU v1 (an.join bn).vals :: pt bj (.cells [.bool an.leaf, k1, v1] t_api_Node false) :: pt ba (.cells [.int .u64 aa, .bool an.leaf, ka, va, .int .i64 z1] t_tree_step false) :: pt bb (.cells [.int .u64 ab, .bool bn.leaf, kb, vb, .int .i64 z2] t_tree_step false) :: pt bu (.cells [.int .u64 up.at', .bool up.n.leaf, up.kv, up.vv, .int .i64 up.nx] t_tree_step false) :: RoU up.kv up.n.keys :: RoU up.vv up.n.vals :: l) σ3 := by
      have q : H (pt bj (.cells [.bool an.leaf, k1, v1] t_api_Node false) :: RoU k1 (an.join bn).keys :: RoU v1 (an.join bn).vals :: pt ba (.cells [.int .u64 aa, .bool an.leaf, ka, va, .int .i64 z1] t_tree_step false) :: pt bb (.cells [.int .u64 ab, .bool bn.leaf, kb, vb, .int .i64 z2] t_tree_step false) :: pt bu (.cells [.int .u64 up.at', .bool up.n.leaf, up.kv, up.vv, .int .i64 up.nx] t_tree_step false) ::
        RoU ka an.keys :: RoU va an.vals :: RoU kb bn.keys :: RoU vb bn.vals :: RoU up.kv up.n.keys :: RoU up.vv up.n.vals :: WyA wb sb L :: StA sb rb T M :: l) σ3 := h3
      exact q.re
    rw [pS h4.tail, om_some, LI h4, LB h4, LV h4, LV h4]
    have hjl : (an.join bn).keys.length = an.keys.length + bn.keys.length ∧ (an.join bn).vals.length = an.keys.length + bn.keys.length := by have := han.2.1; have := hbn.2.1; simp [Nd.join]; omega
    refine ssave' (n := an.join bn) h4 (by omega) (fun τ ht => NdS.two (l := l) τ ht.re) (small_join han.1 hbn.1) (by omega) (by omega) haa (fun e => hst (by rw [e]; rfl)) ?_ ?_
    · intro e T1 τ1 he hsv h5
      rw [cI_ret]
      refine must1 he ?_
      rw [c0_pan]
      have h6 : H (StA sb rb T1 (M + 1) :: l) τ1 := h5.re
      exact hno e T1 τ1 he (by rw [hsv]; rfl) (st_le (by omega) h6)
    intro T1 τ1 hsv h5
    rw [hsv] at hst hno hyes
    simp only [R.bind_ok] at hst hno hyes
    rw [cI_ret]
    refine must0 ?_
    rw [c0_ret, pS h5.tail, om_some]
    have hp0 : aLoad false 1 (.pointer (some ⟨sb, 0, none⟩)) τ1 = some (.pointer (some ⟨rb, 0, none⟩)) := st_ptr0 h5
    simp only [nil_ptr, om_some, fieldAddr_ptr, Nat.zero_add]
    rw [hp0, om_some, LI h5]
    refine b64 (ab : Int) (by omega) ?_
    refine stdec h5 rfl (fun e => hst (by rw [e]; rfl)) ?_ ?_
    · intro e τ2 he hd h6
      rw [c2_ret, tB_bool, tI_int]
      refine must1 he ?_
      rw [c0_pan]
      have h7 : H (StA sb rb T1 (M + 1) :: l) τ2 := h6.re
      exact hno e T1 τ2 he (by rw [hd]; rfl) (st_le (by omega) h7)
    intro bd T2 τ2 hd h6
    have hdn := dec_now hd
    rw [hd] at hst hno hyes
    simp only [R.bind_ok] at hst hno hyes
    rw [c2_ret, tB_bool, tI_int]
    refine must0 ?_
    rw [c0_ret]
    refine b64 ((k - 1 : Nat) : Int) (by omega) ?_
    rw [LB h6, LV h6, LV h6, LV h6]
    cases hj0 : (an.join bn).keys[0]? with
    | none => rw [hj0] at hst; exact absurd rfl hst
    | some j0 =>
    rw [hj0] at hst hno hyes
    simp only at hst hno hyes
    obtain ⟨p, ia, la⟩ := us_get (rou_us (h6.fnd (RoU k1 (an.join bn).keys))) hj0
    rw [show (0 : Int) = ((0 : Nat) : Int) from rfl, ia, om_some, la, ldI_some, LI h6]
    have hj64 := (small_join han.1 hbn.1).1 j0 (List.mem_of_getElem? hj0)
    refine kset (lf := up.n.leaf) (n := up.n) h6 (fun τ ht => NdS.two (l := l) τ ht.re) hue.symm (by omega) hlr.1 ?_
    intro k2 v2 τ3 h7
    rw [cV_ret]
    have h7 : H (RoU k2 (up.n.setN left j0 aa).keys :: RoU v2 (up.n.setN left j0 aa).vals :: StA sb rb T2 (M + 1) :: WyA wb sb L :: RoU k1 (an.join bn).keys :: RoU v1 (an.join bn).vals :: pt bj (.cells [.bool an.leaf, k1, v1] t_api_Node false) :: pt ba (.cells [.int .u64 aa, .bool an.leaf, ka, va, .int .i64 z1] t_tree_step false) :: pt bb (.cells [.int .u64 ab, .bool bn.leaf, kb, vb, .int .i64 z2] t_tree_step false) :: pt bu (.cells [.int .u64 up.at', .bool up.n.leaf, up.kv, up.vv, .int .i64 up.nx] t_tree_step false) :: RoU up.kv up.n.keys :: RoU up.vv up.n.vals :: l) τ3 := h7
    have hsl : (up.n.setN left j0 aa).keys.length = up.n.keys.length ∧ (up.n.setN left j0 aa).vals.length = up.n.keys.length := by simp [Nd.setN, setF]; exact hue
    refine kremove (lf := up.n.leaf) (n := up.n.setN left j0 aa) (i := right) h7 NdS.two (by omega) (by omega) (by omega) ?_
    intro k3 v3 τ4 h8
    rw [cV_ret]
    have h8 : H (RoU k3 ((up.n.setN left j0 aa).remN right).keys :: RoU v3 ((up.n.setN left j0 aa).remN right).vals :: RoU k2 (up.n.setN left j0 aa).keys :: RoU v2 (up.n.setN left j0 aa).vals :: StA sb rb T2 (M + 1) :: WyA wb sb L :: RoU k1 (an.join bn).keys :: RoU v1 (an.join bn).vals :: pt bj (.cells [.bool an.leaf, k1, v1] t_api_Node false) :: pt ba (.cells [.int .u64 aa, .bool an.leaf, ka, va, .int .i64 z1] t_tree_step false) :: pt bb (.cells [.int .u64 ab, .bool bn.leaf, kb, vb, .int .i64 z2] t_tree_step false) :: pt bu (.cells [.int .u64 up.at', .bool up.n.leaf, up.kv, up.vv, .int .i64 up.nx] t_tree_step false) :: RoU up.kv up.n.keys :: RoU up.vv up.n.vals :: l) τ4 := h8
    have h9 : H (WyA wb sb L :: StA sb rb T2 (M + 1) :: RoU k3 ((up.n.setN left j0 aa).remN right).keys :: RoU v3 ((up.n.setN left j0 aa).remN right).vals :: l) τ4 := h8.re
    have hrl : ((up.n.setN left j0 aa).remN right).keys.length = up.n.keys.length - 1 ∧ ((up.n.setN left j0 aa).remN right).vals.length = up.n.keys.length - 1 := by simp [Nd.remN, remF]; omega
    refine wsave' (n := (up.n.setN left j0 aa).remN right) h9 (by omega) (small_rem (small_set hup.sm hj64 (by omega))) (by omega) (by omega) hst ?_ ?_
    · intro e T3 τ5 he hw h10
      rw [c0_pan]
      exact hno e T3 τ5 he hw (st_le (by omega) h10)
    · intro T3 L3 τ5 hl3 hw h10
      rw [c0_ret]
      have h11 : H (StA sb rb T3 (M + 1 + 1) :: WyA wb sb L3 :: l) τ5 := h10.re
      exact hyes T3 L3 τ5 hl3 hw ((st_le (N := M + 3) (by omega) h11).perm (.swap _ _ _))
  · rw [if_neg (by omega)] at hst hno hyes
    rw [LB h, LV h, LV h, LB h, LV h, LV h]
    refine keven h hns hnb han.2.1.symm hbn.2.1.symm (by omega) (by omega) ?_
    intro k1 v1 k2 v2 σ1 h1
    rw [c2_ret]
    obtain ⟨ak1, ck1, hk1⟩ := rou_form h1
    obtain ⟨av1, cv1, hv1⟩ := rou_form h1.tail
    obtain ⟨ak2, ck2, hk2⟩ := rou_form h1.tail.tail
    obtain ⟨av2, cv2, hv2⟩ := rou_form h1.tail.tail.tail
    refine nw h1 ?_
    intro bc σ2 h2
    refine nw h2 ?_
    intro bd σ3 h3
    refine st3 h3 rfl (by rw [hk1]; rfl) (by rw [hv1]; rfl) ?_
    intro σ4 h4
    refine st3 h4 rfl (by rw [hk2]; rfl) (by rw [hv2]; rfl) ?_
    intro σ5 h5
    have h6 : H (StA sb rb T M :: WyA wb sb L :: RoU k1 (an.evA bn).keys :: RoU v1 (an.evA bn).vals :: RoU k2 (an.evB bn).keys :: RoU v2 (an.evB bn).vals :: pt bc (.cells [.bool an.leaf, k1, v1] t_api_Node false) :: pt bd (.cells [.bool an.leaf, k2, v2] t_api_Node false) :: pt ba (.cells [.int .u64 aa, .bool an.leaf, ka, va, .int .i64 z1] t_tree_step false) :: pt bb (.cells [.int .u64 ab, .bool bn.leaf, kb, vb, .int .i64 z2] t_tree_step false) :: pt bu (.cells [.int .u64 up.at', .bool up.n.leaf, up.kv, up.vv, .int .i64 up.nx] t_tree_step false) :: RoU up.kv up.n.keys :: RoU up.vv up.n.vals :: l) σ5 := by
      have q : H (pt bd (.cells [.bool an.leaf, k2, v2] t_api_Node false) :: pt bc (.cells [.bool an.leaf, k1, v1] t_api_Node false) :: RoU k1 (an.evA bn).keys :: RoU v1 (an.evA bn).vals :: RoU k2 (an.evB bn).keys :: RoU v2 (an.evB bn).vals :: pt ba (.cells [.int .u64 aa, .bool an.leaf, ka, va, .int .i64 z1] t_tree_step false) :: pt bb (.cells [.int .u64 ab, .bool bn.leaf, kb, vb, .int .i64 z2] t_tree_step false) :: pt bu (.cells [.int .u64 up.at', .bool up.n.leaf, up.kv, up.vv, .int .i64 up.nx] t_tree_step false) ::
        RoU ka an.keys :: RoU va an.vals :: RoU kb bn.keys :: RoU vb bn.vals :: RoU up.kv up.n.keys :: RoU up.vv up.n.vals :: WyA wb sb L :: StA sb rb T M :: l) σ5 := h5
      exact q.re
    rw [pS h6.tail, om_some, LI h6, LB h6, LV h6, LV h6]
    have hel : (an.evA bn).keys.length = evenK an bn ∧ (an.evA bn).vals.length = evenK an bn ∧ (an.evB bn).keys.length = an.keys.length + bn.keys.length - evenK an bn ∧ (an.evB bn).vals.length = an.keys.length + bn.keys.length - evenK an bn := by
      have := han.2.1; have := hbn.2.1
      have : evenK an bn ≤ an.keys.length + bn.keys.length := by unfold evenK; omega
      simp [Nd.evA, Nd.evB]; omega
    have hek : 1 ≤ evenK an bn ∧ evenK an bn < an.keys.length + bn.keys.length := by unfold evenK; omega
    refine ssave' (n := an.evA bn) h6 (by omega) (fun τ ht => NdS.two (l := l) τ ht.re) (small_evA han.1 hbn.1) (by omega) (by omega) haa (fun e => hst (by rw [e]; rfl)) ?_ ?_
    · intro e T1 τ1 he hsv h7
      rw [cI_ret]
      refine must1 he ?_
      rw [c0_pan]
      have h8 : H (StA sb rb T1 (M + 1) :: l) τ1 := h7.re
      exact hno e T1 τ1 he (by rw [hsv]; rfl) (st_le (by omega) h8)
    intro T1 τ1 hsv h7
    rw [hsv] at hst hno hyes
    simp only [R.bind_ok] at hst hno hyes
    rw [cI_ret]
    refine must0 ?_
    rw [c0_ret, pS h7.tail, om_some, LI h7, LB h7, LV h7, LV h7]
    refine ssave' (n := an.evB bn) h7 (by omega) (fun τ ht => NdS.two (l := l) τ ht.re) (small_evB han.1 hbn.1) (by omega) (by omega) hab (fun e => hst (by rw [e]; rfl)) ?_ ?_
    · intro e T2 τ2 he hsv2 h8
      rw [cI_ret]
      refine must1 he ?_
      rw [c0_pan]
      have h9 : H (StA sb rb T2 (M + 1 + 1) :: l) τ2 := h8.re
      exact hno e T2 τ2 he (by rw [hsv2]; rfl) (st_le (by omega) h9)
    intro T2 τ2 hsv2 h8
    rw [hsv2] at hst hno hyes
    simp only [R.bind_ok] at hst hno hyes
    obtain ⟨c0', hc0⟩ : ∃ c0, (an.evA bn).keys[0]? = some c0 := ⟨_, List.getElem?_eq_getElem (by omega)⟩
    obtain ⟨d0, hd0⟩ : ∃ d0, (an.evB bn).keys[0]? = some d0 := ⟨_, List.getElem?_eq_getElem (by omega)⟩
    rw [hc0, hd0] at hst hno hyes
    simp only at hst hno hyes
    have hc64 := (small_evA han.1 hbn.1).1 c0' (List.mem_of_getElem? hc0)
    have hd64 := (small_evB han.1 hbn.1).1 d0 (List.mem_of_getElem? hd0)
    rw [cI_ret]
    refine must0 ?_
    rw [c0_ret]
    refine b64 ((k - 1 : Nat) : Int) (by omega) ?_
    rw [LB h8, LV h8, LV h8, LV h8]
    obtain ⟨p, ia, la⟩ := us_get (rou_us (h8.fnd (RoU k1 (an.evA bn).keys))) hc0
    obtain ⟨p2, ia2, la2⟩ := us_get (rou_us (h8.fnd (RoU k2 (an.evB bn).keys))) hd0
    rw [show (0 : Int) = ((0 : Nat) : Int) from rfl, ia, om_some, la, ldI_some, LI h8, LV h8, ia2, om_some, la2, ldI_some, LI h8]
    refine kset (lf := up.n.leaf) (n := up.n) h8 (fun τ ht => NdS.two (l := l) τ ht.re) hue.symm (by omega) hlr.1 ?_
    intro k3 v3 τ3 h9
    have h9 : H (RoU k3 (up.n.setN left c0' aa).keys :: RoU v3 (up.n.setN left c0' aa).vals :: StA sb rb T2 (M + 1 + 1) :: WyA wb sb L :: RoU k1 (an.evA bn).keys :: RoU v1 (an.evA bn).vals :: RoU k2 (an.evB bn).keys :: RoU v2 (an.evB bn).vals :: pt bc (.cells [.bool an.leaf, k1, v1] t_api_Node false) :: pt bd (.cells [.bool an.leaf, k2, v2] t_api_Node false) :: pt ba (.cells [.int .u64 aa, .bool an.leaf, ka, va, .int .i64 z1] t_tree_step false) :: pt bb (.cells [.int .u64 ab, .bool bn.leaf, kb, vb, .int .i64 z2] t_tree_step false) :: pt bu (.cells [.int .u64 up.at', .bool up.n.leaf, up.kv, up.vv, .int .i64 up.nx] t_tree_step false) :: RoU up.kv up.n.keys :: RoU up.vv up.n.vals :: l) τ3 := h9
    have hsl : (up.n.setN left c0' aa).keys.length = up.n.keys.length ∧ (up.n.setN left c0' aa).vals.length = up.n.keys.length := by simp [Nd.setN, setF]; exact hue
    rw [cV_ret, LV h9, veq_sl ⟨_, _, _, hk2⟩, us_at (rou_us (h9.fnd (RoU k2 (an.evB bn).keys))) hd0 ia2, ldI_some, veq_int, LI h9, veq_int]
    refine kset (lf := up.n.leaf) (n := up.n.setN left c0' aa) (i := right) h9 NdS.two (by omega) (by omega) (by omega) ?_
    intro k4 v4 τ4 h10
    rw [cV_ret]
    have h10 : H (RoU k4 ((up.n.setN left c0' aa).setN right d0 ab).keys :: RoU v4 ((up.n.setN left c0' aa).setN right d0 ab).vals :: RoU k3 (up.n.setN left c0' aa).keys :: RoU v3 (up.n.setN left c0' aa).vals :: StA sb rb T2 (M + 1 + 1) :: WyA wb sb L :: RoU k1 (an.evA bn).keys :: RoU v1 (an.evA bn).vals :: RoU k2 (an.evB bn).keys :: RoU v2 (an.evB bn).vals :: pt bc (.cells [.bool an.leaf, k1, v1] t_api_Node false) :: pt bd (.cells [.bool an.leaf, k2, v2] t_api_Node false) :: pt ba (.cells [.int .u64 aa, .bool an.leaf, ka, va, .int .i64 z1] t_tree_step false) :: pt bb (.cells [.int .u64 ab, .bool bn.leaf, kb, vb, .int .i64 z2] t_tree_step false) :: pt bu (.cells [.int .u64 up.at', .bool up.n.leaf, up.kv, up.vv, .int .i64 up.nx] t_tree_step false) :: RoU up.kv up.n.keys :: RoU up.vv up.n.vals :: l) τ4 := h10
    have h11 : H (WyA wb sb L :: StA sb rb T2 (M + 1 + 1) :: RoU k4 ((up.n.setN left c0' aa).setN right d0 ab).keys :: RoU v4 ((up.n.setN left c0' aa).setN right d0 ab).vals :: l) τ4 := h10.re
    have hrl : ((up.n.setN left c0' aa).setN right d0 ab).keys.length = up.n.keys.length ∧ ((up.n.setN left c0' aa).setN right d0 ab).vals.length = up.n.keys.length := by simp [Nd.setN, setF]; exact hue
    refine wsave' (n := (up.n.setN left c0' aa).setN right d0 ab) h11 (by omega) (small_set (small_set hup.sm hc64 (by omega)) hd64 (by omega)) (by omega) (by omega) hst ?_ ?_
    · intro e T3 τ5 he hw h12
      rw [c0_pan]
      exact hno e T3 τ5 he hw h12
    · intro T3 L3 τ5 hl3 hw h12
      rw [c0_ret]
      exact hyes T3 L3 τ5 hl3 hw h12
end Go.Ax.C
set_option maxRecDepth 100000
namespace Go.Ax.C
open Go.Proofs Go.RowKit
variable {l r r2 m : List Assn} {σ : AHeap} {Q : RK}
def besideA (P : List Wp) (k : Nat) (x up : Wp) (T : TS) : R (List Wp) :=
  if up.nx + 1 = up.n.keys.length then
    if up.nx = 0 then .err 23 T else match up.n.vals[up.nx - 1]? with
      | none => .stuck
      | some v => (T.shadow v).bind fun q T => mergeA P k up.n (up.nx - 1) up.nx q.1 q.2 x.at' x.n T
  else match up.n.vals[up.nx + 1]? with
    | none => .stuck
    | some v => (T.shadow v).bind fun q T => mergeA P k up.n up.nx (up.nx + 1) x.at' x.n q.1 q.2 T
def keyA (P : List Wp) (k : Nat) (x up : Wp) (T : TS) : R (List Wp) :=
  if 0 < x.n.keys.length then match up.n.keys[up.nx]?, x.n.keys[0]? with
    | some uk, some x0 => if uk = x0 then .ok P T else wsetA P (k - 1) up.nx x0 x.at' T
    | _, _ => .stuck
  else .ok P T
def fillA (P : List Wp) (k : Nat) (T : TS) : R (List Wp) :=
  if k = 0 then .ok P T
  else match P[k]?, P[k - 1]? with
    | some x, some up => (keyA P k x up T).bind fun P T => if 4 ≤ x.n.keys.length then .ok P T else match P[k - 1]? with
      | none => .stuck
      | some up => besideA P k x up T
    | _, _ => .stuck
theorem veq_ptr {a : Option Addr} {p : Prop} : (veq1 (.pointer a) (.pointer a) = true ∧ p) = p := by
  have : veq1 (.pointer a) (.pointer a) = true := by simp [veq1, veq, veq0]
  simp [this]
theorem veq_node {b : Bool} {x y : Value} {p : Prop} (hx : ∃ a n c, x = .slice a n c) (hy : ∃ a n c, y = .slice a n c) : (veq1 (.agg #[.bool b, x, y]) (.agg #[.bool b, x, y]) = true ∧ p) = p := by
  obtain ⟨a, n, c, rfl⟩ := hx
  obtain ⟨a2, n2, c2, rfl⟩ := hy
  have : veq1 (.agg #[.bool b, .slice a n c, .slice a2 n2 c2]) (.agg #[.bool b, .slice a n c, .slice a2 n2 c2]) = true := by simp [veq1, veq, veq0, veqs]
  simp [this]
theorem veq_step {i j : Int} {b : Bool} {x y : Value} {p : Prop} (hx : ∃ a n c, x = .slice a n c) (hy : ∃ a n c, y = .slice a n c) : (veq1 (.agg #[.int .u64 i, .bool b, x, y, .int .i64 j]) (.agg #[.int .u64 i, .bool b, x, y, .int .i64 j]) = true ∧ p) = p := by
  obtain ⟨a, n, c, rfl⟩ := hx
  obtain ⟨a2, n2, c2, rfl⟩ := hy
  have : veq1 (.agg #[.int .u64 i, .bool b, .slice a n c, .slice a2 n2 c2, .int .i64 j]) (.agg #[.int .u64 i, .bool b, .slice a n c, .slice a2 n2 c2, .int .i64 j]) = true := by simp [veq1, veq, veq0, veqs]
  simp [this]
theorem rdS {wb sb k b : Nat} {L : List Sp} {s : Sp} {wv : Value} (h : H (WyL wb sb wv L l) σ) (hk : L[k]? = some s) (hi : aIndexAddr 5 wv (.int .i64 (k : Nat)) = some (.pointer (some ⟨b, k * 5, none⟩))) (K : Prop) :
    (om (Ax.L wb 1 σ) fun v35 => veq1 v35 wv = true ∧ om (some (.pointer (some ⟨b, k * 5, none⟩))) fun v36 => ldI .u64 (aLoad false 1 v36 σ) fun n37 => om (some (.pointer (some ⟨b, k * 5 + 1, none⟩))) fun v38 => ldB (aLoad false 1 v38 σ) fun c39 =>
      om (some (.pointer (some ⟨b, k * 5 + 2, none⟩))) fun v40 => om (aLoad false 1 v40 σ) fun v41 => om (some (.pointer (some ⟨b, k * 5 + 3, none⟩))) fun v42 => om (aLoad false 1 v42 σ) fun v43 => om (some (.pointer (some ⟨b, k * 5 + 4, none⟩))) fun v44 => ldI .i64 (aLoad false 1 v44 σ) fun n45 =>
      veq1 (.agg #[(.int .u64 n37), (.bool c39), v41, v43, (.int .i64 n45)]) (.agg #[(.int .u64 s.at'), (.bool s.n.leaf), s.kv, s.vv, (.int .i64 s.nx)]) = true ∧ K) = K := by
  obtain ⟨b', c, hwv, e1, e2, e3, e4, e5, e6⟩ := sp_el h hk
  have hbb : b' = b := by
    have := e1 .i64
    rw [hi] at this
    simp at this; exact this.symm
  subst hbb
  have h3 : H (NdsA L :: l) σ := h.re
  have h4 := nds_get h3 (List.mem_of_getElem? hk)
  obtain ⟨a1, c1, hkv⟩ := rou_form h4
  obtain ⟨a2, c2, hvv⟩ := rou_form h4.tail
  rw [LV h, veq_sl ⟨_, _, _, hwv⟩]
  simp only [om_some]
  rw [e2, ldI_some, e3, ldB_some, e4, om_some, e5, om_some, e6, ldI_some]
  exact veq_step ⟨_, _, _, hkv⟩ ⟨_, _, _, hvv⟩
abbrev stc (a : Nat) (n : Nd) (kv vv : Value) (nx : Nat) : List Value := [.int .u64 a, .bool n.leaf, kv, vv, .int .i64 nx]
set_option maxHeartbeats 2000000 in
theorem fill_k14 {wb sb rb k left right bes av bx bn bu : Nat} {x up : Sp} {nn : Nd} {kn vn : Value} {T : TS} {M : Nat} {L : List Sp}
    (h : H (pt bx (.cells (stc x.at' x.n x.kv x.vv x.nx) t_tree_step false) :: pt bn (.cells [.bool nn.leaf, kn, vn] t_api_Node false) :: pt bu (.cells (stc up.at' up.n up.kv up.vv up.nx) t_tree_step false) ::
      RoU x.kv x.n.keys :: RoU x.vv x.n.vals :: RoU kn nn.keys :: RoU vn nn.vals :: RoU up.kv up.n.keys :: RoU up.vv up.n.vals :: WyA wb sb L :: StA sb rb T M :: l) σ)
    (hM : M ≤ 98000000000) (hk : 0 < k ∧ k ≤ 100) (hx : StpOk x) (hnn : nn.small ∧ nn.vals.length = nn.keys.length ∧ nn.keys.length ≤ 400) (hup : StpOk up) (hav : av < 2147483648)
    (R0 : R (List Wp)) (hR : R0 = if bes = left then mergeA (L.map Sp.w) k up.n left right av nn x.at' x.n T else mergeA (L.map Sp.w) k up.n left right x.at' x.n av nn T)
    (hst : R0 ≠ .stuck)
    (hno : ∀ e T' σ', e ≠ 0 → R0 = .err e T' → H (StA sb rb T' (M + 3) :: l) σ' → Q (.pan (flt e)) σ')
    (hyes : ∀ T' L' σ', L'.length = L.length → R0 = .ok (L'.map Sp.w) T' → H (WyA wb sb L' :: StA sb rb T' (M + 3) :: l) σ' → Q (.ret (.tuple #[])) σ') :
    s_tree_way_fill_k14 E Q 0 bx av bn bes left wb k bu right σ := by
  unfold s_tree_way_fill_k14
  refine must0 ?_
  rw [c0_ret]
  obtain ⟨SF, hSF⟩ : ∃ SF, SF = Star [pt bx (.cells (stc x.at' x.n x.kv x.vv x.nx) t_tree_step false), pt bn (.cells [.bool nn.leaf, kn, vn] t_api_Node false)] := ⟨_, rfl⟩
  have hfr : ∀ {τ : AHeap} {A : List Assn}, H (SF :: A) τ → H (pt bx (.cells (stc x.at' x.n x.kv x.vv x.nx) t_tree_step false) :: pt bn (.cells [.bool nn.leaf, kn, vn] t_api_Node false) :: []) τ := fun {τ A} ht => by
    rw [hSF, H_star] at ht
    exact ht.left
  have h1 : H (SF :: pt bu (.cells (stc up.at' up.n up.kv up.vv up.nx) t_tree_step false) :: RoU x.kv x.n.keys :: RoU x.vv x.n.vals :: RoU kn nn.keys :: RoU vn nn.vals :: RoU up.kv up.n.keys :: RoU up.vv up.n.vals :: WyA wb sb L :: StA sb rb T M :: l) σ := by
    rw [hSF, H_star]; exact h
  obtain ⟨a1, c1, hkx⟩ := rou_form (h1.fnd (RoU x.kv x.n.keys))
  obtain ⟨a2, c2, hvx⟩ := rou_form (h1.fnd (RoU x.vv x.n.vals))
  obtain ⟨a3, c3, hkn⟩ := rou_form (h1.fnd (RoU kn nn.keys))
  obtain ⟨a4, c4, hvn⟩ := rou_form (h1.fnd (RoU vn nn.vals))
  have rd : ∀ {τ : AHeap} {A : List Assn} (K : Prop), H (SF :: A) τ → ((ldI .u64 (Ax.L bx 0 τ) fun n233 => veq1 (.int .u64 n233) (.int .u64 x.at') = true ∧ ldB (Ax.L bx 1 τ) fun c234 => om (Ax.L bx 2 τ) fun v235 => om (Ax.L bx 3 τ) fun v236 => veq1 (.agg #[(.bool c234), v235, v236]) (.agg #[(.bool x.n.leaf), x.kv, x.vv]) = true ∧
      ldB (Ax.L bn 0 τ) fun c237 => om (Ax.L bn 1 τ) fun v238 => om (Ax.L bn 2 τ) fun v239 => veq1 (.agg #[(.bool c237), v238, v239]) (.agg #[(.bool nn.leaf), kn, vn]) = true ∧ K) = K) := by
    intro τ A K ht
    have f := hfr ht
    rw [LI f, veq_int, LB f, LV f, LV f, veq_node ⟨_, _, _, hkx⟩ ⟨_, _, _, hvx⟩, LB f, LV f, LV f, veq_node ⟨_, _, _, hkn⟩ ⟨_, _, _, hvn⟩]
  have rd2 : ∀ {τ : AHeap} {A : List Assn} (K : Prop), H (SF :: A) τ → ((ldB (Ax.L bn 0 τ) fun c237 => om (Ax.L bn 1 τ) fun v238 => om (Ax.L bn 2 τ) fun v239 => veq1 (.agg #[(.bool c237), v238, v239]) (.agg #[(.bool nn.leaf), kn, vn]) = true ∧ K) = K) := by
    intro τ A K ht
    have f := hfr ht
    rw [LB f, LV f, LV f, veq_node ⟨_, _, _, hkn⟩ ⟨_, _, _, hvn⟩]
  -- with both copies
  have k16 : ∀ {τ : AHeap} {ba bb : Nat}, H (pt ba (.cells (stc x.at' x.n x.kv x.vv 0) t_tree_step false) :: pt bb (.cells (stc av nn kn vn 0) t_tree_step false) :: SF :: pt bu (.cells (stc up.at' up.n up.kv up.vv up.nx) t_tree_step false) :: RoU x.kv x.n.keys :: RoU x.vv x.n.vals :: RoU kn nn.keys :: RoU vn nn.vals :: RoU up.kv up.n.keys :: RoU up.vv up.n.vals :: WyA wb sb L :: StA sb rb T M :: l) τ →
      s_tree_way_fill_k16 E Q bes left bb ba wb k bu right τ := by
    intro τ ba bb ht
    unfold s_tree_way_fill_k16
    refine If_dec (fun g => ?_) fun g => ?_
    · rw [if_pos (by omega)] at hR
      subst hR
      rw [LI ht, LB ht, LV ht, LV ht, LI ht, LI ht, LB ht, LV ht, LV ht, LI ht]
      refine store5 (vs := [.int .u64 (av : Nat), .bool nn.leaf, kn, vn, .int .i64 0]) ht rfl rfl (by rw [hkn, hvn]; rfl) ?_
      intro τ1 h2
      refine store5 (vs := [.int .u64 (x.at' : Nat), .bool x.n.leaf, x.kv, x.vv, .int .i64 0]) (h2.perm (.swap _ _ _)) rfl rfl (by rw [hkx, hvx]; rfl) ?_
      intro τ2 h3
      have h4 : H (pt ba (.cells [.int .u64 av, .bool nn.leaf, kn, vn, .int .i64 (0 : Nat)] t_tree_step false) :: pt bb (.cells [.int .u64 x.at', .bool x.n.leaf, x.kv, x.vv, .int .i64 (0 : Nat)] t_tree_step false) :: pt bu (.cells (spc up) t_tree_step false) :: RoU kn nn.keys :: RoU vn nn.vals :: RoU x.kv x.n.keys :: RoU x.vv x.n.vals :: RoU up.kv up.n.keys :: RoU up.vv up.n.vals :: WyA wb sb L :: StA sb rb T M :: l) τ2 := by
        have q : H (pt ba (.cells (stc av nn kn vn 0) t_tree_step false) :: pt bb (.cells (stc x.at' x.n x.kv x.vv 0) t_tree_step false) :: pt bu (.cells (stc up.at' up.n up.kv up.vv up.nx) t_tree_step false) :: RoU kn nn.keys :: RoU vn nn.vals :: RoU x.kv x.n.keys :: RoU x.vv x.n.vals :: RoU up.kv up.n.keys :: RoU up.vv up.n.vals :: WyA wb sb L :: StA sb rb T M :: l) τ2 := h3.re
        exact q
      exact fill_k18 h4 (by omega) hk hnn ⟨hx.sm, hx.eq, hx.le⟩ hup hav hx.at8 hst hno hyes
    · rw [if_neg (by omega)] at hR
      subst hR
      have h4 : H (pt ba (.cells [.int .u64 x.at', .bool x.n.leaf, x.kv, x.vv, .int .i64 (0 : Nat)] t_tree_step false) :: pt bb (.cells [.int .u64 av, .bool nn.leaf, kn, vn, .int .i64 (0 : Nat)] t_tree_step false) :: pt bu (.cells (spc up) t_tree_step false) :: RoU x.kv x.n.keys :: RoU x.vv x.n.vals :: RoU kn nn.keys :: RoU vn nn.vals :: RoU up.kv up.n.keys :: RoU up.vv up.n.vals :: WyA wb sb L :: StA sb rb T M :: l) τ := by
        have q : H (pt ba (.cells (stc x.at' x.n x.kv x.vv 0) t_tree_step false) :: pt bb (.cells (stc av nn kn vn 0) t_tree_step false) :: pt bu (.cells (stc up.at' up.n up.kv up.vv up.nx) t_tree_step false) :: RoU x.kv x.n.keys :: RoU x.vv x.n.vals :: RoU kn nn.keys :: RoU vn nn.vals :: RoU up.kv up.n.keys :: RoU up.vv up.n.vals :: WyA wb sb L :: StA sb rb T M :: l) τ := ht.re
        exact q
      exact fill_k18 h4 (by omega) hk ⟨hx.sm, hx.eq, hx.le⟩ hnn hup hx.at8 hav hst hno hyes
  have f1 := hfr h1
  rw [LI f1, LB f1, LV f1, LV f1, LB f1, LV f1, LV f1]
  constructor
  · refine nw h1 ?_
    intro ba τ1 h2
    rw [rd _ (h2.fnd SF)]
    refine nw h2 ?_
    intro bb τ2 h3
    rw [rd _ (h3.fnd SF)]
    refine store5 (vs := [.int .u64 (x.at' : Nat), .bool x.n.leaf, x.kv, x.vv, .int .i64 0]) (h3.perm (.swap _ _ _)) rfl rfl (by rw [hkx, hvx]; rfl) ?_
    intro τ3 h4
    rw [rd2 _ (h4.fnd SF)]
    refine store5 (vs := [.int .u64 (av : Nat), .bool nn.leaf, kn, vn, .int .i64 0]) (h4.perm (.swap _ _ _)) rfl rfl (by rw [hkn, hvn]; rfl) ?_
    intro τ4 h5
    exact k16 (h5.perm (.swap _ _ _))
  · refine nw h1 ?_
    intro bb τ1 h2
    rw [rd _ (h2.fnd SF)]
    refine nw h2 ?_
    intro ba τ2 h3
    rw [rd _ (h3.fnd SF)]
    refine store5 (vs := [.int .u64 (x.at' : Nat), .bool x.n.leaf, x.kv, x.vv, .int .i64 0]) h3 rfl rfl (by rw [hkx, hvx]; rfl) ?_
    intro τ3 h4
    rw [rd2 _ (h4.fnd SF)]
    refine store5 (vs := [.int .u64 (av : Nat), .bool nn.leaf, kn, vn, .int .i64 0]) (h4.perm (.swap _ _ _)) rfl rfl (by rw [hkn, hvn]; rfl) ?_
    intro τ4 h5
    exact k16 (h5.perm (.swap _ _ _))
end Go.Ax.C
set_option maxRecDepth 100000
namespace Go.Ax.C
open Go.Proofs Go.RowKit
variable {l r r2 m : List Assn} {σ : AHeap} {Q : RK}
theorem wy_ptr {wb sb : Nat} {L : List Sp} (h : H (WyA wb sb L :: l) σ) : Ax.L wb 0 σ = some (.pointer (some ⟨sb, 0, none⟩)) := by
  obtain ⟨wv, _, h2⟩ := H_wy.1 h
  exact L_eq h2
set_option maxHeartbeats 2000000 in
theorem fill_k11 {wb sb rb k left right bes v bx bu : Nat} {x up : Sp} {T : TS} {M : Nat} {L : List Sp} {F : Nat × Nd → TS → R (List Wp)}
    (h : H (pt bx (.cells (stc x.at' x.n x.kv x.vv x.nx) t_tree_step false) :: pt bu (.cells (stc up.at' up.n up.kv up.vv up.nx) t_tree_step false) ::
      RoU x.kv x.n.keys :: RoU x.vv x.n.vals :: RoU up.kv up.n.keys :: RoU up.vv up.n.vals :: WyA wb sb L :: StA sb rb T M :: l) σ)
    (hM : M ≤ 97000000000) (hk : 0 < k ∧ k ≤ 100) (hx : StpOk x) (hup : StpOk up) (hlr : left + right = bes + up.nx ∧ right ≤ 2000) (hv : up.n.vals[bes]? = some v)
    (hF : ∀ q T, F q T = if bes = left then mergeA (L.map Sp.w) k up.n left right q.1 q.2 x.at' x.n T else mergeA (L.map Sp.w) k up.n left right x.at' x.n q.1 q.2 T)
    (hst : (T.shadow v).bind F ≠ .stuck)
    (hno : ∀ e T' σ', e ≠ 0 → (T.shadow v).bind F = .err e T' → H (StA sb rb T' (M + 5) :: l) σ' → Q (.pan (flt e)) σ')
    (hyes : ∀ T' L' σ', L'.length = L.length → (T.shadow v).bind F = .ok (L'.map Sp.w) T' → H (WyA wb sb L' :: StA sb rb T' (M + 5) :: l) σ' → Q (.ret (.tuple #[])) σ') :
    s_tree_way_fill_k11 E Q wb left right bu bx k σ := by
  unfold s_tree_way_fill_k11
  apply e_tree_way_pair
  unfold s_tree_way_pair
  refine If_dec (fun g => absurd g (by omega)) fun _ => ?_
  rw [cI_ret]
  refine must0 ?_
  rw [c0_ret]
  have hnx := hup.nx
  have hbl := (List.getElem?_eq_some_iff.1 hv).1
  have hul := hup.le
  have hue := hup.eq
  refine b64 ((left + right : Nat) : Int) (by omega) ?_
  rw [LI h]
  refine b64 (bes : Int) (by omega) ?_
  have h1 : H (WyA wb sb L :: StA sb rb T M :: pt bx (.cells (stc x.at' x.n x.kv x.vv x.nx) t_tree_step false) :: pt bu (.cells (stc up.at' up.n up.kv up.vv up.nx) t_tree_step false) ::
      RoU x.kv x.n.keys :: RoU x.vv x.n.vals :: RoU up.kv up.n.keys :: RoU up.vv up.n.vals :: l) σ := h.re
  obtain ⟨a4, c4, hvu⟩ := rou_form (h1.fnd (RoU up.vv up.n.vals))
  obtain ⟨p, ia, la⟩ := us_get (rou_us (h1.fnd (RoU up.vv up.n.vals))) hv
  rw [wy_ptr h1, om_some, LV h, ia, om_some, la, ldI_some]
  have h2 : H (StA sb rb T M :: WyA wb sb L :: pt bx (.cells (stc x.at' x.n x.kv x.vv x.nx) t_tree_step false) :: pt bu (.cells (stc up.at' up.n up.kv up.vv up.nx) t_tree_step false) ::
      RoU x.kv x.n.keys :: RoU x.vv x.n.vals :: RoU up.kv up.n.keys :: RoU up.vv up.n.vals :: l) σ := h1.perm (.swap _ _ _)
  have hN := (st_ok h2).hi
  -- behind it
  have bad : ∀ {τ : AHeap} {e : Nat} {T1 : TS} {bn a : Nat} {A : List Assn}, e ≠ 0 → T.shadow v = .err e T1 → H (StA sb rb T1 (M + 2) :: l) τ → s_tree_way_fill_k14 E Q e bx a bn bes left wb k bu right τ := by
    intro τ e T1 bn a A he hsh ht
    unfold s_tree_way_fill_k14
    refine must1 he ?_
    rw [c0_pan]
    exact hno e T1 τ he (by rw [hsh]; rfl) (st_le (by omega) ht)
  have good : ∀ {τ : AHeap} {own : Nat} {n : Nd} {T1 : TS} {bn : Nat} {kn vn : Value}, T.shadow v = .ok (own, n) T1 → n.May → n.small → own < T.now.length → H (pt bn (.cells [.bool n.leaf, kn, vn] t_api_Node false) :: RoU kn n.keys :: RoU vn n.vals :: StA sb rb T1 (M + 2) :: WyA wb sb L :: pt bx (.cells (stc x.at' x.n x.kv x.vv x.nx) t_tree_step false) :: pt bu (.cells (stc up.at' up.n up.kv up.vv up.nx) t_tree_step false) ::
      RoU x.kv x.n.keys :: RoU x.vv x.n.vals :: RoU up.kv up.n.keys :: RoU up.vv up.n.vals :: l) τ → s_tree_way_fill_k14 E Q 0 bx own bn bes left wb k bu right τ := by
    intro τ own n T1 bn kn vn hsh hm hs ho ht
    have h3 : H (pt bx (.cells (stc x.at' x.n x.kv x.vv x.nx) t_tree_step false) :: pt bn (.cells [.bool n.leaf, kn, vn] t_api_Node false) :: pt bu (.cells (stc up.at' up.n up.kv up.vv up.nx) t_tree_step false) ::
      RoU x.kv x.n.keys :: RoU x.vv x.n.vals :: RoU kn n.keys :: RoU vn n.vals :: RoU up.kv up.n.keys :: RoU up.vv up.n.vals :: WyA wb sb L :: StA sb rb T1 (M + 2) :: l) τ := ht.re
    have hmm := hm.1
    rw [hsh] at hst hno hyes
    simp only [R.bind_ok] at hst hno hyes
    refine fill_k14 h3 (by omega) hk hx ⟨hs, hmm.2.2, by omega⟩ hup (by omega) (F (own, n) T1) (hF (own, n) T1) hst ?_ ?_
    · intro e T' σ' he he2 h4
      exact hno e T' σ' he he2 h4
    · intro T' L' σ' hl he2 h4
      exact hyes T' L' σ' hl he2 h4
  constructor
  · refine sshadow h2 (by omega) (fun e => hst (by rw [e]; rfl)) ?_ ?_
    · intro e T1 τ1 he hsh h3
      rw [c3_ret, tI_int, tI_int]
      refine nw h3 ?_
      intro bn τ2 h4
      have h5 : H (WyA wb sb L :: pt bu (.cells (stc up.at' up.n up.kv up.vv up.nx) t_tree_step false) :: RoU up.vv up.n.vals :: []) τ2 := h4.re
      have h6 : H (pt bu (.cells (stc up.at' up.n up.kv up.vv up.nx) t_tree_step false) :: []) τ2 := h4.re
      rw [wy_ptr h5, om_some, veq_ptr, LV h6, veq_sl ⟨_, _, _, hvu⟩, us_at (rou_us (h5.fnd (RoU up.vv up.n.vals))) hv ia, ldI_some, veq_int]
      refine st3 h4 rfl rfl rfl ?_
      intro τ3 h7
      exact bad (A := []) he hsh h7.re
    · intro own n T1 kn vn τ1 hsh hm hs ho h3
      obtain ⟨a5, c5, hk5⟩ := rou_form h3
      obtain ⟨a6, c6, hv6⟩ := rou_form h3.tail
      rw [c3_ret, tI_int, tI_int]
      refine nw h3 ?_
      intro bn τ2 h4
      have h5 : H (WyA wb sb L :: pt bu (.cells (stc up.at' up.n up.kv up.vv up.nx) t_tree_step false) :: RoU up.vv up.n.vals :: []) τ2 := h4.re
      have h6 : H (pt bu (.cells (stc up.at' up.n up.kv up.vv up.nx) t_tree_step false) :: []) τ2 := h4.re
      rw [wy_ptr h5, om_some, veq_ptr, LV h6, veq_sl ⟨_, _, _, hvu⟩, us_at (rou_us (h5.fnd (RoU up.vv up.n.vals))) hv ia, ldI_some, veq_int]
      refine st3 h4 rfl (by rw [hk5]; rfl) (by rw [hv6]; rfl) ?_
      intro τ3 h7
      exact good hsh hm hs ho h7
  · refine nw h2 ?_
    intro bn τ1 h3
    have h5 : H (WyA wb sb L :: pt bu (.cells (stc up.at' up.n up.kv up.vv up.nx) t_tree_step false) :: RoU up.vv up.n.vals :: []) τ1 := h3.re
    have h6 : H (pt bu (.cells (stc up.at' up.n up.kv up.vv up.nx) t_tree_step false) :: []) τ1 := h3.re
    rw [wy_ptr h5, om_some, veq_ptr, LV h6, veq_sl ⟨_, _, _, hvu⟩, us_at (rou_us (h5.fnd (RoU up.vv up.n.vals))) hv ia, ldI_some, veq_int]
    refine sshadow (h3.perm (.swap _ _ _)) (by omega) (fun e => hst (by rw [e]; rfl)) ?_ ?_
    · intro e T1 τ2 he hsh h4
      rw [c3_ret, tI_int, tI_int]
      refine st3 h4 rfl rfl rfl ?_
      intro τ3 h7
      exact bad (A := []) he hsh h7.re
    · intro own n T1 kn vn τ2 hsh hm hs ho h4
      obtain ⟨a5, c5, hk5⟩ := rou_form h4
      obtain ⟨a6, c6, hv6⟩ := rou_form h4.tail
      rw [c3_ret, tI_int, tI_int]
      refine st3 h4 rfl (by rw [hk5]; rfl) (by rw [hv6]; rfl) ?_
      intro τ3 h7
      exact good (kn := kn) (vn := vn) hsh hm hs ho h7.re
set_option maxHeartbeats 2000000 in
theorem fill_k5 {wb sb rb k bx bu : Nat} {x up0 up : Sp} {T : TS} {M : Nat} {L : List Sp}
    (h : H (pt bx (.cells (stc x.at' x.n x.kv x.vv x.nx) t_tree_step false) :: pt bu (.cells (stc up0.at' up0.n up0.kv up0.vv up0.nx) t_tree_step false) ::
      RoU x.kv x.n.keys :: RoU x.vv x.n.vals :: WyA wb sb L :: StA sb rb T M :: l) σ)
    (hM : M ≤ 96000000000) (hk : 0 < k ∧ k ≤ 100) (hx : StpOk x) (hu : L[k - 1]? = some up)
    (R0 : R (List Wp)) (hR : R0 = if 4 ≤ x.n.keys.length then .ok (L.map Sp.w) T else besideA (L.map Sp.w) k x.w up.w T) (hst : R0 ≠ .stuck)
    (hno : ∀ e T' σ', e ≠ 0 → R0 = .err e T' → H (StA sb rb T' (M + 5) :: l) σ' → Q (.pan (flt e)) σ')
    (hyes : ∀ T' L' σ', L'.length = L.length → R0 = .ok (L'.map Sp.w) T' → H (WyA wb sb L' :: StA sb rb T' (M + 5) :: l) σ' → Q (.ret (.tuple #[])) σ') :
    s_tree_way_fill_k5 E Q bx wb k bu σ := by
  unfold s_tree_way_fill_k5
  have hlx : lenS x.kv = some (.int .i64 x.n.keys.length) := by obtain ⟨a, c, hv⟩ := rou_form (h.fnd (RoU x.kv x.n.keys)); rw [hv]; rfl
  rw [LV h, hlx, ldI_some]
  refine If_dec (fun g => ?_) fun g => ?_
  · rw [if_pos (by omega)] at hR
    have h1 : H (StA sb rb T M :: WyA wb sb L :: l) σ := h.re
    exact hyes T L σ rfl hR ((st_le (N := M + 5) (by omega) h1).perm (.swap _ _ _))
  rw [if_neg (by omega)] at hR
  have h1 : H (WyA wb sb L :: pt bx (.cells (stc x.at' x.n x.kv x.vv x.nx) t_tree_step false) :: pt bu (.cells (stc up0.at' up0.n up0.kv up0.vv up0.nx) t_tree_step false) ::
      RoU x.kv x.n.keys :: RoU x.vv x.n.vals :: StA sb rb T M :: l) σ := h.re
  obtain ⟨wv, hok, h2⟩ := H_wy.1 h1
  have huo := hok up (List.mem_of_getElem? hu)
  obtain ⟨b, c, hwv, e1, e2, e3, e4, e5, e6⟩ := sp_el h2 hu
  rw [LV h2]
  refine b64 ((k - 1 : Nat) : Int) (by omega) ?_
  rw [e1, om_some]
  simp only [fieldAddr_ptr, om_some, Nat.add_zero]
  rw [e2, ldI_some, e3, ldB_some, e4, om_some, e5, om_some, e6, ldI_some]
  have h3 : H (pt bu (.cells (stc up0.at' up0.n up0.kv up0.vv up0.nx) t_tree_step false) :: RoU up.kv up.n.keys :: RoU up.vv up.n.vals :: WyA wb sb L :: pt bx (.cells (stc x.at' x.n x.kv x.vv x.nx) t_tree_step false) :: RoU x.kv x.n.keys :: RoU x.vv x.n.vals :: StA sb rb T M :: l) σ := by
    have q : H (NdsA L :: pt wb (.cells [.pointer (some ⟨sb, 0, none⟩), wv] t_tree_way false) :: Own t_tree_step 5 wv L.length (L.map spc).flatten :: pt bx (.cells (stc x.at' x.n x.kv x.vv x.nx) t_tree_step false) :: pt bu (.cells (stc up0.at' up0.n up0.kv up0.vv up0.nx) t_tree_step false) ::
      RoU x.kv x.n.keys :: RoU x.vv x.n.vals :: StA sb rb T M :: l) σ := h2.re
    have q2 := nds_get q (List.mem_of_getElem? hu)
    have q3 : H (WyL wb sb wv L (RoU up.kv up.n.keys :: RoU up.vv up.n.vals :: pt bx (.cells (stc x.at' x.n x.kv x.vv x.nx) t_tree_step false) :: pt bu (.cells (stc up0.at' up0.n up0.kv up0.vv up0.nx) t_tree_step false) ::
      RoU x.kv x.n.keys :: RoU x.vv x.n.vals :: StA sb rb T M :: l)) σ := q2.re
    have q4 : H (WyA wb sb L :: RoU up.kv up.n.keys :: RoU up.vv up.n.vals :: pt bx (.cells (stc x.at' x.n x.kv x.vv x.nx) t_tree_step false) :: pt bu (.cells (stc up0.at' up0.n up0.kv up0.vv up0.nx) t_tree_step false) ::
      RoU x.kv x.n.keys :: RoU x.vv x.n.vals :: StA sb rb T M :: l) σ := H_wy.2 ⟨wv, hok, q3⟩
    exact q4.re
  refine store5 (vs := [.int .u64 (up.at' : Nat), .bool up.n.leaf, up.kv, up.vv, .int .i64 (up.nx : Nat)]) h3 rfl rfl (by simp only [List.all_cons, huo.o1, huo.o2, List.all_nil]; rfl) ?_
  intro σ1 h4
  have h5 : H (pt bx (.cells (stc x.at' x.n x.kv x.vv x.nx) t_tree_step false) :: pt bu (.cells (stc up.at' up.n up.kv up.vv up.nx) t_tree_step false) ::
      RoU x.kv x.n.keys :: RoU x.vv x.n.vals :: RoU up.kv up.n.keys :: RoU up.vv up.n.vals :: WyA wb sb L :: StA sb rb T M :: l) σ1 := by
    have q : H (pt bu (.cells (stc up.at' up.n up.kv up.vv up.nx) t_tree_step false) :: RoU up.kv up.n.keys :: RoU up.vv up.n.vals :: WyA wb sb L :: pt bx (.cells (stc x.at' x.n x.kv x.vv x.nx) t_tree_step false) :: RoU x.kv x.n.keys :: RoU x.vv x.n.vals :: StA sb rb T M :: l) σ1 := h4
    exact q.re
  have hlu : lenS up.kv = some (.int .i64 up.n.keys.length) := by obtain ⟨a, c, hv⟩ := rou_form (h5.fnd (RoU up.kv up.n.keys)); rw [hv]; rfl
  have hnx := huo.nx
  have hul := huo.le
  have hue := huo.eq
  rw [LI h5, LI h5]
  refine b64 ((up.nx + 1 : Nat) : Int) (by omega) ?_
  rw [LV h5, hlu, ldI_some]
  have hw : up.w = ⟨up.at', up.n, up.nx⟩ := rfl
  have hwx : x.w = ⟨x.at', x.n, x.nx⟩ := rfl
  rw [hw, hwx] at hR
  unfold besideA at hR
  simp only at hR
  refine If_dec (fun g => ?_) fun g => ?_
  · rw [if_pos (by omega)] at hR
    by_cases h0 : up.nx = 0
    · rw [if_pos h0] at hR
      subst hR
      refine b64 (-1) (by omega) ?_
      unfold s_tree_way_fill_k11
      apply e_tree_way_pair
      unfold s_tree_way_pair
      refine If_dec (fun _ => ?_) fun g => absurd (by decide) g
      rw [cI_ret]
      refine must1 (e := 23) (by decide) ?_
      rw [c0_pan]
      have h6 : H (StA sb rb T M :: l) σ1 := h5.re
      exact hno 23 T σ1 (by decide) rfl (st_le (by omega) h6)
    · rw [if_neg h0] at hR
      cases hv : up.n.vals[up.nx - 1]? with
      | none => rw [hv] at hR; exact absurd hR hst
      | some v =>
      rw [hv] at hR
      simp only at hR
      subst hR
      refine b64 ((up.nx - 1 : Nat) : Int) (by omega) ?_
      exact fill_k11 (bes := up.nx - 1) (F := fun q T => mergeA (L.map Sp.w) k up.n (up.nx - 1) up.nx q.1 q.2 x.at' x.n T) h5 (by omega) hk hx huo (by omega) hv (fun q T => by rw [if_pos rfl]) hst hno hyes
  · rw [if_neg (by omega)] at hR
    cases hv : up.n.vals[up.nx + 1]? with
    | none => rw [hv] at hR; exact absurd hR hst
    | some v =>
    rw [hv] at hR
    simp only at hR
    subst hR
    exact fill_k11 (left := up.nx) (right := up.nx + 1) (bes := up.nx + 1) (F := fun q T => mergeA (L.map Sp.w) k up.n up.nx (up.nx + 1) x.at' x.n q.1 q.2 T) h5 (by omega) hk hx huo (by omega) hv (fun q T => by rw [if_neg (by omega)]) hst hno hyes
set_option maxHeartbeats 4000000 in
theorem wfill {wb sb rb : Nat} (L : List Sp) (k : Nat) (T : TS) (M : Nat) (τ : AHeap) (Q' : RK) (h : H (WyA wb sb L :: StA sb rb T M :: l) τ) (hM : M ≤ 90000000000) (hL : L.length ≤ 50) (hst : fillA (L.map Sp.w) k T ≠ .stuck)
    (hno : ∀ e T' σ', e ≠ 0 → fillA (L.map Sp.w) k T = .err e T' → H (StA sb rb T' (M + 6) :: l) σ' → Q' (.pan (flt e)) σ')
    (hyes : ∀ T' L' σ', L'.length ≤ L.length + 1 → fillA (L.map Sp.w) k T = .ok (L'.map Sp.w) T' → H (WyA wb sb L' :: StA sb rb T' (M + 6) :: l) σ' → Q' (.ret (.tuple #[])) σ') : E f_tree_way_fill [.pointer (some ⟨wb, 0, none⟩), .int .i64 k] τ Q' := by
  apply e_tree_way_fill; unfold s_tree_way_fill
  unfold fillA at hst hno hyes
  refine If_dec (fun g => ?_) fun g => ?_
  · rw [if_pos (by omega)] at hyes
    have h1 : H (StA sb rb T M :: WyA wb sb L :: l) τ := h.perm (.swap _ _ _)
    exact hyes T L τ (by omega) rfl ((st_le (N := M + 6) (by omega) h1).perm (.swap _ _ _))
  rw [if_neg (by omega)] at hst hno hyes
  rw [List.getElem?_map, List.getElem?_map] at hst hno hyes
  cases hx : L[k]? with
  | none => rw [hx] at hst; exact absurd rfl hst
  | some x =>
  cases hu : L[k - 1]? with
  | none => rw [hx, hu] at hst; exact absurd rfl hst
  | some up =>
  rw [hx, hu] at hst hno hyes
  simp only [Option.map_some] at hst hno hyes
  have hw : up.w = ⟨up.at', up.n, up.nx⟩ := rfl
  have hwx : x.w = ⟨x.at', x.n, x.nx⟩ := rfl
  have hkl := (List.getElem?_eq_some_iff.1 hx).1
  obtain ⟨wv, hok, h2⟩ := H_wy.1 h
  have hxo := hok x (List.mem_of_getElem? hx)
  have huo := hok up (List.mem_of_getElem? hu)
  obtain ⟨b, c, hwv, e1, e2, e3, e4, e5, e6⟩ := sp_el h2 hx
  obtain ⟨b', c', hwv', u1, u2, u3, u4, u5, u6⟩ := sp_el h2 hu
  have hbb : b' = b := by rw [hwv] at hwv'; simp at hwv'; exact hwv'.1.symm
  subst hbb
  rw [LV h2, e1, om_some]
  rw [fieldAddr_ptr, om_some, Nat.add_zero, e2, ldI_some, fieldAddr_ptr, om_some, e3, ldB_some, fieldAddr_ptr, om_some, e4, om_some, fieldAddr_ptr, om_some, e5, om_some, fieldAddr_ptr, om_some, e6, ldI_some, LV h2]
  refine b64 ((k - 1 : Nat) : Int) (by omega) ?_
  rw [u1, om_some]
  rw [fieldAddr_ptr, om_some, Nat.add_zero, u2, ldI_some, fieldAddr_ptr, om_some, u3, ldB_some, fieldAddr_ptr, om_some, u4, om_some, fieldAddr_ptr, om_some, u5, om_some, fieldAddr_ptr, om_some, u6, ldI_some]
  -- with both copies
  have k3 : ∀ {τ : AHeap} {bx bu : Nat}, H (pt bx (.cells (stc x.at' x.n x.kv x.vv x.nx) t_tree_step false) :: pt bu (.cells (stc up.at' up.n up.kv up.vv up.nx) t_tree_step false) :: WyL wb sb wv L (StA sb rb T M :: l)) τ → s_tree_way_fill_k3 E Q' bx bu wb k τ := by
    intro τ bx bu ht
    have h3 : H (pt bx (.cells (stc x.at' x.n x.kv x.vv x.nx) t_tree_step false) :: pt bu (.cells (stc up.at' up.n up.kv up.vv up.nx) t_tree_step false) :: RoU x.kv x.n.keys :: RoU x.vv x.n.vals :: RoU up.kv up.n.keys :: WyA wb sb L :: StA sb rb T M :: l) τ := by
      have q : H (NdsA L :: pt wb (.cells [.pointer (some ⟨sb, 0, none⟩), wv] t_tree_way false) :: Own t_tree_step 5 wv L.length (L.map spc).flatten :: pt bx (.cells (stc x.at' x.n x.kv x.vv x.nx) t_tree_step false) :: pt bu (.cells (stc up.at' up.n up.kv up.vv up.nx) t_tree_step false) :: StA sb rb T M :: l) τ := ht.re
      have q2 := nds_get q (List.mem_of_getElem? hx)
      have q3 : H (NdsA L :: RoU x.kv x.n.keys :: RoU x.vv x.n.vals :: pt wb (.cells [.pointer (some ⟨sb, 0, none⟩), wv] t_tree_way false) :: Own t_tree_step 5 wv L.length (L.map spc).flatten :: pt bx (.cells (stc x.at' x.n x.kv x.vv x.nx) t_tree_step false) :: pt bu (.cells (stc up.at' up.n up.kv up.vv up.nx) t_tree_step false) :: StA sb rb T M :: l) τ := q2.re
      have q4 := nds_get q3 (List.mem_of_getElem? hu)
      have q5 : H (WyL wb sb wv L (pt bx (.cells (stc x.at' x.n x.kv x.vv x.nx) t_tree_step false) :: pt bu (.cells (stc up.at' up.n up.kv up.vv up.nx) t_tree_step false) :: RoU up.kv up.n.keys :: RoU x.kv x.n.keys :: RoU x.vv x.n.vals :: StA sb rb T M :: l)) τ := q4.re
      have q6 : H (WyA wb sb L :: pt bx (.cells (stc x.at' x.n x.kv x.vv x.nx) t_tree_step false) :: pt bu (.cells (stc up.at' up.n up.kv up.vv up.nx) t_tree_step false) :: RoU up.kv up.n.keys :: RoU x.kv x.n.keys :: RoU x.vv x.n.vals :: StA sb rb T M :: l) τ := H_wy.2 ⟨wv, hok, q5⟩
      exact q6.re
    unfold s_tree_way_fill_k3
    have hlx : lenS x.kv = some (.int .i64 x.n.keys.length) := by obtain ⟨a, c, hv⟩ := rou_form (h3.fnd (RoU x.kv x.n.keys)); rw [hv]; rfl
    rw [LV h3, hlx, ldI_some]
    -- on from there
    have on : ∀ {τ : AHeap} (T1 : TS) (L1 : List Sp), L1.length = L.length → keyA (L.map Sp.w) k x.w up.w T = .ok (L1.map Sp.w) T1 → H (pt bx (.cells (stc x.at' x.n x.kv x.vv x.nx) t_tree_step false) :: pt bu (.cells (stc up.at' up.n up.kv up.vv up.nx) t_tree_step false) :: RoU x.kv x.n.keys :: RoU x.vv x.n.vals :: WyA wb sb L1 :: StA sb rb T1 (M + 1) :: l) τ → s_tree_way_fill_k5 E Q' bx wb k bu τ := by
      intro τ T1 L1 hl1 hky ht
      rw [hky] at hst hno hyes
      simp only [R.bind_ok] at hst hno hyes
      obtain ⟨up1, hup1⟩ : ∃ s, L1[k - 1]? = some s := ⟨_, List.getElem?_eq_getElem (by omega)⟩
      rw [List.getElem?_map, hup1] at hst hno hyes
      simp only [Option.map_some] at hst hno hyes
      refine fill_k5 ht (by omega) (by omega) hxo hup1 _ rfl hst ?_ ?_
      · intro e T' σ' he h4 h5
        exact hno e T' σ' he h4 h5
      · intro T' L' σ' hl h4 h5
        exact hyes T' L' σ' (by omega) h4 h5
    have same : keyA (L.map Sp.w) k x.w up.w T = .ok (L.map Sp.w) T → s_tree_way_fill_k4 E Q' false wb k bu bx τ := by
      intro hky
      unfold s_tree_way_fill_k4
      refine If_f rfl ?_
      have h4 : H (StA sb rb T M :: pt bx (.cells (stc x.at' x.n x.kv x.vv x.nx) t_tree_step false) :: pt bu (.cells (stc up.at' up.n up.kv up.vv up.nx) t_tree_step false) :: RoU x.kv x.n.keys :: RoU x.vv x.n.vals :: WyA wb sb L :: l) τ := h3.re
      exact on T L rfl hky (st_le (N := M + 1) (by omega) h4).re
    refine If_dec (fun g0 => ?_) fun g0 => ?_
    · have hky : keyA (L.map Sp.w) k x.w up.w T = match up.n.keys[up.nx]?, x.n.keys[0]? with
          | some uk, some x0 => if uk = x0 then .ok (L.map Sp.w) T else wsetA (L.map Sp.w) (k - 1) up.nx x0 x.at' T
          | _, _ => .stuck := by
        unfold keyA
        rw [hw, hwx]
        simp only
        rw [if_pos (by omega)]
        all_goals (cases up.n.keys[up.nx]? <;> cases x.n.keys[0]? <;> rfl)
      obtain ⟨x0, hx0⟩ : ∃ x0, x.n.keys[0]? = some x0 := ⟨_, List.getElem?_eq_getElem (by omega)⟩
      cases huk : up.n.keys[up.nx]? with
      | none => rw [huk] at hky; rw [hky] at hst; exact absurd rfl hst
      | some uk =>
      rw [huk, hx0] at hky
      simp only at hky
      obtain ⟨p1, ia1, la1⟩ := us_get (rou_us (h3.fnd (RoU up.kv up.n.keys))) huk
      obtain ⟨p2, ia2, la2⟩ := us_get (rou_us (h3.fnd (RoU x.kv x.n.keys))) hx0
      rw [LV h3, LI h3, ia1, om_some, la1, ldI_some, LV h3, show (0 : Int) = ((0 : Nat) : Int) from rfl, ia2, om_some, la2, ldI_some]
      by_cases hne : uk = x0
      · rw [if_pos hne] at hky
        have : (!decide ((uk : Int) = (x0 : Int))) = false := by simp [hne]
        rw [this]
        exact same hky
      · rw [if_neg hne] at hky
        have : (!decide ((uk : Int) = (x0 : Int))) = true := by simp; omega
        rw [this]
        unfold s_tree_way_fill_k4
        refine If_t rfl ?_
        refine b64 ((k - 1 : Nat) : Int) (by omega) ?_
        rw [LI h3, LV h3, show (0 : Int) = ((0 : Nat) : Int) from rfl, ia2, om_some, la2, ldI_some, LI h3]
        have h4 : H (WyA wb sb L :: StA sb rb T M :: pt bx (.cells (stc x.at' x.n x.kv x.vv x.nx) t_tree_step false) :: pt bu (.cells (stc up.at' up.n up.kv up.vv up.nx) t_tree_step false) :: RoU x.kv x.n.keys :: RoU x.vv x.n.vals :: l) τ := h3.re
        have hx8 := hxo.at8
        refine wset' h4 (by omega) (hxo.sm.1 x0 (List.mem_of_getElem? hx0)) (by omega) (fun e => hst (by rw [hky, e]; rfl)) ?_ ?_
        · intro e T1 τ1 he hse h5
          rw [c0_pan]
          have h6 : H (StA sb rb T1 (M + 1) :: l) τ1 := h5.re
          exact hno e T1 τ1 he (by rw [hky, hse]; rfl) (st_le (by omega) h6)
        · intro T1 L1 τ1 hl1 hse h5
          rw [c0_ret]
          exact on T1 L1 hl1 (by rw [hky, hse]) h5.re
    · have hky : keyA (L.map Sp.w) k x.w up.w T = .ok (L.map Sp.w) T := by
        unfold keyA
        rw [hwx]
        simp only
        rw [if_neg (by omega)]
      exact same hky
  have e1' := e1 .i64
  have u1' := u1 .i64
  constructor
  · refine nw h2 ?_
    intro bx τ1 g1
    have w1 : H (WyL wb sb wv L (StA sb rb T M :: l)) τ1 := g1.tail
    rw [rdS w1 hx e1', rdS w1 hu u1']
    refine nw g1 ?_
    intro bu τ2 g2
    have w2 : H (WyL wb sb wv L (StA sb rb T M :: l)) τ2 := g2.tail.tail
    rw [rdS w2 hx e1', rdS w2 hu u1']
    refine store5 (vs := stc x.at' x.n x.kv x.vv x.nx) (g2.perm (.swap _ _ _)) rfl rfl (by simp only [List.all_cons, hxo.o1, hxo.o2, List.all_nil]; rfl) ?_
    intro τ3 g3
    have w3 : H (WyL wb sb wv L (StA sb rb T M :: l)) τ3 := g3.tail.tail
    rw [rdS w3 hu u1']
    refine store5 (vs := stc up.at' up.n up.kv up.vv up.nx) (g3.perm (.swap _ _ _)) rfl rfl (by simp only [List.all_cons, huo.o1, huo.o2, List.all_nil]; rfl) ?_
    intro τ4 g4
    exact k3 (g4.perm (.swap _ _ _))
  · refine nw h2 ?_
    intro bu τ1 g1
    have w1 : H (WyL wb sb wv L (StA sb rb T M :: l)) τ1 := g1.tail
    rw [rdS w1 hx e1', rdS w1 hu u1']
    refine nw g1 ?_
    intro bx τ2 g2
    have w2 : H (WyL wb sb wv L (StA sb rb T M :: l)) τ2 := g2.tail.tail
    rw [rdS w2 hx e1', rdS w2 hu u1']
    refine store5 (vs := stc x.at' x.n x.kv x.vv x.nx) g2 rfl rfl (by simp only [List.all_cons, hxo.o1, hxo.o2, List.all_nil]; rfl) ?_
    intro τ3 g3
    have w3 : H (WyL wb sb wv L (StA sb rb T M :: l)) τ3 := g3.tail.tail
    rw [rdS w3 hu u1']
    refine store5 (vs := stc up.at' up.n up.kv up.vv up.nx) (g3.perm (.swap _ _ _)) rfl rfl (by simp only [List.all_cons, huo.o1, huo.o2, List.all_nil]; rfl) ?_
    intro τ4 g4
    exact k3 (g4.perm (.swap _ _ _))
end Go.Ax.C
set_option maxRecDepth 100000
namespace Go.Ax.C
open Go.Proofs Go.RowKit
variable {l r r2 m : List Assn} {σ : AHeap} {Q : RK}
def rootA (P : List Wp) (old : Nat) (T : TS) : R (Nat × Nat × Bool) :=
  match P[0]? with
  | none => .stuck
  | some s =>
    if s.n.keys.length = 0 then (T.dec s.at').bind fun _ T => .ok (0, old, true) T
    else if s.n.leaf = false ∧ s.n.keys.length = 1 then match s.n.vals[0]? with
      | none => .stuck
      | some v => (T.dec s.at').bind fun _ T => .ok (v, old, true) T
    else .ok (s.at', old, true) T
def remA (T : TS) (root key : Nat) : R (Nat × Nat × Bool) :=
  (lookupA key 12 root T).bind fun q T =>
    if q.2 = false then .ok (root, 0, false) T
    else (downA false key 12 [] root T).bind fun P T => match P[P.length - 1]? with
      | none => .stuck
      | some s =>
        if findK s.n.keys key < s.n.keys.length then (wsaveA P (P.length - 1) (s.n.remN (findK s.n.keys key)) T).bind fun P T => (upA fillA P.length P T).bind fun P T => rootA P q.1 T
        else .stuck
theorem rem_c1_none {b1 b3 b5 b7 : Nat} {K : AHeap → Prop} (h : K σ) : Dv P f_tree_Remove_c1 [.pointer (some ⟨b1, 0, none⟩), .pointer (some ⟨b3, 0, none⟩), .pointer (some ⟨b5, 0, none⟩), .pointer (some ⟨b7, 0, none⟩)] none σ K := by
  apply e_tree_Remove_c1; unfold s_tree_Remove_c1
  refine told0 ?_
  rw [cI_ret]
  refine If_ne (fun g => absurd rfl g) fun _ => ?_
  exact h
theorem rem_c1_some {b1 b3 b5 b7 e to old e0 : Nat} {had : Bool} {K : AHeap → Prop} (h : H (In4 b1 b3 b5 b7 to old had e0 l) σ) (he : e ≠ 0) (hK : ∀ σ', H (In4 b1 b3 b5 b7 0 0 false e l) σ' → K σ') : Dv P f_tree_Remove_c1 [.pointer (some ⟨b1, 0, none⟩), .pointer (some ⟨b3, 0, none⟩), .pointer (some ⟨b5, 0, none⟩), .pointer (some ⟨b7, 0, none⟩)] (some (flt e)) σ K := by
  apply e_tree_Remove_c1; unfold s_tree_Remove_c1
  refine told1 h ?_
  intro σ1 h1
  rw [cI_ret]
  refine If_ne (fun _ => ?_) fun g => absurd g (by omega)
  refine st h1 rfl ?_
  intro σ2 h2
  refine st h2 rfl ?_
  intro σ3 h3
  refine st h3 rfl ?_
  intro σ4 h4
  refine st h4 rfl ?_
  intro σ5 h5
  exact hK σ5 h5.re
set_option maxHeartbeats 4000000 in
theorem wremove {sb rb root key : Nat} {T : TS} {M : Nat} (h : H (StA sb rb T M :: l) σ) (hM : M ≤ 70000000000) (hroot : root < 18446744073709551616) (hkey : key < 18446744073709551616) (hst : remA T root key ≠ .stuck)
    (hno : ∀ e T' σ', e ≠ 0 → remA T root key = .err e T' → H (StA sb rb T' (M + 200) :: l) σ' → Q (.ret (.tuple #[.int .u64 0, .int .u64 0, .bool false, .int .i64 e])) σ')
    (hyes : ∀ to old had T' σ', remA T root key = .ok (to, old, had) T' → H (StA sb rb T' (M + 200) :: l) σ' → Q (.ret (.tuple #[.int .u64 to, .int .u64 old, .bool had, .int .i64 0])) σ') :
    E f_tree_Remove [.pointer (some ⟨sb, 0, none⟩), .int .u64 root, .int .u64 key] σ Q := by
  apply e_tree_Remove; unfold s_tree_Remove
  refine nw h ?_
  intro b1 σ1 h1
  refine nw h1 ?_
  intro b3 σ2 h2
  refine nw h2 ?_
  intro b5 σ3 h3
  refine nw h3 ?_
  intro b7 σ4 h4
  have h4 : H (StA sb rb T M :: In4 b1 b3 b5 b7 0 0 false 0 l) σ4 := h4.re
  unfold remA at hst hno hyes
  refine wlookup h4 (by omega) hroot (fun e => hst (by rw [e]; rfl)) ?_ ?_
  · intro e T' τ1 he hlk g1
    rw [c3_ret, tI_int, tB_bool, tI_int]
    refine st g1 rfl ?_
    intro τ2 g2
    refine st g2 rfl ?_
    intro τ3 g3
    refine st g3 rfl ?_
    intro τ4 g4
    rw [LI g4]
    refine If_ne (fun _ => ?_) fun g => absurd g (by omega)
    rw [LI g4]
    refine st g4 rfl ?_
    intro τ5 g5
    rw [LI g5, veq_int]
    refine st g5 rfl ?_
    intro τ6 g6
    rw [LI g6, veq_int]
    refine st g6 rfl ?_
    intro τ7 g7
    rw [LI g7, veq_int]
    refine st g7 rfl ?_
    intro τ8 g8
    have g9 : H (In4 b1 b3 b5 b7 0 0 false e (StA sb rb T (M + 12) :: l)) τ8 := g8.re
    refine in4_ret (e := e) g9 fun g10 => ?_
    have hT : T' = T := by
      have key2 : ∀ (f a : Nat) (T T' : TS) (e : Nat), lookupA key f a T = .err e T' → T' = T := by
        intro f
        induction f with
        | zero =>
          intro a T T' e h
          unfold lookupA at h
          split at h
          · cases h
          · cases h; rfl
        | succ f ih =>
          intro a T T' e h
          unfold lookupA at h
          split at h
          · cases h
          · split at h
            · cases h
            · split at h
              · split at h
                · split at h <;> cases h
                · cases h
              · split at h
                · exact ih _ _ _ _ h
                · cases h
      exact key2 _ _ _ _ _ hlk
    subst hT
    exact hno e _ τ8 he (by rw [hlk]; rfl) (st_le (by omega) g10)
  intro v0 had0 T' τ1 hlk g1
  have hT := lookupA_T hlk
  subst hT
  rw [hlk] at hst hno hyes
  simp only [R.bind_ok] at hst hno hyes
  rw [c3_ret, tI_int, tB_bool, tI_int]
  refine st g1 rfl ?_
  intro τ2 g2
  refine st g2 rfl ?_
  intro τ3 g3
  refine st g3 rfl ?_
  intro τ4 g4
  rw [LI g4]
  refine If_ne (fun g => absurd rfl g) fun _ => ?_
  rw [LB g4]
  cases had0 with
  | false =>
    rw [if_pos rfl] at hyes
    refine If_t rfl ?_
    refine st g4 rfl ?_
    intro τ5 g5
    refine st g5 rfl ?_
    intro τ6 g6
    refine st g6 rfl ?_
    intro τ7 g7
    refine st g7 rfl ?_
    intro τ8 g8
    have g9 : H (In4 b1 b3 b5 b7 root 0 false 0 (StA sb rb T' (M + 12) :: l)) τ8 := g8.re
    refine in4_ret (e := 0) g9 fun g10 => ?_
    exact hyes root 0 false T' τ8 rfl (st_le (by omega) g10)
  | true =>
  rw [if_neg (by decide)] at hst hno hyes
  refine If_f rfl ?_
  have h4 : H (StA sb rb T' (M + 12) :: In4 b1 b3 b5 b7 0 v0 true 0 l) τ4 := g4.re
  -- errors end here
  have pan : ∀ {e : Nat} {T' : TS} {τ : AHeap} {to old : Nat} {had : Bool} {N : Nat} {A : List Assn}, e ≠ 0 → N ≤ M + 200 → H (StA sb rb T' N :: In4 b1 b3 b5 b7 to old had 0 l) τ → (∀ σ', H (StA sb rb T' (M + 200) :: l) σ' → Q (.ret (.tuple #[.int .u64 0, .int .u64 0, .bool false, .int .i64 e])) σ') →
      qd P f_tree_Remove_c1 [(.pointer (some ⟨b1, 0, none⟩)), (.pointer (some ⟨b3, 0, none⟩)), (.pointer (some ⟨b5, 0, none⟩)), (.pointer (some ⟨b7, 0, none⟩))] (fun τ66 =>
       pu (aLoad false 1 (.pointer (some ⟨b1, 0, none⟩)) τ66) fun v67 =>
       pu (aLoad false 1 (.pointer (some ⟨b3, 0, none⟩)) τ66) fun v68 =>
       pu (aLoad false 1 (.pointer (some ⟨b5, 0, none⟩)) τ66) fun v69 =>
       pu (aLoad false 1 (.pointer (some ⟨b7, 0, none⟩)) τ66) fun v70 =>
       Q (.ret (.tuple #[v67, v68, v69, v70])) τ66) (.pan (flt e)) τ := by
    intro e T' τ to old had N A he hN ht hq
    have g1 : H (In4 b1 b3 b5 b7 to old had 0 (StA sb rb T' N :: l)) τ := ht.re
    refine rem_c1_some g1 he ?_
    intro τ1 g2
    refine in4_ret (e := e) g2 fun g3 => ?_
    exact hq τ1 (st_le hN g3)
  unfold s_tree_Remove_k7
  refine wdown h4 (by omega) hroot hkey (fun e => hst (by rw [e]; rfl)) ?_ ?_
  · intro e T1 τ5 he hd g1
    rw [cV_pan]
    refine pan (A := []) he (by omega) g1 ?_
    intro τ6 g2
    exact hno e T1 τ6 he (by rw [hd]; rfl) g2
  intro wb L T1 τ5 hd hL12 g1
  rw [hd] at hst hno hyes
  simp only [R.bind_ok] at hst hno hyes
  rw [cV_ret]
  simp only [nil_ptr, om_some, fieldAddr_ptr, Nat.zero_add]
  obtain ⟨wv, hok, g2⟩ := H_wy.1 g1
  rw [List.length_map, List.getElem?_map] at hst hno hyes
  cases hs : L[L.length - 1]? with
  | none => rw [hs] at hst; exact absurd rfl hst
  | some s =>
  have hLl := (List.getElem?_eq_some_iff.1 hs).1
  have hso := hok s (List.mem_of_getElem? hs)
  have hwu : s.w = ⟨s.at', s.n, s.nx⟩ := rfl
  rw [hs] at hst hno hyes
  simp only [Option.map_some, hwu] at hst hno hyes
  rw [AV g2, wy_len g2, ldI_some]
  refine b64 ((L.length - 1 : Nat) : Int) (by omega) ?_
  obtain ⟨b', c', hwv', u1, u2, u3, u4, u5, u6⟩ := sp_el g2 hs
  rw [AV g2, u1, om_some]
  simp only [fieldAddr_ptr, om_some, Nat.add_assoc, Nat.reduceAdd, Nat.add_zero]
  rw [u3, ldB_some, u4, om_some, u5, om_some]
  have g3 : H (NdsA L :: pt wb (.cells [.pointer (some ⟨sb, 0, none⟩), wv] t_tree_way false) :: Own t_tree_step 5 wv L.length (L.map spc).flatten :: StA sb rb T1 (M + 12 + 60) :: In4 b1 b3 b5 b7 0 v0 true 0 l) τ5 := g2.re
  have g4 := nds_get g3 (List.mem_of_getElem? hs)
  have hle := hso.le
  have hfle := findK_le s.n.keys key
  refine kfind (lf := s.n.leaf) g4 NdS.two hso.eq.symm (by omega) ?_
  intro τ6 g5
  rw [c2_ret, tI_int, tB_bool]
  have g6 : H (WyL wb sb wv L (RoU s.kv s.n.keys :: RoU s.vv s.n.vals :: StA sb rb T1 (M + 12 + 60) :: In4 b1 b3 b5 b7 0 v0 true 0 l)) τ6 := g5.re
  obtain ⟨b2', c2', hwv2', w1, w2, w3, w4, w5, w6⟩ := sp_el g6 hs
  rw [AV g6, w1, om_some]
  simp only [fieldAddr_ptr, om_some, Nat.add_assoc, Nat.reduceAdd, Nat.add_zero]
  rw [w3, ldB_some, w4, om_some, w5, om_some]
  by_cases hfk : findK s.n.keys key < s.n.keys.length
  case neg => rw [if_neg hfk] at hst; exact absurd rfl hst
  rw [if_pos hfk] at hst hno hyes
  refine kremove (lf := s.n.leaf) (n := s.n) g5 NdS.two hso.eq.symm (by omega) hfk ?_
  intro kv' vv' τ7 g7
  rw [cV_ret]
  have g7 : H (RoU kv' (s.n.remN (findK s.n.keys key)).keys :: RoU vv' (s.n.remN (findK s.n.keys key)).vals :: RoU s.kv s.n.keys :: RoU s.vv s.n.vals :: NdsA L :: pt wb (.cells [.pointer (some ⟨sb, 0, none⟩), wv] t_tree_way false) :: Own t_tree_step 5 wv L.length (L.map spc).flatten :: StA sb rb T1 (M + 12 + 60) :: In4 b1 b3 b5 b7 0 v0 true 0 l) τ7 := g7
  have g8 : H (WyA wb sb L :: StA sb rb T1 (M + 12 + 60) :: RoU kv' (s.n.remN (findK s.n.keys key)).keys :: RoU vv' (s.n.remN (findK s.n.keys key)).vals :: In4 b1 b3 b5 b7 0 v0 true 0 l) τ7 := H_wy.2 ⟨wv, hok, g7.re⟩
  have hrl : (s.n.remN (findK s.n.keys key)).keys.length = s.n.keys.length - 1 ∧ (s.n.remN (findK s.n.keys key)).vals.length = s.n.keys.length - 1 := by have := hso.eq; simp [Nd.remN, remF]; omega
  refine wsave' (n := s.n.remN (findK s.n.keys key)) g8 (by omega) (small_rem hso.sm) (by omega) (by omega) (fun e => hst (by rw [e]; rfl)) ?_ ?_
  · intro e T6 τ8 he hw g10
    rw [c0_pan]
    refine pan (A := []) he (by omega) g10 ?_
    intro τ9 q2
    exact hno e T6 τ9 he (by rw [hw]; rfl) q2
  intro T5 L5 τ8 hl5 hw g9
  rw [hw] at hst hno hyes
  simp only [R.bind_ok] at hst hno hyes
  rw [List.length_map] at hst hno hyes
  rw [c0_ret]
  refine wup (f := fillA) (cost := 6) (fun L k T M τ Q' h1 h2 h3 h4 h5 h6 => ?_) g9 (by omega) (by omega) (fun e => hst (by rw [e]; rfl)) ?_ ?_
  · exact wfill L k T M τ Q' h1 h2 h3 h4 h5 h6
  · intro e T6 τ9 he hu q1
    rw [c0_pan]
    refine pan (A := []) he (by omega) q1 ?_
    intro τ10 q2
    exact hno e T6 τ10 he (by rw [hu]; rfl) q2
  intro T6 L6 τ9 hl6 hu q1
  rw [hu] at hst hno hyes
  simp only [R.bind_ok] at hst hno hyes
  rw [c0_ret]
  obtain ⟨wv6, hok6, q2⟩ := H_wy.1 q1
  unfold rootA at hst hno hyes
  rw [List.getElem?_map] at hst hno hyes
  cases hs6 : L6[0]? with
  | none => rw [hs6] at hst; exact absurd rfl hst
  | some s6 =>
  have hw6 : s6.w = ⟨s6.at', s6.n, s6.nx⟩ := rfl
  rw [hs6] at hst hno hyes
  simp only [Option.map_some, hw6] at hst hno hyes
  have hso6 := hok6 s6 (List.mem_of_getElem? hs6)
  obtain ⟨b6, c6, hwv6, y1, y2, y3, y4, y5, y6⟩ := sp_el q2 hs6
  rw [AV q2, show (0 : Int) = ((0 : Nat) : Int) from rfl, y1, om_some]
  simp only [fieldAddr_ptr, om_some, Nat.add_zero, Nat.zero_mul, Nat.zero_add]
  simp only [Nat.zero_mul, Nat.zero_add] at y2
  simp only [Nat.zero_mul, Nat.zero_add] at y3
  simp only [Nat.zero_mul, Nat.zero_add] at y4
  simp only [Nat.zero_mul, Nat.zero_add] at y5
  simp only [Nat.zero_mul, Nat.zero_add] at y6
  rw [y2, ldI_some, y3, ldB_some, y4, om_some, y5, om_some, y6, ldI_some]
  have q3 : H (RoU s6.kv s6.n.keys :: RoU s6.vv s6.n.vals :: StA sb rb T6 (M + 12 + 60 + 1 + 6 * L5.length) :: In4 b1 b3 b5 b7 0 v0 true 0 l) τ9 := by
    have q : H (NdsA L6 :: StA sb rb T6 (M + 12 + 60 + 1 + 6 * L5.length) :: In4 b1 b3 b5 b7 0 v0 true 0 l) τ9 := q2.re
    exact (nds_get q (List.mem_of_getElem? hs6)).re
  refine nw q3 ?_
  intro bt τ10 q4
  refine store5 (vs := stc s6.at' s6.n s6.kv s6.vv s6.nx) q4 rfl rfl (by simp only [List.all_cons, hso6.o1, hso6.o2, List.all_nil]; rfl) ?_
  intro τ11 q5
  have q5 : H (In4 b1 b3 b5 b7 0 v0 true 0 (pt bt (.cells (stc s6.at' s6.n s6.kv s6.vv s6.nx) t_tree_step false) :: RoU s6.kv s6.n.keys :: RoU s6.vv s6.n.vals :: StA sb rb T6 (M + 12 + 60 + 1 + 6 * L5.length) :: l)) τ11 := q5.re
  rw [LI q5]
  refine st q5 rfl ?_
  intro τ12 q6
  have hlk6 : lenS s6.kv = some (.int .i64 s6.n.keys.length) := by obtain ⟨a, c, hv⟩ := rou_form (q6.fnd (RoU s6.kv s6.n.keys)); rw [hv]; rfl
  rw [LV q6, hlk6, ldI_some]
  -- the end
  have k20 : ∀ {τ : AHeap} {to : Nat} {T7 : TS}, (∀ σ', H (StA sb rb T7 (M + 200) :: l) σ' → Q (.ret (.tuple #[.int .u64 to, .int .u64 v0, .bool true, .int .i64 0])) σ') → H (In4 b1 b3 b5 b7 to v0 true 0 (StA sb rb T7 (M + 12 + 60 + 1 + 6 * L5.length) :: l)) τ →
      s_tree_Remove_k20 E (qd P f_tree_Remove_c1 [(.pointer (some ⟨b1, 0, none⟩)), (.pointer (some ⟨b3, 0, none⟩)), (.pointer (some ⟨b5, 0, none⟩)), (.pointer (some ⟨b7, 0, none⟩))] fun τ66 =>
       pu (aLoad false 1 (.pointer (some ⟨b1, 0, none⟩)) τ66) fun v67 =>
       pu (aLoad false 1 (.pointer (some ⟨b3, 0, none⟩)) τ66) fun v68 =>
       pu (aLoad false 1 (.pointer (some ⟨b5, 0, none⟩)) τ66) fun v69 =>
       pu (aLoad false 1 (.pointer (some ⟨b7, 0, none⟩)) τ66) fun v70 =>
       Q (.ret (.tuple #[v67, v68, v69, v70])) τ66) b1 b3 b5 b7 τ := by
    intro τ to T7 hq ht
    unfold s_tree_Remove_k20
    rw [LI ht, LI ht]
    refine st ht rfl ?_
    intro τ1 g1
    rw [LI g1, veq_int]
    refine st g1 rfl ?_
    intro τ2 g2
    refine st g2 rfl ?_
    intro τ3 g3
    refine st g3 rfl ?_
    intro τ4 g4
    have g5 : H (In4 b1 b3 b5 b7 to v0 true 0 (StA sb rb T7 (M + 12 + 60 + 1 + 6 * L5.length) :: l)) τ4 := g4.re
    refine rem_c1_none ?_
    refine in4_ret g5 fun g6 => ?_
    exact hq τ4 (st_le (by omega) g6)
  -- the root goes
  have k18 : ∀ {τ : AHeap} {to : Nat}, (T6.dec s6.at').bind (fun _ T => R.ok (to, v0, true) T) ≠ .stuck → (∀ e T' σ', e ≠ 0 → (T6.dec s6.at').bind (fun _ T => R.ok (to, v0, true) T) = .err e T' → H (StA sb rb T' (M + 200) :: l) σ' → Q (.ret (.tuple #[.int .u64 0, .int .u64 0, .bool false, .int .i64 e])) σ') →
      (∀ to' old had T' σ', (T6.dec s6.at').bind (fun _ T => R.ok (to, v0, true) T) = .ok (to', old, had) T' → H (StA sb rb T' (M + 200) :: l) σ' → Q (.ret (.tuple #[.int .u64 to', .int .u64 old, .bool had, .int .i64 0])) σ') →
      H (In4 b1 b3 b5 b7 to v0 true 0 (pt bt (.cells (stc s6.at' s6.n s6.kv s6.vv s6.nx) t_tree_step false) :: RoU s6.kv s6.n.keys :: RoU s6.vv s6.n.vals :: StA sb rb T6 (M + 12 + 60 + 1 + 6 * L5.length) :: l)) τ →
      s_tree_Remove_k18 E (qd P f_tree_Remove_c1 [(.pointer (some ⟨b1, 0, none⟩)), (.pointer (some ⟨b3, 0, none⟩)), (.pointer (some ⟨b5, 0, none⟩)), (.pointer (some ⟨b7, 0, none⟩))] fun τ66 =>
       pu (aLoad false 1 (.pointer (some ⟨b1, 0, none⟩)) τ66) fun v67 =>
       pu (aLoad false 1 (.pointer (some ⟨b3, 0, none⟩)) τ66) fun v68 =>
       pu (aLoad false 1 (.pointer (some ⟨b5, 0, none⟩)) τ66) fun v69 =>
       pu (aLoad false 1 (.pointer (some ⟨b7, 0, none⟩)) τ66) fun v70 =>
       Q (.ret (.tuple #[v67, v68, v69, v70])) τ66) sb bt b1 b3 b5 b7 τ := by
    intro τ to hst hno hyes ht
    unfold s_tree_Remove_k18
    have g1 : H (StA sb rb T6 (M + 12 + 60 + 1 + 6 * L5.length) :: In4 b1 b3 b5 b7 to v0 true 0 (pt bt (.cells (stc s6.at' s6.n s6.kv s6.vv s6.nx) t_tree_step false) :: l)) τ := ht.re
    rw [st_ptr0 g1, om_some, LI g1]
    have := hso6.at8
    refine b64 (s6.at' : Int) (by omega) ?_
    refine stdec g1 rfl (fun e => hst (by rw [e]; rfl)) ?_ ?_
    · intro e τ1 he hdc g2
      rw [c2_ret, tB_bool, tI_int]
      refine must1 he ?_
      rw [c0_pan]
      have g3 : H (StA sb rb T6 (M + 12 + 60 + 1 + 6 * L5.length) :: In4 b1 b3 b5 b7 to v0 true 0 l) τ1 := g2.re
      refine pan (A := []) he (by omega) g3 ?_
      intro τ2 g4
      exact hno e T6 τ2 he (by rw [hdc]; rfl) g4
    · intro bd T7 τ1 hdc g2
      rw [c2_ret, tB_bool, tI_int]
      refine must0 ?_
      rw [c0_ret]
      refine k20 (T7 := T7) (fun σ' hh => hyes to v0 true T7 σ' (by rw [hdc]; rfl) hh) ?_
      exact g2.re
  have q7 : H (In4 b1 b3 b5 b7 s6.at' v0 true 0 (pt bt (.cells (stc s6.at' s6.n s6.kv s6.vv s6.nx) t_tree_step false) :: RoU s6.kv s6.n.keys :: RoU s6.vv s6.n.vals :: StA sb rb T6 (M + 12 + 60 + 1 + 6 * L5.length) :: l)) τ12 := q6.re
  refine If_dec (fun g0 => ?_) fun g0 => ?_
  · rw [if_pos (by omega)] at hst hno hyes
    refine ⟨by decide, ?_⟩
    unfold s_tree_Remove_k15
    refine If_t rfl ?_
    refine st q7 rfl ?_
    intro τ13 q8
    rw [LV q8, hlk6, ldI_some]
    refine If_dec (fun g => absurd g (by omega)) fun _ => ?_
    exact k18 (to := 0) hst hno hyes q8.re
  · rw [if_neg (by omega)] at hst hno hyes
    rw [LB q7]
    have keep : (s6.n.leaf = true ∨ s6.n.keys.length ≠ 1) → s_tree_Remove_k15 E (qd P f_tree_Remove_c1 [(.pointer (some ⟨b1, 0, none⟩)), (.pointer (some ⟨b3, 0, none⟩)), (.pointer (some ⟨b5, 0, none⟩)), (.pointer (some ⟨b7, 0, none⟩))] fun τ66 =>
       pu (aLoad false 1 (.pointer (some ⟨b1, 0, none⟩)) τ66) fun v67 =>
       pu (aLoad false 1 (.pointer (some ⟨b3, 0, none⟩)) τ66) fun v68 =>
       pu (aLoad false 1 (.pointer (some ⟨b5, 0, none⟩)) τ66) fun v69 =>
       pu (aLoad false 1 (.pointer (some ⟨b7, 0, none⟩)) τ66) fun v70 =>
       Q (.ret (.tuple #[v67, v68, v69, v70])) τ66) false b1 bt sb b3 b5 b7 τ12 := by
      intro hor
      rw [if_neg (fun hh => by rcases hor with h | h; rw [h] at hh; exact absurd hh.1 (by decide); exact h hh.2)] at hyes
      unfold s_tree_Remove_k15
      refine If_f rfl ?_
      exact k20 (T7 := T6) (fun σ' hh => hyes s6.at' v0 true T6 σ' rfl hh) q7.re
    refine If_b (fun gl => ?_) fun gl => ?_
    · have gl : s6.n.leaf = false := by simpa using gl
      rw [LV q7, hlk6, ldI_some]
      by_cases h1 : s6.n.keys.length = 1
      · rw [if_pos ⟨gl, h1⟩] at hst hno hyes
        have : decide ((s6.n.keys.length : Int) = 1) = true := by simp; omega
        rw [this]
        unfold s_tree_Remove_k15
        refine If_t rfl ?_
        refine st q7 rfl ?_
        intro τ13 q8
        rw [LV q8, hlk6, ldI_some]
        refine If_dec (fun _ => ?_) fun g => absurd (by omega) g
        cases hv0 : s6.n.vals[0]? with
        | none => rw [hv0] at hst; exact absurd rfl hst
        | some v =>
        rw [hv0] at hst hno hyes
        simp only at hst hno hyes
        obtain ⟨p, ia, la⟩ := us_get (rou_us (q8.fnd (RoU s6.vv s6.n.vals))) hv0
        rw [LV q8, show (0 : Int) = ((0 : Nat) : Int) from rfl, ia, om_some, la, ldI_some]
        refine st q8 rfl ?_
        intro τ14 q9
        exact k18 (to := v) hst hno hyes q9.re
      · have : decide ((s6.n.keys.length : Int) = 1) = false := by simp; omega
        rw [this]
        exact keep (.inr h1)
    · exact keep (.inl (by simpa using gl))
end Go.Ax.C
set_option maxRecDepth 100000
namespace Go.Ax.C
open Go.Proofs Go.RowKit
open O (CacheA Disk It DPlain)
variable {l r r2 m : List Assn} {σ : AHeap} {Q : RK}
theorem H_one1 {A : Assn} (h : H (A :: l) σ) : H [A, Star l] σ :=
  (H_star.2 (h.perm (List.perm_append_comm (l₁ := [A]) (l₂ := l)))).perm (List.perm_append_comm (l₁ := [Star l]) (l₂ := [A]))
theorem dnew {n : Nat} (h : H l σ) (hn : 1 ≤ n ∧ n ≤ 1024) (hQ : ∀ v σ', H (Disk v (.new n) :: l) σ' → Q (.ret (.tuple #[v, .int .i64 0])) σ') : E f_disk_New [.int .i64 (n : Nat)] σ Q := by
  refine O.up (O.new_yes h (by omega) ?_)
  intro v σ' h1
  exact hQ v σ' h1.unsnoc
theorem new_plain {n : Nat} (hn : 1 ≤ n ∧ n ≤ 1024) : DPlain (.new n) n := by
  refine ⟨⟨hn.1, hn.2, ?_, ?_⟩, rfl, rfl⟩
  · simp [DM.new]
  · intro f hf; simp [DM.new] at hf
theorem cnew {dv : Value} {D : DM} {n k : Nat} (h : H l σ) [k1 : AtV l dv (Disk dv D) r] (hD : D.Ok n) (hk : 1 ≤ k ∧ k ≤ 1024) (hQ : ∀ v σ', H (CacheA v dv 0 ⟨k, []⟩ :: Disk dv D :: r) σ' → Q (.ret (.tuple #[v, .int .i64 0])) σ') : E f_cache_New [dv, .int .i64 k] σ Q := by
  have h1 : H [Disk dv D, Star r] σ := H_one1 (h.atv dv)
  refine O.up (O.cnew_ok h1 hD hk ?_)
  intro v σ' h2
  exact hQ v σ' (H_two.2 h2)
theorem cinv_new {n k : Nat} (hn : 1 ≤ n ∧ n ≤ 1024) (hk : 1 ≤ k ∧ k ≤ 1024) : CInv ⟨k, []⟩ (.new n) n :=
  ⟨⟨hk.1, hk.2, by simp, by simp, by simp⟩, new_plain hn, by simp⟩
def cnt0 (n : Nat) : List Nat := 1 :: 1 :: List.replicate (n - 2) 0
def zero256 : List UInt8 := List.replicate 256 0
def TS.new (n : Nat) : TS := ⟨cnt0 n, cnt0 n, fun _ => .raw zero256⟩
theorem cnt0_len {n : Nat} (h : 2 ≤ n) : (cnt0 n).length = n := by simp [cnt0]; omega
theorem block_new {n a : Nat} (h : a < n) : (DM.new n).block a = zero256 := by
  unfold DM.block DM.new over zero256
  simp only [List.foldl_nil, List.drop_replicate, List.take_replicate]
  congr 1; omega
theorem wmade {n k : Nat} (h : H l σ) (hn : 2 ≤ n ∧ n ≤ 1024) (hk : 1 ≤ k ∧ k ≤ 1024) (hQ : ∀ xb rb sb σ', H (pt xb (.cells [.pointer (some ⟨rb, 0, none⟩), .pointer (some ⟨sb, 0, none⟩)] t_law11_Bench false) :: StA sb rb (TS.new n) 0 :: l) σ' → Q (.ret (.pointer (some ⟨xb, 0, none⟩))) σ') :
    E f_law11_Made [.int .i64 n, .int .i64 k] σ Q := by
  apply e_law11_Made; unfold s_law11_Made
  refine dnew h (by omega) ?_
  intro dv σ1 h1
  rw [c2_ret, tI_int]
  refine make_ok h1 (by omega) ?_
  intro b σ2 h2
  have h2 := h2.unsnoc
  have e0 : reps ((n : Int).toNat) [.int .u8 0] = n8 (List.replicate n 0) := by rw [reps_one]; simp
  rw [e0] at h2
  have h3 : H (Own t_uint8 1 (.slice (some ⟨b, 0, none⟩) n n) n (n8 (List.replicate n 0)) :: Disk dv (.new n) :: l) σ2 := h2.to_own (n := n) (z := 1) 0 rfl (by simp) (by unfold OPEN; omega)
  have h3 : H (Own t_uint8 1 (.slice (some ⟨b, 0, none⟩) n n) (List.replicate n 0).length (n8 (List.replicate n 0)) :: Disk dv (.new n) :: l) σ2 := by rw [List.length_replicate]; exact h3
  simp only [Int.toNat_natCast]
  rw [show (0 : Int) = ((0 : Nat) : Int) from rfl]
  refine gst (f := fun n : Nat => Value.int .u8 (n : Nat)) (y := 1) h3 rfl (by simp; omega) ?_
  intro σ3 h4
  rw [show (1 : Int) = ((1 : Nat) : Int) from rfl]
  refine gst (f := fun n : Nat => Value.int .u8 (n : Nat)) (y := 1) h4 rfl (by simp; omega) ?_
  intro σ4 h5
  have e1 : ((List.replicate n 0).set 0 1).set 1 1 = cnt0 n := by
    obtain ⟨j, rfl⟩ : ∃ j, n = j + 2 := ⟨n - 2, by omega⟩
    simp [List.replicate_succ, cnt0]
  rw [e1] at h5
  have hlen := cnt0_len hn.1
  have h8 : ∀ x ∈ cnt0 n, x < 256 := by
    intro x hx
    simp [cnt0, List.mem_replicate] at hx
    omega
  refine rnew h5 (by omega) (by omega) h8 ?_
  intro rb σ5 h6
  rw [c2_ret, tI_int]
  refine If_f (by simp) ?_
  unfold s_law11_Made_k6
  refine If_f (by simp) ?_
  have h7 : H (Disk dv (.new n) :: RfA rb (cnt0 n) (cnt0 n) :: l) σ5 := h6.re
  refine cnew h7 (new_plain (by omega)).ok hk ?_
  intro cv σ6 h8
  rw [c2_ret, tI_int]
  obtain ⟨cb, mb, now, rowv, R, M, hcv, _⟩ := O.cache_out (H_one1 h8)
  subst hcv
  apply e_tree_New; unfold s_tree_New
  refine If_f rfl ?_
  refine nw h8 ?_
  intro sb σ7 h9
  rw [cV_ret]
  refine If_ne (fun g => absurd rfl g) fun _ => ?_
  rw [bin_peq1, ldB_some]
  unfold s_law11_Made_k10
  refine If_f rfl (On_one rfl (On_one rfl ?_))
  refine nw h9 ?_
  intro xb σ8 h10
  refine hQ xb rb sb σ8 ?_
  have h11 : H (StL sb rb cb dv 0 ⟨k, []⟩ (.new n) (TS.new n) (pt xb (.cells [.pointer (some ⟨rb, 0, none⟩), .pointer (some ⟨sb, 0, none⟩)] t_law11_Bench false) :: l)) σ8 := by
    have q : H (pt sb (.cells [.pointer (some ⟨rb, 0, none⟩), .pointer (some ⟨cb, 0, none⟩)] t_tree_Shelf false) :: RfA rb (cnt0 n) (cnt0 n) :: CacheA (.pointer (some ⟨cb, 0, none⟩)) dv 0 ⟨k, []⟩ :: Disk dv (.new n) :: pt xb (.cells [.pointer (some ⟨rb, 0, none⟩), .pointer (some ⟨sb, 0, none⟩)] t_law11_Bench false) :: l) σ8 := h10.re
    exact q
  have h12 : H (StA sb rb (TS.new n) 0 :: pt xb (.cells [.pointer (some ⟨rb, 0, none⟩), .pointer (some ⟨sb, 0, none⟩)] t_law11_Bench false) :: l) σ8 := by
    refine H_st.2 ⟨cb, dv, 0, ⟨k, []⟩, .new n, ⟨?_, by simp [DM.new], by omega, fun a ha => ?_⟩, h11⟩
    · show CInv _ _ (cnt0 n).length
      rw [hlen]; exact cinv_new (by omega) hk
    · have : a < n := by
        have ha : a < (cnt0 n).length := ha
        omega
      show BkOk a (.raw zero256) _
      rw [content_no (by simp), block_new this]
      rfl
  exact h12.perm (.swap _ _ _)
end Go.Ax.C
set_option maxRecDepth 100000
namespace Go.Ax.C
open Go.Proofs Go.RowKit
variable {l r r2 m : List Assn} {σ : AHeap} {Q : RK}
def awakeA (T : TS) : Bool :=
  match insA T 0 5 1 with
  | .ok (root, old, had) T1 => had == false && old == 0 && root != 0 && decide (root < 1024) && match T1.inc root with
    | .ok _ T2 => match T2.inc 1 with
      | .ok _ T3 => match insA T3 root 5 1 with
        | .ok (other, old, had) T4 => had && old == 1 && other != root && decide (other < 1024) && (match lookupA 5 12 root T4 with
            | .ok (a, b) _ => a == 1 && b
            | _ => false) && match lookupA 6 12 other T4 with
            | .ok (_, c) _ => !c
            | _ => false
        | _ => false
      | _ => false
    | _ => false
  | _ => false
theorem awakeA_ok : awakeA (TS.new 40) = true := by decide +kernel
theorem awake11 (h : H l σ) (hQ : ∀ σ', H l σ' → Q (.ret (.bool true)) σ') : E f_law11_awake [] σ Q := by
  apply e_law11_awake; unfold s_law11_awake
  refine wmade (n := 40) (k := 4) h (by omega) (by omega) ?_
  intro xb rb sb σ1 h1
  have hA := awakeA_ok
  unfold awakeA at hA
  rw [cV_ret, bin_peq1, ldB_some]
  refine If_f rfl ?_
  (try simp only [nil_ptr, om_some, fieldAddr_ptr, Nat.zero_add])
  rw [Ld h1, om_some]
  cases e1 : insA (TS.new 40) 0 5 1 with
  | stuck => rw [e1] at hA; cases hA
  | err e T => rw [e1] at hA; cases hA
  | ok q T1 =>
  obtain ⟨root, old, had⟩ := q
  rw [e1] at hA
  simp only [Bool.and_eq_true, beq_iff_eq, bne_iff_ne, ne_eq, decide_eq_true_eq] at hA
  obtain ⟨⟨⟨⟨rfl, rfl⟩, hr0⟩, hrl⟩, hA⟩ := hA
  have h1 : H (StA sb rb (TS.new 40) 0 :: pt xb (.cells [.pointer (some ⟨rb, 0, none⟩), .pointer (some ⟨sb, 0, none⟩)] t_law11_Bench false) :: l) σ1 := h1.perm (.swap _ _ _)
  refine winsert (root := 0) (key := 5) (val := 1) h1 (by omega) (by omega) (by omega) (by omega) (by rw [e1]; exact fun h => by cases h) ?_ ?_
  · intro e T' σ' _ he; rw [e1] at he; cases he
  intro to old had T' σ2 he h2
  rw [e1] at he
  cases he
  rw [c4_ret, tI_int, tI_int, tB_bool, tI_int]
  refine If_f rfl (If_f rfl (If_f rfl ?_))
  refine If_dec (fun g => absurd (by omega) hr0) fun _ => ?_
  (try simp only [nil_ptr, om_some, fieldAddr_ptr, Nat.zero_add])
  rw [Ld h2, om_some]
  refine b64 (root : Int) (by omega) ?_
  cases e2 : T1.inc root with
  | stuck => rw [e2] at hA; cases hA
  | err e T => rw [e2] at hA; cases hA
  | ok u T2 =>
  rw [e2] at hA
  simp only at hA
  refine stinc h2 rfl (by rw [e2]; exact fun h => by cases h) ?_ ?_
  · intro e σ' _ he; rw [e2] at he; cases he
  intro T' σ3 he h3
  rw [e2] at he; cases he
  rw [cI_ret]
  refine If_f rfl ?_
  (try simp only [nil_ptr, om_some, fieldAddr_ptr, Nat.zero_add])
  rw [Ld h3, om_some]
  cases e3 : T2.inc 1 with
  | stuck => rw [e3] at hA; cases hA
  | err e T => rw [e3] at hA; cases hA
  | ok u T3 =>
  rw [e3] at hA
  simp only at hA
  refine stinc (a := 1) h3 rfl (by rw [e3]; exact fun h => by cases h) ?_ ?_
  · intro e σ' _ he; rw [e3] at he; cases he
  intro T' σ4 he h4
  rw [e3] at he; cases he
  rw [cI_ret]
  unfold s_law11_awake_k6
  refine If_f rfl ?_
  (try simp only [nil_ptr, om_some, fieldAddr_ptr, Nat.zero_add])
  rw [Ld h4, om_some]
  cases e4 : insA T3 root 5 1 with
  | stuck => rw [e4] at hA; cases hA
  | err e T => rw [e4] at hA; cases hA
  | ok q T4 =>
  obtain ⟨other, old2, had2⟩ := q
  rw [e4] at hA
  simp only [Bool.and_eq_true, beq_iff_eq, bne_iff_ne, ne_eq, decide_eq_true_eq] at hA
  obtain ⟨⟨⟨⟨⟨rfl, rfl⟩, hor⟩, hol⟩, hL1⟩, hL2⟩ := hA
  refine winsert (root := root) (key := 5) (val := 1) h4 (by omega) (by omega) (by omega) (by omega) (by rw [e4]; exact fun h => by cases h) ?_ ?_
  · intro e T' σ' _ he; rw [e4] at he; cases he
  intro to old had T' σ5 he h5
  rw [e4] at he
  cases he
  rw [c4_ret, tI_int, tI_int, tB_bool, tI_int]
  (try simp only [nil_ptr, om_some, fieldAddr_ptr, Nat.zero_add])
  rw [Ld h5, om_some]
  cases e5 : lookupA 5 12 root T4 with
  | stuck => rw [e5] at hL1; cases hL1
  | err e T => rw [e5] at hL1; cases hL1
  | ok q T5 =>
  obtain ⟨a, b⟩ := q
  rw [e5] at hL1
  simp only [Bool.and_eq_true, beq_iff_eq] at hL1
  obtain ⟨rfl, rfl⟩ := hL1
  refine wlookup (root := root) (key := 5) h5 (by omega) (by omega) (by rw [e5]; exact fun h => by cases h) ?_ ?_
  · intro e T' σ' _ he; rw [e5] at he; cases he
  intro v b T' σ6 he h6
  rw [e5] at he
  cases he
  rw [c3_ret, tI_int, tB_bool, tI_int]
  (try simp only [nil_ptr, om_some, fieldAddr_ptr, Nat.zero_add])
  rw [Ld h6, om_some]
  cases e6 : lookupA 6 12 other T4 with
  | stuck => rw [e6] at hL2; cases hL2
  | err e T => rw [e6] at hL2; cases hL2
  | ok q T6 =>
  obtain ⟨a, c⟩ := q
  rw [e6] at hL2
  simp only [Bool.not_eq_true'] at hL2
  subst hL2
  refine wlookup (root := other) (key := 6) h6 (by omega) (by omega) (by rw [e6]; exact fun h => by cases h) ?_ ?_
  · intro e T' σ' _ he; rw [e6] at he; cases he
  intro v b T' σ7 he h7
  rw [e6] at he
  cases he
  rw [c3_ret, tI_int, tB_bool, tI_int]
  refine If_t rfl (If_t rfl (If_t rfl ?_))
  refine If_t (by simp; omega) ?_
  refine If_t rfl (If_t rfl (If_t rfl (If_t rfl ?_)))
  exact hQ σ7 h7.tail.tail
end Go.Ax.C
