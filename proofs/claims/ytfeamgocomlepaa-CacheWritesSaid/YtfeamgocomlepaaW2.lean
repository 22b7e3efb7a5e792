/- Texts of one proof, joined. No statement of the seat is proved here. -/
import Derived.Test.YtfeamgocomlepaaW1
import Derived.ChangeKeysEq
import Derived.Laws.StructEq
import Derived.Recover
set_option linter.unusedVariables false
set_option linter.unusedSimpArgs false
set_option linter.unnecessarySimpa false
set_option linter.constructorNameAsVariable false
namespace Go.Ax
open Go.RowKit

section
variable {P : Program} {B : Nat} {w0 : World} {ρ : List RB} {σ : AHeap} {w : World}

theorem ERel.nil : ERel ρ [] [] := ⟨rfl, fun i e e' a => by simp at a⟩
theorem ERel.cons_inv {e : MapEntry} {es es' : List MapEntry} (h : ERel ρ (e :: es) es') : ∃ e' t, es' = e' :: t ∧ VR ρ e.key e'.key ∧ VR ρ e.val e'.val ∧ e.born = e'.born ∧ live e.key = true ∧ ERel ρ es t := by
  cases es' with
  | nil => have := h.1; simp at this
  | cons e' t =>
    obtain ⟨a, b, c, d⟩ := h.2 0 e e' rfl rfl
    exact ⟨e', t, rfl, a, b, c, d, by have := h.1; simpa using this, fun j a b ha hb => h.2 (j + 1) a b (by simpa using ha) (by simpa using hb)⟩
theorem ERel.cons {e e' : MapEntry} {es es' : List MapEntry} (a : VR ρ e.key e'.key) (b : VR ρ e.val e'.val) (c : e.born = e'.born) (d : live e.key = true) (h : ERel ρ es es') : ERel ρ (e :: es) (e' :: es') := by
  refine ⟨by simp [h.1], fun j x y hx hy => ?_⟩
  cases j with
  | zero => simp at hx hy; subst hx; subst hy; exact ⟨a, b, c, d⟩
  | succ j => exact h.2 j x y (by simpa using hx) (by simpa using hy)

theorem ERel.filter (p : Nat → Bool) : ∀ {es es' : List MapEntry}, ERel ρ es es' → ERel ρ (es.filter fun e => p e.born) (es'.filter fun e => p e.born)
  | [], es', h => by
    have : es' = [] := List.length_eq_zero_iff.1 h.1.symm
    subst this; exact .nil
  | e :: es, es', h => by
    obtain ⟨e', t, rfl, a, b, c, d, ht⟩ := h.cons_inv
    have ih := ERel.filter p ht
    simp only [List.filter_cons, ← c]
    split
    · exact .cons a b c d ih
    · exact ih

theorem ERel.append : ∀ {l l' m m' : List MapEntry}, ERel ρ l l' → ERel ρ m m' → ERel ρ (l ++ m) (l' ++ m')
  | [], l', m, m', h, k => by
    have : l' = [] := List.length_eq_zero_iff.1 h.1.symm
    subst this; exact k
  | e :: es, l', m, m', h, k => by
    obtain ⟨e', t, rfl, a, b, c, d, ht⟩ := h.cons_inv
    exact .cons a b c d (ERel.append ht k)

theorem ERel.all (p : Nat → Bool) : ∀ {es es' : List MapEntry}, ERel ρ es es' → (es'.all fun e => p e.born) = es.all fun e => p e.born
  | [], es', h => by
    have : es' = [] := List.length_eq_zero_iff.1 h.1.symm
    subst this; rfl
  | e :: es, es', h => by
    obtain ⟨e', t, rfl, a, b, c, d, ht⟩ := h.cons_inv
    simp only [List.all_cons, ERel.all p ht, c]

theorem ERel.find (p : Nat → Bool) : ∀ {es es' : List MapEntry} {e : MapEntry}, ERel ρ es es' → (es.find? fun e => p e.born) = some e → ∃ e', (es'.find? fun e => p e.born) = some e' ∧ VR ρ e.key e'.key ∧ VR ρ e.val e'.val
  | [], es', e, h, hf => by simp at hf
  | x :: es, es', e, h, hf => by
    obtain ⟨e', t, rfl, a, b, c, d, ht⟩ := h.cons_inv
    simp only [List.find?_cons, ← c] at hf ⊢
    split at hf
    · cases hf; exact ⟨e', rfl, a, b⟩
    · exact ERel.find p ht hf

theorem ERel.isEmpty {es es' : List MapEntry} (h : ERel ρ es es') : es'.isEmpty = es.isEmpty := by
  cases es <;> cases es' <;> first | rfl | (have := h.1; simp at this)

theorem ERel.mem {es es' : List MapEntry} {e' : MapEntry} (h : ERel ρ es es') (hm : e' ∈ es') : ∃ e ∈ es, VR ρ e.key e'.key ∧ VR ρ e.val e'.val ∧ e.born = e'.born := by
  obtain ⟨i, hi, rfl⟩ := List.getElem_of_mem hm
  have hi' : i < es.length := by rw [h.1]; exact hi
  obtain ⟨a, b, c, _⟩ := h.2 i es[i] es'[i] (by simp) (by simp)
  exact ⟨es[i], by simp, a, b, c⟩

theorem run_mapNext {n : Nat} (hn : 0 < n) : ∃ i w1, (choose (.mapNext n)).run P w = .ok i w1 ∧ i < n ∧ (w1 = w ∨ w1 = w.drew) := by
  by_cases h1 : n ≤ 1
  · exact ⟨0, w, by simp [choose, Sem.run, Question.forced, h1], hn, .inl rfl⟩
  · refine ⟨w.tape w.drawn (.mapNext n) % n, w.drew, ?_, Nat.mod_lt _ hn, .inr rfl⟩
    simp only [choose, Sem.run, Question.forced, h1, Question.cut]
    rfl

def aNextMap (it : Value) (σ : AHeap) : Option (List (Value × AHeap)) :=
  match it with
  | .pointer (some ⟨r, 0, none⟩) => match σ.get r with
    | some (.mapIter none _ _ _) => some [(.tuple #[.bool false], σ)]
    | some (.mapIter (some m) since seen last) => match σ.get m with
      | some (.map es clock) => cond (!seen.isEmpty && !es.isEmpty && es.all fun e => Nat.ble last e.born) none
        (some (cond ((es.filter fun e => !seen.contains e.born && Nat.blt e.born since).isEmpty) [(.tuple #[.bool false], σ)] [] ++
          ((es.filter fun e => !seen.contains e.born && Nat.blt e.born since) ++ (es.filter fun e => !seen.contains e.born && Nat.ble since e.born)).map fun e =>
            (.tuple #[.bool true, e.key, e.val], σ.set r (.mapIter (some m) since (seen ++ [e.born]) clock))))
      | _ => none
    | _ => none
  | _ => none

theorem aNextMap_sound (h : Rel B w0 ρ σ w) {it it' : Value} {t : TypeId} {L : List (Value × AHeap)} (hx : VR ρ it it') (hy : aNextMap it σ = some L) :
    ∃ y ∈ L, ∃ v' w', (Instr.next it' false t).run P w = .ok v' w' ∧ Rel B w0 ρ y.2 w' ∧ VR ρ y.1 v' := by
  unfold aNextMap at hy
  split at hy
  · rename_i r
    obtain ⟨x, hxr, rfl⟩ := hx.ptr_at
    split at hy
    · rename_i s1 s2 s3 hg
      cases hy
      obtain ⟨r0, a, ⟨m', hs0, hb, hmm⟩, _⟩ := h.obj r _ hg
      rw [hxr] at a; cases a
      have hgo := run_getObj (P := P) hb (fun c e fz => by simp)
      have hmn := hmm.mapN
      simp only [Value.map.injEq] at hmn
      subst hmn
      refine ⟨_, List.mem_singleton.2 rfl, .tuple #[.bool false], w, ?_, h, VR.tuple' (LR.cons (.bool _) (LR.nil _))⟩
      rw [hs0]; simp [Instr.next, hgo]
    · rename_i m since seen last hg
      obtain ⟨r0, a, ⟨m', hs0, hb, hmm⟩, _⟩ := h.obj r _ hg
      rw [hxr] at a; cases a
      obtain ⟨xm, hm', hxm⟩ := hmm.map_inv
      simp only [Value.map.injEq] at hm'
      subst hm'
      have hgo := run_getObj (P := P) hb (fun c e fz => by simp)
      split at hy
      · rename_i es clock hgm
        obtain ⟨es', h1, h2⟩ := h.mapAt hgm hxm
        have hgm := run_getObj (P := P) h1 (fun c e fz => by simp)
        cases hbad : (!seen.isEmpty && !es.isEmpty && es.all fun e => Nat.ble last e.born) with
        | true => rw [hbad] at hy; cases hy
        | false =>
          rw [hbad] at hy
          simp only [cond_false, Option.some.injEq] at hy
          have hbad' : (!seen.isEmpty && !es'.toList.isEmpty && es'.toList.all fun e => decide (e.born ≥ last)) = false := by
            rw [h2.isEmpty]
            have e1 := h2.all (fun b => decide (b ≥ last))
            rw [e1]
            rw [← hbad]
            congr 1
            congr 1
            funext e
            rw [Bool.eq_iff_iff]; simp
          have hold := h2.filter (fun b => !seen.contains b && Nat.blt b since)
          have hnew := h2.filter (fun b => !seen.contains b && Nat.ble since b)
          have hboth := hold.append hnew
          have eold : es'.toList.filter (fun e => !seen.contains e.born && Nat.blt e.born since) = ((es'.filter fun e => !seen.toArray.contains e.born).filter fun e => decide (e.born < since)).toList := by
            simp only [Array.toList_filter, List.filter_filter, List.contains_toArray]
            congr 1; funext e
            rw [Bool.and_comm]
            congr 1
            rw [Bool.eq_iff_iff]; simp
          have enew : es'.toList.filter (fun e => !seen.contains e.born && Nat.ble since e.born) = ((es'.filter fun e => !seen.toArray.contains e.born).filter fun e => decide (e.born ≥ since)).toList := by
            simp only [Array.toList_filter, List.filter_filter, List.contains_toArray]
            congr 1; funext e
            rw [Bool.and_comm]
            congr 1
            rw [Bool.eq_iff_iff]; simp
          rw [eold] at hold hboth
          rw [enew] at hnew hboth
          generalize hO : ((es'.filter fun e => !seen.toArray.contains e.born).filter fun e => decide (e.born < since)) = O at *
          generalize hN : ((es'.filter fun e => !seen.toArray.contains e.born).filter fun e => decide (e.born ≥ since)) = N at *
          generalize hC : ((if O.isEmpty then #[none] else #[]) ++ (O ++ N).map some : Array (Option MapEntry)) = C
          have hpos : 0 < C.size := by
            rw [← hC]
            by_cases he : O.isEmpty
            · simp [he]; omega
            · simp [he]
              have : 0 < O.size := by
                rcases Nat.eq_zero_or_pos O.size with h0 | h0
                · exact absurd (by simpa using h0) he
                · exact h0
              omega
          obtain ⟨i, w1, hch, hi, hw1⟩ := run_mapNext (P := P) (w := w) hpos
          have hr1 : Rel B w0 ρ σ w1 := by rcases hw1 with rfl | rfl <;> first | exact h | exact h.drew
          have hheap : w1.heap = w.heap := by rcases hw1 with rfl | rfl <;> rfl
          have hb1 : w1.heap[x.b]? = some (.mapIter (some xm.b) since seen.toArray last) := by rw [hheap]; exact hb
          have hb2 : (!seen.toArray.isEmpty && !es'.isEmpty && es'.all fun e => decide (e.born ≥ last)) = false := by
            rw [← hbad']; simp
          obtain ⟨c, hci⟩ : ∃ c, C[i]? = some c := ⟨C[i], by simp [hi]⟩
          have hmem : c ∈ C := Array.mem_of_getElem? hci
          rw [← hC, Array.mem_append] at hmem
          cases c with
          | none =>
            have hrun : (Instr.next (.pointer (some ⟨x.b, x.s + 0, none⟩)) false t).run P w = .ok (.tuple #[.bool false]) w1 := by
              rw [hs0]
              unfold Instr.next
              simp only [Nat.add_zero, Sem.run_bind, hgo, Result.andThen_ok, hgm, hb2, Bool.false_eq_true, if_false, hO, hN, hC, hch, Sem.run_pure, hci]
            have hnone : O.isEmpty = true := by
              by_cases he : O.isEmpty
              · exact he
              · rw [if_neg he] at hmem; simp at hmem
            have hem : (es.filter fun e => !seen.contains e.born && Nat.blt e.born since).isEmpty = true := by
              rw [← hold.isEmpty]; simpa using hnone
            refine ⟨(.tuple #[.bool false], σ), ?_, .tuple #[.bool false], w1, hrun, hr1, VR.tuple' (LR.cons (.bool _) (LR.nil _))⟩
            rw [← hy, hem]; simp
          | some e' =>
            have he' : e' ∈ O ++ N := by
              rcases hmem with hmem | hmem
              · by_cases he : O.isEmpty
                · rw [if_pos he] at hmem; simp at hmem
                · rw [if_neg he] at hmem; simp at hmem
              · rw [Array.mem_map] at hmem
                obtain ⟨a, ha, hae⟩ := hmem
                cases hae; exact ha
            obtain ⟨e, hel, hk, hv, hborn⟩ := hboth.mem (e' := e') (by simpa using he')
            obtain ⟨f1, f2⟩ := hr1.setO (P := P) (o' := .mapIter (some m) since (seen ++ [e.born]) clock) (co := .mapIter (some xm.b) since (seen.toArray.push e'.born) clock) hg rfl rfl hxr hb1 (fun c e fz => by simp)
              (fun hp hh => ⟨some xm.b, hs0, by rw [hborn]; simpa using hh, .map _ _ hxm⟩)
            have hrun : (Instr.next (.pointer (some ⟨x.b, x.s + 0, none⟩)) false t).run P w = .ok (.tuple #[.bool true, e'.key, e'.val]) { w1 with heap := w1.heap.setIfInBounds x.b (.mapIter (some xm.b) since (seen.toArray.push e'.born) clock) } := by
              rw [hs0]
              unfold Instr.next
              simp only [Nat.add_zero, Sem.run_bind, hgo, Result.andThen_ok, hgm, hb2, Bool.false_eq_true, if_false, hO, hN, hC, hch, Sem.run_pure, hci, f1]
            refine ⟨(.tuple #[.bool true, e.key, e.val], σ.set r (.mapIter (some m) since (seen ++ [e.born]) clock)), ?_, _, _, hrun, f2, VR.tuple' (LR.cons (.bool _) (LR.cons hk (LR.cons hv (LR.nil _))))⟩
            rw [← hy]
            apply List.mem_append_right
            exact List.mem_map.2 ⟨e, hel, rfl⟩
      · cases hy
    · cases hy
  · cases hy

def aEntry (it : Value) (σ : AHeap) : Option Value :=
  match it with
  | .pointer (some ⟨r, 0, none⟩) => match σ.get r with
    | some (.mapIter (some m) _ seen stepped) => seen.getLast?.bind fun stamp => match σ.get m with
      | some (.map es clock) => cond (Nat.beq clock stepped) ((es.find? fun e => Nat.beq e.born stamp).map fun e => .tuple #[e.key, e.val]) none
      | _ => none
    | _ => none
  | _ => none

theorem aEntry_sound (h : Rel B w0 ρ σ w) {it it' v : Value} (hx : VR ρ it it') (hy : aEntry it σ = some v) :
    ∃ v', (Instr.entry it').run P w = .ok v' w ∧ VR ρ v v' := by
  unfold aEntry at hy
  split at hy
  · rename_i r
    obtain ⟨x, hxr, rfl⟩ := hx.ptr_at
    split at hy
    · rename_i m since seen stepped hg
      obtain ⟨r0, a, ⟨m', hs0, hb, hmm⟩, _⟩ := h.obj r _ hg
      rw [hxr] at a; cases a
      obtain ⟨xm, hm', hxm⟩ := hmm.map_inv
      simp only [Value.map.injEq] at hm'
      subst hm'
      have hgo := run_getObj (P := P) hb (fun c e fz => by simp)
      simp only [Option.bind_eq_some_iff] at hy
      obtain ⟨stamp, hst, hy⟩ := hy
      split at hy
      · rename_i es clock hgm
        obtain ⟨es', h1, h2⟩ := h.mapAt hgm hxm
        have hgm := run_getObj (P := P) h1 (fun c e fz => by simp)
        cases hc : Nat.beq clock stepped with
        | false => rw [hc] at hy; cases hy
        | true =>
          rw [hc] at hy
          have hc' : clock = stepped := Nat.eq_of_beq_eq_true hc
          subst hc'
          simp only [cond_true, Option.map_eq_some_iff] at hy
          obtain ⟨e, he, rfl⟩ := hy
          obtain ⟨e', he', hk, hv⟩ := h2.find (fun b => Nat.beq b stamp) he
          have hf : es'.find? (fun e => e.born == stamp) = some e' := by
            rw [← Array.find?_toList]
            have hfun : (fun e : MapEntry => e.born == stamp) = fun e => Nat.beq e.born stamp := by
              funext e; rw [Bool.eq_iff_iff]; simp
            rw [hfun]; exact he'
          have hbk : seen.toArray.back? = some stamp := by simpa using hst
          refine ⟨.tuple #[e'.key, e'.val], ?_, VR.tuple' (LR.cons hk (LR.cons hv (LR.nil _)))⟩
          rw [hs0]; simp [Instr.entry, hgo, hgm, hst, hf]
      · cases hy
    · cases hy
  · cases hy

theorem run_typeInfo1 {t : TypeId} {i : TypeInfo} (h : P.info? t = some i) : (typeInfo t).run P w = .ok i w := by
  simp [typeInfo, h]

/-! ### Assertions -/
def aAssert (P : Program) (t : TypeId) (ok : Bool) (x : Value) : Option Value :=
  let no : Option Value := cond ok ((zeroOf P t).map fun z => .tuple #[z, .bool false]) none
  match P.underlying t, x with
  | some (.interface _), .nilIface => no
  | some (.interface want), .iface u _ => match P.info? u with
    | some i => match Instr.missingMethod want i.methods with
      | none => some (okV ok x true)
      | some _ => no
    | none => none
  | some _, .nilIface => no
  | some _, .iface u v => cond (Nat.beq u t) (some (okV ok v true)) no
  | _, _ => none

theorem VR.iface_inv {t : TypeId} {v v' : Value} (h : VR ρ (.iface t v) v') : ∃ u, v' = .iface t u ∧ v ≠ undef ∧ VR ρ v u := by
  cases h with
  | iface t v u a b => exact ⟨u, rfl, a, b⟩

theorem aAssert_sound {t xt : TypeId} {ok : Bool} {x x' v : Value} (hx : VR ρ x x') (hy : aAssert P t ok x = some v) :
    ∃ v', (Instr.typeAssert x' xt t ok).run P w = .ok v' w ∧ VR ρ v v' := by
  have no : ∀ (s d : Option TypeId) (ms : String), cond ok ((zeroOf P t).map fun z => .tuple #[z, .bool false]) none = some v →
      ∃ z v', (zeroValue t).run P w = .ok z w ∧ ok = true ∧ v' = .tuple #[z, .bool false] ∧ VR ρ v v' := by
    intro s d ms hn
    cases ok with
    | false => cases hn
    | true =>
      simp only [cond_true, Option.map_eq_some_iff] at hn
      obtain ⟨z, hz, rfl⟩ := hn
      obtain ⟨i, hi, hz', _, _⟩ := zeroOf_inv hz
      exact ⟨z, _, run_zeroValue hi hz', rfl, rfl, VR.tuple' (LR.cons (zero_refl hz ρ) (LR.cons (.bool _) (LR.nil _)))⟩
  unfold aAssert at hy
  simp only at hy
  split at hy
  · rename_i ms ht
    obtain ⟨z, v', e1, rfl, rfl, e2⟩ := no none none "" hy
    have : x' = .nilIface := by cases hx; rfl
    subst this
    exact ⟨_, by simp [Instr.typeAssert, run_underlying ht, e1], e2⟩
  · rename_i want u _ ht
    obtain ⟨v1, rfl, _, _⟩ := hx.iface_inv
    split at hy
    · rename_i i hi
      have hti := run_typeInfo1 (P := P) (w := w) hi
      split at hy
      · rename_i hmm
        cases hy
        refine ⟨okV ok _ true, ?_, hx.okV ok true⟩
        cases ok <;> simp [Instr.typeAssert, run_underlying ht, hti, hmm, okV]
      · rename_i ms hmm
        obtain ⟨z, v', e1, rfl, rfl, e2⟩ := no none none "" hy
        exact ⟨_, by simp [Instr.typeAssert, run_underlying ht, hti, hmm, e1], e2⟩
    · cases hy
  · rename_i d hn ht
    obtain ⟨z, v', e1, rfl, rfl, e2⟩ := no none none "" hy
    have : x' = .nilIface := by cases hx; rfl
    subst this
    refine ⟨_, ?_, e2⟩
    cases d <;> first | exact absurd rfl (hn _) | simp [Instr.typeAssert, run_underlying ht, e1]
  · rename_i d u v1 hn ht
    obtain ⟨u1, rfl, _, hv1⟩ := hx.iface_inv
    cases hut : Nat.beq u t with
    | true =>
      rw [hut] at hy
      have := Nat.eq_of_beq_eq_true hut
      subst this
      cases hy
      refine ⟨okV ok u1 true, ?_, hv1.okV ok true⟩
      cases d <;> first | exact absurd rfl (hn _) | (cases ok <;> simp [Instr.typeAssert, run_underlying ht, okV])
    | false =>
      rw [hut] at hy
      obtain ⟨z, v', e1, rfl, rfl, e2⟩ := no none none "" hy
      have hne : ¬ u = t := fun e => by subst e; simp at hut
      refine ⟨_, ?_, e2⟩
      cases d <;> first | exact absurd rfl (hn _) | simp [Instr.typeAssert, run_underlying ht, e1, hne]
  · cases hy

/-! ### The method that an interface's value has -/
def aMethod (P : Program) (x : Value) (name : String) (σ : AHeap) : Option (FuncId × Value) :=
  match x with
  | .iface t v => (P.info? t).bind fun i => (i.methods.toList.find? (·.name == name)).bind fun m => cond m.path.toList.isEmpty (match m.func with
    | some (f, pr) => match P.underlying t, pr with
      | some (.pointer _), true => some (f, v)
      | some (.pointer e), false => (shp P e).bind fun g => (aLoad g.1 g.2 v σ).bind fun u => some (f, u)
      | some _, false => some (f, v)
      | _, _ => none
    | none => none) none
  | _ => none

theorem run_ssaWrap {ts : Array TypeId} {ty : TypeId} {a : Addr} {s1 s2 : ByteArray} : (Builtin.ssaWrapNilChk_ ts ty #[.pointer (some a), .string s1, .string s2]).run P w = .ok (.pointer (some a)) w := rfl

theorem aMethod_sound (h : Rel B w0 ρ σ w) {x x' v : Value} {name : String} {f : FuncId} (hx : VR ρ x x') (hy : aMethod P x name σ = some (f, v)) :
    ∃ t u v', x' = .iface t u ∧ (∀ n, 0 < n → (method n t u name).run P w = .ok (f, v') w) ∧ VR ρ v v' := by
  unfold aMethod at hy
  split at hy
  · rename_i t v0
    obtain ⟨u, rfl, hd, hu⟩ := hx.iface_inv
    simp only [Option.bind_eq_some_iff] at hy
    obtain ⟨i, hi, m, hm, hy⟩ := hy
    have hti := run_typeInfo1 (P := P) (w := w) hi
    have hm' : i.methods.find? (·.name == name) = some m := by rw [← Array.find?_toList]; exact hm
    cases hp : m.path.toList.isEmpty with
    | false => rw [hp] at hy; cases hy
    | true =>
      rw [hp] at hy
      simp only [cond_true] at hy
      have hp' : m.path.toList = [] := by simpa using hp
      have hpe : m.path = #[] := by simpa using hp'
      have hpb : m.path.isEmpty = true := by rw [hpe]; rfl
      split at hy
      · rename_i f0 pr hf
        have hsteps : ∀ n, 0 < n → (method n t u name).run P w = ((receiverAt t (.val u) pr (some ((name.splitOn ".").getLastD name))).run P w).andThen fun v w => .ok (f0, v) w := by
          intro n hn
          obtain ⟨k, rfl⟩ : ∃ k, n = k + 1 := ⟨n - 1, by omega⟩
          unfold method
          simp only [Sem.run_bind, hti, Result.andThen_ok, hm', hp', follow, Sem.run_pure, hf, hpb, if_true]
        split at hy
        · rename_i e ht
          cases hy
          refine ⟨t, u, u, rfl, fun n hn => ?_, hu⟩
          rw [hsteps n hn]
          simp [receiverAt, run_underlying ht, Place.get]
        · rename_i e ht
          simp only [Option.bind_eq_some_iff] at hy
          obtain ⟨⟨g, k⟩, hg, l, hl, hy⟩ := hy
          cases hy
          obtain ⟨l', e1, e2⟩ := aLoad_sound h hg hu hl
          have hptr : ∃ a, u = .pointer (some a) := by
            unfold aLoad at hl
            split at hl
            · obtain ⟨a', rfl, _⟩ := hu.ptr_inv; exact ⟨a', rfl⟩
            · cases hl
          obtain ⟨a, rfl⟩ := hptr
          refine ⟨t, _, l', rfl, fun n hn => ?_, e2⟩
          rw [hsteps n hn]
          have e1' : (loadVar e a).run P w = .ok l' w := by
            have := e1
            simp only [Instr.loadAt, Instr.sureAddr] at this
            simpa using this
          simp [receiverAt, run_underlying ht, Place.get, run_ssaWrap, strVal, asAddr, e1']
        · rename_i d hn1 ht
          cases hy
          refine ⟨t, u, u, rfl, fun n hn => ?_, hu⟩
          rw [hsteps n hn]
          cases d <;> first | exact absurd rfl (hn1 _) | simp [receiverAt, run_underlying ht, Place.get]
        · cases hy
      · cases hy
  · cases hy
end
end Go.Ax
namespace Go.Ax
open Go.RowKit

def eqInts : List Value → List Value → Option Bool
  | [], [] => some true
  | .int k a :: l, .int k' b :: m => if k = k' then cond (a == b) (eqInts l m) (some false) else none
  | _, _ => none

def aEqB (P : Program) (t : TypeId) (x y : Value) : Option Bool :=
  match P.underlying t, x, y with
  | some (.int _), .int k a, .int k' b => if k = k' then some (a == b) else none
  | some .bool, .bool a, .bool b => some (a == b)
  | some .string, .string a, .string b => some (a.toList == b.toList)
  | _, _, _ => none

def eqFs (P : Program) (a b : List Value) : List Field → Option Bool
  | [] => some true
  | f :: fs => if f.name ≠ "_" then (match shp P f.type, a[f.offset]?, b[f.offset]? with
      | some (false, _), some x, some y => (aEqB P f.type x y).bind fun r => cond r (eqFs P a b fs) (some false)
      | _, _, _ => none) else eqFs P a b fs

def aEqAgg (P : Program) (t : TypeId) (x y : Value) : Option Bool :=
  match P.underlying t, x, y with
  | some (.array n e), .agg a, .agg b => match P.underlying e, P.info? e with
    | some (.int _), some i => cond (Nat.beq i.size 1 && Nat.beq a.toList.length n && Nat.beq b.toList.length n && !P.eqGuardType P.depth t) (eqInts a.toList b.toList) none
    | _, _ => none
  | some (.struct fs), .agg a, .agg b => cond (P.stoodInHeld t || P.eqGuardType P.depth t) none (eqFs P a.toList b.toList fs.toList)
  | _, _, _ => none

def aBinP (P : Program) (t : TypeId) (op : BinOp) (x y : Value) : Option Value :=
  match aBin (P.underlying t) op x y with
  | some v => some v
  | none => match op with
    | .eql => (aEqAgg P t x y).map .bool
    | .neq => (aEqAgg P t x y).map fun b => .bool !b
    | _ => none

section
variable {P : Program} {B : Nat} {w0 : World} {ρ : List RB} {σ : AHeap} {w : World}

theorem VR.agg_inv' {c : Array Value} {v' : Value} (h : VR ρ (.agg c) v') : ∃ c', v' = .agg c' ∧ LR ρ c.toList c'.toList := by
  cases h with
  | agg c c' a b => exact ⟨c', rfl, LR.of_arr a b⟩

theorem aEqB_sound {t : TypeId} {x y x' y' : Value} {b : Bool} (d : Nat) (hx : VR ρ x x') (hy : VR ρ y y') (h : aEqB P t x y = some b) : (Op.equalIn (d + 1) t x' y').run P w = .ok b w := by
  unfold aEqB at h
  split at h
  · rename_i k0 k a k' b' ht
    rw [hx.int_inv, hy.int_inv]
    split at h
    · rename_i hk; subst hk; cases h
      exact run_equalIn_int w d t k k0 a b' ht
    · cases h
  · rename_i a b' ht
    rw [hx.bool_inv, hy.bool_inv]; cases h
    exact run_equalIn_bool' w d t a b' ht
  · rename_i a b' ht
    rw [hx.string_inv, hy.string_inv]; cases h
    exact run_equalIn_string w d t a b' ht
  · cases h

theorem eqInts_sound (d : Nat) {e : TypeId} {k0 : IntKind} {i : TypeInfo} (he : P.underlying e = some (.int k0)) (hi : P.info? e = some i) (h1 : i.size = 1) (xs ys : Array Value) : ∀ (l m l' m' : List Value) (n s : Nat) (b : Bool),
    LR ρ l l' → LR ρ m m' → xs.toList.drop s = l' → ys.toList.drop s = m' → l.length = n → m.length = n → eqInts l m = some b →
    (Op.eqItems (d + 1) e 1 xs ys (List.range' s n)).run P w = .ok b w := by
  intro l
  induction l with
  | nil =>
    intro m l' m' n s b hl hm dx dy ln mn h
    subst ln
    have : m = [] := List.length_eq_zero_iff.1 mn
    subst this
    simp [eqInts] at h; subst h
    simp [Op.eqItems]
  | cons x l ih =>
    intro m l' m' n s b hl hm dx dy ln mn h
    cases m with
    | nil => simp at mn ln; omega
    | cons y m =>
      obtain ⟨x', l2, rfl, hx, hl2⟩ := hl.cons_inv
      obtain ⟨y', m2, rfl, hy, hm2⟩ := hm.cons_inv
      obtain ⟨n, rfl⟩ : ∃ k, n = k + 1 := ⟨n - 1, by simp at ln; omega⟩
      have gx : xs[s]? = some x' := by
        have := congrArg (·[0]?) dx
        simpa using this
      have gy : ys[s]? = some y' := by
        have := congrArg (·[0]?) dy
        simpa using this
      have dx2 : xs.toList.drop (s + 1) = l2 := by
        have := congrArg List.tail dx
        simpa using this
      have dy2 : ys.toList.drop (s + 1) = m2 := by
        have := congrArg List.tail dy
        simpa using this
      unfold eqInts at h
      split at h
      · rename_i heq; cases heq
      · rename_i k a l0 k' b' m0 e1 e2
        cases e1; cases e2
        rw [hx.int_inv] at gx
        rw [hy.int_inv] at gy
        split at h
        · rename_i hk; subst hk
          have hag : ∀ (v : Array Value) (z : Value), v[s]? = some z → (part e v (s * 1)).run P w = .ok z w := by
            intro v z hz
            have hz' : v[s * 1]? = some z := by simpa using hz
            simp [part, isAgg, run_underlying he, aggD, hz]
          simp only [List.range'_succ, Op.eqItems, Sem.run_bind, hag _ _ gx, hag _ _ gy, Result.andThen_ok, run_equalIn_int w d e k k0 a b' he]
          cases hab : (a == b') with
          | true =>
            rw [hab] at h
            simp only [cond_true] at h
            simp only [Bool.not_true, Bool.false_eq_true, if_false]
            exact ih m l2 m2 n (s + 1) b hl2 hm2 dx2 dy2 (by simpa using ln) (by simpa using mn) h
          | false =>
            rw [hab] at h
            simp only [cond_false, Option.some.injEq] at h
            subst h
            simp
        · cases h
      · cases h

theorem eqFs_sound (d : Nat) {xs ys : Array Value} {a b : List Value} (ha : LR ρ a xs.toList) (hb : LR ρ b ys.toList) : ∀ (fs : List Field) (r : Bool), eqFs P a b fs = some r → (Op.eqFields (d + 1) xs ys fs).run P w = .ok r w
  | [], r, h => by simp [eqFs] at h; subst h; simp [Op.eqFields]
  | f :: fs, r, h => by
    unfold eqFs at h
    unfold Op.eqFields
    split at h
    · rename_i hn
      rw [if_pos hn]
      split at h
      · rename_i n0 x y hs gx gy
        obtain ⟨x', gx', hx⟩ := ha.get gx
        obtain ⟨y', gy', hy⟩ := hb.get gy
        obtain ⟨dd, i, hd, hi, hg, _⟩ := shp_inv hs
        simp only [Option.bind_eq_some_iff] at h
        obtain ⟨r1, hr1, h⟩ := h
        have hp : ∀ (v : Array Value) (z : Value), v.toList[f.offset]? = some z → (part f.type v f.offset).run P w = .ok z w := by
          intro v z hz
          have hz' : v[f.offset]? = some z := by simpa using hz
          simp [part, run_isAgg hd, hg, hz']
        simp only [Sem.run_bind, hp _ _ gx', hp _ _ gy', Result.andThen_ok, aEqB_sound (w := w) d hx hy hr1]
        cases r1 with
        | true => simp only [cond_true] at h; simp only [Bool.not_true, Bool.false_eq_true, if_false]; exact eqFs_sound d ha hb fs r h
        | false => simp only [cond_false, Option.some.injEq] at h; subst h; simp
      · cases h
    · rename_i hn
      rw [if_neg hn]
      exact eqFs_sound d ha hb fs r h

theorem aEqAgg_sound {t : TypeId} {x y x' y' : Value} {b : Bool} (hx : VR ρ x x') (hy : VR ρ y y') (h : aEqAgg P t x y = some b) :
    ∃ xs ys, x' = .agg xs ∧ y' = .agg ys ∧ P.eqGuardType P.depth t = false ∧ (Op.equalIn 10000 t (.agg xs) (.agg ys)).run P w = .ok b w := by
  unfold aEqAgg at h
  split at h
  · rename_i n e a b' ht
    obtain ⟨xs, rfl, hxs⟩ := hx.agg_inv'
    obtain ⟨ys, rfl, hys⟩ := hy.agg_inv'
    split at h
    · rename_i k i he hi
      cases hc : (Nat.beq i.size 1 && Nat.beq a.toList.length n && Nat.beq b'.toList.length n && !P.eqGuardType P.depth t) with
      | false => rw [hc] at h; cases h
      | true =>
        rw [hc] at h
        simp only [cond_true] at h
        simp only [Bool.and_eq_true, Bool.not_eq_true'] at hc
        obtain ⟨⟨⟨c1, c2⟩, c3⟩, c4⟩ := hc
        have c1 := Nat.eq_of_beq_eq_true c1
        refine ⟨xs, ys, rfl, rfl, c4, ?_⟩
        have hcells : P.cellsOf e = 1 := by simp [Program.cellsOf, hi, c1]
        rw [show 10000 = 9999 + 1 from rfl, run_equalIn_array w 9999 xs ys ht hi, hcells, List.range_eq_range']
        exact eqInts_sound 9998 he hi c1 xs ys a.toList b'.toList xs.toList ys.toList n 0 b hxs hys rfl rfl (Nat.eq_of_beq_eq_true c2) (Nat.eq_of_beq_eq_true c3) h
    · cases h
  · rename_i fs a b' ht
    obtain ⟨xs, rfl, hxs⟩ := hx.agg_inv'
    obtain ⟨ys, rfl, hys⟩ := hy.agg_inv'
    cases hc : (P.stoodInHeld t || P.eqGuardType P.depth t) with
    | true => rw [hc] at h; cases h
    | false =>
      rw [hc] at h
      simp only [cond_false] at h
      rw [Bool.or_eq_false_iff] at hc
      have hfs : P.fieldsOf t = fs := by simp [Program.fieldsOf, ht]
      refine ⟨xs, ys, rfl, rfl, hc.2, ?_⟩
      rw [show 10000 = 9999 + 1 from rfl, run_equalIn_struct w 9999 t xs ys (by rw [hfs]; exact ht) hc.1, hfs]
      exact eqFs_sound 9998 hxs hys fs.toList b h
  · cases h

theorem aBinP_sound {op : BinOp} {t : TypeId} {x y x' y' v : Value} (o1 o2 : Operand) (hx : VR ρ x x') (hy : VR ρ y y') (h : aBinP P t op x y = some v) :
    (do eqGuard op t o1 o2 x' y'; binOp op t x' y' : Sem Value).run P w = .ok v w ∧ VR ρ v v := by
  unfold aBinP at h
  split at h
  · rename_i v0 hv0
    cases h
    exact aBin_sound o1 o2 hx hy hv0
  · split at h
    · simp only [Option.map_eq_some_iff] at h
      obtain ⟨b, hb, rfl⟩ := h
      obtain ⟨xs, ys, rfl, rfl, h1, h2⟩ := aEqAgg_sound (w := w) hx hy hb
      refine ⟨?_, .bool _⟩
      simp only [Sem.run_bind, run_eqGuard_agg w .eql t o1 o2 xs ys h1, Result.andThen_ok, run_eql_struct, h2]
    · simp only [Option.map_eq_some_iff] at h
      obtain ⟨b, hb, rfl⟩ := h
      obtain ⟨xs, ys, rfl, rfl, h1, h2⟩ := aEqAgg_sound (w := w) hx hy hb
      refine ⟨?_, .bool _⟩
      simp only [Sem.run_bind, run_eqGuard_agg w .neq t o1 o2 xs ys h1, Result.andThen_ok, run_neq_struct, h2]
    · cases h
end
end Go.Ax
namespace Go.Ax
open Go.RowKit

def aConv (P : Program) (s d : TypeId) (x : Value) (σ : AHeap) : Option Value :=
  match P.underlying s, P.underlying d, x with
  | some _, some (.int k), .int _ n => some (.int k (k.wrap n))
  | some .string, some .string, .string b => some (.string b)
  | some (.slice e), some .string, x => match P.underlying e with
    | some (.int .u8) => aBytesStr x σ
    | _ => none
  | some (.slice _), some (.slice e), .slice (some a) l c => cond (Nat.beq s d && a.spot.isNone) (match P.underlying e, σ.get a.block with
    | some (.int .u8), some (.cells _ _ _) => some (.slice (some a) l c)
    | _, _ => none) none
  | _, _, _ => none

def aIface (P : Program) (t : TypeId) (x : Value) : Option Value :=
  match P.underlying t with
  | some (.interface _) | none => none
  | some _ => cond (live x) (some (.iface t x)) none

/-- A part of an aggregate. -/
def aPart (P : Program) (t : TypeId) (c : List Value) (off : Nat) : Option Value :=
  match shp P t with
  | some (true, n) => cond (Nat.ble (off + n) c.length) (some (.agg ((c.drop off).take n).toArray)) none
  | some (false, _) => c[off]?
  | none => none

def aField (P : Program) (t : TypeId) (f : Nat) (x : Value) : Option Value :=
  match P.underlying t, x with
  | some (.struct fs), .agg c => match fs[f]? with
    | some fd => aPart P fd.type c.toList fd.offset
    | none => none
  | _, _ => none

def aIndex (P : Program) (t : TypeId) (x i : Value) : Option Value :=
  match P.underlying t, x, i with
  | some (.array n e), .agg c, .int _ i => match P.info? e with
    | some j => if 0 ≤ i ∧ i < n then aPart P e c.toList (i.toNat * j.size) else none
    | none => none
  | some .string, .string s, .int _ i => if 0 ≤ i then match s[i.toNat]? with
      | some b => some (.int .u8 b.toNat)
      | none => none
    else none
  | _, _, _ => none

def aMin2 (x y : Value) : Option Value :=
  match x, y with
  | .int k a, .int _ b => some (.int k (if b < a then b else a))
  | _, _ => none
def aMax2 (x y : Value) : Option Value :=
  match x, y with
  | .int k a, .int _ b => some (.int k (if b > a then b else a))
  | _, _ => none

def aLen (d : Option TypeDesc) (x : Value) : Option Value :=
  match d, x with
  | some (.slice _), .slice _ n _ => some (.int .i64 n)
  | some .string, .string s => some (.int .i64 s.size)
  | _, _ => none

def aLenM (P : Program) (t : TypeId) (x : Value) (σ : AHeap) : Option Value :=
  match aLen (P.underlying t) x with
  | some v => some v
  | none => match P.underlying t with
    | some (.map _ _) => (aEntries x σ).map fun es => .int .i64 es.length
    | _ => none

def aBuiltin (P : Program) (b : Builtin) (ts : List TypeId) (args : List Value) (σ : AHeap) : Option (Value × AHeap) :=
  match b, ts, args with
  | .append, [t, u], [s, x] => match elemOf? P t with
    | some (e, z, by') => match zeroOf P e with
      | some zv => cond (notInt P u) (aAppend e z by' s x σ) (cond (isInt P u) (aAppendZ e z by' zv.cells.toList s x σ) none)
      | none => none
    | none => none
  | .copy, [t, _], [d, x] => match elemOf? P t with
    | some (_, z, _) => aCopy z d x σ
    | none => none
  | .len, [t], [x] => (aLenM P t x σ).bind fun v => some (v, σ)
  | .delete, [t, _], [m, k] => (aDelete P t m k σ).bind fun σ' => some (.tuple #[], σ')
  | .min, _, [x, y] => (aMin2 x y).bind fun v => some (v, σ)
  | .max, _, [x, y] => (aMax2 x y).bind fun v => some (v, σ)
  | _, _, _ => none

def aop (P : Program) (ev : Operand → Value) (o : Oper) (σ : AHeap) : Option (Value × AHeap) :=
  match o.op with
  | .move x | .assign x => some (ev x, σ)
  | .pick c a b => (asB (ev c)).bind fun t => some (cond t (ev a) (ev b), σ)
  | .alloc e => (zeroOf P e).bind fun z => some (aNew e z.cells.toList σ)
  | .box e x => aBox e (ev x) σ
  | .build t ps => (aBuild P t (ps.toList.map fun p => (p.1, ev p.2))).bind fun v => some (v, σ)
  | .buildSlice t n ps => cond (Nat.beq n 0 && !ps.toList.isEmpty) none (aBuildSlice P t n (ps.toList.map fun p => (p.1, ev p.2)) σ)
  | .load t a => (shp P t).bind fun g => (aLoad g.1 g.2 (ev a) σ).bind fun v => some (v, σ)
  | .store t a x => (shp P t).bind fun g => (aStore g.2 (ev a) (ev x) σ).bind fun σ' => some (undef, σ')
  | .nilCheck x => (aNil (ev x)).bind fun v => some (v, σ)
  | .binOp op t x y _ => (aBinP P t op (ev x) (ev y)).bind fun v => some (v, σ)
  | .unOp op _ x => (aUn op (ev x)).bind fun v => some (v, σ)
  | .convert s d x => (aConv P s d (ev x) σ).bind fun v => some (v, σ)
  | .makeInterface t x => (aIface P t (ev x)).bind fun v => some (v, σ)
  | .makeFunc fn f c => some (.func fn (f.toList.map ev).toArray (c.toList.map ev).toArray, σ)
  | .makeSlice t l c => match elemOf? P t with
    | some (e, _, by') => match zeroOf P e with
      | some z => aMake e by' z.cells.toList (ev l) (ev c) σ
      | none => none
    | none => none
  | .slice t x lo hi mx => (aSliceOp P t (ev x) (lo.map ev) (hi.map ev) (mx.map ev)).bind fun v => some (v, σ)
  | .fieldAddr t x f => (fieldOff P t f).bind fun off => (aFieldAddr off (ev x)).bind fun v => some (v, σ)
  | .field t x f => (aField P t f (ev x)).bind fun v => some (v, σ)
  | .indexAddr t x i => (aIndexAddrOp P t (ev x) (ev i)).bind fun v => some (v, σ)
  | .index t x i => (aIndex P t (ev x) (ev i)).bind fun v => some (v, σ)
  | .extract x i => (aExtract (ev x) i).bind fun v => some (v, σ)
  | .makeMap t r => aMakeMap P t (r.map ev) σ
  | .lookup t x i ok => (aLookup P t (ev x) (ev i) ok σ).bind fun v => some (v, σ)
  | .mapUpdate t m k x => (aMapUpdate P t (ev m) (ev k) (ev x) σ).bind fun σ' => some (undef, σ')
  | .range t x => aRange P t (ev x) σ
  | .next it str => cond str (aNextStr (ev it) σ) none
  | .entry it => (aEntry (ev it) σ).bind fun v => some (v, σ)
  | .typeAssert x _ t ok => (aAssert P t ok (ev x)).bind fun v => some (v, σ)
  | .call c => match c.callee with
    | .builtin b => aBuiltin P b c.argTypes.toList (c.args.toList.map ev) σ
    | _ => none
  | _ => none

section
variable {P : Program} {B : Nat} {w0 : World} {ρ : List RB} {σ : AHeap} {w : World}

theorem aNil_sound {x x' v : Value} {ev : Operand → Value} (hx : VR ρ x x') (h : aNil x = some v) (o : Oper) (a : Operand) (ho : o.op = .nilCheck a) (ha : ev a = x') :
    ∃ v', (execOp ev o).run P w = .ok (.value v') w ∧ VR ρ v v' := by
  subst ha
  unfold aNil at h
  split at h
  · cases h
    obtain ⟨a', he, ha⟩ := hx.ptr_inv
    refine ⟨.pointer (some a'), ?_, ha.ptr⟩
    simp [execOp, ho, he]
  · cases h
    generalize hv : ev a = u at hx
    cases hx with
    | func fn f f' c c' h1 h2 h3 h4 => exact ⟨_, by simp [execOp, ho, hv], .func _ _ _ _ _ h1 h2 h3 h4⟩
  · cases h
    generalize hv : ev a = u at hx
    obtain ⟨a', c', rfl, _⟩ := hx.slice_inv
    exact ⟨_, by simp [execOp, ho, hv], hx⟩
  · cases h
    generalize hv : ev a = u at hx
    cases hx with
    | iface t v v' h1 h2 => exact ⟨_, by simp [execOp, ho, hv], .iface _ _ _ h1 h2⟩
  · cases h
    generalize hv : ev a = u at hx
    obtain ⟨m', rfl, _⟩ := hx.mapO_inv
    exact ⟨_, by simp [execOp, ho, hv], hx⟩
  · cases h

theorem Rel.same {σ' : AHeap} (h : Rel B w0 ρ σ' w) (hg : ∀ j, σ'.get j = σ.get j) (hs : σ'.size = σ.size) : Rel B w0 ρ σ w :=
  ⟨by rw [h.len, hs], fun i o hi => h.obj i o (by rw [hg]; exact hi), fun i j oi oj ri rj hi hj => h.inj i j oi oj ri rj (by rw [hg]; exact hi) (by rw [hg]; exact hj), h.below, h.base⟩

theorem Rel.marked (h : Rel B w0 ρ σ w) {b : Nat} {c : List Value} {e : TypeId} {opn : Bool} {r : RB} (hg : σ.get b = some (.cells c e opn)) (hr : ρ[b]? = some r) (o : Nat) :
    ∃ w', (markStringish ⟨r.b, o, none⟩).run P w = .ok () w' ∧ Rel B w0 ρ σ w' := by
  obtain ⟨r0, a, ⟨c', fz, y1, y2, y3, y4, y5, y6⟩, _⟩ := h.obj b _ hg
  rw [hr] at a; cases a
  have hsh : w.shape? r.b = some (e, c'.size) := by simp [World.shape?, y1]
  have hrun : (markStringish ⟨r.b, o, none⟩).run P w = .ok () (w.freeze { block := r.b, off := c'.size } 1) := by
    simp [markStringish, hsh]
  have hlt : r.b < w.heap.size := by
    rcases Nat.lt_or_ge r.b w.heap.size with k | k
    · exact k
    · rw [Array.getElem?_eq_none k] at y1; cases y1
  refine ⟨_, hrun, ?_⟩
  obtain ⟨lo, hi⟩ := fz
  have hat : (w.freeze { block := r.b, off := c'.size } 1).heap[r.b]? = some (.cells c' e (if lo == hi then (c'.size, c'.size + 1) else (min lo c'.size, max hi (c'.size + 1)))) := by
    unfold World.freeze
    rw [if_neg (by decide)]
    simp [Array.getElem?_modify, y1]
  have hoth : ∀ k, k ≠ r.b → (w.freeze { block := r.b, off := c'.size } 1).heap[k]? = w.heap[k]? := by
    intro k hk
    unfold World.freeze
    rw [if_neg (by decide)]
    simp [Array.getElem?_modify, Ne.symm hk]
  have hsz : (w.freeze { block := r.b, off := c'.size } 1).heap.size = w.heap.size := by
    unfold World.freeze
    rw [if_neg (by decide)]
    simp
  have hfz : FzOk (if lo == hi then (c'.size, c'.size + 1) else (min lo c'.size, max hi (c'.size + 1))) c'.size := by
    refine ⟨.inr ?_⟩
    by_cases e : lo = hi
    · simp [e]
    · rcases y2.or with h1 | h1
      · exact absurd h1 e
      · simp only at h1
        simp [e]; omega
  have hu := h.update (o' := .cells c e opn) hg rfl rfl hr ⟨c', _, hat, hfz, y3, y4, y5, y6⟩ hoth (by unfold World.freeze; rw [if_neg (by decide)]) (by unfold World.freeze; rw [if_neg (by decide)]) (by unfold World.freeze; rw [if_neg (by decide)]) hsz
  refine hu.same (fun j => ?_) rfl
  rw [AHeap.get_set]
  split
  · rename_i e; subst e; exact hg.symm
  · rfl

theorem aConv_sound (h : Rel B w0 ρ σ w) {s d : TypeId} {x x' v : Value} (hx : VR ρ x x') (hv : aConv P s d x σ = some v) : ∃ v' w', (convert s d x').run P w = .ok v' w' ∧ Rel B w0 ρ σ w' ∧ VR ρ v v' := by
  unfold aConv at hv
  split at hv
  · rename_i d0 k k' n hs hd
    cases hv; rw [hx.int_inv]
    refine ⟨_, w, ?_, h, .int _ _⟩
    cases d0 <;> simp [convert, run_underlying hs, run_underlying hd, Conv.intToInt] <;> rfl
  · rename_i b hs hd
    cases hv; rw [hx.string_inv]
    exact ⟨_, w, by simp [convert, run_underlying hs, run_underlying hd], h, .string _⟩
  · rename_i e hs hd
    split at hv
    · rename_i he
      obtain ⟨h1, h2⟩ := aBytesStr_sound (P := P) h hx hv
      refine ⟨v, w, ?_, h, h2⟩
      have hsl : ∃ a l c, x' = .slice a l c := by
        unfold aBytesStr at hv
        split at hv
        · obtain ⟨a', c', rfl, _⟩ := hx.slice_ar; exact ⟨_, _, _, rfl⟩
        · obtain ⟨a', c', rfl, _⟩ := hx.slice_ar; exact ⟨_, _, _, rfl⟩
        · cases hv
      obtain ⟨a, l, c, rfl⟩ := hsl
      simp [convert, run_underlying hs, run_underlying hd, run_underlying he, h1]
    · cases hv
  · rename_i e0 e a l c hs hd
    cases hsd : (Nat.beq s d && a.spot.isNone) with
    | false => rw [hsd] at hv; cases hv
    | true =>
      rw [hsd] at hv
      rw [Bool.and_eq_true] at hsd
      have hsd' := Nat.eq_of_beq_eq_true hsd.1
      subst hsd'
      have hzb := hsd.2
      simp only [cond_true] at hv
      split at hv
      · rename_i c0 e1 opn he hg
        cases hv
        cases hx with
        | slice b o l c c' r hr hc =>
          obtain ⟨w', e1, e2⟩ := h.marked (P := P) hg hr (r.s + o)
          refine ⟨_, w', ?_, e2, .slice b o l c c' r hr hc⟩
          obtain rfl : e0 = e := by rw [hs] at hd; cases hd; rfl
          simp [convert, run_underlying hs, run_underlying he, Functor.map]
          show Sem.run P (markStringish { block := r.b, off := r.s + o } >>= fun _ => pure (Value.slice (some { block := r.b, off := r.s + o }) l c')) w = _
          simp [e1]
        | zany a c' h0 => simp at hzb
        | zslice o a => simp at hzb
      · cases hv
  · cases hv

theorem aIface_sound {t : TypeId} {x x' v : Value} (hx : VR ρ x x') (hv : aIface P t x = some v) : ∃ v', (Instr.makeInterface t x').run P w = .ok v' w ∧ VR ρ v v' := by
  unfold aIface at hv
  split at hv
  · cases hv
  · cases hv
  · rename_i d hn hd
    cases hl : live x with
    | false => rw [hl] at hv; cases hv
    | true =>
      rw [hl] at hv; cases hv
      refine ⟨.iface t x', ?_, .iface _ _ _ (fun e => by subst e; simp [live, undef] at hl) hx⟩
      cases d <;> first | exact absurd rfl (hn _) | simp [Instr.makeInterface, run_underlying hd]

theorem aPart_sound {t : TypeId} {c c' : Array Value} {off : Nat} {v : Value} (hc : LR ρ c.toList c'.toList) (hv : aPart P t c.toList off = some v) :
    ∃ v', (part t c' off).run P w = .ok v' w ∧ VR ρ v v' := by
  unfold aPart at hv
  split at hv
  · rename_i n hs
    obtain ⟨d, i, hd, hi, hg, rfl⟩ := shp_inv hs
    cases hb : Nat.ble (off + i.size) c.toList.length with
    | false => rw [hb] at hv; cases hv
    | true =>
      rw [hb] at hv; cases hv
      refine ⟨.agg (c'.extract off (off + i.size)), ?_, VR.agg' ?_⟩
      · simp [part, run_isAgg hd, hg, run_sizeOf hi]
      · have := (hc.drop off).take i.size
        simp only [List.toList_toArray, Array.toList_extract, List.extract_eq_take_drop]
        rw [show off + i.size - off = i.size by omega]
        exact this
  · rename_i n hs
    obtain ⟨d, i, hd, hi, hg, rfl⟩ := shp_inv hs
    obtain ⟨v', h1, h2⟩ := hc.get hv
    refine ⟨v', ?_, h2⟩
    have h1' : c'[off]? = some v' := by simpa using h1
    simp [part, run_isAgg hd, hg, h1']
  · cases hv

theorem VR.agg_inv {c : Array Value} {v' : Value} (h : VR ρ (.agg c) v') : ∃ c', v' = .agg c' ∧ LR ρ c.toList c'.toList := by
  cases h with
  | agg c c' a b => exact ⟨c', rfl, LR.of_arr a b⟩

theorem aField_sound {t : TypeId} {f : Nat} {x x' v : Value} (hx : VR ρ x x') (hv : aField P t f x = some v) : ∃ v', (Instr.field t x' f).run P w = .ok v' w ∧ VR ρ v v' := by
  unfold aField at hv
  split at hv
  · rename_i fs c ht
    split at hv
    · rename_i fd hfd
      obtain ⟨c', rfl, hc⟩ := hx.agg_inv
      obtain ⟨v', h1, h2⟩ := aPart_sound (w := w) hc hv
      exact ⟨v', by simp [Instr.field, run_underlying ht, hfd, asAgg, h1], h2⟩
    · cases hv
  · cases hv

theorem aIndex_sound {t : TypeId} {x x' i i' v : Value} (hx : VR ρ x x') (hi : VR ρ i i') (hv : aIndex P t x i = some v) : ∃ v', (Instr.index t x' i').run P w = .ok v' w ∧ VR ρ v v' := by
  unfold aIndex at hv
  split at hv
  · rename_i n e c k m ht
    split at hv
    · rename_i j hj
      split at hv
      · rename_i hb
        obtain ⟨c', rfl, hc⟩ := hx.agg_inv
        rw [hi.int_inv]
        obtain ⟨v', h1, h2⟩ := aPart_sound (w := w) hc hv
        exact ⟨v', by simp [Instr.index, asIntOf, run_underlying ht, hb, run_sizeOf hj, h1], h2⟩
      · cases hv
    · cases hv
  · rename_i s k m ht
    split at hv
    · rename_i hb
      split at hv
      · rename_i b hb2; cases hv
        rw [hx.string_inv, hi.int_inv]
        exact ⟨_, by simp [Instr.index, asIntOf, run_underlying ht, hb, hb2], .int _ _⟩
      · cases hv
    · cases hv
  · cases hv

theorem aExtract_sound {x x' v : Value} {i : Nat} (hx : VR ρ x x') (hv : aExtract x i = some v) : ∃ v', (Instr.extract x' i).run P w = .ok v' w ∧ VR ρ v v' := by
  unfold aExtract at hv
  split at hv
  · rename_i vs
    split at hv
    · cases hv
    · rename_i hne
      cases hx with
      | dead => simp at hv
      | skp => exact absurd rfl hne
      | tuple c c' a b =>
        obtain ⟨v', h1, h2⟩ := (LR.of_arr a b).get hv
        have h1' : c'[i]? = some v' := by simpa using h1
        exact ⟨v', by simp [Instr.extract, h1'], h2⟩
  · cases hv

theorem aLen_sound {t ty : TypeId} {x x' v : Value} (hx : VR ρ x x') (hv : aLen (P.underlying t) x = some v) : (Builtin.len_ #[t] ty #[x']).run P w = .ok v w ∧ VR ρ v v := by
  unfold aLen at hv
  split at hv
  · rename_i e a n c ht
    cases hv
    obtain ⟨a', c', rfl, _⟩ := hx.slice_ar
    exact ⟨by simp [Builtin.len_, run_underlying ht, goInt], .int _ _⟩
  · rename_i s ht
    cases hv
    rw [hx.string_inv]
    exact ⟨by simp [Builtin.len_, run_underlying ht, goInt], .int _ _⟩
  · cases hv

theorem aLenM_sound (h : Rel B w0 ρ σ w) {t ty : TypeId} {x x' v : Value} (hx : VR ρ x x') (hv : aLenM P t x σ = some v) : (Builtin.len_ #[t] ty #[x']).run P w = .ok v w ∧ VR ρ v v := by
  unfold aLenM at hv
  split at hv
  · rename_i v0 hv0
    cases hv
    exact aLen_sound hx hv0
  · split at hv
    · rename_i k e ht
      simp only [Option.map_eq_some_iff] at hv
      obtain ⟨es, he, rfl⟩ := hv
      obtain ⟨es', hes, hor⟩ := aEntries_sound h hx he
      refine ⟨?_, .int _ _⟩
      have hl : (es'.size : Int) = es.length := by have := hes.1; simp at this; omega
      rcases hor with ⟨rfl, rfl⟩ | ⟨b, clock, rfl, hb⟩
      · simp [Builtin.len_, run_underlying ht, goInt] at hl ⊢; omega
      · have hgo := run_getObj (P := P) hb (fun c e fz => by simp)
        simp [Builtin.len_, run_underlying ht, goInt, hgo, hl]
    · cases hv

theorem aMin2_sound {t ty : TypeId} {ts : Array TypeId} {x x' y y' v : Value} (hx : VR ρ x x') (hy : VR ρ y y') (hv : aMin2 x y = some v) : (Builtin.min_ ts ty #[x', y']).run P w = .ok v w ∧ VR ρ v v := by
  unfold aMin2 at hv
  split at hv
  · cases hv; rw [hx.int_inv, hy.int_inv]
    exact ⟨by simp [Builtin.min_, Builtin.min2], .int _ _⟩
  · cases hv

theorem aMax2_sound {t ty : TypeId} {ts : Array TypeId} {x x' y y' v : Value} (hx : VR ρ x x') (hy : VR ρ y y') (hv : aMax2 x y = some v) : (Builtin.max_ ts ty #[x', y']).run P w = .ok v w ∧ VR ρ v v := by
  unfold aMax2 at hv
  split at hv
  · cases hv; rw [hx.int_inv, hy.int_inv]
    exact ⟨by simp [Builtin.max_, Builtin.max2], .int _ _⟩
  · cases hv

/-- What is asked of an operation: it comes to a value that stands for the abstract one. -/
def Met (P : Program) (B : Nat) (w0 : World) (ρ : List RB) (w : World) (s : Sem Next) (y : Value × AHeap) : Prop :=
  ∃ n w' ρ' v', s.run P w = .ok n w' ∧ (n = .value v' ∨ (n = .skip ∧ v' = undef)) ∧ Ext ρ ρ' ∧ Rel B w0 ρ' y.2 w' ∧ VR ρ' y.1 v'

theorem Met.quiet {s : Sem Next} {v v' : Value} (h : Rel B w0 ρ σ w) (hr : s.run P w = .ok (.value v') w) (hv : VR ρ v v') : Met P B w0 ρ w s (v, σ) :=
  ⟨_, w, ρ, v', hr, .inl rfl, Ext.refl _, h, hv⟩

theorem VR_map {l : List Operand} {ev ev' : Operand → Value} (hev : ∀ x, VR ρ (ev x) (ev' x)) : LR ρ (l.map ev) (l.map ev') := by
  refine ⟨by simp, fun i v v' a b => ?_⟩
  simp only [List.getElem?_map, Option.map_eq_some_iff] at a b
  obtain ⟨x, hx, rfl⟩ := a
  obtain ⟨y, hy, rfl⟩ := b
  rw [hx] at hy; cases hy
  exact hev x

theorem VO_map {x : Option Operand} {ev ev' : Operand → Value} (hev : ∀ x, VR ρ (ev x) (ev' x)) : VO ρ (x.map ev) (x.map ev') := by
  cases x with
  | none => exact .none
  | some x => exact .some _ _ (hev x)

theorem PR_map {l : List (Nat × Operand)} {ev ev' : Operand → Value} (hev : ∀ x, VR ρ (ev x) (ev' x)) : PR ρ (l.map fun p => (p.1, ev p.2)) (l.map fun p => (p.1, ev' p.2)) := by
  refine ⟨by simp, fun i p p' a b => ?_⟩
  simp only [List.getElem?_map, Option.map_eq_some_iff] at a b
  obtain ⟨x, hx, rfl⟩ := a
  obtain ⟨y, hy, rfl⟩ := b
  rw [hx] at hy; cases hy
  exact ⟨rfl, hev _⟩

theorem aBuiltin_sound (h : Rel B w0 ρ σ w) {b : Builtin} {ts : Array TypeId} {ty : TypeId} {cs : Array Bool} {args args' : List Value} {y : Value × AHeap} (ha : LR ρ args args') (hy : aBuiltin P b ts.toList args σ = some y) :
    Met P B w0 ρ w (builtin b ts ty cs args'.toArray) y := by
  obtain ⟨ts⟩ := ts
  unfold aBuiltin at hy
  split at hy
  · rename_i t u s x hts
    simp only at hts; subst hts
    obtain ⟨s', l1, rfl, h1, ha⟩ := ha.cons_inv
    obtain ⟨x', l2, rfl, h2, ha⟩ := ha.cons_inv
    rw [ha.nil_inv]
    split at hy
    · rename_i e z by' he
      split at hy
      · rename_i zv hz
        cases hu : notInt P u with
        | false =>
          rw [hu] at hy
          simp only [cond_false] at hy
          cases hu2 : isInt P u with
          | false => rw [hu2] at hy; cases hy
          | true =>
            rw [hu2] at hy
            simp only [cond_true] at hy
            obtain ⟨v', w', ρ', e1, e2, e3, e4⟩ := aAppendZ_sound (ty := ty) h he hz hu2 h1 h2 hy
            exact ⟨_, w', ρ', v', by simp [builtin, e1], .inl rfl, e2, e3, e4⟩
        | true =>
          rw [hu] at hy
          simp only [cond_true] at hy
          obtain ⟨v', w', ρ', e1, e2, e3, e4⟩ := aAppend_sound (ty := ty) h he hz hu h1 h2 hy
          exact ⟨_, w', ρ', v', by simp [builtin, e1], .inl rfl, e2, e3, e4⟩
      · cases hy
    · cases hy
  · rename_i t u d x hts
    simp only at hts; subst hts
    obtain ⟨s', l1, rfl, h1, ha⟩ := ha.cons_inv
    obtain ⟨x', l2, rfl, h2, ha⟩ := ha.cons_inv
    rw [ha.nil_inv]
    split at hy
    · rename_i e z by' he
      obtain ⟨v', w', e1, e2, e3⟩ := aCopy_sound (u := u) (ty := ty) h he h1 h2 hy
      exact ⟨_, w', ρ, v', by simp [builtin, e1], .inl rfl, Ext.refl _, e2, e3⟩
    · cases hy
  · rename_i t x hts
    simp only at hts; subst hts
    obtain ⟨x', l1, rfl, h1, ha⟩ := ha.cons_inv
    rw [ha.nil_inv]
    simp only [Option.bind_eq_some_iff] at hy
    obtain ⟨v, hv, hy'⟩ := hy
    cases hy'
    obtain ⟨e1, e2⟩ := aLenM_sound (ty := ty) h h1 hv
    exact .quiet h (by simp [builtin, e1]) e2
  · rename_i t u m k hts
    simp only at hts; subst hts
    obtain ⟨m', l1, rfl, h1, ha⟩ := ha.cons_inv
    obtain ⟨k', l2, rfl, h2, ha⟩ := ha.cons_inv
    rw [ha.nil_inv]
    simp only [Option.bind_eq_some_iff] at hy
    obtain ⟨σ', hs, hy'⟩ := hy
    cases hy'
    obtain ⟨w', e1, e2⟩ := aDelete_sound (u := u) (ty := ty) h h1 h2 hs
    exact ⟨_, w', ρ, .tuple #[], by simp [builtin, e1], .inl rfl, Ext.refl _, e2, VR.tuple' (LR.nil _)⟩
  · rename_i x z hts
    obtain ⟨x', l1, rfl, h1, ha⟩ := ha.cons_inv
    obtain ⟨z', l2, rfl, h2, ha⟩ := ha.cons_inv
    rw [ha.nil_inv]
    simp only [Option.bind_eq_some_iff] at hy
    obtain ⟨v, hv, hy'⟩ := hy
    cases hy'
    obtain ⟨e1, e2⟩ := aMin2_sound (w := w) (P := P) (t := ty) (ty := ty) (ts := ⟨ts⟩) h1 h2 hv
    exact .quiet h (by simp [builtin, e1]) e2
  · rename_i x z hts
    obtain ⟨x', l1, rfl, h1, ha⟩ := ha.cons_inv
    obtain ⟨z', l2, rfl, h2, ha⟩ := ha.cons_inv
    rw [ha.nil_inv]
    simp only [Option.bind_eq_some_iff] at hy
    obtain ⟨v, hv, hy'⟩ := hy
    cases hy'
    obtain ⟨e1, e2⟩ := aMax2_sound (w := w) (P := P) (t := ty) (ty := ty) (ts := ⟨ts⟩) h1 h2 hv
    exact .quiet h (by simp [builtin, e1]) e2
  · cases hy

theorem VR.asB {x x' : Value} {b : Bool} (hx : VR ρ x x') (h : Ax.asB x = some b) : x' = .bool b := by
  unfold Ax.asB at h
  split at h
  · cases h; exact hx.bool_inv
  · cases h

theorem aop_sound (h : Rel B w0 ρ σ w) {o : Oper} {ev ev' : Operand → Value} {y : Value × AHeap} (hev : ∀ x, VR ρ (ev x) (ev' x)) (hy : aop P ev o σ = some y) :
    Met P B w0 ρ w (execOp ev' o) y := by
  obtain ⟨dst, op, type, pos, after, guard⟩ := o
  unfold aop at hy
  cases op <;> simp only [reduceCtorEq, Option.bind_eq_some_iff] at hy
  case move x => cases hy; exact .quiet h (by simp [execOp]) (hev x)
  case assign x => cases hy; exact .quiet h (by simp [execOp]) (hev x)
  case pick c a b =>
    obtain ⟨t, ht, hy⟩ := hy
    cases hy
    have := (hev c).asB ht
    refine .quiet h (v' := cond t (ev' a) (ev' b)) ?_ ?_
    · cases t <;> simp [execOp, this, asBool]
    · cases t <;> exact hev _
  case alloc e =>
    obtain ⟨z, hz, hy⟩ := hy
    cases hy
    obtain ⟨v', w', ρ', e1, e2, e3, e4⟩ := aAlloc_sound h hz true (.tuple #[]) rfl
    exact ⟨_, w', ρ', v', by simp [execOp, e1], .inl rfl, e2, e3, e4⟩
  case box e x =>
    obtain ⟨v', w', ρ', e1, e2, e3, e4⟩ := aBox_sound (P := P) h (hev x) hy
    exact ⟨_, w', ρ', v', by simp [execOp, e1], .inl rfl, e2, e3, e4⟩
  case build t ps =>
    obtain ⟨v, hv, hy⟩ := hy
    cases hy
    obtain ⟨v', e1, e2⟩ := aBuild_sound (w := w) (parts' := ps.map fun p => (p.1, ev' p.2)) (by simpa using PR_map (l := ps.toList) hev) hv
    exact .quiet h (by simp [execOp, e1]) e2
  case buildSlice t n ps =>
    cases hn : (Nat.beq n 0 && !ps.toList.isEmpty) with
    | true => rw [hn] at hy; cases hy
    | false =>
      rw [hn] at hy
      simp only [cond_false] at hy
      have hps : n = 0 → (ps.toList.map fun p => (p.1, ev p.2)) = [] := by
        intro e
        subst e
        cases hl : ps.toList with
        | nil => rfl
        | cons p l => rw [hl] at hn; simp at hn
      obtain ⟨v', w', ρ', e1, e2, e3, e4⟩ := aBuildSlice_sound (P := P) h (parts' := ps.map fun p => (p.1, ev' p.2)) (by simpa using PR_map (l := ps.toList) hev) hy hps
      exact ⟨_, w', ρ', v', by simp [execOp, e1], .inl rfl, e2, e3, e4⟩
  case load t a =>
    obtain ⟨⟨g, n⟩, hg, v, hv, hy⟩ := hy
    cases hy
    obtain ⟨v', e1, e2⟩ := aLoad_sound h hg (hev a) hv
    exact .quiet h (by simp [execOp, e1]) e2
  case store t a x =>
    obtain ⟨⟨g, n⟩, hg, σ', hs, hy⟩ := hy
    cases hy
    obtain ⟨w', e1, e2, _⟩ := aStore_sound h hg (hev a) (hev x) hs
    exact ⟨.skip, w', ρ, undef, by simp [execOp, e1], .inr ⟨rfl, rfl⟩, Ext.refl _, e2, .dead _⟩
  case nilCheck x =>
    obtain ⟨v, hv, hy⟩ := hy
    cases hy
    obtain ⟨v', e1, e2⟩ := aNil_sound (P := P) (w := w) (hev x) hv ⟨dst, .nilCheck x, type, pos, after, guard⟩ x rfl rfl
    exact .quiet h e1 e2
  case binOp op t x y' ty =>
    obtain ⟨v, hv, hy⟩ := hy
    cases hy
    obtain ⟨e1, e2⟩ := aBinP_sound (w := w) x y' (hev x) (hev y') hv
    refine .quiet h (v' := v) ?_ e2
    simp only [execOp]
    rw [Sem.run_bind, e1]
    rfl
  case unOp op t x =>
    obtain ⟨v, hv, hy⟩ := hy
    cases hy
    obtain ⟨e1, e2⟩ := aUn_sound (P := P) (w := w) (hev x) hv
    exact .quiet h (by simp [execOp, e1]) e2
  case convert s d x =>
    obtain ⟨v, hv, hy⟩ := hy
    cases hy
    obtain ⟨v', w', e1, e2, e3⟩ := aConv_sound h (hev x) hv
    exact ⟨_, w', ρ, v', by simp [execOp, e1], .inl rfl, Ext.refl _, e2, e3⟩
  case makeInterface t x =>
    obtain ⟨v, hv, hy⟩ := hy
    cases hy
    obtain ⟨v', e1, e2⟩ := aIface_sound (w := w) (hev x) hv
    exact .quiet h (by simp [execOp, e1]) e2
  case makeFunc fn f c =>
    cases hy
    refine .quiet h (v' := .func fn (f.map ev') (c.map ev')) (by simp [execOp, Instr.makeFunc]) ?_
    have hf := (VR_map (l := f.toList) hev)
    have hc := (VR_map (l := c.toList) hev)
    have hf' : LR ρ (f.toList.map ev).toArray.toList (f.map ev').toList := by simpa using hf
    have hc' : LR ρ (c.toList.map ev).toArray.toList (c.map ev').toList := by simpa using hc
    exact .func _ _ _ _ _ hf'.arr.1 hc'.arr.1 hf'.arr.2 hc'.arr.2
  case makeSlice t l c =>
    split at hy
    · rename_i e z by' he
      split at hy
      · rename_i zv hz
        obtain ⟨v', w', ρ', e1, e2, e3, e4⟩ := aMake_sound h he hz (hev l) (hev c) hy
        exact ⟨_, w', ρ', v', by simp [execOp, e1], .inl rfl, e2, e3, e4⟩
      · cases hy
    · cases hy
  case slice t x lo hi mx =>
    obtain ⟨v, hv, hy⟩ := hy
    cases hy
    obtain ⟨v', e1, e2⟩ := aSliceOp_sound (w := w) (hev x) (VO_map hev) (VO_map hev) (VO_map hev) hv
    exact .quiet h (by simp [execOp, e1]) e2
  case fieldAddr t x f =>
    obtain ⟨off, ho, v, hv, hy⟩ := hy
    cases hy
    obtain ⟨v', e1, e2⟩ := aFieldAddr_sound (w := w) ho (hev x) hv
    exact .quiet h (by simp [execOp, e1]) e2
  case field t x f =>
    obtain ⟨v, hv, hy⟩ := hy
    cases hy
    obtain ⟨v', e1, e2⟩ := aField_sound (w := w) (hev x) hv
    exact .quiet h (by simp [execOp, e1]) e2
  case indexAddr t x i =>
    obtain ⟨v, hv, hy⟩ := hy
    cases hy
    obtain ⟨v', e1, e2⟩ := aIndexAddrOp_sound (w := w) (hev x) (hev i) hv
    exact .quiet h (by simp [execOp, e1]) e2
  case index t x i =>
    obtain ⟨v, hv, hy⟩ := hy
    cases hy
    obtain ⟨v', e1, e2⟩ := aIndex_sound (w := w) (hev x) (hev i) hv
    exact .quiet h (by simp [execOp, e1]) e2
  case extract x i =>
    obtain ⟨v, hv, hy⟩ := hy
    cases hy
    obtain ⟨v', e1, e2⟩ := aExtract_sound (P := P) (w := w) (hev x) hv
    exact .quiet h (by simp [execOp, e1]) e2
  case makeMap t r =>
    obtain ⟨v', w', ρ', e1, e2, e3, e4⟩ := aMakeMap_sound (P := P) h (VO_map hev) hy
    exact ⟨_, w', ρ', v', by simp [execOp, e1], .inl rfl, e2, e3, e4⟩
  case lookup t x i ok =>
    obtain ⟨v, hv, hy⟩ := hy
    cases hy
    obtain ⟨v', e1, e2⟩ := aLookup_sound h (hev x) (hev i) hv
    exact .quiet h (by simp [execOp, e1]) e2
  case mapUpdate t m k x =>
    obtain ⟨σ', hs, hy⟩ := hy
    cases hy
    obtain ⟨w', e1, e2⟩ := aMapUpdate_sound h (hev m) (hev k) (hev x) hs
    exact ⟨.skip, w', ρ, undef, by simp [execOp, e1], .inr ⟨rfl, rfl⟩, Ext.refl _, e2, .dead _⟩
  case range t x =>
    obtain ⟨v', w', ρ', e1, e2, e3, e4⟩ := aRange_sound (P := P) h (hev x) hy
    exact ⟨_, w', ρ', v', by simp [execOp, e1], .inl rfl, e2, e3, e4⟩
  case next it str =>
    cases str with
    | false => cases hy
    | true =>
      obtain ⟨v', w', e1, e2, e3⟩ := aNextStr_sound (P := P) (t := type) h (hev it) hy
      exact ⟨_, w', ρ, v', by simp [execOp, e1], .inl rfl, Ext.refl _, e2, e3⟩
  case entry it =>
    obtain ⟨v, hv, hy⟩ := hy
    cases hy
    obtain ⟨v', e1, e2⟩ := aEntry_sound (P := P) h (hev it) hv
    exact .quiet h (by simp [execOp, e1]) e2
  case typeAssert x xt t ok =>
    obtain ⟨v, hv, hy⟩ := hy
    cases hy
    obtain ⟨v', e1, e2⟩ := aAssert_sound (P := P) (w := w) (xt := xt) (hev x) hv
    exact .quiet h (by simp [execOp, e1]) e2
  case call c =>
    split at hy
    · rename_i b hb
      have he : (c.args.toList.map ev').toArray = c.args.map ev' := by apply Array.ext'; simp
      have key : ∀ cs, Met P B w0 ρ w (builtin b c.argTypes type cs (c.args.map ev')) y := fun cs => by
        have := aBuiltin_sound (ty := type) (cs := cs) h (VR_map (l := c.args.toList) hev) hy
        rwa [he] at this
      have hx : ∃ cs, execOp ev' ⟨dst, .call c, type, pos, after, guard⟩ = builtin b c.argTypes type cs (c.args.map ev') := ⟨_, by simp only [execOp, resolve, hb, pure_bind, invoke]; rfl⟩
      obtain ⟨cs, hx⟩ := hx
      rw [hx]; exact key cs
    · cases hy
end
end Go.Ax
namespace Go.Ax
open Go.RowKit

/-! ### Frames -/
abbrev Fr := Tr Value
def fget (fr : Fr) (t : Nat) : Value :=
  match fr.get t with
  | some v => v
  | none => undef
def fput (fr : Fr) (d : Option Tmp) (v : Value) : Fr :=
  match d with
  | some d => fr.set d v
  | none => fr
def fev (fr : Fr) : Operand → Value
  | .tmp t => fget fr t
  | .const v => cond (v.cells.toList.all flat1) v undef
  | .func f => .func (.func f) #[] #[]
  | .global _ => undef
def fpick (L : List Nat) (fr : Fr) : List Value := L.map (fget fr)
def fmake : List Nat → List Value → Fr
  | t :: L, v :: vs => (fmake L vs).set t v
  | _, _ => .leaf

/-- Slots that stay, laid over. -/
def fadd (R : List Nat) (fr g : Fr) : Fr := R.foldr (fun t g => g.set t (fget fr t)) g
theorem fget_set (fr : Fr) (t u : Nat) (v : Value) : fget (fr.set t v) u = if u = t then v else fget fr u := by
  unfold fget; rw [Tr.get_set]; by_cases h : u = t <;> simp [h]
theorem fget_fadd (R : List Nat) (fr g : Fr) (t : Nat) : fget (fadd R fr g) t = if t ∈ R then fget fr t else fget g t := by
  induction R with
  | nil => simp [fadd]
  | cons u R ih =>
    show fget ((fadd R fr g).set u (fget fr u)) t = _
    rw [fget_set]
    by_cases h : t = u
    · subst h; simp
    · rw [if_neg h, ih]; simp [h]
theorem fget_leaf (t : Nat) : fget .leaf t = undef := by unfold fget; rw [Tr.get_leaf]

/-! ### Code, with what is alive at a loop's head, at its ends, behind a join -/
inductive AC where
  | skip
  | region (id : Nat) (ops : List Oper)
  | dregion (id : Nat) (ops : List Oper) (ord : List (Nat × List Nat))
  | seq (a b : AC)
  | cond (c : Operand) (thn els : AC)
  | block (id : Nat) (b : AC)
  | loop (R L Lx : List Nat) (b : AC)
  | exit (id : Nat)
  | ret
  | join (L : List Nat) (b : AC)
  | other (c : Code)

def AC.erase : AC → Code
  | .skip => .skip
  | .region id ops => .region id ops.toArray false
  | .dregion id ops _ => .region id ops.toArray true
  | .seq a b => .seq a.erase b.erase
  | .cond c a b => .cond c a.erase b.erase
  | .block id b => .block id b.erase
  | .loop _ _ _ b => .loop b.erase
  | .exit id => .exit id
  | .ret => .ret
  | .join _ b => b.erase
  | .other c => c

def veq0 : Value → Value → Bool
  | .bool a, .bool b => a == b
  | .int j a, .int k b => decide (j = k) && a == b
  | .string a, .string b => decide (a.data.toList = b.data.toList)
  | .pointer a, .pointer b => decide (a = b)
  | .slice a l c, .slice b m d => decide (a = b) && Nat.beq l m && Nat.beq c d
  | .map a, .map b => decide (a = b)
  | .nilFunc, .nilFunc => true
  | .nilIface, .nilIface => true
  | _, _ => false
def veq : Value → Value → Bool
  | .iface t v, .iface u w => Nat.beq t u && veq0 v w
  | a, b => veq0 a b
def veqs : List Value → List Value → Bool
  | [], [] => true
  | a :: l, b :: m => veq a b && veqs l m
  | _, _ => false
def veq1 : Value → Value → Bool
  | .agg a, .agg b => veqs a.toList b.toList
  | .tuple a, .tuple b => veqs a.toList b.toList
  | a, b => veq a b


/-! ### How a call ends -/
inductive Out where
  | ret (v : Value)
  | pan (v : Value)
abbrev WK := Value → AHeap → Prop
abbrev RK := Out → AHeap → Prop
abbrev FK := Fr → AHeap → Prop
/-- Of an end: what is asked of a value, what of a panic. -/
def RP (k kp : WK) : RK := fun r σ => match r with
  | .ret v => k v σ
  | .pan v => kp v σ
abbrev EvT := FuncId → List Value → AHeap → RK → Prop
def noP : WK := fun _ _ => False

structure AFun where
  n : Nat
  params : Nat
  res : List ResultVar
  body : AC
end Go.Ax
namespace Go.Ax
open Go.RowKit

/-- A frame's size, its deferred calls, slots that stay as they are. -/
structure Cx where
  N : Nat
  D : List Deferred
  Lp : List Nat
  T : Nat → Value
structure Keep (C : Cx) (a : Act) : Prop where
  defers : a.defers = C.D
  size : a.tmps.size = C.N
  keep : ∀ t ∈ C.Lp, a.tmps.getD t undef = C.T t
def Cx.ok (C : Cx) (d : Nat) : Prop := d < C.N ∧ d ∉ C.Lp
theorem Keep.put {C : Cx} {a : Act} (h : Keep C a) {v : Value} {dst : Option Tmp} (hd : ∀ d, dst = some d → C.ok d) : Keep C (a.put dst v) := by
  cases dst with
  | none => exact h
  | some d =>
    refine ⟨h.defers, by simp [Act.put, h.size], fun t ht => ?_⟩
    have hne : ¬ d = t := fun e => (hd d rfl).2 (e ▸ ht)
    have := h.keep t ht
    simpa [Act.put, Array.getD_eq_getD_getElem?, Array.getElem?_setIfInBounds, hne] using this
structure FR (C : Cx) (ρ : List RB) (fr : Fr) (a : Act) : Prop where
  val : ∀ t, VR ρ (fget fr t) (a.tmps.getD t undef)
  kp : Keep C a

section
variable {P : Program} {B : Nat} {w0 : World} {ρ : List RB} {σ : AHeap} {w : World} {C : Cx} {fr : Fr} {a : Act}

theorem FR.mono {ρ' : List RB} (e : Ext ρ ρ') (h : FR C ρ fr a) : FR C ρ' fr a := ⟨fun t => (h.val t).mono e, h.kp⟩

theorem FR.put (h : FR C ρ fr a) {v v' : Value} (hv : VR ρ v v') {dst : Option Tmp} (hd : ∀ d, dst = some d → C.ok d) : FR C ρ (fput fr dst v) (a.put dst v') := by
  cases dst with
  | none => exact h
  | some d =>
    have hdN := (hd d rfl).1
    refine ⟨fun t => ?_, h.kp.put hd⟩
    simp only [fput, fget_set, Act.put]
    by_cases ht : t = d
    · subst ht
      have : t < a.tmps.size := by rw [h.kp.size]; exact hdN
      simp [this, Array.getD_eq_getD_getElem?]
      exact hv
    · have hne : ¬ d = t := fun e => ht e.symm
      rw [if_neg ht]
      have := h.val t
      simpa [Array.getD_eq_getD_getElem?, Array.getElem?_setIfInBounds, hne] using this

theorem FR.setb (h : FR C ρ fr a) {t : Nat} {b : Bool} (ht : fget fr t = .bool b) : FR C ρ (fr.set t (.bool b)) a := by
  refine ⟨fun u => ?_, h.kp⟩
  rw [fget_set]
  split
  · rename_i e; subst e; rw [← ht]; exact h.val u
  · exact h.val u

theorem FR.ev (h : FR C ρ fr a) (x : Operand) : VR ρ (fev fr x) (a.eval x) := by
  cases x with
  | tmp t => exact h.val t
  | const v =>
    simp only [fev, Act.eval]
    cases hc : v.cells.toList.all flat1 with
    | false => exact .dead _
    | true =>
      simp only [cond_true]
      cases v with
      | agg c => exact VR.agg' (flats_refl ρ hc)
      | tuple c =>
        simp [Value.cells, flat1] at hc
      | _ => exact flat1_refl ρ (by simpa [Value.cells] using hc)
  | func f => exact .func _ _ _ _ _ rfl rfl (fun i v v' x => by simp at x) (fun i v v' x => by simp at x)
  | global g => exact .dead _

theorem fmake_get (L : List Nat) (fr : Fr) (t : Nat) : fget (fmake L (fpick L fr)) t = fget fr t ∨ fget (fmake L (fpick L fr)) t = undef := by
  induction L with
  | nil => right; exact fget_leaf t
  | cons u L ih =>
    simp only [fpick, List.map_cons, fmake, fget_set]
    split
    · rename_i e; subst e; exact .inl rfl
    · exact ih

theorem FR.make (h : FR C ρ fr a) (L : List Nat) : FR C ρ (fmake L (fpick L fr)) a := by
  refine ⟨fun t => ?_, h.kp⟩
  rcases fmake_get L fr t with e | e
  · rw [e]; exact h.val t
  · rw [e]; exact .dead _

theorem VR.bool_of {x : Value} {b : Bool} (h : VR ρ (.bool b) x) : x = .bool b := h.bool_inv

theorem FR.yielded (h : FR C ρ fr a) {all : List Oper} {j t : Nat} {b : Bool} (hj : (all[j]?).bind (·.dst) = some t) (hb : fget fr t = .bool b) : yielded all.toArray a.tmps j = some b := by
  have hv := h.val t
  rw [hb] at hv
  have hv := hv.bool_inv
  have ht : a.tmps[t]? = some (.bool b) := by
    rw [Array.getD_eq_getD_getElem?] at hv
    cases hx : a.tmps[t]? with
    | none => rw [hx] at hv; simp [undef] at hv
    | some v => rw [hx] at hv; simp at hv; rw [hv]
  unfold Go.yielded
  have hj' : ((all.toArray[j]?).bind (·.dst)) = some t := by simpa using hj
  rw [hj']
  simp [ht]

theorem yielded_skip {all : List Oper} {j t : Nat} (hj : (all[j]?).bind (·.dst) = some t) {tmps : Array Value} (hv : tmps.getD t undef = undef) : yielded all.toArray tmps j = none := by
  unfold Go.yielded
  have hj' : ((all.toArray[j]?).bind (·.dst)) = some t := by simpa using hj
  rw [hj']
  rw [Array.getD_eq_getD_getElem?] at hv
  simp only [Option.bind_some]
  cases hx : tmps[t]? with
  | none => rfl
  | some v => rw [hx] at hv; simp at hv; rw [hv]; rfl

/-- What follows: whatever frame, heap and world stand for one another there. -/
def KS (B : Nat) (w0 : World) (C : Cx) (ρ : List RB) (k : FK) (Q : Act → World → Prop) : Prop :=
  ∀ ρ' fr σ a w, Ext ρ ρ' → FR C ρ' fr a → Rel B w0 ρ' σ w → k fr σ → Q a w
theorem KS.mono {ρ' : List RB} (e : Ext ρ ρ') {k : FK} {Q : Act → World → Prop} (h : KS B w0 C ρ k Q) : KS B w0 C ρ' k Q :=
  fun ρ2 fr σ a w e2 => h ρ2 fr σ a w (e.trans e2)
/-- Behind a panic. -/
def KP (B : Nat) (w0 : World) (C : Cx) (ρ : List RB) (kp : WK) (Q : Exit → Act → World → Prop) : Prop :=
  ∀ ρ' v v' σ a w, Ext ρ ρ' → Keep C a → Rel B w0 ρ' σ w → VR ρ' v v' → kp v σ → Q (.panic [{ v := v', recovered := false }]) a w
theorem KP.mono {ρ' : List RB} (e : Ext ρ ρ') {kp : WK} {Q : Exit → Act → World → Prop} (h : KP B w0 C ρ kp Q) : KP B w0 C ρ' kp Q :=
  fun ρ2 v v' σ a w e2 => h ρ2 v v' σ a w (e.trans e2)

def ResR (ρ : List RB) (r : Out) (e : Ending) : Prop :=
  match r with
  | .ret v => ∃ v', e = .returned v' ∧ VR ρ v v'
  | .pan v => ∃ v', e = .panicked [{ v := v', recovered := false }] ∧ VR ρ v v'

/-- What is told of a call: of the machine's run, from whatever world and arguments stand for the heap and the arguments. -/
def Ev (P : Program) : EvT := fun g args σ Q =>
  ∀ B w0 ρ w args', Rel B w0 ρ σ w → LR ρ args args' →
    ∃ fn, P.funcs[g]? = some fn ∧ (fn.name == "runtime.NumGoroutine") = false ∧
      ((fn.body.isNone = false ∧ Calls P g args'.toArray w fun e w' => ∃ r ρ' σ', Q r σ' ∧ ResR ρ' r e ∧ Ext ρ ρ' ∧ Rel B w0 ρ' σ' w') ∨
       (∃ v v' ρ' σ' w', Q (.ret v) σ' ∧ (callFunc g args'.toArray).run P w = .ok (.value v') w' ∧ Ext ρ ρ' ∧ Rel B w0 ρ' σ' w' ∧ VR ρ' v v'))
theorem Ev.mono {P : Program} {f : FuncId} {args : List Value} {σ : AHeap} {Q Q' : RK} (h : Ev P f args σ Q) (hq : ∀ r σ', Q r σ' → Q' r σ') : Ev P f args σ Q' := by
  intro B w0 ρ w args' hr ha
  obtain ⟨fn, h1, h2, h3⟩ := h B w0 ρ w args' hr ha
  refine ⟨fn, h1, h2, ?_⟩
  rcases h3 with ⟨hb, hc⟩ | ⟨v, v', ρ', σ', w', hm, hrun, e⟩
  · exact .inl ⟨hb, hc.mono fun e w' ⟨r, ρ', σ', q, x⟩ => ⟨r, ρ', σ', hq _ _ q, x⟩⟩
  · exact .inr ⟨v, v', ρ', σ', w', hq _ _ hm, hrun, e⟩

theorem run_callFunc {g : FuncId} {fn : Func} {args : Array Value} (hf : P.funcs[g]? = some fn) (hn : (fn.name == "runtime.NumGoroutine") = false) (hb : fn.body.isNone = false) :
    (callFunc g args).run P w = .ok (.enter g args) w := by
  simp only [beq_eq_false_iff_ne, ne_eq] at hn
  cases hbb : fn.body with
  | none => rw [hbb] at hb; simp at hb
  | some c => simp [callFunc, program, Sem.run, hf, hn, hbb]

/-- What an operation's operands look at. -/
theorem aop_congr {ev ev' : Operand → Value} {o : Oper} (h : ∀ x ∈ o.op.operands, ev x = ev' x) : aop P ev o σ = aop P ev' o σ := by
  obtain ⟨dst, op, type, pos, after, guard⟩ := o
  have key : ∀ (l : List (Nat × Operand)), (∀ p ∈ l, ev p.2 = ev' p.2) → (l.map fun p => (p.1, ev p.2)) = l.map fun p => (p.1, ev' p.2) := by
    intro l hl
    apply List.map_congr_left
    intro p hp
    rw [hl p hp]
  have key2 : ∀ (l : List Operand), (∀ p ∈ l, ev p = ev' p) → l.map ev = l.map ev' := by
    intro l hl
    exact List.map_congr_left hl
  have key3 : ∀ (l : Option Operand), (∀ p ∈ l, ev p = ev' p) → l.map ev = l.map ev' := by
    intro l hl
    cases l with
    | none => rfl
    | some x => simp [hl x rfl]
  unfold aop
  cases op <;> simp only [Op.operands] at h <;> try rfl
  case call c =>
    simp only [Call.operands] at h
    cases hc : c.callee with
    | builtin b =>
      rw [hc] at h
      simp only
      rw [key2 c.args.toList (fun p hp => h p (by simpa using hp))]
    | _ => simp only [hc]
  case build t ps => simp only; rw [key ps.toList (fun p hp => h p.2 (by simp; exact ⟨p.1, by simpa using hp⟩))]
  case buildSlice t n ps => simp only; rw [key ps.toList (fun p hp => h p.2 (by simp; exact ⟨p.1, by simpa using hp⟩))]
  case makeFunc fn f c => simp only; rw [key2 f.toList (fun p hp => h p (by simp; left; simpa using hp)), key2 c.toList (fun p hp => h p (by simp; right; simpa using hp))]
  case slice t x lo hi mx =>
    simp only
    rw [h x (by simp), key3 lo (fun p hp => h p (by simp; cases lo <;> simp_all)), key3 hi (fun p hp => h p (by simp; cases hi <;> simp_all)), key3 mx (fun p hp => h p (by simp; cases mx <;> simp_all))]
  all_goals simp only
  case move x => rw [h x (by simp)]
  case assign x => rw [h x (by simp)]
  case pick c a b => rw [h c (by simp), h a (by simp), h b (by simp)]
  case box e x => rw [h x (by simp)]
  case load t x => rw [h x (by simp)]
  case store t x y => rw [h x (by simp), h y (by simp)]
  case nilCheck x => rw [h x (by simp)]
  case binOp op t x y ty => rw [h x (by simp), h y (by simp)]
  case unOp op t x => rw [h x (by simp)]
  case convert s d x => rw [h x (by simp)]
  case makeInterface t x => rw [h x (by simp)]
  case makeSlice t x y => rw [h x (by simp), h y (by simp)]
  case fieldAddr t x f => rw [h x (by simp)]
  case field t x f => rw [h x (by simp)]
  case indexAddr t x i => rw [h x (by simp), h i (by simp)]
  case index t x i => rw [h x (by simp), h i (by simp)]
  case extract x i => rw [h x (by simp)]
  case makeMap t r => rw [key3 r (fun p hp => h p (by simpa using hp))]
  case lookup t x i ok => rw [h x (by simp), h i (by simp)]
  case mapUpdate t m k x => rw [h m (by simp), h k (by simp), h x (by simp)]
  case range t x => rw [h x (by simp)]
  case next it str => rw [h it (by simp)]
  case entry it => rw [h it (by simp)]
  case typeAssert x xt t ok => rw [h x (by simp)]

theorem invoke_method (x : Value) (l cap : Array Value) (name : String) : invoke (.fn (.method name) cap) (#[x] ++ l) = callMethod x name l := by
  have h0 : (#[x] ++ l)[0]? = some x := by simp [Array.getElem?_append]
  have h1 : (#[x] ++ l).extract 1 (#[x] ++ l).size = l := by apply Array.ext'; simp [List.take_of_length_le]
  simp only [invoke, h0, h1]


theorem dstF {d N : Nat} : True := trivial
end
end Go.Ax
namespace Go.Ax
open Go.RowKit

/-! ### One operation -/
/-- It comes to something, and what is asked holds of that. -/
def pu {α : Type} (o : Option α) (k : α → Prop) : Prop := ∃ v, o = some v ∧ k v
def wB (v : Value) (k : Bool → Prop) : Prop :=
  match asB v with
  | some t => k t
  | none => False
/-- The parting at a bool. -/
def wC (v : Value) (a b : Prop) : Prop :=
  match asB v with
  | some true => a
  | some false => b
  | none => False
def wF (v : Value) (k : FuncId → List Value → List Value → Prop) : Prop :=
  match v with
  | .func (.func g) first captured => k g first.toList captured.toList
  | _ => False
/-- The parting at an operation's guard: v is what it hangs on. -/
def wG (v : Value) (a b c : Prop) : Prop :=
  match asB v with
  | some true => a
  | some false => b
  | none => isSkip v = true ∧ c

/-- A panic: of an interface's value. -/
def wPan (v : Value) (σ : AHeap) (kp : WK) : Prop :=
  match v with
  | .iface t u => kp (.iface t u) σ
  | _ => False
/-- A new block. -/
def wNew (σ : AHeap) (o : AObj) (k : Nat → AHeap → Prop) : Prop := k σ.size (σ.push o)

/-! ### Operations without the program's tables -/
def lenS (x : Value) : Option Value :=
  match x with
  | .slice _ n _ => some (.int .i64 n)
  | _ => none
def lenStr (x : Value) : Option Value :=
  match x with
  | .string s => some (.int .i64 s.size)
  | _ => none
def lenM (x : Value) (σ : AHeap) : Option Value := (aEntries x σ).map fun es => .int .i64 es.length
def convI (k : IntKind) (x : Value) : Option Value :=
  match x with
  | .int _ n => some (.int k (k.wrap n))
  | _ => none
def partR (g : Bool) (n : Nat) (c : List Value) (off : Nat) : Option Value :=
  cond g (cond (Nat.ble (off + n) c.length) (some (.agg ((c.drop off).take n).toArray)) none) c[off]?
def fieldR (g : Bool) (n off : Nat) (x : Value) : Option Value :=
  match x with
  | .agg c => partR g n c.toList off
  | _ => none
def idxArr (g : Bool) (n len size : Nat) (x i : Value) : Option Value :=
  match x, i with
  | .agg c, .int _ i => if 0 ≤ i ∧ i < len then partR g n c.toList (i.toNat * size) else none
  | _, _ => none
def idxStr (x i : Value) : Option Value :=
  match x, i with
  | .string s, .int _ i => if 0 ≤ i then match s[i.toNat]? with
      | some b => some (.int .u8 b.toNat)
      | none => none
    else none
  | _, _ => none
def buildR (pl : List (Nat × Nat)) (zc : List Value) (parts : List (Nat × Value)) : Option Value := (aFill (pl[·]?) zc parts).map fun l => .agg l.toArray
def buildA (size : Nat) (zc : List Value) (parts : List (Nat × Value)) : Option Value := (aFill (fun k => some (k * size, size)) zc parts).map fun l => .agg l.toArray
def buildS (e z len : Nat) (zc : List Value) (parts : List (Nat × Value)) (σ : AHeap) : Option (Value × AHeap) :=
  cond (Nat.ble (len * z) 16777216 && Nat.blt 0 z) ((aFill (fun k => some (k * z, z)) (reps len zc) parts).map fun l => (.slice (some ⟨σ.size, 0, none⟩) len len, σ.push (.cells l e false))) none

section
variable (P : Program) (E : EvT)

def wBin (op : BinOp) (t : TypeId) (x y : Value) (K : Value → Prop) : Prop :=
  match P.underlying t with
  | some (.struct _) => pu (aBinP P t op x y) K
  | some (.array _ _) => pu (aBinP P t op x y) K
  | d => pu (aBin d op x y) K
def wLen (t : TypeId) (x : Value) (σ : AHeap) (K : Value → Prop) : Prop :=
  match P.underlying t with
  | some (.slice _) => pu (lenS x) K
  | some .string => pu (lenStr x) K
  | some (.map _ _) => pu (lenM x σ) K
  | _ => False
def wSlice (t : TypeId) (x : Value) (lo hi mx : Option Value) (K : Value → Prop) : Prop :=
  match P.underlying t with
  | some .string => match mx with
    | none => pu (aSliceStr x lo hi) K
    | some _ => False
  | some (.slice e) => match P.info? e with
    | some i => pu (aSlice i.size x lo hi mx) K
    | none => False
  | some (.array n e) => match P.info? e with
    | some i => pu (aSliceArr n i.size x lo hi mx) K
    | none => False
  | some (.pointer arr) => match P.underlying arr with
    | some (.array n e) => match P.info? e with
      | some i => pu (aSliceArr n i.size x lo hi mx) K
      | none => False
    | _ => False
  | _ => False
def wIdxA (t : TypeId) (x i : Value) (K : Value → Prop) : Prop :=
  match P.underlying t with
  | some (.slice e) => match P.info? e with
    | some j => pu (aIndexAddr j.size x i) K
    | none => False
  | some (.array n e) => match P.info? e with
    | some j => pu (aIndexAddrArr n j.size x i) K
    | none => False
  | _ => False
def wConv (s d : TypeId) (x : Value) (σ : AHeap) (K : Value → Prop) : Prop :=
  match P.underlying s, P.underlying d with
  | some (.int _), some (.int k) => pu (convI k x) K
  | _, _ => pu (aConv P s d x σ) K
def wField (t : TypeId) (f : Nat) (x : Value) (K : Value → Prop) : Prop :=
  match P.underlying t with
  | some (.struct fs) => match fs[f]? with
    | some fd => match shp P fd.type with
      | some (g, n) => pu (fieldR g n fd.offset x) K
      | none => False
    | none => False
  | _ => False
def wIdx (t : TypeId) (x i : Value) (K : Value → Prop) : Prop :=
  match P.underlying t with
  | some (.array len e) => match P.info? e with
    | some j => match shp P e with
      | some (g, n) => pu (idxArr g n len j.size x i) K
      | none => False
    | none => False
  | some .string => pu (idxStr x i) K
  | _ => False
def wBuild (t : TypeId) (parts : List (Nat × Value)) (K : Value → Prop) : Prop :=
  match zeroOf P t with
  | some z => match P.underlying t with
    | some (.struct fs) => match placesOf P fs.toList with
      | some pl => pu (buildR pl z.cells.toList parts) K
      | none => False
    | some (.array _ e) => match P.info? e with
      | some i => pu (buildA i.size z.cells.toList parts) K
      | none => False
    | _ => False
  | none => False
def wBuildS (t : TypeId) (len : Nat) (parts : List (Nat × Value)) (σ : AHeap) (K : WK) : Prop :=
  match elemOf? P t with
  | some (e, z, _) => match len with
    | 0 => match parts with
      | [] => K (.slice (some ⟨ZB, 0, some 0⟩) 0 0) σ
      | _ => False
    | _ => match zeroOf P e with
      | some zv => pu (buildS e z len zv.cells.toList parts σ) fun r => K r.1 r.2
      | none => False
  | none => False

def wBuiltin (b : Builtin) (ts : List TypeId) (args : List Value) (σ : AHeap) (K : WK) : Prop :=
  match b, ts, args with
  | .append, [t, u], [s, x] => match elemOf? P t with
    | some (e, z, by') => match zeroOf P e with
      | some zv => cond (notInt P u) (pu (aAppend e z by' s x σ) fun r => K r.1 r.2) (cond (isInt P u) (pu (aAppendZ e z by' zv.cells.toList s x σ) fun r => K r.1 r.2) False)
      | none => False
    | none => False
  | .copy, [t, _], [d, x] => match elemOf? P t with
    | some (_, z, _) => pu (aCopy z d x σ) fun r => K r.1 r.2
    | none => False
  | .len, [t], [x] => wLen P t x σ fun v => K v σ
  | .delete, [t, _], [m, k] => pu (aDelete P t m k σ) fun σ' => K (.tuple #[]) σ'
  | .min, _, [x, y] => pu (aMin2 x y) fun v => K v σ
  | .max, _, [x, y] => pu (aMax2 x y) fun v => K v σ
  | _, _, _ => False

def wval (ev : Operand → Value) (o : Oper) (σ : AHeap) (K kp : WK) : Prop :=
  match o.op with
  | .move x | .assign x => K (ev x) σ
  | .pick c a b => wB (ev c) fun t => K (cond t (ev a) (ev b)) σ
  | .alloc e => match zeroOf P e with
    | some z => wNew σ (.cells z.cells.toList e false) fun b σ => K (.pointer (some ⟨b, 0, none⟩)) σ
    | none => False
  | .box e x => cond (live (ev x)) (wNew σ (.cells (ev x).cells.toList e false) fun b σ => K (.pointer (some ⟨b, 0, none⟩)) σ) False
  | .build t ps => wBuild P t (ps.toList.map fun p => (p.1, ev p.2)) fun v => K v σ
  | .buildSlice t n ps => wBuildS P t n (ps.toList.map fun p => (p.1, ev p.2)) σ K
  | .load t a => match shp P t with
    | some (g, n) => pu (aLoad g n (ev a) σ) fun v => K v σ
    | none => False
  | .store t a x => match shp P t with
    | some (_, n) => pu (aStore n (ev a) (ev x) σ) fun σ' => K undef σ'
    | none => False
  | .nilCheck x => pu (aNil (ev x)) fun v => K v σ
  | .binOp op t x y _ => wBin P op t (ev x) (ev y) fun v => K v σ
  | .unOp op _ x => pu (aUn op (ev x)) fun v => K v σ
  | .convert s d x => wConv P s d (ev x) σ fun v => K v σ
  | .makeInterface t x => pu (aIface P t (ev x)) fun v => K v σ
  | .makeFunc fn f c => K (.func fn (f.toList.map ev).toArray (c.toList.map ev).toArray) σ
  | .makeSlice t l c => match elemOf? P t with
    | some (e, _, by') => match zeroOf P e with
      | some z => pu (aMake e by' z.cells.toList (ev l) (ev c) σ) fun r => K r.1 r.2
      | none => False
    | none => False
  | .slice t x lo hi mx => wSlice P t (ev x) (lo.map ev) (hi.map ev) (mx.map ev) fun v => K v σ
  | .fieldAddr t x f => match fieldOff P t f with
    | some off => pu (aFieldAddr off (ev x)) fun v => K v σ
    | none => False
  | .field t x f => wField P t f (ev x) fun v => K v σ
  | .indexAddr t x i => wIdxA P t (ev x) (ev i) fun v => K v σ
  | .index t x i => wIdx P t (ev x) (ev i) fun v => K v σ
  | .extract x i => pu (aExtract (ev x) i) fun v => K v σ
  | .makeMap t r => pu (aMakeMap P t (r.map ev) σ) fun r => K r.1 r.2
  | .lookup t x i ok => pu (aLookup P t (ev x) (ev i) ok σ) fun v => K v σ
  | .mapUpdate t m k x => pu (aMapUpdate P t (ev m) (ev k) (ev x) σ) fun σ' => K undef σ'
  | .range t x => pu (aRange P t (ev x) σ) fun r => K r.1 r.2
  | .next it str => cond str (pu (aNextStr (ev it) σ) fun r => K r.1 r.2) (pu (aNextMap (ev it) σ) fun L => ∀ r ∈ L, K r.1 r.2)
  | .entry it => pu (aEntry (ev it) σ) fun v => K v σ
  | .typeAssert x _ t ok => pu (aAssert P t ok (ev x)) fun v => K v σ
  | .call c => match c.callee with
    | .builtin b => wBuiltin P b c.argTypes.toList (c.args.toList.map ev) σ K
    | .value f => wF (ev f) fun g first captured => E g (first ++ c.args.toList.map ev ++ captured) σ (RP K kp)
    | .invoke r name => pu (aMethod P (ev r) name σ) fun r => E r.1 (r.2 :: c.args.toList.map ev) σ (RP K kp)
  | .panic x => wPan (ev x) σ kp
  | _ => False
end

/-! ### These are met by the operations -/
section
variable {P : Program} {σ : AHeap}

theorem wBin_sound {op : BinOp} {t : TypeId} {x y : Value} {K : Value → Prop} (h : wBin P op t x y K) : pu (aBinP P t op x y) K := by
  unfold wBin at h
  split at h
  · exact h
  · exact h
  · obtain ⟨v, h1, h2⟩ := h
    exact ⟨v, by simp only [aBinP, h1], h2⟩
theorem wLen_sound {t : TypeId} {x : Value} {K : Value → Prop} (h : wLen P t x σ K) : pu (aLenM P t x σ) K := by
  unfold wLen at h
  split at h
  · rename_i e hu
    obtain ⟨v, h1, h2⟩ := h
    refine ⟨v, ?_, h2⟩
    cases x <;> simp_all [lenS, aLenM, aLen]
  · rename_i hu
    obtain ⟨v, h1, h2⟩ := h
    refine ⟨v, ?_, h2⟩
    cases x <;> simp_all [lenStr, aLenM, aLen]
  · rename_i k e hu
    obtain ⟨v, h1, h2⟩ := h
    refine ⟨v, ?_, h2⟩
    unfold lenM at h1
    simp [aLenM, aLen, hu, h1]
  · exact h.elim
theorem wSlice_sound {t : TypeId} {x : Value} {lo hi mx : Option Value} {K : Value → Prop} (h : wSlice P t x lo hi mx K) : pu (aSliceOp P t x lo hi mx) K := by
  unfold wSlice at h
  unfold aSliceOp
  split at h
  · rename_i hu
    rw [hu]
    split at h
    · exact h
    · exact h.elim
  · rename_i e hu
    rw [hu]
    split at h
    · rename_i i hi; simp only [hi]; exact h
    · exact h.elim
  · rename_i n e hu
    rw [hu]
    split at h
    · rename_i i hi; simp only [hi]; exact h
    · exact h.elim
  · rename_i arr hu
    rw [hu]
    split at h
    · rename_i n e hu2
      split at h
      · rename_i i hi; simp only [hu2, hi]; exact h
      · exact h.elim
    · exact h.elim
  · exact h.elim
theorem wIdxA_sound {t : TypeId} {x i : Value} {K : Value → Prop} (h : wIdxA P t x i K) : pu (aIndexAddrOp P t x i) K := by
  unfold wIdxA at h
  unfold aIndexAddrOp
  split at h
  · rename_i e hu
    rw [hu]
    split at h
    · rename_i j hi; simp only [hi]; exact h
    · exact h.elim
  · rename_i n e hu
    rw [hu]
    split at h
    · rename_i j hi; simp only [hi]; exact h
    · exact h.elim
  · exact h.elim
theorem wConv_sound {s d : TypeId} {x : Value} {K : Value → Prop} (h : wConv P s d x σ K) : pu (aConv P s d x σ) K := by
  unfold wConv at h
  split at h
  · rename_i k0 k h1 h2
    obtain ⟨v, h3, h4⟩ := h
    refine ⟨v, ?_, h4⟩
    unfold convI at h3
    split at h3
    · cases h3; simp [aConv, h1, h2]
    · cases h3
  · exact h
theorem partR_eq {t : TypeId} {g : Bool} {n : Nat} (hs : shp P t = some (g, n)) (c : List Value) (off : Nat) : aPart P t c off = partR g n c off := by
  unfold aPart partR
  rw [hs]
  cases g <;> rfl
theorem wField_sound {t : TypeId} {f : Nat} {x : Value} {K : Value → Prop} (h : wField P t f x K) : pu (aField P t f x) K := by
  unfold wField at h
  split at h
  · rename_i fs hu
    split at h
    · rename_i fd hf
      split at h
      · rename_i g n hs
        obtain ⟨v, h1, h2⟩ := h
        refine ⟨v, ?_, h2⟩
        unfold fieldR at h1
        split at h1
        · unfold aField; rw [hu]; simp only [hf, partR_eq hs]; exact h1
        · cases h1
      · exact h.elim
    · exact h.elim
  · exact h.elim
theorem wIdx_sound {t : TypeId} {x i : Value} {K : Value → Prop} (h : wIdx P t x i K) : pu (aIndex P t x i) K := by
  unfold wIdx at h
  split at h
  · rename_i len e hu
    split at h
    · rename_i j hj
      split at h
      · rename_i g n hs
        obtain ⟨v, h1, h2⟩ := h
        refine ⟨v, ?_, h2⟩
        unfold idxArr at h1
        split at h1
        · unfold aIndex; rw [hu]; simp only [hj, partR_eq hs]; exact h1
        · cases h1
      · exact h.elim
    · exact h.elim
  · rename_i hu
    obtain ⟨v, h1, h2⟩ := h
    refine ⟨v, ?_, h2⟩
    unfold idxStr at h1
    split at h1
    · unfold aIndex; rw [hu]; exact h1
    · cases h1
  · exact h.elim
theorem wBuild_sound {t : TypeId} {parts : List (Nat × Value)} {K : Value → Prop} (h : wBuild P t parts K) : pu (aBuild P t parts) K := by
  unfold wBuild at h
  split at h
  · rename_i z hz
    split at h
    · rename_i fs hu
      split at h
      · rename_i pl hp
        unfold aBuild; rw [hz, hu]; simp only [hp]; exact h
      · exact h.elim
    · rename_i n e hu
      split at h
      · rename_i i hi
        unfold aBuild; rw [hz, hu]; simp only [hi]; exact h
      · exact h.elim
    · exact h.elim
  · exact h.elim
theorem wBuildS_sound {t : TypeId} {n : Nat} {ps : List (Nat × Value)} {K : WK} (h : wBuildS P t n ps σ K) :
    (Nat.beq n 0 && !ps.isEmpty) = false ∧ pu (aBuildSlice P t n ps σ) fun r => K r.1 r.2 := by
  unfold wBuildS at h
  split at h
  · rename_i e z by' he
    split at h
    · split at h
      · refine ⟨rfl, (.slice (some ⟨ZB, 0, some 0⟩) 0 0, σ), ?_, h⟩
        simp only [aBuildSlice, he]
      · exact h.elim
    · rename_i hn0
      split at h
      · rename_i zv hz
        refine ⟨?_, ?_⟩
        · cases n with
          | zero => exact absurd rfl hn0
          | succ n => rfl
        · obtain ⟨r, h1, h2⟩ := h
          refine ⟨r, ?_, h2⟩
          cases n with
          | zero => exact absurd rfl hn0
          | succ n => simp only [aBuildSlice, he, hz]; exact h1
      · exact h.elim
  · exact h.elim
theorem wBuiltin_sound {b : Builtin} {ts : List TypeId} {args : List Value} {K : WK} (h : wBuiltin P b ts args σ K) : ∃ r, aBuiltin P b ts args σ = some r ∧ K r.1 r.2 := by
  unfold wBuiltin at h
  unfold aBuiltin
  split at h
  · split at h
    · rename_i e z by' he
      split at h
      · rename_i zv hz
        (try simp only [he, hz])
        cases hn : notInt P _ with
        | true => rw [hn] at h; exact h
        | false =>
          rw [hn] at h
          simp only [cond_false] at h ⊢
          cases hi : isInt P _ with
          | true => rw [hi] at h; exact h
          | false => rw [hi] at h; exact h.elim
      · exact h.elim
    · exact h.elim
  · split at h
    · rename_i e z by' he
      (try simp only [he]); exact h
    · exact h.elim
  · obtain ⟨v, h1, h2⟩ := wLen_sound h
    exact ⟨(v, σ), by simp only [h1, Option.bind_some], h2⟩
  · obtain ⟨v, h1, h2⟩ := h
    exact ⟨(.tuple #[], v), by simp only [h1, Option.bind_some], h2⟩
  · obtain ⟨v, h1, h2⟩ := h
    exact ⟨(v, σ), by simp only [h1, Option.bind_some], h2⟩
  · obtain ⟨v, h1, h2⟩ := h
    exact ⟨(v, σ), by simp only [h1, Option.bind_some], h2⟩
  · exact h.elim
end
section
variable {P : Program}
theorem wval_aop {E : EvT} {ev : Operand → Value} {o : Oper} {σ : AHeap} {K kp : WK} (hc : ∀ c, o.op = .call c → ∃ b, c.callee = .builtin b) (hn : ∀ it, o.op ≠ .next it false) (hp : ∀ x, o.op ≠ .panic x) (h : wval P E ev o σ K kp) :
    ∃ r, aop P ev o σ = some r ∧ K r.1 r.2 := by
  obtain ⟨dst, op, type, pos, after, guard⟩ := o
  have hone : ∀ {r : Value × AHeap}, aop P ev ⟨dst, op, type, pos, after, guard⟩ σ = some r → K r.1 r.2 → (∀ c, op ≠ .call c) → (∀ it, op ≠ .next it false) →
      ∃ r, aop P ev ⟨dst, op, type, pos, after, guard⟩ σ = some r ∧ K r.1 r.2 := fun {r} hr hk _ _ => ⟨r, hr, hk⟩
  cases op with
  | move x => exact hone (r := (ev x, σ)) rfl h (by simp) (by simp)
  | assign x => exact hone (r := (ev x, σ)) rfl h (by simp) (by simp)
  | pick c a b =>
    simp only [wval, wB] at h
    split at h
    · rename_i t h1
      exact hone (r := (cond t (ev a) (ev b), σ)) (by simp [aop, h1]) h (by simp) (by simp)
    · exact h.elim
  | alloc e =>
    simp only [wval] at h
    split at h
    · rename_i z hz
      exact hone (r := aNew e z.cells.toList σ) (by simp [aop, hz]) h (by simp) (by simp)
    · exact h.elim
  | box e x =>
    simp only [wval] at h
    cases hl : live (ev x) with
    | false => rw [hl] at h; exact h.elim
    | true => rw [hl] at h; exact hone (r := aNew e (ev x).cells.toList σ) (by simp [aop, aBox, hl]) h (by simp) (by simp)
  | build t ps =>
    obtain ⟨v, h1, h2⟩ := wBuild_sound h
    exact hone (r := (v, σ)) (by simp only [aop, h1, Option.bind_some]) h2 (by simp) (by simp)
  | buildSlice t n ps =>
    obtain ⟨h0, v, h1, h2⟩ := wBuildS_sound h
    have h0 : (Nat.beq n 0 && !ps.toList.isEmpty) = false := by simpa using h0
    exact hone (r := v) (by simp only [aop, h0, cond_false, h1]) h2 (by simp) (by simp)
  | load t a =>
    simp only [wval] at h
    split at h
    · rename_i g n hs
      obtain ⟨v, h1, h2⟩ := h
      exact hone (r := (v, σ)) (by simp only [aop, hs, h1, Option.bind_some]) h2 (by simp) (by simp)
    · exact h.elim
  | store t a x =>
    simp only [wval] at h
    split at h
    · rename_i g n hs
      obtain ⟨v, h1, h2⟩ := h
      exact hone (r := (undef, v)) (by simp only [aop, hs, h1, Option.bind_some]) h2 (by simp) (by simp)
    · exact h.elim
  | nilCheck x =>
    obtain ⟨v, h1, h2⟩ := h
    exact hone (r := (v, σ)) (by simp only [aop, h1, Option.bind_some]) h2 (by simp) (by simp)
  | binOp op t x y ty =>
    obtain ⟨v, h1, h2⟩ := wBin_sound h
    exact hone (r := (v, σ)) (by simp only [aop, h1, Option.bind_some]) h2 (by simp) (by simp)
  | unOp op t x =>
    obtain ⟨v, h1, h2⟩ := h
    exact hone (r := (v, σ)) (by simp only [aop, h1, Option.bind_some]) h2 (by simp) (by simp)
  | convert s d x =>
    obtain ⟨v, h1, h2⟩ := wConv_sound h
    exact hone (r := (v, σ)) (by simp only [aop, h1, Option.bind_some]) h2 (by simp) (by simp)
  | makeInterface t x =>
    obtain ⟨v, h1, h2⟩ := h
    exact hone (r := (v, σ)) (by simp only [aop, h1, Option.bind_some]) h2 (by simp) (by simp)
  | makeFunc fn f c => exact hone (r := (_, σ)) rfl h (by simp) (by simp)
  | makeSlice t l c =>
    simp only [wval] at h
    split at h
    · rename_i e z by' he
      split at h
      · rename_i zv hz
        obtain ⟨v, h1, h2⟩ := h
        exact hone (r := v) (by simp only [aop, he, hz, h1]) h2 (by simp) (by simp)
      · exact h.elim
    · exact h.elim
  | slice t x lo hi mx =>
    obtain ⟨v, h1, h2⟩ := wSlice_sound h
    exact hone (r := (v, σ)) (by simp only [aop, h1, Option.bind_some]) h2 (by simp) (by simp)
  | fieldAddr t x f =>
    simp only [wval] at h
    split at h
    · rename_i off ho
      obtain ⟨v, h1, h2⟩ := h
      exact hone (r := (v, σ)) (by simp only [aop, ho, h1, Option.bind_some]) h2 (by simp) (by simp)
    · exact h.elim
  | field t x f =>
    obtain ⟨v, h1, h2⟩ := wField_sound h
    exact hone (r := (v, σ)) (by simp only [aop, h1, Option.bind_some]) h2 (by simp) (by simp)
  | indexAddr t x i =>
    obtain ⟨v, h1, h2⟩ := wIdxA_sound h
    exact hone (r := (v, σ)) (by simp only [aop, h1, Option.bind_some]) h2 (by simp) (by simp)
  | index t x i =>
    obtain ⟨v, h1, h2⟩ := wIdx_sound h
    exact hone (r := (v, σ)) (by simp only [aop, h1, Option.bind_some]) h2 (by simp) (by simp)
  | extract x i =>
    obtain ⟨v, h1, h2⟩ := h
    exact hone (r := (v, σ)) (by simp only [aop, h1, Option.bind_some]) h2 (by simp) (by simp)
  | makeMap t r =>
    obtain ⟨v, h1, h2⟩ := h
    exact hone (r := v) (by simp only [aop, h1]) h2 (by simp) (by simp)
  | lookup t x i ok =>
    obtain ⟨v, h1, h2⟩ := h
    exact hone (r := (v, σ)) (by simp only [aop, h1, Option.bind_some]) h2 (by simp) (by simp)
  | mapUpdate t m k x =>
    obtain ⟨v, h1, h2⟩ := h
    exact hone (r := (undef, v)) (by simp only [aop, h1, Option.bind_some]) h2 (by simp) (by simp)
  | range t x =>
    obtain ⟨v, h1, h2⟩ := h
    exact hone (r := v) (by simp only [aop, h1]) h2 (by simp) (by simp)
  | next it str =>
    cases str with
    | true =>
      obtain ⟨v, h1, h2⟩ := h
      exact hone (r := v) (by simp only [aop, cond_true, h1]) h2 (by simp) (by simp)
    | false => exact absurd rfl (hn it)
  | entry it =>
    obtain ⟨v, h1, h2⟩ := h
    exact hone (r := (v, σ)) (by simp only [aop, h1, Option.bind_some]) h2 (by simp) (by simp)
  | typeAssert x xt t ok =>
    obtain ⟨v, h1, h2⟩ := h
    exact hone (r := (v, σ)) (by simp only [aop, h1, Option.bind_some]) h2 (by simp) (by simp)
  | panic x => exact absurd rfl (hp x)
  | call c =>
    obtain ⟨b, hb⟩ := hc c rfl
    simp only [wval, hb] at h
    obtain ⟨r, h1, h2⟩ := wBuiltin_sound h
    exact ⟨r, by simp only [aop, hb, h1], h2⟩
  | _ => exact h.elim

end
end Go.Ax
namespace Go.Ax
open Go.RowKit

/-! ### Curried states of loops -/
def Cur : List Nat → Type
  | [] => AHeap → Prop
  | _ :: L => Value → Cur L
def Cur.at : (L : List Nat) → Cur L → List Value → AHeap → Prop
  | [], p, [], σ => p σ
  | _ :: L, p, v :: vs, σ => Cur.at L (p v) vs σ
  | [], _, _ :: _, _ => False
  | _ :: _, _, [], _ => False
/-- For all values of the slots. -/
def AllC : (L : List Nat) → (List Value → Prop) → Prop
  | [], p => p []
  | _ :: L, p => ∀ v, AllC L fun vs => p (v :: vs)
theorem AllC.at : ∀ (L : List Nat) (p : List Value → Prop), AllC L p → ∀ vs, vs.length = L.length → p vs
  | [], p, h, vs, hl => by
    have : vs = [] := List.length_eq_zero_iff.1 hl
    subst this; exact h
  | _ :: L, p, h, [], hl => by simp at hl
  | _ :: L, p, h, v :: vs, hl => AllC.at L (fun vs => p (v :: vs)) (h v) vs (by simpa using hl)
theorem Cur.at_len : ∀ (L : List Nat) (p : Cur L) (vs : List Value) (σ : AHeap), Cur.at L p vs σ → vs.length = L.length
  | [], p, [], σ, _ => rfl
  | _ :: L, p, v :: vs, σ, h => by simp [Cur.at_len L (p v) vs σ h]
  | [], _, _ :: _, _, h => h.elim
  | _ :: _, _, [], _, h => h.elim

section
variable (P : Program) (E : EvT)

def wone (o : Oper) (k : FK) (kp : WK) : FK := fun fr σ => wval P E (fev fr) o σ (fun v σ' => k (fput fr o.dst v) σ') kp

/-- What is known of the guard that was met last: the guard, the slot it hangs on, whether its operations are done. -/
abbrev GM := Option ((Nat × Bool) × Nat × Bool)
def gmAfter (md : GM) (o : Oper) : GM :=
  match md with
  | some (g, t, b) => match o.dst with
    | some d => cond (Nat.beq d t) none (some (g, t, b))
    | none => some (g, t, b)
  | none => none
/-- Is the guard the one that was met last? Then: are its operations done? -/
def gmIs (md : GM) (j : Nat) (want : Bool) : Option Bool :=
  match md with
  | some ((j', want'), _, b) => cond (Nat.beq j j' && (want == want')) (some b) none
  | none => none
def wguard (all : List Oper) (o : Oper) (md : GM) (yes no : GM → FK) : FK := fun fr σ =>
  match o.guard with
  | none => yes none fr σ
  | some (j, want) => match gmIs md j want with
    | some true => yes (gmAfter md o) fr σ
    | some false => no (gmAfter md o) fr σ
    | none => match (all[j]?).bind (·.dst) with
      | some t => wG (fget fr t)
          (cond want (yes (gmAfter (some ((j, want), t, true)) o) (fr.set t (.bool true)) σ) (no (gmAfter (some ((j, want), t, false)) o) (fr.set t (.bool true)) σ))
          (cond want (no (gmAfter (some ((j, want), t, false)) o) (fr.set t (.bool false)) σ) (yes (gmAfter (some ((j, want), t, true)) o) (fr.set t (.bool false)) σ))
          (no (gmAfter (some ((j, want), t, false)) o) fr σ)
      | none => False
def wops (all : List Oper) (kp : WK) : List Oper → GM → FK → FK
  | [], _, kn => kn
  | o :: os, md, kn => wguard all o md (fun md => wone P E o (wops all kp os md kn) kp) fun md fr σ => wops all kp os md kn (fput fr o.dst skipV) σ
def wnx (o : Oper) (p : Prop) : Prop :=
  match o.op with
  | .next _ false | .panic _ => False
  | _ => p
/-- Reads asked again: the guards' outcomes stand in the frame. -/
def wre (all : List Oper) : List Nat → FK → FK
  | [], k => k
  | q :: qs, k => fun fr σ => match all[q]? with
    | none => False
    | some o => wguard all o none (fun _ fr σ => match o.dst with
      | some d => wnx o (wval P (fun _ _ _ _ => False) (fev fr) o σ (fun v _ => veq1 v (fget fr d) = true ∧ wre all qs k fr σ) noP)
      | none => False) (fun _ => wre all qs k) fr σ
def gmChk (chk : List Nat) (md : GM) : GM :=
  match chk with
  | [] => md
  | _ => none
def wdops (all : List Oper) (kp : WK) : List (Nat × List Nat) → GM → FK → FK
  | [], _, kn => kn
  | (i, chk) :: os, md, kn => fun fr σ => match all[i]? with
    | none => False
    | some o => wguard all o md (fun md => wone P E o (wre P all chk (wdops all kp os (gmChk chk md) kn)) kp) (fun md fr σ => wdops all kp os md kn (fput fr o.dst skipV) σ) fr σ

def wpc (kp : WK) : AC → FK → (Nat → FK) → FK → FK
  | .skip, kn, _, _ => kn
  | .region _ ops, kn, _, _ => wops P E ops kp ops none kn
  | .dregion _ ops ord, kn, _, _ => wdops P E ops kp ord none kn
  | .seq a b, kn, ke, kr => wpc kp a (wpc kp b kn ke kr) ke kr
  | .cond c a b, kn, ke, kr => fun fr σ => wC (fev fr c) (wpc kp a kn ke kr fr σ) (wpc kp b kn ke kr fr σ)
  | .block id b, kn, ke, kr => wpc kp b kn (fun i fr σ => cond (Nat.beq i id) (kn fr σ) (ke i fr σ)) kr
  | .loop R L Lx b, _, ke, kr => fun fr σ => ∃ I : Nat → Cur L, (∃ m, Cur.at L (I m) (fpick L fr) σ) ∧
      ∀ m, AllC L fun vs => ∀ σ, Cur.at L (I m) vs σ → wpc kp b (fun fr σ => ∃ m' < m, Cur.at L (I m') (fpick L fr) σ) (fun i fr σ => ke i (fmake Lx (fpick Lx fr)) σ) (fun fr σ => kr (fmake Lx (fpick Lx fr)) σ) (fadd R fr (fmake L vs)) σ
  | .exit i, _, ke, _ => ke i
  | .ret, _, _, kr => kr
  | .other _, _, _, _ => fun _ _ => False
  | .join L b, kn, ke, kr => wpc kp b (fun fr σ => kn (fmake L (fpick L fr)) σ) (fun i fr σ => ke i (fmake L (fpick L fr)) σ) (fun fr σ => kr (fmake L (fpick L fr)) σ)
end

/-- What is known of a guard is so in the frame. -/
def GOk (all : List Oper) (md : GM) (fr : Fr) : Prop :=
  match md with
  | none => True
  | some ((j, want), t, b) => (all[j]?).bind (·.dst) = some t ∧
      ((b = true ∧ fr.get t = some (.bool want)) ∨ (b = false ∧ (fr.get t = some (.bool (!want)) ∨ (asB (fget fr t) = none ∧ isSkip (fget fr t) = true))))

theorem Tr.setF_self {α : Type} (x : α) : ∀ (f : Nat) (t : Tr α) (n : Nat), n < f → t.get n = some x → Tr.setF x f t n = t := by
  intro f
  induction f with
  | zero => intro t n h; omega
  | succ f ih =>
    intro t n h hg
    cases t with
    | leaf => rw [Tr.get_leaf] at hg; cases hg
    | node l v r =>
      cases n with
      | zero =>
        have hv : v = some x := hg
        subst hv
        rfl
      | succ n =>
        have hd : Nat.div n 2 < f := by show n / 2 < f; omega
        rw [Tr.get_succ] at hg
        simp only [Tr.setF, Tr.left_node, Tr.right_node] at hg ⊢
        cases hb : Nat.beq (Nat.mod n 2) 0 with
        | true => rw [hb] at hg; simp only [cond_true] at hg ⊢; rw [ih l _ hd hg]; rfl
        | false => rw [hb] at hg; simp only [cond_false] at hg ⊢; rw [ih r _ hd hg]; rfl
theorem Tr.set_self {α : Type} {t : Tr α} {n : Nat} {x : α} (h : t.get n = some x) : t.set n x = t := Tr.setF_self x _ t n (Nat.lt_succ_self n) h

theorem fget_of {fr : Fr} {t : Nat} {v : Value} (h : fr.get t = some v) : fget fr t = v := by unfold fget; rw [h]

theorem GOk.after {all : List Oper} {md : GM} {fr : Fr} (h : GOk all md fr) (o : Oper) (v : Value) : GOk all (gmAfter md o) (fput fr o.dst v) := by
  unfold gmAfter
  rcases md with _ | ⟨⟨j, want⟩, t, b⟩
  · trivial
  · cases hd : o.dst with
    | none => exact h
    | some d =>
      simp only
      cases hb : Nat.beq d t with
      | true => trivial
      | false =>
        have hne : ¬ t = d := fun e => by subst e; simp at hb
        obtain ⟨h1, h2⟩ := h
        refine ⟨h1, ?_⟩
        simp only [fput, Tr.get_set, fget_set, if_neg hne]
        exact h2

/-! ### Functions -/
def wRes (P : Program) : List ResultVar → Fr → AHeap → (List Value → Prop) → Prop
  | [], _, _, k => k []
  | .tmp t :: l, fr, σ, k => wRes P l fr σ fun vs => k (fget fr t :: vs)
  | .cell a t :: l, fr, σ, k => match shp P t with
    | some (g, n) => pu (aLoad g n (fget fr a) σ) fun v => wRes P l fr σ fun vs => k (v :: vs)
    | none => False
def tup : List Value → Value
  | [v] => v
  | l => .tuple l.toArray

/-- What is asked at a function's end. -/
def wret (P : Program) (res : List ResultVar) (Q : RK) : FK := fun fr σ => wRes P res fr σ fun vs => Q (.ret (tup vs)) σ
/-- What is asked of a function's body. -/
def wfun (P : Program) (E : EvT) (F : FuncId → Option AFun) (f : FuncId) (args : List Value) (σ : AHeap) (Q : RK) : Prop :=
  match F f with
  | some af => cond (Nat.beq args.length af.params) (wpc P E (fun v σ => Q (.pan v) σ) af.body (wret P af.res Q) (fun _ _ _ => False) (wret P af.res Q) (fmake (List.range af.params) args) σ) False
  | none => False
end Go.Ax
namespace Go.Ax
open Go.RowKit

section
variable {P : Program} {B : Nat} {w0 : World} {ρ : List RB} {σ : AHeap} {w : World} {C : Cx} {fr : Fr} {a : Act}

theorem ret_call {o : Oper} {g : FuncId} {args : Array Value} {args' : List Value} {K kp : WK} {next : Act → World → Prop} {Q : Exit → Act → World → Prop} {eargs : List Value}
    (hE : Ev P g eargs σ (RP K kp)) (h : Rel B w0 ρ σ w) (ha : LR ρ eargs args') (hargs : args'.toArray = args)
    (hk : ∀ v σ' ρ' v' w', K v σ' → Ext ρ ρ' → Rel B w0 ρ' σ' w' → VR ρ' v v' → next (a.put o.dst v') w') (hkp : KP B w0 C ρ kp Q) (hc : Keep C a) :
    o.upon P a next Q ((callFunc g args).run P w) := by
  subst hargs
  obtain ⟨fn, hfn, hname, hor⟩ := hE B w0 ρ w args' h ha
  rcases hor with ⟨hb, hcl⟩ | ⟨v, v', ρ', σ', w', hm, hrun, e1, e2, e3⟩
  · rw [run_callFunc hfn hname hb, Oper.upon_enter]
    refine Calls.mono hcl fun e w' ⟨r, ρ', σ', q, hr, e1, e2⟩ => ?_
    cases r with
    | ret v => obtain ⟨v', rfl, hv⟩ := hr; exact hk v σ' ρ' v' w' q e1 e2 hv
    | pan v => obtain ⟨v', rfl, hv⟩ := hr; exact hkp ρ' v v' σ' a w' e1 hc e2 hv q
  · rw [hrun]
    exact hk v σ' ρ' v' w' hm e1 e2 e3

theorem wval_sound {o : Oper} {ev : Operand → Value} {K kp : WK} {next : Act → World → Prop} {Q : Exit → Act → World → Prop}
    (hev : ∀ x ∈ o.op.operands, VR ρ (ev x) (a.eval x)) (h : Rel B w0 ρ σ w) (hr : wval P (Ev P) ev o σ K kp)
    (hk : ∀ v σ' ρ' v' w', K v σ' → Ext ρ ρ' → Rel B w0 ρ' σ' w' → VR ρ' v v' → next (a.put o.dst v') w') (hkp : KP B w0 C ρ kp Q) (hc : Keep C a) :
    o.wp P a w next Q := by
  by_cases hcall : ∃ c, o.op = .call c ∧ ∀ b, c.callee ≠ .builtin b
  · obtain ⟨c, ho, hnb⟩ := hcall
    simp only [wval, ho] at hr
    split at hr
    · rename_i b hb; exact absurd hb (hnb b)
    · rename_i f hcal
      unfold wF at hr
      split at hr
      · rename_i g first captured hfv
        have hev2 : ∀ x ∈ c.args.toList, VR ρ (ev x) (a.eval x) := fun x hx => hev x (by rw [ho]; simp only [Op.operands, Call.operands, hcal]; simp; right; simpa using hx)
        have hev1 := hev f (by rw [ho]; simp only [Op.operands, Call.operands, hcal]; simp)
        rw [hfv] at hev1
        generalize hfa : a.eval f = fa at hev1
        cases hev1 with
        | func fn f1 f' c1 c' h1 h2 h3 h4 =>
          have hfirst := LR.of_arr h1 h3
          have hcap := LR.of_arr h2 h4
          have hmid : LR ρ (c.args.toList.map ev) (c.args.toList.map a.eval) := by
            refine ⟨by simp, fun i v v' x y => ?_⟩
            simp only [List.getElem?_map, Option.map_eq_some_iff] at x y
            obtain ⟨u, hu, rfl⟩ := x
            obtain ⟨u', hu', rfl⟩ := y
            rw [hu] at hu'; cases hu'
            exact hev2 u (List.mem_of_getElem? hu)
          have hargs : LR ρ (first.toList ++ c.args.toList.map ev ++ captured.toList) (f'.toList ++ c.args.toList.map a.eval ++ c'.toList) :=
            (hfirst.append hmid).append hcap
          have hexec : (execOp a.eval o).run P w = (callFunc g (f' ++ c.args.map a.eval ++ c')).run P w := by
            have : o = { o with op := .call c } := by rw [← ho]
            rw [this]
            simp [execOp, resolve, hcal, Deferred.ofValue, hfa, invoke]
          unfold Oper.wp
          rw [hexec]
          exact ret_call hr h hargs (by apply Array.ext'; simp) hk hkp hc
      · exact hr.elim
    · rename_i r name hcal
      obtain ⟨⟨g, v0⟩, hmv, hr⟩ := hr
      have hev2 : ∀ x ∈ c.args.toList, VR ρ (ev x) (a.eval x) := fun x hx => hev x (by rw [ho]; simp only [Op.operands, Call.operands, hcal]; simp; right; simpa using hx)
      have hev1 := hev r (by rw [ho]; simp only [Op.operands, Call.operands, hcal]; simp)
      obtain ⟨t, u, v1, hru, hmeth, hv1⟩ := aMethod_sound (P := P) h hev1 hmv
      have hmid : LR ρ (c.args.toList.map ev) (c.args.toList.map a.eval) := by
        refine ⟨by simp, fun i v v' x y => ?_⟩
        simp only [List.getElem?_map, Option.map_eq_some_iff] at x y
        obtain ⟨u, hu, rfl⟩ := x
        obtain ⟨u', hu', rfl⟩ := y
        rw [hu] at hu'; cases hu'
        exact hev2 u (List.mem_of_getElem? hu)
      have hexec : (execOp a.eval o).run P w = (callFunc g (#[v1] ++ c.args.map a.eval)).run P w := by
        have : o = { o with op := .call c } := by rw [← ho]
        rw [this]
        have hm := hmeth (P.types.size + Made.depth) (by simp [Made.depth])
        simp only [execOp, resolve, hcal, pure_bind]
        rw [invoke_method, hru]
        simp [callMethod, hm]
      unfold Oper.wp
      rw [hexec]
      exact ret_call hr h (LR.cons hv1 hmid) (by apply Array.ext'; simp) hk hkp hc
  · by_cases hnext : ∃ it, o.op = .next it false
    · obtain ⟨it, ho⟩ := hnext
      simp only [wval, ho, cond_false] at hr
      obtain ⟨L, h1, h2⟩ := hr
      obtain ⟨y, hyL, v', w', e1, e2, e3⟩ := aNextMap_sound (P := P) (t := o.type) h (hev it (by rw [ho]; simp [Op.operands])) h1
      have hexec : (execOp a.eval o).run P w = .ok (.value v') w' := by
        have : o = { o with op := .next it false } := by rw [← ho]
        rw [this]
        simp [execOp, e1]
      unfold Oper.wp
      rw [hexec]
      exact hk y.1 y.2 ρ v' w' (h2 y hyL) (Ext.refl _) e2 e3
    · by_cases hpan : ∃ x, o.op = .panic x
      · obtain ⟨x, ho⟩ := hpan
        simp only [wval, ho, wPan] at hr
        split at hr
        · rename_i t u hx
          have hv := hev x (by rw [ho]; simp [Op.operands])
          rw [hx] at hv
          have hv0 := hv
          obtain ⟨u', hu', _, _⟩ := hv.iface_inv
          have hexec : (execOp a.eval o).run P w = .halt (.panic (.iface t u')) w := by
            have : o = { o with op := .panic x } := by rw [← ho]
            rw [this]
            simp only [execOp, hu']
            rfl
          unfold Oper.wp
          rw [hexec]
          rw [hu'] at hv0
          exact hkp ρ _ _ σ a w (Ext.refl _) hc h hv0 hr
        · exact hr.elim
      · have hb : ∀ c, o.op = .call c → ∃ b, c.callee = .builtin b := fun c hc => by
          refine Classical.byContradiction fun hno => hcall ⟨c, hc, fun b hb => hno ⟨b, hb⟩⟩
        obtain ⟨r, h1, h2⟩ := wval_aop hb (fun it hi => hnext ⟨it, hi⟩) (fun x hx => hpan ⟨x, hx⟩) hr
        have hex : ∃ ev' : Operand → Value, (∀ x ∈ o.op.operands, ev x = ev' x) ∧ ∀ x, VR ρ (ev' x) (a.eval x) := by
          classical
          refine ⟨fun x => if x ∈ o.op.operands then ev x else undef, fun x hx => (if_pos hx).symm, fun x => ?_⟩
          simp only
          split
          · rename_i hx; exact hev x hx
          · exact .dead _
        obtain ⟨ev', he1, he2⟩ := hex
        rw [aop_congr he1] at h1
        obtain ⟨n, w', ρ', v', e1, e2, e3, e4, e5⟩ := aop_sound h he2 h1
        unfold Oper.wp
        rw [e1]
        have hfin := hk r.1 r.2 ρ' v' w' h2 e3 e4 e5
        rcases e2 with rfl | ⟨rfl, rfl⟩
        · exact hfin
        · exact hfin

theorem wone_sound {o : Oper} (ho : ∀ d, o.dst = some d → C.ok d) {k : FK} {kp : WK} {next : Act → World → Prop} {Q : Exit → Act → World → Prop}
    (hk : KS B w0 C ρ k next) (hkp : KP B w0 C ρ kp Q) (hf : FR C ρ fr a) (h : Rel B w0 ρ σ w) (hr : wone P (Ev P) o k kp fr σ) : o.wp P a w next Q :=
  wval_sound (fun x _ => hf.ev x) h hr (fun v σ' ρ' v' w' hm e1 e2 e3 => hk ρ' _ σ' _ w' e1 ((hf.mono e1).put e3 ho) e2 hm) hkp hf.kp

def dstOk (N : Nat) (Lp : List Nat) (o : Oper) : Bool :=
  match o.dst with
  | none => true
  | some d => Nat.blt d N && !Lp.contains d
theorem dstOk_spec {o : Oper} (h : dstOk C.N C.Lp o = true) : ∀ d, o.dst = some d → C.ok d := by
  intro d hd
  unfold dstOk at h
  rw [hd] at h
  simp only [Bool.and_eq_true, Bool.not_eq_true'] at h
  refine ⟨by simpa using h.1, fun hm => ?_⟩
  have := List.elem_eq_true_of_mem hm
  rw [List.contains, this] at h
  simp at h

theorem wguard_sound {all : List Oper} {o : Oper} {md : GM} {yes no : GM → FK} (hf : FR C ρ fr a) (hg : GOk all md fr) (hr : wguard all o md yes no fr σ) :
    (Region.wanted o (yielded all.toArray a.tmps) = true ∧ ∃ fr' md', FR C ρ fr' a ∧ GOk all md' fr' ∧ yes (gmAfter md' o) fr' σ) ∨
    (Region.wanted o (yielded all.toArray a.tmps) = false ∧ ∃ fr' md', FR C ρ fr' a ∧ GOk all md' fr' ∧ no (gmAfter md' o) fr' σ) := by
  have hbt : ∀ {v : Value} {b : Bool}, asB v = some b → v = .bool b := fun {v b} hb => by
    unfold asB at hb; split at hb
    · cases hb; rfl
    · cases hb
  unfold wguard at hr
  split at hr
  · rename_i hgd; exact .inl ⟨by simp [Region.wanted, hgd], fr, none, hf, trivial, hr⟩
  · rename_i j want hgd
    have hfacts : ∀ bb, gmIs md j want = some bb → ∃ t, md = some ((j, want), t, bb) := by
      intro bb hm
      unfold gmIs at hm
      split at hm
      · rename_i j' want' t b
        cases hc : (Nat.beq j j' && (want == want')) with
        | false => rw [hc] at hm; cases hm
        | true =>
          rw [hc] at hm
          simp only [cond_true, Option.some.injEq] at hm
          subst hm
          simp only [Bool.and_eq_true, beq_iff_eq] at hc
          have hj := Nat.eq_of_beq_eq_true hc.1
          have hw := hc.2
          subst hj; subst hw
          exact ⟨t, rfl⟩
      · cases hm
    split at hr
    · rename_i hm
      obtain ⟨t, rfl⟩ := hfacts true hm
      have hg0 := hg
      obtain ⟨h1, h2⟩ := hg
      rcases h2 with ⟨_, h2⟩ | ⟨h2, _⟩
      · have hy := hf.yielded h1 (fget_of h2)
        exact .inl ⟨by simp [Region.wanted, hgd, hy], fr, _, hf, hg0, hr⟩
      · cases h2
    · rename_i hm
      obtain ⟨t, rfl⟩ := hfacts false hm
      have hg0 := hg
      obtain ⟨h1, h2⟩ := hg
      rcases h2 with ⟨h2, _⟩ | ⟨_, h2 | ⟨_, h3⟩⟩
      · cases h2
      · have hy := hf.yielded h1 (fget_of h2)
        exact .inr ⟨by cases want <;> simp [Region.wanted, hgd, hy], fr, _, hf, hg0, hr⟩
      · have hv := (hf.val t).isSkip h3
        have hy := yielded_skip (all := all) h1 hv
        exact .inr ⟨by simp [Region.wanted, hgd, hy], fr, _, hf, hg0, hr⟩
    · split at hr
      · rename_i t ht
        have hset : ∀ b : Bool, (fr.set t (.bool b)).get t = some (.bool b) := fun b => by rw [Tr.get_set, if_pos rfl]
        unfold wG at hr
        split at hr
        · rename_i hb
          have hb' := hbt hb
          have hy := hf.yielded ht hb'
          cases want with
          | true => exact .inl ⟨by simp [Region.wanted, hgd, hy], _, some ((j, true), t, true), hf.setb hb', ⟨ht, .inl ⟨rfl, hset true⟩⟩, hr⟩
          | false => exact .inr ⟨by simp [Region.wanted, hgd, hy], _, some ((j, false), t, false), hf.setb hb', ⟨ht, .inr ⟨rfl, .inl (hset true)⟩⟩, hr⟩
        · rename_i hb
          have hb' := hbt hb
          have hy := hf.yielded ht hb'
          cases want with
          | true => exact .inr ⟨by simp [Region.wanted, hgd, hy], _, some ((j, true), t, false), hf.setb hb', ⟨ht, .inr ⟨rfl, .inl (hset false)⟩⟩, hr⟩
          | false => exact .inl ⟨by simp [Region.wanted, hgd, hy], _, some ((j, false), t, true), hf.setb hb', ⟨ht, .inl ⟨rfl, hset false⟩⟩, hr⟩
        · rename_i hb
          have hv := (hf.val t).isSkip hr.1
          have hy := yielded_skip (all := all) ht hv
          exact .inr ⟨by simp [Region.wanted, hgd, hy], fr, some ((j, want), t, false), hf, ⟨ht, .inr ⟨rfl, .inr ⟨hb, hr.1⟩⟩⟩, hr.2⟩
      · exact hr.elim

theorem wops_sound {all : List Oper} {kn : FK} {kp : WK} {Q : Exit → Act → World → Prop} :
    ∀ (os : List Oper) (i : Nat) (md : GM), all.drop i = os → (∀ o ∈ os, dstOk C.N C.Lp o = true) → ∀ ρ fr σ a w, KS B w0 C ρ kn (Q .normal) → KP B w0 C ρ kp Q → FR C ρ fr a → Rel B w0 ρ σ w → GOk all md fr →
      wops P (Ev P) all kp os md kn fr σ → wpOps P all.toArray Q (List.range' i os.length) a w := by
  intro os
  induction os with
  | nil =>
    intro i md hd _ ρ fr σ a w hk hkp hf h hg hr
    simp only [List.length_nil, List.range'_zero, wpOps]
    exact hk ρ fr σ a w (Ext.refl _) hf h hr
  | cons o os ih =>
    intro i md hd hdst ρ fr σ a w hk hkp hf h hg hr
    have hoi : all[i]? = some o := by
      have := congrArg (·[0]?) hd
      simpa using this
    have hd' : all.drop (i + 1) = os := by
      have := congrArg List.tail hd
      simpa using this
    have ho := dstOk_spec (hdst o (by simp))
    simp only [List.length_cons, List.range'_succ, wpOps]
    have hoi' : all.toArray[i]? = some o := by simpa using hoi
    rw [hoi']
    simp only
    unfold wops at hr
    rcases wguard_sound hf hg hr with ⟨hw, fr', md', hf', hg', hr'⟩ | ⟨hw, fr', md', hf', hg', hr'⟩
    · rw [if_pos hw]
      refine .inl (wval_sound (C := C) (fun x _ => hf'.ev x) h hr' (fun v σ' ρ' v' w' hm e1 e2 e3 => ?_) hkp hf'.kp)
      exact ih (i + 1) _ hd' (fun o ho => hdst o (by simp [ho])) ρ' _ σ' _ w' (hk.mono e1) (hkp.mono e1) ((hf'.mono e1).put e3 ho) e2 (hg'.after o v) hm
    · rw [if_neg (by simp [hw])]
      exact ih (i + 1) _ hd' (fun o ho => hdst o (by simp [ho])) ρ _ σ _ w hk hkp (hf'.put .skp ho) h (hg'.after o skipV) hr'
end
end Go.Ax
namespace Go.Ax
open Go.RowKit

/-! ### What stands before what -/
def befMask (acc : List Nat) (o : Oper) : Nat := o.after.toList.foldl (fun m e => cond (Region.binds .any e) (m ||| 2 ^ e.on ||| acc.getD e.on 0) m) 0
def befs : List Oper → List Nat → List Nat
  | [], acc => acc
  | o :: os, acc => befs os (acc ++ [befMask acc o])

inductive Bef (all : List Oper) : Nat → Nat → Prop where
  | edge (i : Nat) (o : Oper) (e : Edge) : all[i]? = some o → e ∈ o.after.toList → Region.binds .any e = true → Bef all e.on i
  | trans (i j : Nat) (o : Oper) (e : Edge) : all[i]? = some o → e ∈ o.after.toList → Region.binds .any e = true → Bef all j e.on → Bef all j i

theorem foldMask_mem (acc : List Nat) (j : Nat) : ∀ (l : List Edge) (m : Nat), (l.foldl (fun m e => cond (Region.binds .any e) (m ||| 2 ^ e.on ||| acc.getD e.on 0) m) m).testBit j = true →
    m.testBit j = true ∨ ∃ e ∈ l, Region.binds .any e = true ∧ (e.on = j ∨ (acc.getD e.on 0).testBit j = true)
  | [], m, h => .inl h
  | e :: l, m, h => by
    simp only [List.foldl_cons] at h
    rcases foldMask_mem acc j l _ h with h1 | ⟨e', he, hb, hh⟩
    · cases hb : Region.binds .any e with
      | false => rw [hb] at h1; exact .inl h1
      | true =>
        rw [hb] at h1
        simp only [cond_true, Nat.testBit_or, Bool.or_eq_true, Nat.testBit_two_pow, decide_eq_true_eq] at h1
        rcases h1 with (h1 | h1) | h1
        · exact .inl h1
        · exact .inr ⟨e, by simp, hb, .inl h1⟩
        · exact .inr ⟨e, by simp, hb, .inr h1⟩
    · exact .inr ⟨e', by simp [he], hb, hh⟩

theorem befs_sound (all : List Oper) : ∀ (os pre : List Oper) (acc : List Nat), all = pre ++ os → acc.length = pre.length → (∀ (i : Nat) m j, acc[i]? = some m → m.testBit j = true → Bef all j i) →
    ∀ (i : Nat) m j, (befs os acc)[i]? = some m → m.testBit j = true → Bef all j i
  | [], _, acc, _, _, h => h
  | o :: os, pre, acc, he, hl, h => by
    refine befs_sound all os (pre ++ [o]) (acc ++ [befMask acc o]) (by simp [he]) (by simp [hl]) ?_
    intro i m j hi hm
    rw [List.getElem?_append] at hi
    split at hi
    · exact h i m j hi hm
    · rename_i hlt
      have hi0 : i - acc.length = 0 := by
        rcases Nat.eq_zero_or_pos (i - acc.length) with h0 | h0
        · exact h0
        · rw [List.getElem?_eq_none (by simp; omega)] at hi; cases hi
      rw [hi0] at hi
      simp only [List.getElem?_cons_zero, Option.some.injEq] at hi
      subst hi
      have hio : all[i]? = some o := by
        have : i = pre.length := by omega
        rw [he, this]; simp
      rcases foldMask_mem acc j o.after.toList 0 hm with h1 | ⟨e, hmem, hb, hh⟩
      · simp at h1
      · rcases hh with rfl | hh
        · exact .edge i o e hio hmem hb
        · rw [List.getD_eq_getElem?_getD] at hh
          cases hacc : acc[e.on]? with
          | none => rw [hacc] at hh; simp at hh
          | some m' =>
            rw [hacc] at hh
            exact .trans i j o e hio hmem hb (h _ m' j hacc hh)

def isB (b : List Nat) (j i : Nat) : Bool := (b.getD i 0).testBit j

theorem isB_sound {all : List Oper} {j i : Nat} (h : isB (befs all []) j i = true) : Bef all j i := by
  unfold isB at h
  rw [List.getD_eq_getElem?_getD] at h
  cases hi : (befs all [])[i]? with
  | none => rw [hi] at h; simp at h
  | some m => rw [hi] at h; exact befs_sound all all [] [] rfl rfl (fun i m j x => by simp at x) i m j hi h

def Closed (all : List Oper) (S : Nat → Prop) : Prop := ∀ i o, all[i]? = some o → S i → ∀ e ∈ o.after.toList, Region.binds .any e = true → S e.on

theorem Bef.closed {all : List Oper} {S : Nat → Prop} (hc : Closed all S) {j i : Nat} (h : Bef all j i) : (∀ o, all[i]? = some o → ∀ e ∈ o.after.toList, Region.binds .any e = true → S e.on) → S j := by
  induction h with
  | edge i o e ho he hb => exact fun hx => hx o ho e he hb
  | trans i j o e ho he hb _ ih => exact fun hx => ih fun o' ho' => hc e.on o' ho' (hx o ho e he hb)

/-! ### The kinds of operations -/
/-- Only computes. -/
def quietB : Op → Bool
  | .move _ | .assign _ | .pick .. | .build .. | .nilCheck _ | .binOp .. | .unOp .. | .makeInterface .. | .makeFunc .. | .slice .. | .fieldAddr .. | .field .. | .indexAddr .. | .index .. | .extract .. | .typeAssert .. => true
  | .call c => match c.callee with
    | .builtin .min | .builtin .max => true
    | _ => false
  | .buildSlice _ n _ => Nat.beq n 0
  | _ => false
/-- Reads. -/
def readB : Op → Bool
  | .load .. | .convert .. | .lookup .. | .entry .. => true
  | .call c => match c.callee with
    | .builtin .len => true
    | _ => false
  | _ => false

section
variable {P : Program}

theorem bind_some_map {α : Type} (q : Option α) (σ : AHeap) : (q.bind fun v => some (v, σ)) = q.map fun v => (v, σ) := by cases q <;> rfl

theorem aop_quiet (ev : Operand → Value) {o : Oper} (hq : quietB o.op = true) : ∃ q : Option Value, ∀ σ, aop P ev o σ = q.map fun v => (v, σ) := by
  obtain ⟨dst, op, type, pos, after, guard⟩ := o
  cases op <;> simp only [quietB, reduceCtorEq] at hq
  case move x => exact ⟨some (ev x), fun σ => rfl⟩
  case assign x => exact ⟨some (ev x), fun σ => rfl⟩
  case pick c a b => exact ⟨(asB (ev c)).map fun t => cond t (ev a) (ev b), fun σ => by simp only [aop]; cases asB (ev c) <;> rfl⟩
  case build t ps => exact ⟨_, fun σ => by simp only [aop]; exact bind_some_map _ σ⟩
  case buildSlice t n ps =>
    have h0 : n = 0 := Nat.eq_of_beq_eq_true hq
    subst h0
    cases hn : (Nat.beq 0 0 && !ps.toList.isEmpty) with
    | true => exact ⟨none, fun σ => by simp only [aop, hn, cond_true]; rfl⟩
    | false =>
      cases he : elemOf? P t with
      | none => exact ⟨none, fun σ => by simp only [aop, hn, cond_false, aBuildSlice, he]; rfl⟩
      | some x => exact ⟨some (.slice (some ⟨ZB, 0, some 0⟩) 0 0), fun σ => by simp only [aop, hn, cond_false, aBuildSlice, he]; rfl⟩
  case nilCheck x => exact ⟨_, fun σ => by simp only [aop]; exact bind_some_map _ σ⟩
  case binOp op t x y ty => exact ⟨_, fun σ => by simp only [aop]; exact bind_some_map _ σ⟩
  case unOp op t x => exact ⟨_, fun σ => by simp only [aop]; exact bind_some_map _ σ⟩
  case makeInterface t x => exact ⟨_, fun σ => by simp only [aop]; exact bind_some_map _ σ⟩
  case makeFunc fn f c => exact ⟨some (.func fn (f.toList.map ev).toArray (c.toList.map ev).toArray), fun σ => rfl⟩
  case slice t x lo hi mx => exact ⟨_, fun σ => by simp only [aop]; exact bind_some_map _ σ⟩
  case fieldAddr t x f => exact ⟨(fieldOff P t f).bind fun off => aFieldAddr off (ev x), fun σ => by simp only [aop]; cases fieldOff P t f <;> simp [bind_some_map]⟩
  case field t x f => exact ⟨_, fun σ => by simp only [aop]; exact bind_some_map _ σ⟩
  case indexAddr t x i => exact ⟨_, fun σ => by simp only [aop]; exact bind_some_map _ σ⟩
  case index t x i => exact ⟨_, fun σ => by simp only [aop]; exact bind_some_map _ σ⟩
  case extract x i => exact ⟨_, fun σ => by simp only [aop]; exact bind_some_map _ σ⟩
  case typeAssert x xt t ok => exact ⟨_, fun σ => by simp only [aop]; exact bind_some_map _ σ⟩
  case call c =>
    obtain ⟨callee, args, argTypes⟩ := c
    cases callee with
    | builtin b =>
      have hb : ∃ q : Option Value, ∀ σ, aBuiltin P b argTypes.toList (args.toList.map ev) σ = q.map fun v => (v, σ) := by
        generalize argTypes.toList = ts
        generalize args.toList.map ev = l
        cases b <;> simp only [reduceCtorEq] at hq
        case max =>
          match l with
          | [x, y] => exact ⟨_, fun σ => by simp only [aBuiltin]; exact bind_some_map _ σ⟩
          | [] => exact ⟨none, fun σ => rfl⟩
          | [x] => exact ⟨none, fun σ => rfl⟩
          | _ :: _ :: _ :: _ => exact ⟨none, fun σ => rfl⟩
        case min =>
          match l with
          | [x, y] => exact ⟨_, fun σ => by simp only [aBuiltin]; exact bind_some_map _ σ⟩
          | [] => exact ⟨none, fun σ => rfl⟩
          | [x] => exact ⟨none, fun σ => rfl⟩
          | _ :: _ :: _ :: _ => exact ⟨none, fun σ => rfl⟩
      obtain ⟨q, hq'⟩ := hb
      exact ⟨q, fun σ => by simp only [aop]; exact hq' σ⟩
    | _ => simp only [reduceCtorEq] at hq

theorem aop_keep {ev : Operand → Value} {o : Oper} {σ : AHeap} {v : Value} {σ' : AHeap} (hq : (quietB o.op || readB o.op) = true) (h : aop P ev o σ = some (v, σ')) : σ' = σ := by
  rw [Bool.or_eq_true] at hq
  rcases hq with hq | hq
  · obtain ⟨q, hq⟩ := aop_quiet (P := P) ev hq
    rw [hq σ] at h
    simp only [Option.map_eq_some_iff, Prod.mk.injEq] at h
    obtain ⟨u, _, _, rfl⟩ := h
    rfl
  · obtain ⟨dst, op, type, pos, after, guard⟩ := o
    cases op <;> simp only [readB, reduceCtorEq] at hq
    case load t a =>
      simp only [aop, Option.bind_eq_some_iff, Option.some.injEq, Prod.mk.injEq] at h
      obtain ⟨_, _, _, _, _, rfl⟩ := h
      rfl
    case call c =>
      obtain ⟨callee, args, argTypes⟩ := c
      cases callee with
      | builtin b =>
        simp only [aop] at h
        cases b <;> simp only [reduceCtorEq] at hq
        simp only [aBuiltin] at h
        split at h <;> first | cases h | rename_i hc _ | skip
        all_goals first | (exfalso; simp_all; done) | skip
        all_goals simp only [Option.bind_eq_some_iff, Option.some.injEq, Prod.mk.injEq] at h
        all_goals obtain ⟨_, _, _, rfl⟩ := h
        all_goals rfl
      | _ => simp only [reduceCtorEq] at hq
    all_goals simp only [aop, Option.bind_eq_some_iff, Option.some.injEq, Prod.mk.injEq] at h
    all_goals obtain ⟨_, _, _, rfl⟩ := h
    all_goals rfl

theorem aop_pure {ev : Operand → Value} {o : Oper} {σ : AHeap} {v : Value} {σ' : AHeap} (σ2 : AHeap) (hq : quietB o.op = true) (h : aop P ev o σ = some (v, σ')) : aop P ev o σ2 = some (v, σ2) := by
  obtain ⟨q, hq⟩ := aop_quiet (P := P) ev hq
  rw [hq σ] at h
  rw [hq σ2]
  simp only [Option.map_eq_some_iff, Prod.mk.injEq] at h ⊢
  obtain ⟨u, hu, rfl, _⟩ := h
  exact ⟨u, hu, rfl, trivial⟩

theorem veq0_sound {a b : Value} (h : veq0 a b = true) : a = b := by
  unfold veq0 at h
  split at h <;> (try simp only [Bool.and_eq_true, beq_iff_eq, decide_eq_true_eq] at h)
  · rw [h]
  · rw [h.1, h.2]
  · rename_i x y
    have : x.data = y.data := Array.ext' h
    have : x = y := ByteArray.ext this
    rw [this]
  · rw [h]
  · obtain ⟨⟨h1, h2⟩, h3⟩ := h
    rw [h1, Nat.eq_of_beq_eq_true h2, Nat.eq_of_beq_eq_true h3]
  · rw [h]
  · rfl
  · rfl
  · cases h
theorem veq_sound {a b : Value} (h : veq a b = true) : a = b := by
  unfold veq at h
  split at h
  · simp only [Bool.and_eq_true] at h
    rw [Nat.eq_of_beq_eq_true h.1, veq0_sound h.2]
  · exact veq0_sound h
theorem veqs_sound : ∀ {a b : List Value}, veqs a b = true → a = b
  | [], [], _ => rfl
  | x :: l, y :: m, h => by
    simp only [veqs, Bool.and_eq_true] at h
    rw [veq_sound h.1, veqs_sound h.2]
  | [], _ :: _, h => by cases h
  | _ :: _, [], h => by cases h
theorem veq1_sound {a b : Value} (h : veq1 a b = true) : a = b := by
  unfold veq1 at h
  split at h
  · rename_i x y
    have : x = y := Array.ext' (veqs_sound h)
    rw [this]
  · rename_i x y
    have : x = y := Array.ext' (veqs_sound h)
    rw [this]
  · exact veq_sound h

/-! ### The check of a region -/
def looks (all : List Oper) (o : Oper) : List Tmp :=
  (o.op.operands.toList.filterMap fun | .tmp t => some t | _ => none) ++
  (match o.guard with
   | some (g, _) => ((all[g]?).bind (·.dst)).toList
   | none => [])

theorem looks_operand {all : List Oper} {o : Oper} {t : Nat} (h : Operand.tmp t ∈ o.op.operands) : t ∈ looks all o := by
  unfold looks
  refine List.mem_append_left _ (List.mem_filterMap.2 ⟨.tmp t, by simpa using h, rfl⟩)
theorem looks_guard {all : List Oper} {o : Oper} {j t : Nat} {b : Bool} (hg : o.guard = some (j, b)) (ht : (all[j]?).bind (·.dst) = some t) : t ∈ looks all o := by
  unfold looks
  refine List.mem_append_right _ ?_
  rw [hg]
  simp only [ht]
  simp

def floatB (op : Op) : Bool := quietB op || readB op

/-- An operation that stands earlier in the chosen order, and this one. -/
def pairOk (all : List Oper) (b : List Nat) (chk : List Nat) (k i : Nat) (ok o : Oper) : Bool :=
  !(Nat.beq k i) && !(isB b i k) &&
  (match ok.dst, o.dst with | some d, some d' => !(Nat.beq d d') | _, _ => true) &&
  (match ok.dst with | some d => !(looks all o).contains d || isB b k i | none => true) &&
  (match o.dst with | some d => !(looks all ok).contains d || isB b k i | none => true) &&
  (floatB ok.op || isB b k i) &&
  (floatB o.op || !(readB ok.op) || isB b k i || chk.contains k)

/-- A read that is asked again: nothing that stands before it in the order, but what must, wrote what it looks at. -/
def chkOk (all : List Oper) (b : List Nat) (pre : List Nat) (q : Nat) : Bool :=
  match all[q]? with
  | none => false
  | some oq => floatB oq.op && oq.dst.isSome && pre.contains q && pre.all fun k => match all[k]? with
    | some ok => match ok.dst with
      | some d => !(looks all oq).contains d || isB b k q
      | none => true
    | none => false

def dChk (N : Nat) (Lp : List Nat) (all : List Oper) (b : List Nat) (pre : List Nat) : List (Nat × List Nat) → Bool
  | [] => true
  | (i, chk) :: post => match all[i]? with
    | none => false
    | some o => dstOk N Lp o && (!(floatB o.op) || (o.dst.isSome && chk.isEmpty)) &&
      pre.all (fun k => match all[k]? with | some ok => pairOk all b chk k i ok o | none => false) &&
      chk.all (chkOk all b (i :: pre)) && chk.all (fun q => !(Nat.beq q i)) && dChk N Lp all b (i :: pre) post

def edgesOk (all : List Oper) : Bool := (List.range all.length).all fun i => match all[i]? with
  | some o => o.after.toList.all fun e => !(Region.binds .any e) || Nat.blt e.on i
  | none => false

def dOk (N : Nat) (Lp : List Nat) (all : List Oper) (ord : List (Nat × List Nat)) : Bool :=
  edgesOk all && (List.range all.length).all (fun i => (ord.map (·.1)).contains i) && dChk N Lp all (befs all []) [] ord
end
end Go.Ax
