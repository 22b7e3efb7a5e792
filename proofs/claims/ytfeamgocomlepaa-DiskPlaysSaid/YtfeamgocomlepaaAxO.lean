/- Steps over maps, entries, assertions, methods: the abstract operations are met by the machine's. No statement of the seat is proved here. -/
import Derived.Test.YtfeamgocomlepaaAxN
namespace Go.Ax
open Go.RowKit

section
variable {P : Program} {B : Nat} {w0 : World} {ρ : List RB} {σ : AHeap} {w : World}

theorem ERel.nil : ERel ρ [] [] := ⟨rfl, fun i e e' a => by simp at a⟩
theorem ERel.cons_inv {e : MapEntry} {es es' : List MapEntry} (h : ERel ρ (e :: es) es') : ∃ e' t, es' = e' :: t ∧ VR ρ e.key e'.key ∧ VR ρ e.val e'.val ∧ e.born = e'.born ∧ live e.key = true ∧ ERel ρ es t := by
  cases es' with
  | nil => have := h.1; simp at this
  | cons e' t =>
    obtain ⟨a, b, c, d⟩ := h.2 0 e e' rfl rfl
    exact ⟨e', t, rfl, a, b, c, d, by have := h.1; simpa using this, fun j a b ha hb => h.2 (j + 1) a b (by simpa using ha) (by simpa using hb)⟩
theorem ERel.cons {e e' : MapEntry} {es es' : List MapEntry} (a : VR ρ e.key e'.key) (b : VR ρ e.val e'.val) (c : e.born = e'.born) (d : live e.key = true) (h : ERel ρ es es') : ERel ρ (e :: es) (e' :: es') := by
  refine ⟨by simp [h.1], fun j x y hx hy => ?_⟩
  cases j with
  | zero => simp at hx hy; subst hx; subst hy; exact ⟨a, b, c, d⟩
  | succ j => exact h.2 j x y (by simpa using hx) (by simpa using hy)

theorem ERel.filter (p : Nat → Bool) : ∀ {es es' : List MapEntry}, ERel ρ es es' → ERel ρ (es.filter fun e => p e.born) (es'.filter fun e => p e.born)
  | [], es', h => by
    have : es' = [] := List.length_eq_zero_iff.1 h.1.symm
    subst this; exact .nil
  | e :: es, es', h => by
    obtain ⟨e', t, rfl, a, b, c, d, ht⟩ := h.cons_inv
    have ih := ERel.filter p ht
    simp only [List.filter_cons, ← c]
    split
    · exact .cons a b c d ih
    · exact ih

theorem ERel.append : ∀ {l l' m m' : List MapEntry}, ERel ρ l l' → ERel ρ m m' → ERel ρ (l ++ m) (l' ++ m')
  | [], l', m, m', h, k => by
    have : l' = [] := List.length_eq_zero_iff.1 h.1.symm
    subst this; exact k
  | e :: es, l', m, m', h, k => by
    obtain ⟨e', t, rfl, a, b, c, d, ht⟩ := h.cons_inv
    exact .cons a b c d (ERel.append ht k)

theorem ERel.all (p : Nat → Bool) : ∀ {es es' : List MapEntry}, ERel ρ es es' → (es'.all fun e => p e.born) = es.all fun e => p e.born
  | [], es', h => by
    have : es' = [] := List.length_eq_zero_iff.1 h.1.symm
    subst this; rfl
  | e :: es, es', h => by
    obtain ⟨e', t, rfl, a, b, c, d, ht⟩ := h.cons_inv
    simp only [List.all_cons, ERel.all p ht, c]

theorem ERel.find (p : Nat → Bool) : ∀ {es es' : List MapEntry} {e : MapEntry}, ERel ρ es es' → (es.find? fun e => p e.born) = some e → ∃ e', (es'.find? fun e => p e.born) = some e' ∧ VR ρ e.key e'.key ∧ VR ρ e.val e'.val
  | [], es', e, h, hf => by simp at hf
  | x :: es, es', e, h, hf => by
    obtain ⟨e', t, rfl, a, b, c, d, ht⟩ := h.cons_inv
    simp only [List.find?_cons, ← c] at hf ⊢
    split at hf
    · cases hf; exact ⟨e', rfl, a, b⟩
    · exact ERel.find p ht hf

theorem ERel.isEmpty {es es' : List MapEntry} (h : ERel ρ es es') : es'.isEmpty = es.isEmpty := by
  cases es <;> cases es' <;> first | rfl | (have := h.1; simp at this)

theorem ERel.mem {es es' : List MapEntry} {e' : MapEntry} (h : ERel ρ es es') (hm : e' ∈ es') : ∃ e ∈ es, VR ρ e.key e'.key ∧ VR ρ e.val e'.val ∧ e.born = e'.born := by
  obtain ⟨i, hi, rfl⟩ := List.getElem_of_mem hm
  have hi' : i < es.length := by rw [h.1]; exact hi
  obtain ⟨a, b, c, _⟩ := h.2 i es[i] es'[i] (by simp) (by simp)
  exact ⟨es[i], by simp, a, b, c⟩

theorem run_mapNext {n : Nat} (hn : 0 < n) : ∃ i w1, (choose (.mapNext n)).run P w = .ok i w1 ∧ i < n ∧ (w1 = w ∨ w1 = w.drew) := by
  by_cases h1 : n ≤ 1
  · exact ⟨0, w, by simp [choose, Sem.run, Question.forced, h1], hn, .inl rfl⟩
  · refine ⟨w.tape w.drawn (.mapNext n) % n, w.drew, ?_, Nat.mod_lt _ hn, .inr rfl⟩
    simp only [choose, Sem.run, Question.forced, h1, Question.cut]
    rfl

def aNextMap (it : Value) (σ : AHeap) : Option (List (Value × AHeap)) :=
  match it with
  | .pointer (some ⟨r, 0, none⟩) => match σ.get r with
    | some (.mapIter none _ _ _) => some [(.tuple #[.bool false], σ)]
    | some (.mapIter (some m) since seen last) => match σ.get m with
      | some (.map es clock) => cond (!seen.isEmpty && !es.isEmpty && es.all fun e => Nat.ble last e.born) none
        (some (cond ((es.filter fun e => !seen.contains e.born && Nat.blt e.born since).isEmpty) [(.tuple #[.bool false], σ)] [] ++
          ((es.filter fun e => !seen.contains e.born && Nat.blt e.born since) ++ (es.filter fun e => !seen.contains e.born && Nat.ble since e.born)).map fun e =>
            (.tuple #[.bool true, e.key, e.val], σ.set r (.mapIter (some m) since (seen ++ [e.born]) clock))))
      | _ => none
    | _ => none
  | _ => none

theorem aNextMap_sound (h : Rel B w0 ρ σ w) {it it' : Value} {t : TypeId} {L : List (Value × AHeap)} (hx : VR ρ it it') (hy : aNextMap it σ = some L) :
    ∃ y ∈ L, ∃ v' w', (Instr.next it' false t).run P w = .ok v' w' ∧ Rel B w0 ρ y.2 w' ∧ VR ρ y.1 v' := by
  unfold aNextMap at hy
  split at hy
  · rename_i r
    obtain ⟨x, hxr, rfl⟩ := hx.ptr_at
    split at hy
    · rename_i s1 s2 s3 hg
      cases hy
      obtain ⟨r0, a, ⟨m', hs0, hb, hmm⟩, _⟩ := h.obj r _ hg
      rw [hxr] at a; cases a
      have hgo := run_getObj (P := P) hb (fun c e fz => by simp)
      have hmn := hmm.mapN
      simp only [Value.map.injEq] at hmn
      subst hmn
      refine ⟨_, List.mem_singleton.2 rfl, .tuple #[.bool false], w, ?_, h, VR.tuple' (LR.cons (.bool _) (LR.nil _))⟩
      rw [hs0]; simp [Instr.next, hgo]
    · rename_i m since seen last hg
      obtain ⟨r0, a, ⟨m', hs0, hb, hmm⟩, _⟩ := h.obj r _ hg
      rw [hxr] at a; cases a
      obtain ⟨xm, hm', hxm⟩ := hmm.map_inv
      simp only [Value.map.injEq] at hm'
      subst hm'
      have hgo := run_getObj (P := P) hb (fun c e fz => by simp)
      split at hy
      · rename_i es clock hgm
        obtain ⟨es', h1, h2⟩ := h.mapAt hgm hxm
        have hgm := run_getObj (P := P) h1 (fun c e fz => by simp)
        cases hbad : (!seen.isEmpty && !es.isEmpty && es.all fun e => Nat.ble last e.born) with
        | true => rw [hbad] at hy; cases hy
        | false =>
          rw [hbad] at hy
          simp only [cond_false, Option.some.injEq] at hy
          have hbad' : (!seen.isEmpty && !es'.toList.isEmpty && es'.toList.all fun e => decide (e.born ≥ last)) = false := by
            rw [h2.isEmpty]
            have e1 := h2.all (fun b => decide (b ≥ last))
            rw [e1]
            rw [← hbad]
            congr 1
            congr 1
            funext e
            rw [Bool.eq_iff_iff]; simp
          have hold := h2.filter (fun b => !seen.contains b && Nat.blt b since)
          have hnew := h2.filter (fun b => !seen.contains b && Nat.ble since b)
          have hboth := hold.append hnew
          have eold : es'.toList.filter (fun e => !seen.contains e.born && Nat.blt e.born since) = ((es'.filter fun e => !seen.toArray.contains e.born).filter fun e => decide (e.born < since)).toList := by
            simp only [Array.toList_filter, List.filter_filter, List.contains_toArray]
            congr 1; funext e
            rw [Bool.and_comm]
            congr 1
            rw [Bool.eq_iff_iff]; simp
          have enew : es'.toList.filter (fun e => !seen.contains e.born && Nat.ble since e.born) = ((es'.filter fun e => !seen.toArray.contains e.born).filter fun e => decide (e.born ≥ since)).toList := by
            simp only [Array.toList_filter, List.filter_filter, List.contains_toArray]
            congr 1; funext e
            rw [Bool.and_comm]
            congr 1
            rw [Bool.eq_iff_iff]; simp
          rw [eold] at hold hboth
          rw [enew] at hnew hboth
          generalize hO : ((es'.filter fun e => !seen.toArray.contains e.born).filter fun e => decide (e.born < since)) = O at *
          generalize hN : ((es'.filter fun e => !seen.toArray.contains e.born).filter fun e => decide (e.born ≥ since)) = N at *
          generalize hC : ((if O.isEmpty then #[none] else #[]) ++ (O ++ N).map some : Array (Option MapEntry)) = C
          have hpos : 0 < C.size := by
            rw [← hC]
            by_cases he : O.isEmpty
            · simp [he]; omega
            · simp [he]
              have : 0 < O.size := by
                rcases Nat.eq_zero_or_pos O.size with h0 | h0
                · exact absurd (by simpa using h0) he
                · exact h0
              omega
          obtain ⟨i, w1, hch, hi, hw1⟩ := run_mapNext (P := P) (w := w) hpos
          have hr1 : Rel B w0 ρ σ w1 := by rcases hw1 with rfl | rfl <;> first | exact h | exact h.drew
          have hheap : w1.heap = w.heap := by rcases hw1 with rfl | rfl <;> rfl
          have hb1 : w1.heap[x.b]? = some (.mapIter (some xm.b) since seen.toArray last) := by rw [hheap]; exact hb
          have hb2 : (!seen.toArray.isEmpty && !es'.isEmpty && es'.all fun e => decide (e.born ≥ last)) = false := by
            rw [← hbad']; simp
          obtain ⟨c, hci⟩ : ∃ c, C[i]? = some c := ⟨C[i], by simp [hi]⟩
          have hmem : c ∈ C := Array.mem_of_getElem? hci
          rw [← hC, Array.mem_append] at hmem
          cases c with
          | none =>
            have hrun : (Instr.next (.pointer (some ⟨x.b, x.s + 0, none⟩)) false t).run P w = .ok (.tuple #[.bool false]) w1 := by
              rw [hs0]
              unfold Instr.next
              simp only [Nat.add_zero, Sem.run_bind, hgo, Result.andThen_ok, hgm, hb2, Bool.false_eq_true, if_false, hO, hN, hC, hch, Sem.run_pure, hci]
            have hnone : O.isEmpty = true := by
              by_cases he : O.isEmpty
              · exact he
              · rw [if_neg he] at hmem; simp at hmem
            have hem : (es.filter fun e => !seen.contains e.born && Nat.blt e.born since).isEmpty = true := by
              rw [← hold.isEmpty]; simpa using hnone
            refine ⟨(.tuple #[.bool false], σ), ?_, .tuple #[.bool false], w1, hrun, hr1, VR.tuple' (LR.cons (.bool _) (LR.nil _))⟩
            rw [← hy, hem]; simp
          | some e' =>
            have he' : e' ∈ O ++ N := by
              rcases hmem with hmem | hmem
              · by_cases he : O.isEmpty
                · rw [if_pos he] at hmem; simp at hmem
                · rw [if_neg he] at hmem; simp at hmem
              · rw [Array.mem_map] at hmem
                obtain ⟨a, ha, hae⟩ := hmem
                cases hae; exact ha
            obtain ⟨e, hel, hk, hv, hborn⟩ := hboth.mem (e' := e') (by simpa using he')
            obtain ⟨f1, f2⟩ := hr1.setO (P := P) (o' := .mapIter (some m) since (seen ++ [e.born]) clock) (co := .mapIter (some xm.b) since (seen.toArray.push e'.born) clock) hg rfl rfl hxr hb1 (fun c e fz => by simp)
              (fun hp hh => ⟨some xm.b, hs0, by rw [hborn]; simpa using hh, .map _ _ hxm⟩)
            have hrun : (Instr.next (.pointer (some ⟨x.b, x.s + 0, none⟩)) false t).run P w = .ok (.tuple #[.bool true, e'.key, e'.val]) { w1 with heap := w1.heap.setIfInBounds x.b (.mapIter (some xm.b) since (seen.toArray.push e'.born) clock) } := by
              rw [hs0]
              unfold Instr.next
              simp only [Nat.add_zero, Sem.run_bind, hgo, Result.andThen_ok, hgm, hb2, Bool.false_eq_true, if_false, hO, hN, hC, hch, Sem.run_pure, hci, f1]
            refine ⟨(.tuple #[.bool true, e.key, e.val], σ.set r (.mapIter (some m) since (seen ++ [e.born]) clock)), ?_, _, _, hrun, f2, VR.tuple' (LR.cons (.bool _) (LR.cons hk (LR.cons hv (LR.nil _))))⟩
            rw [← hy]
            apply List.mem_append_right
            exact List.mem_map.2 ⟨e, hel, rfl⟩
      · cases hy
    · cases hy
  · cases hy

def aEntry (it : Value) (σ : AHeap) : Option Value :=
  match it with
  | .pointer (some ⟨r, 0, none⟩) => match σ.get r with
    | some (.mapIter (some m) _ seen stepped) => seen.getLast?.bind fun stamp => match σ.get m with
      | some (.map es clock) => cond (Nat.beq clock stepped) ((es.find? fun e => Nat.beq e.born stamp).map fun e => .tuple #[e.key, e.val]) none
      | _ => none
    | _ => none
  | _ => none

theorem aEntry_sound (h : Rel B w0 ρ σ w) {it it' v : Value} (hx : VR ρ it it') (hy : aEntry it σ = some v) :
    ∃ v', (Instr.entry it').run P w = .ok v' w ∧ VR ρ v v' := by
  unfold aEntry at hy
  split at hy
  · rename_i r
    obtain ⟨x, hxr, rfl⟩ := hx.ptr_at
    split at hy
    · rename_i m since seen stepped hg
      obtain ⟨r0, a, ⟨m', hs0, hb, hmm⟩, _⟩ := h.obj r _ hg
      rw [hxr] at a; cases a
      obtain ⟨xm, hm', hxm⟩ := hmm.map_inv
      simp only [Value.map.injEq] at hm'
      subst hm'
      have hgo := run_getObj (P := P) hb (fun c e fz => by simp)
      simp only [Option.bind_eq_some_iff] at hy
      obtain ⟨stamp, hst, hy⟩ := hy
      split at hy
      · rename_i es clock hgm
        obtain ⟨es', h1, h2⟩ := h.mapAt hgm hxm
        have hgm := run_getObj (P := P) h1 (fun c e fz => by simp)
        cases hc : Nat.beq clock stepped with
        | false => rw [hc] at hy; cases hy
        | true =>
          rw [hc] at hy
          have hc' : clock = stepped := Nat.eq_of_beq_eq_true hc
          subst hc'
          simp only [cond_true, Option.map_eq_some_iff] at hy
          obtain ⟨e, he, rfl⟩ := hy
          obtain ⟨e', he', hk, hv⟩ := h2.find (fun b => Nat.beq b stamp) he
          have hf : es'.find? (fun e => e.born == stamp) = some e' := by
            rw [← Array.find?_toList]
            have hfun : (fun e : MapEntry => e.born == stamp) = fun e => Nat.beq e.born stamp := by
              funext e; rw [Bool.eq_iff_iff]; simp
            rw [hfun]; exact he'
          have hbk : seen.toArray.back? = some stamp := by simpa using hst
          refine ⟨.tuple #[e'.key, e'.val], ?_, VR.tuple' (LR.cons hk (LR.cons hv (LR.nil _)))⟩
          rw [hs0]; simp [Instr.entry, hgo, hgm, hst, hf]
      · cases hy
    · cases hy
  · cases hy

theorem run_typeInfo1 {t : TypeId} {i : TypeInfo} (h : P.info? t = some i) : (typeInfo t).run P w = .ok i w := by
  simp [typeInfo, h]

/-! ### Assertions -/
def aAssert (P : Program) (t : TypeId) (ok : Bool) (x : Value) : Option Value :=
  let no : Option Value := cond ok ((zeroOf P t).map fun z => .tuple #[z, .bool false]) none
  match P.underlying t, x with
  | some (.interface _), .nilIface => no
  | some (.interface want), .iface u _ => match P.info? u with
    | some i => match Instr.missingMethod want i.methods with
      | none => some (okV ok x true)
      | some _ => no
    | none => none
  | some _, .nilIface => no
  | some _, .iface u v => cond (Nat.beq u t) (some (okV ok v true)) no
  | _, _ => none

theorem VR.iface_inv {t : TypeId} {v v' : Value} (h : VR ρ (.iface t v) v') : ∃ u, v' = .iface t u ∧ v ≠ undef ∧ VR ρ v u := by
  cases h with
  | iface t v u a b => exact ⟨u, rfl, a, b⟩

theorem aAssert_sound {t xt : TypeId} {ok : Bool} {x x' v : Value} (hx : VR ρ x x') (hy : aAssert P t ok x = some v) :
    ∃ v', (Instr.typeAssert x' xt t ok).run P w = .ok v' w ∧ VR ρ v v' := by
  have no : ∀ (s d : Option TypeId) (ms : String), cond ok ((zeroOf P t).map fun z => .tuple #[z, .bool false]) none = some v →
      ∃ z v', (zeroValue t).run P w = .ok z w ∧ ok = true ∧ v' = .tuple #[z, .bool false] ∧ VR ρ v v' := by
    intro s d ms hn
    cases ok with
    | false => cases hn
    | true =>
      simp only [cond_true, Option.map_eq_some_iff] at hn
      obtain ⟨z, hz, rfl⟩ := hn
      obtain ⟨i, hi, hz', _, _⟩ := zeroOf_inv hz
      exact ⟨z, _, run_zeroValue hi hz', rfl, rfl, VR.tuple' (LR.cons (zero_refl hz ρ) (LR.cons (.bool _) (LR.nil _)))⟩
  unfold aAssert at hy
  simp only at hy
  split at hy
  · rename_i ms ht
    obtain ⟨z, v', e1, rfl, rfl, e2⟩ := no none none "" hy
    have : x' = .nilIface := by cases hx; rfl
    subst this
    exact ⟨_, by simp [Instr.typeAssert, run_underlying ht, e1], e2⟩
  · rename_i want u _ ht
    obtain ⟨v1, rfl, _, _⟩ := hx.iface_inv
    split at hy
    · rename_i i hi
      have hti := run_typeInfo1 (P := P) (w := w) hi
      split at hy
      · rename_i hmm
        cases hy
        refine ⟨okV ok _ true, ?_, hx.okV ok true⟩
        cases ok <;> simp [Instr.typeAssert, run_underlying ht, hti, hmm, okV]
      · rename_i ms hmm
        obtain ⟨z, v', e1, rfl, rfl, e2⟩ := no none none "" hy
        exact ⟨_, by simp [Instr.typeAssert, run_underlying ht, hti, hmm, e1], e2⟩
    · cases hy
  · rename_i d hn ht
    obtain ⟨z, v', e1, rfl, rfl, e2⟩ := no none none "" hy
    have : x' = .nilIface := by cases hx; rfl
    subst this
    refine ⟨_, ?_, e2⟩
    cases d <;> first | exact absurd rfl (hn _) | simp [Instr.typeAssert, run_underlying ht, e1]
  · rename_i d u v1 hn ht
    obtain ⟨u1, rfl, _, hv1⟩ := hx.iface_inv
    cases hut : Nat.beq u t with
    | true =>
      rw [hut] at hy
      have := Nat.eq_of_beq_eq_true hut
      subst this
      cases hy
      refine ⟨okV ok u1 true, ?_, hv1.okV ok true⟩
      cases d <;> first | exact absurd rfl (hn _) | (cases ok <;> simp [Instr.typeAssert, run_underlying ht, okV])
    | false =>
      rw [hut] at hy
      obtain ⟨z, v', e1, rfl, rfl, e2⟩ := no none none "" hy
      have hne : ¬ u = t := fun e => by subst e; simp at hut
      refine ⟨_, ?_, e2⟩
      cases d <;> first | exact absurd rfl (hn _) | simp [Instr.typeAssert, run_underlying ht, e1, hne]
  · cases hy

/-! ### The method that an interface's value has -/
def aMethod (P : Program) (x : Value) (name : String) (σ : AHeap) : Option (FuncId × Value) :=
  match x with
  | .iface t v => (P.info? t).bind fun i => (i.methods.toList.find? (·.name == name)).bind fun m => cond m.path.toList.isEmpty (match m.func with
    | some (f, pr) => match P.underlying t, pr with
      | some (.pointer _), true => some (f, v)
      | some (.pointer e), false => (shp P e).bind fun g => (aLoad g.1 g.2 v σ).bind fun u => some (f, u)
      | some _, false => some (f, v)
      | _, _ => none
    | none => none) none
  | _ => none

theorem run_ssaWrap {ts : Array TypeId} {ty : TypeId} {a : Addr} {s1 s2 : ByteArray} : (Builtin.ssaWrapNilChk_ ts ty #[.pointer (some a), .string s1, .string s2]).run P w = .ok (.pointer (some a)) w := rfl

theorem aMethod_sound (h : Rel B w0 ρ σ w) {x x' v : Value} {name : String} {f : FuncId} (hx : VR ρ x x') (hy : aMethod P x name σ = some (f, v)) :
    ∃ t u v', x' = .iface t u ∧ (∀ n, 0 < n → (method n t u name).run P w = .ok (f, v') w) ∧ VR ρ v v' := by
  unfold aMethod at hy
  split at hy
  · rename_i t v0
    obtain ⟨u, rfl, hd, hu⟩ := hx.iface_inv
    simp only [Option.bind_eq_some_iff] at hy
    obtain ⟨i, hi, m, hm, hy⟩ := hy
    have hti := run_typeInfo1 (P := P) (w := w) hi
    have hm' : i.methods.find? (·.name == name) = some m := by rw [← Array.find?_toList]; exact hm
    cases hp : m.path.toList.isEmpty with
    | false => rw [hp] at hy; cases hy
    | true =>
      rw [hp] at hy
      simp only [cond_true] at hy
      have hp' : m.path.toList = [] := by simpa using hp
      have hpe : m.path = #[] := by simpa using hp'
      have hpb : m.path.isEmpty = true := by rw [hpe]; rfl
      split at hy
      · rename_i f0 pr hf
        have hsteps : ∀ n, 0 < n → (method n t u name).run P w = ((receiverAt t (.val u) pr (some ((name.splitOn ".").getLastD name))).run P w).andThen fun v w => .ok (f0, v) w := by
          intro n hn
          obtain ⟨k, rfl⟩ : ∃ k, n = k + 1 := ⟨n - 1, by omega⟩
          unfold method
          simp only [Sem.run_bind, hti, Result.andThen_ok, hm', hp', follow, Sem.run_pure, hf, hpb, if_true]
        split at hy
        · rename_i e ht
          cases hy
          refine ⟨t, u, u, rfl, fun n hn => ?_, hu⟩
          rw [hsteps n hn]
          simp [receiverAt, run_underlying ht, Place.get]
        · rename_i e ht
          simp only [Option.bind_eq_some_iff] at hy
          obtain ⟨⟨g, k⟩, hg, l, hl, hy⟩ := hy
          cases hy
          obtain ⟨l', e1, e2⟩ := aLoad_sound h hg hu hl
          have hptr : ∃ a, u = .pointer (some a) := by
            unfold aLoad at hl
            split at hl
            · obtain ⟨a', rfl, _⟩ := hu.ptr_inv; exact ⟨a', rfl⟩
            · cases hl
          obtain ⟨a, rfl⟩ := hptr
          refine ⟨t, _, l', rfl, fun n hn => ?_, e2⟩
          rw [hsteps n hn]
          have e1' : (loadVar e a).run P w = .ok l' w := by
            have := e1
            simp only [Instr.loadAt, Instr.sureAddr] at this
            simpa using this
          simp [receiverAt, run_underlying ht, Place.get, run_ssaWrap, strVal, asAddr, e1']
        · rename_i d hn1 ht
          cases hy
          refine ⟨t, u, u, rfl, fun n hn => ?_, hu⟩
          rw [hsteps n hn]
          cases d <;> first | exact absurd rfl (hn1 _) | simp [receiverAt, run_underlying ht, Place.get]
        · cases hy
      · cases hy
  · cases hy
end
end Go.Ax
