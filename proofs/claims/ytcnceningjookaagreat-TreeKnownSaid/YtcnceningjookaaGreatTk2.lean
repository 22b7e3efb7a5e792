/- Texts of one proof, joined. No statement of the seat is proved here. -/
import Derived.Test.YtcnceningjookaaGreatTk1
import Derived.Recover
import Derived.Laws.Externs
set_option linter.unusedVariables false
set_option linter.unusedSimpArgs false
set_option linter.unnecessarySimpa false
set_option linter.constructorNameAsVariable false
namespace Go.Ax
open Go.RowKit
def aConv (P : Program) (s d : TypeId) (x : Value) (σ : AHeap) : Option Value :=
  match P.underlying s, P.underlying d, x with
  | some _, some (.int k), .int _ n => some (.int k (k.wrap n))
  | some .string, some .string, .string b => some (.string b)
  | some (.slice e), some .string, x => match P.underlying e with
    | some (.int .u8) => aBytesStr x σ
    | _ => none
  | some (.slice _), some (.slice e), .slice (some a) l c => cond (Nat.beq s d && a.spot.isNone) (match P.underlying e, σ.get a.block with
    | some (.int .u8), some (.cells _ _ _) => some (.slice (some a) l c)
    | _, _ => none) none
  | _, _, _ => none
def aIface (P : Program) (t : TypeId) (x : Value) : Option Value :=
  match P.underlying t with
  | some (.interface _) | none => none
  | some _ => cond (live x) (some (.iface t x)) none
def aPart (P : Program) (t : TypeId) (c : List Value) (off : Nat) : Option Value :=
  match shp P t with
  | some (true, n) => cond (Nat.ble (off + n) c.length) (some (.agg ((c.drop off).take n).toArray)) none
  | some (false, _) => c[off]?
  | none => none
def aField (P : Program) (t : TypeId) (f : Nat) (x : Value) : Option Value :=
  match P.underlying t, x with
  | some (.struct fs), .agg c => match fs[f]? with
    | some fd => aPart P fd.type c.toList fd.offset
    | none => none
  | _, _ => none
def aIndex (P : Program) (t : TypeId) (x i : Value) : Option Value :=
  match P.underlying t, x, i with
  | some (.array n e), .agg c, .int _ i => match P.info? e with
    | some j => if 0 ≤ i ∧ i < n then aPart P e c.toList (i.toNat * j.size) else none
    | none => none
  | some .string, .string s, .int _ i => if 0 ≤ i then match s[i.toNat]? with
      | some b => some (.int .u8 b.toNat)
      | none => none
    else none
  | _, _, _ => none
def aMin2 (x y : Value) : Option Value :=
  match x, y with
  | .int k a, .int _ b => some (.int k (if b < a then b else a))
  | _, _ => none
def aMax2 (x y : Value) : Option Value :=
  match x, y with
  | .int k a, .int _ b => some (.int k (if b > a then b else a))
  | _, _ => none
def aLen (d : Option TypeDesc) (x : Value) : Option Value :=
  match d, x with
  | some (.slice _), .slice _ n _ => some (.int .i64 n)
  | some .string, .string s => some (.int .i64 s.size)
  | _, _ => none
def aLenM (P : Program) (t : TypeId) (x : Value) (σ : AHeap) : Option Value :=
  match aLen (P.underlying t) x with
  | some v => some v
  | none => match P.underlying t with
    | some (.map _ _) => (aEntries x σ).map fun es => .int .i64 es.length
    | _ => none
def aCap (x : Value) : Option Value :=
  match x with
  | .slice _ _ c => cond (Nat.blt c OPEN) (some (.int .i64 c)) none
  | _ => none
def aClear (zc : List Value) (x : Value) (σ : AHeap) : Option AHeap :=
  match x with
  | .slice none _ _ => some σ
  | .slice (some a) n _ => aPoke a (reps n zc) σ
  | _ => none
def aBuiltin (P : Program) (b : Builtin) (ts : List TypeId) (args : List Value) (σ : AHeap) : Option (Value × AHeap) :=
  match b, ts, args with
  | .append, [t, u], [s, x] => match elemOf? P t with
    | some (e, z, by') => match zeroOf P e with
      | some zv => cond (notInt P u) (aAppend e z by' s x σ) (cond (isInt P u) (aAppendZ e z by' zv.cells.toList s x σ) none)
      | none => none
    | none => none
  | .copy, [t, _], [d, x] => match elemOf? P t with
    | some (_, z, _) => aCopy z d x σ
    | none => none
  | .len, [t], [x] => (aLenM P t x σ).bind fun v => some (v, σ)
  | .delete, [t, _], [m, k] => (aDelete P t m k σ).bind fun σ' => some (.tuple #[], σ')
  | .min, _, [x, y] => (aMin2 x y).bind fun v => some (v, σ)
  | .max, _, [x, y] => (aMax2 x y).bind fun v => some (v, σ)
  | .cap, [t], [x] => match P.underlying t with
    | some (.slice _) => (aCap x).bind fun v => some (v, σ)
    | _ => none
  | .clear, [t], [x] => match elemOf? P t with
    | some (e, _, _) => match zeroOf P e with
      | some zv => (aClear zv.cells.toList x σ).bind fun σ' => some (.tuple #[], σ')
      | none => none
    | none => none
  | _, _, _ => none
def aop (P : Program) (ev : Operand → Value) (o : Oper) (σ : AHeap) : Option (Value × AHeap) :=
  match o.op with
  | .move x | .assign x => some (ev x, σ)
  | .pick c a b => (asB (ev c)).bind fun t => some (cond t (ev a) (ev b), σ)
  | .alloc e => (zeroOf P e).bind fun z => some (aNew e z.cells.toList σ)
  | .box e x => aBox e (ev x) σ
  | .build t ps => (aBuild P t (ps.toList.map fun p => (p.1, ev p.2))).bind fun v => some (v, σ)
  | .buildSlice t n ps => cond (Nat.beq n 0 && !ps.toList.isEmpty) none (aBuildSlice P t n (ps.toList.map fun p => (p.1, ev p.2)) σ)
  | .load t a => (shp P t).bind fun g => (aLoad g.1 g.2 (ev a) σ).bind fun v => some (v, σ)
  | .store t a x => (shp P t).bind fun g => (aStore g.2 (ev a) (ev x) σ).bind fun σ' => some (undef, σ')
  | .nilCheck x => (aNil (ev x)).bind fun v => some (v, σ)
  | .binOp op t x y _ => (aBinP P t op (ev x) (ev y)).bind fun v => some (v, σ)
  | .unOp op _ x => (aUn op (ev x)).bind fun v => some (v, σ)
  | .convert s d x => (aConv P s d (ev x) σ).bind fun v => some (v, σ)
  | .makeInterface t x => (aIface P t (ev x)).bind fun v => some (v, σ)
  | .makeFunc fn f c => some (.func fn (f.toList.map ev).toArray (c.toList.map ev).toArray, σ)
  | .makeSlice t l c => match elemOf? P t with
    | some (e, _, by') => match zeroOf P e with
      | some z => aMake e by' z.cells.toList (ev l) (ev c) σ
      | none => none
    | none => none
  | .slice t x lo hi mx => (aSliceOp P t (ev x) (lo.map ev) (hi.map ev) (mx.map ev)).bind fun v => some (v, σ)
  | .fieldAddr t x f => (fieldOff P t f).bind fun off => (aFieldAddr off (ev x)).bind fun v => some (v, σ)
  | .field t x f => (aField P t f (ev x)).bind fun v => some (v, σ)
  | .indexAddr t x i => (aIndexAddrOp P t (ev x) (ev i)).bind fun v => some (v, σ)
  | .index t x i => (aIndex P t (ev x) (ev i)).bind fun v => some (v, σ)
  | .extract x i => (aExtract (ev x) i).bind fun v => some (v, σ)
  | .makeMap t r => aMakeMap P t (r.map ev) σ
  | .lookup t x i ok => (aLookup P t (ev x) (ev i) ok σ).bind fun v => some (v, σ)
  | .mapUpdate t m k x => (aMapUpdate P t (ev m) (ev k) (ev x) σ).bind fun σ' => some (undef, σ')
  | .range t x => aRange P t (ev x) σ
  | .next it str => cond str (aNextStr (ev it) σ) none
  | .entry it => (aEntry (ev it) σ).bind fun v => some (v, σ)
  | .typeAssert x _ t ok => (aAssert P t ok (ev x)).bind fun v => some (v, σ)
  | .call c => match c.callee with
    | .builtin b => aBuiltin P b c.argTypes.toList (c.args.toList.map ev) σ
    | _ => none
  | _ => none
section
variable {P : Program} {B : Nat} {w0 : World} {ρ : List RB} {σ : AHeap} {w : World}
theorem aNil_sound {x x' v : Value} {ev : Operand → Value} (hx : VR ρ x x') (h : aNil x = some v) (o : Oper) (a : Operand) (ho : o.op = .nilCheck a) (ha : ev a = x') :
    ∃ v', (execOp ev o).run P w = .ok (.value v') w ∧ VR ρ v v' := by
  subst ha
  unfold aNil at h
  split at h
  · cases h
    obtain ⟨a', he, ha⟩ := hx.ptr_inv
    refine ⟨.pointer (some a'), ?_, ha.ptr⟩
    simp [execOp, ho, he]
  · cases h
    generalize hv : ev a = u at hx
    cases hx with
    | func fn f f' c c' h1 h2 h3 h4 => exact ⟨_, by simp [execOp, ho, hv], .func _ _ _ _ _ h1 h2 h3 h4⟩
  · cases h
    generalize hv : ev a = u at hx
    obtain ⟨a', c', rfl, _⟩ := hx.slice_inv
    exact ⟨_, by simp [execOp, ho, hv], hx⟩
  · cases h
    generalize hv : ev a = u at hx
    cases hx with
    | iface t v v' h1 h2 => exact ⟨_, by simp [execOp, ho, hv], .iface _ _ _ h1 h2⟩
  · cases h
    generalize hv : ev a = u at hx
    obtain ⟨m', rfl, _⟩ := hx.mapO_inv
    exact ⟨_, by simp [execOp, ho, hv], hx⟩
  · cases h
theorem Rel.same {σ' : AHeap} (h : Rel B w0 ρ σ' w) (hg : ∀ j, σ'.get j = σ.get j) (hs : σ'.size = σ.size) : Rel B w0 ρ σ w :=
  ⟨by rw [h.len, hs], fun i o hi => h.obj i o (by rw [hg]; exact hi), fun i j oi oj ri rj hi hj => h.inj i j oi oj ri rj (by rw [hg]; exact hi) (by rw [hg]; exact hj), h.below, h.base⟩
theorem Rel.marked (h : Rel B w0 ρ σ w) {b : Nat} {c : List Value} {e : TypeId} {opn : Bool} {r : RB} (hg : σ.get b = some (.cells c e opn)) (hr : ρ[b]? = some r) (o : Nat) :
    ∃ w', (markStringish ⟨r.b, o, none⟩).run P w = .ok () w' ∧ Rel B w0 ρ σ w' := by
  obtain ⟨r0, a, ⟨c', fz, y1, y2, y3, y4, y5, y6⟩, _⟩ := h.obj b _ hg
  rw [hr] at a; cases a
  have hsh : w.shape? r.b = some (e, c'.size) := by simp [World.shape?, y1]
  have hrun : (markStringish ⟨r.b, o, none⟩).run P w = .ok () (w.freeze { block := r.b, off := c'.size } 1) := by
    simp [markStringish, hsh]
  have hlt : r.b < w.heap.size := by
    rcases Nat.lt_or_ge r.b w.heap.size with k | k
    · exact k
    · rw [Array.getElem?_eq_none k] at y1; cases y1
  refine ⟨_, hrun, ?_⟩
  obtain ⟨lo, hi⟩ := fz
  have hat : (w.freeze { block := r.b, off := c'.size } 1).heap[r.b]? = some (.cells c' e (if lo == hi then (c'.size, c'.size + 1) else (min lo c'.size, max hi (c'.size + 1)))) := by
    unfold World.freeze
    rw [if_neg (by decide)]
    simp [Array.getElem?_modify, y1]
  have hoth : ∀ k, k ≠ r.b → (w.freeze { block := r.b, off := c'.size } 1).heap[k]? = w.heap[k]? := by
    intro k hk
    unfold World.freeze
    rw [if_neg (by decide)]
    simp [Array.getElem?_modify, Ne.symm hk]
  have hsz : (w.freeze { block := r.b, off := c'.size } 1).heap.size = w.heap.size := by
    unfold World.freeze
    rw [if_neg (by decide)]
    simp
  have hfz : FzOk (if lo == hi then (c'.size, c'.size + 1) else (min lo c'.size, max hi (c'.size + 1))) c'.size := by
    refine ⟨.inr ?_⟩
    by_cases e : lo = hi
    · simp [e]
    · rcases y2.or with h1 | h1
      · exact absurd h1 e
      · simp only at h1
        simp [e]; omega
  have hu := h.update (o' := .cells c e opn) hg rfl rfl hr ⟨c', _, hat, hfz, y3, y4, y5, y6⟩ hoth (by unfold World.freeze; rw [if_neg (by decide)]) (by unfold World.freeze; rw [if_neg (by decide)]) (by unfold World.freeze; rw [if_neg (by decide)]) hsz
  refine hu.same (fun j => ?_) rfl
  rw [AHeap.get_set]
  split
  · rename_i e; subst e; exact hg.symm
  · rfl
theorem aConv_sound (h : Rel B w0 ρ σ w) {s d : TypeId} {x x' v : Value} (hx : VR ρ x x') (hv : aConv P s d x σ = some v) : ∃ v' w', (convert s d x').run P w = .ok v' w' ∧ Rel B w0 ρ σ w' ∧ VR ρ v v' := by
  unfold aConv at hv
  split at hv
  · rename_i d0 k k' n hs hd
    cases hv; rw [hx.int_inv]
    refine ⟨_, w, ?_, h, .int _ _⟩
    cases d0 <;> simp [convert, run_underlying hs, run_underlying hd, Conv.intToInt] <;> rfl
  · rename_i b hs hd
    cases hv; rw [hx.string_inv]
    exact ⟨_, w, by simp [convert, run_underlying hs, run_underlying hd], h, .string _⟩
  · rename_i e hs hd
    split at hv
    · rename_i he
      obtain ⟨h1, h2⟩ := aBytesStr_sound (P := P) h hx hv
      refine ⟨v, w, ?_, h, h2⟩
      have hsl : ∃ a l c, x' = .slice a l c := by
        unfold aBytesStr at hv
        split at hv
        · obtain ⟨a', c', rfl, _⟩ := hx.slice_ar; exact ⟨_, _, _, rfl⟩
        · obtain ⟨a', c', rfl, _⟩ := hx.slice_ar; exact ⟨_, _, _, rfl⟩
        · cases hv
      obtain ⟨a, l, c, rfl⟩ := hsl
      simp [convert, run_underlying hs, run_underlying hd, run_underlying he, h1]
    · cases hv
  · rename_i e0 e a l c hs hd
    cases hsd : (Nat.beq s d && a.spot.isNone) with
    | false => rw [hsd] at hv; cases hv
    | true =>
      rw [hsd] at hv
      rw [Bool.and_eq_true] at hsd
      have hsd' := Nat.eq_of_beq_eq_true hsd.1
      subst hsd'
      have hzb := hsd.2
      simp only [cond_true] at hv
      split at hv
      · rename_i c0 e1 opn he hg
        cases hv
        cases hx with
        | slice b o l c c' r hr hc =>
          obtain ⟨w', e1, e2⟩ := h.marked (P := P) hg hr (r.s + o)
          refine ⟨_, w', ?_, e2, .slice b o l c c' r hr hc⟩
          obtain rfl : e0 = e := by rw [hs] at hd; cases hd; rfl
          simp [convert, run_underlying hs, run_underlying he, Functor.map]
          show Sem.run P (markStringish { block := r.b, off := r.s + o } >>= fun _ => pure (Value.slice (some { block := r.b, off := r.s + o }) l c')) w = _
          simp [e1]
        | zany a c' h0 => simp at hzb
        | zslice o a => simp at hzb
      · cases hv
  · cases hv
theorem aIface_sound {t : TypeId} {x x' v : Value} (hx : VR ρ x x') (hv : aIface P t x = some v) : ∃ v', (Instr.makeInterface t x').run P w = .ok v' w ∧ VR ρ v v' := by
  unfold aIface at hv
  split at hv
  · cases hv
  · cases hv
  · rename_i d hn hd
    cases hl : live x with
    | false => rw [hl] at hv; cases hv
    | true =>
      rw [hl] at hv; cases hv
      refine ⟨.iface t x', ?_, .iface _ _ _ (fun e => by subst e; simp [live, undef] at hl) hx⟩
      cases d <;> first | exact absurd rfl (hn _) | simp [Instr.makeInterface, run_underlying hd]
theorem aPart_sound {t : TypeId} {c c' : Array Value} {off : Nat} {v : Value} (hc : LR ρ c.toList c'.toList) (hv : aPart P t c.toList off = some v) :
    ∃ v', (part t c' off).run P w = .ok v' w ∧ VR ρ v v' := by
  unfold aPart at hv
  split at hv
  · rename_i n hs
    obtain ⟨d, i, hd, hi, hg, rfl⟩ := shp_inv hs
    cases hb : Nat.ble (off + i.size) c.toList.length with
    | false => rw [hb] at hv; cases hv
    | true =>
      rw [hb] at hv; cases hv
      refine ⟨.agg (c'.extract off (off + i.size)), ?_, VR.agg' ?_⟩
      · simp [part, run_isAgg hd, hg, run_sizeOf hi]
      · have := (hc.drop off).take i.size
        simp only [List.toList_toArray, Array.toList_extract, List.extract_eq_take_drop]
        rw [show off + i.size - off = i.size by omega]
        exact this
  · rename_i n hs
    obtain ⟨d, i, hd, hi, hg, rfl⟩ := shp_inv hs
    obtain ⟨v', h1, h2⟩ := hc.get hv
    refine ⟨v', ?_, h2⟩
    have h1' : c'[off]? = some v' := by simpa using h1
    simp [part, run_isAgg hd, hg, h1']
  · cases hv
theorem VR.agg_inv {c : Array Value} {v' : Value} (h : VR ρ (.agg c) v') : ∃ c', v' = .agg c' ∧ LR ρ c.toList c'.toList := by
  cases h with
  | agg c c' a b => exact ⟨c', rfl, LR.of_arr a b⟩
theorem aField_sound {t : TypeId} {f : Nat} {x x' v : Value} (hx : VR ρ x x') (hv : aField P t f x = some v) : ∃ v', (Instr.field t x' f).run P w = .ok v' w ∧ VR ρ v v' := by
  unfold aField at hv
  split at hv
  · rename_i fs c ht
    split at hv
    · rename_i fd hfd
      obtain ⟨c', rfl, hc⟩ := hx.agg_inv
      obtain ⟨v', h1, h2⟩ := aPart_sound (w := w) hc hv
      exact ⟨v', by simp [Instr.field, run_underlying ht, hfd, asAgg, h1], h2⟩
    · cases hv
  · cases hv
theorem aIndex_sound {t : TypeId} {x x' i i' v : Value} (hx : VR ρ x x') (hi : VR ρ i i') (hv : aIndex P t x i = some v) : ∃ v', (Instr.index t x' i').run P w = .ok v' w ∧ VR ρ v v' := by
  unfold aIndex at hv
  split at hv
  · rename_i n e c k m ht
    split at hv
    · rename_i j hj
      split at hv
      · rename_i hb
        obtain ⟨c', rfl, hc⟩ := hx.agg_inv
        rw [hi.int_inv]
        obtain ⟨v', h1, h2⟩ := aPart_sound (w := w) hc hv
        exact ⟨v', by simp [Instr.index, asIntOf, run_underlying ht, hb, run_sizeOf hj, h1], h2⟩
      · cases hv
    · cases hv
  · rename_i s k m ht
    split at hv
    · rename_i hb
      split at hv
      · rename_i b hb2; cases hv
        rw [hx.string_inv, hi.int_inv]
        exact ⟨_, by simp [Instr.index, asIntOf, run_underlying ht, hb, hb2], .int _ _⟩
      · cases hv
    · cases hv
  · cases hv
theorem aExtract_sound {x x' v : Value} {i : Nat} (hx : VR ρ x x') (hv : aExtract x i = some v) : ∃ v', (Instr.extract x' i).run P w = .ok v' w ∧ VR ρ v v' := by
  unfold aExtract at hv
  split at hv
  · rename_i vs
    split at hv
    · cases hv
    · rename_i hne
      cases hx with
      | dead => simp at hv
      | skp => exact absurd rfl hne
      | tuple c c' a b =>
        obtain ⟨v', h1, h2⟩ := (LR.of_arr a b).get hv
        have h1' : c'[i]? = some v' := by simpa using h1
        exact ⟨v', by simp [Instr.extract, h1'], h2⟩
  · cases hv
theorem aLen_sound {t ty : TypeId} {x x' v : Value} (hx : VR ρ x x') (hv : aLen (P.underlying t) x = some v) : (Builtin.len_ #[t] ty #[x']).run P w = .ok v w ∧ VR ρ v v := by
  unfold aLen at hv
  split at hv
  · rename_i e a n c ht
    cases hv
    obtain ⟨a', c', rfl, _⟩ := hx.slice_ar
    exact ⟨by simp [Builtin.len_, run_underlying ht, goInt], .int _ _⟩
  · rename_i s ht
    cases hv
    rw [hx.string_inv]
    exact ⟨by simp [Builtin.len_, run_underlying ht, goInt], .int _ _⟩
  · cases hv
theorem aLenM_sound (h : Rel B w0 ρ σ w) {t ty : TypeId} {x x' v : Value} (hx : VR ρ x x') (hv : aLenM P t x σ = some v) : (Builtin.len_ #[t] ty #[x']).run P w = .ok v w ∧ VR ρ v v := by
  unfold aLenM at hv
  split at hv
  · rename_i v0 hv0
    cases hv
    exact aLen_sound hx hv0
  · split at hv
    · rename_i k e ht
      simp only [Option.map_eq_some_iff] at hv
      obtain ⟨es, he, rfl⟩ := hv
      obtain ⟨es', hes, hor⟩ := aEntries_sound h hx he
      refine ⟨?_, .int _ _⟩
      have hl : (es'.size : Int) = es.length := by have := hes.1; simp at this; omega
      rcases hor with ⟨rfl, rfl⟩ | ⟨b, clock, rfl, hb⟩
      · simp [Builtin.len_, run_underlying ht, goInt] at hl ⊢; omega
      · have hgo := run_getObj (P := P) hb (fun c e fz => by simp)
        simp [Builtin.len_, run_underlying ht, goInt, hgo, hl]
    · cases hv
theorem aMin2_sound {t ty : TypeId} {ts : Array TypeId} {x x' y y' v : Value} (hx : VR ρ x x') (hy : VR ρ y y') (hv : aMin2 x y = some v) : (Builtin.min_ ts ty #[x', y']).run P w = .ok v w ∧ VR ρ v v := by
  unfold aMin2 at hv
  split at hv
  · cases hv; rw [hx.int_inv, hy.int_inv]
    exact ⟨by simp [Builtin.min_, Builtin.min2], .int _ _⟩
  · cases hv
theorem aMax2_sound {t ty : TypeId} {ts : Array TypeId} {x x' y y' v : Value} (hx : VR ρ x x') (hy : VR ρ y y') (hv : aMax2 x y = some v) : (Builtin.max_ ts ty #[x', y']).run P w = .ok v w ∧ VR ρ v v := by
  unfold aMax2 at hv
  split at hv
  · cases hv; rw [hx.int_inv, hy.int_inv]
    exact ⟨by simp [Builtin.max_, Builtin.max2], .int _ _⟩
  · cases hv
def Met (P : Program) (B : Nat) (w0 : World) (ρ : List RB) (w : World) (s : Sem Next) (y : Value × AHeap) : Prop :=
  ∃ n w' ρ' v', s.run P w = .ok n w' ∧ (n = .value v' ∨ (n = .skip ∧ v' = undef)) ∧ Ext ρ ρ' ∧ Rel B w0 ρ' y.2 w' ∧ VR ρ' y.1 v'
theorem Met.quiet {s : Sem Next} {v v' : Value} (h : Rel B w0 ρ σ w) (hr : s.run P w = .ok (.value v') w) (hv : VR ρ v v') : Met P B w0 ρ w s (v, σ) :=
  ⟨_, w, ρ, v', hr, .inl rfl, Ext.refl _, h, hv⟩
theorem VR_map {l : List Operand} {ev ev' : Operand → Value} (hev : ∀ x, VR ρ (ev x) (ev' x)) : LR ρ (l.map ev) (l.map ev') := by
  refine ⟨by simp, fun i v v' a b => ?_⟩
  simp only [List.getElem?_map, Option.map_eq_some_iff] at a b
  obtain ⟨x, hx, rfl⟩ := a
  obtain ⟨y, hy, rfl⟩ := b
  rw [hx] at hy; cases hy
  exact hev x
theorem VO_map {x : Option Operand} {ev ev' : Operand → Value} (hev : ∀ x, VR ρ (ev x) (ev' x)) : VO ρ (x.map ev) (x.map ev') := by
  cases x with
  | none => exact .none
  | some x => exact .some _ _ (hev x)
theorem PR_map {l : List (Nat × Operand)} {ev ev' : Operand → Value} (hev : ∀ x, VR ρ (ev x) (ev' x)) : PR ρ (l.map fun p => (p.1, ev p.2)) (l.map fun p => (p.1, ev' p.2)) := by
  refine ⟨by simp, fun i p p' a b => ?_⟩
  simp only [List.getElem?_map, Option.map_eq_some_iff] at a b
  obtain ⟨x, hx, rfl⟩ := a
  obtain ⟨y, hy, rfl⟩ := b
  rw [hx] at hy; cases hy
  exact ⟨rfl, hev _⟩
theorem aCap_sound {t e ty : TypeId} {x x' v : Value} (ht : P.underlying t = some (.slice e)) (hx : VR ρ x x') (hv : aCap x = some v) :
    (Builtin.cap_ #[t] ty #[x']).run P w = .ok v w ∧ VR ρ v v := by
  unfold aCap at hv
  split at hv
  · rename_i a l c
    obtain ⟨a', c', rfl, _, hex, _⟩ := hx.slice_inv
    cases hb : Nat.blt c OPEN with
    | false => rw [hb] at hv; cases hv
    | true =>
      rw [hb] at hv
      cases hv
      have : c' = c := hex (by simpa [Nat.blt_eq] using hb)
      subst this
      exact ⟨by simp [Builtin.cap_, run_underlying ht, goInt], .int _ _⟩
  · cases hv
theorem aClear_sound (h : Rel B w0 ρ σ w) {t ty e : TypeId} {z by' : Nat} {zv x x' : Value} {σ' : AHeap} (he : elemOf? P t = some (e, z, by')) (hz : zeroOf P e = some zv) (hx : VR ρ x x') (hs : aClear zv.cells.toList x σ = some σ') :
    ∃ w', (Builtin.clear_ #[t] ty #[x']).run P w = .ok (.tuple #[]) w' ∧ Rel B w0 ρ σ' w' := by
  obtain ⟨i, ht, hi, rfl, rfl⟩ := elemOf_inv he
  obtain ⟨i', hi', hz', hr, hzs⟩ := zeroOf_inv hz
  rw [hi] at hi'; cases hi'
  unfold aClear at hs
  split at hs
  · cases hs
    obtain ⟨a', c', rfl, hor⟩ := hx.slice_ar
    rcases hor with ⟨_, rfl⟩ | ⟨x0, x1, hh, _⟩
    · exact ⟨w, by simp [Builtin.clear_, run_underlying ht], h⟩
    · cases hh
  · rename_i a n c
    obtain ⟨a', c', rfl, hor⟩ := hx.slice_ar
    rcases hor with ⟨hh, _⟩ | ⟨x0, x1, hh, rfl, hor⟩
    · cases hh
    · cases hh
      cases n with
      | zero =>
        simp only [reps, aPoke] at hs
        cases hs
        exact ⟨w, by simp [Builtin.clear_, run_underlying ht], h⟩
      | succ n =>
        have hzc : Builtin.zeroCells zv.cells (n + 1) = (reps (n + 1) zv.cells.toList).toArray := made_cells (n + 1) zv.cells
        obtain ⟨w', e1, e2, _⟩ := aPoke_sound (P := P) (a' := x1) h hs (.inr (hor.resolve_left (by omega))) ((hr ρ).reps (n + 1))
        refine ⟨w', ?_, e2⟩
        simp [Builtin.clear_, run_underlying ht, zeroValue, typeInfo, hi, hz', hzc, e1]
  · cases hs
theorem aBuiltin_sound (h : Rel B w0 ρ σ w) {b : Builtin} {ts : Array TypeId} {ty : TypeId} {cs : Array Bool} {args args' : List Value} {y : Value × AHeap} (ha : LR ρ args args') (hy : aBuiltin P b ts.toList args σ = some y) :
    Met P B w0 ρ w (builtin b ts ty cs args'.toArray) y := by
  obtain ⟨ts⟩ := ts
  unfold aBuiltin at hy
  split at hy
  · rename_i t u s x hts
    simp only at hts; subst hts
    obtain ⟨s', l1, rfl, h1, ha⟩ := ha.cons_inv
    obtain ⟨x', l2, rfl, h2, ha⟩ := ha.cons_inv
    rw [ha.nil_inv]
    split at hy
    · rename_i e z by' he
      split at hy
      · rename_i zv hz
        cases hu : notInt P u with
        | false =>
          rw [hu] at hy
          simp only [cond_false] at hy
          cases hu2 : isInt P u with
          | false => rw [hu2] at hy; cases hy
          | true =>
            rw [hu2] at hy
            simp only [cond_true] at hy
            obtain ⟨v', w', ρ', e1, e2, e3, e4⟩ := aAppendZ_sound (ty := ty) h he hz hu2 h1 h2 hy
            exact ⟨_, w', ρ', v', by simp [builtin, e1], .inl rfl, e2, e3, e4⟩
        | true =>
          rw [hu] at hy
          simp only [cond_true] at hy
          obtain ⟨v', w', ρ', e1, e2, e3, e4⟩ := aAppend_sound (ty := ty) h he hz hu h1 h2 hy
          exact ⟨_, w', ρ', v', by simp [builtin, e1], .inl rfl, e2, e3, e4⟩
      · cases hy
    · cases hy
  · rename_i t u d x hts
    simp only at hts; subst hts
    obtain ⟨s', l1, rfl, h1, ha⟩ := ha.cons_inv
    obtain ⟨x', l2, rfl, h2, ha⟩ := ha.cons_inv
    rw [ha.nil_inv]
    split at hy
    · rename_i e z by' he
      obtain ⟨v', w', e1, e2, e3⟩ := aCopy_sound (u := u) (ty := ty) h he h1 h2 hy
      exact ⟨_, w', ρ, v', by simp [builtin, e1], .inl rfl, Ext.refl _, e2, e3⟩
    · cases hy
  · rename_i t x hts
    simp only at hts; subst hts
    obtain ⟨x', l1, rfl, h1, ha⟩ := ha.cons_inv
    rw [ha.nil_inv]
    simp only [Option.bind_eq_some_iff] at hy
    obtain ⟨v, hv, hy'⟩ := hy
    cases hy'
    obtain ⟨e1, e2⟩ := aLenM_sound (ty := ty) h h1 hv
    exact .quiet h (by simp [builtin, e1]) e2
  · rename_i t u m k hts
    simp only at hts; subst hts
    obtain ⟨m', l1, rfl, h1, ha⟩ := ha.cons_inv
    obtain ⟨k', l2, rfl, h2, ha⟩ := ha.cons_inv
    rw [ha.nil_inv]
    simp only [Option.bind_eq_some_iff] at hy
    obtain ⟨σ', hs, hy'⟩ := hy
    cases hy'
    obtain ⟨w', e1, e2⟩ := aDelete_sound (u := u) (ty := ty) h h1 h2 hs
    exact ⟨_, w', ρ, .tuple #[], by simp [builtin, e1], .inl rfl, Ext.refl _, e2, VR.tuple' (LR.nil _)⟩
  · rename_i x z hts
    obtain ⟨x', l1, rfl, h1, ha⟩ := ha.cons_inv
    obtain ⟨z', l2, rfl, h2, ha⟩ := ha.cons_inv
    rw [ha.nil_inv]
    simp only [Option.bind_eq_some_iff] at hy
    obtain ⟨v, hv, hy'⟩ := hy
    cases hy'
    obtain ⟨e1, e2⟩ := aMin2_sound (w := w) (P := P) (t := ty) (ty := ty) (ts := ⟨ts⟩) h1 h2 hv
    exact .quiet h (by simp [builtin, e1]) e2
  · rename_i x z hts
    obtain ⟨x', l1, rfl, h1, ha⟩ := ha.cons_inv
    obtain ⟨z', l2, rfl, h2, ha⟩ := ha.cons_inv
    rw [ha.nil_inv]
    simp only [Option.bind_eq_some_iff] at hy
    obtain ⟨v, hv, hy'⟩ := hy
    cases hy'
    obtain ⟨e1, e2⟩ := aMax2_sound (w := w) (P := P) (t := ty) (ty := ty) (ts := ⟨ts⟩) h1 h2 hv
    exact .quiet h (by simp [builtin, e1]) e2
  · rename_i t x hts
    simp only at hts; subst hts
    obtain ⟨x', l1, rfl, h1, ha⟩ := ha.cons_inv
    rw [ha.nil_inv]
    split at hy
    · rename_i e hu
      simp only [Option.bind_eq_some_iff] at hy
      obtain ⟨v, hv, hy'⟩ := hy
      cases hy'
      obtain ⟨e1, e2⟩ := aCap_sound (ty := ty) (w := w) hu h1 hv
      exact .quiet h (by simp [builtin, e1]) e2
    · cases hy
  · rename_i t x hts
    simp only at hts; subst hts
    obtain ⟨x', l1, rfl, h1, ha⟩ := ha.cons_inv
    rw [ha.nil_inv]
    split at hy
    · rename_i e z by' he
      split at hy
      · rename_i zv hz
        simp only [Option.bind_eq_some_iff] at hy
        obtain ⟨σ', hs, hy'⟩ := hy
        cases hy'
        obtain ⟨w', e1, e2⟩ := aClear_sound (ty := ty) h he hz h1 hs
        exact ⟨_, w', ρ, .tuple #[], by simp [builtin, e1], .inl rfl, Ext.refl _, e2, VR.tuple' (LR.nil _)⟩
      · cases hy
    · cases hy
  · cases hy
theorem VR.asB {x x' : Value} {b : Bool} (hx : VR ρ x x') (h : Ax.asB x = some b) : x' = .bool b := by
  unfold Ax.asB at h
  split at h
  · cases h; exact hx.bool_inv
  · cases h
theorem aop_sound (h : Rel B w0 ρ σ w) {o : Oper} {ev ev' : Operand → Value} {y : Value × AHeap} (hev : ∀ x, VR ρ (ev x) (ev' x)) (hy : aop P ev o σ = some y) :
    Met P B w0 ρ w (execOp ev' o) y := by
  obtain ⟨dst, op, type, pos, after, guard⟩ := o
  unfold aop at hy
  cases op <;> simp only [reduceCtorEq, Option.bind_eq_some_iff] at hy
  case move x => cases hy; exact .quiet h (by simp [execOp]) (hev x)
  case assign x => cases hy; exact .quiet h (by simp [execOp]) (hev x)
  case pick c a b =>
    obtain ⟨t, ht, hy⟩ := hy
    cases hy
    have := (hev c).asB ht
    refine .quiet h (v' := cond t (ev' a) (ev' b)) ?_ ?_
    · cases t <;> simp [execOp, this, asBool]
    · cases t <;> exact hev _
  case alloc e =>
    obtain ⟨z, hz, hy⟩ := hy
    cases hy
    obtain ⟨v', w', ρ', e1, e2, e3, e4⟩ := aAlloc_sound h hz true (.tuple #[]) rfl
    exact ⟨_, w', ρ', v', by simp [execOp, e1], .inl rfl, e2, e3, e4⟩
  case box e x =>
    obtain ⟨v', w', ρ', e1, e2, e3, e4⟩ := aBox_sound (P := P) h (hev x) hy
    exact ⟨_, w', ρ', v', by simp [execOp, e1], .inl rfl, e2, e3, e4⟩
  case build t ps =>
    obtain ⟨v, hv, hy⟩ := hy
    cases hy
    obtain ⟨v', e1, e2⟩ := aBuild_sound (w := w) (parts' := ps.map fun p => (p.1, ev' p.2)) (by simpa using PR_map (l := ps.toList) hev) hv
    exact .quiet h (by simp [execOp, e1]) e2
  case buildSlice t n ps =>
    cases hn : (Nat.beq n 0 && !ps.toList.isEmpty) with
    | true => rw [hn] at hy; cases hy
    | false =>
      rw [hn] at hy
      simp only [cond_false] at hy
      have hps : n = 0 → (ps.toList.map fun p => (p.1, ev p.2)) = [] := by
        intro e
        subst e
        cases hl : ps.toList with
        | nil => rfl
        | cons p l => rw [hl] at hn; simp at hn
      obtain ⟨v', w', ρ', e1, e2, e3, e4⟩ := aBuildSlice_sound (P := P) h (parts' := ps.map fun p => (p.1, ev' p.2)) (by simpa using PR_map (l := ps.toList) hev) hy hps
      exact ⟨_, w', ρ', v', by simp [execOp, e1], .inl rfl, e2, e3, e4⟩
  case load t a =>
    obtain ⟨⟨g, n⟩, hg, v, hv, hy⟩ := hy
    cases hy
    obtain ⟨v', e1, e2⟩ := aLoad_sound h hg (hev a) hv
    exact .quiet h (by simp [execOp, e1]) e2
  case store t a x =>
    obtain ⟨⟨g, n⟩, hg, σ', hs, hy⟩ := hy
    cases hy
    obtain ⟨w', e1, e2, _⟩ := aStore_sound h hg (hev a) (hev x) hs
    exact ⟨.skip, w', ρ, undef, by simp [execOp, e1], .inr ⟨rfl, rfl⟩, Ext.refl _, e2, .dead _⟩
  case nilCheck x =>
    obtain ⟨v, hv, hy⟩ := hy
    cases hy
    obtain ⟨v', e1, e2⟩ := aNil_sound (P := P) (w := w) (hev x) hv ⟨dst, .nilCheck x, type, pos, after, guard⟩ x rfl rfl
    exact .quiet h e1 e2
  case binOp op t x y' ty =>
    obtain ⟨v, hv, hy⟩ := hy
    cases hy
    obtain ⟨e1, e2⟩ := aBinP_sound (w := w) x y' (hev x) (hev y') hv
    refine .quiet h (v' := v) ?_ e2
    simp only [execOp]
    rw [Sem.run_bind, e1]
    rfl
  case unOp op t x =>
    obtain ⟨v, hv, hy⟩ := hy
    cases hy
    obtain ⟨e1, e2⟩ := aUn_sound (P := P) (w := w) (hev x) hv
    exact .quiet h (by simp [execOp, e1]) e2
  case convert s d x =>
    obtain ⟨v, hv, hy⟩ := hy
    cases hy
    obtain ⟨v', w', e1, e2, e3⟩ := aConv_sound h (hev x) hv
    exact ⟨_, w', ρ, v', by simp [execOp, e1], .inl rfl, Ext.refl _, e2, e3⟩
  case makeInterface t x =>
    obtain ⟨v, hv, hy⟩ := hy
    cases hy
    obtain ⟨v', e1, e2⟩ := aIface_sound (w := w) (hev x) hv
    exact .quiet h (by simp [execOp, e1]) e2
  case makeFunc fn f c =>
    cases hy
    refine .quiet h (v' := .func fn (f.map ev') (c.map ev')) (by simp [execOp, Instr.makeFunc]) ?_
    have hf := (VR_map (l := f.toList) hev)
    have hc := (VR_map (l := c.toList) hev)
    have hf' : LR ρ (f.toList.map ev).toArray.toList (f.map ev').toList := by simpa using hf
    have hc' : LR ρ (c.toList.map ev).toArray.toList (c.map ev').toList := by simpa using hc
    exact .func _ _ _ _ _ hf'.arr.1 hc'.arr.1 hf'.arr.2 hc'.arr.2
  case makeSlice t l c =>
    split at hy
    · rename_i e z by' he
      split at hy
      · rename_i zv hz
        obtain ⟨v', w', ρ', e1, e2, e3, e4⟩ := aMake_sound h he hz (hev l) (hev c) hy
        exact ⟨_, w', ρ', v', by simp [execOp, e1], .inl rfl, e2, e3, e4⟩
      · cases hy
    · cases hy
  case slice t x lo hi mx =>
    obtain ⟨v, hv, hy⟩ := hy
    cases hy
    obtain ⟨v', e1, e2⟩ := aSliceOp_sound (w := w) (hev x) (VO_map hev) (VO_map hev) (VO_map hev) hv
    exact .quiet h (by simp [execOp, e1]) e2
  case fieldAddr t x f =>
    obtain ⟨off, ho, v, hv, hy⟩ := hy
    cases hy
    obtain ⟨v', e1, e2⟩ := aFieldAddr_sound (w := w) ho (hev x) hv
    exact .quiet h (by simp [execOp, e1]) e2
  case field t x f =>
    obtain ⟨v, hv, hy⟩ := hy
    cases hy
    obtain ⟨v', e1, e2⟩ := aField_sound (w := w) (hev x) hv
    exact .quiet h (by simp [execOp, e1]) e2
  case indexAddr t x i =>
    obtain ⟨v, hv, hy⟩ := hy
    cases hy
    obtain ⟨v', e1, e2⟩ := aIndexAddrOp_sound (w := w) (hev x) (hev i) hv
    exact .quiet h (by simp [execOp, e1]) e2
  case index t x i =>
    obtain ⟨v, hv, hy⟩ := hy
    cases hy
    obtain ⟨v', e1, e2⟩ := aIndex_sound (w := w) (hev x) (hev i) hv
    exact .quiet h (by simp [execOp, e1]) e2
  case extract x i =>
    obtain ⟨v, hv, hy⟩ := hy
    cases hy
    obtain ⟨v', e1, e2⟩ := aExtract_sound (P := P) (w := w) (hev x) hv
    exact .quiet h (by simp [execOp, e1]) e2
  case makeMap t r =>
    obtain ⟨v', w', ρ', e1, e2, e3, e4⟩ := aMakeMap_sound (P := P) h (VO_map hev) hy
    exact ⟨_, w', ρ', v', by simp [execOp, e1], .inl rfl, e2, e3, e4⟩
  case lookup t x i ok =>
    obtain ⟨v, hv, hy⟩ := hy
    cases hy
    obtain ⟨v', e1, e2⟩ := aLookup_sound h (hev x) (hev i) hv
    exact .quiet h (by simp [execOp, e1]) e2
  case mapUpdate t m k x =>
    obtain ⟨σ', hs, hy⟩ := hy
    cases hy
    obtain ⟨w', e1, e2⟩ := aMapUpdate_sound h (hev m) (hev k) (hev x) hs
    exact ⟨.skip, w', ρ, undef, by simp [execOp, e1], .inr ⟨rfl, rfl⟩, Ext.refl _, e2, .dead _⟩
  case range t x =>
    obtain ⟨v', w', ρ', e1, e2, e3, e4⟩ := aRange_sound (P := P) h (hev x) hy
    exact ⟨_, w', ρ', v', by simp [execOp, e1], .inl rfl, e2, e3, e4⟩
  case next it str =>
    cases str with
    | false => cases hy
    | true =>
      obtain ⟨v', w', e1, e2, e3⟩ := aNextStr_sound (P := P) (t := type) h (hev it) hy
      exact ⟨_, w', ρ, v', by simp [execOp, e1], .inl rfl, Ext.refl _, e2, e3⟩
  case entry it =>
    obtain ⟨v, hv, hy⟩ := hy
    cases hy
    obtain ⟨v', e1, e2⟩ := aEntry_sound (P := P) h (hev it) hv
    exact .quiet h (by simp [execOp, e1]) e2
  case typeAssert x xt t ok =>
    obtain ⟨v, hv, hy⟩ := hy
    cases hy
    obtain ⟨v', e1, e2⟩ := aAssert_sound (P := P) (w := w) (xt := xt) (hev x) hv
    exact .quiet h (by simp [execOp, e1]) e2
  case call c =>
    split at hy
    · rename_i b hb
      have he : (c.args.toList.map ev').toArray = c.args.map ev' := by apply Array.ext'; simp
      have key : ∀ cs, Met P B w0 ρ w (builtin b c.argTypes type cs (c.args.map ev')) y := fun cs => by
        have := aBuiltin_sound (ty := type) (cs := cs) h (VR_map (l := c.args.toList) hev) hy
        rwa [he] at this
      have hx : ∃ cs, execOp ev' ⟨dst, .call c, type, pos, after, guard⟩ = builtin b c.argTypes type cs (c.args.map ev') := ⟨_, by simp only [execOp, resolve, hb, pure_bind, invoke]; rfl⟩
      obtain ⟨cs, hx⟩ := hx
      rw [hx]; exact key cs
    · cases hy
end
end Go.Ax
namespace Go.Ax
open Go.RowKit
abbrev Fr := Tr Value
def fget (fr : Fr) (t : Nat) : Value :=
  match fr.get t with
  | some v => v
  | none => undef
def fput (fr : Fr) (d : Option Tmp) (v : Value) : Fr :=
  match d with
  | some d => fr.set d v
  | none => fr
def fev (fr : Fr) : Operand → Value
  | .tmp t => fget fr t
  | .const v => cond (v.cells.toList.all flat1) v undef
  | .func f => .func (.func f) #[] #[]
  | .global _ => undef
def fpick (L : List Nat) (fr : Fr) : List Value := L.map (fget fr)
def fmake : List Nat → List Value → Fr
  | t :: L, v :: vs => (fmake L vs).set t v
  | _, _ => .leaf
def fadd (R : List Nat) (fr g : Fr) : Fr := R.foldr (fun t g => g.set t (fget fr t)) g
theorem fget_set (fr : Fr) (t u : Nat) (v : Value) : fget (fr.set t v) u = if u = t then v else fget fr u := by
  unfold fget; rw [Tr.get_set]; by_cases h : u = t <;> simp [h]
theorem fget_fadd (R : List Nat) (fr g : Fr) (t : Nat) : fget (fadd R fr g) t = if t ∈ R then fget fr t else fget g t := by
  induction R with
  | nil => simp [fadd]
  | cons u R ih =>
    show fget ((fadd R fr g).set u (fget fr u)) t = _
    rw [fget_set]
    by_cases h : t = u
    · subst h; simp
    · rw [if_neg h, ih]; simp [h]
theorem fget_leaf (t : Nat) : fget .leaf t = undef := by unfold fget; rw [Tr.get_leaf]
inductive DT where
  | nil
  | step (i : Nat) (chk : List Nat) (t : DT)
  | alt (a b : DT)
def DT.ofList : List (Nat × List Nat) → DT
  | [] => .nil
  | (i, chk) :: l => .step i chk (DT.ofList l)
inductive AC where
  | skip
  | region (id : Nat) (ops : List Oper)
  | dregion (id : Nat) (ops : List Oper) (ord : List (Nat × List Nat))
  | dtree (id : Nat) (ops : List Oper) (t : DT)
  | seq (a b : AC)
  | cond (c : Operand) (thn els : AC)
  | block (id : Nat) (b : AC)
  | loop (R L Lx : List Nat) (b : AC)
  | exit (id : Nat)
  | ret
  | join (L : List Nat) (b : AC)
  | other (c : Code)
def AC.erase : AC → Code
  | .skip => .skip
  | .region id ops => .region id ops.toArray false
  | .dregion id ops _ => .region id ops.toArray true
  | .dtree id ops _ => .region id ops.toArray true
  | .seq a b => .seq a.erase b.erase
  | .cond c a b => .cond c a.erase b.erase
  | .block id b => .block id b.erase
  | .loop _ _ _ b => .loop b.erase
  | .exit id => .exit id
  | .ret => .ret
  | .join _ b => b.erase
  | .other c => c
def veq0 : Value → Value → Bool
  | .bool a, .bool b => a == b
  | .int j a, .int k b => decide (j = k) && a == b
  | .string a, .string b => decide (a.data.toList = b.data.toList)
  | .pointer a, .pointer b => decide (a = b)
  | .slice a l c, .slice b m d => decide (a = b) && Nat.beq l m && Nat.beq c d
  | .map a, .map b => decide (a = b)
  | .nilFunc, .nilFunc => true
  | .nilIface, .nilIface => true
  | _, _ => false
def veq : Value → Value → Bool
  | .iface t v, .iface u w => Nat.beq t u && veq0 v w
  | a, b => veq0 a b
def veqs : List Value → List Value → Bool
  | [], [] => true
  | a :: l, b :: m => veq a b && veqs l m
  | _, _ => false
def veq1 : Value → Value → Bool
  | .agg a, .agg b => veqs a.toList b.toList
  | .tuple a, .tuple b => veqs a.toList b.toList
  | a, b => veq a b
inductive Out where
  | ret (v : Value)
  | pan (v : Value)
abbrev WK := Value → AHeap → Prop
abbrev RK := Out → AHeap → Prop
abbrev FK := Fr → AHeap → Prop
def RP (k kp : WK) : RK := fun r σ => match r with
  | .ret v => k v σ
  | .pan v => kp v σ
abbrev EvT := FuncId → List Value → AHeap → RK → Prop
def noP : WK := fun _ _ => False
structure AFun where
  n : Nat
  params : Nat
  res : List ResultVar
  body : AC
end Go.Ax
namespace Go.Ax
open Go.RowKit
structure Cx where
  N : Nat
  D : List Deferred
  Lp : List Nat
  T : Nat → Value
structure Keep (C : Cx) (a : Act) : Prop where
  defers : a.defers = C.D
  size : a.tmps.size = C.N
  keep : ∀ t ∈ C.Lp, a.tmps.getD t undef = C.T t
def Cx.ok (C : Cx) (d : Nat) : Prop := d < C.N ∧ d ∉ C.Lp
theorem Keep.put {C : Cx} {a : Act} (h : Keep C a) {v : Value} {dst : Option Tmp} (hd : ∀ d, dst = some d → C.ok d) : Keep C (a.put dst v) := by
  cases dst with
  | none => exact h
  | some d =>
    refine ⟨h.defers, by simp [Act.put, h.size], fun t ht => ?_⟩
    have hne : ¬ d = t := fun e => (hd d rfl).2 (e ▸ ht)
    have := h.keep t ht
    simpa [Act.put, Array.getD_eq_getD_getElem?, Array.getElem?_setIfInBounds, hne] using this
structure FR (C : Cx) (ρ : List RB) (fr : Fr) (a : Act) : Prop where
  val : ∀ t, VR ρ (fget fr t) (a.tmps.getD t undef)
  kp : Keep C a
section
variable {P : Program} {B : Nat} {w0 : World} {ρ : List RB} {σ : AHeap} {w : World} {C : Cx} {fr : Fr} {a : Act}
theorem FR.mono {ρ' : List RB} (e : Ext ρ ρ') (h : FR C ρ fr a) : FR C ρ' fr a := ⟨fun t => (h.val t).mono e, h.kp⟩
theorem FR.put (h : FR C ρ fr a) {v v' : Value} (hv : VR ρ v v') {dst : Option Tmp} (hd : ∀ d, dst = some d → C.ok d) : FR C ρ (fput fr dst v) (a.put dst v') := by
  cases dst with
  | none => exact h
  | some d =>
    have hdN := (hd d rfl).1
    refine ⟨fun t => ?_, h.kp.put hd⟩
    simp only [fput, fget_set, Act.put]
    by_cases ht : t = d
    · subst ht
      have : t < a.tmps.size := by rw [h.kp.size]; exact hdN
      simp [this, Array.getD_eq_getD_getElem?]
      exact hv
    · have hne : ¬ d = t := fun e => ht e.symm
      rw [if_neg ht]
      have := h.val t
      simpa [Array.getD_eq_getD_getElem?, Array.getElem?_setIfInBounds, hne] using this
theorem FR.setb (h : FR C ρ fr a) {t : Nat} {b : Bool} (ht : fget fr t = .bool b) : FR C ρ (fr.set t (.bool b)) a := by
  refine ⟨fun u => ?_, h.kp⟩
  rw [fget_set]
  split
  · rename_i e; subst e; rw [← ht]; exact h.val u
  · exact h.val u
theorem FR.ev (h : FR C ρ fr a) (x : Operand) : VR ρ (fev fr x) (a.eval x) := by
  cases x with
  | tmp t => exact h.val t
  | const v =>
    simp only [fev, Act.eval]
    cases hc : v.cells.toList.all flat1 with
    | false => exact .dead _
    | true =>
      simp only [cond_true]
      cases v with
      | agg c => exact VR.agg' (flats_refl ρ hc)
      | tuple c =>
        simp [Value.cells, flat1] at hc
      | _ => exact flat1_refl ρ (by simpa [Value.cells] using hc)
  | func f => exact .func _ _ _ _ _ rfl rfl (fun i v v' x => by simp at x) (fun i v v' x => by simp at x)
  | global g => exact .dead _
theorem fmake_get (L : List Nat) (fr : Fr) (t : Nat) : fget (fmake L (fpick L fr)) t = fget fr t ∨ fget (fmake L (fpick L fr)) t = undef := by
  induction L with
  | nil => right; exact fget_leaf t
  | cons u L ih =>
    simp only [fpick, List.map_cons, fmake, fget_set]
    split
    · rename_i e; subst e; exact .inl rfl
    · exact ih
theorem FR.make (h : FR C ρ fr a) (L : List Nat) : FR C ρ (fmake L (fpick L fr)) a := by
  refine ⟨fun t => ?_, h.kp⟩
  rcases fmake_get L fr t with e | e
  · rw [e]; exact h.val t
  · rw [e]; exact .dead _
theorem FR.yielded (h : FR C ρ fr a) {all : List Oper} {j t : Nat} {b : Bool} (hj : (all[j]?).bind (·.dst) = some t) (hb : fget fr t = .bool b) : yielded all.toArray a.tmps j = some b := by
  have hv := h.val t
  rw [hb] at hv
  have hv := hv.bool_inv
  have ht : a.tmps[t]? = some (.bool b) := by
    rw [Array.getD_eq_getD_getElem?] at hv
    cases hx : a.tmps[t]? with
    | none => rw [hx] at hv; simp [undef] at hv
    | some v => rw [hx] at hv; simp at hv; rw [hv]
  unfold Go.yielded
  have hj' : ((all.toArray[j]?).bind (·.dst)) = some t := by simpa using hj
  rw [hj']
  simp [ht]
theorem yielded_skip {all : List Oper} {j t : Nat} (hj : (all[j]?).bind (·.dst) = some t) {tmps : Array Value} (hv : tmps.getD t undef = undef) : yielded all.toArray tmps j = none := by
  unfold Go.yielded
  have hj' : ((all.toArray[j]?).bind (·.dst)) = some t := by simpa using hj
  rw [hj']
  rw [Array.getD_eq_getD_getElem?] at hv
  simp only [Option.bind_some]
  cases hx : tmps[t]? with
  | none => rfl
  | some v => rw [hx] at hv; simp at hv; rw [hv]; rfl
def KS (B : Nat) (w0 : World) (C : Cx) (ρ : List RB) (k : FK) (Q : Act → World → Prop) : Prop :=
  ∀ ρ' fr σ a w, Ext ρ ρ' → FR C ρ' fr a → Rel B w0 ρ' σ w → k fr σ → Q a w
theorem KS.mono {ρ' : List RB} (e : Ext ρ ρ') {k : FK} {Q : Act → World → Prop} (h : KS B w0 C ρ k Q) : KS B w0 C ρ' k Q :=
  fun ρ2 fr σ a w e2 => h ρ2 fr σ a w (e.trans e2)
def KP (B : Nat) (w0 : World) (C : Cx) (ρ : List RB) (kp : WK) (Q : Exit → Act → World → Prop) : Prop :=
  ∀ ρ' v v' σ a w, Ext ρ ρ' → Keep C a → Rel B w0 ρ' σ w → VR ρ' v v' → kp v σ → Q (.panic [{ v := v', recovered := false }]) a w
theorem KP.mono {ρ' : List RB} (e : Ext ρ ρ') {kp : WK} {Q : Exit → Act → World → Prop} (h : KP B w0 C ρ kp Q) : KP B w0 C ρ' kp Q :=
  fun ρ2 v v' σ a w e2 => h ρ2 v v' σ a w (e.trans e2)
def ResR (ρ : List RB) (r : Out) (e : Ending) : Prop :=
  match r with
  | .ret v => ∃ v', e = .returned v' ∧ VR ρ v v'
  | .pan v => ∃ v', e = .panicked [{ v := v', recovered := false }] ∧ VR ρ v v'
def Ev (P : Program) : EvT := fun g args σ Q =>
  ∀ B w0 ρ w args', Rel B w0 ρ σ w → LR ρ args args' →
    ∃ fn, P.funcs[g]? = some fn ∧ (fn.name == "runtime.NumGoroutine") = false ∧
      ((fn.body.isNone = false ∧ Calls P g args'.toArray w fun e w' => ∃ r ρ' σ', Q r σ' ∧ ResR ρ' r e ∧ Ext ρ ρ' ∧ Rel B w0 ρ' σ' w') ∨
       (∃ v v' ρ' σ' w', Q (.ret v) σ' ∧ (callFunc g args'.toArray).run P w = .ok (.value v') w' ∧ Ext ρ ρ' ∧ Rel B w0 ρ' σ' w' ∧ VR ρ' v v'))
theorem Ev.mono {P : Program} {f : FuncId} {args : List Value} {σ : AHeap} {Q Q' : RK} (h : Ev P f args σ Q) (hq : ∀ r σ', Q r σ' → Q' r σ') : Ev P f args σ Q' := by
  intro B w0 ρ w args' hr ha
  obtain ⟨fn, h1, h2, h3⟩ := h B w0 ρ w args' hr ha
  refine ⟨fn, h1, h2, ?_⟩
  rcases h3 with ⟨hb, hc⟩ | ⟨v, v', ρ', σ', w', hm, hrun, e⟩
  · exact .inl ⟨hb, hc.mono fun e w' ⟨r, ρ', σ', q, x⟩ => ⟨r, ρ', σ', hq _ _ q, x⟩⟩
  · exact .inr ⟨v, v', ρ', σ', w', hq _ _ hm, hrun, e⟩
theorem run_callFunc {g : FuncId} {fn : Func} {args : Array Value} (hf : P.funcs[g]? = some fn) (hn : (fn.name == "runtime.NumGoroutine") = false) (hb : fn.body.isNone = false) :
    (callFunc g args).run P w = .ok (.enter g args) w := by
  simp only [beq_eq_false_iff_ne, ne_eq] at hn
  cases hbb : fn.body with
  | none => rw [hbb] at hb; simp at hb
  | some c => simp [callFunc, program, Sem.run, hf, hn, hbb]
theorem aop_congr {ev ev' : Operand → Value} {o : Oper} (h : ∀ x ∈ o.op.operands, ev x = ev' x) : aop P ev o σ = aop P ev' o σ := by
  obtain ⟨dst, op, type, pos, after, guard⟩ := o
  have key : ∀ (l : List (Nat × Operand)), (∀ p ∈ l, ev p.2 = ev' p.2) → (l.map fun p => (p.1, ev p.2)) = l.map fun p => (p.1, ev' p.2) := by
    intro l hl
    apply List.map_congr_left
    intro p hp
    rw [hl p hp]
  have key2 : ∀ (l : List Operand), (∀ p ∈ l, ev p = ev' p) → l.map ev = l.map ev' := by
    intro l hl
    exact List.map_congr_left hl
  have key3 : ∀ (l : Option Operand), (∀ p ∈ l, ev p = ev' p) → l.map ev = l.map ev' := by
    intro l hl
    cases l with
    | none => rfl
    | some x => simp [hl x rfl]
  unfold aop
  cases op <;> simp only [Op.operands] at h <;> try rfl
  case call c =>
    simp only [Call.operands] at h
    cases hc : c.callee with
    | builtin b =>
      rw [hc] at h
      simp only
      rw [key2 c.args.toList (fun p hp => h p (by simpa using hp))]
    | _ => simp only [hc]
  case build t ps => simp only; rw [key ps.toList (fun p hp => h p.2 (by simp; exact ⟨p.1, by simpa using hp⟩))]
  case buildSlice t n ps => simp only; rw [key ps.toList (fun p hp => h p.2 (by simp; exact ⟨p.1, by simpa using hp⟩))]
  case makeFunc fn f c => simp only; rw [key2 f.toList (fun p hp => h p (by simp; left; simpa using hp)), key2 c.toList (fun p hp => h p (by simp; right; simpa using hp))]
  case slice t x lo hi mx =>
    simp only
    rw [h x (by simp), key3 lo (fun p hp => h p (by simp; cases lo <;> simp_all)), key3 hi (fun p hp => h p (by simp; cases hi <;> simp_all)), key3 mx (fun p hp => h p (by simp; cases mx <;> simp_all))]
  all_goals simp only
  case move x => rw [h x (by simp)]
  case assign x => rw [h x (by simp)]
  case pick c a b => rw [h c (by simp), h a (by simp), h b (by simp)]
  case box e x => rw [h x (by simp)]
  case load t x => rw [h x (by simp)]
  case store t x y => rw [h x (by simp), h y (by simp)]
  case nilCheck x => rw [h x (by simp)]
  case binOp op t x y ty => rw [h x (by simp), h y (by simp)]
  case unOp op t x => rw [h x (by simp)]
  case convert s d x => rw [h x (by simp)]
  case makeInterface t x => rw [h x (by simp)]
  case makeSlice t x y => rw [h x (by simp), h y (by simp)]
  case fieldAddr t x f => rw [h x (by simp)]
  case field t x f => rw [h x (by simp)]
  case indexAddr t x i => rw [h x (by simp), h i (by simp)]
  case index t x i => rw [h x (by simp), h i (by simp)]
  case extract x i => rw [h x (by simp)]
  case makeMap t r => rw [key3 r (fun p hp => h p (by simpa using hp))]
  case lookup t x i ok => rw [h x (by simp), h i (by simp)]
  case mapUpdate t m k x => rw [h m (by simp), h k (by simp), h x (by simp)]
  case range t x => rw [h x (by simp)]
  case next it str => rw [h it (by simp)]
  case entry it => rw [h it (by simp)]
  case typeAssert x xt t ok => rw [h x (by simp)]
theorem invoke_method (x : Value) (l cap : Array Value) (name : String) : invoke (.fn (.method name) cap) (#[x] ++ l) = callMethod x name l := by
  have h0 : (#[x] ++ l)[0]? = some x := by simp [Array.getElem?_append]
  have h1 : (#[x] ++ l).extract 1 (#[x] ++ l).size = l := by apply Array.ext'; simp [List.take_of_length_le]
  simp only [invoke, h0, h1]
end
end Go.Ax
namespace Go.Ax
open Go.RowKit
def pu {α : Type} (o : Option α) (k : α → Prop) : Prop := ∃ v, o = some v ∧ k v
def wB (v : Value) (k : Bool → Prop) : Prop :=
  match asB v with
  | some t => k t
  | none => False
def wC (v : Value) (a b : Prop) : Prop :=
  match asB v with
  | some true => a
  | some false => b
  | none => False
def wF (v : Value) (k : FuncId → List Value → List Value → Prop) : Prop :=
  match v with
  | .func (.func g) first captured => k g first.toList captured.toList
  | _ => False
def wG (v : Value) (a b c : Prop) : Prop :=
  match asB v with
  | some true => a
  | some false => b
  | none => isSkip v = true ∧ c
def wPan (v : Value) (σ : AHeap) (kp : WK) : Prop :=
  match v with
  | .iface t u => kp (.iface t u) σ
  | _ => False
def wNew (σ : AHeap) (o : AObj) (k : Nat → AHeap → Prop) : Prop := k σ.size (σ.push o)
def lenS (x : Value) : Option Value :=
  match x with
  | .slice _ n _ => some (.int .i64 n)
  | _ => none
def lenStr (x : Value) : Option Value :=
  match x with
  | .string s => some (.int .i64 s.size)
  | _ => none
def lenM (x : Value) (σ : AHeap) : Option Value := (aEntries x σ).map fun es => .int .i64 es.length
def convI (k : IntKind) (x : Value) : Option Value :=
  match x with
  | .int _ n => some (.int k (k.wrap n))
  | _ => none
def partR (g : Bool) (n : Nat) (c : List Value) (off : Nat) : Option Value :=
  cond g (cond (Nat.ble (off + n) c.length) (some (.agg ((c.drop off).take n).toArray)) none) c[off]?
def fieldR (g : Bool) (n off : Nat) (x : Value) : Option Value :=
  match x with
  | .agg c => partR g n c.toList off
  | _ => none
def idxArr (g : Bool) (n len size : Nat) (x i : Value) : Option Value :=
  match x, i with
  | .agg c, .int _ i => if 0 ≤ i ∧ i < len then partR g n c.toList (i.toNat * size) else none
  | _, _ => none
def idxStr (x i : Value) : Option Value :=
  match x, i with
  | .string s, .int _ i => if 0 ≤ i then match s[i.toNat]? with
      | some b => some (.int .u8 b.toNat)
      | none => none
    else none
  | _, _ => none
def buildR (pl : List (Nat × Nat)) (zc : List Value) (parts : List (Nat × Value)) : Option Value := (aFill (pl[·]?) zc parts).map fun l => .agg l.toArray
def buildA (size : Nat) (zc : List Value) (parts : List (Nat × Value)) : Option Value := (aFill (fun k => some (k * size, size)) zc parts).map fun l => .agg l.toArray
def buildS (e z len : Nat) (zc : List Value) (parts : List (Nat × Value)) (σ : AHeap) : Option (Value × AHeap) :=
  cond (Nat.ble (len * z) 16777216 && Nat.blt 0 z) ((aFill (fun k => some (k * z, z)) (reps len zc) parts).map fun l => (.slice (some ⟨σ.size, 0, none⟩) len len, σ.push (.cells l e false))) none
section
variable (P : Program) (E : EvT)
def wBin (op : BinOp) (t : TypeId) (x y : Value) (K : Value → Prop) : Prop :=
  match P.underlying t with
  | some (.struct _) => pu (aBinP P t op x y) K
  | some (.array _ _) => pu (aBinP P t op x y) K
  | d => pu (aBin d op x y) K
def wLen (t : TypeId) (x : Value) (σ : AHeap) (K : Value → Prop) : Prop :=
  match P.underlying t with
  | some (.slice _) => pu (lenS x) K
  | some .string => pu (lenStr x) K
  | some (.map _ _) => pu (lenM x σ) K
  | _ => False
def wSlice (t : TypeId) (x : Value) (lo hi mx : Option Value) (K : Value → Prop) : Prop :=
  match P.underlying t with
  | some .string => match mx with
    | none => pu (aSliceStr x lo hi) K
    | some _ => False
  | some (.slice e) => match P.info? e with
    | some i => pu (aSlice i.size x lo hi mx) K
    | none => False
  | some (.array n e) => match P.info? e with
    | some i => pu (aSliceArr n i.size x lo hi mx) K
    | none => False
  | some (.pointer arr) => match P.underlying arr with
    | some (.array n e) => match P.info? e with
      | some i => pu (aSliceArr n i.size x lo hi mx) K
      | none => False
    | _ => False
  | _ => False
def wIdxA (t : TypeId) (x i : Value) (K : Value → Prop) : Prop :=
  match P.underlying t with
  | some (.slice e) => match P.info? e with
    | some j => pu (aIndexAddr j.size x i) K
    | none => False
  | some (.array n e) => match P.info? e with
    | some j => pu (aIndexAddrArr n j.size x i) K
    | none => False
  | _ => False
def wConv (s d : TypeId) (x : Value) (σ : AHeap) (K : Value → Prop) : Prop :=
  match P.underlying s, P.underlying d with
  | some (.int _), some (.int k) => pu (convI k x) K
  | _, _ => pu (aConv P s d x σ) K
def wField (t : TypeId) (f : Nat) (x : Value) (K : Value → Prop) : Prop :=
  match P.underlying t with
  | some (.struct fs) => match fs[f]? with
    | some fd => match shp P fd.type with
      | some (g, n) => pu (fieldR g n fd.offset x) K
      | none => False
    | none => False
  | _ => False
def wIdx (t : TypeId) (x i : Value) (K : Value → Prop) : Prop :=
  match P.underlying t with
  | some (.array len e) => match P.info? e with
    | some j => match shp P e with
      | some (g, n) => pu (idxArr g n len j.size x i) K
      | none => False
    | none => False
  | some .string => pu (idxStr x i) K
  | _ => False
def wBuild (t : TypeId) (parts : List (Nat × Value)) (K : Value → Prop) : Prop :=
  match zeroOf P t with
  | some z => match P.underlying t with
    | some (.struct fs) => match placesOf P fs.toList with
      | some pl => pu (buildR pl z.cells.toList parts) K
      | none => False
    | some (.array _ e) => match P.info? e with
      | some i => pu (buildA i.size z.cells.toList parts) K
      | none => False
    | _ => False
  | none => False
def wBuildS (t : TypeId) (len : Nat) (parts : List (Nat × Value)) (σ : AHeap) (K : WK) : Prop :=
  match elemOf? P t with
  | some (e, z, _) => match len with
    | 0 => match parts with
      | [] => K (.slice (some ⟨ZB, 0, some 0⟩) 0 0) σ
      | _ => False
    | _ => match zeroOf P e with
      | some zv => pu (buildS e z len zv.cells.toList parts σ) fun r => K r.1 r.2
      | none => False
  | none => False
def wBuiltin (b : Builtin) (ts : List TypeId) (args : List Value) (σ : AHeap) (K : WK) : Prop :=
  match b, ts, args with
  | .append, [t, u], [s, x] => match elemOf? P t with
    | some (e, z, by') => match zeroOf P e with
      | some zv => cond (notInt P u) (pu (aAppend e z by' s x σ) fun r => K r.1 r.2) (cond (isInt P u) (pu (aAppendZ e z by' zv.cells.toList s x σ) fun r => K r.1 r.2) False)
      | none => False
    | none => False
  | .copy, [t, _], [d, x] => match elemOf? P t with
    | some (_, z, _) => pu (aCopy z d x σ) fun r => K r.1 r.2
    | none => False
  | .len, [t], [x] => wLen P t x σ fun v => K v σ
  | .delete, [t, _], [m, k] => pu (aDelete P t m k σ) fun σ' => K (.tuple #[]) σ'
  | .min, _, [x, y] => pu (aMin2 x y) fun v => K v σ
  | .max, _, [x, y] => pu (aMax2 x y) fun v => K v σ
  | .cap, [t], [x] => match P.underlying t with
    | some (.slice _) => pu (aCap x) fun v => K v σ
    | _ => False
  | .clear, [t], [x] => match elemOf? P t with
    | some (e, _, _) => match zeroOf P e with
      | some zv => pu (aClear zv.cells.toList x σ) fun σ' => K (.tuple #[]) σ'
      | none => False
    | none => False
  | _, _, _ => False
def wval (ev : Operand → Value) (o : Oper) (σ : AHeap) (K kp : WK) : Prop :=
  match o.op with
  | .move x | .assign x => K (ev x) σ
  | .pick c a b => wB (ev c) fun t => K (cond t (ev a) (ev b)) σ
  | .alloc e => match zeroOf P e with
    | some z => wNew σ (.cells z.cells.toList e false) fun b σ => K (.pointer (some ⟨b, 0, none⟩)) σ
    | none => False
  | .box e x => cond (live (ev x)) (wNew σ (.cells (ev x).cells.toList e false) fun b σ => K (.pointer (some ⟨b, 0, none⟩)) σ) False
  | .build t ps => wBuild P t (ps.toList.map fun p => (p.1, ev p.2)) fun v => K v σ
  | .buildSlice t n ps => wBuildS P t n (ps.toList.map fun p => (p.1, ev p.2)) σ K
  | .load t a => match shp P t with
    | some (g, n) => pu (aLoad g n (ev a) σ) fun v => K v σ
    | none => False
  | .store t a x => match shp P t with
    | some (_, n) => pu (aStore n (ev a) (ev x) σ) fun σ' => K undef σ'
    | none => False
  | .nilCheck x => pu (aNil (ev x)) fun v => K v σ
  | .binOp op t x y _ => wBin P op t (ev x) (ev y) fun v => K v σ
  | .unOp op _ x => pu (aUn op (ev x)) fun v => K v σ
  | .convert s d x => wConv P s d (ev x) σ fun v => K v σ
  | .makeInterface t x => pu (aIface P t (ev x)) fun v => K v σ
  | .makeFunc fn f c => K (.func fn (f.toList.map ev).toArray (c.toList.map ev).toArray) σ
  | .makeSlice t l c => match elemOf? P t with
    | some (e, _, by') => match zeroOf P e with
      | some z => pu (aMake e by' z.cells.toList (ev l) (ev c) σ) fun r => K r.1 r.2
      | none => False
    | none => False
  | .slice t x lo hi mx => wSlice P t (ev x) (lo.map ev) (hi.map ev) (mx.map ev) fun v => K v σ
  | .fieldAddr t x f => match fieldOff P t f with
    | some off => pu (aFieldAddr off (ev x)) fun v => K v σ
    | none => False
  | .field t x f => wField P t f (ev x) fun v => K v σ
  | .indexAddr t x i => wIdxA P t (ev x) (ev i) fun v => K v σ
  | .index t x i => wIdx P t (ev x) (ev i) fun v => K v σ
  | .extract x i => pu (aExtract (ev x) i) fun v => K v σ
  | .makeMap t r => pu (aMakeMap P t (r.map ev) σ) fun r => K r.1 r.2
  | .lookup t x i ok => pu (aLookup P t (ev x) (ev i) ok σ) fun v => K v σ
  | .mapUpdate t m k x => pu (aMapUpdate P t (ev m) (ev k) (ev x) σ) fun σ' => K undef σ'
  | .range t x => pu (aRange P t (ev x) σ) fun r => K r.1 r.2
  | .next it str => cond str (pu (aNextStr (ev it) σ) fun r => K r.1 r.2) (pu (aNextMap (ev it) σ) fun L => ∀ r ∈ L, K r.1 r.2)
  | .entry it => pu (aEntry (ev it) σ) fun v => K v σ
  | .typeAssert x _ t ok => pu (aAssert P t ok (ev x)) fun v => K v σ
  | .call c => match c.callee with
    | .builtin b => wBuiltin P b c.argTypes.toList (c.args.toList.map ev) σ K
    | .value f => wF (ev f) fun g first captured => E g (first ++ c.args.toList.map ev ++ captured) σ (RP K kp)
    | .invoke r name => pu (aMethod P (ev r) name σ) fun r => E r.1 (r.2 :: c.args.toList.map ev) σ (RP K kp)
  | .panic x => wPan (ev x) σ kp
  | _ => False
end
section
variable {P : Program} {σ : AHeap}
theorem wBin_sound {op : BinOp} {t : TypeId} {x y : Value} {K : Value → Prop} (h : wBin P op t x y K) : pu (aBinP P t op x y) K := by
  unfold wBin at h
  split at h
  · exact h
  · exact h
  · obtain ⟨v, h1, h2⟩ := h
    exact ⟨v, by simp only [aBinP, h1], h2⟩
theorem wLen_sound {t : TypeId} {x : Value} {K : Value → Prop} (h : wLen P t x σ K) : pu (aLenM P t x σ) K := by
  unfold wLen at h
  split at h
  · rename_i e hu
    obtain ⟨v, h1, h2⟩ := h
    refine ⟨v, ?_, h2⟩
    cases x <;> simp_all [lenS, aLenM, aLen]
  · rename_i hu
    obtain ⟨v, h1, h2⟩ := h
    refine ⟨v, ?_, h2⟩
    cases x <;> simp_all [lenStr, aLenM, aLen]
  · rename_i k e hu
    obtain ⟨v, h1, h2⟩ := h
    refine ⟨v, ?_, h2⟩
    unfold lenM at h1
    simp [aLenM, aLen, hu, h1]
  · exact h.elim
theorem wSlice_sound {t : TypeId} {x : Value} {lo hi mx : Option Value} {K : Value → Prop} (h : wSlice P t x lo hi mx K) : pu (aSliceOp P t x lo hi mx) K := by
  unfold wSlice at h
  unfold aSliceOp
  split at h
  · rename_i hu
    rw [hu]
    split at h
    · exact h
    · exact h.elim
  · rename_i e hu
    rw [hu]
    split at h
    · rename_i i hi; simp only [hi]; exact h
    · exact h.elim
  · rename_i n e hu
    rw [hu]
    split at h
    · rename_i i hi; simp only [hi]; exact h
    · exact h.elim
  · rename_i arr hu
    rw [hu]
    split at h
    · rename_i n e hu2
      split at h
      · rename_i i hi; simp only [hu2, hi]; exact h
      · exact h.elim
    · exact h.elim
  · exact h.elim
theorem wIdxA_sound {t : TypeId} {x i : Value} {K : Value → Prop} (h : wIdxA P t x i K) : pu (aIndexAddrOp P t x i) K := by
  unfold wIdxA at h
  unfold aIndexAddrOp
  split at h
  · rename_i e hu
    rw [hu]
    split at h
    · rename_i j hi; simp only [hi]; exact h
    · exact h.elim
  · rename_i n e hu
    rw [hu]
    split at h
    · rename_i j hi; simp only [hi]; exact h
    · exact h.elim
  · exact h.elim
theorem wConv_sound {s d : TypeId} {x : Value} {K : Value → Prop} (h : wConv P s d x σ K) : pu (aConv P s d x σ) K := by
  unfold wConv at h
  split at h
  · rename_i k0 k h1 h2
    obtain ⟨v, h3, h4⟩ := h
    refine ⟨v, ?_, h4⟩
    unfold convI at h3
    split at h3
    · cases h3; simp [aConv, h1, h2]
    · cases h3
  · exact h
theorem partR_eq {t : TypeId} {g : Bool} {n : Nat} (hs : shp P t = some (g, n)) (c : List Value) (off : Nat) : aPart P t c off = partR g n c off := by
  unfold aPart partR
  rw [hs]
  cases g <;> rfl
theorem wField_sound {t : TypeId} {f : Nat} {x : Value} {K : Value → Prop} (h : wField P t f x K) : pu (aField P t f x) K := by
  unfold wField at h
  split at h
  · rename_i fs hu
    split at h
    · rename_i fd hf
      split at h
      · rename_i g n hs
        obtain ⟨v, h1, h2⟩ := h
        refine ⟨v, ?_, h2⟩
        unfold fieldR at h1
        split at h1
        · unfold aField; rw [hu]; simp only [hf, partR_eq hs]; exact h1
        · cases h1
      · exact h.elim
    · exact h.elim
  · exact h.elim
theorem wIdx_sound {t : TypeId} {x i : Value} {K : Value → Prop} (h : wIdx P t x i K) : pu (aIndex P t x i) K := by
  unfold wIdx at h
  split at h
  · rename_i len e hu
    split at h
    · rename_i j hj
      split at h
      · rename_i g n hs
        obtain ⟨v, h1, h2⟩ := h
        refine ⟨v, ?_, h2⟩
        unfold idxArr at h1
        split at h1
        · unfold aIndex; rw [hu]; simp only [hj, partR_eq hs]; exact h1
        · cases h1
      · exact h.elim
    · exact h.elim
  · rename_i hu
    obtain ⟨v, h1, h2⟩ := h
    refine ⟨v, ?_, h2⟩
    unfold idxStr at h1
    split at h1
    · unfold aIndex; rw [hu]; exact h1
    · cases h1
  · exact h.elim
theorem wBuild_sound {t : TypeId} {parts : List (Nat × Value)} {K : Value → Prop} (h : wBuild P t parts K) : pu (aBuild P t parts) K := by
  unfold wBuild at h
  split at h
  · rename_i z hz
    split at h
    · rename_i fs hu
      split at h
      · rename_i pl hp
        unfold aBuild; rw [hz, hu]; simp only [hp]; exact h
      · exact h.elim
    · rename_i n e hu
      split at h
      · rename_i i hi
        unfold aBuild; rw [hz, hu]; simp only [hi]; exact h
      · exact h.elim
    · exact h.elim
  · exact h.elim
theorem wBuildS_sound {t : TypeId} {n : Nat} {ps : List (Nat × Value)} {K : WK} (h : wBuildS P t n ps σ K) :
    (Nat.beq n 0 && !ps.isEmpty) = false ∧ pu (aBuildSlice P t n ps σ) fun r => K r.1 r.2 := by
  unfold wBuildS at h
  split at h
  · rename_i e z by' he
    split at h
    · split at h
      · refine ⟨rfl, (.slice (some ⟨ZB, 0, some 0⟩) 0 0, σ), ?_, h⟩
        simp only [aBuildSlice, he]
      · exact h.elim
    · rename_i hn0
      split at h
      · rename_i zv hz
        refine ⟨?_, ?_⟩
        · cases n with
          | zero => exact absurd rfl hn0
          | succ n => rfl
        · obtain ⟨r, h1, h2⟩ := h
          refine ⟨r, ?_, h2⟩
          cases n with
          | zero => exact absurd rfl hn0
          | succ n => simp only [aBuildSlice, he, hz]; exact h1
      · exact h.elim
  · exact h.elim
theorem wBuiltin_sound {b : Builtin} {ts : List TypeId} {args : List Value} {K : WK} (h : wBuiltin P b ts args σ K) : ∃ r, aBuiltin P b ts args σ = some r ∧ K r.1 r.2 := by
  unfold wBuiltin at h
  unfold aBuiltin
  split at h
  · split at h
    · rename_i e z by' he
      split at h
      · rename_i zv hz
        (try simp only [he, hz])
        cases hn : notInt P _ with
        | true => rw [hn] at h; exact h
        | false =>
          rw [hn] at h
          simp only [cond_false] at h ⊢
          cases hi : isInt P _ with
          | true => rw [hi] at h; exact h
          | false => rw [hi] at h; exact h.elim
      · exact h.elim
    · exact h.elim
  · split at h
    · rename_i e z by' he
      (try simp only [he]); exact h
    · exact h.elim
  · obtain ⟨v, h1, h2⟩ := wLen_sound h
    exact ⟨(v, σ), by simp only [h1, Option.bind_some], h2⟩
  · obtain ⟨v, h1, h2⟩ := h
    exact ⟨(.tuple #[], v), by simp only [h1, Option.bind_some], h2⟩
  · obtain ⟨v, h1, h2⟩ := h
    exact ⟨(v, σ), by simp only [h1, Option.bind_some], h2⟩
  · obtain ⟨v, h1, h2⟩ := h
    exact ⟨(v, σ), by simp only [h1, Option.bind_some], h2⟩
  · split at h
    · rename_i hu
      obtain ⟨v, h1, h2⟩ := h
      exact ⟨(v, σ), by simp only [hu, h1, Option.bind_some], h2⟩
    · exact h.elim
  · split at h
    · rename_i he
      split at h
      · rename_i hz
        obtain ⟨v, h1, h2⟩ := h
        exact ⟨(.tuple #[], v), by simp only [he, hz, h1, Option.bind_some], h2⟩
      · exact h.elim
    · exact h.elim
  · exact h.elim
end
section
variable {P : Program}
theorem wval_aop {E : EvT} {ev : Operand → Value} {o : Oper} {σ : AHeap} {K kp : WK} (hc : ∀ c, o.op = .call c → ∃ b, c.callee = .builtin b) (hn : ∀ it, o.op ≠ .next it false) (hp : ∀ x, o.op ≠ .panic x) (h : wval P E ev o σ K kp) :
    ∃ r, aop P ev o σ = some r ∧ K r.1 r.2 := by
  obtain ⟨dst, op, type, pos, after, guard⟩ := o
  have hone : ∀ {r : Value × AHeap}, aop P ev ⟨dst, op, type, pos, after, guard⟩ σ = some r → K r.1 r.2 → (∀ c, op ≠ .call c) → (∀ it, op ≠ .next it false) →
      ∃ r, aop P ev ⟨dst, op, type, pos, after, guard⟩ σ = some r ∧ K r.1 r.2 := fun {r} hr hk _ _ => ⟨r, hr, hk⟩
  cases op with
  | move x => exact hone (r := (ev x, σ)) rfl h (by simp) (by simp)
  | assign x => exact hone (r := (ev x, σ)) rfl h (by simp) (by simp)
  | pick c a b =>
    simp only [wval, wB] at h
    split at h
    · rename_i t h1
      exact hone (r := (cond t (ev a) (ev b), σ)) (by simp [aop, h1]) h (by simp) (by simp)
    · exact h.elim
  | alloc e =>
    simp only [wval] at h
    split at h
    · rename_i z hz
      exact hone (r := aNew e z.cells.toList σ) (by simp [aop, hz]) h (by simp) (by simp)
    · exact h.elim
  | box e x =>
    simp only [wval] at h
    cases hl : live (ev x) with
    | false => rw [hl] at h; exact h.elim
    | true => rw [hl] at h; exact hone (r := aNew e (ev x).cells.toList σ) (by simp [aop, aBox, hl]) h (by simp) (by simp)
  | build t ps =>
    obtain ⟨v, h1, h2⟩ := wBuild_sound h
    exact hone (r := (v, σ)) (by simp only [aop, h1, Option.bind_some]) h2 (by simp) (by simp)
  | buildSlice t n ps =>
    obtain ⟨h0, v, h1, h2⟩ := wBuildS_sound h
    have h0 : (Nat.beq n 0 && !ps.toList.isEmpty) = false := by simpa using h0
    exact hone (r := v) (by simp only [aop, h0, cond_false, h1]) h2 (by simp) (by simp)
  | load t a =>
    simp only [wval] at h
    split at h
    · rename_i g n hs
      obtain ⟨v, h1, h2⟩ := h
      exact hone (r := (v, σ)) (by simp only [aop, hs, h1, Option.bind_some]) h2 (by simp) (by simp)
    · exact h.elim
  | store t a x =>
    simp only [wval] at h
    split at h
    · rename_i g n hs
      obtain ⟨v, h1, h2⟩ := h
      exact hone (r := (undef, v)) (by simp only [aop, hs, h1, Option.bind_some]) h2 (by simp) (by simp)
    · exact h.elim
  | nilCheck x =>
    obtain ⟨v, h1, h2⟩ := h
    exact hone (r := (v, σ)) (by simp only [aop, h1, Option.bind_some]) h2 (by simp) (by simp)
  | binOp op t x y ty =>
    obtain ⟨v, h1, h2⟩ := wBin_sound h
    exact hone (r := (v, σ)) (by simp only [aop, h1, Option.bind_some]) h2 (by simp) (by simp)
  | unOp op t x =>
    obtain ⟨v, h1, h2⟩ := h
    exact hone (r := (v, σ)) (by simp only [aop, h1, Option.bind_some]) h2 (by simp) (by simp)
  | convert s d x =>
    obtain ⟨v, h1, h2⟩ := wConv_sound h
    exact hone (r := (v, σ)) (by simp only [aop, h1, Option.bind_some]) h2 (by simp) (by simp)
  | makeInterface t x =>
    obtain ⟨v, h1, h2⟩ := h
    exact hone (r := (v, σ)) (by simp only [aop, h1, Option.bind_some]) h2 (by simp) (by simp)
  | makeFunc fn f c => exact hone (r := (_, σ)) rfl h (by simp) (by simp)
  | makeSlice t l c =>
    simp only [wval] at h
    split at h
    · rename_i e z by' he
      split at h
      · rename_i zv hz
        obtain ⟨v, h1, h2⟩ := h
        exact hone (r := v) (by simp only [aop, he, hz, h1]) h2 (by simp) (by simp)
      · exact h.elim
    · exact h.elim
  | slice t x lo hi mx =>
    obtain ⟨v, h1, h2⟩ := wSlice_sound h
    exact hone (r := (v, σ)) (by simp only [aop, h1, Option.bind_some]) h2 (by simp) (by simp)
  | fieldAddr t x f =>
    simp only [wval] at h
    split at h
    · rename_i off ho
      obtain ⟨v, h1, h2⟩ := h
      exact hone (r := (v, σ)) (by simp only [aop, ho, h1, Option.bind_some]) h2 (by simp) (by simp)
    · exact h.elim
  | field t x f =>
    obtain ⟨v, h1, h2⟩ := wField_sound h
    exact hone (r := (v, σ)) (by simp only [aop, h1, Option.bind_some]) h2 (by simp) (by simp)
  | indexAddr t x i =>
    obtain ⟨v, h1, h2⟩ := wIdxA_sound h
    exact hone (r := (v, σ)) (by simp only [aop, h1, Option.bind_some]) h2 (by simp) (by simp)
  | index t x i =>
    obtain ⟨v, h1, h2⟩ := wIdx_sound h
    exact hone (r := (v, σ)) (by simp only [aop, h1, Option.bind_some]) h2 (by simp) (by simp)
  | extract x i =>
    obtain ⟨v, h1, h2⟩ := h
    exact hone (r := (v, σ)) (by simp only [aop, h1, Option.bind_some]) h2 (by simp) (by simp)
  | makeMap t r =>
    obtain ⟨v, h1, h2⟩ := h
    exact hone (r := v) (by simp only [aop, h1]) h2 (by simp) (by simp)
  | lookup t x i ok =>
    obtain ⟨v, h1, h2⟩ := h
    exact hone (r := (v, σ)) (by simp only [aop, h1, Option.bind_some]) h2 (by simp) (by simp)
  | mapUpdate t m k x =>
    obtain ⟨v, h1, h2⟩ := h
    exact hone (r := (undef, v)) (by simp only [aop, h1, Option.bind_some]) h2 (by simp) (by simp)
  | range t x =>
    obtain ⟨v, h1, h2⟩ := h
    exact hone (r := v) (by simp only [aop, h1]) h2 (by simp) (by simp)
  | next it str =>
    cases str with
    | true =>
      obtain ⟨v, h1, h2⟩ := h
      exact hone (r := v) (by simp only [aop, cond_true, h1]) h2 (by simp) (by simp)
    | false => exact absurd rfl (hn it)
  | entry it =>
    obtain ⟨v, h1, h2⟩ := h
    exact hone (r := (v, σ)) (by simp only [aop, h1, Option.bind_some]) h2 (by simp) (by simp)
  | typeAssert x xt t ok =>
    obtain ⟨v, h1, h2⟩ := h
    exact hone (r := (v, σ)) (by simp only [aop, h1, Option.bind_some]) h2 (by simp) (by simp)
  | panic x => exact absurd rfl (hp x)
  | call c =>
    obtain ⟨b, hb⟩ := hc c rfl
    simp only [wval, hb] at h
    obtain ⟨r, h1, h2⟩ := wBuiltin_sound h
    exact ⟨r, by simp only [aop, hb, h1], h2⟩
  | _ => exact h.elim
end
end Go.Ax
namespace Go.Ax
open Go.RowKit
def Cur : List Nat → Type
  | [] => AHeap → Prop
  | _ :: L => Value → Cur L
def Cur.at : (L : List Nat) → Cur L → List Value → AHeap → Prop
  | [], p, [], σ => p σ
  | _ :: L, p, v :: vs, σ => Cur.at L (p v) vs σ
  | [], _, _ :: _, _ => False
  | _ :: _, _, [], _ => False
def AllC : (L : List Nat) → (List Value → Prop) → Prop
  | [], p => p []
  | _ :: L, p => ∀ v, AllC L fun vs => p (v :: vs)
theorem AllC.at : ∀ (L : List Nat) (p : List Value → Prop), AllC L p → ∀ vs, vs.length = L.length → p vs
  | [], p, h, vs, hl => by
    have : vs = [] := List.length_eq_zero_iff.1 hl
    subst this; exact h
  | _ :: L, p, h, [], hl => by simp at hl
  | _ :: L, p, h, v :: vs, hl => AllC.at L (fun vs => p (v :: vs)) (h v) vs (by simpa using hl)
theorem Cur.at_len : ∀ (L : List Nat) (p : Cur L) (vs : List Value) (σ : AHeap), Cur.at L p vs σ → vs.length = L.length
  | [], p, [], σ, _ => rfl
  | _ :: L, p, v :: vs, σ, h => by simp [Cur.at_len L (p v) vs σ h]
  | [], _, _ :: _, _, h => h.elim
  | _ :: _, _, [], _, h => h.elim
section
variable (P : Program) (E : EvT)
def wone (o : Oper) (k : FK) (kp : WK) : FK := fun fr σ => wval P E (fev fr) o σ (fun v σ' => k (fput fr o.dst v) σ') kp
abbrev GM := Option ((Nat × Bool) × Nat × Bool)
def gmAfter (md : GM) (o : Oper) : GM :=
  match md with
  | some (g, t, b) => match o.dst with
    | some d => cond (Nat.beq d t) none (some (g, t, b))
    | none => some (g, t, b)
  | none => none
def gmIs (md : GM) (j : Nat) (want : Bool) : Option Bool :=
  match md with
  | some ((j', want'), _, b) => cond (Nat.beq j j' && (want == want')) (some b) none
  | none => none
def wguard (all : List Oper) (o : Oper) (md : GM) (yes no : GM → FK) : FK := fun fr σ =>
  match o.guard with
  | none => yes none fr σ
  | some (j, want) => match gmIs md j want with
    | some true => yes (gmAfter md o) fr σ
    | some false => no (gmAfter md o) fr σ
    | none => match (all[j]?).bind (·.dst) with
      | some t => wG (fget fr t)
          (cond want (yes (gmAfter (some ((j, want), t, true)) o) (fr.set t (.bool true)) σ) (no (gmAfter (some ((j, want), t, false)) o) (fr.set t (.bool true)) σ))
          (cond want (no (gmAfter (some ((j, want), t, false)) o) (fr.set t (.bool false)) σ) (yes (gmAfter (some ((j, want), t, true)) o) (fr.set t (.bool false)) σ))
          (no (gmAfter (some ((j, want), t, false)) o) fr σ)
      | none => False
def wops (all : List Oper) (kp : WK) : List Oper → GM → FK → FK
  | [], _, kn => kn
  | o :: os, md, kn => wguard all o md (fun md => wone P E o (wops all kp os md kn) kp) fun md fr σ => wops all kp os md kn (fput fr o.dst skipV) σ
def wnx (o : Oper) (p : Prop) : Prop :=
  match o.op with
  | .next _ false | .panic _ => False
  | _ => p
def wre (all : List Oper) : List Nat → FK → FK
  | [], k => k
  | q :: qs, k => fun fr σ => match all[q]? with
    | none => False
    | some o => wguard all o none (fun _ fr σ => match o.dst with
      | some d => wnx o (wval P (fun _ _ _ _ => False) (fev fr) o σ (fun v _ => veq1 v (fget fr d) = true ∧ wre all qs k fr σ) noP)
      | none => False) (fun _ => wre all qs k) fr σ
def gmChk (chk : List Nat) (md : GM) : GM :=
  match chk with
  | [] => md
  | _ => none
def wdops (all : List Oper) (kp : WK) : List (Nat × List Nat) → GM → FK → FK
  | [], _, kn => kn
  | (i, chk) :: os, md, kn => fun fr σ => match all[i]? with
    | none => False
    | some o => wguard all o md (fun md => wone P E o (wre P all chk (wdops all kp os (gmChk chk md) kn)) kp) (fun md fr σ => wdops all kp os md kn (fput fr o.dst skipV) σ) fr σ
def wdt (all : List Oper) (kp : WK) : DT → GM → FK → FK
  | .nil, _, kn => kn
  | .step i chk t, md, kn => fun fr σ => match all[i]? with
    | none => False
    | some o => wguard all o md (fun md => wone P E o (wre P all chk (wdt all kp t (gmChk chk md) kn)) kp) (fun md fr σ => wdt all kp t md kn (fput fr o.dst skipV) σ) fr σ
  | .alt x y, md, kn => fun fr σ => wdt all kp x md kn fr σ ∧ wdt all kp y md kn fr σ
def wpc (kp : WK) : AC → FK → (Nat → FK) → FK → FK
  | .skip, kn, _, _ => kn
  | .region _ ops, kn, _, _ => wops P E ops kp ops none kn
  | .dregion _ ops ord, kn, _, _ => wdops P E ops kp ord none kn
  | .dtree _ ops t, kn, _, _ => wdt P E ops kp t none kn
  | .seq a b, kn, ke, kr => wpc kp a (wpc kp b kn ke kr) ke kr
  | .cond c a b, kn, ke, kr => fun fr σ => wC (fev fr c) (wpc kp a kn ke kr fr σ) (wpc kp b kn ke kr fr σ)
  | .block id b, kn, ke, kr => wpc kp b kn (fun i fr σ => cond (Nat.beq i id) (kn fr σ) (ke i fr σ)) kr
  | .loop R L Lx b, _, ke, kr => fun fr σ => ∃ I : Nat → Cur L, (∃ m, Cur.at L (I m) (fpick L fr) σ) ∧
      ∀ m, AllC L fun vs => ∀ σ, Cur.at L (I m) vs σ → wpc kp b (fun fr σ => ∃ m' < m, Cur.at L (I m') (fpick L fr) σ) (fun i fr σ => ke i (fmake Lx (fpick Lx fr)) σ) (fun fr σ => kr (fmake Lx (fpick Lx fr)) σ) (fadd R fr (fmake L vs)) σ
  | .exit i, _, ke, _ => ke i
  | .ret, _, _, kr => kr
  | .other _, _, _, _ => fun _ _ => False
  | .join L b, kn, ke, kr => wpc kp b (fun fr σ => kn (fmake L (fpick L fr)) σ) (fun i fr σ => ke i (fmake L (fpick L fr)) σ) (fun fr σ => kr (fmake L (fpick L fr)) σ)
end
def GOk (all : List Oper) (md : GM) (fr : Fr) : Prop :=
  match md with
  | none => True
  | some ((j, want), t, b) => (all[j]?).bind (·.dst) = some t ∧
      ((b = true ∧ fr.get t = some (.bool want)) ∨ (b = false ∧ (fr.get t = some (.bool (!want)) ∨ (asB (fget fr t) = none ∧ isSkip (fget fr t) = true))))
theorem Tr.setF_self {α : Type} (x : α) : ∀ (f : Nat) (t : Tr α) (n : Nat), n < f → t.get n = some x → Tr.setF x f t n = t := by
  intro f
  induction f with
  | zero => intro t n h; omega
  | succ f ih =>
    intro t n h hg
    cases t with
    | leaf => rw [Tr.get_leaf] at hg; cases hg
    | node l v r =>
      cases n with
      | zero =>
        have hv : v = some x := hg
        subst hv
        rfl
      | succ n =>
        have hd : Nat.div n 2 < f := by show n / 2 < f; omega
        rw [Tr.get_succ] at hg
        simp only [Tr.setF, Tr.left_node, Tr.right_node] at hg ⊢
        cases hb : Nat.beq (Nat.mod n 2) 0 with
        | true => rw [hb] at hg; simp only [cond_true] at hg ⊢; rw [ih l _ hd hg]; rfl
        | false => rw [hb] at hg; simp only [cond_false] at hg ⊢; rw [ih r _ hd hg]; rfl
theorem Tr.set_self {α : Type} {t : Tr α} {n : Nat} {x : α} (h : t.get n = some x) : t.set n x = t := Tr.setF_self x _ t n (Nat.lt_succ_self n) h
theorem fget_of {fr : Fr} {t : Nat} {v : Value} (h : fr.get t = some v) : fget fr t = v := by unfold fget; rw [h]
theorem GOk.after {all : List Oper} {md : GM} {fr : Fr} (h : GOk all md fr) (o : Oper) (v : Value) : GOk all (gmAfter md o) (fput fr o.dst v) := by
  unfold gmAfter
  rcases md with _ | ⟨⟨j, want⟩, t, b⟩
  · trivial
  · cases hd : o.dst with
    | none => exact h
    | some d =>
      simp only
      cases hb : Nat.beq d t with
      | true => trivial
      | false =>
        have hne : ¬ t = d := fun e => by subst e; simp at hb
        obtain ⟨h1, h2⟩ := h
        refine ⟨h1, ?_⟩
        simp only [fput, Tr.get_set, fget_set, if_neg hne]
        exact h2
def wRes (P : Program) : List ResultVar → Fr → AHeap → (List Value → Prop) → Prop
  | [], _, _, k => k []
  | .tmp t :: l, fr, σ, k => wRes P l fr σ fun vs => k (fget fr t :: vs)
  | .cell a t :: l, fr, σ, k => match shp P t with
    | some (g, n) => pu (aLoad g n (fget fr a) σ) fun v => wRes P l fr σ fun vs => k (v :: vs)
    | none => False
def tup : List Value → Value
  | [v] => v
  | l => .tuple l.toArray
def wret (P : Program) (res : List ResultVar) (Q : RK) : FK := fun fr σ => wRes P res fr σ fun vs => Q (.ret (tup vs)) σ
def wfun (P : Program) (E : EvT) (F : FuncId → Option AFun) (f : FuncId) (args : List Value) (σ : AHeap) (Q : RK) : Prop :=
  match F f with
  | some af => cond (Nat.beq args.length af.params) (wpc P E (fun v σ => Q (.pan v) σ) af.body (wret P af.res Q) (fun _ _ _ => False) (wret P af.res Q) (fmake (List.range af.params) args) σ) False
  | none => False
end Go.Ax
namespace Go.Ax
open Go.RowKit
section
variable {P : Program} {B : Nat} {w0 : World} {ρ : List RB} {σ : AHeap} {w : World} {C : Cx} {fr : Fr} {a : Act}
theorem ret_call {o : Oper} {g : FuncId} {args : Array Value} {args' : List Value} {K kp : WK} {next : Act → World → Prop} {Q : Exit → Act → World → Prop} {eargs : List Value}
    (hE : Ev P g eargs σ (RP K kp)) (h : Rel B w0 ρ σ w) (ha : LR ρ eargs args') (hargs : args'.toArray = args)
    (hk : ∀ v σ' ρ' v' w', K v σ' → Ext ρ ρ' → Rel B w0 ρ' σ' w' → VR ρ' v v' → next (a.put o.dst v') w') (hkp : KP B w0 C ρ kp Q) (hc : Keep C a) :
    o.upon P a next Q ((callFunc g args).run P w) := by
  subst hargs
  obtain ⟨fn, hfn, hname, hor⟩ := hE B w0 ρ w args' h ha
  rcases hor with ⟨hb, hcl⟩ | ⟨v, v', ρ', σ', w', hm, hrun, e1, e2, e3⟩
  · rw [run_callFunc hfn hname hb, Oper.upon_enter]
    refine Calls.mono hcl fun e w' ⟨r, ρ', σ', q, hr, e1, e2⟩ => ?_
    cases r with
    | ret v => obtain ⟨v', rfl, hv⟩ := hr; exact hk v σ' ρ' v' w' q e1 e2 hv
    | pan v => obtain ⟨v', rfl, hv⟩ := hr; exact hkp ρ' v v' σ' a w' e1 hc e2 hv q
  · rw [hrun]
    exact hk v σ' ρ' v' w' hm e1 e2 e3
theorem wval_sound {o : Oper} {ev : Operand → Value} {K kp : WK} {next : Act → World → Prop} {Q : Exit → Act → World → Prop}
    (hev : ∀ x ∈ o.op.operands, VR ρ (ev x) (a.eval x)) (h : Rel B w0 ρ σ w) (hr : wval P (Ev P) ev o σ K kp)
    (hk : ∀ v σ' ρ' v' w', K v σ' → Ext ρ ρ' → Rel B w0 ρ' σ' w' → VR ρ' v v' → next (a.put o.dst v') w') (hkp : KP B w0 C ρ kp Q) (hc : Keep C a) :
    o.wp P a w next Q := by
  by_cases hcall : ∃ c, o.op = .call c ∧ ∀ b, c.callee ≠ .builtin b
  · obtain ⟨c, ho, hnb⟩ := hcall
    simp only [wval, ho] at hr
    split at hr
    · rename_i b hb; exact absurd hb (hnb b)
    · rename_i f hcal
      unfold wF at hr
      split at hr
      · rename_i g first captured hfv
        have hev2 : ∀ x ∈ c.args.toList, VR ρ (ev x) (a.eval x) := fun x hx => hev x (by rw [ho]; simp only [Op.operands, Call.operands, hcal]; simp; right; simpa using hx)
        have hev1 := hev f (by rw [ho]; simp only [Op.operands, Call.operands, hcal]; simp)
        rw [hfv] at hev1
        generalize hfa : a.eval f = fa at hev1
        cases hev1 with
        | func fn f1 f' c1 c' h1 h2 h3 h4 =>
          have hfirst := LR.of_arr h1 h3
          have hcap := LR.of_arr h2 h4
          have hmid : LR ρ (c.args.toList.map ev) (c.args.toList.map a.eval) := by
            refine ⟨by simp, fun i v v' x y => ?_⟩
            simp only [List.getElem?_map, Option.map_eq_some_iff] at x y
            obtain ⟨u, hu, rfl⟩ := x
            obtain ⟨u', hu', rfl⟩ := y
            rw [hu] at hu'; cases hu'
            exact hev2 u (List.mem_of_getElem? hu)
          have hargs : LR ρ (first.toList ++ c.args.toList.map ev ++ captured.toList) (f'.toList ++ c.args.toList.map a.eval ++ c'.toList) :=
            (hfirst.append hmid).append hcap
          have hexec : (execOp a.eval o).run P w = (callFunc g (f' ++ c.args.map a.eval ++ c')).run P w := by
            have : o = { o with op := .call c } := by rw [← ho]
            rw [this]
            simp [execOp, resolve, hcal, Deferred.ofValue, hfa, invoke]
          unfold Oper.wp
          rw [hexec]
          exact ret_call hr h hargs (by apply Array.ext'; simp) hk hkp hc
      · exact hr.elim
    · rename_i r name hcal
      obtain ⟨⟨g, v0⟩, hmv, hr⟩ := hr
      have hev2 : ∀ x ∈ c.args.toList, VR ρ (ev x) (a.eval x) := fun x hx => hev x (by rw [ho]; simp only [Op.operands, Call.operands, hcal]; simp; right; simpa using hx)
      have hev1 := hev r (by rw [ho]; simp only [Op.operands, Call.operands, hcal]; simp)
      obtain ⟨t, u, v1, hru, hmeth, hv1⟩ := aMethod_sound (P := P) h hev1 hmv
      have hmid : LR ρ (c.args.toList.map ev) (c.args.toList.map a.eval) := by
        refine ⟨by simp, fun i v v' x y => ?_⟩
        simp only [List.getElem?_map, Option.map_eq_some_iff] at x y
        obtain ⟨u, hu, rfl⟩ := x
        obtain ⟨u', hu', rfl⟩ := y
        rw [hu] at hu'; cases hu'
        exact hev2 u (List.mem_of_getElem? hu)
      have hexec : (execOp a.eval o).run P w = (callFunc g (#[v1] ++ c.args.map a.eval)).run P w := by
        have : o = { o with op := .call c } := by rw [← ho]
        rw [this]
        have hm := hmeth (P.types.size + Made.depth) (by simp [Made.depth])
        simp only [execOp, resolve, hcal, pure_bind]
        rw [invoke_method, hru]
        simp [callMethod, hm]
      unfold Oper.wp
      rw [hexec]
      exact ret_call hr h (LR.cons hv1 hmid) (by apply Array.ext'; simp) hk hkp hc
  · by_cases hnext : ∃ it, o.op = .next it false
    · obtain ⟨it, ho⟩ := hnext
      simp only [wval, ho, cond_false] at hr
      obtain ⟨L, h1, h2⟩ := hr
      obtain ⟨y, hyL, v', w', e1, e2, e3⟩ := aNextMap_sound (P := P) (t := o.type) h (hev it (by rw [ho]; simp [Op.operands])) h1
      have hexec : (execOp a.eval o).run P w = .ok (.value v') w' := by
        have : o = { o with op := .next it false } := by rw [← ho]
        rw [this]
        simp [execOp, e1]
      unfold Oper.wp
      rw [hexec]
      exact hk y.1 y.2 ρ v' w' (h2 y hyL) (Ext.refl _) e2 e3
    · by_cases hpan : ∃ x, o.op = .panic x
      · obtain ⟨x, ho⟩ := hpan
        simp only [wval, ho, wPan] at hr
        split at hr
        · rename_i t u hx
          have hv := hev x (by rw [ho]; simp [Op.operands])
          rw [hx] at hv
          have hv0 := hv
          obtain ⟨u', hu', _, _⟩ := hv.iface_inv
          have hexec : (execOp a.eval o).run P w = .halt (.panic (.iface t u')) w := by
            have : o = { o with op := .panic x } := by rw [← ho]
            rw [this]
            simp only [execOp, hu']
            rfl
          unfold Oper.wp
          rw [hexec]
          rw [hu'] at hv0
          exact hkp ρ _ _ σ a w (Ext.refl _) hc h hv0 hr
        · exact hr.elim
      · have hb : ∀ c, o.op = .call c → ∃ b, c.callee = .builtin b := fun c hc => by
          refine Classical.byContradiction fun hno => hcall ⟨c, hc, fun b hb => hno ⟨b, hb⟩⟩
        obtain ⟨r, h1, h2⟩ := wval_aop hb (fun it hi => hnext ⟨it, hi⟩) (fun x hx => hpan ⟨x, hx⟩) hr
        have hex : ∃ ev' : Operand → Value, (∀ x ∈ o.op.operands, ev x = ev' x) ∧ ∀ x, VR ρ (ev' x) (a.eval x) := by
          classical
          refine ⟨fun x => if x ∈ o.op.operands then ev x else undef, fun x hx => (if_pos hx).symm, fun x => ?_⟩
          simp only
          split
          · rename_i hx; exact hev x hx
          · exact .dead _
        obtain ⟨ev', he1, he2⟩ := hex
        rw [aop_congr he1] at h1
        obtain ⟨n, w', ρ', v', e1, e2, e3, e4, e5⟩ := aop_sound h he2 h1
        unfold Oper.wp
        rw [e1]
        have hfin := hk r.1 r.2 ρ' v' w' h2 e3 e4 e5
        rcases e2 with rfl | ⟨rfl, rfl⟩
        · exact hfin
        · exact hfin
def dstOk (N : Nat) (Lp : List Nat) (o : Oper) : Bool :=
  match o.dst with
  | none => true
  | some d => Nat.blt d N && !Lp.contains d
theorem dstOk_spec {o : Oper} (h : dstOk C.N C.Lp o = true) : ∀ d, o.dst = some d → C.ok d := by
  intro d hd
  unfold dstOk at h
  rw [hd] at h
  simp only [Bool.and_eq_true, Bool.not_eq_true'] at h
  refine ⟨by simpa using h.1, fun hm => ?_⟩
  have := List.elem_eq_true_of_mem hm
  rw [List.contains, this] at h
  simp at h
theorem wguard_sound {all : List Oper} {o : Oper} {md : GM} {yes no : GM → FK} (hf : FR C ρ fr a) (hg : GOk all md fr) (hr : wguard all o md yes no fr σ) :
    (Region.wanted o (yielded all.toArray a.tmps) = true ∧ ∃ fr' md', FR C ρ fr' a ∧ GOk all md' fr' ∧ yes (gmAfter md' o) fr' σ) ∨
    (Region.wanted o (yielded all.toArray a.tmps) = false ∧ ∃ fr' md', FR C ρ fr' a ∧ GOk all md' fr' ∧ no (gmAfter md' o) fr' σ) := by
  have hbt : ∀ {v : Value} {b : Bool}, asB v = some b → v = .bool b := fun {v b} hb => by
    unfold asB at hb; split at hb
    · cases hb; rfl
    · cases hb
  unfold wguard at hr
  split at hr
  · rename_i hgd; exact .inl ⟨by simp [Region.wanted, hgd], fr, none, hf, trivial, hr⟩
  · rename_i j want hgd
    have hfacts : ∀ bb, gmIs md j want = some bb → ∃ t, md = some ((j, want), t, bb) := by
      intro bb hm
      unfold gmIs at hm
      split at hm
      · rename_i j' want' t b
        cases hc : (Nat.beq j j' && (want == want')) with
        | false => rw [hc] at hm; cases hm
        | true =>
          rw [hc] at hm
          simp only [cond_true, Option.some.injEq] at hm
          subst hm
          simp only [Bool.and_eq_true, beq_iff_eq] at hc
          have hj := Nat.eq_of_beq_eq_true hc.1
          have hw := hc.2
          subst hj; subst hw
          exact ⟨t, rfl⟩
      · cases hm
    split at hr
    · rename_i hm
      obtain ⟨t, rfl⟩ := hfacts true hm
      have hg0 := hg
      obtain ⟨h1, h2⟩ := hg
      rcases h2 with ⟨_, h2⟩ | ⟨h2, _⟩
      · have hy := hf.yielded h1 (fget_of h2)
        exact .inl ⟨by simp [Region.wanted, hgd, hy], fr, _, hf, hg0, hr⟩
      · cases h2
    · rename_i hm
      obtain ⟨t, rfl⟩ := hfacts false hm
      have hg0 := hg
      obtain ⟨h1, h2⟩ := hg
      rcases h2 with ⟨h2, _⟩ | ⟨_, h2 | ⟨_, h3⟩⟩
      · cases h2
      · have hy := hf.yielded h1 (fget_of h2)
        exact .inr ⟨by cases want <;> simp [Region.wanted, hgd, hy], fr, _, hf, hg0, hr⟩
      · have hv := (hf.val t).isSkip h3
        have hy := yielded_skip (all := all) h1 hv
        exact .inr ⟨by simp [Region.wanted, hgd, hy], fr, _, hf, hg0, hr⟩
    · split at hr
      · rename_i t ht
        have hset : ∀ b : Bool, (fr.set t (.bool b)).get t = some (.bool b) := fun b => by rw [Tr.get_set, if_pos rfl]
        unfold wG at hr
        split at hr
        · rename_i hb
          have hb' := hbt hb
          have hy := hf.yielded ht hb'
          cases want with
          | true => exact .inl ⟨by simp [Region.wanted, hgd, hy], _, some ((j, true), t, true), hf.setb hb', ⟨ht, .inl ⟨rfl, hset true⟩⟩, hr⟩
          | false => exact .inr ⟨by simp [Region.wanted, hgd, hy], _, some ((j, false), t, false), hf.setb hb', ⟨ht, .inr ⟨rfl, .inl (hset true)⟩⟩, hr⟩
        · rename_i hb
          have hb' := hbt hb
          have hy := hf.yielded ht hb'
          cases want with
          | true => exact .inr ⟨by simp [Region.wanted, hgd, hy], _, some ((j, true), t, false), hf.setb hb', ⟨ht, .inr ⟨rfl, .inl (hset false)⟩⟩, hr⟩
          | false => exact .inl ⟨by simp [Region.wanted, hgd, hy], _, some ((j, false), t, true), hf.setb hb', ⟨ht, .inl ⟨rfl, hset false⟩⟩, hr⟩
        · rename_i hb
          have hv := (hf.val t).isSkip hr.1
          have hy := yielded_skip (all := all) ht hv
          exact .inr ⟨by simp [Region.wanted, hgd, hy], fr, some ((j, want), t, false), hf, ⟨ht, .inr ⟨rfl, .inr ⟨hb, hr.1⟩⟩⟩, hr.2⟩
      · exact hr.elim
theorem wops_sound {all : List Oper} {kn : FK} {kp : WK} {Q : Exit → Act → World → Prop} :
    ∀ (os : List Oper) (i : Nat) (md : GM), all.drop i = os → (∀ o ∈ os, dstOk C.N C.Lp o = true) → ∀ ρ fr σ a w, KS B w0 C ρ kn (Q .normal) → KP B w0 C ρ kp Q → FR C ρ fr a → Rel B w0 ρ σ w → GOk all md fr →
      wops P (Ev P) all kp os md kn fr σ → wpOps P all.toArray Q (List.range' i os.length) a w := by
  intro os
  induction os with
  | nil =>
    intro i md hd _ ρ fr σ a w hk hkp hf h hg hr
    simp only [List.length_nil, List.range'_zero, wpOps]
    exact hk ρ fr σ a w (Ext.refl _) hf h hr
  | cons o os ih =>
    intro i md hd hdst ρ fr σ a w hk hkp hf h hg hr
    have hoi : all[i]? = some o := by
      have := congrArg (·[0]?) hd
      simpa using this
    have hd' : all.drop (i + 1) = os := by
      have := congrArg List.tail hd
      simpa using this
    have ho := dstOk_spec (hdst o (by simp))
    simp only [List.length_cons, List.range'_succ, wpOps]
    have hoi' : all.toArray[i]? = some o := by simpa using hoi
    rw [hoi']
    simp only
    unfold wops at hr
    rcases wguard_sound hf hg hr with ⟨hw, fr', md', hf', hg', hr'⟩ | ⟨hw, fr', md', hf', hg', hr'⟩
    · rw [if_pos hw]
      refine .inl (wval_sound (C := C) (fun x _ => hf'.ev x) h hr' (fun v σ' ρ' v' w' hm e1 e2 e3 => ?_) hkp hf'.kp)
      exact ih (i + 1) _ hd' (fun o ho => hdst o (by simp [ho])) ρ' _ σ' _ w' (hk.mono e1) (hkp.mono e1) ((hf'.mono e1).put e3 ho) e2 (hg'.after o v) hm
    · rw [if_neg (by simp [hw])]
      exact ih (i + 1) _ hd' (fun o ho => hdst o (by simp [ho])) ρ _ σ _ w hk hkp (hf'.put .skp ho) h (hg'.after o skipV) hr'
end
end Go.Ax
namespace Go.Ax
open Go.RowKit
def befMask (acc : List Nat) (o : Oper) : Nat := o.after.toList.foldl (fun m e => cond (Region.binds .any e) (m ||| 2 ^ e.on ||| acc.getD e.on 0) m) 0
def befs : List Oper → List Nat → List Nat
  | [], acc => acc
  | o :: os, acc => befs os (acc ++ [befMask acc o])
inductive Bef (all : List Oper) : Nat → Nat → Prop where
  | edge (i : Nat) (o : Oper) (e : Edge) : all[i]? = some o → e ∈ o.after.toList → Region.binds .any e = true → Bef all e.on i
  | trans (i j : Nat) (o : Oper) (e : Edge) : all[i]? = some o → e ∈ o.after.toList → Region.binds .any e = true → Bef all j e.on → Bef all j i
theorem foldMask_mem (acc : List Nat) (j : Nat) : ∀ (l : List Edge) (m : Nat), (l.foldl (fun m e => cond (Region.binds .any e) (m ||| 2 ^ e.on ||| acc.getD e.on 0) m) m).testBit j = true →
    m.testBit j = true ∨ ∃ e ∈ l, Region.binds .any e = true ∧ (e.on = j ∨ (acc.getD e.on 0).testBit j = true)
  | [], m, h => .inl h
  | e :: l, m, h => by
    simp only [List.foldl_cons] at h
    rcases foldMask_mem acc j l _ h with h1 | ⟨e', he, hb, hh⟩
    · cases hb : Region.binds .any e with
      | false => rw [hb] at h1; exact .inl h1
      | true =>
        rw [hb] at h1
        simp only [cond_true, Nat.testBit_or, Bool.or_eq_true, Nat.testBit_two_pow, decide_eq_true_eq] at h1
        rcases h1 with (h1 | h1) | h1
        · exact .inl h1
        · exact .inr ⟨e, by simp, hb, .inl h1⟩
        · exact .inr ⟨e, by simp, hb, .inr h1⟩
    · exact .inr ⟨e', by simp [he], hb, hh⟩
theorem befs_sound (all : List Oper) : ∀ (os pre : List Oper) (acc : List Nat), all = pre ++ os → acc.length = pre.length → (∀ (i : Nat) m j, acc[i]? = some m → m.testBit j = true → Bef all j i) →
    ∀ (i : Nat) m j, (befs os acc)[i]? = some m → m.testBit j = true → Bef all j i
  | [], _, acc, _, _, h => h
  | o :: os, pre, acc, he, hl, h => by
    refine befs_sound all os (pre ++ [o]) (acc ++ [befMask acc o]) (by simp [he]) (by simp [hl]) ?_
    intro i m j hi hm
    rw [List.getElem?_append] at hi
    split at hi
    · exact h i m j hi hm
    · rename_i hlt
      have hi0 : i - acc.length = 0 := by
        rcases Nat.eq_zero_or_pos (i - acc.length) with h0 | h0
        · exact h0
        · rw [List.getElem?_eq_none (by simp; omega)] at hi; cases hi
      rw [hi0] at hi
      simp only [List.getElem?_cons_zero, Option.some.injEq] at hi
      subst hi
      have hio : all[i]? = some o := by
        have : i = pre.length := by omega
        rw [he, this]; simp
      rcases foldMask_mem acc j o.after.toList 0 hm with h1 | ⟨e, hmem, hb, hh⟩
      · simp at h1
      · rcases hh with rfl | hh
        · exact .edge i o e hio hmem hb
        · rw [List.getD_eq_getElem?_getD] at hh
          cases hacc : acc[e.on]? with
          | none => rw [hacc] at hh; simp at hh
          | some m' =>
            rw [hacc] at hh
            exact .trans i j o e hio hmem hb (h _ m' j hacc hh)
def isB (b : List Nat) (j i : Nat) : Bool := (b.getD i 0).testBit j
theorem isB_sound {all : List Oper} {j i : Nat} (h : isB (befs all []) j i = true) : Bef all j i := by
  unfold isB at h
  rw [List.getD_eq_getElem?_getD] at h
  cases hi : (befs all [])[i]? with
  | none => rw [hi] at h; simp at h
  | some m => rw [hi] at h; exact befs_sound all all [] [] rfl rfl (fun i m j x => by simp at x) i m j hi h
def Closed (all : List Oper) (S : Nat → Prop) : Prop := ∀ i o, all[i]? = some o → S i → ∀ e ∈ o.after.toList, Region.binds .any e = true → S e.on
theorem Bef.closed {all : List Oper} {S : Nat → Prop} (hc : Closed all S) {j i : Nat} (h : Bef all j i) : (∀ o, all[i]? = some o → ∀ e ∈ o.after.toList, Region.binds .any e = true → S e.on) → S j := by
  induction h with
  | edge i o e ho he hb => exact fun hx => hx o ho e he hb
  | trans i j o e ho he hb _ ih => exact fun hx => ih fun o' ho' => hc e.on o' ho' (hx o ho e he hb)
def quietB : Op → Bool
  | .move _ | .assign _ | .pick .. | .build .. | .nilCheck _ | .binOp .. | .unOp .. | .makeInterface .. | .makeFunc .. | .slice .. | .fieldAddr .. | .field .. | .indexAddr .. | .index .. | .extract .. | .typeAssert .. => true
  | .call c => match c.callee with
    | .builtin .min | .builtin .max => true
    | _ => false
  | .buildSlice _ n _ => Nat.beq n 0
  | _ => false
def readB : Op → Bool
  | .load .. | .convert .. | .lookup .. | .entry .. => true
  | .call c => match c.callee with
    | .builtin .len => true
    | _ => false
  | _ => false
section
variable {P : Program}
theorem bind_some_map {α : Type} (q : Option α) (σ : AHeap) : (q.bind fun v => some (v, σ)) = q.map fun v => (v, σ) := by cases q <;> rfl
theorem aop_quiet (ev : Operand → Value) {o : Oper} (hq : quietB o.op = true) : ∃ q : Option Value, ∀ σ, aop P ev o σ = q.map fun v => (v, σ) := by
  obtain ⟨dst, op, type, pos, after, guard⟩ := o
  cases op <;> simp only [quietB, reduceCtorEq] at hq
  case move x => exact ⟨some (ev x), fun σ => rfl⟩
  case assign x => exact ⟨some (ev x), fun σ => rfl⟩
  case pick c a b => exact ⟨(asB (ev c)).map fun t => cond t (ev a) (ev b), fun σ => by simp only [aop]; cases asB (ev c) <;> rfl⟩
  case build t ps => exact ⟨_, fun σ => by simp only [aop]; exact bind_some_map _ σ⟩
  case buildSlice t n ps =>
    have h0 : n = 0 := Nat.eq_of_beq_eq_true hq
    subst h0
    cases hn : (Nat.beq 0 0 && !ps.toList.isEmpty) with
    | true => exact ⟨none, fun σ => by simp only [aop, hn, cond_true]; rfl⟩
    | false =>
      cases he : elemOf? P t with
      | none => exact ⟨none, fun σ => by simp only [aop, hn, cond_false, aBuildSlice, he]; rfl⟩
      | some x => exact ⟨some (.slice (some ⟨ZB, 0, some 0⟩) 0 0), fun σ => by simp only [aop, hn, cond_false, aBuildSlice, he]; rfl⟩
  case nilCheck x => exact ⟨_, fun σ => by simp only [aop]; exact bind_some_map _ σ⟩
  case binOp op t x y ty => exact ⟨_, fun σ => by simp only [aop]; exact bind_some_map _ σ⟩
  case unOp op t x => exact ⟨_, fun σ => by simp only [aop]; exact bind_some_map _ σ⟩
  case makeInterface t x => exact ⟨_, fun σ => by simp only [aop]; exact bind_some_map _ σ⟩
  case makeFunc fn f c => exact ⟨some (.func fn (f.toList.map ev).toArray (c.toList.map ev).toArray), fun σ => rfl⟩
  case slice t x lo hi mx => exact ⟨_, fun σ => by simp only [aop]; exact bind_some_map _ σ⟩
  case fieldAddr t x f => exact ⟨(fieldOff P t f).bind fun off => aFieldAddr off (ev x), fun σ => by simp only [aop]; cases fieldOff P t f <;> simp [bind_some_map]⟩
  case field t x f => exact ⟨_, fun σ => by simp only [aop]; exact bind_some_map _ σ⟩
  case indexAddr t x i => exact ⟨_, fun σ => by simp only [aop]; exact bind_some_map _ σ⟩
  case index t x i => exact ⟨_, fun σ => by simp only [aop]; exact bind_some_map _ σ⟩
  case extract x i => exact ⟨_, fun σ => by simp only [aop]; exact bind_some_map _ σ⟩
  case typeAssert x xt t ok => exact ⟨_, fun σ => by simp only [aop]; exact bind_some_map _ σ⟩
  case call c =>
    obtain ⟨callee, args, argTypes⟩ := c
    cases callee with
    | builtin b =>
      have hb : ∃ q : Option Value, ∀ σ, aBuiltin P b argTypes.toList (args.toList.map ev) σ = q.map fun v => (v, σ) := by
        generalize argTypes.toList = ts
        generalize args.toList.map ev = l
        cases b <;> simp only [reduceCtorEq] at hq
        case max =>
          match l with
          | [x, y] => exact ⟨_, fun σ => by simp only [aBuiltin]; exact bind_some_map _ σ⟩
          | [] => exact ⟨none, fun σ => rfl⟩
          | [x] => exact ⟨none, fun σ => rfl⟩
          | _ :: _ :: _ :: _ => exact ⟨none, fun σ => rfl⟩
        case min =>
          match l with
          | [x, y] => exact ⟨_, fun σ => by simp only [aBuiltin]; exact bind_some_map _ σ⟩
          | [] => exact ⟨none, fun σ => rfl⟩
          | [x] => exact ⟨none, fun σ => rfl⟩
          | _ :: _ :: _ :: _ => exact ⟨none, fun σ => rfl⟩
      obtain ⟨q, hq'⟩ := hb
      exact ⟨q, fun σ => by simp only [aop]; exact hq' σ⟩
    | _ => simp only [reduceCtorEq] at hq
theorem aop_keep {ev : Operand → Value} {o : Oper} {σ : AHeap} {v : Value} {σ' : AHeap} (hq : (quietB o.op || readB o.op) = true) (h : aop P ev o σ = some (v, σ')) : σ' = σ := by
  rw [Bool.or_eq_true] at hq
  rcases hq with hq | hq
  · obtain ⟨q, hq⟩ := aop_quiet (P := P) ev hq
    rw [hq σ] at h
    simp only [Option.map_eq_some_iff, Prod.mk.injEq] at h
    obtain ⟨u, _, _, rfl⟩ := h
    rfl
  · obtain ⟨dst, op, type, pos, after, guard⟩ := o
    cases op <;> simp only [readB, reduceCtorEq] at hq
    case load t a =>
      simp only [aop, Option.bind_eq_some_iff, Option.some.injEq, Prod.mk.injEq] at h
      obtain ⟨_, _, _, _, _, rfl⟩ := h
      rfl
    case call c =>
      obtain ⟨callee, args, argTypes⟩ := c
      cases callee with
      | builtin b =>
        simp only [aop] at h
        cases b <;> simp only [reduceCtorEq] at hq
        simp only [aBuiltin] at h
        split at h <;> first | cases h | rename_i hc _ | skip
        all_goals first | (exfalso; simp_all; done) | skip
        all_goals simp only [Option.bind_eq_some_iff, Option.some.injEq, Prod.mk.injEq] at h
        all_goals obtain ⟨_, _, _, rfl⟩ := h
        all_goals rfl
      | _ => simp only [reduceCtorEq] at hq
    all_goals simp only [aop, Option.bind_eq_some_iff, Option.some.injEq, Prod.mk.injEq] at h
    all_goals obtain ⟨_, _, _, rfl⟩ := h
    all_goals rfl
theorem aop_pure {ev : Operand → Value} {o : Oper} {σ : AHeap} {v : Value} {σ' : AHeap} (σ2 : AHeap) (hq : quietB o.op = true) (h : aop P ev o σ = some (v, σ')) : aop P ev o σ2 = some (v, σ2) := by
  obtain ⟨q, hq⟩ := aop_quiet (P := P) ev hq
  rw [hq σ] at h
  rw [hq σ2]
  simp only [Option.map_eq_some_iff, Prod.mk.injEq] at h ⊢
  obtain ⟨u, hu, rfl, _⟩ := h
  exact ⟨u, hu, rfl, trivial⟩
theorem veq0_sound {a b : Value} (h : veq0 a b = true) : a = b := by
  unfold veq0 at h
  split at h <;> (try simp only [Bool.and_eq_true, beq_iff_eq, decide_eq_true_eq] at h)
  · rw [h]
  · rw [h.1, h.2]
  · rename_i x y
    have : x.data = y.data := Array.ext' h
    have : x = y := ByteArray.ext this
    rw [this]
  · rw [h]
  · obtain ⟨⟨h1, h2⟩, h3⟩ := h
    rw [h1, Nat.eq_of_beq_eq_true h2, Nat.eq_of_beq_eq_true h3]
  · rw [h]
  · rfl
  · rfl
  · cases h
theorem veq_sound {a b : Value} (h : veq a b = true) : a = b := by
  unfold veq at h
  split at h
  · simp only [Bool.and_eq_true] at h
    rw [Nat.eq_of_beq_eq_true h.1, veq0_sound h.2]
  · exact veq0_sound h
theorem veqs_sound : ∀ {a b : List Value}, veqs a b = true → a = b
  | [], [], _ => rfl
  | x :: l, y :: m, h => by
    simp only [veqs, Bool.and_eq_true] at h
    rw [veq_sound h.1, veqs_sound h.2]
  | [], _ :: _, h => by cases h
  | _ :: _, [], h => by cases h
theorem veq1_sound {a b : Value} (h : veq1 a b = true) : a = b := by
  unfold veq1 at h
  split at h
  · rename_i x y
    have : x = y := Array.ext' (veqs_sound h)
    rw [this]
  · rename_i x y
    have : x = y := Array.ext' (veqs_sound h)
    rw [this]
  · exact veq_sound h
def looks (all : List Oper) (o : Oper) : List Tmp :=
  (o.op.operands.toList.filterMap fun | .tmp t => some t | _ => none) ++
  (match o.guard with
   | some (g, _) => ((all[g]?).bind (·.dst)).toList
   | none => [])
theorem looks_operand {all : List Oper} {o : Oper} {t : Nat} (h : Operand.tmp t ∈ o.op.operands) : t ∈ looks all o := by
  unfold looks
  refine List.mem_append_left _ (List.mem_filterMap.2 ⟨.tmp t, by simpa using h, rfl⟩)
theorem looks_guard {all : List Oper} {o : Oper} {j t : Nat} {b : Bool} (hg : o.guard = some (j, b)) (ht : (all[j]?).bind (·.dst) = some t) : t ∈ looks all o := by
  unfold looks
  refine List.mem_append_right _ ?_
  rw [hg]
  simp only [ht]
  simp
def floatB (op : Op) : Bool := quietB op || readB op
def pairOk (all : List Oper) (b : List Nat) (chk : List Nat) (k i : Nat) (ok o : Oper) : Bool :=
  !(Nat.beq k i) && !(isB b i k) &&
  (match ok.dst, o.dst with | some d, some d' => !(Nat.beq d d') | _, _ => true) &&
  (match ok.dst with | some d => !(looks all o).contains d || isB b k i | none => true) &&
  (match o.dst with | some d => !(looks all ok).contains d || isB b k i | none => true) &&
  (floatB o.op || !(readB ok.op) || isB b k i || chk.contains k)
def chkOk (all : List Oper) (b : List Nat) (pre : List Nat) (q : Nat) : Bool :=
  match all[q]? with
  | none => false
  | some oq => floatB oq.op && oq.dst.isSome && pre.contains q && pre.all fun k => match all[k]? with
    | some ok => match ok.dst with
      | some d => !(looks all oq).contains d || isB b k q
      | none => true
    | none => false
def dChk (N : Nat) (Lp : List Nat) (all : List Oper) (b : List Nat) (pre : List Nat) : List (Nat × List Nat) → Bool
  | [] => true
  | (i, chk) :: post => match all[i]? with
    | none => false
    | some o => dstOk N Lp o && (!(floatB o.op) || (o.dst.isSome && chk.isEmpty)) &&
      pre.all (fun k => match all[k]? with | some ok => pairOk all b chk k i ok o | none => false) &&
      chk.all (chkOk all b (i :: pre)) && chk.all (fun q => !(Nat.beq q i)) && dChk N Lp all b (i :: pre) post
def edgesOk (all : List Oper) : Bool := (List.range all.length).all fun i => match all[i]? with
  | some o => o.after.toList.all fun e => !(Region.binds .any e) || Nat.blt e.on i
  | none => false
def DT.heads : DT → List Nat
  | .nil => []
  | .step i _ _ => [i]
  | .alt a b => a.heads ++ b.heads
def dChkT (N : Nat) (Lp : List Nat) (all : List Oper) (b : List Nat) : List Nat → DT → Bool
  | _, .nil => true
  | pre, .step i chk t => dChk N Lp all b pre [(i, chk)] && dChkT N Lp all b (i :: pre) t
  | pre, .alt x y => dChkT N Lp all b pre x && dChkT N Lp all b pre y
def spineB (all : List Oper) (i : Nat) : Bool :=
  match all[i]? with
  | some o => !(floatB o.op)
  | none => false
def strictB (all : List Oper) (b : List Nat) (pre h : List Nat) : Bool :=
  (List.range all.length).all fun j => pre.contains j || h.any fun s => Nat.beq j s || isB b s j
def dCov (all : List Oper) (b : List Nat) : List Nat → List Nat → DT → Bool
  | pre, h, .nil => strictB all b pre h
  | pre, h, .step i _ t => (match spineB all i with
      | true => strictB all b pre h
      | false => Nat.beq h.length 1) && dCov all b (i :: pre) t.heads t
  | pre, h, .alt x y => dCov all b pre h x && dCov all b pre h y
def dtOk (N : Nat) (Lp : List Nat) (all : List Oper) (t : DT) : Bool :=
  edgesOk all && dChkT N Lp all (befs all []) [] t && dCov all (befs all []) [] t.heads t
def dOk (N : Nat) (Lp : List Nat) (all : List Oper) (ord : List (Nat × List Nat)) : Bool := dtOk N Lp all (DT.ofList ord)
end
end Go.Ax
namespace Go.Ax
open Go.RowKit
def pguard (all : List Oper) (o : Oper) (yes no : FK) : FK := fun fr σ =>
  match o.guard with
  | none => yes fr σ
  | some (j, want) => match (all[j]?).bind (·.dst) with
    | some t => match asB (fget fr t) with
      | some true => cond want (yes (fr.set t (.bool true)) σ) (no (fr.set t (.bool true)) σ)
      | some false => cond want (no (fr.set t (.bool false)) σ) (yes (fr.set t (.bool false)) σ)
      | none => isSkip (fget fr t) = true ∧ no fr σ
    | none => False
def precheck (P : Program) (all : List Oper) : List Nat → FK → FK
  | [], k => k
  | q :: qs, k => fun fr σ => match all[q]? with
    | none => False
    | some o => pguard all o (fun fr σ => match aop P (fev fr) o σ, o.dst with
      | some (v, _), some d => veq1 v (fget fr d) = true ∧ precheck P all qs k fr σ
      | _, _ => False) (precheck P all qs k) fr σ
def pone (P : Program) (o : Oper) (k : FK) (kp : WK) : FK := fun fr σ => ∃ K0 : WK, wval P (Ev P) (fev fr) o σ K0 kp ∧ ∀ v σ', K0 v σ' → k (fput fr o.dst v) σ'
def pdops (P : Program) (all : List Oper) (kp : WK) : List (Nat × List Nat) → FK → FK
  | [], kn => kn
  | (i, chk) :: os, kn => fun fr σ => match all[i]? with
    | none => False
    | some o => pguard all o (pone P o (precheck P all chk (pdops P all kp os kn)) kp) (fun fr σ => pdops P all kp os kn (fput fr o.dst skipV) σ) fr σ
def pdt (P : Program) (all : List Oper) (kp : WK) : DT → FK → FK
  | .nil, kn => kn
  | .step i chk t, kn => fun fr σ => match all[i]? with
    | none => False
    | some o => pguard all o (pone P o (precheck P all chk (pdt P all kp t kn)) kp) (fun fr σ => pdt P all kp t kn (fput fr o.dst skipV) σ) fr σ
  | .alt x y, kn => fun fr σ => pdt P all kp x kn fr σ ∧ pdt P all kp y kn fr σ
theorem wguard_p {all : List Oper} {o : Oper} {md : GM} {y n : GM → FK} {ky kn : FK} {fr : Fr} {σ : AHeap} (hg : GOk all md fr)
    (hy : ∀ md fr, GOk all md fr → y (gmAfter md o) fr σ → ky fr σ) (hy0 : ∀ fr, y none fr σ → ky fr σ)
    (hn : ∀ md fr, GOk all md fr → n (gmAfter md o) fr σ → kn fr σ) (h : wguard all o md y n fr σ) :
    pguard all o ky kn fr σ := by
  unfold wguard at h
  unfold pguard
  split at h
  · rename_i ho
    (try simp only [ho])
    exact hy0 _ h
  · rename_i j want ho
    (try simp only [ho])
    split at h
    · rename_i hm
      unfold gmIs at hm
      split at hm
      · rename_i j' want' t b
        cases hc : (Nat.beq j j' && (want == want')) with
        | false => rw [hc] at hm; cases hm
        | true =>
          rw [hc] at hm
          simp only [cond_true, Option.some.injEq] at hm
          subst hm
          simp only [Bool.and_eq_true, beq_iff_eq] at hc
          have hj := Nat.eq_of_beq_eq_true hc.1
          have hw := hc.2
          subst hj; subst hw
          have hg0 := hg
          obtain ⟨h1, h2⟩ := hg
          rcases h2 with ⟨_, h2⟩ | ⟨h2, _⟩
          · simp only [h1, fget_of h2, asB]
            cases want with
            | true => simp only [cond_true]; rw [Tr.set_self h2]; exact hy _ _ hg0 h
            | false => simp only [cond_false]; rw [Tr.set_self h2]; exact hy _ _ hg0 h
          · cases h2
      · cases hm
    · rename_i hm
      unfold gmIs at hm
      split at hm
      · rename_i j' want' t b
        cases hc : (Nat.beq j j' && (want == want')) with
        | false => rw [hc] at hm; cases hm
        | true =>
          rw [hc] at hm
          simp only [cond_true, Option.some.injEq] at hm
          subst hm
          simp only [Bool.and_eq_true, beq_iff_eq] at hc
          have hj := Nat.eq_of_beq_eq_true hc.1
          have hw := hc.2
          subst hj; subst hw
          have hg0 := hg
          obtain ⟨h1, h2⟩ := hg
          rcases h2 with ⟨h2, _⟩ | ⟨_, h2 | ⟨h2, h3⟩⟩
          · cases h2
          · simp only [h1, fget_of h2, asB]
            cases want with
            | true => simp only [Bool.not_true, cond_true]; rw [Tr.set_self (x := Value.bool false) h2]; exact hn _ _ hg0 h
            | false => simp only [Bool.not_false, cond_false]; rw [Tr.set_self (x := Value.bool true) h2]; exact hn _ _ hg0 h
          · simp only [h1, h2, h3, true_and]
            exact hn _ _ hg0 h
      · cases hm
    · split at h
      · rename_i t ht
        (try simp only [ht])
        unfold wG at h
        have hset : ∀ b : Bool, (fr.set t (.bool b)).get t = some (.bool b) := fun b => by rw [Tr.get_set, if_pos rfl]
        split at h
        · rename_i hb
          (try simp only [hb])
          cases want with
          | true => exact hy (some ((j, true), t, true)) _ ⟨ht, .inl ⟨rfl, hset true⟩⟩ h
          | false => exact hn (some ((j, false), t, false)) _ ⟨ht, .inr ⟨rfl, .inl (hset true)⟩⟩ h
        · rename_i hb
          (try simp only [hb])
          cases want with
          | true => exact hn (some ((j, true), t, false)) _ ⟨ht, .inr ⟨rfl, .inl (hset false)⟩⟩ h
          | false => exact hy (some ((j, false), t, true)) _ ⟨ht, .inl ⟨rfl, hset false⟩⟩ h
        · rename_i hb
          (try simp only [hb, h.1, true_and])
          exact hn (some ((j, want), t, false)) _ ⟨ht, .inr ⟨rfl, .inr ⟨hb, h.1⟩⟩⟩ h.2
      · exact h.elim
theorem wre_p {P : Program} {all : List Oper} {k k' : FK} (hk : ∀ fr σ, k fr σ → k' fr σ) : ∀ (qs : List Nat) (fr : Fr) (σ : AHeap), wre P all qs k fr σ → precheck P all qs k' fr σ
  | [], fr, σ, h => hk _ _ h
  | q :: qs, fr, σ, h => by
    simp only [wre] at h
    simp only [precheck]
    split at h
    · exact h.elim
    · rename_i o ho
      (try simp only [ho])
      have hyes : ∀ fr, (match o.dst with
          | some d => wnx o (wval P (fun _ _ _ _ => False) (fev fr) o σ (fun v _ => veq1 v (fget fr d) = true ∧ wre P all qs k fr σ) noP)
          | none => False) → (match aop P (fev fr) o σ, o.dst with
          | some (v, _), some d => veq1 v (fget fr d) = true ∧ precheck P all qs k' fr σ
          | _, _ => False) := by
        intro fr h
        split at h
        · rename_i d hd
          have hn : ∀ it, o.op ≠ .next it false := fun it hi => by simp only [wnx, hi] at h
          have hp : ∀ x, o.op ≠ .panic x := fun x hi => by simp only [wnx, hi] at h
          have h : wval P (fun _ _ _ _ => False) (fev fr) o σ (fun v _ => veq1 v (fget fr d) = true ∧ wre P all qs k fr σ) noP := by
            unfold wnx at h
            split at h
            · exact h.elim
            · exact h.elim
            · exact h
          have hb : ∀ c, o.op = .call c → ∃ b, c.callee = .builtin b := fun c hc => by
            simp only [wval, hc] at h
            split at h
            · exact ⟨_, ‹_›⟩
            · unfold wF at h; split at h <;> exact h.elim
            · obtain ⟨_, _, h⟩ := h; exact h.elim
          obtain ⟨r, h1, h2, h3⟩ := wval_aop hb hn hp h
          simp only [h1, hd]
          exact ⟨h2, wre_p hk qs fr σ h3⟩
        · exact h.elim
      exact wguard_p (md := none) trivial (fun md fr _ h => hyes fr h) (fun fr h => hyes fr h) (fun md fr _ h => wre_p hk qs fr σ h) h
theorem wdops_p {P : Program} {all : List Oper} {k k' : FK} {kp : WK} (hk : ∀ fr σ, k fr σ → k' fr σ) : ∀ (os : List (Nat × List Nat)) (md : GM) (fr : Fr) (σ : AHeap), GOk all md fr → wdops P (Ev P) all kp os md k fr σ → pdops P all kp os k' fr σ
  | [], _, fr, σ, _, h => hk _ _ h
  | (i, chk) :: os, md, fr, σ, hg, h => by
    simp only [wdops] at h
    simp only [pdops]
    split at h
    · exact h.elim
    · rename_i o ho
      (try simp only [ho])
      have hyes : ∀ md fr, GOk all md fr → wone P (Ev P) o (wre P all chk (wdops P (Ev P) all kp os (gmChk chk (gmAfter md o)) k)) kp fr σ →
          pone P o (precheck P all chk (pdops P all kp os k')) kp fr σ := by
        intro md fr hg h
        refine ⟨_, h, fun v σ' hv => ?_⟩
        cases chk with
        | nil => exact wdops_p hk os _ _ _ (hg.after o v) hv
        | cons c chk => exact wre_p (fun fr σ h => wdops_p hk os none _ _ trivial h) _ _ _ hv
      exact wguard_p hg hyes (fun fr h => hyes none fr trivial (by cases chk <;> exact h)) (fun md fr hg h => wdops_p hk os _ _ _ (hg.after o skipV) h) h
theorem wdt_p {P : Program} {all : List Oper} {k k' : FK} {kp : WK} (hk : ∀ fr σ, k fr σ → k' fr σ) : ∀ (t : DT) (md : GM) (fr : Fr) (σ : AHeap), GOk all md fr → wdt P (Ev P) all kp t md k fr σ → pdt P all kp t k' fr σ
  | .nil, _, fr, σ, _, h => hk _ _ h
  | .alt x y, md, fr, σ, hg, h => ⟨wdt_p hk x md fr σ hg h.1, wdt_p hk y md fr σ hg h.2⟩
  | .step i chk t, md, fr, σ, hg, h => by
    simp only [wdt] at h
    simp only [pdt]
    split at h
    · exact h.elim
    · rename_i o ho
      (try simp only [ho])
      have hyes : ∀ md fr, GOk all md fr → wone P (Ev P) o (wre P all chk (wdt P (Ev P) all kp t (gmChk chk (gmAfter md o)) k)) kp fr σ →
          pone P o (precheck P all chk (pdt P all kp t k')) kp fr σ := by
        intro md fr hg h
        refine ⟨_, h, fun v σ' hv => ?_⟩
        cases chk with
        | nil => exact wdt_p hk t _ _ _ (hg.after o v) hv
        | cons c chk => exact wre_p (fun fr σ h => wdt_p hk t none _ _ trivial h) _ _ _ hv
      exact wguard_p hg hyes (fun fr h => hyes none fr trivial (by cases chk <;> exact h)) (fun md fr hg h => wdt_p hk t _ _ _ (hg.after o skipV) h) h
def wantA (all : List Oper) (o : Oper) (fr : Fr) : Option Bool :=
  match o.guard with
  | none => some true
  | some (j, want) => match (all[j]?).bind (·.dst) with
    | some t => match asB (fget fr t) with
      | some b => some (b == want)
      | none => cond (isSkip (fget fr t)) (some false) none
    | none => none
def FEq (fr fr' : Fr) : Prop := ∀ t, fget fr t = fget fr' t
theorem FEq.ev {fr fr' : Fr} (h : FEq fr fr') : fev fr = fev fr' := by
  funext x
  cases x with
  | tmp t => exact h t
  | _ => rfl
theorem asB_inv {v : Value} {b : Bool} (h : asB v = some b) : v = .bool b := by
  unfold asB at h
  split at h
  · cases h; rfl
  · cases h
theorem setb_feq {fr : Fr} {t : Nat} {b : Bool} (h : fget fr t = .bool b) : FEq (fr.set t (.bool b)) fr := by
  intro u
  rw [fget_set]
  split
  · rename_i e; subst e; exact h.symm
  · rfl
theorem pguard_inv {all : List Oper} {o : Oper} {yes no : FK} {fr : Fr} {σ : AHeap} (h : pguard all o yes no fr σ) :
    ∃ wb fr', wantA all o fr = some wb ∧ FEq fr' fr ∧ (if wb = true then yes else no) fr' σ := by
  unfold pguard at h
  unfold wantA
  cases hg : o.guard with
  | none => rw [hg] at h; exact ⟨true, fr, rfl, fun _ => rfl, h⟩
  | some p =>
    obtain ⟨j, want⟩ := p
    rw [hg] at h
    simp only at h ⊢
    cases ht : (all[j]?).bind (·.dst) with
    | none => rw [ht] at h; exact h.elim
    | some t =>
      rw [ht] at h
      simp only at h ⊢
      cases hb : asB (fget fr t) with
      | none =>
        rw [hb] at h
        simp only at h ⊢
        exact ⟨false, fr, by rw [h.1]; rfl, fun _ => rfl, h.2⟩
      | some bb =>
        rw [hb] at h
        cases bb with
        | true =>
          cases want with
          | true => exact ⟨true, _, rfl, setb_feq (asB_inv hb), h⟩
          | false => exact ⟨false, _, rfl, setb_feq (asB_inv hb), h⟩
        | false =>
          cases want with
          | true => exact ⟨false, _, rfl, setb_feq (asB_inv hb), h⟩
          | false => exact ⟨true, _, rfl, setb_feq (asB_inv hb), h⟩
theorem wantA_congr {all : List Oper} {o : Oper} {fr fr' : Fr} (h : ∀ t ∈ looks all o, fget fr t = fget fr' t) : wantA all o fr = wantA all o fr' := by
  unfold wantA
  split
  · rfl
  · rename_i j want hg
    split
    · rename_i t ht
      rw [h t (looks_guard hg ht)]
    · rfl
theorem fev_congr {all : List Oper} {o : Oper} {fr fr' : Fr} (h : ∀ t ∈ looks all o, fget fr t = fget fr' t) : ∀ x ∈ o.op.operands, fev fr x = fev fr' x := by
  intro x hx
  cases x with
  | tmp t => exact h t (looks_operand hx)
  | _ => rfl
section
variable {P : Program} {B : Nat} {w0 : World} {C : Cx} {all : List Oper} {kp : WK}
theorem wval_float {ev : Operand → Value} {o : Oper} {σ : AHeap} {K : WK} (hf : floatB o.op = true) (h : wval P (Ev P) ev o σ K kp) : ∃ v, aop P ev o σ = some (v, σ) ∧ K v σ := by
  have hb : ∀ c, o.op = .call c → ∃ b, c.callee = .builtin b := fun c hc => by
    rw [hc] at hf
    cases hcal : c.callee with
    | builtin b => exact ⟨b, rfl⟩
    | value f => simp [floatB, quietB, readB, hcal] at hf
    | invoke r n => simp [floatB, quietB, readB, hcal] at hf
  obtain ⟨⟨v, σ'⟩, h1, h2⟩ := wval_aop hb (fun it hc => by rw [hc] at hf; simp [floatB, quietB, readB] at hf) (fun x hc => by rw [hc] at hf; simp [floatB, quietB, readB] at hf) h
  have hσ := aop_keep (by unfold floatB at hf; exact hf) h1
  subst hσ
  exact ⟨v, h1, h2⟩
theorem wanted_of {o : Oper} {fr : Fr} {a : Act} {ρ : List RB} {wb : Bool} (hw : wantA all o fr = some wb) (hv : ∀ t ∈ looks all o, VR ρ (fget fr t) (a.tmps.getD t undef)) :
    Region.wanted o (yielded all.toArray a.tmps) = wb := by
  unfold wantA at hw
  split at hw
  · rename_i hg; cases hw; simp [Region.wanted, hg]
  · rename_i j want hg
    split at hw
    · rename_i t ht
      split at hw
      · rename_i bb hb
        cases hw
        have hvt := hv t (looks_guard hg ht)
        rw [asB_inv hb] at hvt
        have hvt := hvt.bool_inv
        have ht2 : a.tmps[t]? = some (.bool bb) := by
          rw [Array.getD_eq_getD_getElem?] at hvt
          cases hx : a.tmps[t]? with
          | none => rw [hx] at hvt; simp [undef] at hvt
          | some v => rw [hx] at hvt; simp at hvt; rw [hvt]
        have hy : yielded all.toArray a.tmps j = some bb := by
          unfold Go.yielded
          have hj' : ((all.toArray[j]?).bind (·.dst)) = some t := by simpa using ht
          rw [hj']
          simp [ht2]
        simp [Region.wanted, hg, hy]
      · cases hs : isSkip (fget fr t) with
        | false => rw [hs] at hw; cases hw
        | true =>
          rw [hs] at hw
          cases hw
          have hvt := (hv t (looks_guard hg ht)).isSkip hs
          have hy := yielded_skip (all := all) ht hvt
          simp [Region.wanted, hg, hy]
    · cases hw
theorem precheck_inv {k : FK} : ∀ (chk : List Nat) (fr : Fr) (σ : AHeap), precheck P all chk k fr σ →
    ∃ fr2, FEq fr2 fr ∧ k fr2 σ ∧ ∀ q ∈ chk, ∀ oq, all[q]? = some oq → wantA all oq fr = some false ∨ (wantA all oq fr = some true ∧ ∃ d σ'', oq.dst = some d ∧ aop P (fev fr) oq σ = some (fget fr d, σ''))
  | [], fr, σ, h => ⟨fr, fun _ => rfl, h, fun q hq => by simp at hq⟩
  | q :: qs, fr, σ, h => by
    simp only [precheck] at h
    split at h
    · exact h.elim
    · rename_i o ho
      obtain ⟨wb, fr', hw, hfe, h⟩ := pguard_inv h
      cases wb with
      | false =>
        simp only [Bool.false_eq_true, if_false] at h
        obtain ⟨fr2, e1, e2, e3⟩ := precheck_inv qs fr' σ h
        refine ⟨fr2, fun t => (e1 t).trans (hfe t), e2, fun q' hq' oq hoq => ?_⟩
        rcases List.mem_cons.1 hq' with rfl | hq'
        · rw [ho] at hoq; cases hoq; exact .inl hw
        · have := e3 q' hq' oq hoq
          rw [wantA_congr (fr' := fr) (fun t _ => hfe t), hfe.ev] at this
          rcases this with h1 | ⟨h1, d, σ'', h2, h3⟩
          · exact .inl h1
          · exact .inr ⟨h1, d, σ'', h2, by rw [← hfe d]; exact h3⟩
      | true =>
        simp only [if_true] at h
        split at h
        · rename_i v σ'' d hv hd
          obtain ⟨hb, h⟩ := h
          obtain ⟨fr2, e1, e2, e3⟩ := precheck_inv qs fr' σ h
          refine ⟨fr2, fun t => (e1 t).trans (hfe t), e2, fun q' hq' oq hoq => ?_⟩
          rcases List.mem_cons.1 hq' with rfl | hq'
          · rw [ho] at hoq; cases hoq
            refine .inr ⟨hw, d, σ'', hd, ?_⟩
            rw [← hfe.ev, hv, veq1_sound hb, hfe d]
          · have := e3 q' hq' oq hoq
            rw [wantA_congr (fr' := fr) (fun t _ => hfe t), hfe.ev] at this
            rcases this with h1 | ⟨h1, d, σ'', h2, h3⟩
            · exact .inl h1
            · exact .inr ⟨h1, d, σ'', h2, by rw [← hfe d]; exact h3⟩
        · exact h.elim
theorem Bef.lt (hE : edgesOk all = true) {j i : Nat} (h : Bef all j i) : j < i := by
  have key : ∀ i o e, all[i]? = some o → e ∈ o.after.toList → Region.binds .any e = true → e.on < i := by
    intro i o e ho he hb
    have hlt := (List.getElem?_eq_some_iff.1 ho).1
    have := List.all_eq_true.1 hE i (List.mem_range.2 hlt)
    rw [ho] at this
    have := List.all_eq_true.1 this e he
    rw [hb] at this
    simpa using this
  induction h with
  | edge i o e ho he hb => exact key i o e ho he hb
  | trans i j o e ho he hb _ ih => exact Nat.lt_trans ih (key i o e ho he hb)
def GF (P : Program) (all : List Oper) (pre : List Nat) (fr0 fr : Fr) (σ : AHeap) (q : Nat) (oq : Oper) : Prop :=
  ∃ frq d, oq.dst = some d ∧
    (∀ t ∈ looks all oq, (∃ k ok, k ∈ pre ∧ all[k]? = some ok ∧ ok.dst = some t ∧ isB (befs all []) k q = true) → fget frq t = fget fr t) ∧
    (∀ t ∈ looks all oq, (¬ ∃ k ok, k ∈ pre ∧ all[k]? = some ok ∧ ok.dst = some t ∧ isB (befs all []) k q = true) → fget frq t = fget fr0 t) ∧
    ((wantA all oq frq = some true ∧ aop P (fev frq) oq σ = some (fget fr d, σ)) ∨ (wantA all oq frq = some false ∧ fget fr d = skipV))
structure DInv (P : Program) (C : Cx) (all : List Oper) (pre : List Nat) (fr0 fr : Fr) (σ : AHeap) (ρ : List RB) (S : Nat → Prop) (a : Act) : Prop where
  sub : ∀ i, S i → i ∈ pre
  spine : ∀ i o, i ∈ pre → all[i]? = some o → floatB o.op = false → S i
  closed : Closed all S
  f1 : ∀ k ok t, S k → all[k]? = some ok → ok.dst = some t → VR ρ (fget fr t) (a.tmps.getD t undef)
  f2 : ∀ t, (∀ k ok, S k → all[k]? = some ok → ok.dst ≠ some t) → VR ρ (fget fr0 t) (a.tmps.getD t undef)
  f3 : ∀ t, (∀ k ok, k ∈ pre → all[k]? = some ok → ok.dst ≠ some t) → fget fr t = fget fr0 t
  dis : ∀ k k' ok ok' t, k ∈ pre → k' ∈ pre → all[k]? = some ok → all[k']? = some ok' → ok.dst = some t → ok'.dst = some t → k = k'
  pw : ∀ k q ok oq t, k ∈ pre → q ∈ pre → k ≠ q → all[k]? = some ok → all[q]? = some oq → ok.dst = some t → t ∈ looks all oq → isB (befs all []) k q = true ∨ isB (befs all []) q k = true
  kp : Keep C a
  dst : ∀ k ok d, k ∈ pre → all[k]? = some ok → ok.dst = some d → C.ok d
  flt : ∀ k ok, k ∈ pre → all[k]? = some ok → floatB ok.op = true → ok.dst ≠ none
  ins : ∀ k, k ∈ pre → ∃ ok, all[k]? = some ok
  g : ∀ q oq, q ∈ pre → ¬ S q → all[q]? = some oq → GF P all pre fr0 fr σ q oq
theorem pairOk_inv {b : List Nat} {chk : List Nat} {k i : Nat} {ok o : Oper} (h : pairOk all b chk k i ok o = true) :
    k ≠ i ∧ isB b i k = false ∧ (∀ d d', ok.dst = some d → o.dst = some d' → d ≠ d') ∧ (∀ d, ok.dst = some d → d ∈ looks all o → isB b k i = true) ∧
    (∀ d, o.dst = some d → d ∈ looks all ok → isB b k i = true) ∧
    (floatB o.op = false → readB ok.op = true → isB b k i = false → k ∈ chk) := by
  unfold pairOk at h
  simp only [Bool.and_eq_true, Bool.not_eq_true', Bool.or_eq_true] at h
  obtain ⟨⟨⟨⟨⟨h1, h2⟩, h3⟩, h4⟩, h5⟩, h7⟩ := h
  refine ⟨fun e => by subst e; simp at h1, h2, fun d d' hd hd' e => ?_, fun d hd hm => ?_, fun d hd hm => ?_, fun hf hr hb => ?_⟩
  · rw [hd, hd'] at h3; subst e; simp at h3
  · rw [hd] at h4
    rcases (by simpa using h4 : d ∉ looks all o ∨ isB b k i = true) with h | h
    · exact absurd hm h
    · exact h
  · rw [hd] at h5
    rcases (by simpa using h5 : d ∉ looks all ok ∨ isB b k i = true) with h | h
    · exact absurd hm h
    · exact h
  · rcases h7 with ((h | h) | h) | h
    · rw [hf] at h; cases h
    · rw [hr] at h; cases h
    · rw [hb] at h; cases h
    · simpa using h
theorem dChk_inv {b : List Nat} {pre : List Nat} {i : Nat} {chk : List Nat} {post : List (Nat × List Nat)} (h : dChk C.N C.Lp all b pre ((i, chk) :: post) = true) :
    ∃ o, all[i]? = some o ∧ (∀ d, o.dst = some d → C.ok d) ∧ (floatB o.op = true → o.dst ≠ none ∧ chk = []) ∧
      (∀ k ∈ pre, ∃ ok, all[k]? = some ok ∧ pairOk all b chk k i ok o = true) ∧ (∀ q ∈ chk, chkOk all b (i :: pre) q = true ∧ q ≠ i) ∧ dChk C.N C.Lp all b (i :: pre) post = true := by
  simp only [dChk] at h
  split at h
  · cases h
  · rename_i o ho
    simp only [Bool.and_eq_true, List.all_eq_true, Bool.or_eq_true, Bool.not_eq_true'] at h
    obtain ⟨⟨⟨⟨⟨h1, h2⟩, h3⟩, h4⟩, h5⟩, h6⟩ := h
    refine ⟨o, ho, dstOk_spec h1, fun hf => ?_, fun k hk => ?_, fun q hq => ⟨h4 q hq, fun e => ?_⟩, h6⟩
    · rcases h2 with h2 | h2
      · rw [hf] at h2; cases h2
      · exact ⟨fun e => by rw [e] at h2; simp at h2, by simpa using h2.2⟩
    · have := h3 k hk
      split at this
      · rename_i ok hok; exact ⟨ok, hok, this⟩
      · cases this
    · have := h5 q hq
      subst e
      simp at this
theorem chkOk_inv {b : List Nat} {pre : List Nat} {q : Nat} (h : chkOk all b pre q = true) : ∃ oq, all[q]? = some oq ∧ floatB oq.op = true ∧ q ∈ pre ∧
    ∀ k ∈ pre, ∀ ok d, all[k]? = some ok → ok.dst = some d → d ∈ looks all oq → isB b k q = true := by
  unfold chkOk at h
  split at h
  · cases h
  · rename_i oq hoq
    simp only [Bool.and_eq_true, List.all_eq_true] at h
    obtain ⟨⟨⟨h1, h2⟩, h3⟩, h4⟩ := h
    refine ⟨oq, hoq, h1, by simpa using h3, fun k hk ok d hok hd hm => ?_⟩
    have := h4 k hk
    rw [hok] at this
    simp only [hd] at this
    rcases (by simpa using this : d ∉ looks all oq ∨ isB b k q = true) with h | h
    · exact absurd hm h
    · exact h
theorem DInv.advance (hE : edgesOk all = true) {pre : List Nat} {fr0 fr : Fr} {σ : AHeap} {ρ : List RB} {S : Nat → Prop} {a : Act} {i : Nat} {chk : List Nat} {post : List (Nat × List Nat)} {kn : FK} {o : Oper}
    (h : DInv P C all pre fr0 fr σ ρ S a) (hc : dChk C.N C.Lp all (befs all []) pre ((i, chk) :: post) = true) (ho : all[i]? = some o) (hf : floatB o.op = true)
    (hx : pdops P all kp ((i, chk) :: post) kn fr σ) : ∃ fr', DInv P C all (i :: pre) fr0 fr' σ ρ S a ∧ pdops P all kp post kn fr' σ := by
  obtain ⟨o', ho', hdN, hflt, hpair, _, _⟩ := dChk_inv hc
  rw [ho] at ho'; cases ho'
  obtain ⟨hdn, rfl⟩ := hflt hf
  obtain ⟨d, hd⟩ : ∃ d, o.dst = some d := by cases h : o.dst with | none => exact absurd h hdn | some d => exact ⟨d, rfl⟩
  have hiS : ¬ S i := fun hs => by
    obtain ⟨ok, _, hp⟩ := hpair i (h.sub i hs)
    exact (pairOk_inv hp).1 rfl
  have hipre : i ∉ pre := fun hs => by
    obtain ⟨ok, _, hp⟩ := hpair i hs
    exact (pairOk_inv hp).1 rfl
  simp only [pdops, ho] at hx
  obtain ⟨wb, fr1, hw, hfe, hx2⟩ := pguard_inv hx
  clear hx
  -- the value that is put
  have hval : ∃ v, ((wb = true ∧ aop P (fev fr) o σ = some (v, σ)) ∨ (wb = false ∧ v = skipV)) ∧ pdops P all kp post kn (fput fr1 o.dst v) σ := by
    cases wb with
    | false => exact ⟨skipV, .inr ⟨rfl, rfl⟩, by simpa using hx2⟩
    | true =>
      simp only [if_true] at hx2
      obtain ⟨K0, hx2, hx3⟩ := hx2
      obtain ⟨v, h1, h2⟩ := wval_float hf hx2
      rw [hfe.ev] at h1
      exact ⟨v, .inl ⟨rfl, h1⟩, hx3 v σ h2⟩
  obtain ⟨v, hv, hx⟩ := hval
  refine ⟨_, ?_, hx⟩
  have hget : ∀ t, fget (fput fr1 o.dst v) t = if t = d then v else fget fr t := by
    intro t
    rw [hd]
    simp only [fput, fget_set, hfe t]
  have hne : ∀ k ok t, k ∈ pre → all[k]? = some ok → ok.dst = some t → t ≠ d := by
    intro k ok t hk hok hkt e
    obtain ⟨ok', hok', hp⟩ := hpair k hk
    rw [hok] at hok'; cases hok'
    exact (pairOk_inv hp).2.2.1 t d hkt hd e
  refine ⟨fun k hk => List.mem_cons_of_mem _ (h.sub k hk), fun k ok hk hok hfk => ?_, h.closed, fun k ok t hk hok hkt => ?_, h.f2, fun t ht => ?_, ?_, ?_, h.kp, ?_, ?_, ?_, ?_⟩
  · rcases List.mem_cons.1 hk with rfl | hk
    · rw [ho] at hok; cases hok; rw [hf] at hfk; cases hfk
    · exact h.spine k ok hk hok hfk
  · rw [hget, if_neg (hne k ok t (h.sub k hk) hok hkt)]
    exact h.f1 k ok t hk hok hkt
  · rw [hget, if_neg (fun e => ht i o (by simp) ho (by rw [hd, e]))]
    exact h.f3 t fun k ok hk hok => ht k ok (by simp [hk]) hok
  · intro k k' ok ok' t hk hk' hok hok' hkt hkt'
    rcases List.mem_cons.1 hk with rfl | hk2 <;> rcases List.mem_cons.1 hk' with rfl | hk2'
    · rfl
    · rw [ho] at hok; cases hok
      rw [hd] at hkt; cases hkt
      exact absurd rfl (hne k' ok' _ hk2' hok' hkt')
    · rw [ho] at hok'; cases hok'
      rw [hd] at hkt'; cases hkt'
      exact absurd rfl (hne k ok _ hk2 hok hkt)
    · exact h.dis k k' ok ok' t hk2 hk2' hok hok' hkt hkt'
  · intro k q ok oq t hk hq hkq hok hoq hkt hm
    rcases List.mem_cons.1 hk with rfl | hk2 <;> rcases List.mem_cons.1 hq with rfl | hq2
    · exact absurd rfl hkq
    · rw [ho] at hok; cases hok
      obtain ⟨oq', hoq', hp⟩ := hpair q hq2
      rw [hoq] at hoq'; cases hoq'
      exact .inr ((pairOk_inv hp).2.2.2.2.1 t hkt hm)
    · rw [ho] at hoq; cases hoq
      obtain ⟨ok', hok', hp⟩ := hpair k hk2
      rw [hok] at hok'; cases hok'
      exact .inl ((pairOk_inv hp).2.2.2.1 t hkt hm)
    · exact h.pw k q ok oq t hk2 hq2 hkq hok hoq hkt hm
  · intro k ok d' hk hok hkd
    rcases List.mem_cons.1 hk with rfl | hk
    · rw [ho] at hok; cases hok; exact hdN d' hkd
    · exact h.dst k ok d' hk hok hkd
  · intro k ok hk hok hfk
    rcases List.mem_cons.1 hk with rfl | hk
    · rw [ho] at hok; cases hok; exact hdn
    · exact h.flt k ok hk hok hfk
  · intro k hk
    rcases List.mem_cons.1 hk with rfl | hk
    · exact ⟨o, ho⟩
    · exact h.ins k hk
  · intro q oq hq hqS hoq
    rcases List.mem_cons.1 hq with rfl | hq
    · rw [ho] at hoq; cases hoq
      refine ⟨fr, d, hd, fun t ht hex => ?_, fun t ht hex => ?_, ?_⟩
      · obtain ⟨k, ok, hk, hok, hkt, hb⟩ := hex
        rcases List.mem_cons.1 hk with rfl | hk
        · exact absurd ((isB_sound hb).lt hE) (Nat.lt_irrefl _)
        · rw [hget, if_neg (hne k ok t hk hok hkt)]
      · refine h.f3 t fun k ok hk hok hkt => hex ⟨k, ok, by simp [hk], hok, hkt, ?_⟩
        obtain ⟨ok', hok', hp⟩ := hpair k hk
        rw [hok] at hok'; cases hok'
        exact (pairOk_inv hp).2.2.2.1 t hkt ht
      · rw [hget, if_pos rfl]
        rcases hv with ⟨rfl, hv⟩ | ⟨rfl, hv⟩
        · exact .inl ⟨hw, hv⟩
        · exact .inr ⟨hw, hv⟩
    · obtain ⟨frq, dq, hdq, g1, g2, g3⟩ := h.g q oq hq hqS hoq
      obtain ⟨oq', hoq', hp⟩ := hpair q hq
      rw [hoq] at hoq'; cases hoq'
      have hnb : ¬ isB (befs all []) i q = true := fun hh => by
        have := (pairOk_inv hp).2.1
        rw [hh] at this; cases this
      refine ⟨frq, dq, hdq, fun t ht hex => ?_, fun t ht hex => ?_, ?_⟩
      · obtain ⟨k, ok, hk, hok, hkt, hb⟩ := hex
        rcases List.mem_cons.1 hk with rfl | hk
        · exact absurd hb hnb
        · rw [hget, if_neg (hne k ok t hk hok hkt)]
          exact g1 t ht ⟨k, ok, hk, hok, hkt, hb⟩
      · exact g2 t ht fun ⟨k, ok, hk, hok, hkt, hb⟩ => hex ⟨k, ok, by simp [hk], hok, hkt, hb⟩
      · rw [hget, if_neg (hne q oq dq hq hoq hdq)]
        exact g3
theorem aop_step {o : Oper} {ev : Operand → Value} {σ : AHeap} {ρ : List RB} {w : World} {a : Act} {v : Value} {next : Act → World → Prop} {Q : Exit → Act → World → Prop}
    (hev : ∀ x ∈ o.op.operands, VR ρ (ev x) (a.eval x)) (h : Rel B w0 ρ σ w) (hf : floatB o.op = true) (hv : aop P ev o σ = some (v, σ))
    (hk : ∀ ρ' v' w', Ext ρ ρ' → Rel B w0 ρ' σ w' → VR ρ' v v' → next (a.put o.dst v') w') : o.wp P a w next Q := by
  have hex : ∃ ev' : Operand → Value, (∀ x ∈ o.op.operands, ev x = ev' x) ∧ ∀ x, VR ρ (ev' x) (a.eval x) := by
    classical
    refine ⟨fun x => if x ∈ o.op.operands then ev x else undef, fun x hx => (if_pos hx).symm, fun x => ?_⟩
    simp only
    split
    · rename_i hx; exact hev x hx
    · exact .dead _
  obtain ⟨ev', he1, he2⟩ := hex
  rw [aop_congr he1] at hv
  obtain ⟨n, w', ρ', v', e1, e2, e3, e4, e5⟩ := aop_sound h he2 hv
  unfold Oper.wp
  rw [e1]
  have hfin := hk ρ' v' w' e3 e4 e5
  rcases e2 with rfl | ⟨rfl, rfl⟩
  · exact hfin
  · exact hfin
theorem DInv.floatStep {pre : List Nat} {fr0 fr : Fr} {σ : AHeap} {ρ : List RB} {S : Nat → Prop} {a : Act} {w : World} {i : Nat} {o : Oper} {Q : Exit → Act → World → Prop} {Kn : Act → World → Prop} (hkp : KP B w0 C ρ kp Q)
    (h : DInv P C all pre fr0 fr σ ρ S a) (hr : Rel B w0 ρ σ w) (hi : i ∈ pre) (hiS : ¬ S i) (ho : all[i]? = some o) (hready : ∀ e ∈ o.after.toList, Region.binds .any e = true → S e.on)
    (hK : ∀ ρ' a' w', DInv P C all pre fr0 fr σ ρ' (fun j => j = i ∨ S j) a' → Ext ρ ρ' → Rel B w0 ρ' σ w' → Kn a' w') : wpOp P all.toArray Q i Kn a w := by
  have hfl : floatB o.op = true := by
    cases hf : floatB o.op with
    | true => rfl
    | false => exact absurd (h.spine i o hi ho hf) hiS
  obtain ⟨frq, d, hd, g1, g2, g3⟩ := h.g i o hi hiS ho
  have hbefS : ∀ k, isB (befs all []) k i = true → S k := fun k hb => (isB_sound hb).closed h.closed fun o' ho' => by rw [ho] at ho'; cases ho'; exact hready
  -- what it looks at stands for what the machine has there
  have hv : ∀ t ∈ looks all o, VR ρ (fget frq t) (a.tmps.getD t undef) := by
    intro t ht
    by_cases hex : ∃ k ok, k ∈ pre ∧ all[k]? = some ok ∧ ok.dst = some t ∧ isB (befs all []) k i = true
    · rw [g1 t ht hex]
      obtain ⟨k, ok, hk, hok, hkt, hb⟩ := hex
      exact h.f1 k ok t (hbefS k hb) hok hkt
    · rw [g2 t ht hex]
      refine h.f2 t fun k ok hk hok hkt => ?_
      have hki : k ≠ i := fun e => hiS (e ▸ hk)
      rcases h.pw k i ok o t (h.sub k hk) hi hki hok ho hkt ht with hb | hb
      · exact hex ⟨k, ok, h.sub k hk, hok, hkt, hb⟩
      · exact hiS ((isB_sound hb).closed h.closed fun o' ho' => h.closed k o' ho' hk)
  have hdN := h.dst i o d hi ho hd
  -- behind it
  have hnext : ∀ ρ' v', Ext ρ ρ' → VR ρ' (fget fr d) v' → DInv P C all pre fr0 fr σ ρ' (fun j => j = i ∨ S j) (a.put o.dst v') := by
    intro ρ' v' he hvv
    have hput : ∀ t, (a.put o.dst v').tmps.getD t undef = if t = d then v' else a.tmps.getD t undef := by
      intro t
      rw [hd]
      simp only [Act.put, Array.getD_eq_getD_getElem?, Array.getElem?_setIfInBounds]
      by_cases htd : t = d
      · subst htd
        have : t < a.tmps.size := by rw [h.kp.size]; exact hdN.1
        simp [this]
      · rw [if_neg (fun e => htd e.symm), if_neg htd]
    refine ⟨fun j hj => ?_, fun j ok hj hok hf => .inr (h.spine j ok hj hok hf), fun j oj hoj hj e he hb => ?_, fun k ok t hk hok hkt => ?_, fun t ht => ?_, h.f3, h.dis, h.pw, ?_, h.dst, h.flt, h.ins, fun q oq hq hqS hoq => h.g q oq hq (fun hs => hqS (.inr hs)) hoq⟩
    · rcases hj with rfl | hj
      · exact hi
      · exact h.sub j hj
    · rcases hj with rfl | hj
      · rw [ho] at hoj; cases hoj; exact .inr (hready e he hb)
      · exact .inr (h.closed j oj hoj hj e he hb)
    · rw [hput]
      split
      · rename_i htd; subst htd; exact hvv
      · rename_i htd
        rcases hk with rfl | hk
        · rw [ho] at hok; cases hok; rw [hd] at hkt; cases hkt; exact absurd rfl htd
        · exact (h.f1 k ok t hk hok hkt).mono he
    · rw [hput, if_neg (fun e => ht i o (.inl rfl) ho (by rw [hd, e]))]
      exact (h.f2 t fun k ok hk hok => ht k ok (.inr hk) hok).mono he
    · exact h.kp.put fun d' hd' => by rw [hd] at hd'; cases hd'; exact hdN
  unfold wpOp
  have hoa : all.toArray[i]? = some o := by simpa using ho
  rw [hoa]
  simp only
  rcases g3 with ⟨hw, hval⟩ | ⟨hw, hval⟩
  · rw [if_pos (wanted_of hw hv)]
    left
    refine aop_step (ev := fev frq) (fun x hx => ?_) hr hfl hval fun ρ' v' w' e1 e2 e3 => ?_
    · cases x with
      | tmp t => exact hv t (looks_operand hx)
      | const c => exact (FR.ev (C := ⟨a.tmps.size, a.defers, [], fun _ => undef⟩) (a := a) (fr := .leaf) ⟨fun t => by rw [fget_leaf]; exact .dead _, rfl, rfl, fun t ht => by simp at ht⟩ (.const c))
      | func f => exact .func _ _ _ _ _ rfl rfl (fun i v v' x => by simp at x) (fun i v v' x => by simp at x)
      | global g => exact .dead _
    · exact hK ρ' _ w' (hnext ρ' v' e1 e3) e1 e2
  · rw [if_neg (by rw [wanted_of hw hv]; simp)]
    exact hK ρ _ w (hnext ρ undef (Ext.refl _) (by rw [hval]; exact .skp)) (Ext.refl _) hr
theorem DInv.spineStep (hE : edgesOk all = true) {pre : List Nat} {fr0 fr : Fr} {σ : AHeap} {ρ : List RB} {S : Nat → Prop} {a : Act} {w : World} {i : Nat} {chk : List Nat} {post : List (Nat × List Nat)} {o : Oper} {Q : Exit → Act → World → Prop} {Kn : Act → World → Prop}
    {kn : FK} (hkp : KP B w0 C ρ kp Q)
    (h : DInv P C all pre fr0 fr σ ρ S a) (hr : Rel B w0 ρ σ w) (hc : dChk C.N C.Lp all (befs all []) pre ((i, chk) :: post) = true) (ho : all[i]? = some o) (hfl : floatB o.op = false)
    (hready : ∀ e ∈ o.after.toList, Region.binds .any e = true → S e.on)
    (hx : pdops P all kp ((i, chk) :: post) kn fr σ)
    (hK : ∀ ρ' fr' σ' a' w', DInv P C all (i :: pre) fr0 fr' σ' ρ' (fun j => j = i ∨ S j) a' → Ext ρ ρ' → Rel B w0 ρ' σ' w' → pdops P all kp post kn fr' σ' → Kn a' w') :
    wpOp P all.toArray Q i Kn a w := by
  obtain ⟨o', ho', hdN, _, hpair, hchk, _⟩ := dChk_inv hc
  rw [ho] at ho'; cases ho'
  have hipre : i ∉ pre := fun hs => by
    obtain ⟨ok, _, hp⟩ := hpair i hs
    exact (pairOk_inv hp).1 rfl
  have hiS : ¬ S i := fun hs => hipre (h.sub i hs)
  have hbefS : ∀ k, isB (befs all []) k i = true → S k := fun k hb => (isB_sound hb).closed h.closed fun o' ho' => by rw [ho] at ho'; cases ho'; exact hready
  have hpo : ∀ k ∈ pre, ∀ ok, all[k]? = some ok → pairOk all (befs all []) chk k i ok o = true := fun k hk ok hok => by
    obtain ⟨ok', hok', hp⟩ := hpair k hk
    rw [hok] at hok'; cases hok'; exact hp
  have hv : ∀ t ∈ looks all o, VR ρ (fget fr t) (a.tmps.getD t undef) := by
    intro t ht
    by_cases hex : ∃ k ok, S k ∧ all[k]? = some ok ∧ ok.dst = some t
    · obtain ⟨k, ok, hk, hok, hkt⟩ := hex
      exact h.f1 k ok t hk hok hkt
    · rw [h.f3 t fun k ok hk hok hkt => hex ⟨k, ok, hbefS k ((pairOk_inv (hpo k hk ok hok)).2.2.2.1 t hkt ht), hok, hkt⟩]
      exact h.f2 t fun k ok hk hok hkt => hex ⟨k, ok, hk, hok, hkt⟩
  simp only [pdops, ho] at hx
  obtain ⟨wb, fr1, hw, hfe, hx2⟩ := pguard_inv hx
  clear hx
  -- behind it: a value is put; the heap may have turned
  have hnext : ∀ (v v' : Value) σ' ρ' fr2, Ext ρ ρ' → VR ρ' v v' → FEq fr2 (fput fr1 o.dst v) →
      (∀ q oq, q ∈ pre → ¬ (q = i ∨ S q) → all[q]? = some oq → ∀ frq d, oq.dst = some d → (∀ t ∈ looks all oq, (∃ k ok, k ∈ pre ∧ all[k]? = some ok ∧ ok.dst = some t ∧ isB (befs all []) k q = true) → fget frq t = fget fr t) →
        (∀ t ∈ looks all oq, (¬ ∃ k ok, k ∈ pre ∧ all[k]? = some ok ∧ ok.dst = some t ∧ isB (befs all []) k q = true) → fget frq t = fget fr0 t) →
        wantA all oq frq = some true → aop P (fev frq) oq σ = some (fget fr d, σ) → aop P (fev frq) oq σ' = some (fget fr d, σ')) →
      DInv P C all (i :: pre) fr0 fr2 σ' ρ' (fun j => j = i ∨ S j) (a.put o.dst v') := by
    intro v v' σ' ρ' fr2 he hvv hf2 hG
    have hget : ∀ t, fget fr2 t = match o.dst with | some d => if t = d then v else fget fr t | none => fget fr t := by
      intro t
      rw [hf2 t]
      cases hd : o.dst with
      | none => exact hfe t
      | some d => simp only [fput, fget_set, hfe t]
    have hgetN : ∀ t, o.dst ≠ some t → fget fr2 t = fget fr t := by
      intro t ht
      rw [hget t]
      cases hd : o.dst with
      | none => rfl
      | some d => simp only; rw [if_neg (fun e => ht (by rw [hd, e]))]
    have hput : ∀ t, (a.put o.dst v').tmps.getD t undef = if o.dst = some t then v' else a.tmps.getD t undef := by
      intro t
      cases hd : o.dst with
      | none => simp [Act.put]
      | some d =>
        simp only [Act.put, Array.getD_eq_getD_getElem?, Array.getElem?_setIfInBounds]
        by_cases htd : d = t
        · subst htd
          have : d < a.tmps.size := by rw [h.kp.size]; exact (hdN d hd).1
          simp [this]
        · rw [if_neg htd, if_neg (fun e => htd (by cases e; rfl))]
    have hne : ∀ k ok t, k ∈ pre → all[k]? = some ok → ok.dst = some t → o.dst ≠ some t := by
      intro k ok t hk hok hkt e
      exact (pairOk_inv (hpo k hk ok hok)).2.2.1 t t hkt e rfl
    refine ⟨fun j hj => ?_, fun j ok hj hok hf => ?_, fun j oj hoj hj e he' hb => ?_, fun k ok t hk hok hkt => ?_, fun t ht => ?_, fun t ht => ?_, ?_, ?_, ?_, ?_, ?_, ?_, ?_⟩
    · rcases hj with rfl | hj
      · simp
      · exact List.mem_cons_of_mem _ (h.sub j hj)
    · rcases List.mem_cons.1 hj with rfl | hj
      · exact .inl rfl
      · exact .inr (h.spine j ok hj hok hf)
    · rcases hj with rfl | hj
      · rw [ho] at hoj; cases hoj; exact .inr (hready e he' hb)
      · exact .inr (h.closed j oj hoj hj e he' hb)
    · rcases hk with rfl | hk
      · rw [ho] at hok; cases hok
        rw [hput, if_pos hkt, hget, hkt]
        simp only [if_true]
        exact hvv
      · have hn := hne k ok t (h.sub k hk) hok hkt
        rw [hput, if_neg hn, hgetN t hn]
        exact (h.f1 k ok t hk hok hkt).mono he
    · rw [hput, if_neg (ht i o (.inl rfl) ho)]
      exact (h.f2 t fun k ok hk hok => ht k ok (.inr hk) hok).mono he
    · rw [hgetN t (ht i o (by simp) ho)]
      exact h.f3 t fun k ok hk hok => ht k ok (by simp [hk]) hok
    · intro k k' ok ok' t hk hk' hok hok' hkt hkt'
      rcases List.mem_cons.1 hk with rfl | hk2 <;> rcases List.mem_cons.1 hk' with rfl | hk2'
      · rfl
      · rw [ho] at hok; cases hok
        exact absurd hkt (hne k' ok' t hk2' hok' hkt')
      · rw [ho] at hok'; cases hok'
        exact absurd hkt' (hne k ok t hk2 hok hkt)
      · exact h.dis k k' ok ok' t hk2 hk2' hok hok' hkt hkt'
    · intro k q ok oq t hk hq hkq hok hoq hkt hm
      rcases List.mem_cons.1 hk with rfl | hk2 <;> rcases List.mem_cons.1 hq with rfl | hq2
      · exact absurd rfl hkq
      · rw [ho] at hok; cases hok
        exact .inr ((pairOk_inv (hpo q hq2 oq hoq)).2.2.2.2.1 t hkt hm)
      · rw [ho] at hoq; cases hoq
        exact .inl ((pairOk_inv (hpo k hk2 ok hok)).2.2.2.1 t hkt hm)
      · exact h.pw k q ok oq t hk2 hq2 hkq hok hoq hkt hm
    · exact h.kp.put hdN
    · intro k ok d' hk hok hkd
      rcases List.mem_cons.1 hk with rfl | hk
      · rw [ho] at hok; cases hok; exact hdN d' hkd
      · exact h.dst k ok d' hk hok hkd
    · intro k ok hk hok hfk
      rcases List.mem_cons.1 hk with rfl | hk
      · rw [ho] at hok; cases hok; rw [hfl] at hfk; cases hfk
      · exact h.flt k ok hk hok hfk
    · intro k hk
      rcases List.mem_cons.1 hk with rfl | hk
      · exact ⟨o, ho⟩
      · exact h.ins k hk
    · intro q oq hq hqS hoq
      rcases List.mem_cons.1 hq with rfl | hq
      · exact absurd (.inl rfl) hqS
      · obtain ⟨frq, dq, hdq, g1, g2, g3⟩ := h.g q oq hq (fun hs => hqS (.inr hs)) hoq
        have hnb : ¬ isB (befs all []) i q = true := fun hh => by
          have := (pairOk_inv (hpo q hq oq hoq)).2.1
          rw [hh] at this; cases this
        refine ⟨frq, dq, hdq, fun t ht hex => ?_, fun t ht hex => ?_, ?_⟩
        · obtain ⟨k, ok, hk, hok, hkt, hb⟩ := hex
          rcases List.mem_cons.1 hk with rfl | hk
          · exact absurd hb hnb
          · rw [hgetN t (hne k ok t hk hok hkt)]
            exact g1 t ht ⟨k, ok, hk, hok, hkt, hb⟩
        · exact g2 t ht fun ⟨k, ok, hk, hok, hkt, hb⟩ => hex ⟨k, ok, by simp [hk], hok, hkt, hb⟩
        · rw [hgetN dq (hne q oq dq hq hoq hdq)]
          rcases g3 with ⟨h1, h2⟩ | h2
          · exact .inl ⟨h1, hG q oq hq hqS hoq frq dq hdq g1 g2 h1 h2⟩
          · exact .inr h2
  unfold wpOp
  have hoa : all.toArray[i]? = some o := by simpa using ho
  rw [hoa]
  simp only
  cases wb with
  | false =>
    rw [if_neg (by rw [wanted_of hw hv]; simp)]
    simp only [Bool.false_eq_true, if_false] at hx2
    exact hK ρ _ σ _ w (hnext skipV undef σ ρ _ (Ext.refl _) .skp (fun _ => rfl) fun q oq hq hqS hoq frq d hd g1 g2 h1 h2 => h2) (Ext.refl _) hr hx2
  | true =>
    rw [if_pos (wanted_of hw hv)]
    left
    simp only [if_true] at hx2
    obtain ⟨K0, hx2, hx3⟩ := hx2
    rw [hfe.ev] at hx2
    refine wval_sound (C := C) (ev := fev fr) (fun x hx => ?_) hr hx2 (fun v σ' ρ' v' w' hm e1 e2 e3 => ?_) hkp h.kp
    · cases x with
      | tmp t => exact hv t (looks_operand hx)
      | const c => exact (FR.ev (C := ⟨a.tmps.size, a.defers, [], fun _ => undef⟩) (a := a) (fr := .leaf) ⟨fun t => by rw [fget_leaf]; exact .dead _, rfl, rfl, fun t ht => by simp at ht⟩ (.const c))
      | func f => exact .func _ _ _ _ _ rfl rfl (fun i v v' x => by simp at x) (fun i v v' x => by simp at x)
      | global g => exact .dead _
    · obtain ⟨fr2, f1, f2, f3⟩ := precheck_inv chk _ _ (hx3 v σ' hm)
      refine hK ρ' fr2 σ' _ w' (hnext v v' σ' ρ' fr2 e1 e3 f1 ?_) e1 e2 f2
      intro q oq hq hqS hoq frq d hd g1 g2 h1 h2
      cases hqq : quietB oq.op with
      | true => exact aop_pure σ' hqq h2
      | false =>
        have hqf : floatB oq.op = true := by
          cases hf : floatB oq.op with
          | true => rfl
          | false => exact absurd (h.spine q oq hq hoq hf) fun hs => hqS (.inr hs)
        have hqr : readB oq.op = true := by
          unfold floatB at hqf
          rw [hqq] at hqf
          simpa using hqf
        have hnb : isB (befs all []) q i = false := by
          cases hb : isB (befs all []) q i with
          | false => rfl
          | true => exact absurd (hbefS q hb) fun hs => hqS (.inr hs)
        have hqc := (pairOk_inv (hpo q hq oq hoq)).2.2.2.2.2 hfl hqr hnb
        obtain ⟨oq', hoq', _, _, hwr⟩ := chkOk_inv (hchk q hqc).1
        rw [hoq] at hoq'; cases hoq'
        have hneD : ∀ k ok t, k ∈ pre → all[k]? = some ok → ok.dst = some t → o.dst ≠ some t := by
          intro k ok t hk hok hkt e
          exact (pairOk_inv (hpo k hk ok hok)).2.2.1 t t hkt e rfl
        have hnb2 : ¬ isB (befs all []) i q = true := fun hh => by
          have := (pairOk_inv (hpo q hq oq hoq)).2.1
          rw [hh] at this; cases this
        -- the frame behind the operation shows the read what it saw
        have hsame : ∀ t ∈ looks all oq, fget (fput fr1 o.dst v) t = fget frq t := by
          intro t ht
          have hnd : o.dst ≠ some t := fun e => hnb2 (hwr i (by simp) o t ho e ht)
          have h0 : fget (fput fr1 o.dst v) t = fget fr t := by
            cases hd : o.dst with
            | none => exact hfe t
            | some d =>
              simp only [fput, fget_set]
              rw [if_neg (fun e => hnd (by rw [hd, e]))]
              exact hfe t
          rw [h0]
          by_cases hex : ∃ k ok, k ∈ pre ∧ all[k]? = some ok ∧ ok.dst = some t ∧ isB (befs all []) k q = true
          · exact (g1 t ht hex).symm
          · rw [g2 t ht hex]
            exact h.f3 t fun k ok hk hok hkt => hex ⟨k, ok, hk, hok, hkt, hwr k (by simp [hk]) ok t hok hkt ht⟩
        rcases f3 q hqc oq hoq with hz | ⟨_, d', σ'', hd', hval⟩
        · rw [wantA_congr hsame, h1] at hz; cases hz
        · rw [hd] at hd'; cases hd'
          rw [aop_congr (fev_congr hsame)] at hval
          obtain rfl := aop_keep (by unfold floatB at hqf; exact hqf) hval
          have hdd : fget (fput fr1 o.dst v) d = fget fr d := by
            have hnd := hneD q oq d hq hoq hd
            cases hd2 : o.dst with
            | none => exact hfe d
            | some d2 =>
              simp only [fput, fget_set]
              rw [if_neg (fun e => hnd (by rw [hd2, e]))]
              exact hfe d
          rw [hdd] at hval
          exact hval
theorem pdt_step (P : Program) (all : List Oper) (kp : WK) (i : Nat) (chk : List Nat) (t : DT) (kn : FK) : pdt P all kp (.step i chk t) kn = pdops P all kp [(i, chk)] (pdt P all kp t kn) := rfl
theorem pdops_tree (P : Program) (all : List Oper) (kp : WK) (kn : FK) : ∀ l, pdops P all kp l kn = pdt P all kp (DT.ofList l) kn
  | [] => rfl
  | (i, chk) :: l => by
    funext fr σ
    simp only [pdops, DT.ofList, pdt, pdops_tree P all kp kn l]
theorem spineB_of {i : Nat} (h : spineB all i = true) : ∃ o, all[i]? = some o ∧ floatB o.op = false := by
  unfold spineB at h
  split at h
  · rename_i o ho; exact ⟨o, ho, by simpa using h⟩
  · cases h
def headsSpine (all : List Oper) (t : DT) : Prop := ∀ i ∈ t.heads, spineB all i = true
theorem DInv.advanceAll (hE : edgesOk all = true) {fr0 : Fr} {σ : AHeap} {ρ : List RB} {S : Nat → Prop} {a : Act} {kn : FK} : ∀ (t : DT) (pre : List Nat) (fr : Fr),
    DInv P C all pre fr0 fr σ ρ S a → dChkT C.N C.Lp all (befs all []) pre t = true → dCov all (befs all []) pre t.heads t = true → pdt P all kp t kn fr σ →
    ∃ pre' t' fr', DInv P C all pre' fr0 fr' σ ρ S a ∧ dChkT C.N C.Lp all (befs all []) pre' t' = true ∧ dCov all (befs all []) pre' t'.heads t' = true ∧ pdt P all kp t' kn fr' σ ∧ headsSpine all t'
  | .nil, pre, fr, h, hc, hv, hx => ⟨pre, .nil, fr, h, hc, hv, hx, fun i hi => by simp [DT.heads] at hi⟩
  | .alt x y, pre, fr, h, hc, hv, hx => by
    by_cases hh : headsSpine all (.alt x y)
    · exact ⟨pre, _, fr, h, hc, hv, hx, hh⟩
    · -- two heads at least are heads that write
      rw [dChkT, Bool.and_eq_true] at hc
      rw [dCov, Bool.and_eq_true] at hv
      by_cases hy : y.heads = []
      · -- one side is empty
        have hxh : (DT.alt x y).heads = x.heads := by simp [DT.heads, hy]
        rw [hxh] at hv
        exact DInv.advanceAll hE x pre fr h hc.1 hv.1 hx.1
      · by_cases hx0 : x.heads = []
        · have hyh : (DT.alt x y).heads = y.heads := by simp [DT.heads, hx0]
          rw [hyh] at hv
          exact DInv.advanceAll hE y pre fr h hc.2 hv.2 hx.2
        · exfalso
          refine hh ?_
          have hlen : (DT.heads (.alt x y)).length ≠ 1 := by
            intro this
            simp only [DT.heads, List.length_append] at this
            have h1 := List.length_pos_iff.2 hx0
            have h2 := List.length_pos_iff.2 hy
            omega
          have key : ∀ (t : DT) (H : List Nat), H.length ≠ 1 → dCov all (befs all []) pre H t = true → headsSpine all t := by
            intro t
            induction t with
            | nil => intro H _ _ i hi; simp [DT.heads] at hi
            | alt a b iha ihb =>
              intro H hH h i hi
              rw [dCov, Bool.and_eq_true] at h
              rcases List.mem_append.1 hi with hi | hi
              · exact iha H hH h.1 i hi
              · exact ihb H hH h.2 i hi
            | step j chk t ih =>
              intro H hH h i hi
              simp only [DT.heads, List.mem_cons, List.not_mem_nil, or_false] at hi
              subst hi
              rw [dCov, Bool.and_eq_true] at h
              cases hs : spineB all i with
              | true => rfl
              | false =>
                rw [hs] at h
                exact absurd (Nat.eq_of_beq_eq_true h.1) hH
          intro i hi
          rcases List.mem_append.1 hi with hi | hi
          · exact key x _ hlen hv.1 i hi
          · exact key y _ hlen hv.2 i hi
  | .step i chk t, pre, fr, h, hc, hv, hx => by
    have hc0 := hc
    rw [dChkT, Bool.and_eq_true] at hc
    obtain ⟨o, ho, _, _, _, _, _⟩ := dChk_inv hc.1
    cases hf : floatB o.op with
    | false => exact ⟨pre, _, fr, h, hc0, hv, hx, fun j hj => by
        simp only [DT.heads, List.mem_cons, List.not_mem_nil, or_false] at hj
        subst hj
        unfold spineB; rw [ho]; simp [hf]⟩
    | true =>
      rw [pdt_step] at hx
      obtain ⟨fr', h1, h2⟩ := h.advance hE hc.1 ho hf hx
      rw [dCov, Bool.and_eq_true] at hv
      exact DInv.advanceAll hE t (i :: pre) fr' h1 hc.2 hv.2 h2
theorem dPick {kn : FK} {fr : Fr} {σ : AHeap} {pre : List Nat} {i : Nat} : ∀ (t : DT) (H : List Nat), i ∈ t.heads → dChkT C.N C.Lp all (befs all []) pre t = true → dCov all (befs all []) pre H t = true → pdt P all kp t kn fr σ →
    ∃ chk t', dChk C.N C.Lp all (befs all []) pre [(i, chk)] = true ∧ dChkT C.N C.Lp all (befs all []) (i :: pre) t' = true ∧ dCov all (befs all []) (i :: pre) t'.heads t' = true ∧ pdops P all kp [(i, chk)] (pdt P all kp t' kn) fr σ
  | .nil, _, hi, _, _, _ => by simp [DT.heads] at hi
  | .alt x y, H, hi, hc, hv, hx => by
    rw [dChkT, Bool.and_eq_true] at hc
    rw [dCov, Bool.and_eq_true] at hv
    rcases List.mem_append.1 hi with hi | hi
    · exact dPick x H hi hc.1 hv.1 hx.1
    · exact dPick y H hi hc.2 hv.2 hx.2
  | .step j chk t, H, hi, hc, hv, hx => by
    simp only [DT.heads, List.mem_cons, List.not_mem_nil, or_false] at hi
    subst hi
    rw [dChkT, Bool.and_eq_true] at hc
    rw [dCov, Bool.and_eq_true] at hv
    exact ⟨chk, t, hc.1, hc.2, hv.2, hx⟩
theorem dCov_strict {b : List Nat} {pre : List Nat} : ∀ (t : DT) (H : List Nat), headsSpine all t → dCov all b pre H t = true → strictB all b pre H = true
  | .nil, _, _, hv => hv
  | .alt x y, H, hs, hv => by
    rw [dCov, Bool.and_eq_true] at hv
    exact dCov_strict x H (fun i hi => hs i (List.mem_append.2 (.inl hi))) hv.1
  | .step j chk t, H, hs, hv => by
    rw [dCov, Bool.and_eq_true] at hv
    rw [hs j (by simp [DT.heads])] at hv
    exact hv.1
theorem strictB_inv {b : List Nat} {pre H : List Nat} (h : strictB all b pre H = true) {j : Nat} (hj : j < all.length) : j ∈ pre ∨ ∃ s ∈ H, j = s ∨ isB b s j = true := by
  have := List.all_eq_true.1 h j (List.mem_range.2 hj)
  rw [Bool.or_eq_true, List.any_eq_true] at this
  rcases this with h | ⟨s, hs, h⟩
  · exact .inl (by simpa using h)
  · rw [Bool.or_eq_true] at h
    exact .inr ⟨s, hs, h.imp Nat.eq_of_beq_eq_true id⟩
theorem pdt_end {kn : FK} {fr : Fr} {σ : AHeap} : ∀ (t : DT), t.heads = [] → pdt P all kp t kn fr σ → kn fr σ
  | .nil, _, h => h
  | .alt x y, hh, h => pdt_end x (List.append_eq_nil_iff.1 hh).1 h.1
  | .step i chk t, hh, _ => by simp [DT.heads] at hh
end
end Go.Ax
namespace Go.Ax
open Go.RowKit
section
variable {P : Program} {B : Nat} {w0 : World} {C : Cx} {all : List Oper} {kp : WK}
def unl (n : Nat) (listed : Array Bool) : Nat := ((List.range n).filter fun i => !listed.getD i false).length
theorem getD_true_of_false {listed : Array Bool} {i : Nat} (hi : i < listed.size) : listed.getD i true = listed.getD i false := by
  simp [Array.getD_eq_getD_getElem?, hi]
theorem unl_lt {n : Nat} {listed : Array Bool} {i : Nat} (hn : listed.size = n) (hi : i < n) (hl : listed.getD i false = false) : unl n (listed.setIfInBounds i true) < unl n listed := by
  unfold unl
  have hsub : ∀ l : List Nat, l.Nodup → i ∈ l → (l.filter fun j => !(listed.setIfInBounds i true).getD j false).length < (l.filter fun j => !listed.getD j false).length := by
    intro l
    induction l with
    | nil => intro _ h; simp at h
    | cons x l ih =>
      intro hnd hm
      rw [List.nodup_cons] at hnd
      simp only [List.filter_cons]
      by_cases hx : x = i
      · subst hx
        have h1 : (listed.setIfInBounds x true).getD x false = true := by
          have hx' : x < listed.size := by omega
          simp [Array.getD_eq_getD_getElem?, hx']
        have hrest : (l.filter fun j => !(listed.setIfInBounds x true).getD j false) = l.filter fun j => !listed.getD j false := by
          apply List.filter_congr
          intro j hj
          have hne : x ≠ j := fun e => hnd.1 (e ▸ hj)
          rw [getD_set_ne false hne]
        rw [h1, hl, hrest]
        simp
      · have hm' : i ∈ l := by
          rcases List.mem_cons.1 hm with h | h
          · exact absurd h.symm hx
          · exact h
        have h1 : (listed.setIfInBounds i true).getD x false = listed.getD x false := getD_set_ne false (fun e => hx e.symm)
        rw [h1]
        have := ih hnd.2 hm'
        split
        · rw [List.length_cons, List.length_cons]; omega
        · exact this
  exact hsub _ List.nodup_range (List.mem_range.2 hi)
theorem dregEnd (hE : edgesOk all = true) {kn : FK} {Q : Exit → Act → World → Prop} {fr0 : Fr} {ρ0 : List RB} (hkn : KS B w0 C ρ0 kn (Q .normal))
    (listed : Array Bool) (a : Act) (w : World) (pre : List Nat) (t : DT) (fr : Fr) (σ : AHeap) (ρ : List RB)
    (hext : Ext ρ0 ρ) (h : DInv P C all pre fr0 fr σ ρ (fun i => listed.getD i false = true) a) (hr : Rel B w0 ρ σ w)
    (hc : dChkT C.N C.Lp all (befs all []) pre t = true) (hv : dCov all (befs all []) pre t.heads t = true)
    (hx : pdt P all kp t kn fr σ) (hall : ∀ i, i < all.length → listed.getD i false = true) : Q .normal a w := by
  have hnil : t.heads = [] := by
    cases hh : t.heads with
    | nil => rfl
    | cons s l =>
      obtain ⟨chk, t', hc1, _, _, _⟩ := dPick t t.heads (by rw [hh]; simp) hc hv hx (i := s)
      obtain ⟨os, hos, _, _, hpair, _, _⟩ := dChk_inv hc1
      have hlt := (List.getElem?_eq_some_iff.1 hos).1
      obtain ⟨ok2, _, hp2⟩ := hpair s (h.sub s (hall s hlt))
      exact absurd rfl (pairOk_inv hp2).1
  refine hkn ρ fr σ a w hext ⟨fun t => ?_, h.kp⟩ hr (pdt_end t hnil hx)
  by_cases hex : ∃ k ok, k ∈ pre ∧ all[k]? = some ok ∧ ok.dst = some t
  · obtain ⟨k, ok, hk, hok, hkt⟩ := hex
    exact h.f1 k ok t (hall k (List.getElem?_eq_some_iff.1 hok).1) hok hkt
  · rw [h.f3 t fun k ok hk hok hkt => hex ⟨k, ok, hk, hok, hkt⟩]
    exact h.f2 t fun k ok hk hok hkt => hex ⟨k, ok, h.sub k hk, hok, hkt⟩
theorem wpAny_dreg (hE : edgesOk all = true) {kn : FK} {Q : Exit → Act → World → Prop} {fr0 : Fr} {ρ0 : List RB} (hkn : KS B w0 C ρ0 kn (Q .normal)) (hkp : KP B w0 C ρ0 kp Q) :
    ∀ (fuel : Nat) (listed : Array Bool) (a : Act) (w : World) (pre : List Nat) (t : DT) (fr : Fr) (σ : AHeap) (ρ : List RB),
      listed.size = all.length → unl all.length listed ≤ fuel → Ext ρ0 ρ → DInv P C all pre fr0 fr σ ρ (fun i => listed.getD i false = true) a → Rel B w0 ρ σ w →
      dChkT C.N C.Lp all (befs all []) pre t = true → dCov all (befs all []) pre t.heads t = true → headsSpine all t →
      pdt P all kp t kn fr σ → wpAny P .any all.toArray Q fuel listed a w := by
  intro fuel
  induction fuel with
  | zero =>
    intro listed a w pre t fr σ ρ hls hu hext h hr hc hv hs hx
    refine ⟨?_, ?_⟩
    · cases hrd : Region.ready .any all.toArray listed with
      | nil => rfl
      | cons i l =>
        have hi : i ∈ Region.ready .any all.toArray listed := by rw [hrd]; simp
        obtain ⟨h1, o, ho, _⟩ := mem_ready.1 hi
        have hlt : i < all.length := by have := (Array.getElem?_eq_some_iff.1 ho).1; simpa using this
        have hm : i ∈ (List.range all.length).filter fun i => !listed.getD i false := by
          rw [List.mem_filter]
          refine ⟨List.mem_range.2 hlt, ?_⟩
          rw [← getD_true_of_false (by omega), h1]; rfl
        have := List.length_pos_of_mem hm
        unfold unl at hu
        omega
    · exact dregEnd hE hkn listed a w pre t fr σ ρ hext h hr hc hv hx (by
        intro i hi
        cases hb : listed.getD i false with
        | true => rfl
        | false =>
          have hm : i ∈ (List.range all.length).filter fun i => !listed.getD i false := by
            rw [List.mem_filter]
            exact ⟨List.mem_range.2 hi, by rw [hb]; rfl⟩
          have := List.length_pos_of_mem hm
          unfold unl at hu
          omega)
  | succ fuel ih =>
    intro listed a w pre t fr σ ρ hls hu hext h hr hc hv hs hx
    refine ⟨fun hnil => ?_, fun i hi => ?_⟩
    · refine dregEnd hE hkn listed a w pre t fr σ ρ hext h hr hc hv hx ?_
      have key : ∀ n i, i < n → i < all.length → listed.getD i false = true := by
        intro n
        induction n with
        | zero => intro i h; omega
        | succ n ihn =>
          intro i hin hi
          cases hb : listed.getD i false with
          | true => rfl
          | false =>
            have hoi : all[i]? = some all[i] := List.getElem?_eq_getElem hi
            have : i ∈ Region.ready .any all.toArray listed := by
              rw [mem_ready]
              refine ⟨by rw [getD_true_of_false (by omega), hb], all[i], by simp [hi], fun e he hbd => ?_⟩
              have hlt := (Bef.edge (all := all) i all[i] e hoi (by simpa using he) hbd).lt hE
              exact ihn e.on (by omega) (by omega)
            rw [hnil] at this
            simp at this
      exact fun i hi => key (i + 1) i (by omega) hi
    · obtain ⟨h1, o, ho, hedge⟩ := mem_ready.1 hi
      have ho' : all[i]? = some o := by simpa using ho
      have hlt : i < all.length := (List.getElem?_eq_some_iff.1 ho').1
      have hiF : listed.getD i false = false := by rw [← getD_true_of_false (by omega)]; exact h1
      have hiS : ¬ listed.getD i false = true := by rw [hiF]; simp
      have hready : ∀ e ∈ o.after.toList, Region.binds .any e = true → listed.getD e.on false = true := fun e he hb => hedge e (by simpa using he) hb
      have hS' : ∀ j, (listed.setIfInBounds i true).getD j false = true ↔ (j = i ∨ listed.getD j false = true) := by
        intro j
        by_cases hj : j = i
        · subst hj
          have : j < listed.size := by omega
          simp [Array.getD_eq_getD_getElem?, this]
        · rw [getD_set_ne false (fun e => hj e.symm)]
          simp [hj]
      have hSeq : (fun j => (listed.setIfInBounds i true).getD j false = true) = fun j => j = i ∨ listed.getD j false = true := by
        funext j; exact propext (hS' j)
      have hls' : (listed.setIfInBounds i true).size = all.length := by simpa using hls
      have hu' : unl all.length (listed.setIfInBounds i true) ≤ fuel := by
        have := unl_lt hls hlt hiF
        omega
      rcases strictB_inv (dCov_strict t t.heads hs hv) hlt with hpre | ⟨s, hsh, hsi⟩
      · refine h.floatStep (hkp.mono hext) hr hpre hiS ho' hready fun ρ' a' w' hd he hr' => ?_
        exact ih _ a' w' pre t fr σ ρ' hls' hu' (hext.trans he) (by rw [hSeq]; exact hd) hr' hc hv hs hx
      · obtain ⟨chk, t', hc1, hc2, hv2, hx2⟩ := dPick t t.heads hsh hc hv hx
        have hsi : s = i := by
          rcases hsi with rfl | hb
          · rfl
          · have := (isB_sound hb).closed h.closed fun o'' ho'' => by rw [ho'] at ho''; cases ho''; exact hready
            have hsp := h.sub s this
            obtain ⟨_, _, _, _, hpair, _, _⟩ := dChk_inv hc1
            obtain ⟨ok2, _, hp2⟩ := hpair s hsp
            exact absurd rfl (pairOk_inv hp2).1
        subst hsi
        obtain ⟨os, hos, hfs⟩ := spineB_of (hs s hsh)
        rw [ho'] at hos; cases hos
        refine h.spineStep hE (hkp.mono hext) hr hc1 ho' hfs hready hx2 fun ρ' fr' σ' a' w' hd he hr' hx' => ?_
        obtain ⟨pre', t2, fr2, e1, e2, e3, e4, e5⟩ := DInv.advanceAll hE t' (s :: pre) fr' hd hc2 hv2 hx'
        exact ih _ a' w' pre' t2 fr2 σ' ρ' hls' hu' (hext.trans he) (by rw [hSeq]; exact e1) hr' e2 e3 e5 e4
theorem dtree_sound (hm : P.follows .mixedOrders = true) {t : DT} (hd : dtOk C.N C.Lp all t = true) {kn : FK} {Q : Exit → Act → World → Prop} 
    {ρ : List RB} {fr : Fr} {σ : AHeap} {a : Act} {w : World} (id : Nat) (hkn : KS B w0 C ρ kn (Q .normal)) (hkp : KP B w0 C ρ kp Q) (hf : FR C ρ fr a) (h : Rel B w0 ρ σ w)
    (hx : pdt P all kp t kn fr σ) : (Code.region id all.toArray true).wp P Q a w := by
  unfold dtOk at hd
  simp only [Bool.and_eq_true] at hd
  obtain ⟨⟨hE, hc⟩, hcov⟩ := hd
  have h0 : DInv P C all [] fr fr σ ρ (fun i => (Array.replicate all.length false).getD i false = true) a := by
    have hno : ∀ i, ¬ (Array.replicate all.length false).getD i false = true := by
      intro i
      simp only [Array.getD_eq_getD_getElem?, Array.getElem?_replicate]
      split <;> simp
    refine ⟨fun i hi => absurd hi (hno i), fun i o hi => by simp at hi, fun i o _ hi => absurd hi (hno i), fun k ok t hk => absurd hk (hno k), fun t _ => hf.val t, fun _ _ => rfl, fun k _ _ _ _ hk => by simp at hk, fun k _ _ _ _ hk => by simp at hk,
      hf.kp, fun k _ _ hk => by simp at hk, fun k _ hk => by simp at hk, fun k hk => by simp at hk, fun q _ hq => by simp at hq⟩
  obtain ⟨pre', t', fr2, e1, e2, e3, e4, e5⟩ := DInv.advanceAll hE t [] fr h0 hc hcov hx
  refine wp_region_any hm ?_
  have hsz : all.toArray.size = all.length := by simp
  rw [hsz]
  refine wpAny_dreg hE hkn hkp all.length _ a _ pre' t' fr2 σ ρ (by simp) ?_ (Ext.refl _) e1 h.drew e2 e3 e5 e4
  · unfold unl
    have := List.length_filter_le (fun i => !(Array.replicate all.length false).getD i false) (List.range all.length)
    simpa using this
theorem dregion_sound (hm : P.follows .mixedOrders = true) {ord : List (Nat × List Nat)} (hd : dOk C.N C.Lp all ord = true) {kn : FK} {Q : Exit → Act → World → Prop} 
    {ρ : List RB} {fr : Fr} {σ : AHeap} {a : Act} {w : World} (id : Nat) (hkn : KS B w0 C ρ kn (Q .normal)) (hkp : KP B w0 C ρ kp Q) (hf : FR C ρ fr a) (h : Rel B w0 ρ σ w)
    (hx : pdops P all kp ord kn fr σ) : (Code.region id all.toArray true).wp P Q a w := by
  rw [pdops_tree] at hx
  exact dtree_sound hm hd id hkn hkp hf h hx
end
end Go.Ax
namespace Go.Ax
open Go.RowKit
def AC.wf (N : Nat) (Lp : List Nat) : AC → Bool
  | .skip | .exit _ | .ret => true
  | .region _ ops => ops.all (dstOk N Lp)
  | .dregion _ ops ord => dOk N Lp ops ord
  | .dtree _ ops t => dtOk N Lp ops t
  | .other _ => false
  | .seq a b => a.wf N Lp && b.wf N Lp
  | .cond _ a b => a.wf N Lp && b.wf N Lp
  | .block _ b | .join _ b => b.wf N Lp
  | .loop R _ _ b => b.wf N (Lp ++ R)
section
variable {P : Program} {B : Nat} {w0 : World} {C : Cx}
theorem wpc_sound (hm : P.follows .mixedOrders = true) {kp : WK} : ∀ (c : AC) {C : Cx}, c.wf C.N C.Lp = true → ∀ (kn : FK) (ke : Nat → FK) (kr : FK) (Q : Exit → Act → World → Prop) ρ fr σ a w,
    KS B w0 C ρ kn (Q .normal) → (∀ i, KS B w0 C ρ (ke i) (Q (.exit i))) → KS B w0 C ρ kr (Q .ret) → KP B w0 C ρ kp Q →
    FR C ρ fr a → Rel B w0 ρ σ w → wpc P (Ev P) kp c kn ke kr fr σ → c.erase.wp P Q a w := by
  intro c
  induction c with
  | skip =>
    intro C _ kn ke kr Q ρ fr σ a w hn he hr hp hf h hx
    exact wp_skip (hn ρ fr σ a w (Ext.refl _) hf h hx)
  | region id ops =>
    intro C hwf kn ke kr Q ρ fr σ a w hn he hr hp hf h hx
    refine wp_region ?_
    have := wops_sound (all := ops) ops 0 none rfl (fun o ho => List.all_eq_true.1 hwf o ho) ρ fr σ a w hn hp hf h trivial hx
    simpa [List.range_eq_range'] using this
  | dregion id ops ord =>
    intro C hwf kn ke kr Q ρ fr σ a w hn he hr hp hf h hx
    exact dregion_sound hm hwf id hn hp hf h (wdops_p (fun _ _ h => h) ord none fr σ trivial hx)
  | dtree id ops t =>
    intro C hwf kn ke kr Q ρ fr σ a w hn he hr hp hf h hx
    exact dtree_sound hm hwf id hn hp hf h (wdt_p (fun _ _ h => h) t none fr σ trivial hx)
  | other c => intro C hwf; cases hwf
  | seq x y ihx ihy =>
    intro C hwf kn ke kr Q ρ fr σ a w hn he hr hp hf h hx
    rw [AC.wf, Bool.and_eq_true] at hwf
    refine wp_seq (ihx hwf.1 (wpc P (Ev P) kp y kn ke kr) ke kr (Exit.then (y.erase.wp P Q) Q) ρ fr σ a w ?_ he hr hp hf h hx)
    intro ρ2 fr2 σ2 a2 w2 e2 hf2 h2 hx2
    exact ihy hwf.2 kn ke kr Q ρ2 fr2 σ2 a2 w2 (hn.mono e2) (fun i => (he i).mono e2) (hr.mono e2) (hp.mono e2) hf2 h2 hx2
  | cond c x y ihx ihy =>
    intro C hwf kn ke kr Q ρ fr σ a w hn he hr hp hf h hx
    rw [AC.wf, Bool.and_eq_true] at hwf
    simp only [wpc, wC] at hx
    split at hx
    · rename_i hb
      exact wp_cond_true ((hf.ev c).asB hb) (ihx hwf.1 kn ke kr Q ρ fr σ a w hn he hr hp hf h hx)
    · rename_i hb
      exact wp_cond_false ((hf.ev c).asB hb) (ihy hwf.2 kn ke kr Q ρ fr σ a w hn he hr hp hf h hx)
    · exact hx.elim
  | block id b ih =>
    intro C hwf kn ke kr Q ρ fr σ a w hn he hr hp hf h hx
    refine wp_block (ih hwf kn _ kr (Exit.inBlock id Q) ρ fr σ a w hn ?_ hr hp hf h hx)
    intro i ρ2 fr2 σ2 a2 w2 e2 hf2 h2 hx2
    simp only [Exit.inBlock]
    split
    · rename_i e
      subst e
      simp only [Nat.beq_eq_true_eq, Nat.beq_refl, cond_true] at hx2
      exact hn ρ2 fr2 σ2 a2 w2 e2 hf2 h2 hx2
    · rename_i e
      have : Nat.beq i id = false := by
        cases hb : Nat.beq i id with
        | false => rfl
        | true => exact absurd (Nat.eq_of_beq_eq_true hb) e
      rw [this] at hx2
      exact he i ρ2 fr2 σ2 a2 w2 e2 hf2 h2 hx2
  | loop R L Lx b ih =>
    intro C hwf kn ke kr Q ρ fr σ a w hn he hr hp hf h hx
    simp only [wpc] at hx
    obtain ⟨I, ⟨m0, h0⟩, hI⟩ := hx
    let C' : Cx := ⟨C.N, C.D, C.Lp ++ R, fun t => a.tmps.getD t undef⟩
    have hweak : ∀ {a2 : Act}, Keep C' a2 → Keep C a2 := fun k => ⟨k.defers, k.size, fun t ht => by
      rw [k.keep t (List.mem_append_left _ ht)]; exact hf.kp.keep t ht⟩
    have hfw : ∀ {ρ2 : List RB} {fr2 : Fr} {a2 : Act}, FR C' ρ2 fr2 a2 → FR C ρ2 fr2 a2 := fun k => ⟨k.val, hweak k.kp⟩
    have hmk : ∀ {ρ2 : List RB} {fr2 : Fr} {a2 : Act}, Ext ρ ρ2 → FR C' ρ2 fr2 a2 → FR C' ρ2 (fadd R fr (fmake L (fpick L fr2))) a2 := fun {ρ2 fr2 a2} e k => by
      refine ⟨fun t => ?_, k.kp⟩
      rw [fget_fadd]
      split
      · rename_i ht
        rw [k.kp.keep t (List.mem_append_right _ ht)]
        exact (hf.val t).mono e
      · exact (k.make L).val t
    have hf' : FR C' ρ fr a := ⟨hf.val, hf.kp.defers, hf.kp.size, fun t _ => rfl⟩
    have key : ∀ n m ρ2 fr2 σ2 a2 w2, m < n → Ext ρ ρ2 → FR C' ρ2 fr2 a2 → Rel B w0 ρ2 σ2 w2 → Cur.at L (I m) (fpick L fr2) σ2 → Code.rounds P b.erase Q n a2 w2 := by
      intro n
      induction n with
      | zero => intro m ρ2 fr2 σ2 a2 w2 hlt; omega
      | succ n ihn =>
        intro m ρ2 fr2 σ2 a2 w2 hlt e2 hf2 h2 hx2
        rw [rounds_succ]
        have hb := AllC.at L _ (hI m) (fpick L fr2) (Cur.at_len _ _ _ _ hx2) σ2 hx2
        refine ih (C := C') hwf _ _ _ (Exit.then (Code.rounds P b.erase Q n) Q) ρ2 _ σ2 a2 w2 ?_ ?_ ?_ (fun ρ3 v v' σ3 a3 w3 e3 k => hp ρ3 v v' σ3 a3 w3 (e2.trans e3) (hweak k)) (hmk e2 hf2) h2 hb
        · intro ρ3 fr3 σ3 a3 w3 e3 hf3 h3 ⟨m', hm', hx3⟩
          exact ihn m' ρ3 fr3 σ3 a3 w3 (by omega) (e2.trans e3) hf3 h3 hx3
        · intro i ρ3 fr3 σ3 a3 w3 e3 hf3 h3 hx3
          exact he i ρ3 _ σ3 a3 w3 (e2.trans e3) ((hfw hf3).make Lx) h3 hx3
        · intro ρ3 fr3 σ3 a3 w3 e3 hf3 h3 hx3
          exact hr ρ3 _ σ3 a3 w3 (e2.trans e3) ((hfw hf3).make Lx) h3 hx3
    exact wp_loop_rounds (m0 + 1) (key (m0 + 1) m0 ρ fr σ a w (by omega) (Ext.refl _) hf' h h0)
  | exit id =>
    intro C _ kn ke kr Q ρ fr σ a w hn he hr hp hf h hx
    exact wp_exit (he id ρ fr σ a w (Ext.refl _) hf h hx)
  | ret =>
    intro C _ kn ke kr Q ρ fr σ a w hn he hr hp hf h hx
    exact wp_ret (hr ρ fr σ a w (Ext.refl _) hf h hx)
  | join L b ih =>
    intro C hwf kn ke kr Q ρ fr σ a w hn he hr hp hf h hx
    simp only [wpc] at hx
    refine ih hwf _ _ _ Q ρ fr σ a w ?_ ?_ ?_ hp hf h hx
    · intro ρ2 fr2 σ2 a2 w2 e2 hf2 h2 hx2
      exact hn ρ2 _ σ2 a2 w2 e2 (hf2.make L) h2 hx2
    · intro i ρ2 fr2 σ2 a2 w2 e2 hf2 h2 hx2
      exact he i ρ2 _ σ2 a2 w2 e2 (hf2.make L) h2 hx2
    · intro ρ2 fr2 σ2 a2 w2 e2 hf2 h2 hx2
      exact hr ρ2 _ σ2 a2 w2 e2 (hf2.make L) h2 hx2
def resF (tmps : Array Value) : ResultVar → Sem Value
  | .tmp t => pure (tmps.getD t undef)
  | .cell a t => do loadVar t (← asAddr (tmps.getD a undef))
theorem results_eq (fn : Func) (tmps : Array Value) : results fn tmps = (do
    let vs ← fn.results.mapM (resF tmps)
    pure (if h : vs.size = 1 then vs[0] else .tuple vs)) := by
  rfl
theorem wRes_sound {res : List ResultVar} {ρ : List RB} {σ : AHeap} {w : World} {fr : Fr} {tmps : Array Value} (h : Rel B w0 ρ σ w) (hf : ∀ x ∈ res, match x with | .tmp t => VR ρ (fget fr t) (tmps.getD t undef) | .cell a _ => VR ρ (fget fr a) (tmps.getD a undef)) {k : List Value → Prop} (hx : wRes P res fr σ k) :
    ∃ l l', LR ρ l l' ∧ (res.mapM (resF tmps)).run P w = .ok l' w ∧ k l := by
  induction res generalizing k with
  | nil => exact ⟨[], [], LR.nil _, by simp, hx⟩
  | cons r res ih =>
    cases r with
    | tmp t =>
      obtain ⟨l, l', h1, h2, h3⟩ := ih (fun x hm => hf x (by simp [hm])) hx
      refine ⟨_, _ :: l', LR.cons (hf (.tmp t) (by simp)) h1, ?_, h3⟩
      simp only [List.mapM_cons, Sem.run_bind, h2, resF, Sem.run_pure, Result.andThen_ok]
    | cell x t =>
      simp only [wRes] at hx
      split at hx
      · rename_i g m hg
        obtain ⟨v, hv, hx⟩ := hx
        obtain ⟨l, l', h1, h2, h3⟩ := ih (fun x hm => hf x (by simp [hm])) hx
        have hfx := hf (.cell x t) (by simp)
        simp only at hfx
        obtain ⟨v', e1, e2⟩ := aLoad_sound h hg hfx hv
        have hp : ∃ ad, tmps.getD x undef = .pointer (some ad) := by
          unfold aLoad at hv
          split at hv
          · rename_i ad hfx2
            rw [hfx2] at hfx
            obtain ⟨a', ha, _⟩ := hfx.ptr_inv
            exact ⟨a', ha⟩
          · cases hv
        obtain ⟨ad, had⟩ := hp
        rw [had] at e1
        simp only [Instr.loadAt, Instr.sureAddr, pure_bind] at e1
        refine ⟨_, v' :: l', LR.cons e2 h1, ?_, h3⟩
        simp only [List.mapM_cons, Sem.run_bind, h2, resF, had, asAddr, Sem.run_pure, Result.andThen_ok, e1]
      · exact hx.elim
theorem ret_sound {fn : Func} {res : List ResultVar} {Q : RK} {ρ : List RB} {fr : Fr} {σ : AHeap} {tmps : Array Value} {w : World} (hres : fn.results.toList = res) (h : Rel B w0 ρ σ w)
    (hf : ∀ x ∈ res, match x with | .tmp t => VR ρ (fget fr t) (tmps.getD t undef) | .cell a _ => VR ρ (fget fr a) (tmps.getD a undef)) (hx : wret P res Q fr σ) :
    ∃ v, (results fn tmps).run P w = .ok v w ∧ ∃ r, Q r σ ∧ ResR ρ r (.returned v) := by
  obtain ⟨l, l', h1, h2, h3⟩ := wRes_sound h hf hx
  have hrun : (results fn tmps).run P w = .ok (if hh : l'.toArray.size = 1 then l'.toArray[0] else .tuple l'.toArray) w := by
    rw [results_eq, Array.mapM_eq_mapM_toList, hres]
    simp only [bind_map_left, Sem.run_bind]
    rw [h2]
    rfl
  refine ⟨_, hrun, _, h3, ?_⟩
  rcases l with _ | ⟨v, _ | ⟨v2, vs⟩⟩
  · rw [h1.nil_inv]
    exact ⟨_, rfl, VR.tuple' (by simpa using LR.nil ρ)⟩
  · obtain ⟨v', l2, rfl, hvv, hnil⟩ := h1.cons_inv
    rw [hnil.nil_inv]
    exact ⟨_, rfl, hvv⟩
  · have hne : ¬ l'.toArray.size = 1 := by
      intro e1
      have e1 : l'.length = 1 := by simpa using e1
      rw [← h1.1] at e1
      simp at e1
    rw [dif_neg hne]
    exact ⟨_, rfl, VR.tuple' (by simpa using h1)⟩
theorem fmake_range (params : Nat) (vs : List Value) (h : vs.length = params) (t : Nat) : ∀ k, fget (fmake (List.range' k params) vs) t = if k ≤ t then vs.getD (t - k) undef else undef := by
  subst h
  induction vs with
  | nil => intro k; simp [fmake, fget_leaf]
  | cons v vs ih =>
    intro k
    simp only [List.length_cons, List.range'_succ, fmake, fget_set, ih (k + 1)]
    by_cases h1 : t = k
    · subst h1; simp
    · rw [if_neg h1]
      by_cases h2 : k ≤ t
      · rw [if_pos (by omega), if_pos h2]
        obtain ⟨d, rfl⟩ : ∃ d, t = k + 1 + d := ⟨t - (k + 1), by omega⟩
        rw [show k + 1 + d - (k + 1) = d by omega, show k + 1 + d - k = d + 1 by omega]
        rfl
      · rw [if_neg h2, if_neg (by omega)]
theorem FR.start {ρ : List RB} {n params : Nat} {args args' : List Value} (ha : LR ρ args args') (hlen : args.length = params) (hp : params ≤ n) :
    FR ⟨n, [], [], fun _ => undef⟩ ρ (fmake (List.range params) args) { tmps := args'.toArray ++ Array.replicate (n - args'.toArray.size) undef, defers := [] } := by
  refine ⟨fun t => ?_, rfl, ?_, fun t ht => by simp at ht⟩
  · rw [List.range_eq_range', fmake_range _ _ hlen t 0, if_pos (Nat.zero_le _)]
    simp only [Nat.sub_zero, Array.getD_eq_getD_getElem?, Array.getElem?_append, List.size_toArray]
    split
    · rename_i hlt
      have hlt2 : t < args.length := by rw [ha.1]; exact hlt
      have := ha.2 t _ _ (List.getElem?_eq_getElem hlt2) (List.getElem?_eq_getElem hlt)
      simpa [List.getD, hlt2, hlt] using this
    · rename_i hge
      have : args.getD t undef = undef := by simp [List.getD, List.getElem?_eq_none (show args.length ≤ t by rw [ha.1]; omega)]
      rw [this]; exact .dead _
  · have := ha.1
    simp; omega
structure FnOk (P : Program) (f : FuncId) (af : AFun) (fn : Func) : Prop where
  at' : P.funcs[f]? = some fn
  body : fn.body = some af.body.erase
  n : fn.ntmps = af.n
  res : fn.results.toList = af.res
  wf : af.body.wf af.n [] = true
  par : af.params ≤ af.n
  name : (fn.name == "runtime.NumGoroutine") = false
def FOk (P : Program) (F : FuncId → Option AFun) : Prop := ∀ f af, F f = some af → ∃ fn, FnOk P f af fn
theorem Ev.of (hm : P.follows .mixedOrders = true) {F : FuncId → Option AFun} (hF : FOk P F) {f : FuncId} {args : List Value} {σ : AHeap} {Q : RK} (h : wfun P (Ev P) F f args σ Q) : Ev P f args σ Q := by
  unfold wfun at h
  split at h
  · rename_i af hf
    obtain ⟨fn, k⟩ := hF f af hf
    cases hlen : Nat.beq args.length af.params with
    | false => rw [hlen] at h; exact h.elim
    | true =>
      rw [hlen] at h
      simp only [cond_true] at h
      have hlen := Nat.eq_of_beq_eq_true hlen
      intro B w0 ρ w args' hr ha
      refine ⟨fn, k.at', k.name, .inl ⟨by simp [k.body], ?_⟩⟩
      refine calls_of_wp_defers k.at' k.body ?_
      have hstart := FR.start ha hlen k.par
      rw [← k.n] at hstart
      have hend : ∀ (ρ2 : List RB) (fr2 : Fr) (σ2 : AHeap) (a2 : Act) (w2 : World), Ext ρ ρ2 → FR ⟨fn.ntmps, [], [], fun _ => undef⟩ ρ2 fr2 a2 → Rel B w0 ρ2 σ2 w2 → wret P af.res Q fr2 σ2 →
          Leaves P fn a2.tmps (fun e w' => ∃ r ρ' σ', Q r σ' ∧ ResR ρ' r e ∧ Ext ρ ρ' ∧ Rel B w0 ρ' σ' w') a2.defers .returning w2 := by
        intro ρ2 fr2 σ2 a2 w2 e2 hf2 h2 hx2
        have hd : a2.defers = [] := hf2.kp.defers
        rw [hd]
        obtain ⟨v, h3, r, h4, h5⟩ := ret_sound k.res h2 (fun x _ => by cases x <;> exact hf2.val _) hx2
        exact ⟨v, h3, r, ρ2, σ2, h4, h5, e2, h2⟩
      refine wpc_sound (C := ⟨fn.ntmps, [], [], fun _ => undef⟩) hm af.body (by rw [k.n]; exact k.wf) _ _ _ _ ρ _ σ _ w hend (fun i ρ2 fr2 σ2 a2 w2 _ _ _ hx2 => hx2.elim) hend ?_ hstart hr h
      intro ρ2 v v' σ2 a2 w2 e2 hk h2 hv hx2
      have hd : a2.defers = [] := hk.defers
      show Leaves P fn a2.tmps _ a2.defers _ w2
      rw [hd]
      exact ⟨.pan v, ρ2, σ2, hx2, ⟨v', rfl, hv⟩, e2, h2⟩
  · exact h.elim
end
end Go.Ax
namespace Go.Ax
open Go.RowKit
structure NoBody (P : Program) (g : FuncId) (e : Array Value → Sem Value) : Prop where
  fn : ∃ fn, P.funcs[g]? = some fn ∧ (fn.name == "runtime.NumGoroutine") = false ∧ fn.body.isNone = true ∧ Extern.findNext fn = none ∧ Extern.find fn = some e
theorem Rel.empty (w : World) : Rel w.heap.size w [] ⟨0, .leaf⟩ w :=
  ⟨rfl, fun i o h => by simp [AHeap.get, Tr.get_leaf] at h, fun i j oi oj ri rj h => by simp [AHeap.get, Tr.get_leaf] at h, Below.refl _ _, Nat.le_refl _⟩
end Go.Ax
namespace Go.Ax
open Go.RowKit
inductive Hint where
  | loop (L Lx : List Nat)
  | loopr (R L Lx Lj : List Nat)
  | loopj (L Lx Lj : List Nat)
  | ord (l : List (Nat × List Nat))
  | tree (t : DT)
  | join (L : List Nat)
def withJoin (h : Option Hint) (c : AC) : AC :=
  match h with
  | some (.join L) => .join L c
  | _ => c
def toAC (h : Nat → Option Hint) : Code → Nat → AC × Nat
  | .skip, k => (.skip, k)
  | .region id ops false, k => (.region id ops.toList, k)
  | .region id ops true, k => match h k with
    | some (.ord l) => (.dregion id ops.toList l, k + 1)
    | some (.tree t) => (.dtree id ops.toList t, k + 1)
    | _ => (.dregion id ops.toList [], k + 1)
  | .seq a b, k => (.seq (toAC h a k).1 (toAC h b (toAC h a k).2).1, (toAC h b (toAC h a k).2).2)
  | .cond c a b, k => (withJoin (h k) (.cond c (toAC h a (k + 1)).1 (toAC h b (toAC h a (k + 1)).2).1), (toAC h b (toAC h a (k + 1)).2).2)
  | .block id b, k => (withJoin (h k) (.block id (toAC h b (k + 1)).1), (toAC h b (k + 1)).2)
  | .loop b, k => match h k with
    | some (.loop L Lx) => (.loop [] L Lx (toAC h b (k + 1)).1, (toAC h b (k + 1)).2)
    | some (.loopj L Lx Lj) => (.loop [] L Lx (.join Lj (toAC h b (k + 1)).1), (toAC h b (k + 1)).2)
    | some (.loopr R L Lx Lj) => (.loop R L Lx (.join Lj (toAC h b (k + 1)).1), (toAC h b (k + 1)).2)
    | _ => (.loop [] [] [] (toAC h b (k + 1)).1, (toAC h b (k + 1)).2)
  | .exit i, k => (.exit i, k)
  | .ret, k => (.ret, k)
  | c, k => (.other c, k)
theorem erase_withJoin (h : Option Hint) (c : AC) : (withJoin h c).erase = c.erase := by
  unfold withJoin; split <;> rfl
theorem erase_toAC (h : Nat → Option Hint) : ∀ (c : Code) (k : Nat), (toAC h c k).1.erase = c := by
  intro c
  induction c with
  | region id ops d =>
    intro k
    cases d with
    | false => simp [toAC, AC.erase]
    | true =>
      simp only [toAC]
      split <;> simp [AC.erase]
  | seq a b iha ihb => intro k; simp only [toAC, AC.erase, iha, ihb]
  | cond c a b iha ihb => intro k; simp only [toAC, erase_withJoin, AC.erase, iha, ihb]
  | block id b ih => intro k; simp only [toAC, erase_withJoin, AC.erase, ih]
  | loop b ih =>
    intro k
    simp only [toAC]
    split <;> simp [AC.erase, ih]
  | _ => intro k; rfl
def wfn (P : Program) (E : EvT) (fn : Func) (h : Nat → Option Hint) (args : List Value) (σ : AHeap) (Q : RK) : Prop :=
  cond (Nat.beq args.length (fn.params.size + fn.nfree)) (wpc P E (fun v σ => Q (.pan v) σ) (toAC h (fn.body.getD .skip) 0).1 (wret P fn.results.toList Q) (fun _ _ _ => False) (wret P fn.results.toList Q) (fmake (List.range (fn.params.size + fn.nfree)) args) σ) False
def fnChk (fn : Func) (h : Nat → Option Hint) : Bool :=
  fn.body.isSome && (toAC h (fn.body.getD .skip) 0).1.wf fn.ntmps [] && Nat.ble (fn.params.size + fn.nfree) fn.ntmps && !(fn.name == "runtime.NumGoroutine")
theorem Ev.fn {P : Program} (hm : P.follows .mixedOrders = true) {f : FuncId} {fn : Func} (hf : P.funcs[f]? = some fn) (h : Nat → Option Hint) (hc : fnChk fn h = true) {args : List Value} {σ : AHeap} {Q : RK} (hx : wfn P (Ev P) fn h args σ Q) : Ev P f args σ Q := by
  unfold fnChk at hc
  simp only [Bool.and_eq_true, Bool.not_eq_true'] at hc
  obtain ⟨⟨⟨h1, h2⟩, h3⟩, h4⟩ := hc
  obtain ⟨c, hcb⟩ := Option.isSome_iff_exists.1 h1
  rw [hcb] at h2
  simp only [Option.getD_some] at h2
  let af : AFun := { n := fn.ntmps, params := fn.params.size + fn.nfree, res := fn.results.toList, body := (toAC h c 0).1 }
  have hok : FnOk P f af fn := ⟨hf, by rw [hcb]; simp [af, erase_toAC], rfl, rfl, h2, Nat.le_of_ble_eq_true h3, h4⟩
  refine Ev.of hm (F := fun g => if g = f then some af else none) (fun g ag hg => ?_) ?_
  · by_cases e : g = f
    · subst e; simp at hg; subst hg; exact ⟨fn, hok⟩
    · simp [e] at hg
  · unfold wfun
    simp only [if_true]
    unfold wfn at hx
    rw [hcb] at hx
    exact hx
end Go.Ax
namespace Go.Ax
open Go.RowKit
inductive VT where
  | i (k : IntKind)
  | b
  | s
  | v
def tI (k : IntKind) (K : Int → Prop) (v : Value) : Prop :=
  match v with
  | .int j n => cond (decide (j = k)) (K n) False
  | _ => False
def tB (K : Bool → Prop) (v : Value) : Prop :=
  match v with
  | .bool b => K b
  | _ => False
def tS (K : ByteArray → Prop) (v : Value) : Prop :=
  match v with
  | .string s => K s
  | _ => False
def ty : VT → (Value → Prop) → Value → Prop
  | .i k, K => tI k fun n => K (.int k n)
  | .b, K => tB fun b => K (.bool b)
  | .s, K => tS fun s => K (.string s)
  | .v, K => K
def om (o : Option Value) (K : Value → Prop) : Prop :=
  match o with
  | some v => K v
  | none => False
def omT (t : VT) (o : Option Value) (K : Value → Prop) : Prop := om o (ty t K)
theorem ty_imp {t : VT} {K : Value → Prop} {v : Value} (h : ty t K v) : K v := by
  cases t with
  | i k =>
    simp only [ty, tI] at h
    split at h
    · rename_i j n
      cases hk : decide (j = k) with
      | true => rw [hk] at h; have := of_decide_eq_true hk; subst this; exact h
      | false => rw [hk] at h; exact h.elim
    · exact h.elim
  | b => simp only [ty, tB] at h; split at h <;> first | exact h | exact h.elim
  | s => simp only [ty, tS] at h; split at h <;> first | exact h | exact h.elim
  | v => exact h
theorem ty_mono {t : VT} {K K' : Value → Prop} (hk : ∀ v, K v → K' v) {v : Value} (h : ty t K v) : ty t K' v := by
  cases t with
  | i k =>
    simp only [ty, tI] at h ⊢
    split at h
    · rename_i j n
      cases hd : decide (j = k) with
      | true => rw [hd] at h; exact hk _ h
      | false => rw [hd] at h; exact h.elim
    · exact h.elim
  | b =>
    simp only [ty, tB] at h ⊢
    split at h
    · exact hk _ h
    · exact h.elim
  | s =>
    simp only [ty, tS] at h ⊢
    split at h
    · exact hk _ h
    · exact h.elim
  | v => exact hk _ h
theorem om_pu {o : Option Value} {K K' : Value → Prop} (hk : ∀ v, K v → K' v) (h : om o K) : pu o K' := by
  unfold om at h
  split at h
  · exact ⟨_, rfl, hk _ h⟩
  · exact h.elim
theorem omT_pu {t : VT} {o : Option Value} {K K' : Value → Prop} (hk : ∀ v, K v → K' v) (h : omT t o K) : pu o K' := om_pu (fun v h => hk v (ty_imp h)) h
def r0 (K : AHeap → Prop) : WK := fun v σ =>
  match v with
  | .tuple a => match a.toList with
    | [] => K σ
    | _ => False
  | _ => False
def r2 (K : Value → Value → AHeap → Prop) : WK := fun v σ =>
  match v with
  | .tuple a => match a.toList with
    | [x, y] => K x y σ
    | _ => False
  | _ => False
def r3 (K : Value → Value → Value → AHeap → Prop) : WK := fun v σ =>
  match v with
  | .tuple a => match a.toList with
    | [x, y, z] => K x y z σ
    | _ => False
  | _ => False
def r4 (K : Value → Value → Value → Value → AHeap → Prop) : WK := fun v σ =>
  match v with
  | .tuple a => match a.toList with
    | [x, y, z, u] => K x y z u σ
    | _ => False
  | _ => False
def rt : List VT → WK → WK
  | [], K => r0 fun σ => K (.tuple #[]) σ
  | [t], K => fun v σ => ty t (fun v => K v σ) v
  | [t, u], K => r2 fun x y σ => ty t (fun x => ty u (fun y => K (.tuple #[x, y]) σ) y) x
  | [t, u, s3], K => r3 fun x y z σ => ty t (fun x => ty u (fun y => ty s3 (fun z => K (.tuple #[x, y, z]) σ) z) y) x
  | [t, u, s3, q], K => r4 fun x y z w σ => ty t (fun x => ty u (fun y => ty s3 (fun z => ty q (fun w => K (.tuple #[x, y, z, w]) σ) w) z) y) x
  | _, _ => fun _ _ => False
theorem arr_of {a : Array Value} {l : List Value} (h : a.toList = l) : a = l.toArray := by rw [← h]
theorem rt_imp : ∀ {l : List VT} {K : WK} {v : Value} {σ : AHeap}, rt l K v σ → K v σ
  | [], K, v, σ, h => by
    simp only [rt, r0] at h
    split at h
    · split at h
      · rename_i a ha; rw [arr_of ha]; exact h
      · exact h.elim
    · exact h.elim
  | [t], K, v, σ, h => ty_imp (K := fun v => K v σ) h
  | [t, u], K, v, σ, h => by
    simp only [rt, r2] at h
    split at h
    · split at h
      · rename_i a x y ha; rw [arr_of ha]; exact ty_imp (K := fun y => K (.tuple #[x, y]) σ) (ty_imp (K := fun x => ty u (fun y => K (.tuple #[x, y]) σ) y) h)
      · exact h.elim
    · exact h.elim
  | [t, u, s3], K, v, σ, h => by
    simp only [rt, r3] at h
    split at h
    · split at h
      · rename_i a x y z ha
        rw [arr_of ha]
        have h := ty_imp (K := fun x => ty u (fun y => ty s3 (fun z => K (.tuple #[x, y, z]) σ) z) y) h
        have h := ty_imp (K := fun y => ty s3 (fun z => K (.tuple #[x, y, z]) σ) z) h
        exact ty_imp (K := fun z => K (.tuple #[x, y, z]) σ) h
      · exact h.elim
    · exact h.elim
  | [t, u, s3, q], K, v, σ, h => by
    simp only [rt, r4] at h
    split at h
    · split at h
      · rename_i a x y z w ha
        rw [arr_of ha]
        have h := ty_imp (K := fun x => ty u (fun y => ty s3 (fun z => ty q (fun w => K (.tuple #[x, y, z, w]) σ) w) z) y) h
        have h := ty_imp (K := fun y => ty s3 (fun z => ty q (fun w => K (.tuple #[x, y, z, w]) σ) w) z) h
        have h := ty_imp (K := fun z => ty q (fun w => K (.tuple #[x, y, z, w]) σ) w) h
        exact ty_imp (K := fun w => K (.tuple #[x, y, z, w]) σ) h
      · exact h.elim
    · exact h.elim
  | _ :: _ :: _ :: _ :: _ :: _, K, v, σ, h => h.elim
def ldC (σ : AHeap) (a : Value) : Nat → List VT → (List Value → Prop) → Prop
  | _, [], K => K []
  | i, t :: l, K => om (aFieldAddr i a) fun p => omT t (aLoad false 1 p σ) fun v => ldC σ a (i + 1) l fun vs => K (v :: vs)
theorem addr_add (ad : Addr) (i : Nat) : (ad.add i).block = ad.block ∧ (ad.add i).off = ad.off + i := by
  unfold Addr.add
  split
  · rename_i h; subst h; exact ⟨rfl, rfl⟩
  · exact ⟨rfl, rfl⟩
theorem ldC_at {σ : AHeap} {ad : Addr} : ∀ (l : List VT) (i : Nat) {K : List Value → Prop}, ldC σ (.pointer (some ad)) i l K →
    ∃ vs : List Value, K vs ∧ vs.length = l.length ∧ ∀ (j : Nat) (v : Value), vs[j]? = some v → ((σ.row ad.block).bind fun c => c[ad.off + i + j]?) = some v
  | [], i, K, h => ⟨[], h, rfl, fun j v hv => by simp at hv⟩
  | t :: l, i, K, h => by
    simp only [ldC, aFieldAddr, om] at h
    obtain ⟨v, h1, h2⟩ := omT_pu (fun v h => h) h
    obtain ⟨vs, h3, h4, h5⟩ := ldC_at l (i + 1) h2
    refine ⟨v :: vs, h3, by simp [h4], fun j u hu => ?_⟩
    cases j with
    | zero =>
      simp at hu; subst hu
      simp only [aLoad, cond_false, (addr_add ad i).1, (addr_add ad i).2] at h1
      exact h1
    | succ j =>
      have := h5 j u (by simpa using hu)
      rw [show ad.off + i + (j + 1) = ad.off + (i + 1) + j by omega]
      exact this
theorem ldC_sound {σ : AHeap} {a : Value} {l : List VT} {K : List Value → Prop} (h : ldC σ a 0 l K) (hn : l ≠ []) : ∃ vs, aLoad true l.length a σ = some (.agg vs.toArray) ∧ K vs := by
  have hp : ∃ ad, a = .pointer (some ad) := by
    cases l with
    | nil => exact absurd rfl hn
    | cons t l =>
      simp only [ldC, aFieldAddr, om] at h
      split at h
      · rename_i o hv
        split at hv
        · exact ⟨_, rfl⟩
        · cases hv
      · exact h.elim
  obtain ⟨ad, rfl⟩ := hp
  obtain ⟨vs, h1, h2, h3⟩ := ldC_at l 0 h
  refine ⟨vs, ?_, h1⟩
  have hpos : 0 < l.length := List.length_pos_iff.2 hn
  have h0 := h3 0 _ (List.getElem?_eq_getElem (show 0 < vs.length by omega))
  cases hr : σ.row ad.block with
  | none => rw [hr] at h0; cases h0
  | some c =>
    simp only [hr, Option.bind_some] at h3
    have hlen : ad.off + l.length ≤ c.length := by
      have := h3 (l.length - 1) _ (List.getElem?_eq_getElem (show l.length - 1 < vs.length by omega))
      have := (List.getElem?_eq_some_iff.1 this).1
      omega
    have hv : (c.drop ad.off).take l.length = vs := by
      apply List.ext_getElem?
      intro j
      rw [List.getElem?_take]
      by_cases hj : j < l.length
      · rw [if_pos hj, List.getElem?_drop]
        have := h3 j _ (List.getElem?_eq_getElem (show j < vs.length by omega))
        rw [List.getElem?_eq_getElem (show j < vs.length by omega)]
        simpa using this
      · rw [if_neg hj, List.getElem?_eq_none (by omega)]
    obtain ⟨m, hm⟩ : ∃ m, l.length = m + 1 := ⟨l.length - 1, by omega⟩
    rw [hm] at hlen hv ⊢
    have hb : Nat.ble (ad.off + (m + 1)) c.length = true := Nat.ble_eq_true_of_le hlen
    simp only [aLoad, cond_true, seg, hr, Option.bind_some, hb, Option.map_some, hv]
def fillT (pl : Nat → Option (Nat × Nat)) : List Value → List (Nat × Value) → (List Value → Prop) → Prop
  | c, [], K => K c
  | c, (k, v) :: ps, K => match pl k with
    | some (o, n) => cond (Nat.beq n 1) (cond (Nat.ble (o + 1) c.length && v.oneCell') (fillT pl (splice c o [v]) ps K) False)
        (cond (live v && Nat.beq v.cells.size n && Nat.ble (o + v.cells.size) c.length) (fillT pl (splice c o v.cells.toList) ps K) False)
    | none => False
theorem one_cells {v : Value} (h : v.oneCell' = true) : live v = true ∧ v.cells = #[v] := by cases v <;> simp_all [live, Value.oneCell', Value.cells]
theorem fillT_sound {pl : Nat → Option (Nat × Nat)} : ∀ {ps : List (Nat × Value)} {c : List Value} {K : List Value → Prop}, fillT pl c ps K → ∃ l, aFill pl c ps = some l ∧ K l
  | [], c, K, h => ⟨c, rfl, h⟩
  | (k, v) :: ps, c, K, h => by
    simp only [fillT] at h
    simp only [aFill]
    split at h
    · rename_i o n hp
      simp only [hp]
      cases hn : Nat.beq n 1 with
      | true =>
        rw [hn] at h
        simp only [cond_true] at h
        have hn := Nat.eq_of_beq_eq_true hn
        subst hn
        cases hc : (Nat.ble (o + 1) c.length && v.oneCell') with
        | false => rw [hc] at h; exact h.elim
        | true =>
          rw [hc] at h
          simp only [cond_true] at h
          rw [Bool.and_eq_true] at hc
          obtain ⟨h1, h2⟩ := one_cells hc.2
          obtain ⟨l, h3, h4⟩ := fillT_sound h
          refine ⟨l, ?_, h4⟩
          have hc2 := hc.1
          simp only [h1, h2, List.size_toArray, List.length_cons, List.length_nil, Nat.zero_add, hc2, Nat.beq_refl, Bool.and_self, cond_true]
          exact h3
      | false =>
        rw [hn] at h
        simp only [cond_false] at h
        cases hc : (live v && Nat.beq v.cells.size n && Nat.ble (o + v.cells.size) c.length) with
        | false => rw [hc] at h; exact h.elim
        | true =>
          rw [hc] at h
          obtain ⟨l, h3, h4⟩ := fillT_sound h
          exact ⟨l, by simp only [cond_true]; exact h3, h4⟩
    · exact h.elim
def pk (t : VT) (c : Bool) (x y : Value) : Value :=
  match t, x, y with
  | .i k, .int j a, .int j' b => cond (decide (j = k) && decide (j' = k)) (.int k (cond c a b)) (cond c x y)
  | .b, .bool a, .bool b => .bool (cond c a b)
  | .s, .string a, .string b => .string (cond c a b)
  | _, _, _ => cond c x y
theorem pk_eq (t : VT) (c : Bool) (x y : Value) : pk t c x y = cond c x y := by
  unfold pk
  split
  · rename_i k j a j' b
    cases h : (decide (j = k) && decide (j' = k)) with
    | false => rfl
    | true =>
      rw [Bool.and_eq_true] at h
      have h1 := of_decide_eq_true h.1
      have h2 := of_decide_eq_true h.2
      subst h1; subst h2
      cases c <;> rfl
  · cases c <;> rfl
  · cases c <;> rfl
  · rfl
end Go.Ax
