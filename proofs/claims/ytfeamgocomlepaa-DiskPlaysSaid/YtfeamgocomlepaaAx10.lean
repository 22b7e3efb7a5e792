/- One operation that is no call of a function: its abstract run and the machine's. No statement of the seat is proved here. -/
import Derived.Test.YtfeamgocomlepaaAxQ
namespace Go.Ax
open Go.RowKit

def aConv (P : Program) (s d : TypeId) (x : Value) (σ : AHeap) : Option Value :=
  match P.underlying s, P.underlying d, x with
  | some _, some (.int k), .int _ n => some (.int k (k.wrap n))
  | some .string, some .string, .string b => some (.string b)
  | some (.slice e), some .string, x => match P.underlying e with
    | some (.int .u8) => aBytesStr x σ
    | _ => none
  | some (.slice _), some (.slice e), .slice (some a) l c => cond (Nat.beq s d && a.spot.isNone) (match P.underlying e, σ.get a.block with
    | some (.int .u8), some (.cells _ _ _) => some (.slice (some a) l c)
    | _, _ => none) none
  | _, _, _ => none

def aIface (P : Program) (t : TypeId) (x : Value) : Option Value :=
  match P.underlying t with
  | some (.interface _) | none => none
  | some _ => cond (live x) (some (.iface t x)) none

/-- A part of an aggregate. -/
def aPart (P : Program) (t : TypeId) (c : List Value) (off : Nat) : Option Value :=
  match shp P t with
  | some (true, n) => cond (Nat.ble (off + n) c.length) (some (.agg ((c.drop off).take n).toArray)) none
  | some (false, _) => c[off]?
  | none => none

def aField (P : Program) (t : TypeId) (f : Nat) (x : Value) : Option Value :=
  match P.underlying t, x with
  | some (.struct fs), .agg c => match fs[f]? with
    | some fd => aPart P fd.type c.toList fd.offset
    | none => none
  | _, _ => none

def aIndex (P : Program) (t : TypeId) (x i : Value) : Option Value :=
  match P.underlying t, x, i with
  | some (.array n e), .agg c, .int _ i => match P.info? e with
    | some j => if 0 ≤ i ∧ i < n then aPart P e c.toList (i.toNat * j.size) else none
    | none => none
  | some .string, .string s, .int _ i => if 0 ≤ i then match s[i.toNat]? with
      | some b => some (.int .u8 b.toNat)
      | none => none
    else none
  | _, _, _ => none

def aMin2 (x y : Value) : Option Value :=
  match x, y with
  | .int k a, .int _ b => some (.int k (if b < a then b else a))
  | _, _ => none
def aMax2 (x y : Value) : Option Value :=
  match x, y with
  | .int k a, .int _ b => some (.int k (if b > a then b else a))
  | _, _ => none

def aLen (d : Option TypeDesc) (x : Value) : Option Value :=
  match d, x with
  | some (.slice _), .slice _ n _ => some (.int .i64 n)
  | some .string, .string s => some (.int .i64 s.size)
  | _, _ => none

def aLenM (P : Program) (t : TypeId) (x : Value) (σ : AHeap) : Option Value :=
  match aLen (P.underlying t) x with
  | some v => some v
  | none => match P.underlying t with
    | some (.map _ _) => (aEntries x σ).map fun es => .int .i64 es.length
    | _ => none

def aBuiltin (P : Program) (b : Builtin) (ts : List TypeId) (args : List Value) (σ : AHeap) : Option (Value × AHeap) :=
  match b, ts, args with
  | .append, [t, u], [s, x] => match elemOf? P t with
    | some (e, z, by') => match zeroOf P e with
      | some zv => cond (notInt P u) (aAppend e z by' s x σ) (cond (isInt P u) (aAppendZ e z by' zv.cells.toList s x σ) none)
      | none => none
    | none => none
  | .copy, [t, _], [d, x] => match elemOf? P t with
    | some (_, z, _) => aCopy z d x σ
    | none => none
  | .len, [t], [x] => (aLenM P t x σ).bind fun v => some (v, σ)
  | .delete, [t, _], [m, k] => (aDelete P t m k σ).bind fun σ' => some (.tuple #[], σ')
  | .min, _, [x, y] => (aMin2 x y).bind fun v => some (v, σ)
  | .max, _, [x, y] => (aMax2 x y).bind fun v => some (v, σ)
  | _, _, _ => none

def aop (P : Program) (ev : Operand → Value) (o : Oper) (σ : AHeap) : Option (Value × AHeap) :=
  match o.op with
  | .move x | .assign x => some (ev x, σ)
  | .pick c a b => (asB (ev c)).bind fun t => some (cond t (ev a) (ev b), σ)
  | .alloc e => (zeroOf P e).bind fun z => some (aNew e z.cells.toList σ)
  | .box e x => aBox e (ev x) σ
  | .build t ps => (aBuild P t (ps.toList.map fun p => (p.1, ev p.2))).bind fun v => some (v, σ)
  | .buildSlice t n ps => cond (Nat.beq n 0 && !ps.toList.isEmpty) none (aBuildSlice P t n (ps.toList.map fun p => (p.1, ev p.2)) σ)
  | .load t a => (shp P t).bind fun g => (aLoad g.1 g.2 (ev a) σ).bind fun v => some (v, σ)
  | .store t a x => (shp P t).bind fun g => (aStore g.2 (ev a) (ev x) σ).bind fun σ' => some (undef, σ')
  | .nilCheck x => (aNil (ev x)).bind fun v => some (v, σ)
  | .binOp op t x y _ => (aBinP P t op (ev x) (ev y)).bind fun v => some (v, σ)
  | .unOp op _ x => (aUn op (ev x)).bind fun v => some (v, σ)
  | .convert s d x => (aConv P s d (ev x) σ).bind fun v => some (v, σ)
  | .makeInterface t x => (aIface P t (ev x)).bind fun v => some (v, σ)
  | .makeFunc fn f c => some (.func fn (f.toList.map ev).toArray (c.toList.map ev).toArray, σ)
  | .makeSlice t l c => match elemOf? P t with
    | some (e, _, by') => match zeroOf P e with
      | some z => aMake e by' z.cells.toList (ev l) (ev c) σ
      | none => none
    | none => none
  | .slice t x lo hi mx => (aSliceOp P t (ev x) (lo.map ev) (hi.map ev) (mx.map ev)).bind fun v => some (v, σ)
  | .fieldAddr t x f => (fieldOff P t f).bind fun off => (aFieldAddr off (ev x)).bind fun v => some (v, σ)
  | .field t x f => (aField P t f (ev x)).bind fun v => some (v, σ)
  | .indexAddr t x i => (aIndexAddrOp P t (ev x) (ev i)).bind fun v => some (v, σ)
  | .index t x i => (aIndex P t (ev x) (ev i)).bind fun v => some (v, σ)
  | .extract x i => (aExtract (ev x) i).bind fun v => some (v, σ)
  | .makeMap t r => aMakeMap P t (r.map ev) σ
  | .lookup t x i ok => (aLookup P t (ev x) (ev i) ok σ).bind fun v => some (v, σ)
  | .mapUpdate t m k x => (aMapUpdate P t (ev m) (ev k) (ev x) σ).bind fun σ' => some (undef, σ')
  | .range t x => aRange P t (ev x) σ
  | .next it str => cond str (aNextStr (ev it) σ) none
  | .entry it => (aEntry (ev it) σ).bind fun v => some (v, σ)
  | .typeAssert x _ t ok => (aAssert P t ok (ev x)).bind fun v => some (v, σ)
  | .call c => match c.callee with
    | .builtin b => aBuiltin P b c.argTypes.toList (c.args.toList.map ev) σ
    | _ => none
  | _ => none

section
variable {P : Program} {B : Nat} {w0 : World} {ρ : List RB} {σ : AHeap} {w : World}

theorem aNil_sound {x x' v : Value} {ev : Operand → Value} (hx : VR ρ x x') (h : aNil x = some v) (o : Oper) (a : Operand) (ho : o.op = .nilCheck a) (ha : ev a = x') :
    ∃ v', (execOp ev o).run P w = .ok (.value v') w ∧ VR ρ v v' := by
  subst ha
  unfold aNil at h
  split at h
  · cases h
    obtain ⟨a', he, ha⟩ := hx.ptr_inv
    refine ⟨.pointer (some a'), ?_, ha.ptr⟩
    simp [execOp, ho, he]
  · cases h
    generalize hv : ev a = u at hx
    cases hx with
    | func fn f f' c c' h1 h2 h3 h4 => exact ⟨_, by simp [execOp, ho, hv], .func _ _ _ _ _ h1 h2 h3 h4⟩
  · cases h
    generalize hv : ev a = u at hx
    obtain ⟨a', c', rfl, _⟩ := hx.slice_inv
    exact ⟨_, by simp [execOp, ho, hv], hx⟩
  · cases h
    generalize hv : ev a = u at hx
    cases hx with
    | iface t v v' h1 h2 => exact ⟨_, by simp [execOp, ho, hv], .iface _ _ _ h1 h2⟩
  · cases h
    generalize hv : ev a = u at hx
    obtain ⟨m', rfl, _⟩ := hx.mapO_inv
    exact ⟨_, by simp [execOp, ho, hv], hx⟩
  · cases h

theorem Rel.same {σ' : AHeap} (h : Rel B w0 ρ σ' w) (hg : ∀ j, σ'.get j = σ.get j) (hs : σ'.size = σ.size) : Rel B w0 ρ σ w :=
  ⟨by rw [h.len, hs], fun i o hi => h.obj i o (by rw [hg]; exact hi), fun i j oi oj ri rj hi hj => h.inj i j oi oj ri rj (by rw [hg]; exact hi) (by rw [hg]; exact hj), h.below, h.base⟩

theorem Rel.marked (h : Rel B w0 ρ σ w) {b : Nat} {c : List Value} {e : TypeId} {opn : Bool} {r : RB} (hg : σ.get b = some (.cells c e opn)) (hr : ρ[b]? = some r) (o : Nat) :
    ∃ w', (markStringish ⟨r.b, o, none⟩).run P w = .ok () w' ∧ Rel B w0 ρ σ w' := by
  obtain ⟨r0, a, ⟨c', fz, y1, y2, y3, y4, y5, y6⟩, _⟩ := h.obj b _ hg
  rw [hr] at a; cases a
  have hsh : w.shape? r.b = some (e, c'.size) := by simp [World.shape?, y1]
  have hrun : (markStringish ⟨r.b, o, none⟩).run P w = .ok () (w.freeze { block := r.b, off := c'.size } 1) := by
    simp [markStringish, hsh]
  have hlt : r.b < w.heap.size := by
    rcases Nat.lt_or_ge r.b w.heap.size with k | k
    · exact k
    · rw [Array.getElem?_eq_none k] at y1; cases y1
  refine ⟨_, hrun, ?_⟩
  obtain ⟨lo, hi⟩ := fz
  have hat : (w.freeze { block := r.b, off := c'.size } 1).heap[r.b]? = some (.cells c' e (if lo == hi then (c'.size, c'.size + 1) else (min lo c'.size, max hi (c'.size + 1)))) := by
    unfold World.freeze
    rw [if_neg (by decide)]
    simp [Array.getElem?_modify, y1]
  have hoth : ∀ k, k ≠ r.b → (w.freeze { block := r.b, off := c'.size } 1).heap[k]? = w.heap[k]? := by
    intro k hk
    unfold World.freeze
    rw [if_neg (by decide)]
    simp [Array.getElem?_modify, Ne.symm hk]
  have hsz : (w.freeze { block := r.b, off := c'.size } 1).heap.size = w.heap.size := by
    unfold World.freeze
    rw [if_neg (by decide)]
    simp
  have hfz : FzOk (if lo == hi then (c'.size, c'.size + 1) else (min lo c'.size, max hi (c'.size + 1))) c'.size := by
    refine ⟨.inr ?_⟩
    by_cases e : lo = hi
    · simp [e]
    · rcases y2.or with h1 | h1
      · exact absurd h1 e
      · simp only at h1
        simp [e]; omega
  have hu := h.update (o' := .cells c e opn) hg rfl rfl hr ⟨c', _, hat, hfz, y3, y4, y5, y6⟩ hoth (by unfold World.freeze; rw [if_neg (by decide)]) (by unfold World.freeze; rw [if_neg (by decide)]) (by unfold World.freeze; rw [if_neg (by decide)]) hsz
  refine hu.same (fun j => ?_) rfl
  rw [AHeap.get_set]
  split
  · rename_i e; subst e; exact hg.symm
  · rfl

theorem aConv_sound (h : Rel B w0 ρ σ w) {s d : TypeId} {x x' v : Value} (hx : VR ρ x x') (hv : aConv P s d x σ = some v) : ∃ v' w', (convert s d x').run P w = .ok v' w' ∧ Rel B w0 ρ σ w' ∧ VR ρ v v' := by
  unfold aConv at hv
  split at hv
  · rename_i d0 k k' n hs hd
    cases hv; rw [hx.int_inv]
    refine ⟨_, w, ?_, h, .int _ _⟩
    cases d0 <;> simp [convert, run_underlying hs, run_underlying hd, Conv.intToInt] <;> rfl
  · rename_i b hs hd
    cases hv; rw [hx.string_inv]
    exact ⟨_, w, by simp [convert, run_underlying hs, run_underlying hd], h, .string _⟩
  · rename_i e hs hd
    split at hv
    · rename_i he
      obtain ⟨h1, h2⟩ := aBytesStr_sound (P := P) h hx hv
      refine ⟨v, w, ?_, h, h2⟩
      have hsl : ∃ a l c, x' = .slice a l c := by
        unfold aBytesStr at hv
        split at hv
        · obtain ⟨a', c', rfl, _⟩ := hx.slice_ar; exact ⟨_, _, _, rfl⟩
        · obtain ⟨a', c', rfl, _⟩ := hx.slice_ar; exact ⟨_, _, _, rfl⟩
        · cases hv
      obtain ⟨a, l, c, rfl⟩ := hsl
      simp [convert, run_underlying hs, run_underlying hd, run_underlying he, h1]
    · cases hv
  · rename_i e0 e a l c hs hd
    cases hsd : (Nat.beq s d && a.spot.isNone) with
    | false => rw [hsd] at hv; cases hv
    | true =>
      rw [hsd] at hv
      rw [Bool.and_eq_true] at hsd
      have hsd' := Nat.eq_of_beq_eq_true hsd.1
      subst hsd'
      have hzb := hsd.2
      simp only [cond_true] at hv
      split at hv
      · rename_i c0 e1 opn he hg
        cases hv
        cases hx with
        | slice b o l c c' r hr hc =>
          obtain ⟨w', e1, e2⟩ := h.marked (P := P) hg hr (r.s + o)
          refine ⟨_, w', ?_, e2, .slice b o l c c' r hr hc⟩
          obtain rfl : e0 = e := by rw [hs] at hd; cases hd; rfl
          simp [convert, run_underlying hs, run_underlying he, Functor.map]
          show Sem.run P (markStringish { block := r.b, off := r.s + o } >>= fun _ => pure (Value.slice (some { block := r.b, off := r.s + o }) l c')) w = _
          simp [e1]
        | zany a c' h0 => simp at hzb
        | zslice o a => simp at hzb
      · cases hv
  · cases hv

theorem aIface_sound {t : TypeId} {x x' v : Value} (hx : VR ρ x x') (hv : aIface P t x = some v) : ∃ v', (Instr.makeInterface t x').run P w = .ok v' w ∧ VR ρ v v' := by
  unfold aIface at hv
  split at hv
  · cases hv
  · cases hv
  · rename_i d hn hd
    cases hl : live x with
    | false => rw [hl] at hv; cases hv
    | true =>
      rw [hl] at hv; cases hv
      refine ⟨.iface t x', ?_, .iface _ _ _ (fun e => by subst e; simp [live, undef] at hl) hx⟩
      cases d <;> first | exact absurd rfl (hn _) | simp [Instr.makeInterface, run_underlying hd]

theorem aPart_sound {t : TypeId} {c c' : Array Value} {off : Nat} {v : Value} (hc : LR ρ c.toList c'.toList) (hv : aPart P t c.toList off = some v) :
    ∃ v', (part t c' off).run P w = .ok v' w ∧ VR ρ v v' := by
  unfold aPart at hv
  split at hv
  · rename_i n hs
    obtain ⟨d, i, hd, hi, hg, rfl⟩ := shp_inv hs
    cases hb : Nat.ble (off + i.size) c.toList.length with
    | false => rw [hb] at hv; cases hv
    | true =>
      rw [hb] at hv; cases hv
      refine ⟨.agg (c'.extract off (off + i.size)), ?_, VR.agg' ?_⟩
      · simp [part, run_isAgg hd, hg, run_sizeOf hi]
      · have := (hc.drop off).take i.size
        simp only [List.toList_toArray, Array.toList_extract, List.extract_eq_take_drop]
        rw [show off + i.size - off = i.size by omega]
        exact this
  · rename_i n hs
    obtain ⟨d, i, hd, hi, hg, rfl⟩ := shp_inv hs
    obtain ⟨v', h1, h2⟩ := hc.get hv
    refine ⟨v', ?_, h2⟩
    have h1' : c'[off]? = some v' := by simpa using h1
    simp [part, run_isAgg hd, hg, h1']
  · cases hv

theorem VR.agg_inv {c : Array Value} {v' : Value} (h : VR ρ (.agg c) v') : ∃ c', v' = .agg c' ∧ LR ρ c.toList c'.toList := by
  cases h with
  | agg c c' a b => exact ⟨c', rfl, LR.of_arr a b⟩

theorem aField_sound {t : TypeId} {f : Nat} {x x' v : Value} (hx : VR ρ x x') (hv : aField P t f x = some v) : ∃ v', (Instr.field t x' f).run P w = .ok v' w ∧ VR ρ v v' := by
  unfold aField at hv
  split at hv
  · rename_i fs c ht
    split at hv
    · rename_i fd hfd
      obtain ⟨c', rfl, hc⟩ := hx.agg_inv
      obtain ⟨v', h1, h2⟩ := aPart_sound (w := w) hc hv
      exact ⟨v', by simp [Instr.field, run_underlying ht, hfd, asAgg, h1], h2⟩
    · cases hv
  · cases hv

theorem aIndex_sound {t : TypeId} {x x' i i' v : Value} (hx : VR ρ x x') (hi : VR ρ i i') (hv : aIndex P t x i = some v) : ∃ v', (Instr.index t x' i').run P w = .ok v' w ∧ VR ρ v v' := by
  unfold aIndex at hv
  split at hv
  · rename_i n e c k m ht
    split at hv
    · rename_i j hj
      split at hv
      · rename_i hb
        obtain ⟨c', rfl, hc⟩ := hx.agg_inv
        rw [hi.int_inv]
        obtain ⟨v', h1, h2⟩ := aPart_sound (w := w) hc hv
        exact ⟨v', by simp [Instr.index, asIntOf, run_underlying ht, hb, run_sizeOf hj, h1], h2⟩
      · cases hv
    · cases hv
  · rename_i s k m ht
    split at hv
    · rename_i hb
      split at hv
      · rename_i b hb2; cases hv
        rw [hx.string_inv, hi.int_inv]
        exact ⟨_, by simp [Instr.index, asIntOf, run_underlying ht, hb, hb2], .int _ _⟩
      · cases hv
    · cases hv
  · cases hv

theorem aExtract_sound {x x' v : Value} {i : Nat} (hx : VR ρ x x') (hv : aExtract x i = some v) : ∃ v', (Instr.extract x' i).run P w = .ok v' w ∧ VR ρ v v' := by
  unfold aExtract at hv
  split at hv
  · rename_i vs
    split at hv
    · cases hv
    · rename_i hne
      cases hx with
      | dead => simp at hv
      | skp => exact absurd rfl hne
      | tuple c c' a b =>
        obtain ⟨v', h1, h2⟩ := (LR.of_arr a b).get hv
        have h1' : c'[i]? = some v' := by simpa using h1
        exact ⟨v', by simp [Instr.extract, h1'], h2⟩
  · cases hv

theorem aLen_sound {t ty : TypeId} {x x' v : Value} (hx : VR ρ x x') (hv : aLen (P.underlying t) x = some v) : (Builtin.len_ #[t] ty #[x']).run P w = .ok v w ∧ VR ρ v v := by
  unfold aLen at hv
  split at hv
  · rename_i e a n c ht
    cases hv
    obtain ⟨a', c', rfl, _⟩ := hx.slice_ar
    exact ⟨by simp [Builtin.len_, run_underlying ht, goInt], .int _ _⟩
  · rename_i s ht
    cases hv
    rw [hx.string_inv]
    exact ⟨by simp [Builtin.len_, run_underlying ht, goInt], .int _ _⟩
  · cases hv

theorem aLenM_sound (h : Rel B w0 ρ σ w) {t ty : TypeId} {x x' v : Value} (hx : VR ρ x x') (hv : aLenM P t x σ = some v) : (Builtin.len_ #[t] ty #[x']).run P w = .ok v w ∧ VR ρ v v := by
  unfold aLenM at hv
  split at hv
  · rename_i v0 hv0
    cases hv
    exact aLen_sound hx hv0
  · split at hv
    · rename_i k e ht
      simp only [Option.map_eq_some_iff] at hv
      obtain ⟨es, he, rfl⟩ := hv
      obtain ⟨es', hes, hor⟩ := aEntries_sound h hx he
      refine ⟨?_, .int _ _⟩
      have hl : (es'.size : Int) = es.length := by have := hes.1; simp at this; omega
      rcases hor with ⟨rfl, rfl⟩ | ⟨b, clock, rfl, hb⟩
      · simp [Builtin.len_, run_underlying ht, goInt] at hl ⊢; omega
      · have hgo := run_getObj (P := P) hb (fun c e fz => by simp)
        simp [Builtin.len_, run_underlying ht, goInt, hgo, hl]
    · cases hv

theorem aMin2_sound {t ty : TypeId} {ts : Array TypeId} {x x' y y' v : Value} (hx : VR ρ x x') (hy : VR ρ y y') (hv : aMin2 x y = some v) : (Builtin.min_ ts ty #[x', y']).run P w = .ok v w ∧ VR ρ v v := by
  unfold aMin2 at hv
  split at hv
  · cases hv; rw [hx.int_inv, hy.int_inv]
    exact ⟨by simp [Builtin.min_, Builtin.min2], .int _ _⟩
  · cases hv

theorem aMax2_sound {t ty : TypeId} {ts : Array TypeId} {x x' y y' v : Value} (hx : VR ρ x x') (hy : VR ρ y y') (hv : aMax2 x y = some v) : (Builtin.max_ ts ty #[x', y']).run P w = .ok v w ∧ VR ρ v v := by
  unfold aMax2 at hv
  split at hv
  · cases hv; rw [hx.int_inv, hy.int_inv]
    exact ⟨by simp [Builtin.max_, Builtin.max2], .int _ _⟩
  · cases hv

/-- What is asked of an operation: it comes to a value that stands for the abstract one. -/
def Met (P : Program) (B : Nat) (w0 : World) (ρ : List RB) (w : World) (s : Sem Next) (y : Value × AHeap) : Prop :=
  ∃ n w' ρ' v', s.run P w = .ok n w' ∧ (n = .value v' ∨ (n = .skip ∧ v' = undef)) ∧ Ext ρ ρ' ∧ Rel B w0 ρ' y.2 w' ∧ VR ρ' y.1 v'

theorem Met.quiet {s : Sem Next} {v v' : Value} (h : Rel B w0 ρ σ w) (hr : s.run P w = .ok (.value v') w) (hv : VR ρ v v') : Met P B w0 ρ w s (v, σ) :=
  ⟨_, w, ρ, v', hr, .inl rfl, Ext.refl _, h, hv⟩

theorem VR_map {l : List Operand} {ev ev' : Operand → Value} (hev : ∀ x, VR ρ (ev x) (ev' x)) : LR ρ (l.map ev) (l.map ev') := by
  refine ⟨by simp, fun i v v' a b => ?_⟩
  simp only [List.getElem?_map, Option.map_eq_some_iff] at a b
  obtain ⟨x, hx, rfl⟩ := a
  obtain ⟨y, hy, rfl⟩ := b
  rw [hx] at hy; cases hy
  exact hev x

theorem VO_map {x : Option Operand} {ev ev' : Operand → Value} (hev : ∀ x, VR ρ (ev x) (ev' x)) : VO ρ (x.map ev) (x.map ev') := by
  cases x with
  | none => exact .none
  | some x => exact .some _ _ (hev x)

theorem PR_map {l : List (Nat × Operand)} {ev ev' : Operand → Value} (hev : ∀ x, VR ρ (ev x) (ev' x)) : PR ρ (l.map fun p => (p.1, ev p.2)) (l.map fun p => (p.1, ev' p.2)) := by
  refine ⟨by simp, fun i p p' a b => ?_⟩
  simp only [List.getElem?_map, Option.map_eq_some_iff] at a b
  obtain ⟨x, hx, rfl⟩ := a
  obtain ⟨y, hy, rfl⟩ := b
  rw [hx] at hy; cases hy
  exact ⟨rfl, hev _⟩

theorem aBuiltin_sound (h : Rel B w0 ρ σ w) {b : Builtin} {ts : Array TypeId} {ty : TypeId} {cs : Array Bool} {args args' : List Value} {y : Value × AHeap} (ha : LR ρ args args') (hy : aBuiltin P b ts.toList args σ = some y) :
    Met P B w0 ρ w (builtin b ts ty cs args'.toArray) y := by
  obtain ⟨ts⟩ := ts
  unfold aBuiltin at hy
  split at hy
  · rename_i t u s x hts
    simp only at hts; subst hts
    obtain ⟨s', l1, rfl, h1, ha⟩ := ha.cons_inv
    obtain ⟨x', l2, rfl, h2, ha⟩ := ha.cons_inv
    rw [ha.nil_inv]
    split at hy
    · rename_i e z by' he
      split at hy
      · rename_i zv hz
        cases hu : notInt P u with
        | false =>
          rw [hu] at hy
          simp only [cond_false] at hy
          cases hu2 : isInt P u with
          | false => rw [hu2] at hy; cases hy
          | true =>
            rw [hu2] at hy
            simp only [cond_true] at hy
            obtain ⟨v', w', ρ', e1, e2, e3, e4⟩ := aAppendZ_sound (ty := ty) h he hz hu2 h1 h2 hy
            exact ⟨_, w', ρ', v', by simp [builtin, e1], .inl rfl, e2, e3, e4⟩
        | true =>
          rw [hu] at hy
          simp only [cond_true] at hy
          obtain ⟨v', w', ρ', e1, e2, e3, e4⟩ := aAppend_sound (ty := ty) h he hz hu h1 h2 hy
          exact ⟨_, w', ρ', v', by simp [builtin, e1], .inl rfl, e2, e3, e4⟩
      · cases hy
    · cases hy
  · rename_i t u d x hts
    simp only at hts; subst hts
    obtain ⟨s', l1, rfl, h1, ha⟩ := ha.cons_inv
    obtain ⟨x', l2, rfl, h2, ha⟩ := ha.cons_inv
    rw [ha.nil_inv]
    split at hy
    · rename_i e z by' he
      obtain ⟨v', w', e1, e2, e3⟩ := aCopy_sound (u := u) (ty := ty) h he h1 h2 hy
      exact ⟨_, w', ρ, v', by simp [builtin, e1], .inl rfl, Ext.refl _, e2, e3⟩
    · cases hy
  · rename_i t x hts
    simp only at hts; subst hts
    obtain ⟨x', l1, rfl, h1, ha⟩ := ha.cons_inv
    rw [ha.nil_inv]
    simp only [Option.bind_eq_some_iff] at hy
    obtain ⟨v, hv, hy'⟩ := hy
    cases hy'
    obtain ⟨e1, e2⟩ := aLenM_sound (ty := ty) h h1 hv
    exact .quiet h (by simp [builtin, e1]) e2
  · rename_i t u m k hts
    simp only at hts; subst hts
    obtain ⟨m', l1, rfl, h1, ha⟩ := ha.cons_inv
    obtain ⟨k', l2, rfl, h2, ha⟩ := ha.cons_inv
    rw [ha.nil_inv]
    simp only [Option.bind_eq_some_iff] at hy
    obtain ⟨σ', hs, hy'⟩ := hy
    cases hy'
    obtain ⟨w', e1, e2⟩ := aDelete_sound (u := u) (ty := ty) h h1 h2 hs
    exact ⟨_, w', ρ, .tuple #[], by simp [builtin, e1], .inl rfl, Ext.refl _, e2, VR.tuple' (LR.nil _)⟩
  · rename_i x z hts
    obtain ⟨x', l1, rfl, h1, ha⟩ := ha.cons_inv
    obtain ⟨z', l2, rfl, h2, ha⟩ := ha.cons_inv
    rw [ha.nil_inv]
    simp only [Option.bind_eq_some_iff] at hy
    obtain ⟨v, hv, hy'⟩ := hy
    cases hy'
    obtain ⟨e1, e2⟩ := aMin2_sound (w := w) (P := P) (t := ty) (ty := ty) (ts := ⟨ts⟩) h1 h2 hv
    exact .quiet h (by simp [builtin, e1]) e2
  · rename_i x z hts
    obtain ⟨x', l1, rfl, h1, ha⟩ := ha.cons_inv
    obtain ⟨z', l2, rfl, h2, ha⟩ := ha.cons_inv
    rw [ha.nil_inv]
    simp only [Option.bind_eq_some_iff] at hy
    obtain ⟨v, hv, hy'⟩ := hy
    cases hy'
    obtain ⟨e1, e2⟩ := aMax2_sound (w := w) (P := P) (t := ty) (ty := ty) (ts := ⟨ts⟩) h1 h2 hv
    exact .quiet h (by simp [builtin, e1]) e2
  · cases hy

theorem VR.asB {x x' : Value} {b : Bool} (hx : VR ρ x x') (h : Ax.asB x = some b) : x' = .bool b := by
  unfold Ax.asB at h
  split at h
  · cases h; exact hx.bool_inv
  · cases h

theorem aop_sound (h : Rel B w0 ρ σ w) {o : Oper} {ev ev' : Operand → Value} {y : Value × AHeap} (hev : ∀ x, VR ρ (ev x) (ev' x)) (hy : aop P ev o σ = some y) :
    Met P B w0 ρ w (execOp ev' o) y := by
  obtain ⟨dst, op, type, pos, after, guard⟩ := o
  unfold aop at hy
  cases op <;> simp only [reduceCtorEq, Option.bind_eq_some_iff] at hy
  case move x => cases hy; exact .quiet h (by simp [execOp]) (hev x)
  case assign x => cases hy; exact .quiet h (by simp [execOp]) (hev x)
  case pick c a b =>
    obtain ⟨t, ht, hy⟩ := hy
    cases hy
    have := (hev c).asB ht
    refine .quiet h (v' := cond t (ev' a) (ev' b)) ?_ ?_
    · cases t <;> simp [execOp, this, asBool]
    · cases t <;> exact hev _
  case alloc e =>
    obtain ⟨z, hz, hy⟩ := hy
    cases hy
    obtain ⟨v', w', ρ', e1, e2, e3, e4⟩ := aAlloc_sound h hz true (.tuple #[]) rfl
    exact ⟨_, w', ρ', v', by simp [execOp, e1], .inl rfl, e2, e3, e4⟩
  case box e x =>
    obtain ⟨v', w', ρ', e1, e2, e3, e4⟩ := aBox_sound (P := P) h (hev x) hy
    exact ⟨_, w', ρ', v', by simp [execOp, e1], .inl rfl, e2, e3, e4⟩
  case build t ps =>
    obtain ⟨v, hv, hy⟩ := hy
    cases hy
    obtain ⟨v', e1, e2⟩ := aBuild_sound (w := w) (parts' := ps.map fun p => (p.1, ev' p.2)) (by simpa using PR_map (l := ps.toList) hev) hv
    exact .quiet h (by simp [execOp, e1]) e2
  case buildSlice t n ps =>
    cases hn : (Nat.beq n 0 && !ps.toList.isEmpty) with
    | true => rw [hn] at hy; cases hy
    | false =>
      rw [hn] at hy
      simp only [cond_false] at hy
      have hps : n = 0 → (ps.toList.map fun p => (p.1, ev p.2)) = [] := by
        intro e
        subst e
        cases hl : ps.toList with
        | nil => rfl
        | cons p l => rw [hl] at hn; simp at hn
      obtain ⟨v', w', ρ', e1, e2, e3, e4⟩ := aBuildSlice_sound (P := P) h (parts' := ps.map fun p => (p.1, ev' p.2)) (by simpa using PR_map (l := ps.toList) hev) hy hps
      exact ⟨_, w', ρ', v', by simp [execOp, e1], .inl rfl, e2, e3, e4⟩
  case load t a =>
    obtain ⟨⟨g, n⟩, hg, v, hv, hy⟩ := hy
    cases hy
    obtain ⟨v', e1, e2⟩ := aLoad_sound h hg (hev a) hv
    exact .quiet h (by simp [execOp, e1]) e2
  case store t a x =>
    obtain ⟨⟨g, n⟩, hg, σ', hs, hy⟩ := hy
    cases hy
    obtain ⟨w', e1, e2, _⟩ := aStore_sound h hg (hev a) (hev x) hs
    exact ⟨.skip, w', ρ, undef, by simp [execOp, e1], .inr ⟨rfl, rfl⟩, Ext.refl _, e2, .dead _⟩
  case nilCheck x =>
    obtain ⟨v, hv, hy⟩ := hy
    cases hy
    obtain ⟨v', e1, e2⟩ := aNil_sound (P := P) (w := w) (hev x) hv ⟨dst, .nilCheck x, type, pos, after, guard⟩ x rfl rfl
    exact .quiet h e1 e2
  case binOp op t x y' ty =>
    obtain ⟨v, hv, hy⟩ := hy
    cases hy
    obtain ⟨e1, e2⟩ := aBinP_sound (w := w) x y' (hev x) (hev y') hv
    refine .quiet h (v' := v) ?_ e2
    simp only [execOp]
    rw [Sem.run_bind, e1]
    rfl
  case unOp op t x =>
    obtain ⟨v, hv, hy⟩ := hy
    cases hy
    obtain ⟨e1, e2⟩ := aUn_sound (P := P) (w := w) (hev x) hv
    exact .quiet h (by simp [execOp, e1]) e2
  case convert s d x =>
    obtain ⟨v, hv, hy⟩ := hy
    cases hy
    obtain ⟨v', w', e1, e2, e3⟩ := aConv_sound h (hev x) hv
    exact ⟨_, w', ρ, v', by simp [execOp, e1], .inl rfl, Ext.refl _, e2, e3⟩
  case makeInterface t x =>
    obtain ⟨v, hv, hy⟩ := hy
    cases hy
    obtain ⟨v', e1, e2⟩ := aIface_sound (w := w) (hev x) hv
    exact .quiet h (by simp [execOp, e1]) e2
  case makeFunc fn f c =>
    cases hy
    refine .quiet h (v' := .func fn (f.map ev') (c.map ev')) (by simp [execOp, Instr.makeFunc]) ?_
    have hf := (VR_map (l := f.toList) hev)
    have hc := (VR_map (l := c.toList) hev)
    have hf' : LR ρ (f.toList.map ev).toArray.toList (f.map ev').toList := by simpa using hf
    have hc' : LR ρ (c.toList.map ev).toArray.toList (c.map ev').toList := by simpa using hc
    exact .func _ _ _ _ _ hf'.arr.1 hc'.arr.1 hf'.arr.2 hc'.arr.2
  case makeSlice t l c =>
    split at hy
    · rename_i e z by' he
      split at hy
      · rename_i zv hz
        obtain ⟨v', w', ρ', e1, e2, e3, e4⟩ := aMake_sound h he hz (hev l) (hev c) hy
        exact ⟨_, w', ρ', v', by simp [execOp, e1], .inl rfl, e2, e3, e4⟩
      · cases hy
    · cases hy
  case slice t x lo hi mx =>
    obtain ⟨v, hv, hy⟩ := hy
    cases hy
    obtain ⟨v', e1, e2⟩ := aSliceOp_sound (w := w) (hev x) (VO_map hev) (VO_map hev) (VO_map hev) hv
    exact .quiet h (by simp [execOp, e1]) e2
  case fieldAddr t x f =>
    obtain ⟨off, ho, v, hv, hy⟩ := hy
    cases hy
    obtain ⟨v', e1, e2⟩ := aFieldAddr_sound (w := w) ho (hev x) hv
    exact .quiet h (by simp [execOp, e1]) e2
  case field t x f =>
    obtain ⟨v, hv, hy⟩ := hy
    cases hy
    obtain ⟨v', e1, e2⟩ := aField_sound (w := w) (hev x) hv
    exact .quiet h (by simp [execOp, e1]) e2
  case indexAddr t x i =>
    obtain ⟨v, hv, hy⟩ := hy
    cases hy
    obtain ⟨v', e1, e2⟩ := aIndexAddrOp_sound (w := w) (hev x) (hev i) hv
    exact .quiet h (by simp [execOp, e1]) e2
  case index t x i =>
    obtain ⟨v, hv, hy⟩ := hy
    cases hy
    obtain ⟨v', e1, e2⟩ := aIndex_sound (w := w) (hev x) (hev i) hv
    exact .quiet h (by simp [execOp, e1]) e2
  case extract x i =>
    obtain ⟨v, hv, hy⟩ := hy
    cases hy
    obtain ⟨v', e1, e2⟩ := aExtract_sound (P := P) (w := w) (hev x) hv
    exact .quiet h (by simp [execOp, e1]) e2
  case makeMap t r =>
    obtain ⟨v', w', ρ', e1, e2, e3, e4⟩ := aMakeMap_sound (P := P) h (VO_map hev) hy
    exact ⟨_, w', ρ', v', by simp [execOp, e1], .inl rfl, e2, e3, e4⟩
  case lookup t x i ok =>
    obtain ⟨v, hv, hy⟩ := hy
    cases hy
    obtain ⟨v', e1, e2⟩ := aLookup_sound h (hev x) (hev i) hv
    exact .quiet h (by simp [execOp, e1]) e2
  case mapUpdate t m k x =>
    obtain ⟨σ', hs, hy⟩ := hy
    cases hy
    obtain ⟨w', e1, e2⟩ := aMapUpdate_sound h (hev m) (hev k) (hev x) hs
    exact ⟨.skip, w', ρ, undef, by simp [execOp, e1], .inr ⟨rfl, rfl⟩, Ext.refl _, e2, .dead _⟩
  case range t x =>
    obtain ⟨v', w', ρ', e1, e2, e3, e4⟩ := aRange_sound (P := P) h (hev x) hy
    exact ⟨_, w', ρ', v', by simp [execOp, e1], .inl rfl, e2, e3, e4⟩
  case next it str =>
    cases str with
    | false => cases hy
    | true =>
      obtain ⟨v', w', e1, e2, e3⟩ := aNextStr_sound (P := P) (t := type) h (hev it) hy
      exact ⟨_, w', ρ, v', by simp [execOp, e1], .inl rfl, Ext.refl _, e2, e3⟩
  case entry it =>
    obtain ⟨v, hv, hy⟩ := hy
    cases hy
    obtain ⟨v', e1, e2⟩ := aEntry_sound (P := P) h (hev it) hv
    exact .quiet h (by simp [execOp, e1]) e2
  case typeAssert x xt t ok =>
    obtain ⟨v, hv, hy⟩ := hy
    cases hy
    obtain ⟨v', e1, e2⟩ := aAssert_sound (P := P) (w := w) (xt := xt) (hev x) hv
    exact .quiet h (by simp [execOp, e1]) e2
  case call c =>
    split at hy
    · rename_i b hb
      have he : (c.args.toList.map ev').toArray = c.args.map ev' := by apply Array.ext'; simp
      have key : ∀ cs, Met P B w0 ρ w (builtin b c.argTypes type cs (c.args.map ev')) y := fun cs => by
        have := aBuiltin_sound (ty := type) (cs := cs) h (VR_map (l := c.args.toList) hev) hy
        rwa [he] at this
      have hx : ∃ cs, execOp ev' ⟨dst, .call c, type, pos, after, guard⟩ = builtin b c.argTypes type cs (c.args.map ev') := ⟨_, by simp only [execOp, resolve, hb, pure_bind, invoke]; rfl⟩
      obtain ⟨cs, hx⟩ := hx
      rw [hx]; exact key cs
    · cases hy
end
end Go.Ax
