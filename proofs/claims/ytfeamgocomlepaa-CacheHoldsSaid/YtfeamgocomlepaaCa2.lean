/- Texts of one proof, joined: Ax10 Ax11 Ax12 AxD AxE AxF Ax13 Ax14 Ax15 Ay1 Ay2 Ay3 Ax16. -/
import Derived.Test.YtfeamgocomlepaaCa1
import Derived.Laws.Externs
/- One operation that is no call of a function: its abstract run and the machine's. No statement of the seat is proved here. -/
namespace Go.Ax
open Go.RowKit

def aConv (P : Program) (s d : TypeId) (x : Value) (σ : AHeap) : Option Value :=
  match P.underlying s, P.underlying d, x with
  | some _, some (.int k), .int _ n => some (.int k (k.wrap n))
  | some .string, some .string, .string b => some (.string b)
  | some (.slice e), some .string, x => match P.underlying e with
    | some (.int .u8) => aBytesStr x σ
    | _ => none
  | some (.slice _), some (.slice e), .slice (some a) l c => cond (Nat.beq s d && a.spot.isNone) (match P.underlying e, σ.get a.block with
    | some (.int .u8), some (.cells _ _ _) => some (.slice (some a) l c)
    | _, _ => none) none
  | _, _, _ => none

def aIface (P : Program) (t : TypeId) (x : Value) : Option Value :=
  match P.underlying t with
  | some (.interface _) | none => none
  | some _ => cond (live x) (some (.iface t x)) none

/-- A part of an aggregate. -/
def aPart (P : Program) (t : TypeId) (c : List Value) (off : Nat) : Option Value :=
  match shp P t with
  | some (true, n) => cond (Nat.ble (off + n) c.length) (some (.agg ((c.drop off).take n).toArray)) none
  | some (false, _) => c[off]?
  | none => none

def aField (P : Program) (t : TypeId) (f : Nat) (x : Value) : Option Value :=
  match P.underlying t, x with
  | some (.struct fs), .agg c => match fs[f]? with
    | some fd => aPart P fd.type c.toList fd.offset
    | none => none
  | _, _ => none

def aIndex (P : Program) (t : TypeId) (x i : Value) : Option Value :=
  match P.underlying t, x, i with
  | some (.array n e), .agg c, .int _ i => match P.info? e with
    | some j => if 0 ≤ i ∧ i < n then aPart P e c.toList (i.toNat * j.size) else none
    | none => none
  | some .string, .string s, .int _ i => if 0 ≤ i then match s[i.toNat]? with
      | some b => some (.int .u8 b.toNat)
      | none => none
    else none
  | _, _, _ => none

def aMin2 (x y : Value) : Option Value :=
  match x, y with
  | .int k a, .int _ b => some (.int k (if b < a then b else a))
  | _, _ => none
def aMax2 (x y : Value) : Option Value :=
  match x, y with
  | .int k a, .int _ b => some (.int k (if b > a then b else a))
  | _, _ => none

def aLen (d : Option TypeDesc) (x : Value) : Option Value :=
  match d, x with
  | some (.slice _), .slice _ n _ => some (.int .i64 n)
  | some .string, .string s => some (.int .i64 s.size)
  | _, _ => none

def aLenM (P : Program) (t : TypeId) (x : Value) (σ : AHeap) : Option Value :=
  match aLen (P.underlying t) x with
  | some v => some v
  | none => match P.underlying t with
    | some (.map _ _) => (aEntries x σ).map fun es => .int .i64 es.length
    | _ => none

def aBuiltin (P : Program) (b : Builtin) (ts : List TypeId) (args : List Value) (σ : AHeap) : Option (Value × AHeap) :=
  match b, ts, args with
  | .append, [t, u], [s, x] => match elemOf? P t with
    | some (e, z, by') => match zeroOf P e with
      | some zv => cond (notInt P u) (aAppend e z by' s x σ) (cond (isInt P u) (aAppendZ e z by' zv.cells.toList s x σ) none)
      | none => none
    | none => none
  | .copy, [t, _], [d, x] => match elemOf? P t with
    | some (_, z, _) => aCopy z d x σ
    | none => none
  | .len, [t], [x] => (aLenM P t x σ).bind fun v => some (v, σ)
  | .delete, [t, _], [m, k] => (aDelete P t m k σ).bind fun σ' => some (.tuple #[], σ')
  | .min, _, [x, y] => (aMin2 x y).bind fun v => some (v, σ)
  | .max, _, [x, y] => (aMax2 x y).bind fun v => some (v, σ)
  | _, _, _ => none

def aop (P : Program) (ev : Operand → Value) (o : Oper) (σ : AHeap) : Option (Value × AHeap) :=
  match o.op with
  | .move x | .assign x => some (ev x, σ)
  | .pick c a b => (asB (ev c)).bind fun t => some (cond t (ev a) (ev b), σ)
  | .alloc e => (zeroOf P e).bind fun z => some (aNew e z.cells.toList σ)
  | .box e x => aBox e (ev x) σ
  | .build t ps => (aBuild P t (ps.toList.map fun p => (p.1, ev p.2))).bind fun v => some (v, σ)
  | .buildSlice t n ps => cond (Nat.beq n 0 && !ps.toList.isEmpty) none (aBuildSlice P t n (ps.toList.map fun p => (p.1, ev p.2)) σ)
  | .load t a => (shp P t).bind fun g => (aLoad g.1 g.2 (ev a) σ).bind fun v => some (v, σ)
  | .store t a x => (shp P t).bind fun g => (aStore g.2 (ev a) (ev x) σ).bind fun σ' => some (undef, σ')
  | .nilCheck x => (aNil (ev x)).bind fun v => some (v, σ)
  | .binOp op t x y _ => (aBinP P t op (ev x) (ev y)).bind fun v => some (v, σ)
  | .unOp op _ x => (aUn op (ev x)).bind fun v => some (v, σ)
  | .convert s d x => (aConv P s d (ev x) σ).bind fun v => some (v, σ)
  | .makeInterface t x => (aIface P t (ev x)).bind fun v => some (v, σ)
  | .makeFunc fn f c => some (.func fn (f.toList.map ev).toArray (c.toList.map ev).toArray, σ)
  | .makeSlice t l c => match elemOf? P t with
    | some (e, _, by') => match zeroOf P e with
      | some z => aMake e by' z.cells.toList (ev l) (ev c) σ
      | none => none
    | none => none
  | .slice t x lo hi mx => (aSliceOp P t (ev x) (lo.map ev) (hi.map ev) (mx.map ev)).bind fun v => some (v, σ)
  | .fieldAddr t x f => (fieldOff P t f).bind fun off => (aFieldAddr off (ev x)).bind fun v => some (v, σ)
  | .field t x f => (aField P t f (ev x)).bind fun v => some (v, σ)
  | .indexAddr t x i => (aIndexAddrOp P t (ev x) (ev i)).bind fun v => some (v, σ)
  | .index t x i => (aIndex P t (ev x) (ev i)).bind fun v => some (v, σ)
  | .extract x i => (aExtract (ev x) i).bind fun v => some (v, σ)
  | .makeMap t r => aMakeMap P t (r.map ev) σ
  | .lookup t x i ok => (aLookup P t (ev x) (ev i) ok σ).bind fun v => some (v, σ)
  | .mapUpdate t m k x => (aMapUpdate P t (ev m) (ev k) (ev x) σ).bind fun σ' => some (undef, σ')
  | .range t x => aRange P t (ev x) σ
  | .next it str => cond str (aNextStr (ev it) σ) none
  | .entry it => (aEntry (ev it) σ).bind fun v => some (v, σ)
  | .typeAssert x _ t ok => (aAssert P t ok (ev x)).bind fun v => some (v, σ)
  | .call c => match c.callee with
    | .builtin b => aBuiltin P b c.argTypes.toList (c.args.toList.map ev) σ
    | _ => none
  | _ => none

section
variable {P : Program} {B : Nat} {w0 : World} {ρ : List RB} {σ : AHeap} {w : World}

theorem aNil_sound {x x' v : Value} {ev : Operand → Value} (hx : VR ρ x x') (h : aNil x = some v) (o : Oper) (a : Operand) (ho : o.op = .nilCheck a) (ha : ev a = x') :
    ∃ v', (execOp ev o).run P w = .ok (.value v') w ∧ VR ρ v v' := by
  subst ha
  unfold aNil at h
  split at h
  · cases h
    obtain ⟨a', he, ha⟩ := hx.ptr_inv
    refine ⟨.pointer (some a'), ?_, ha.ptr⟩
    simp [execOp, ho, he]
  · cases h
    generalize hv : ev a = u at hx
    cases hx with
    | func fn f f' c c' h1 h2 h3 h4 => exact ⟨_, by simp [execOp, ho, hv], .func _ _ _ _ _ h1 h2 h3 h4⟩
  · cases h
    generalize hv : ev a = u at hx
    obtain ⟨a', c', rfl, _⟩ := hx.slice_inv
    exact ⟨_, by simp [execOp, ho, hv], hx⟩
  · cases h
    generalize hv : ev a = u at hx
    cases hx with
    | iface t v v' h1 h2 => exact ⟨_, by simp [execOp, ho, hv], .iface _ _ _ h1 h2⟩
  · cases h
    generalize hv : ev a = u at hx
    obtain ⟨m', rfl, _⟩ := hx.mapO_inv
    exact ⟨_, by simp [execOp, ho, hv], hx⟩
  · cases h

theorem Rel.same {σ' : AHeap} (h : Rel B w0 ρ σ' w) (hg : ∀ j, σ'.get j = σ.get j) (hs : σ'.size = σ.size) : Rel B w0 ρ σ w :=
  ⟨by rw [h.len, hs], fun i o hi => h.obj i o (by rw [hg]; exact hi), fun i j oi oj ri rj hi hj => h.inj i j oi oj ri rj (by rw [hg]; exact hi) (by rw [hg]; exact hj), h.below, h.base⟩

theorem Rel.marked (h : Rel B w0 ρ σ w) {b : Nat} {c : List Value} {e : TypeId} {opn : Bool} {r : RB} (hg : σ.get b = some (.cells c e opn)) (hr : ρ[b]? = some r) (o : Nat) :
    ∃ w', (markStringish ⟨r.b, o, none⟩).run P w = .ok () w' ∧ Rel B w0 ρ σ w' := by
  obtain ⟨r0, a, ⟨c', fz, y1, y2, y3, y4, y5, y6⟩, _⟩ := h.obj b _ hg
  rw [hr] at a; cases a
  have hsh : w.shape? r.b = some (e, c'.size) := by simp [World.shape?, y1]
  have hrun : (markStringish ⟨r.b, o, none⟩).run P w = .ok () (w.freeze { block := r.b, off := c'.size } 1) := by
    simp [markStringish, hsh]
  have hlt : r.b < w.heap.size := by
    rcases Nat.lt_or_ge r.b w.heap.size with k | k
    · exact k
    · rw [Array.getElem?_eq_none k] at y1; cases y1
  refine ⟨_, hrun, ?_⟩
  obtain ⟨lo, hi⟩ := fz
  have hat : (w.freeze { block := r.b, off := c'.size } 1).heap[r.b]? = some (.cells c' e (if lo == hi then (c'.size, c'.size + 1) else (min lo c'.size, max hi (c'.size + 1)))) := by
    unfold World.freeze
    rw [if_neg (by decide)]
    simp [Array.getElem?_modify, y1]
  have hoth : ∀ k, k ≠ r.b → (w.freeze { block := r.b, off := c'.size } 1).heap[k]? = w.heap[k]? := by
    intro k hk
    unfold World.freeze
    rw [if_neg (by decide)]
    simp [Array.getElem?_modify, Ne.symm hk]
  have hsz : (w.freeze { block := r.b, off := c'.size } 1).heap.size = w.heap.size := by
    unfold World.freeze
    rw [if_neg (by decide)]
    simp
  have hfz : FzOk (if lo == hi then (c'.size, c'.size + 1) else (min lo c'.size, max hi (c'.size + 1))) c'.size := by
    refine ⟨.inr ?_⟩
    by_cases e : lo = hi
    · simp [e]
    · rcases y2.or with h1 | h1
      · exact absurd h1 e
      · simp only at h1
        simp [e]; omega
  have hu := h.update (o' := .cells c e opn) hg rfl rfl hr ⟨c', _, hat, hfz, y3, y4, y5, y6⟩ hoth (by unfold World.freeze; rw [if_neg (by decide)]) (by unfold World.freeze; rw [if_neg (by decide)]) (by unfold World.freeze; rw [if_neg (by decide)]) hsz
  refine hu.same (fun j => ?_) rfl
  rw [AHeap.get_set]
  split
  · rename_i e; subst e; exact hg.symm
  · rfl

theorem aConv_sound (h : Rel B w0 ρ σ w) {s d : TypeId} {x x' v : Value} (hx : VR ρ x x') (hv : aConv P s d x σ = some v) : ∃ v' w', (convert s d x').run P w = .ok v' w' ∧ Rel B w0 ρ σ w' ∧ VR ρ v v' := by
  unfold aConv at hv
  split at hv
  · rename_i d0 k k' n hs hd
    cases hv; rw [hx.int_inv]
    refine ⟨_, w, ?_, h, .int _ _⟩
    cases d0 <;> simp [convert, run_underlying hs, run_underlying hd, Conv.intToInt] <;> rfl
  · rename_i b hs hd
    cases hv; rw [hx.string_inv]
    exact ⟨_, w, by simp [convert, run_underlying hs, run_underlying hd], h, .string _⟩
  · rename_i e hs hd
    split at hv
    · rename_i he
      obtain ⟨h1, h2⟩ := aBytesStr_sound (P := P) h hx hv
      refine ⟨v, w, ?_, h, h2⟩
      have hsl : ∃ a l c, x' = .slice a l c := by
        unfold aBytesStr at hv
        split at hv
        · obtain ⟨a', c', rfl, _⟩ := hx.slice_ar; exact ⟨_, _, _, rfl⟩
        · obtain ⟨a', c', rfl, _⟩ := hx.slice_ar; exact ⟨_, _, _, rfl⟩
        · cases hv
      obtain ⟨a, l, c, rfl⟩ := hsl
      simp [convert, run_underlying hs, run_underlying hd, run_underlying he, h1]
    · cases hv
  · rename_i e0 e a l c hs hd
    cases hsd : (Nat.beq s d && a.spot.isNone) with
    | false => rw [hsd] at hv; cases hv
    | true =>
      rw [hsd] at hv
      rw [Bool.and_eq_true] at hsd
      have hsd' := Nat.eq_of_beq_eq_true hsd.1
      subst hsd'
      have hzb := hsd.2
      simp only [cond_true] at hv
      split at hv
      · rename_i c0 e1 opn he hg
        cases hv
        cases hx with
        | slice b o l c c' r hr hc =>
          obtain ⟨w', e1, e2⟩ := h.marked (P := P) hg hr (r.s + o)
          refine ⟨_, w', ?_, e2, .slice b o l c c' r hr hc⟩
          obtain rfl : e0 = e := by rw [hs] at hd; cases hd; rfl
          simp [convert, run_underlying hs, run_underlying he, Functor.map]
          show Sem.run P (markStringish { block := r.b, off := r.s + o } >>= fun _ => pure (Value.slice (some { block := r.b, off := r.s + o }) l c')) w = _
          simp [e1]
        | zany a c' h0 => simp at hzb
        | zslice o a => simp at hzb
      · cases hv
  · cases hv

theorem aIface_sound {t : TypeId} {x x' v : Value} (hx : VR ρ x x') (hv : aIface P t x = some v) : ∃ v', (Instr.makeInterface t x').run P w = .ok v' w ∧ VR ρ v v' := by
  unfold aIface at hv
  split at hv
  · cases hv
  · cases hv
  · rename_i d hn hd
    cases hl : live x with
    | false => rw [hl] at hv; cases hv
    | true =>
      rw [hl] at hv; cases hv
      refine ⟨.iface t x', ?_, .iface _ _ _ (fun e => by subst e; simp [live, undef] at hl) hx⟩
      cases d <;> first | exact absurd rfl (hn _) | simp [Instr.makeInterface, run_underlying hd]

theorem aPart_sound {t : TypeId} {c c' : Array Value} {off : Nat} {v : Value} (hc : LR ρ c.toList c'.toList) (hv : aPart P t c.toList off = some v) :
    ∃ v', (part t c' off).run P w = .ok v' w ∧ VR ρ v v' := by
  unfold aPart at hv
  split at hv
  · rename_i n hs
    obtain ⟨d, i, hd, hi, hg, rfl⟩ := shp_inv hs
    cases hb : Nat.ble (off + i.size) c.toList.length with
    | false => rw [hb] at hv; cases hv
    | true =>
      rw [hb] at hv; cases hv
      refine ⟨.agg (c'.extract off (off + i.size)), ?_, VR.agg' ?_⟩
      · simp [part, run_isAgg hd, hg, run_sizeOf hi]
      · have := (hc.drop off).take i.size
        simp only [List.toList_toArray, Array.toList_extract, List.extract_eq_take_drop]
        rw [show off + i.size - off = i.size by omega]
        exact this
  · rename_i n hs
    obtain ⟨d, i, hd, hi, hg, rfl⟩ := shp_inv hs
    obtain ⟨v', h1, h2⟩ := hc.get hv
    refine ⟨v', ?_, h2⟩
    have h1' : c'[off]? = some v' := by simpa using h1
    simp [part, run_isAgg hd, hg, h1']
  · cases hv

theorem VR.agg_inv {c : Array Value} {v' : Value} (h : VR ρ (.agg c) v') : ∃ c', v' = .agg c' ∧ LR ρ c.toList c'.toList := by
  cases h with
  | agg c c' a b => exact ⟨c', rfl, LR.of_arr a b⟩

theorem aField_sound {t : TypeId} {f : Nat} {x x' v : Value} (hx : VR ρ x x') (hv : aField P t f x = some v) : ∃ v', (Instr.field t x' f).run P w = .ok v' w ∧ VR ρ v v' := by
  unfold aField at hv
  split at hv
  · rename_i fs c ht
    split at hv
    · rename_i fd hfd
      obtain ⟨c', rfl, hc⟩ := hx.agg_inv
      obtain ⟨v', h1, h2⟩ := aPart_sound (w := w) hc hv
      exact ⟨v', by simp [Instr.field, run_underlying ht, hfd, asAgg, h1], h2⟩
    · cases hv
  · cases hv

theorem aIndex_sound {t : TypeId} {x x' i i' v : Value} (hx : VR ρ x x') (hi : VR ρ i i') (hv : aIndex P t x i = some v) : ∃ v', (Instr.index t x' i').run P w = .ok v' w ∧ VR ρ v v' := by
  unfold aIndex at hv
  split at hv
  · rename_i n e c k m ht
    split at hv
    · rename_i j hj
      split at hv
      · rename_i hb
        obtain ⟨c', rfl, hc⟩ := hx.agg_inv
        rw [hi.int_inv]
        obtain ⟨v', h1, h2⟩ := aPart_sound (w := w) hc hv
        exact ⟨v', by simp [Instr.index, asIntOf, run_underlying ht, hb, run_sizeOf hj, h1], h2⟩
      · cases hv
    · cases hv
  · rename_i s k m ht
    split at hv
    · rename_i hb
      split at hv
      · rename_i b hb2; cases hv
        rw [hx.string_inv, hi.int_inv]
        exact ⟨_, by simp [Instr.index, asIntOf, run_underlying ht, hb, hb2], .int _ _⟩
      · cases hv
    · cases hv
  · cases hv

theorem aExtract_sound {x x' v : Value} {i : Nat} (hx : VR ρ x x') (hv : aExtract x i = some v) : ∃ v', (Instr.extract x' i).run P w = .ok v' w ∧ VR ρ v v' := by
  unfold aExtract at hv
  split at hv
  · rename_i vs
    split at hv
    · cases hv
    · rename_i hne
      cases hx with
      | dead => simp at hv
      | skp => exact absurd rfl hne
      | tuple c c' a b =>
        obtain ⟨v', h1, h2⟩ := (LR.of_arr a b).get hv
        have h1' : c'[i]? = some v' := by simpa using h1
        exact ⟨v', by simp [Instr.extract, h1'], h2⟩
  · cases hv

theorem aLen_sound {t ty : TypeId} {x x' v : Value} (hx : VR ρ x x') (hv : aLen (P.underlying t) x = some v) : (Builtin.len_ #[t] ty #[x']).run P w = .ok v w ∧ VR ρ v v := by
  unfold aLen at hv
  split at hv
  · rename_i e a n c ht
    cases hv
    obtain ⟨a', c', rfl, _⟩ := hx.slice_ar
    exact ⟨by simp [Builtin.len_, run_underlying ht, goInt], .int _ _⟩
  · rename_i s ht
    cases hv
    rw [hx.string_inv]
    exact ⟨by simp [Builtin.len_, run_underlying ht, goInt], .int _ _⟩
  · cases hv

theorem aLenM_sound (h : Rel B w0 ρ σ w) {t ty : TypeId} {x x' v : Value} (hx : VR ρ x x') (hv : aLenM P t x σ = some v) : (Builtin.len_ #[t] ty #[x']).run P w = .ok v w ∧ VR ρ v v := by
  unfold aLenM at hv
  split at hv
  · rename_i v0 hv0
    cases hv
    exact aLen_sound hx hv0
  · split at hv
    · rename_i k e ht
      simp only [Option.map_eq_some_iff] at hv
      obtain ⟨es, he, rfl⟩ := hv
      obtain ⟨es', hes, hor⟩ := aEntries_sound h hx he
      refine ⟨?_, .int _ _⟩
      have hl : (es'.size : Int) = es.length := by have := hes.1; simp at this; omega
      rcases hor with ⟨rfl, rfl⟩ | ⟨b, clock, rfl, hb⟩
      · simp [Builtin.len_, run_underlying ht, goInt] at hl ⊢; omega
      · have hgo := run_getObj (P := P) hb (fun c e fz => by simp)
        simp [Builtin.len_, run_underlying ht, goInt, hgo, hl]
    · cases hv

theorem aMin2_sound {t ty : TypeId} {ts : Array TypeId} {x x' y y' v : Value} (hx : VR ρ x x') (hy : VR ρ y y') (hv : aMin2 x y = some v) : (Builtin.min_ ts ty #[x', y']).run P w = .ok v w ∧ VR ρ v v := by
  unfold aMin2 at hv
  split at hv
  · cases hv; rw [hx.int_inv, hy.int_inv]
    exact ⟨by simp [Builtin.min_, Builtin.min2], .int _ _⟩
  · cases hv

theorem aMax2_sound {t ty : TypeId} {ts : Array TypeId} {x x' y y' v : Value} (hx : VR ρ x x') (hy : VR ρ y y') (hv : aMax2 x y = some v) : (Builtin.max_ ts ty #[x', y']).run P w = .ok v w ∧ VR ρ v v := by
  unfold aMax2 at hv
  split at hv
  · cases hv; rw [hx.int_inv, hy.int_inv]
    exact ⟨by simp [Builtin.max_, Builtin.max2], .int _ _⟩
  · cases hv

/-- What is asked of an operation: it comes to a value that stands for the abstract one. -/
def Met (P : Program) (B : Nat) (w0 : World) (ρ : List RB) (w : World) (s : Sem Next) (y : Value × AHeap) : Prop :=
  ∃ n w' ρ' v', s.run P w = .ok n w' ∧ (n = .value v' ∨ (n = .skip ∧ v' = undef)) ∧ Ext ρ ρ' ∧ Rel B w0 ρ' y.2 w' ∧ VR ρ' y.1 v'

theorem Met.quiet {s : Sem Next} {v v' : Value} (h : Rel B w0 ρ σ w) (hr : s.run P w = .ok (.value v') w) (hv : VR ρ v v') : Met P B w0 ρ w s (v, σ) :=
  ⟨_, w, ρ, v', hr, .inl rfl, Ext.refl _, h, hv⟩

theorem VR_map {l : List Operand} {ev ev' : Operand → Value} (hev : ∀ x, VR ρ (ev x) (ev' x)) : LR ρ (l.map ev) (l.map ev') := by
  refine ⟨by simp, fun i v v' a b => ?_⟩
  simp only [List.getElem?_map, Option.map_eq_some_iff] at a b
  obtain ⟨x, hx, rfl⟩ := a
  obtain ⟨y, hy, rfl⟩ := b
  rw [hx] at hy; cases hy
  exact hev x

theorem VO_map {x : Option Operand} {ev ev' : Operand → Value} (hev : ∀ x, VR ρ (ev x) (ev' x)) : VO ρ (x.map ev) (x.map ev') := by
  cases x with
  | none => exact .none
  | some x => exact .some _ _ (hev x)

theorem PR_map {l : List (Nat × Operand)} {ev ev' : Operand → Value} (hev : ∀ x, VR ρ (ev x) (ev' x)) : PR ρ (l.map fun p => (p.1, ev p.2)) (l.map fun p => (p.1, ev' p.2)) := by
  refine ⟨by simp, fun i p p' a b => ?_⟩
  simp only [List.getElem?_map, Option.map_eq_some_iff] at a b
  obtain ⟨x, hx, rfl⟩ := a
  obtain ⟨y, hy, rfl⟩ := b
  rw [hx] at hy; cases hy
  exact ⟨rfl, hev _⟩

theorem aBuiltin_sound (h : Rel B w0 ρ σ w) {b : Builtin} {ts : Array TypeId} {ty : TypeId} {cs : Array Bool} {args args' : List Value} {y : Value × AHeap} (ha : LR ρ args args') (hy : aBuiltin P b ts.toList args σ = some y) :
    Met P B w0 ρ w (builtin b ts ty cs args'.toArray) y := by
  obtain ⟨ts⟩ := ts
  unfold aBuiltin at hy
  split at hy
  · rename_i t u s x hts
    simp only at hts; subst hts
    obtain ⟨s', l1, rfl, h1, ha⟩ := ha.cons_inv
    obtain ⟨x', l2, rfl, h2, ha⟩ := ha.cons_inv
    rw [ha.nil_inv]
    split at hy
    · rename_i e z by' he
      split at hy
      · rename_i zv hz
        cases hu : notInt P u with
        | false =>
          rw [hu] at hy
          simp only [cond_false] at hy
          cases hu2 : isInt P u with
          | false => rw [hu2] at hy; cases hy
          | true =>
            rw [hu2] at hy
            simp only [cond_true] at hy
            obtain ⟨v', w', ρ', e1, e2, e3, e4⟩ := aAppendZ_sound (ty := ty) h he hz hu2 h1 h2 hy
            exact ⟨_, w', ρ', v', by simp [builtin, e1], .inl rfl, e2, e3, e4⟩
        | true =>
          rw [hu] at hy
          simp only [cond_true] at hy
          obtain ⟨v', w', ρ', e1, e2, e3, e4⟩ := aAppend_sound (ty := ty) h he hz hu h1 h2 hy
          exact ⟨_, w', ρ', v', by simp [builtin, e1], .inl rfl, e2, e3, e4⟩
      · cases hy
    · cases hy
  · rename_i t u d x hts
    simp only at hts; subst hts
    obtain ⟨s', l1, rfl, h1, ha⟩ := ha.cons_inv
    obtain ⟨x', l2, rfl, h2, ha⟩ := ha.cons_inv
    rw [ha.nil_inv]
    split at hy
    · rename_i e z by' he
      obtain ⟨v', w', e1, e2, e3⟩ := aCopy_sound (u := u) (ty := ty) h he h1 h2 hy
      exact ⟨_, w', ρ, v', by simp [builtin, e1], .inl rfl, Ext.refl _, e2, e3⟩
    · cases hy
  · rename_i t x hts
    simp only at hts; subst hts
    obtain ⟨x', l1, rfl, h1, ha⟩ := ha.cons_inv
    rw [ha.nil_inv]
    simp only [Option.bind_eq_some_iff] at hy
    obtain ⟨v, hv, hy'⟩ := hy
    cases hy'
    obtain ⟨e1, e2⟩ := aLenM_sound (ty := ty) h h1 hv
    exact .quiet h (by simp [builtin, e1]) e2
  · rename_i t u m k hts
    simp only at hts; subst hts
    obtain ⟨m', l1, rfl, h1, ha⟩ := ha.cons_inv
    obtain ⟨k', l2, rfl, h2, ha⟩ := ha.cons_inv
    rw [ha.nil_inv]
    simp only [Option.bind_eq_some_iff] at hy
    obtain ⟨σ', hs, hy'⟩ := hy
    cases hy'
    obtain ⟨w', e1, e2⟩ := aDelete_sound (u := u) (ty := ty) h h1 h2 hs
    exact ⟨_, w', ρ, .tuple #[], by simp [builtin, e1], .inl rfl, Ext.refl _, e2, VR.tuple' (LR.nil _)⟩
  · rename_i x z hts
    obtain ⟨x', l1, rfl, h1, ha⟩ := ha.cons_inv
    obtain ⟨z', l2, rfl, h2, ha⟩ := ha.cons_inv
    rw [ha.nil_inv]
    simp only [Option.bind_eq_some_iff] at hy
    obtain ⟨v, hv, hy'⟩ := hy
    cases hy'
    obtain ⟨e1, e2⟩ := aMin2_sound (w := w) (P := P) (t := ty) (ty := ty) (ts := ⟨ts⟩) h1 h2 hv
    exact .quiet h (by simp [builtin, e1]) e2
  · rename_i x z hts
    obtain ⟨x', l1, rfl, h1, ha⟩ := ha.cons_inv
    obtain ⟨z', l2, rfl, h2, ha⟩ := ha.cons_inv
    rw [ha.nil_inv]
    simp only [Option.bind_eq_some_iff] at hy
    obtain ⟨v, hv, hy'⟩ := hy
    cases hy'
    obtain ⟨e1, e2⟩ := aMax2_sound (w := w) (P := P) (t := ty) (ty := ty) (ts := ⟨ts⟩) h1 h2 hv
    exact .quiet h (by simp [builtin, e1]) e2
  · cases hy

theorem VR.asB {x x' : Value} {b : Bool} (hx : VR ρ x x') (h : Ax.asB x = some b) : x' = .bool b := by
  unfold Ax.asB at h
  split at h
  · cases h; exact hx.bool_inv
  · cases h

theorem aop_sound (h : Rel B w0 ρ σ w) {o : Oper} {ev ev' : Operand → Value} {y : Value × AHeap} (hev : ∀ x, VR ρ (ev x) (ev' x)) (hy : aop P ev o σ = some y) :
    Met P B w0 ρ w (execOp ev' o) y := by
  obtain ⟨dst, op, type, pos, after, guard⟩ := o
  unfold aop at hy
  cases op <;> simp only [reduceCtorEq, Option.bind_eq_some_iff] at hy
  case move x => cases hy; exact .quiet h (by simp [execOp]) (hev x)
  case assign x => cases hy; exact .quiet h (by simp [execOp]) (hev x)
  case pick c a b =>
    obtain ⟨t, ht, hy⟩ := hy
    cases hy
    have := (hev c).asB ht
    refine .quiet h (v' := cond t (ev' a) (ev' b)) ?_ ?_
    · cases t <;> simp [execOp, this, asBool]
    · cases t <;> exact hev _
  case alloc e =>
    obtain ⟨z, hz, hy⟩ := hy
    cases hy
    obtain ⟨v', w', ρ', e1, e2, e3, e4⟩ := aAlloc_sound h hz true (.tuple #[]) rfl
    exact ⟨_, w', ρ', v', by simp [execOp, e1], .inl rfl, e2, e3, e4⟩
  case box e x =>
    obtain ⟨v', w', ρ', e1, e2, e3, e4⟩ := aBox_sound (P := P) h (hev x) hy
    exact ⟨_, w', ρ', v', by simp [execOp, e1], .inl rfl, e2, e3, e4⟩
  case build t ps =>
    obtain ⟨v, hv, hy⟩ := hy
    cases hy
    obtain ⟨v', e1, e2⟩ := aBuild_sound (w := w) (parts' := ps.map fun p => (p.1, ev' p.2)) (by simpa using PR_map (l := ps.toList) hev) hv
    exact .quiet h (by simp [execOp, e1]) e2
  case buildSlice t n ps =>
    cases hn : (Nat.beq n 0 && !ps.toList.isEmpty) with
    | true => rw [hn] at hy; cases hy
    | false =>
      rw [hn] at hy
      simp only [cond_false] at hy
      have hps : n = 0 → (ps.toList.map fun p => (p.1, ev p.2)) = [] := by
        intro e
        subst e
        cases hl : ps.toList with
        | nil => rfl
        | cons p l => rw [hl] at hn; simp at hn
      obtain ⟨v', w', ρ', e1, e2, e3, e4⟩ := aBuildSlice_sound (P := P) h (parts' := ps.map fun p => (p.1, ev' p.2)) (by simpa using PR_map (l := ps.toList) hev) hy hps
      exact ⟨_, w', ρ', v', by simp [execOp, e1], .inl rfl, e2, e3, e4⟩
  case load t a =>
    obtain ⟨⟨g, n⟩, hg, v, hv, hy⟩ := hy
    cases hy
    obtain ⟨v', e1, e2⟩ := aLoad_sound h hg (hev a) hv
    exact .quiet h (by simp [execOp, e1]) e2
  case store t a x =>
    obtain ⟨⟨g, n⟩, hg, σ', hs, hy⟩ := hy
    cases hy
    obtain ⟨w', e1, e2, _⟩ := aStore_sound h hg (hev a) (hev x) hs
    exact ⟨.skip, w', ρ, undef, by simp [execOp, e1], .inr ⟨rfl, rfl⟩, Ext.refl _, e2, .dead _⟩
  case nilCheck x =>
    obtain ⟨v, hv, hy⟩ := hy
    cases hy
    obtain ⟨v', e1, e2⟩ := aNil_sound (P := P) (w := w) (hev x) hv ⟨dst, .nilCheck x, type, pos, after, guard⟩ x rfl rfl
    exact .quiet h e1 e2
  case binOp op t x y' ty =>
    obtain ⟨v, hv, hy⟩ := hy
    cases hy
    obtain ⟨e1, e2⟩ := aBinP_sound (w := w) x y' (hev x) (hev y') hv
    refine .quiet h (v' := v) ?_ e2
    simp only [execOp]
    rw [Sem.run_bind, e1]
    rfl
  case unOp op t x =>
    obtain ⟨v, hv, hy⟩ := hy
    cases hy
    obtain ⟨e1, e2⟩ := aUn_sound (P := P) (w := w) (hev x) hv
    exact .quiet h (by simp [execOp, e1]) e2
  case convert s d x =>
    obtain ⟨v, hv, hy⟩ := hy
    cases hy
    obtain ⟨v', w', e1, e2, e3⟩ := aConv_sound h (hev x) hv
    exact ⟨_, w', ρ, v', by simp [execOp, e1], .inl rfl, Ext.refl _, e2, e3⟩
  case makeInterface t x =>
    obtain ⟨v, hv, hy⟩ := hy
    cases hy
    obtain ⟨v', e1, e2⟩ := aIface_sound (w := w) (hev x) hv
    exact .quiet h (by simp [execOp, e1]) e2
  case makeFunc fn f c =>
    cases hy
    refine .quiet h (v' := .func fn (f.map ev') (c.map ev')) (by simp [execOp, Instr.makeFunc]) ?_
    have hf := (VR_map (l := f.toList) hev)
    have hc := (VR_map (l := c.toList) hev)
    have hf' : LR ρ (f.toList.map ev).toArray.toList (f.map ev').toList := by simpa using hf
    have hc' : LR ρ (c.toList.map ev).toArray.toList (c.map ev').toList := by simpa using hc
    exact .func _ _ _ _ _ hf'.arr.1 hc'.arr.1 hf'.arr.2 hc'.arr.2
  case makeSlice t l c =>
    split at hy
    · rename_i e z by' he
      split at hy
      · rename_i zv hz
        obtain ⟨v', w', ρ', e1, e2, e3, e4⟩ := aMake_sound h he hz (hev l) (hev c) hy
        exact ⟨_, w', ρ', v', by simp [execOp, e1], .inl rfl, e2, e3, e4⟩
      · cases hy
    · cases hy
  case slice t x lo hi mx =>
    obtain ⟨v, hv, hy⟩ := hy
    cases hy
    obtain ⟨v', e1, e2⟩ := aSliceOp_sound (w := w) (hev x) (VO_map hev) (VO_map hev) (VO_map hev) hv
    exact .quiet h (by simp [execOp, e1]) e2
  case fieldAddr t x f =>
    obtain ⟨off, ho, v, hv, hy⟩ := hy
    cases hy
    obtain ⟨v', e1, e2⟩ := aFieldAddr_sound (w := w) ho (hev x) hv
    exact .quiet h (by simp [execOp, e1]) e2
  case field t x f =>
    obtain ⟨v, hv, hy⟩ := hy
    cases hy
    obtain ⟨v', e1, e2⟩ := aField_sound (w := w) (hev x) hv
    exact .quiet h (by simp [execOp, e1]) e2
  case indexAddr t x i =>
    obtain ⟨v, hv, hy⟩ := hy
    cases hy
    obtain ⟨v', e1, e2⟩ := aIndexAddrOp_sound (w := w) (hev x) (hev i) hv
    exact .quiet h (by simp [execOp, e1]) e2
  case index t x i =>
    obtain ⟨v, hv, hy⟩ := hy
    cases hy
    obtain ⟨v', e1, e2⟩ := aIndex_sound (w := w) (hev x) (hev i) hv
    exact .quiet h (by simp [execOp, e1]) e2
  case extract x i =>
    obtain ⟨v, hv, hy⟩ := hy
    cases hy
    obtain ⟨v', e1, e2⟩ := aExtract_sound (P := P) (w := w) (hev x) hv
    exact .quiet h (by simp [execOp, e1]) e2
  case makeMap t r =>
    obtain ⟨v', w', ρ', e1, e2, e3, e4⟩ := aMakeMap_sound (P := P) h (VO_map hev) hy
    exact ⟨_, w', ρ', v', by simp [execOp, e1], .inl rfl, e2, e3, e4⟩
  case lookup t x i ok =>
    obtain ⟨v, hv, hy⟩ := hy
    cases hy
    obtain ⟨v', e1, e2⟩ := aLookup_sound h (hev x) (hev i) hv
    exact .quiet h (by simp [execOp, e1]) e2
  case mapUpdate t m k x =>
    obtain ⟨σ', hs, hy⟩ := hy
    cases hy
    obtain ⟨w', e1, e2⟩ := aMapUpdate_sound h (hev m) (hev k) (hev x) hs
    exact ⟨.skip, w', ρ, undef, by simp [execOp, e1], .inr ⟨rfl, rfl⟩, Ext.refl _, e2, .dead _⟩
  case range t x =>
    obtain ⟨v', w', ρ', e1, e2, e3, e4⟩ := aRange_sound (P := P) h (hev x) hy
    exact ⟨_, w', ρ', v', by simp [execOp, e1], .inl rfl, e2, e3, e4⟩
  case next it str =>
    cases str with
    | false => cases hy
    | true =>
      obtain ⟨v', w', e1, e2, e3⟩ := aNextStr_sound (P := P) (t := type) h (hev it) hy
      exact ⟨_, w', ρ, v', by simp [execOp, e1], .inl rfl, Ext.refl _, e2, e3⟩
  case entry it =>
    obtain ⟨v, hv, hy⟩ := hy
    cases hy
    obtain ⟨v', e1, e2⟩ := aEntry_sound (P := P) h (hev it) hv
    exact .quiet h (by simp [execOp, e1]) e2
  case typeAssert x xt t ok =>
    obtain ⟨v, hv, hy⟩ := hy
    cases hy
    obtain ⟨v', e1, e2⟩ := aAssert_sound (P := P) (w := w) (xt := xt) (hev x) hv
    exact .quiet h (by simp [execOp, e1]) e2
  case call c =>
    split at hy
    · rename_i b hb
      have he : (c.args.toList.map ev').toArray = c.args.map ev' := by apply Array.ext'; simp
      have key : ∀ cs, Met P B w0 ρ w (builtin b c.argTypes type cs (c.args.map ev')) y := fun cs => by
        have := aBuiltin_sound (ty := type) (cs := cs) h (VR_map (l := c.args.toList) hev) hy
        rwa [he] at this
      have hx : ∃ cs, execOp ev' ⟨dst, .call c, type, pos, after, guard⟩ = builtin b c.argTypes type cs (c.args.map ev') := ⟨_, by simp only [execOp, resolve, hb, pure_bind, invoke]; rfl⟩
      obtain ⟨cs, hx⟩ := hx
      rw [hx]; exact key cs
    · cases hy
end
end Go.Ax
/- The abstract interpreter of the machine's code, and that what it comes to is what the machine comes to. No statement of the seat is proved here. -/
namespace Go.Ax
open Go.RowKit

/-! ### Outcomes: none: nothing is known; some L: one of L -/
abbrev ND (β : Type) := Option (List β)
def allOf {β : Type} : List (ND β) → ND β
  | [] => some []
  | [x] => x
  | x :: y :: l => match x, allOf (y :: l) with
    | some a, some b => some (a ++ b)
    | _, _ => none
def bindL {α β : Type} (m : ND α) (k : α → ND β) : ND β :=
  match m with
  | none => none
  | some L => allOf (L.map k)

theorem allOf_mem {β : Type} : ∀ {l : List (ND β)} {R : List β}, allOf l = some R → ∀ x ∈ l, ∃ R', x = some R' ∧ ∀ r ∈ R', r ∈ R
  | [], R, h, x, hx => by simp at hx
  | [y], R, h, x, hx => by simp at hx; subst hx; exact ⟨R, h, fun _ hr => hr⟩
  | y :: z :: l, R, h, x, hx => by
    unfold allOf at h
    split at h
    · rename_i a b hb
      cases h
      rcases List.mem_cons.1 hx with rfl | hx
      · exact ⟨_, rfl, fun r hr => List.mem_append_left _ hr⟩
      · obtain ⟨R', h1, h2⟩ := allOf_mem hb x hx
        exact ⟨R', h1, fun r hr => List.mem_append_right _ (h2 r hr)⟩
    · cases h

theorem bindL_some {α β : Type} {m : ND α} {k : α → ND β} {R : List β} (h : bindL m k = some R) : ∃ L, m = some L ∧ ∀ x ∈ L, ∃ R', k x = some R' ∧ ∀ r ∈ R', r ∈ R := by
  unfold bindL at h
  split at h
  · cases h
  · rename_i L
    exact ⟨L, rfl, fun x hx => allOf_mem h _ (List.mem_map_of_mem hx)⟩

@[simp] theorem bindL_one {α β : Type} (x : α) (k : α → ND β) : bindL (some [x]) k = k x := rfl
@[simp] theorem bindL_none {α β : Type} (k : α → ND β) : bindL none k = none := rfl

/-! ### Frames -/
abbrev Fr := Tr Value
def fget (fr : Fr) (t : Nat) : Value :=
  match fr.get t with
  | some v => v
  | none => undef
def fput (fr : Fr) (d : Option Tmp) (v : Value) : Fr :=
  match d with
  | some d => fr.set d v
  | none => fr
def fev (fr : Fr) : Operand → Value
  | .tmp t => fget fr t
  | .const v => cond (v.cells.toList.all flat1) v undef
  | .func f => .func (.func f) #[] #[]
  | .global _ => undef
def fpick (L : List Nat) (fr : Fr) : List Value := L.map (fget fr)
def fmake : List Nat → List Value → Fr
  | t :: L, v :: vs => (fmake L vs).set t v
  | _, _ => .leaf

theorem fget_set (fr : Fr) (t u : Nat) (v : Value) : fget (fr.set t v) u = if u = t then v else fget fr u := by
  unfold fget; rw [Tr.get_set]; by_cases h : u = t <;> simp [h]
theorem fget_leaf (t : Nat) : fget .leaf t = undef := by unfold fget; rw [Tr.get_leaf]

/-! ### Code, with what is alive at a loop's head, at its ends, behind a join -/
inductive AC where
  | skip
  | region (id : Nat) (ops : List Oper)
  | dregion (id : Nat) (ops : List Oper) (ord : List (Nat × List Nat))
  | seq (a b : AC)
  | cond (c : Operand) (thn els : AC)
  | block (id : Nat) (b : AC)
  | loop (L Lx : List Nat) (b : AC)
  | exit (id : Nat)
  | ret
  | join (L : List Nat) (b : AC)
  | other (c : Code)

def AC.erase : AC → Code
  | .skip => .skip
  | .region id ops => .region id ops.toArray false
  | .dregion id ops _ => .region id ops.toArray true
  | .seq a b => .seq a.erase b.erase
  | .cond c a b => .cond c a.erase b.erase
  | .block id b => .block id b.erase
  | .loop _ _ b => .loop b.erase
  | .exit id => .exit id
  | .ret => .ret
  | .join _ b => b.erase
  | .other c => c

inductive Tag where
  | norm
  | exit (i : Nat)
  | ret
abbrev JR := Tag × List Value × AHeap
abbrev K (β : Type) := Fr → AHeap → ND β
abbrev CallF := FuncId → List Value → AHeap → ND (Value × AHeap)

section interp
variable (P : Program) (call : CallF)

/-- What one operation comes to. -/
def aval (ev : Operand → Value) (o : Oper) (σ : AHeap) : ND (Value × AHeap) :=
  match o.op with
  | .call c => match c.callee with
    | .value f => match ev f with
      | .func (.func g) first captured => call g (first.toList ++ c.args.toList.map ev ++ captured.toList) σ
      | _ => none
    | .invoke r name => match aMethod P (ev r) name σ with
      | some (g, v) => call g (v :: c.args.toList.map ev) σ
      | none => none
    | _ => match aop P ev o σ with
      | some r => some [r]
      | none => none
  | .next it false => aNextMap (ev it) σ
  | _ => match aop P ev o σ with
    | some r => some [r]
    | none => none

def aone {β : Type} (o : Oper) (k : K β) (fr : Fr) (σ : AHeap) : ND β :=
  bindL (aval P call (fev fr) o σ) fun r => k (fput fr o.dst r.1) r.2

def aguard {β : Type} (all : List Oper) (o : Oper) (yes no : K β) (fr : Fr) (σ : AHeap) : ND β :=
  match o.guard with
  | none => yes fr σ
  | some (j, want) => match (all[j]?).bind (·.dst) with
    | some t => match asB (fget fr t) with
      | some true => cond want (yes (fr.set t (.bool true)) σ) (no (fr.set t (.bool true)) σ)
      | some false => cond want (no (fr.set t (.bool false)) σ) (yes (fr.set t (.bool false)) σ)
      | none => cond (isSkip (fget fr t)) (no fr σ) none
    | none => none

def aops {β : Type} (all : List Oper) : List Oper → K β → K β
  | [], kn => kn
  | o :: os, kn => aguard all o (aone P call o (aops all os kn)) (fun fr σ => aops all os kn (fput fr o.dst skipV) σ)

def veq0 : Value → Value → Bool
  | .bool a, .bool b => a == b
  | .int j a, .int k b => decide (j = k) && a == b
  | .string a, .string b => decide (a.data.toList = b.data.toList)
  | .pointer a, .pointer b => decide (a = b)
  | .slice a l c, .slice b m d => decide (a = b) && Nat.beq l m && Nat.beq c d
  | .map a, .map b => decide (a = b)
  | .nilFunc, .nilFunc => true
  | .nilIface, .nilIface => true
  | _, _ => false
def veq : Value → Value → Bool
  | .iface t v, .iface u w => Nat.beq t u && veq0 v w
  | a, b => veq0 a b
def veqs : List Value → List Value → Bool
  | [], [] => true
  | a :: l, b :: m => veq a b && veqs l m
  | _, _ => false
def veq1 : Value → Value → Bool
  | .agg a, .agg b => veqs a.toList b.toList
  | .tuple a, .tuple b => veqs a.toList b.toList
  | a, b => veq a b

/-- The reads that stood before and could as well stand here: they read the same here. -/
def arecheck {β : Type} (all : List Oper) : List Nat → K β → K β
  | [], k => k
  | q :: qs, k => fun fr σ => match all[q]? with
    | none => none
    | some o => aguard all o (fun fr σ => match aop P (fev fr) o σ, o.dst with
      | some (v, _), some d => cond (veq1 v (fget fr d)) (arecheck all qs k fr σ) none
      | _, _ => none) (arecheck all qs k) fr σ

def adops {β : Type} (all : List Oper) : List (Nat × List Nat) → K β → K β
  | [], kn => kn
  | (i, chk) :: os, kn => fun fr σ => match all[i]? with
    | none => none
    | some o => aguard all o (aone P call o (arecheck P all chk (adops all os kn))) (fun fr σ => adops all os kn (fput fr o.dst skipV) σ) fr σ

def aloop {β : Type} (L : List Nat) (body : K β → K β) : Nat → List Value → AHeap → ND β
  | 0, _, _ => none
  | n + 1, vs, σ => body (fun fr σ => aloop L body n (fpick L fr) σ) (fmake L vs) σ

def acode (n : Nat) : AC → {β : Type} → K β → (Nat → K β) → K β → K β
  | .skip, _, kn, _, _ => kn
  | .region _ ops, _, kn, _, _ => aops P call ops ops kn
  | .dregion _ ops ord, _, kn, _, _ => adops P call ops ord kn
  | .seq a b, _, kn, ke, kr => acode n a (acode n b kn ke kr) ke kr
  | .cond c a b, _, kn, ke, kr => fun fr σ => match asB (fev fr c) with
    | some true => acode n a kn ke kr fr σ
    | some false => acode n b kn ke kr fr σ
    | none => none
  | .block id b, _, kn, ke, kr => acode n b kn (fun i fr σ => cond (Nat.beq i id) (kn fr σ) (ke i fr σ)) kr
  | .loop L Lx b, _, _, ke, kr => fun fr σ => bindL (aloop (β := JR) L (fun k => acode n b k (fun i fr σ => some [(.exit i, fpick Lx fr, σ)]) (fun fr σ => some [(.ret, fpick Lx fr, σ)])) n (fpick L fr) σ) fun r => match r with
    | (.exit i, vs, σ) => ke i (fmake Lx vs) σ
    | (.ret, vs, σ) => kr (fmake Lx vs) σ
    | (.norm, _, _) => none
  | .exit i, _, _, ke, _ => ke i
  | .ret, _, _, _, kr => kr
  | .other _, _, _, _, _ => fun _ _ => none
  | .join L b, _, kn, ke, kr => fun fr σ => bindL (acode n b (β := JR) (fun fr σ => some [(.norm, fpick L fr, σ)]) (fun i fr σ => some [(.exit i, fpick L fr, σ)]) (fun fr σ => some [(.ret, fpick L fr, σ)]) fr σ) fun r => match r with
    | (.norm, vs, σ) => kn (fmake L vs) σ
    | (.exit i, vs, σ) => ke i (fmake L vs) σ
    | (.ret, vs, σ) => kr (fmake L vs) σ
end interp

structure AFun where
  n : Nat
  params : Nat
  res : List ResultVar
  body : AC

def aresults (P : Program) (fr : Fr) (σ : AHeap) : List ResultVar → Option (List Value)
  | [] => some []
  | .tmp t :: l => (aresults P fr σ l).map (fget fr t :: ·)
  | .cell a t :: l => (shp P t).bind fun g => (aLoad g.1 g.2 (fget fr a) σ).bind fun v => (aresults P fr σ l).map (v :: ·)

def aret (P : Program) (res : List ResultVar) (fr : Fr) (σ : AHeap) : ND (Value × AHeap) :=
  match aresults P fr σ res with
  | some [v] => some [(v, σ)]
  | some l => some [(.tuple l.toArray, σ)]
  | none => none

def acall (P : Program) (F : FuncId → Option AFun) (X : FuncId → Option (List Value → AHeap → ND (Value × AHeap))) : Nat → CallF
  | 0, _, _, _ => none
  | n + 1, f, args, σ => match X f with
    | some x => x args σ
    | none => match F f with
      | some af => amerge σ.size <| cond (Nat.beq args.length af.params) (acode P (acall P F X n) n af.body (aret P af.res) (fun _ _ _ => none) (aret P af.res) (fmake (List.range af.params) args) σ) none
      | none => none

end Go.Ax
/- What the abstract interpreter comes to is what the machine comes to: frames, regions in the order of the text. No statement of the seat is proved here. -/
namespace Go.Ax
open Go.RowKit

structure FR (N : Nat) (ρ : List RB) (fr : Fr) (a : Act) : Prop where
  val : ∀ t, VR ρ (fget fr t) (a.tmps.getD t undef)
  defers : a.defers = []
  size : a.tmps.size = N

section
variable {P : Program} {B : Nat} {w0 : World} {ρ : List RB} {σ : AHeap} {w : World} {N : Nat} {fr : Fr} {a : Act}

theorem FR.mono {ρ' : List RB} (e : Ext ρ ρ') (h : FR N ρ fr a) : FR N ρ' fr a := ⟨fun t => (h.val t).mono e, h.defers, h.size⟩

theorem FR.put (h : FR N ρ fr a) {v v' : Value} (hv : VR ρ v v') {dst : Option Tmp} (hd : ∀ d, dst = some d → d < N) : FR N ρ (fput fr dst v) (a.put dst v') := by
  cases dst with
  | none => exact h
  | some d =>
    have hdN := hd d rfl
    refine ⟨fun t => ?_, h.defers, by simp [Act.put, h.size]⟩
    simp only [fput, fget_set, Act.put]
    by_cases ht : t = d
    · subst ht
      have : t < a.tmps.size := by rw [h.size]; exact hdN
      simp [this, Array.getD_eq_getD_getElem?]
      exact hv
    · have hne : ¬ d = t := fun e => ht e.symm
      rw [if_neg ht]
      have := h.val t
      simpa [Array.getD_eq_getD_getElem?, Array.getElem?_setIfInBounds, hne] using this

theorem FR.setb (h : FR N ρ fr a) {t : Nat} {b : Bool} (ht : fget fr t = .bool b) : FR N ρ (fr.set t (.bool b)) a := by
  refine ⟨fun u => ?_, h.defers, h.size⟩
  rw [fget_set]
  split
  · rename_i e; subst e; rw [← ht]; exact h.val u
  · exact h.val u

theorem FR.ev (h : FR N ρ fr a) (x : Operand) : VR ρ (fev fr x) (a.eval x) := by
  cases x with
  | tmp t => exact h.val t
  | const v =>
    simp only [fev, Act.eval]
    cases hc : v.cells.toList.all flat1 with
    | false => exact .dead _
    | true =>
      simp only [cond_true]
      cases v with
      | agg c => exact VR.agg' (flats_refl ρ hc)
      | tuple c =>
        simp [Value.cells, flat1] at hc
      | _ => exact flat1_refl ρ (by simpa [Value.cells] using hc)
  | func f => exact .func _ _ _ _ _ rfl rfl (fun i v v' x => by simp at x) (fun i v v' x => by simp at x)
  | global g => exact .dead _

theorem fmake_get (L : List Nat) (fr : Fr) (t : Nat) : fget (fmake L (fpick L fr)) t = fget fr t ∨ fget (fmake L (fpick L fr)) t = undef := by
  induction L with
  | nil => right; exact fget_leaf t
  | cons u L ih =>
    simp only [fpick, List.map_cons, fmake, fget_set]
    split
    · rename_i e; subst e; exact .inl rfl
    · exact ih

theorem FR.make (h : FR N ρ fr a) (L : List Nat) : FR N ρ (fmake L (fpick L fr)) a := by
  refine ⟨fun t => ?_, h.defers, h.size⟩
  rcases fmake_get L fr t with e | e
  · rw [e]; exact h.val t
  · rw [e]; exact .dead _

theorem VR.bool_of {x : Value} {b : Bool} (h : VR ρ (.bool b) x) : x = .bool b := h.bool_inv

theorem FR.yielded (h : FR N ρ fr a) {all : List Oper} {j t : Nat} {b : Bool} (hj : (all[j]?).bind (·.dst) = some t) (hb : fget fr t = .bool b) : yielded all.toArray a.tmps j = some b := by
  have hv := h.val t
  rw [hb] at hv
  have hv := hv.bool_inv
  have ht : a.tmps[t]? = some (.bool b) := by
    rw [Array.getD_eq_getD_getElem?] at hv
    cases hx : a.tmps[t]? with
    | none => rw [hx] at hv; simp [undef] at hv
    | some v => rw [hx] at hv; simp at hv; rw [hv]
  unfold Go.yielded
  have hj' : ((all.toArray[j]?).bind (·.dst)) = some t := by simpa using hj
  rw [hj']
  simp [ht]

theorem yielded_skip {all : List Oper} {j t : Nat} (hj : (all[j]?).bind (·.dst) = some t) {tmps : Array Value} (hv : tmps.getD t undef = undef) : yielded all.toArray tmps j = none := by
  unfold Go.yielded
  have hj' : ((all.toArray[j]?).bind (·.dst)) = some t := by simpa using hj
  rw [hj']
  rw [Array.getD_eq_getD_getElem?] at hv
  simp only [Option.bind_some]
  cases hx : tmps[t]? with
  | none => rfl
  | some v => rw [hx] at hv; simp at hv; rw [hv]; rfl

/-- What follows: whatever frame, heap and world stand for one another there. -/
def KS (B : Nat) (w0 : World) (N : Nat) (ρ : List RB) {β : Type} (R : List β) (k : K β) (Q : Act → World → Prop) : Prop :=
  ∀ ρ' fr σ a w R', Ext ρ ρ' → FR N ρ' fr a → Rel B w0 ρ' σ w → k fr σ = some R' → (∀ r ∈ R', r ∈ R) → Q a w

theorem KS.mono {ρ' : List RB} (e : Ext ρ ρ') {β : Type} {R : List β} {k : K β} {Q : Act → World → Prop} (h : KS B w0 N ρ R k Q) : KS B w0 N ρ' R k Q :=
  fun ρ2 fr σ a w R' e2 => h ρ2 fr σ a w R' (e.trans e2)

/-- A function's contract by the abstract interpreter. -/
def CallOk (P : Program) (call : CallF) : Prop :=
  ∀ g args σ R, call g args σ = some R → ∀ B w0 ρ w args', Rel B w0 ρ σ w → LR ρ args args' →
    ∃ fn, P.funcs[g]? = some fn ∧ (fn.name == "runtime.NumGoroutine") = false ∧
      ((fn.body.isNone = false ∧ Calls P g args'.toArray w fun e w' => ∃ v v' ρ' σ', (v, σ') ∈ R ∧ e = .returned v' ∧ Ext ρ ρ' ∧ Rel B w0 ρ' σ' w' ∧ VR ρ' v v') ∨
       (∃ v v' ρ' σ' w', (v, σ') ∈ R ∧ (callFunc g args'.toArray).run P w = .ok (.value v') w' ∧ Ext ρ ρ' ∧ Rel B w0 ρ' σ' w' ∧ VR ρ' v v'))

theorem run_callFunc {g : FuncId} {fn : Func} {args : Array Value} (hf : P.funcs[g]? = some fn) (hn : (fn.name == "runtime.NumGoroutine") = false) (hb : fn.body.isNone = false) :
    (callFunc g args).run P w = .ok (.enter g args) w := by
  simp only [beq_eq_false_iff_ne, ne_eq] at hn
  cases hbb : fn.body with
  | none => rw [hbb] at hb; simp at hb
  | some c => simp [callFunc, program, Sem.run, hf, hn, hbb]

/-- What an operation's operands look at. -/
theorem aop_congr {ev ev' : Operand → Value} {o : Oper} (h : ∀ x ∈ o.op.operands, ev x = ev' x) : aop P ev o σ = aop P ev' o σ := by
  obtain ⟨dst, op, type, pos, after, guard⟩ := o
  have key : ∀ (l : List (Nat × Operand)), (∀ p ∈ l, ev p.2 = ev' p.2) → (l.map fun p => (p.1, ev p.2)) = l.map fun p => (p.1, ev' p.2) := by
    intro l hl
    apply List.map_congr_left
    intro p hp
    rw [hl p hp]
  have key2 : ∀ (l : List Operand), (∀ p ∈ l, ev p = ev' p) → l.map ev = l.map ev' := by
    intro l hl
    exact List.map_congr_left hl
  have key3 : ∀ (l : Option Operand), (∀ p ∈ l, ev p = ev' p) → l.map ev = l.map ev' := by
    intro l hl
    cases l with
    | none => rfl
    | some x => simp [hl x rfl]
  unfold aop
  cases op <;> simp only [Op.operands] at h <;> try rfl
  case call c =>
    simp only [Call.operands] at h
    cases hc : c.callee with
    | builtin b =>
      rw [hc] at h
      simp only
      rw [key2 c.args.toList (fun p hp => h p (by simpa using hp))]
    | _ => simp only [hc]
  case build t ps => simp only; rw [key ps.toList (fun p hp => h p.2 (by simp; exact ⟨p.1, by simpa using hp⟩))]
  case buildSlice t n ps => simp only; rw [key ps.toList (fun p hp => h p.2 (by simp; exact ⟨p.1, by simpa using hp⟩))]
  case makeFunc fn f c => simp only; rw [key2 f.toList (fun p hp => h p (by simp; left; simpa using hp)), key2 c.toList (fun p hp => h p (by simp; right; simpa using hp))]
  case slice t x lo hi mx =>
    simp only
    rw [h x (by simp), key3 lo (fun p hp => h p (by simp; cases lo <;> simp_all)), key3 hi (fun p hp => h p (by simp; cases hi <;> simp_all)), key3 mx (fun p hp => h p (by simp; cases mx <;> simp_all))]
  all_goals simp only
  case move x => rw [h x (by simp)]
  case assign x => rw [h x (by simp)]
  case pick c a b => rw [h c (by simp), h a (by simp), h b (by simp)]
  case box e x => rw [h x (by simp)]
  case load t x => rw [h x (by simp)]
  case store t x y => rw [h x (by simp), h y (by simp)]
  case nilCheck x => rw [h x (by simp)]
  case binOp op t x y ty => rw [h x (by simp), h y (by simp)]
  case unOp op t x => rw [h x (by simp)]
  case convert s d x => rw [h x (by simp)]
  case makeInterface t x => rw [h x (by simp)]
  case makeSlice t x y => rw [h x (by simp), h y (by simp)]
  case fieldAddr t x f => rw [h x (by simp)]
  case field t x f => rw [h x (by simp)]
  case indexAddr t x i => rw [h x (by simp), h i (by simp)]
  case index t x i => rw [h x (by simp), h i (by simp)]
  case extract x i => rw [h x (by simp)]
  case makeMap t r => rw [key3 r (fun p hp => h p (by simpa using hp))]
  case lookup t x i ok => rw [h x (by simp), h i (by simp)]
  case mapUpdate t m k x => rw [h m (by simp), h k (by simp), h x (by simp)]
  case range t x => rw [h x (by simp)]
  case next it str => rw [h it (by simp)]
  case entry it => rw [h it (by simp)]
  case typeAssert x xt t ok => rw [h x (by simp)]

theorem invoke_method (x : Value) (l cap : Array Value) (name : String) : invoke (.fn (.method name) cap) (#[x] ++ l) = callMethod x name l := by
  have h0 : (#[x] ++ l)[0]? = some x := by simp [Array.getElem?_append]
  have h1 : (#[x] ++ l).extract 1 (#[x] ++ l).size = l := by apply Array.ext'; simp [List.take_of_length_le]
  simp only [invoke, h0, h1]

theorem aval_sound {call : CallF} (hcall : CallOk P call) {o : Oper} {ev : Operand → Value} {L : List (Value × AHeap)} {next : Act → World → Prop} {Q : Exit → Act → World → Prop}
    (hev : ∀ x ∈ o.op.operands, VR ρ (ev x) (a.eval x)) (h : Rel B w0 ρ σ w) (hr : aval P call ev o σ = some L)
    (hk : ∀ v σ' ρ' v' w', (v, σ') ∈ L → Ext ρ ρ' → Rel B w0 ρ' σ' w' → VR ρ' v v' → next (a.put o.dst v') w') :
    o.wp P a w next Q := by
  have plain : (match aop P ev o σ with
      | some r => some [r]
      | none => none) = some L → o.wp P a w next Q := by
    intro hr
    split at hr
    · rename_i y hy
      cases hr
      have hex : ∃ ev' : Operand → Value, (∀ x ∈ o.op.operands, ev x = ev' x) ∧ ∀ x, VR ρ (ev' x) (a.eval x) := by
        classical
        refine ⟨fun x => if x ∈ o.op.operands then ev x else undef, fun x hx => (if_pos hx).symm, fun x => ?_⟩
        simp only
        split
        · rename_i hx; exact hev x hx
        · exact .dead _
      obtain ⟨ev', he1, he2⟩ := hex
      rw [aop_congr he1] at hy
      obtain ⟨n, w', ρ', v', e1, e2, e3, e4, e5⟩ := aop_sound h he2 hy
      unfold Oper.wp
      rw [e1]
      have hfin := hk y.1 y.2 ρ' v' w' (by simp) e3 e4 e5
      rcases e2 with rfl | ⟨rfl, rfl⟩
      · exact hfin
      · exact hfin
    · cases hr
  unfold aval at hr
  split at hr
  · rename_i c hop
    split at hr
    · rename_i f hcal
      split at hr
      · rename_i g first captured hfv
        have hev2 : ∀ x ∈ c.args.toList, VR ρ (ev x) (a.eval x) := fun x hx => hev x (by rw [hop]; simp only [Op.operands, Call.operands, hcal]; simp; right; simpa using hx)
        have hev1 := hev f (by rw [hop]; simp only [Op.operands, Call.operands, hcal]; simp)
        rw [hfv] at hev1
        generalize hfa : a.eval f = fa at hev1
        cases hev1 with
        | func fn f1 f' c1 c' h1 h2 h3 h4 =>
          have hfirst := LR.of_arr h1 h3
          have hcap := LR.of_arr h2 h4
          have hmid : LR ρ (c.args.toList.map ev) (c.args.toList.map a.eval) := by
            refine ⟨by simp, fun i v v' x y => ?_⟩
            simp only [List.getElem?_map, Option.map_eq_some_iff] at x y
            obtain ⟨u, hu, rfl⟩ := x
            obtain ⟨u', hu', rfl⟩ := y
            rw [hu] at hu'; cases hu'
            exact hev2 u (List.mem_of_getElem? hu)
          have hargs : LR ρ (first.toList ++ c.args.toList.map ev ++ captured.toList) (f'.toList ++ c.args.toList.map a.eval ++ c'.toList) :=
            (hfirst.append hmid).append hcap
          obtain ⟨fn, hfn, hname, hor⟩ := hcall g _ σ L hr B w0 ρ w _ h hargs
          have harr : (f'.toList ++ c.args.toList.map a.eval ++ c'.toList).toArray = f' ++ c.args.map a.eval ++ c' := by apply Array.ext'; simp
          rw [harr] at hor
          have hexec : (execOp a.eval o).run P w = (callFunc g (f' ++ c.args.map a.eval ++ c')).run P w := by
            have : o = { o with op := .call c } := by rw [← hop]
            rw [this]
            simp [execOp, resolve, hcal, Deferred.ofValue, hfa, invoke]
          unfold Oper.wp
          rw [hexec]
          rcases hor with ⟨hb, hc⟩ | ⟨v, v', ρ', σ', w', hm, hrun, e1, e2, e3⟩
          · rw [run_callFunc hfn hname hb]
            refine Calls.mono hc fun e w' he => ?_
            obtain ⟨v, v', ρ', σ', hm, rfl, e1, e2, e3⟩ := he
            exact hk v σ' ρ' v' w' hm e1 e2 e3
          · rw [hrun]
            exact hk v σ' ρ' v' w' hm e1 e2 e3
      · cases hr
    · rename_i r name hcal
      split at hr
      · rename_i g v0 hmv
        have hev2 : ∀ x ∈ c.args.toList, VR ρ (ev x) (a.eval x) := fun x hx => hev x (by rw [hop]; simp only [Op.operands, Call.operands, hcal]; simp; right; simpa using hx)
        have hev1 := hev r (by rw [hop]; simp only [Op.operands, Call.operands, hcal]; simp)
        obtain ⟨t, u, v1, hru, hmeth, hv1⟩ := aMethod_sound (P := P) h hev1 hmv
        have hmid : LR ρ (c.args.toList.map ev) (c.args.toList.map a.eval) := by
          refine ⟨by simp, fun i v v' x y => ?_⟩
          simp only [List.getElem?_map, Option.map_eq_some_iff] at x y
          obtain ⟨u, hu, rfl⟩ := x
          obtain ⟨u', hu', rfl⟩ := y
          rw [hu] at hu'; cases hu'
          exact hev2 u (List.mem_of_getElem? hu)
        obtain ⟨fn, hfn, hname, hor⟩ := hcall g _ σ L hr B w0 ρ w _ h (LR.cons hv1 hmid)
        have harr : (v1 :: c.args.toList.map a.eval).toArray = #[v1] ++ c.args.map a.eval := by apply Array.ext'; simp
        rw [harr] at hor
        have hexec : (execOp a.eval o).run P w = (callFunc g (#[v1] ++ c.args.map a.eval)).run P w := by
          have : o = { o with op := .call c } := by rw [← hop]
          rw [this]
          have hm := hmeth (P.types.size + Made.depth) (by simp [Made.depth])
          simp only [execOp, resolve, hcal, pure_bind]
          rw [invoke_method, hru]
          simp [callMethod, hm]
        unfold Oper.wp
        rw [hexec]
        rcases hor with ⟨hb, hc⟩ | ⟨v, v', ρ', σ', w', hm, hrun, e1, e2, e3⟩
        · rw [run_callFunc hfn hname hb]
          refine Calls.mono hc fun e w' he => ?_
          obtain ⟨v, v', ρ', σ', hm, rfl, e1, e2, e3⟩ := he
          exact hk v σ' ρ' v' w' hm e1 e2 e3
        · rw [hrun]
          exact hk v σ' ρ' v' w' hm e1 e2 e3
      · cases hr
    · exact plain hr
  · rename_i it hop
    obtain ⟨y, hyL, v', w', e1, e2, e3⟩ := aNextMap_sound (P := P) (t := o.type) h (hev it (by rw [hop]; simp [Op.operands])) hr
    have hexec : (execOp a.eval o).run P w = .ok (.value v') w' := by
      have : o = { o with op := .next it false } := by rw [← hop]
      rw [this]
      simp [execOp, e1]
    unfold Oper.wp
    rw [hexec]
    exact hk y.1 y.2 ρ v' w' hyL (Ext.refl _) e2 e3
  · exact plain hr

theorem aone_sound {call : CallF} (hcall : CallOk P call) {o : Oper} (ho : ∀ d, o.dst = some d → d < N) {β : Type} {k : K β} {R : List β} {next : Act → World → Prop} {Q : Exit → Act → World → Prop}
    (hk : KS B w0 N ρ R k next) (hf : FR N ρ fr a) (h : Rel B w0 ρ σ w) {R' : List β} (hr : aone P call o k fr σ = some R') (hR : ∀ r ∈ R', r ∈ R) :
    o.wp P a w next Q := by
  obtain ⟨L, hL, hall⟩ := bindL_some hr
  refine aval_sound hcall (fun x _ => hf.ev x) h hL fun v σ' ρ' v' w' hm e1 e2 e3 => ?_
  obtain ⟨R2, hR2, hsub⟩ := hall _ hm
  exact hk ρ' _ σ' _ w' R2 e1 ((hf.mono e1).put e3 ho) e2 hR2 fun r hr => hR r (hsub r hr)

def dstOk (N : Nat) (o : Oper) : Bool :=
  match o.dst with
  | none => true
  | some d => Nat.blt d N

theorem dstOk_spec {o : Oper} (h : dstOk N o = true) : ∀ d, o.dst = some d → d < N := by
  intro d hd
  unfold dstOk at h
  rw [hd] at h
  simpa using h

theorem aguard_sound {all : List Oper} {o : Oper} {β : Type} {yes no : K β} {R' : List β} (hf : FR N ρ fr a) (hr : aguard all o yes no fr σ = some R') :
    (Region.wanted o (yielded all.toArray a.tmps) = true ∧ ∃ fr', FR N ρ fr' a ∧ yes fr' σ = some R') ∨
    (Region.wanted o (yielded all.toArray a.tmps) = false ∧ ∃ fr', FR N ρ fr' a ∧ no fr' σ = some R') := by
  unfold aguard at hr
  split at hr
  · rename_i hg; exact .inl ⟨by simp [Region.wanted, hg], fr, hf, hr⟩
  · rename_i j want hg
    split at hr
    · rename_i t ht
      split at hr
      · rename_i hb
        have hb' : fget fr t = .bool true := by
          unfold asB at hb; split at hb
          · rename_i e; cases hb; exact e
          · cases hb
        have hy := hf.yielded ht hb'
        cases want with
        | true => exact .inl ⟨by simp [Region.wanted, hg, hy], _, hf.setb hb', hr⟩
        | false => exact .inr ⟨by simp [Region.wanted, hg, hy], _, hf.setb hb', hr⟩
      · rename_i hb
        have hb' : fget fr t = .bool false := by
          unfold asB at hb; split at hb
          · rename_i e; cases hb; exact e
          · cases hb
        have hy := hf.yielded ht hb'
        cases want with
        | true => exact .inr ⟨by simp [Region.wanted, hg, hy], _, hf.setb hb', hr⟩
        | false => exact .inl ⟨by simp [Region.wanted, hg, hy], _, hf.setb hb', hr⟩
      · cases hs : isSkip (fget fr t) with
        | false => rw [hs] at hr; cases hr
        | true =>
          rw [hs] at hr
          have hv := (hf.val t).isSkip hs
          have hy := yielded_skip (all := all) ht hv
          exact .inr ⟨by simp [Region.wanted, hg, hy], fr, hf, hr⟩
    · cases hr

theorem aops_sound {call : CallF} (hcall : CallOk P call) {all : List Oper} {β : Type} {kn : K β} {R : List β} {Q : Exit → Act → World → Prop} :
    ∀ (os : List Oper) (i : Nat), all.drop i = os → (∀ o ∈ os, dstOk N o = true) → ∀ ρ fr σ a w R', KS B w0 N ρ R kn (Q .normal) → FR N ρ fr a → Rel B w0 ρ σ w →
      aops P call all os kn fr σ = some R' → (∀ r ∈ R', r ∈ R) → wpOps P all.toArray Q (List.range' i os.length) a w := by
  intro os
  induction os with
  | nil =>
    intro i hd _ ρ fr σ a w R' hk hf h hr hR
    simp only [List.length_nil, List.range'_zero, wpOps]
    exact hk ρ fr σ a w R' (Ext.refl _) hf h hr hR
  | cons o os ih =>
    intro i hd hdst ρ fr σ a w R' hk hf h hr hR
    have hoi : all[i]? = some o := by
      have := congrArg (·[0]?) hd
      simpa using this
    have hd' : all.drop (i + 1) = os := by
      have := congrArg List.tail hd
      simpa using this
    have ho := dstOk_spec (hdst o (by simp))
    simp only [List.length_cons, List.range'_succ, wpOps]
    have hoi' : all.toArray[i]? = some o := by simpa using hoi
    rw [hoi']
    simp only
    unfold aops at hr
    rcases aguard_sound hf hr with ⟨hw, fr', hf', hr'⟩ | ⟨hw, fr', hf', hr'⟩
    · rw [if_pos hw]
      refine .inl (aone_sound hcall ho (R := R) (next := wpOps P all.toArray Q (List.range' (i + 1) os.length)) ?_ hf' h hr' hR)
      intro ρ2 fr2 σ2 a2 w2 R2 e2 hf2 h2 hr2 hR2
      exact ih (i + 1) hd' (fun o ho => hdst o (by simp [ho])) ρ2 fr2 σ2 a2 w2 R2 (hk.mono e2) hf2 h2 hr2 hR2
    · rw [if_neg (by simp [hw])]
      exact ih (i + 1) hd' (fun o ho => hdst o (by simp [ho])) ρ _ σ _ w R' hk (hf'.put .skp ho) h hr' hR
end
end Go.Ax
/- Regions whose order Go leaves open: what the abstract interpreter comes to in one order, with the reads asked again behind each step that writes, is what the machine comes to in any. No statement of the seat is proved here. -/
namespace Go.Ax
open Go.RowKit

/-! ### What stands before what -/
def befMask (acc : List Nat) (o : Oper) : Nat := o.after.toList.foldl (fun m e => cond (Region.binds .any e) (m ||| 2 ^ e.on ||| acc.getD e.on 0) m) 0
def befs : List Oper → List Nat → List Nat
  | [], acc => acc
  | o :: os, acc => befs os (acc ++ [befMask acc o])

inductive Bef (all : List Oper) : Nat → Nat → Prop where
  | edge (i : Nat) (o : Oper) (e : Edge) : all[i]? = some o → e ∈ o.after.toList → Region.binds .any e = true → Bef all e.on i
  | trans (i j : Nat) (o : Oper) (e : Edge) : all[i]? = some o → e ∈ o.after.toList → Region.binds .any e = true → Bef all j e.on → Bef all j i

theorem foldMask_mem (acc : List Nat) (j : Nat) : ∀ (l : List Edge) (m : Nat), (l.foldl (fun m e => cond (Region.binds .any e) (m ||| 2 ^ e.on ||| acc.getD e.on 0) m) m).testBit j = true →
    m.testBit j = true ∨ ∃ e ∈ l, Region.binds .any e = true ∧ (e.on = j ∨ (acc.getD e.on 0).testBit j = true)
  | [], m, h => .inl h
  | e :: l, m, h => by
    simp only [List.foldl_cons] at h
    rcases foldMask_mem acc j l _ h with h1 | ⟨e', he, hb, hh⟩
    · cases hb : Region.binds .any e with
      | false => rw [hb] at h1; exact .inl h1
      | true =>
        rw [hb] at h1
        simp only [cond_true, Nat.testBit_or, Bool.or_eq_true, Nat.testBit_two_pow, decide_eq_true_eq] at h1
        rcases h1 with (h1 | h1) | h1
        · exact .inl h1
        · exact .inr ⟨e, by simp, hb, .inl h1⟩
        · exact .inr ⟨e, by simp, hb, .inr h1⟩
    · exact .inr ⟨e', by simp [he], hb, hh⟩

theorem befs_sound (all : List Oper) : ∀ (os pre : List Oper) (acc : List Nat), all = pre ++ os → acc.length = pre.length → (∀ (i : Nat) m j, acc[i]? = some m → m.testBit j = true → Bef all j i) →
    ∀ (i : Nat) m j, (befs os acc)[i]? = some m → m.testBit j = true → Bef all j i
  | [], _, acc, _, _, h => h
  | o :: os, pre, acc, he, hl, h => by
    refine befs_sound all os (pre ++ [o]) (acc ++ [befMask acc o]) (by simp [he]) (by simp [hl]) ?_
    intro i m j hi hm
    rw [List.getElem?_append] at hi
    split at hi
    · exact h i m j hi hm
    · rename_i hlt
      have hi0 : i - acc.length = 0 := by
        rcases Nat.eq_zero_or_pos (i - acc.length) with h0 | h0
        · exact h0
        · rw [List.getElem?_eq_none (by simp; omega)] at hi; cases hi
      rw [hi0] at hi
      simp only [List.getElem?_cons_zero, Option.some.injEq] at hi
      subst hi
      have hio : all[i]? = some o := by
        have : i = pre.length := by omega
        rw [he, this]; simp
      rcases foldMask_mem acc j o.after.toList 0 hm with h1 | ⟨e, hmem, hb, hh⟩
      · simp at h1
      · rcases hh with rfl | hh
        · exact .edge i o e hio hmem hb
        · rw [List.getD_eq_getElem?_getD] at hh
          cases hacc : acc[e.on]? with
          | none => rw [hacc] at hh; simp at hh
          | some m' =>
            rw [hacc] at hh
            exact .trans i j o e hio hmem hb (h _ m' j hacc hh)

def isB (b : List Nat) (j i : Nat) : Bool := (b.getD i 0).testBit j

theorem isB_sound {all : List Oper} {j i : Nat} (h : isB (befs all []) j i = true) : Bef all j i := by
  unfold isB at h
  rw [List.getD_eq_getElem?_getD] at h
  cases hi : (befs all [])[i]? with
  | none => rw [hi] at h; simp at h
  | some m => rw [hi] at h; exact befs_sound all all [] [] rfl rfl (fun i m j x => by simp at x) i m j hi h

def Closed (all : List Oper) (S : Nat → Prop) : Prop := ∀ i o, all[i]? = some o → S i → ∀ e ∈ o.after.toList, Region.binds .any e = true → S e.on

theorem Bef.closed {all : List Oper} {S : Nat → Prop} (hc : Closed all S) {j i : Nat} (h : Bef all j i) : (∀ o, all[i]? = some o → ∀ e ∈ o.after.toList, Region.binds .any e = true → S e.on) → S j := by
  induction h with
  | edge i o e ho he hb => exact fun hx => hx o ho e he hb
  | trans i j o e ho he hb _ ih => exact fun hx => ih fun o' ho' => hc e.on o' ho' (hx o ho e he hb)

/-! ### The kinds of operations -/
/-- Only computes. -/
def quietB : Op → Bool
  | .move _ | .assign _ | .pick .. | .build .. | .nilCheck _ | .binOp .. | .unOp .. | .makeInterface .. | .makeFunc .. | .slice .. | .fieldAddr .. | .field .. | .indexAddr .. | .index .. | .extract .. | .typeAssert .. => true
  | .call c => match c.callee with
    | .builtin .min | .builtin .max => true
    | _ => false
  | .buildSlice _ n _ => Nat.beq n 0
  | _ => false
/-- Reads. -/
def readB : Op → Bool
  | .load .. | .convert .. | .lookup .. | .entry .. => true
  | .call c => match c.callee with
    | .builtin .len => true
    | _ => false
  | _ => false

section
variable {P : Program}

theorem bind_some_map {α : Type} (q : Option α) (σ : AHeap) : (q.bind fun v => some (v, σ)) = q.map fun v => (v, σ) := by cases q <;> rfl

theorem aop_quiet (ev : Operand → Value) {o : Oper} (hq : quietB o.op = true) : ∃ q : Option Value, ∀ σ, aop P ev o σ = q.map fun v => (v, σ) := by
  obtain ⟨dst, op, type, pos, after, guard⟩ := o
  cases op <;> simp only [quietB, reduceCtorEq] at hq
  case move x => exact ⟨some (ev x), fun σ => rfl⟩
  case assign x => exact ⟨some (ev x), fun σ => rfl⟩
  case pick c a b => exact ⟨(asB (ev c)).map fun t => cond t (ev a) (ev b), fun σ => by simp only [aop]; cases asB (ev c) <;> rfl⟩
  case build t ps => exact ⟨_, fun σ => by simp only [aop]; exact bind_some_map _ σ⟩
  case buildSlice t n ps =>
    have h0 : n = 0 := Nat.eq_of_beq_eq_true hq
    subst h0
    cases hn : (Nat.beq 0 0 && !ps.toList.isEmpty) with
    | true => exact ⟨none, fun σ => by simp only [aop, hn, cond_true]; rfl⟩
    | false =>
      cases he : elemOf? P t with
      | none => exact ⟨none, fun σ => by simp only [aop, hn, cond_false, aBuildSlice, he]; rfl⟩
      | some x => exact ⟨some (.slice (some ⟨ZB, 0, some 0⟩) 0 0), fun σ => by simp only [aop, hn, cond_false, aBuildSlice, he]; rfl⟩
  case nilCheck x => exact ⟨_, fun σ => by simp only [aop]; exact bind_some_map _ σ⟩
  case binOp op t x y ty => exact ⟨_, fun σ => by simp only [aop]; exact bind_some_map _ σ⟩
  case unOp op t x => exact ⟨_, fun σ => by simp only [aop]; exact bind_some_map _ σ⟩
  case makeInterface t x => exact ⟨_, fun σ => by simp only [aop]; exact bind_some_map _ σ⟩
  case makeFunc fn f c => exact ⟨some (.func fn (f.toList.map ev).toArray (c.toList.map ev).toArray), fun σ => rfl⟩
  case slice t x lo hi mx => exact ⟨_, fun σ => by simp only [aop]; exact bind_some_map _ σ⟩
  case fieldAddr t x f => exact ⟨(fieldOff P t f).bind fun off => aFieldAddr off (ev x), fun σ => by simp only [aop]; cases fieldOff P t f <;> simp [bind_some_map]⟩
  case field t x f => exact ⟨_, fun σ => by simp only [aop]; exact bind_some_map _ σ⟩
  case indexAddr t x i => exact ⟨_, fun σ => by simp only [aop]; exact bind_some_map _ σ⟩
  case index t x i => exact ⟨_, fun σ => by simp only [aop]; exact bind_some_map _ σ⟩
  case extract x i => exact ⟨_, fun σ => by simp only [aop]; exact bind_some_map _ σ⟩
  case typeAssert x xt t ok => exact ⟨_, fun σ => by simp only [aop]; exact bind_some_map _ σ⟩
  case call c =>
    obtain ⟨callee, args, argTypes⟩ := c
    cases callee with
    | builtin b =>
      have hb : ∃ q : Option Value, ∀ σ, aBuiltin P b argTypes.toList (args.toList.map ev) σ = q.map fun v => (v, σ) := by
        generalize argTypes.toList = ts
        generalize args.toList.map ev = l
        cases b <;> simp only [reduceCtorEq] at hq
        case max =>
          match l with
          | [x, y] => exact ⟨_, fun σ => by simp only [aBuiltin]; exact bind_some_map _ σ⟩
          | [] => exact ⟨none, fun σ => rfl⟩
          | [x] => exact ⟨none, fun σ => rfl⟩
          | _ :: _ :: _ :: _ => exact ⟨none, fun σ => rfl⟩
        case min =>
          match l with
          | [x, y] => exact ⟨_, fun σ => by simp only [aBuiltin]; exact bind_some_map _ σ⟩
          | [] => exact ⟨none, fun σ => rfl⟩
          | [x] => exact ⟨none, fun σ => rfl⟩
          | _ :: _ :: _ :: _ => exact ⟨none, fun σ => rfl⟩
      obtain ⟨q, hq'⟩ := hb
      exact ⟨q, fun σ => by simp only [aop]; exact hq' σ⟩
    | _ => simp only [reduceCtorEq] at hq

theorem aop_keep {ev : Operand → Value} {o : Oper} {σ : AHeap} {v : Value} {σ' : AHeap} (hq : (quietB o.op || readB o.op) = true) (h : aop P ev o σ = some (v, σ')) : σ' = σ := by
  rw [Bool.or_eq_true] at hq
  rcases hq with hq | hq
  · obtain ⟨q, hq⟩ := aop_quiet (P := P) ev hq
    rw [hq σ] at h
    simp only [Option.map_eq_some_iff, Prod.mk.injEq] at h
    obtain ⟨u, _, _, rfl⟩ := h
    rfl
  · obtain ⟨dst, op, type, pos, after, guard⟩ := o
    cases op <;> simp only [readB, reduceCtorEq] at hq
    case load t a =>
      simp only [aop, Option.bind_eq_some_iff, Option.some.injEq, Prod.mk.injEq] at h
      obtain ⟨_, _, _, _, _, rfl⟩ := h
      rfl
    case call c =>
      obtain ⟨callee, args, argTypes⟩ := c
      cases callee with
      | builtin b =>
        simp only [aop] at h
        cases b <;> simp only [reduceCtorEq] at hq
        simp only [aBuiltin] at h
        split at h <;> first | cases h | rename_i hc _ | skip
        all_goals first | (exfalso; simp_all; done) | skip
        all_goals simp only [Option.bind_eq_some_iff, Option.some.injEq, Prod.mk.injEq] at h
        all_goals obtain ⟨_, _, _, rfl⟩ := h
        all_goals rfl
      | _ => simp only [reduceCtorEq] at hq
    all_goals simp only [aop, Option.bind_eq_some_iff, Option.some.injEq, Prod.mk.injEq] at h
    all_goals obtain ⟨_, _, _, rfl⟩ := h
    all_goals rfl

theorem aop_pure {ev : Operand → Value} {o : Oper} {σ : AHeap} {v : Value} {σ' : AHeap} (σ2 : AHeap) (hq : quietB o.op = true) (h : aop P ev o σ = some (v, σ')) : aop P ev o σ2 = some (v, σ2) := by
  obtain ⟨q, hq⟩ := aop_quiet (P := P) ev hq
  rw [hq σ] at h
  rw [hq σ2]
  simp only [Option.map_eq_some_iff, Prod.mk.injEq] at h ⊢
  obtain ⟨u, hu, rfl, _⟩ := h
  exact ⟨u, hu, rfl, trivial⟩

theorem veq0_sound {a b : Value} (h : veq0 a b = true) : a = b := by
  unfold veq0 at h
  split at h <;> (try simp only [Bool.and_eq_true, beq_iff_eq, decide_eq_true_eq] at h)
  · rw [h]
  · rw [h.1, h.2]
  · rename_i x y
    have : x.data = y.data := Array.ext' h
    have : x = y := ByteArray.ext this
    rw [this]
  · rw [h]
  · obtain ⟨⟨h1, h2⟩, h3⟩ := h
    rw [h1, Nat.eq_of_beq_eq_true h2, Nat.eq_of_beq_eq_true h3]
  · rw [h]
  · rfl
  · rfl
  · cases h
theorem veq_sound {a b : Value} (h : veq a b = true) : a = b := by
  unfold veq at h
  split at h
  · simp only [Bool.and_eq_true] at h
    rw [Nat.eq_of_beq_eq_true h.1, veq0_sound h.2]
  · exact veq0_sound h
theorem veqs_sound : ∀ {a b : List Value}, veqs a b = true → a = b
  | [], [], _ => rfl
  | x :: l, y :: m, h => by
    simp only [veqs, Bool.and_eq_true] at h
    rw [veq_sound h.1, veqs_sound h.2]
  | [], _ :: _, h => by cases h
  | _ :: _, [], h => by cases h
theorem veq1_sound {a b : Value} (h : veq1 a b = true) : a = b := by
  unfold veq1 at h
  split at h
  · rename_i x y
    have : x = y := Array.ext' (veqs_sound h)
    rw [this]
  · rename_i x y
    have : x = y := Array.ext' (veqs_sound h)
    rw [this]
  · exact veq_sound h

/-! ### The check of a region -/
def looks (all : List Oper) (o : Oper) : List Tmp :=
  (o.op.operands.toList.filterMap fun | .tmp t => some t | _ => none) ++
  (match o.guard with
   | some (g, _) => ((all[g]?).bind (·.dst)).toList
   | none => [])

theorem looks_operand {all : List Oper} {o : Oper} {t : Nat} (h : Operand.tmp t ∈ o.op.operands) : t ∈ looks all o := by
  unfold looks
  refine List.mem_append_left _ (List.mem_filterMap.2 ⟨.tmp t, by simpa using h, rfl⟩)
theorem looks_guard {all : List Oper} {o : Oper} {j t : Nat} {b : Bool} (hg : o.guard = some (j, b)) (ht : (all[j]?).bind (·.dst) = some t) : t ∈ looks all o := by
  unfold looks
  refine List.mem_append_right _ ?_
  rw [hg]
  simp only [ht]
  simp

def floatB (op : Op) : Bool := quietB op || readB op

/-- An operation that stands earlier in the chosen order, and this one. -/
def pairOk (all : List Oper) (b : List Nat) (chk : List Nat) (k i : Nat) (ok o : Oper) : Bool :=
  !(Nat.beq k i) && !(isB b i k) &&
  (match ok.dst, o.dst with | some d, some d' => !(Nat.beq d d') | _, _ => true) &&
  (match ok.dst with | some d => !(looks all o).contains d || isB b k i | none => true) &&
  (match o.dst with | some d => !(looks all ok).contains d || isB b k i | none => true) &&
  (floatB ok.op || isB b k i) &&
  (floatB o.op || !(readB ok.op) || isB b k i || chk.contains k)

/-- A read that is asked again: nothing that stands before it in the order, but what must, wrote what it looks at. -/
def chkOk (all : List Oper) (b : List Nat) (pre : List Nat) (q : Nat) : Bool :=
  match all[q]? with
  | none => false
  | some oq => floatB oq.op && oq.dst.isSome && pre.contains q && pre.all fun k => match all[k]? with
    | some ok => match ok.dst with
      | some d => !(looks all oq).contains d || isB b k q
      | none => true
    | none => false

def dChk (N : Nat) (all : List Oper) (b : List Nat) (pre : List Nat) : List (Nat × List Nat) → Bool
  | [] => true
  | (i, chk) :: post => match all[i]? with
    | none => false
    | some o => dstOk N o && (!(floatB o.op) || (o.dst.isSome && chk.isEmpty)) &&
      pre.all (fun k => match all[k]? with | some ok => pairOk all b chk k i ok o | none => false) &&
      chk.all (chkOk all b (i :: pre)) && chk.all (fun q => !(Nat.beq q i)) && dChk N all b (i :: pre) post

def edgesOk (all : List Oper) : Bool := (List.range all.length).all fun i => match all[i]? with
  | some o => o.after.toList.all fun e => !(Region.binds .any e) || Nat.blt e.on i
  | none => false

def dOk (N : Nat) (all : List Oper) (ord : List (Nat × List Nat)) : Bool :=
  edgesOk all && (List.range all.length).all (fun i => (ord.map (·.1)).contains i) && dChk N all (befs all []) [] ord
end
end Go.Ax
/- Regions whose order Go leaves open: the proof. No statement of the seat is proved here. -/
namespace Go.Ax
open Go.RowKit

def wantA (all : List Oper) (o : Oper) (fr : Fr) : Option Bool :=
  match o.guard with
  | none => some true
  | some (j, want) => match (all[j]?).bind (·.dst) with
    | some t => match asB (fget fr t) with
      | some b => some (b == want)
      | none => cond (isSkip (fget fr t)) (some false) none
    | none => none

def FEq (fr fr' : Fr) : Prop := ∀ t, fget fr t = fget fr' t

theorem FEq.ev {fr fr' : Fr} (h : FEq fr fr') : fev fr = fev fr' := by
  funext x
  cases x with
  | tmp t => exact h t
  | _ => rfl

theorem asB_inv {v : Value} {b : Bool} (h : asB v = some b) : v = .bool b := by
  unfold asB at h
  split at h
  · cases h; rfl
  · cases h

theorem setb_feq {fr : Fr} {t : Nat} {b : Bool} (h : fget fr t = .bool b) : FEq (fr.set t (.bool b)) fr := by
  intro u
  rw [fget_set]
  split
  · rename_i e; subst e; exact h.symm
  · rfl

theorem aguard_inv {all : List Oper} {o : Oper} {β : Type} {yes no : K β} {fr : Fr} {σ : AHeap} {R' : List β} (h : aguard all o yes no fr σ = some R') :
    ∃ wb fr', wantA all o fr = some wb ∧ FEq fr' fr ∧ (if wb then yes else no) fr' σ = some R' := by
  unfold aguard at h
  unfold wantA
  cases hg : o.guard with
  | none => rw [hg] at h; exact ⟨true, fr, rfl, fun _ => rfl, h⟩
  | some p =>
    obtain ⟨j, want⟩ := p
    rw [hg] at h
    simp only at h ⊢
    cases ht : (all[j]?).bind (·.dst) with
    | none => rw [ht] at h; cases h
    | some t =>
      rw [ht] at h
      simp only at h ⊢
      cases hb : asB (fget fr t) with
      | none =>
        rw [hb] at h
        simp only at h ⊢
        cases hs : isSkip (fget fr t) with
        | false => rw [hs] at h; cases h
        | true => rw [hs] at h; exact ⟨false, fr, rfl, fun _ => rfl, h⟩
      | some bb =>
        rw [hb] at h
        cases bb with
        | true =>
          cases want with
          | true => exact ⟨true, _, rfl, setb_feq (asB_inv hb), h⟩
          | false => exact ⟨false, _, rfl, setb_feq (asB_inv hb), h⟩
        | false =>
          cases want with
          | true => exact ⟨false, _, rfl, setb_feq (asB_inv hb), h⟩
          | false => exact ⟨true, _, rfl, setb_feq (asB_inv hb), h⟩

theorem wantA_congr {all : List Oper} {o : Oper} {fr fr' : Fr} (h : ∀ t ∈ looks all o, fget fr t = fget fr' t) : wantA all o fr = wantA all o fr' := by
  unfold wantA
  split
  · rfl
  · rename_i j want hg
    split
    · rename_i t ht
      rw [h t (looks_guard hg ht)]
    · rfl

theorem fev_congr {all : List Oper} {o : Oper} {fr fr' : Fr} (h : ∀ t ∈ looks all o, fget fr t = fget fr' t) : ∀ x ∈ o.op.operands, fev fr x = fev fr' x := by
  intro x hx
  cases x with
  | tmp t => exact h t (looks_operand hx)
  | _ => rfl

section
variable {P : Program} {B : Nat} {w0 : World} {N : Nat} {all : List Oper} {call : CallF}

theorem aval_float {ev : Operand → Value} {o : Oper} {σ : AHeap} (hf : floatB o.op = true) : aval P call ev o σ = match aop P ev o σ with
    | some r => some [r]
    | none => none := by
  unfold aval
  split
  · rename_i c hc
    rw [hc] at hf
    split
    · rename_i f hcal
      simp [floatB, quietB, readB, hcal] at hf
    · rename_i r n hcal
      simp [floatB, quietB, readB, hcal] at hf
    · rfl
  · rename_i it hc
    rw [hc] at hf
    simp [floatB, quietB, readB] at hf
  · rfl

theorem wanted_of {o : Oper} {fr : Fr} {a : Act} {ρ : List RB} {wb : Bool} (hw : wantA all o fr = some wb) (hv : ∀ t ∈ looks all o, VR ρ (fget fr t) (a.tmps.getD t undef)) :
    Region.wanted o (yielded all.toArray a.tmps) = wb := by
  unfold wantA at hw
  split at hw
  · rename_i hg; cases hw; simp [Region.wanted, hg]
  · rename_i j want hg
    split at hw
    · rename_i t ht
      split at hw
      · rename_i bb hb
        cases hw
        have hvt := hv t (looks_guard hg ht)
        rw [asB_inv hb] at hvt
        have hvt := hvt.bool_inv
        have ht2 : a.tmps[t]? = some (.bool bb) := by
          rw [Array.getD_eq_getD_getElem?] at hvt
          cases hx : a.tmps[t]? with
          | none => rw [hx] at hvt; simp [undef] at hvt
          | some v => rw [hx] at hvt; simp at hvt; rw [hvt]
        have hy : yielded all.toArray a.tmps j = some bb := by
          unfold Go.yielded
          have hj' : ((all.toArray[j]?).bind (·.dst)) = some t := by simpa using ht
          rw [hj']
          simp [ht2]
        simp [Region.wanted, hg, hy]
      · cases hs : isSkip (fget fr t) with
        | false => rw [hs] at hw; cases hw
        | true =>
          rw [hs] at hw
          cases hw
          have hvt := (hv t (looks_guard hg ht)).isSkip hs
          have hy := yielded_skip (all := all) ht hvt
          simp [Region.wanted, hg, hy]
    · cases hw

theorem arecheck_inv {β : Type} {k : K β} : ∀ (chk : List Nat) (fr : Fr) (σ : AHeap) (R' : List β), arecheck P all chk k fr σ = some R' →
    ∃ fr2, FEq fr2 fr ∧ k fr2 σ = some R' ∧ ∀ q ∈ chk, ∀ oq, all[q]? = some oq → wantA all oq fr = some false ∨ (wantA all oq fr = some true ∧ ∃ d σ'', oq.dst = some d ∧ aop P (fev fr) oq σ = some (fget fr d, σ''))
  | [], fr, σ, R', h => ⟨fr, fun _ => rfl, h, fun q hq => by simp at hq⟩
  | q :: qs, fr, σ, R', h => by
    simp only [arecheck] at h
    split at h
    · cases h
    · rename_i o ho
      obtain ⟨wb, fr', hw, hfe, h⟩ := aguard_inv h
      cases wb with
      | false =>
        simp only [Bool.false_eq_true, if_false] at h
        obtain ⟨fr2, e1, e2, e3⟩ := arecheck_inv qs fr' σ R' h
        refine ⟨fr2, fun t => (e1 t).trans (hfe t), e2, fun q' hq' oq hoq => ?_⟩
        rcases List.mem_cons.1 hq' with rfl | hq'
        · rw [ho] at hoq; cases hoq; exact .inl hw
        · have := e3 q' hq' oq hoq
          rw [wantA_congr (fr' := fr) (fun t _ => hfe t), hfe.ev] at this
          rcases this with h1 | ⟨h1, d, σ'', h2, h3⟩
          · exact .inl h1
          · exact .inr ⟨h1, d, σ'', h2, by rw [← hfe d]; exact h3⟩
      | true =>
        simp only [if_true] at h
        split at h
        · rename_i v σ'' d hv hd
          cases hb : veq1 v (fget fr' d) with
          | false => rw [hb] at h; cases h
          | true =>
            rw [hb] at h
            simp only [cond_true] at h
            obtain ⟨fr2, e1, e2, e3⟩ := arecheck_inv qs fr' σ R' h
            refine ⟨fr2, fun t => (e1 t).trans (hfe t), e2, fun q' hq' oq hoq => ?_⟩
            rcases List.mem_cons.1 hq' with rfl | hq'
            · rw [ho] at hoq; cases hoq
              refine .inr ⟨hw, d, σ'', hd, ?_⟩
              rw [← hfe.ev, hv, veq1_sound hb, hfe d]
            · have := e3 q' hq' oq hoq
              rw [wantA_congr (fr' := fr) (fun t _ => hfe t), hfe.ev] at this
              rcases this with h1 | ⟨h1, d, σ'', h2, h3⟩
              · exact .inl h1
              · exact .inr ⟨h1, d, σ'', h2, by rw [← hfe d]; exact h3⟩
        · cases h

theorem Bef.lt (hE : edgesOk all = true) {j i : Nat} (h : Bef all j i) : j < i := by
  have key : ∀ i o e, all[i]? = some o → e ∈ o.after.toList → Region.binds .any e = true → e.on < i := by
    intro i o e ho he hb
    have hlt := (List.getElem?_eq_some_iff.1 ho).1
    have := List.all_eq_true.1 hE i (List.mem_range.2 hlt)
    rw [ho] at this
    have := List.all_eq_true.1 this e he
    rw [hb] at this
    simpa using this
  induction h with
  | edge i o e ho he hb => exact key i o e ho he hb
  | trans i j o e ho he hb _ ih => exact Nat.lt_trans ih (key i o e ho he hb)

/-- A float that has been taken abstractly and not yet by the machine. -/
def GF (P : Program) (all : List Oper) (pre : List Nat) (fr0 fr : Fr) (σ : AHeap) (q : Nat) (oq : Oper) : Prop :=
  ∃ frq d, oq.dst = some d ∧
    (∀ t ∈ looks all oq, (∃ k ok, k ∈ pre ∧ all[k]? = some ok ∧ ok.dst = some t ∧ isB (befs all []) k q = true) → fget frq t = fget fr t) ∧
    (∀ t ∈ looks all oq, (¬ ∃ k ok, k ∈ pre ∧ all[k]? = some ok ∧ ok.dst = some t ∧ isB (befs all []) k q = true) → fget frq t = fget fr0 t) ∧
    ((wantA all oq frq = some true ∧ aop P (fev frq) oq σ = some (fget fr d, σ)) ∨ (wantA all oq frq = some false ∧ fget fr d = skipV))

structure DInv (P : Program) (N : Nat) (all : List Oper) (pre : List Nat) (fr0 fr : Fr) (σ : AHeap) (ρ : List RB) (S : Nat → Prop) (a : Act) : Prop where
  sub : ∀ i, S i → i ∈ pre
  spine : ∀ i o, i ∈ pre → all[i]? = some o → floatB o.op = false → S i
  closed : Closed all S
  f1 : ∀ k ok t, S k → all[k]? = some ok → ok.dst = some t → VR ρ (fget fr t) (a.tmps.getD t undef)
  f2 : ∀ t, (∀ k ok, S k → all[k]? = some ok → ok.dst ≠ some t) → VR ρ (fget fr0 t) (a.tmps.getD t undef)
  f3 : ∀ t, (∀ k ok, k ∈ pre → all[k]? = some ok → ok.dst ≠ some t) → fget fr t = fget fr0 t
  dis : ∀ k k' ok ok' t, k ∈ pre → k' ∈ pre → all[k]? = some ok → all[k']? = some ok' → ok.dst = some t → ok'.dst = some t → k = k'
  pw : ∀ k q ok oq t, k ∈ pre → q ∈ pre → k ≠ q → all[k]? = some ok → all[q]? = some oq → ok.dst = some t → t ∈ looks all oq → isB (befs all []) k q = true ∨ isB (befs all []) q k = true
  defers : a.defers = []
  size : a.tmps.size = N
  dst : ∀ k ok d, k ∈ pre → all[k]? = some ok → ok.dst = some d → d < N
  flt : ∀ k ok, k ∈ pre → all[k]? = some ok → floatB ok.op = true → ok.dst ≠ none
  ins : ∀ k, k ∈ pre → ∃ ok, all[k]? = some ok
  g : ∀ q oq, q ∈ pre → ¬ S q → all[q]? = some oq → GF P all pre fr0 fr σ q oq

theorem pairOk_inv {b : List Nat} {chk : List Nat} {k i : Nat} {ok o : Oper} (h : pairOk all b chk k i ok o = true) :
    k ≠ i ∧ isB b i k = false ∧ (∀ d d', ok.dst = some d → o.dst = some d' → d ≠ d') ∧ (∀ d, ok.dst = some d → d ∈ looks all o → isB b k i = true) ∧
    (∀ d, o.dst = some d → d ∈ looks all ok → isB b k i = true) ∧ (floatB ok.op = false → isB b k i = true) ∧
    (floatB o.op = false → readB ok.op = true → isB b k i = false → k ∈ chk) := by
  unfold pairOk at h
  simp only [Bool.and_eq_true, Bool.not_eq_true', Bool.or_eq_true] at h
  obtain ⟨⟨⟨⟨⟨⟨h1, h2⟩, h3⟩, h4⟩, h5⟩, h6⟩, h7⟩ := h
  refine ⟨fun e => by subst e; simp at h1, h2, fun d d' hd hd' e => ?_, fun d hd hm => ?_, fun d hd hm => ?_, fun hf => ?_, fun hf hr hb => ?_⟩
  · rw [hd, hd'] at h3; subst e; simp at h3
  · rw [hd] at h4
    rcases (by simpa using h4 : d ∉ looks all o ∨ isB b k i = true) with h | h
    · exact absurd hm h
    · exact h
  · rw [hd] at h5
    rcases (by simpa using h5 : d ∉ looks all ok ∨ isB b k i = true) with h | h
    · exact absurd hm h
    · exact h
  · rcases h6 with h | h
    · rw [hf] at h; cases h
    · exact h
  · rcases h7 with ((h | h) | h) | h
    · rw [hf] at h; cases h
    · rw [hr] at h; cases h
    · rw [hb] at h; cases h
    · simpa using h

theorem dChk_inv {b : List Nat} {pre : List Nat} {i : Nat} {chk : List Nat} {post : List (Nat × List Nat)} (h : dChk N all b pre ((i, chk) :: post) = true) :
    ∃ o, all[i]? = some o ∧ (∀ d, o.dst = some d → d < N) ∧ (floatB o.op = true → o.dst ≠ none ∧ chk = []) ∧
      (∀ k ∈ pre, ∃ ok, all[k]? = some ok ∧ pairOk all b chk k i ok o = true) ∧ (∀ q ∈ chk, chkOk all b (i :: pre) q = true ∧ q ≠ i) ∧ dChk N all b (i :: pre) post = true := by
  simp only [dChk] at h
  split at h
  · cases h
  · rename_i o ho
    simp only [Bool.and_eq_true, List.all_eq_true, Bool.or_eq_true, Bool.not_eq_true'] at h
    obtain ⟨⟨⟨⟨⟨h1, h2⟩, h3⟩, h4⟩, h5⟩, h6⟩ := h
    refine ⟨o, ho, dstOk_spec h1, fun hf => ?_, fun k hk => ?_, fun q hq => ⟨h4 q hq, fun e => ?_⟩, h6⟩
    · rcases h2 with h2 | h2
      · rw [hf] at h2; cases h2
      · exact ⟨fun e => by rw [e] at h2; simp at h2, by simpa using h2.2⟩
    · have := h3 k hk
      split at this
      · rename_i ok hok; exact ⟨ok, hok, this⟩
      · cases this
    · have := h5 q hq
      subst e
      simp at this

theorem chkOk_inv {b : List Nat} {pre : List Nat} {q : Nat} (h : chkOk all b pre q = true) : ∃ oq, all[q]? = some oq ∧ floatB oq.op = true ∧ q ∈ pre ∧
    ∀ k ∈ pre, ∀ ok d, all[k]? = some ok → ok.dst = some d → d ∈ looks all oq → isB b k q = true := by
  unfold chkOk at h
  split at h
  · cases h
  · rename_i oq hoq
    simp only [Bool.and_eq_true, List.all_eq_true] at h
    obtain ⟨⟨⟨h1, h2⟩, h3⟩, h4⟩ := h
    refine ⟨oq, hoq, h1, by simpa using h3, fun k hk ok d hok hd hm => ?_⟩
    have := h4 k hk
    rw [hok] at this
    simp only [hd] at this
    rcases (by simpa using this : d ∉ looks all oq ∨ isB b k q = true) with h | h
    · exact absurd hm h
    · exact h

/-- A float is taken abstractly. -/
theorem DInv.advance (hE : edgesOk all = true) {pre : List Nat} {fr0 fr : Fr} {σ : AHeap} {ρ : List RB} {S : Nat → Prop} {a : Act} {i : Nat} {chk : List Nat} {post : List (Nat × List Nat)} {β : Type} {kn : K β} {R' : List β} {o : Oper}
    (h : DInv P N all pre fr0 fr σ ρ S a) (hc : dChk N all (befs all []) pre ((i, chk) :: post) = true) (ho : all[i]? = some o) (hf : floatB o.op = true)
    (hx : adops P call all ((i, chk) :: post) kn fr σ = some R') : ∃ fr', DInv P N all (i :: pre) fr0 fr' σ ρ S a ∧ adops P call all post kn fr' σ = some R' := by
  obtain ⟨o', ho', hdN, hflt, hpair, _, _⟩ := dChk_inv hc
  rw [ho] at ho'; cases ho'
  obtain ⟨hdn, rfl⟩ := hflt hf
  obtain ⟨d, hd⟩ : ∃ d, o.dst = some d := by cases h : o.dst with | none => exact absurd h hdn | some d => exact ⟨d, rfl⟩
  have hiS : ¬ S i := fun hs => by
    obtain ⟨ok, _, hp⟩ := hpair i (h.sub i hs)
    exact (pairOk_inv hp).1 rfl
  have hipre : i ∉ pre := fun hs => by
    obtain ⟨ok, _, hp⟩ := hpair i hs
    exact (pairOk_inv hp).1 rfl
  simp only [adops, ho] at hx
  obtain ⟨wb, fr1, hw, hfe, hx2⟩ := aguard_inv hx
  clear hx
  -- the value that is put
  have hval : ∃ v, ((wb = true ∧ aop P (fev fr) o σ = some (v, σ)) ∨ (wb = false ∧ v = skipV)) ∧ adops P call all post kn (fput fr1 o.dst v) σ = some R' := by
    cases wb with
    | false => exact ⟨skipV, .inr ⟨rfl, rfl⟩, by simpa using hx2⟩
    | true =>
      simp only [if_true] at hx2
      unfold aone at hx2
      rw [aval_float hf, hfe.ev] at hx2
      cases hv : aop P (fev fr) o σ with
      | none => rw [hv] at hx2; cases hx2
      | some r =>
        obtain ⟨v, σ'⟩ := r
        rw [hv] at hx2
        have hσ := aop_keep (by unfold floatB at hf; exact hf) hv
        rw [hσ] at hx2 ⊢
        exact ⟨v, .inl ⟨rfl, rfl⟩, hx2⟩
  obtain ⟨v, hv, hx⟩ := hval
  refine ⟨_, ?_, hx⟩
  have hget : ∀ t, fget (fput fr1 o.dst v) t = if t = d then v else fget fr t := by
    intro t
    rw [hd]
    simp only [fput, fget_set, hfe t]
  have hne : ∀ k ok t, k ∈ pre → all[k]? = some ok → ok.dst = some t → t ≠ d := by
    intro k ok t hk hok hkt e
    obtain ⟨ok', hok', hp⟩ := hpair k hk
    rw [hok] at hok'; cases hok'
    exact (pairOk_inv hp).2.2.1 t d hkt hd e
  refine ⟨fun k hk => List.mem_cons_of_mem _ (h.sub k hk), fun k ok hk hok hfk => ?_, h.closed, fun k ok t hk hok hkt => ?_, h.f2, fun t ht => ?_, ?_, ?_, h.defers, h.size, ?_, ?_, ?_, ?_⟩
  · rcases List.mem_cons.1 hk with rfl | hk
    · rw [ho] at hok; cases hok; rw [hf] at hfk; cases hfk
    · exact h.spine k ok hk hok hfk
  · rw [hget, if_neg (hne k ok t (h.sub k hk) hok hkt)]
    exact h.f1 k ok t hk hok hkt
  · rw [hget, if_neg (fun e => ht i o (by simp) ho (by rw [hd, e]))]
    exact h.f3 t fun k ok hk hok => ht k ok (by simp [hk]) hok
  · intro k k' ok ok' t hk hk' hok hok' hkt hkt'
    rcases List.mem_cons.1 hk with rfl | hk2 <;> rcases List.mem_cons.1 hk' with rfl | hk2'
    · rfl
    · rw [ho] at hok; cases hok
      rw [hd] at hkt; cases hkt
      exact absurd rfl (hne k' ok' _ hk2' hok' hkt')
    · rw [ho] at hok'; cases hok'
      rw [hd] at hkt'; cases hkt'
      exact absurd rfl (hne k ok _ hk2 hok hkt)
    · exact h.dis k k' ok ok' t hk2 hk2' hok hok' hkt hkt'
  · intro k q ok oq t hk hq hkq hok hoq hkt hm
    rcases List.mem_cons.1 hk with rfl | hk2 <;> rcases List.mem_cons.1 hq with rfl | hq2
    · exact absurd rfl hkq
    · rw [ho] at hok; cases hok
      obtain ⟨oq', hoq', hp⟩ := hpair q hq2
      rw [hoq] at hoq'; cases hoq'
      exact .inr ((pairOk_inv hp).2.2.2.2.1 t hkt hm)
    · rw [ho] at hoq; cases hoq
      obtain ⟨ok', hok', hp⟩ := hpair k hk2
      rw [hok] at hok'; cases hok'
      exact .inl ((pairOk_inv hp).2.2.2.1 t hkt hm)
    · exact h.pw k q ok oq t hk2 hq2 hkq hok hoq hkt hm
  · intro k ok d' hk hok hkd
    rcases List.mem_cons.1 hk with rfl | hk
    · rw [ho] at hok; cases hok; exact hdN d' hkd
    · exact h.dst k ok d' hk hok hkd
  · intro k ok hk hok hfk
    rcases List.mem_cons.1 hk with rfl | hk
    · rw [ho] at hok; cases hok; exact hdn
    · exact h.flt k ok hk hok hfk
  · intro k hk
    rcases List.mem_cons.1 hk with rfl | hk
    · exact ⟨o, ho⟩
    · exact h.ins k hk
  · intro q oq hq hqS hoq
    rcases List.mem_cons.1 hq with rfl | hq
    · rw [ho] at hoq; cases hoq
      refine ⟨fr, d, hd, fun t ht hex => ?_, fun t ht hex => ?_, ?_⟩
      · obtain ⟨k, ok, hk, hok, hkt, hb⟩ := hex
        rcases List.mem_cons.1 hk with rfl | hk
        · exact absurd ((isB_sound hb).lt hE) (Nat.lt_irrefl _)
        · rw [hget, if_neg (hne k ok t hk hok hkt)]
      · refine h.f3 t fun k ok hk hok hkt => hex ⟨k, ok, by simp [hk], hok, hkt, ?_⟩
        obtain ⟨ok', hok', hp⟩ := hpair k hk
        rw [hok] at hok'; cases hok'
        exact (pairOk_inv hp).2.2.2.1 t hkt ht
      · rw [hget, if_pos rfl]
        rcases hv with ⟨rfl, hv⟩ | ⟨rfl, hv⟩
        · exact .inl ⟨hw, hv⟩
        · exact .inr ⟨hw, hv⟩
    · obtain ⟨frq, dq, hdq, g1, g2, g3⟩ := h.g q oq hq hqS hoq
      obtain ⟨oq', hoq', hp⟩ := hpair q hq
      rw [hoq] at hoq'; cases hoq'
      have hnb : ¬ isB (befs all []) i q = true := fun hh => by
        have := (pairOk_inv hp).2.1
        rw [hh] at this; cases this
      refine ⟨frq, dq, hdq, fun t ht hex => ?_, fun t ht hex => ?_, ?_⟩
      · obtain ⟨k, ok, hk, hok, hkt, hb⟩ := hex
        rcases List.mem_cons.1 hk with rfl | hk
        · exact absurd hb hnb
        · rw [hget, if_neg (hne k ok t hk hok hkt)]
          exact g1 t ht ⟨k, ok, hk, hok, hkt, hb⟩
      · exact g2 t ht fun ⟨k, ok, hk, hok, hkt, hb⟩ => hex ⟨k, ok, by simp [hk], hok, hkt, hb⟩
      · rw [hget, if_neg (hne q oq dq hq hoq hdq)]
        exact g3

/-- The machine takes a float that has been taken abstractly. -/
theorem DInv.floatStep {pre : List Nat} {fr0 fr : Fr} {σ : AHeap} {ρ : List RB} {S : Nat → Prop} {a : Act} {w : World} {i : Nat} {o : Oper} {Q : Exit → Act → World → Prop} {Kn : Act → World → Prop} (hcall : CallOk P call)
    (h : DInv P N all pre fr0 fr σ ρ S a) (hr : Rel B w0 ρ σ w) (hi : i ∈ pre) (hiS : ¬ S i) (ho : all[i]? = some o) (hready : ∀ e ∈ o.after.toList, Region.binds .any e = true → S e.on)
    (hK : ∀ ρ' a' w', DInv P N all pre fr0 fr σ ρ' (fun j => j = i ∨ S j) a' → Ext ρ ρ' → Rel B w0 ρ' σ w' → Kn a' w') : wpOp P all.toArray Q i Kn a w := by
  have hfl : floatB o.op = true := by
    cases hf : floatB o.op with
    | true => rfl
    | false => exact absurd (h.spine i o hi ho hf) hiS
  obtain ⟨frq, d, hd, g1, g2, g3⟩ := h.g i o hi hiS ho
  have hbefS : ∀ k, isB (befs all []) k i = true → S k := fun k hb => (isB_sound hb).closed h.closed fun o' ho' => by rw [ho] at ho'; cases ho'; exact hready
  -- what it looks at stands for what the machine has there
  have hv : ∀ t ∈ looks all o, VR ρ (fget frq t) (a.tmps.getD t undef) := by
    intro t ht
    by_cases hex : ∃ k ok, k ∈ pre ∧ all[k]? = some ok ∧ ok.dst = some t ∧ isB (befs all []) k i = true
    · rw [g1 t ht hex]
      obtain ⟨k, ok, hk, hok, hkt, hb⟩ := hex
      exact h.f1 k ok t (hbefS k hb) hok hkt
    · rw [g2 t ht hex]
      refine h.f2 t fun k ok hk hok hkt => ?_
      have hki : k ≠ i := fun e => hiS (e ▸ hk)
      rcases h.pw k i ok o t (h.sub k hk) hi hki hok ho hkt ht with hb | hb
      · exact hex ⟨k, ok, h.sub k hk, hok, hkt, hb⟩
      · exact hiS ((isB_sound hb).closed h.closed fun o' ho' => h.closed k o' ho' hk)
  have hdN := h.dst i o d hi ho hd
  -- behind it
  have hnext : ∀ ρ' v', Ext ρ ρ' → VR ρ' (fget fr d) v' → DInv P N all pre fr0 fr σ ρ' (fun j => j = i ∨ S j) (a.put o.dst v') := by
    intro ρ' v' he hvv
    have hput : ∀ t, (a.put o.dst v').tmps.getD t undef = if t = d then v' else a.tmps.getD t undef := by
      intro t
      rw [hd]
      simp only [Act.put, Array.getD_eq_getD_getElem?, Array.getElem?_setIfInBounds]
      by_cases htd : t = d
      · subst htd
        have : t < a.tmps.size := by rw [h.size]; exact hdN
        simp [this]
      · rw [if_neg (fun e => htd e.symm), if_neg htd]
    refine ⟨fun j hj => ?_, fun j ok hj hok hf => .inr (h.spine j ok hj hok hf), fun j oj hoj hj e he hb => ?_, fun k ok t hk hok hkt => ?_, fun t ht => ?_, h.f3, h.dis, h.pw, ?_, ?_, h.dst, h.flt, h.ins, fun q oq hq hqS hoq => h.g q oq hq (fun hs => hqS (.inr hs)) hoq⟩
    · rcases hj with rfl | hj
      · exact hi
      · exact h.sub j hj
    · rcases hj with rfl | hj
      · rw [ho] at hoj; cases hoj; exact .inr (hready e he hb)
      · exact .inr (h.closed j oj hoj hj e he hb)
    · rw [hput]
      split
      · rename_i htd; subst htd; exact hvv
      · rename_i htd
        rcases hk with rfl | hk
        · rw [ho] at hok; cases hok; rw [hd] at hkt; cases hkt; exact absurd rfl htd
        · exact (h.f1 k ok t hk hok hkt).mono he
    · rw [hput, if_neg (fun e => ht i o (.inl rfl) ho (by rw [hd, e]))]
      exact (h.f2 t fun k ok hk hok => ht k ok (.inr hk) hok).mono he
    · rw [hd]; exact h.defers
    · rw [hd]; simp [Act.put, h.size]
  unfold wpOp
  have hoa : all.toArray[i]? = some o := by simpa using ho
  rw [hoa]
  simp only
  rcases g3 with ⟨hw, hval⟩ | ⟨hw, hval⟩
  · rw [if_pos (wanted_of hw hv)]
    left
    refine aval_sound hcall (ev := fev frq) (L := [(fget fr d, σ)]) (fun x hx => ?_) hr (by rw [aval_float hfl, hval]) fun v σ' ρ' v' w' hm e1 e2 e3 => ?_
    · cases x with
      | tmp t => exact hv t (looks_operand hx)
      | const c => exact (FR.ev (N := a.tmps.size) (a := { a with defers := [] }) (fr := .leaf) ⟨fun t => by rw [fget_leaf]; exact .dead _, rfl, rfl⟩ (.const c))
      | func f => exact .func _ _ _ _ _ rfl rfl (fun i v v' x => by simp at x) (fun i v v' x => by simp at x)
      | global g => exact .dead _
    · simp only [List.mem_singleton, Prod.mk.injEq] at hm
      obtain ⟨rfl, rfl⟩ := hm
      exact hK ρ' _ w' (hnext ρ' v' e1 e3) e1 e2
  · rw [if_neg (by rw [wanted_of hw hv]; simp)]
    exact hK ρ _ w (hnext ρ undef (Ext.refl _) (by rw [hval]; exact .skp)) (Ext.refl _) hr

/-- The machine takes the operation that writes and stands next in the order. -/
theorem DInv.spineStep (hE : edgesOk all = true) {pre : List Nat} {fr0 fr : Fr} {σ : AHeap} {ρ : List RB} {S : Nat → Prop} {a : Act} {w : World} {i : Nat} {chk : List Nat} {post : List (Nat × List Nat)} {o : Oper} {Q : Exit → Act → World → Prop} {Kn : Act → World → Prop}
    {β : Type} {kn : K β} {R R' : List β} (hcall : CallOk P call)
    (h : DInv P N all pre fr0 fr σ ρ S a) (hr : Rel B w0 ρ σ w) (hc : dChk N all (befs all []) pre ((i, chk) :: post) = true) (ho : all[i]? = some o) (hfl : floatB o.op = false)
    (hready : ∀ e ∈ o.after.toList, Region.binds .any e = true → S e.on)
    (hx : adops P call all ((i, chk) :: post) kn fr σ = some R') (hR : ∀ r ∈ R', r ∈ R)
    (hK : ∀ ρ' fr' σ' a' w' R2, DInv P N all (i :: pre) fr0 fr' σ' ρ' (fun j => j = i ∨ S j) a' → Ext ρ ρ' → Rel B w0 ρ' σ' w' → adops P call all post kn fr' σ' = some R2 → (∀ r ∈ R2, r ∈ R) → Kn a' w') :
    wpOp P all.toArray Q i Kn a w := by
  obtain ⟨o', ho', hdN, _, hpair, hchk, _⟩ := dChk_inv hc
  rw [ho] at ho'; cases ho'
  have hipre : i ∉ pre := fun hs => by
    obtain ⟨ok, _, hp⟩ := hpair i hs
    exact (pairOk_inv hp).1 rfl
  have hiS : ¬ S i := fun hs => hipre (h.sub i hs)
  have hbefS : ∀ k, isB (befs all []) k i = true → S k := fun k hb => (isB_sound hb).closed h.closed fun o' ho' => by rw [ho] at ho'; cases ho'; exact hready
  have hpo : ∀ k ∈ pre, ∀ ok, all[k]? = some ok → pairOk all (befs all []) chk k i ok o = true := fun k hk ok hok => by
    obtain ⟨ok', hok', hp⟩ := hpair k hk
    rw [hok] at hok'; cases hok'; exact hp
  have hv : ∀ t ∈ looks all o, VR ρ (fget fr t) (a.tmps.getD t undef) := by
    intro t ht
    by_cases hex : ∃ k ok, S k ∧ all[k]? = some ok ∧ ok.dst = some t
    · obtain ⟨k, ok, hk, hok, hkt⟩ := hex
      exact h.f1 k ok t hk hok hkt
    · rw [h.f3 t fun k ok hk hok hkt => hex ⟨k, ok, hbefS k ((pairOk_inv (hpo k hk ok hok)).2.2.2.1 t hkt ht), hok, hkt⟩]
      exact h.f2 t fun k ok hk hok hkt => hex ⟨k, ok, hk, hok, hkt⟩
  simp only [adops, ho] at hx
  obtain ⟨wb, fr1, hw, hfe, hx2⟩ := aguard_inv hx
  clear hx
  -- behind it: a value is put; the heap may have turned
  have hnext : ∀ (v v' : Value) σ' ρ' fr2, Ext ρ ρ' → VR ρ' v v' → FEq fr2 (fput fr1 o.dst v) →
      (∀ q oq, q ∈ pre → ¬ (q = i ∨ S q) → all[q]? = some oq → ∀ frq d, oq.dst = some d → (∀ t ∈ looks all oq, (∃ k ok, k ∈ pre ∧ all[k]? = some ok ∧ ok.dst = some t ∧ isB (befs all []) k q = true) → fget frq t = fget fr t) →
        (∀ t ∈ looks all oq, (¬ ∃ k ok, k ∈ pre ∧ all[k]? = some ok ∧ ok.dst = some t ∧ isB (befs all []) k q = true) → fget frq t = fget fr0 t) →
        wantA all oq frq = some true → aop P (fev frq) oq σ = some (fget fr d, σ) → aop P (fev frq) oq σ' = some (fget fr d, σ')) →
      DInv P N all (i :: pre) fr0 fr2 σ' ρ' (fun j => j = i ∨ S j) (a.put o.dst v') := by
    intro v v' σ' ρ' fr2 he hvv hf2 hG
    have hget : ∀ t, fget fr2 t = match o.dst with | some d => if t = d then v else fget fr t | none => fget fr t := by
      intro t
      rw [hf2 t]
      cases hd : o.dst with
      | none => exact hfe t
      | some d => simp only [fput, fget_set, hfe t]
    have hgetN : ∀ t, o.dst ≠ some t → fget fr2 t = fget fr t := by
      intro t ht
      rw [hget t]
      cases hd : o.dst with
      | none => rfl
      | some d => simp only; rw [if_neg (fun e => ht (by rw [hd, e]))]
    have hput : ∀ t, (a.put o.dst v').tmps.getD t undef = if o.dst = some t then v' else a.tmps.getD t undef := by
      intro t
      cases hd : o.dst with
      | none => simp [Act.put]
      | some d =>
        simp only [Act.put, Array.getD_eq_getD_getElem?, Array.getElem?_setIfInBounds]
        by_cases htd : d = t
        · subst htd
          have : d < a.tmps.size := by rw [h.size]; exact hdN d hd
          simp [this]
        · rw [if_neg htd, if_neg (fun e => htd (by cases e; rfl))]
    have hne : ∀ k ok t, k ∈ pre → all[k]? = some ok → ok.dst = some t → o.dst ≠ some t := by
      intro k ok t hk hok hkt e
      exact (pairOk_inv (hpo k hk ok hok)).2.2.1 t t hkt e rfl
    refine ⟨fun j hj => ?_, fun j ok hj hok hf => ?_, fun j oj hoj hj e he' hb => ?_, fun k ok t hk hok hkt => ?_, fun t ht => ?_, fun t ht => ?_, ?_, ?_, ?_, ?_, ?_, ?_, ?_, ?_⟩
    · rcases hj with rfl | hj
      · simp
      · exact List.mem_cons_of_mem _ (h.sub j hj)
    · rcases List.mem_cons.1 hj with rfl | hj
      · exact .inl rfl
      · exact .inr (h.spine j ok hj hok hf)
    · rcases hj with rfl | hj
      · rw [ho] at hoj; cases hoj; exact .inr (hready e he' hb)
      · exact .inr (h.closed j oj hoj hj e he' hb)
    · rcases hk with rfl | hk
      · rw [ho] at hok; cases hok
        rw [hput, if_pos hkt, hget, hkt]
        simp only [if_true]
        exact hvv
      · have hn := hne k ok t (h.sub k hk) hok hkt
        rw [hput, if_neg hn, hgetN t hn]
        exact (h.f1 k ok t hk hok hkt).mono he
    · rw [hput, if_neg (ht i o (.inl rfl) ho)]
      exact (h.f2 t fun k ok hk hok => ht k ok (.inr hk) hok).mono he
    · rw [hgetN t (ht i o (by simp) ho)]
      exact h.f3 t fun k ok hk hok => ht k ok (by simp [hk]) hok
    · intro k k' ok ok' t hk hk' hok hok' hkt hkt'
      rcases List.mem_cons.1 hk with rfl | hk2 <;> rcases List.mem_cons.1 hk' with rfl | hk2'
      · rfl
      · rw [ho] at hok; cases hok
        exact absurd hkt (hne k' ok' t hk2' hok' hkt')
      · rw [ho] at hok'; cases hok'
        exact absurd hkt' (hne k ok t hk2 hok hkt)
      · exact h.dis k k' ok ok' t hk2 hk2' hok hok' hkt hkt'
    · intro k q ok oq t hk hq hkq hok hoq hkt hm
      rcases List.mem_cons.1 hk with rfl | hk2 <;> rcases List.mem_cons.1 hq with rfl | hq2
      · exact absurd rfl hkq
      · rw [ho] at hok; cases hok
        exact .inr ((pairOk_inv (hpo q hq2 oq hoq)).2.2.2.2.1 t hkt hm)
      · rw [ho] at hoq; cases hoq
        exact .inl ((pairOk_inv (hpo k hk2 ok hok)).2.2.2.1 t hkt hm)
      · exact h.pw k q ok oq t hk2 hq2 hkq hok hoq hkt hm
    · cases o.dst <;> exact h.defers
    · cases o.dst <;> simp [Act.put, h.size]
    · intro k ok d' hk hok hkd
      rcases List.mem_cons.1 hk with rfl | hk
      · rw [ho] at hok; cases hok; exact hdN d' hkd
      · exact h.dst k ok d' hk hok hkd
    · intro k ok hk hok hfk
      rcases List.mem_cons.1 hk with rfl | hk
      · rw [ho] at hok; cases hok; rw [hfl] at hfk; cases hfk
      · exact h.flt k ok hk hok hfk
    · intro k hk
      rcases List.mem_cons.1 hk with rfl | hk
      · exact ⟨o, ho⟩
      · exact h.ins k hk
    · intro q oq hq hqS hoq
      rcases List.mem_cons.1 hq with rfl | hq
      · exact absurd (.inl rfl) hqS
      · obtain ⟨frq, dq, hdq, g1, g2, g3⟩ := h.g q oq hq (fun hs => hqS (.inr hs)) hoq
        have hnb : ¬ isB (befs all []) i q = true := fun hh => by
          have := (pairOk_inv (hpo q hq oq hoq)).2.1
          rw [hh] at this; cases this
        refine ⟨frq, dq, hdq, fun t ht hex => ?_, fun t ht hex => ?_, ?_⟩
        · obtain ⟨k, ok, hk, hok, hkt, hb⟩ := hex
          rcases List.mem_cons.1 hk with rfl | hk
          · exact absurd hb hnb
          · rw [hgetN t (hne k ok t hk hok hkt)]
            exact g1 t ht ⟨k, ok, hk, hok, hkt, hb⟩
        · exact g2 t ht fun ⟨k, ok, hk, hok, hkt, hb⟩ => hex ⟨k, ok, by simp [hk], hok, hkt, hb⟩
        · rw [hgetN dq (hne q oq dq hq hoq hdq)]
          rcases g3 with ⟨h1, h2⟩ | h2
          · exact .inl ⟨h1, hG q oq hq hqS hoq frq dq hdq g1 g2 h1 h2⟩
          · exact .inr h2
  unfold wpOp
  have hoa : all.toArray[i]? = some o := by simpa using ho
  rw [hoa]
  simp only
  cases wb with
  | false =>
    rw [if_neg (by rw [wanted_of hw hv]; simp)]
    simp only [Bool.false_eq_true, if_false] at hx2
    exact hK ρ _ σ _ w R' (hnext skipV undef σ ρ _ (Ext.refl _) .skp (fun _ => rfl) fun q oq hq hqS hoq frq d hd g1 g2 h1 h2 => h2) (Ext.refl _) hr hx2 hR
  | true =>
    rw [if_pos (wanted_of hw hv)]
    left
    simp only [if_true] at hx2
    obtain ⟨L, hL, hall⟩ := bindL_some hx2
    rw [hfe.ev] at hL
    refine aval_sound hcall (ev := fev fr) (L := L) (fun x hx => ?_) hr hL fun v σ' ρ' v' w' hm e1 e2 e3 => ?_
    · cases x with
      | tmp t => exact hv t (looks_operand hx)
      | const c => exact (FR.ev (N := a.tmps.size) (a := { a with defers := [] }) (fr := .leaf) ⟨fun t => by rw [fget_leaf]; exact .dead _, rfl, rfl⟩ (.const c))
      | func f => exact .func _ _ _ _ _ rfl rfl (fun i v v' x => by simp at x) (fun i v v' x => by simp at x)
      | global g => exact .dead _
    · obtain ⟨R2, hR2, hsub⟩ := hall _ hm
      obtain ⟨fr2, f1, f2, f3⟩ := arecheck_inv chk _ _ R2 hR2
      refine hK ρ' fr2 σ' _ w' R2 (hnext v v' σ' ρ' fr2 e1 e3 f1 ?_) e1 e2 f2 fun r hr => hR r (hsub r hr)
      intro q oq hq hqS hoq frq d hd g1 g2 h1 h2
      cases hqq : quietB oq.op with
      | true => exact aop_pure σ' hqq h2
      | false =>
        have hqf : floatB oq.op = true := by
          cases hf : floatB oq.op with
          | true => rfl
          | false => exact absurd (h.spine q oq hq hoq hf) fun hs => hqS (.inr hs)
        have hqr : readB oq.op = true := by
          unfold floatB at hqf
          rw [hqq] at hqf
          simpa using hqf
        have hnb : isB (befs all []) q i = false := by
          cases hb : isB (befs all []) q i with
          | false => rfl
          | true => exact absurd (hbefS q hb) fun hs => hqS (.inr hs)
        have hqc := (pairOk_inv (hpo q hq oq hoq)).2.2.2.2.2.2 hfl hqr hnb
        obtain ⟨oq', hoq', _, _, hwr⟩ := chkOk_inv (hchk q hqc).1
        rw [hoq] at hoq'; cases hoq'
        have hneD : ∀ k ok t, k ∈ pre → all[k]? = some ok → ok.dst = some t → o.dst ≠ some t := by
          intro k ok t hk hok hkt e
          exact (pairOk_inv (hpo k hk ok hok)).2.2.1 t t hkt e rfl
        have hnb2 : ¬ isB (befs all []) i q = true := fun hh => by
          have := (pairOk_inv (hpo q hq oq hoq)).2.1
          rw [hh] at this; cases this
        -- the frame behind the operation shows the read what it saw
        have hsame : ∀ t ∈ looks all oq, fget (fput fr1 o.dst v) t = fget frq t := by
          intro t ht
          have hnd : o.dst ≠ some t := fun e => hnb2 (hwr i (by simp) o t ho e ht)
          have h0 : fget (fput fr1 o.dst v) t = fget fr t := by
            cases hd : o.dst with
            | none => exact hfe t
            | some d =>
              simp only [fput, fget_set]
              rw [if_neg (fun e => hnd (by rw [hd, e]))]
              exact hfe t
          rw [h0]
          by_cases hex : ∃ k ok, k ∈ pre ∧ all[k]? = some ok ∧ ok.dst = some t ∧ isB (befs all []) k q = true
          · exact (g1 t ht hex).symm
          · rw [g2 t ht hex]
            exact h.f3 t fun k ok hk hok hkt => hex ⟨k, ok, hk, hok, hkt, hwr k (by simp [hk]) ok t hok hkt ht⟩
        rcases f3 q hqc oq hoq with hz | ⟨_, d', σ'', hd', hval⟩
        · rw [wantA_congr hsame, h1] at hz; cases hz
        · rw [hd] at hd'; cases hd'
          rw [aop_congr (fev_congr hsame)] at hval
          obtain rfl := aop_keep (by unfold floatB at hqf; exact hqf) hval
          have hdd : fget (fput fr1 o.dst v) d = fget fr d := by
            have hnd := hneD q oq d hq hoq hd
            cases hd2 : o.dst with
            | none => exact hfe d
            | some d2 =>
              simp only [fput, fget_set]
              rw [if_neg (fun e => hnd (by rw [hd2, e]))]
              exact hfe d
          rw [hdd] at hval
          exact hval

def headSpine (all : List Oper) : List (Nat × List Nat) → Prop
  | [] => True
  | (i, _) :: _ => ∀ o, all[i]? = some o → floatB o.op = false

/-- All floats that stand next are taken abstractly. -/
theorem DInv.advanceAll (hE : edgesOk all = true) {fr0 : Fr} {σ : AHeap} {ρ : List RB} {S : Nat → Prop} {a : Act} {β : Type} {kn : K β} {R' : List β} : ∀ (post : List (Nat × List Nat)) (pre : List Nat) (fr : Fr),
    DInv P N all pre fr0 fr σ ρ S a → dChk N all (befs all []) pre post = true → adops P call all post kn fr σ = some R' →
    ∃ pre' post' fr', DInv P N all pre' fr0 fr' σ ρ S a ∧ dChk N all (befs all []) pre' post' = true ∧ adops P call all post' kn fr' σ = some R' ∧ headSpine all post' ∧ (∀ j, (j ∈ pre ∨ j ∈ post.map (·.1)) → (j ∈ pre' ∨ j ∈ post'.map (·.1)))
  | [], pre, fr, h, hc, hx => ⟨pre, [], fr, h, hc, hx, trivial, fun j hj => hj⟩
  | (i, chk) :: post, pre, fr, h, hc, hx => by
    obtain ⟨o, ho, _, _, _, _, hc2⟩ := dChk_inv hc
    cases hf : floatB o.op with
    | false => exact ⟨pre, _, fr, h, hc, hx, fun o' ho' => by rw [ho] at ho'; cases ho'; exact hf, fun j hj => hj⟩
    | true =>
      obtain ⟨fr', h1, h2⟩ := h.advance hE hc ho hf hx
      obtain ⟨pre', post', fr2, e1, e2, e3, e4, e5⟩ := DInv.advanceAll hE post (i :: pre) fr' h1 hc2 h2
      refine ⟨pre', post', fr2, e1, e2, e3, e4, fun j hj => e5 j ?_⟩
      rcases hj with hj | hj
      · exact .inl (List.mem_cons_of_mem _ hj)
      · simp only [List.map_cons, List.mem_cons] at hj
        rcases hj with rfl | hj
        · exact .inl (by simp)
        · exact .inr hj

/-- Of two that stand in the order, the pair was asked. -/
theorem dChk_later {b : List Nat} {k : Nat} : ∀ (post : List (Nat × List Nat)) (pre : List Nat), dChk N all b pre post = true → k ∈ pre → ∀ i, i ∈ post.map (·.1) → ∃ ok oi chk, all[k]? = some ok ∧ all[i]? = some oi ∧ pairOk all b chk k i ok oi = true
  | [], _, _, _, i, hi => by simp at hi
  | (j, chk) :: post, pre, hc, hk, i, hi => by
    obtain ⟨o, ho, _, _, hpair, _, hc2⟩ := dChk_inv hc
    simp only [List.map_cons, List.mem_cons] at hi
    rcases hi with rfl | hi
    · obtain ⟨ok, hok, hp⟩ := hpair k hk
      exact ⟨ok, o, chk, hok, ho, hp⟩
    · exact dChk_later post (j :: pre) hc2 (by simp [hk]) i hi
end
end Go.Ax
/- Regions whose order Go leaves open: joined. No statement of the seat is proved here. -/
namespace Go.Ax
open Go.RowKit

section
variable {P : Program} {B : Nat} {w0 : World} {N : Nat} {all : List Oper} {call : CallF}

def unl (n : Nat) (listed : Array Bool) : Nat := ((List.range n).filter fun i => !listed.getD i false).length

theorem getD_true_of_false {listed : Array Bool} {i : Nat} (hi : i < listed.size) : listed.getD i true = listed.getD i false := by
  simp [Array.getD_eq_getD_getElem?, hi]

theorem unl_lt {n : Nat} {listed : Array Bool} {i : Nat} (hn : listed.size = n) (hi : i < n) (hl : listed.getD i false = false) : unl n (listed.setIfInBounds i true) < unl n listed := by
  unfold unl
  have hsub : ∀ l : List Nat, l.Nodup → i ∈ l → (l.filter fun j => !(listed.setIfInBounds i true).getD j false).length < (l.filter fun j => !listed.getD j false).length := by
    intro l
    induction l with
    | nil => intro _ h; simp at h
    | cons x l ih =>
      intro hnd hm
      rw [List.nodup_cons] at hnd
      simp only [List.filter_cons]
      by_cases hx : x = i
      · subst hx
        have h1 : (listed.setIfInBounds x true).getD x false = true := by
          have hx' : x < listed.size := by omega
          simp [Array.getD_eq_getD_getElem?, hx']
        have hrest : (l.filter fun j => !(listed.setIfInBounds x true).getD j false) = l.filter fun j => !listed.getD j false := by
          apply List.filter_congr
          intro j hj
          have hne : x ≠ j := fun e => hnd.1 (e ▸ hj)
          rw [getD_set_ne false hne]
        rw [h1, hl, hrest]
        simp
      · have hm' : i ∈ l := by
          rcases List.mem_cons.1 hm with h | h
          · exact absurd h.symm hx
          · exact h
        have h1 : (listed.setIfInBounds i true).getD x false = listed.getD x false := getD_set_ne false (fun e => hx e.symm)
        rw [h1]
        have := ih hnd.2 hm'
        split
        · rw [List.length_cons, List.length_cons]; omega
        · exact this
  exact hsub _ List.nodup_range (List.mem_range.2 hi)

theorem dregEnd (hE : edgesOk all = true) {β : Type} {kn : K β} {R : List β} {Q : Exit → Act → World → Prop} {fr0 : Fr} {ρ0 : List RB} (hkn : KS B w0 N ρ0 R kn (Q .normal))
    (listed : Array Bool) (a : Act) (w : World) (pre : List Nat) (post : List (Nat × List Nat)) (fr : Fr) (σ : AHeap) (ρ : List RB) (R' : List β)
    (hls : listed.size = all.length) (hext : Ext ρ0 ρ) (h : DInv P N all pre fr0 fr σ ρ (fun i => listed.getD i false = true) a) (hr : Rel B w0 ρ σ w)
    (hc : dChk N all (befs all []) pre post = true) (hs : headSpine all post) (hcov : ∀ j, j < all.length → (j ∈ pre ∨ j ∈ post.map (·.1)))
    (hx : adops P call all post kn fr σ = some R') (hR : ∀ r ∈ R', r ∈ R) (hall : ∀ i, i < all.length → listed.getD i false = true) : Q .normal a w := by
  have hpost : post = [] := by
    cases post with
    | nil => rfl
    | cons p post =>
      obtain ⟨s, chk⟩ := p
      obtain ⟨os, hos, _, _, hpair, _, _⟩ := dChk_inv hc
      have hlt := (List.getElem?_eq_some_iff.1 hos).1
      obtain ⟨ok2, _, hp2⟩ := hpair s (h.sub s (hall s hlt))
      exact absurd rfl (pairOk_inv hp2).1
  subst hpost
  refine hkn ρ fr σ a w R' hext ⟨fun t => ?_, h.defers, h.size⟩ hr hx hR
  by_cases hex : ∃ k ok, k ∈ pre ∧ all[k]? = some ok ∧ ok.dst = some t
  · obtain ⟨k, ok, hk, hok, hkt⟩ := hex
    exact h.f1 k ok t (hall k (List.getElem?_eq_some_iff.1 hok).1) hok hkt
  · rw [h.f3 t fun k ok hk hok hkt => hex ⟨k, ok, hk, hok, hkt⟩]
    exact h.f2 t fun k ok hk hok hkt => hex ⟨k, ok, h.sub k hk, hok, hkt⟩

theorem wpAny_dreg (hE : edgesOk all = true) {β : Type} {kn : K β} {R : List β} {Q : Exit → Act → World → Prop} (hcall : CallOk P call) {fr0 : Fr} {ρ0 : List RB} (hkn : KS B w0 N ρ0 R kn (Q .normal)) :
    ∀ (fuel : Nat) (listed : Array Bool) (a : Act) (w : World) (pre : List Nat) (post : List (Nat × List Nat)) (fr : Fr) (σ : AHeap) (ρ : List RB) (R' : List β),
      listed.size = all.length → unl all.length listed ≤ fuel → Ext ρ0 ρ → DInv P N all pre fr0 fr σ ρ (fun i => listed.getD i false = true) a → Rel B w0 ρ σ w →
      dChk N all (befs all []) pre post = true → headSpine all post → (∀ j, j < all.length → (j ∈ pre ∨ j ∈ post.map (·.1))) →
      adops P call all post kn fr σ = some R' → (∀ r ∈ R', r ∈ R) → wpAny P .any all.toArray Q fuel listed a w := by
  intro fuel
  induction fuel with
  | zero =>
    intro listed a w pre post fr σ ρ R' hls hu hext h hr hc hs hcov hx hR
    refine ⟨?_, ?_⟩
    · cases hrd : Region.ready .any all.toArray listed with
      | nil => rfl
      | cons i l =>
        have hi : i ∈ Region.ready .any all.toArray listed := by rw [hrd]; simp
        obtain ⟨h1, o, ho, _⟩ := mem_ready.1 hi
        have hlt : i < all.length := by have := (Array.getElem?_eq_some_iff.1 ho).1; simpa using this
        have hm : i ∈ (List.range all.length).filter fun i => !listed.getD i false := by
          rw [List.mem_filter]
          refine ⟨List.mem_range.2 hlt, ?_⟩
          rw [← getD_true_of_false (by omega), h1]; rfl
        have := List.length_pos_of_mem hm
        unfold unl at hu
        omega
    · exact dregEnd hE hkn listed a w pre post fr σ ρ R' hls hext h hr hc hs hcov hx hR (by
        intro i hi
        cases hb : listed.getD i false with
        | true => rfl
        | false =>
          have hm : i ∈ (List.range all.length).filter fun i => !listed.getD i false := by
            rw [List.mem_filter]
            exact ⟨List.mem_range.2 hi, by rw [hb]; rfl⟩
          have := List.length_pos_of_mem hm
          unfold unl at hu
          omega)
  | succ fuel ih =>
    intro listed a w pre post fr σ ρ R' hls hu hext h hr hc hs hcov hx hR
    refine ⟨fun hnil => ?_, fun i hi => ?_⟩
    · refine dregEnd hE hkn listed a w pre post fr σ ρ R' hls hext h hr hc hs hcov hx hR ?_
      have key : ∀ n i, i < n → i < all.length → listed.getD i false = true := by
        intro n
        induction n with
        | zero => intro i h; omega
        | succ n ihn =>
          intro i hin hi
          cases hb : listed.getD i false with
          | true => rfl
          | false =>
            have hoi : all[i]? = some all[i] := List.getElem?_eq_getElem hi
            have : i ∈ Region.ready .any all.toArray listed := by
              rw [mem_ready]
              refine ⟨by rw [getD_true_of_false (by omega), hb], all[i], by simp [hi], fun e he hbd => ?_⟩
              have hlt := (Bef.edge (all := all) i all[i] e hoi (by simpa using he) hbd).lt hE
              exact ihn e.on (by omega) (by omega)
            rw [hnil] at this
            simp at this
      exact fun i hi => key (i + 1) i (by omega) hi
    · obtain ⟨h1, o, ho, hedge⟩ := mem_ready.1 hi
      have ho' : all[i]? = some o := by simpa using ho
      have hlt : i < all.length := (List.getElem?_eq_some_iff.1 ho').1
      have hiF : listed.getD i false = false := by rw [← getD_true_of_false (by omega)]; exact h1
      have hiS : ¬ listed.getD i false = true := by rw [hiF]; simp
      have hready : ∀ e ∈ o.after.toList, Region.binds .any e = true → listed.getD e.on false = true := fun e he hb => hedge e (by simpa using he) hb
      have hS' : ∀ j, (listed.setIfInBounds i true).getD j false = true ↔ (j = i ∨ listed.getD j false = true) := by
        intro j
        by_cases hj : j = i
        · subst hj
          have : j < listed.size := by omega
          simp [Array.getD_eq_getD_getElem?, this]
        · rw [getD_set_ne false (fun e => hj e.symm)]
          simp [hj]
      have hSeq : (fun j => (listed.setIfInBounds i true).getD j false = true) = fun j => j = i ∨ listed.getD j false = true := by
        funext j; exact propext (hS' j)
      have hls' : (listed.setIfInBounds i true).size = all.length := by simpa using hls
      have hu' : unl all.length (listed.setIfInBounds i true) ≤ fuel := by
        have := unl_lt hls hlt hiF
        omega
      rcases hcov i hlt with hpre | hpost
      · refine h.floatStep hcall hr hpre hiS ho' hready fun ρ' a' w' hd he hr' => ?_
        exact ih _ a' w' pre post fr σ ρ' R' hls' hu' (hext.trans he) (by rw [hSeq]; exact hd) hr' hc hs hcov hx hR
      · cases post with
        | nil => simp at hpost
        | cons p post =>
          obtain ⟨s, chk⟩ := p
          have hsi : s = i := by
            rcases List.mem_cons.1 (by simpa using hpost : i ∈ s :: post.map (·.1)) with rfl | hp
            · rfl
            · obtain ⟨os, hos, _, _, _, _, hc2⟩ := dChk_inv hc
              obtain ⟨ok, oi, chk', hok, hoi, hpr⟩ := dChk_later (k := s) post (s :: pre) hc2 (List.mem_cons_self) i hp
              have hb := (pairOk_inv hpr).2.2.2.2.2.1 (hs ok hok)
              have := (isB_sound hb).closed h.closed fun o'' ho'' => by rw [ho'] at ho''; cases ho''; exact hready
              have hsp := h.sub s this
              obtain ⟨_, _, _, _, hpair, _, _⟩ := dChk_inv hc
              obtain ⟨ok2, _, hp2⟩ := hpair s hsp
              exact absurd rfl (pairOk_inv hp2).1
          subst hsi
          have hc2 := hc
          obtain ⟨_, _, _, _, _, _, hc3⟩ := dChk_inv hc2
          refine h.spineStep hE hcall hr hc ho' (hs o ho') hready hx hR fun ρ' fr' σ' a' w' R2 hd he hr' hx' hR' => ?_
          obtain ⟨pre', post', fr2, e1, e2, e3, e4, e5⟩ := DInv.advanceAll hE post (s :: pre) fr' hd hc3 hx'
          refine ih _ a' w' pre' post' fr2 σ' ρ' R2 hls' hu' (hext.trans he) (by rw [hSeq]; exact e1) hr' e2 e4 (fun j hj => e5 j ?_) e3 hR'
          rcases hcov j hj with hj | hj
          · exact .inl (List.mem_cons_of_mem _ hj)
          · rcases List.mem_cons.1 (by simpa using hj : j ∈ s :: post.map (·.1)) with rfl | hj
            · exact .inl (by simp)
            · exact .inr hj

/-- A region whose order is open. -/
theorem dregion_sound (hm : P.follows .mixedOrders = true) {ord : List (Nat × List Nat)} (hd : dOk N all ord = true) {β : Type} {kn : K β} {R R' : List β} {Q : Exit → Act → World → Prop} (hcall : CallOk P call)
    {ρ : List RB} {fr : Fr} {σ : AHeap} {a : Act} {w : World} (id : Nat) (hkn : KS B w0 N ρ R kn (Q .normal)) (hf : FR N ρ fr a) (h : Rel B w0 ρ σ w)
    (hx : adops P call all ord kn fr σ = some R') (hR : ∀ r ∈ R', r ∈ R) : (Code.region id all.toArray true).wp P Q a w := by
  unfold dOk at hd
  simp only [Bool.and_eq_true] at hd
  obtain ⟨⟨hE, hcov⟩, hc⟩ := hd
  have h0 : DInv P N all [] fr fr σ ρ (fun i => (Array.replicate all.length false).getD i false = true) a := by
    have hno : ∀ i, ¬ (Array.replicate all.length false).getD i false = true := by
      intro i
      simp only [Array.getD_eq_getD_getElem?, Array.getElem?_replicate]
      split <;> simp
    refine ⟨fun i hi => absurd hi (hno i), fun i o hi => by simp at hi, fun i o _ hi => absurd hi (hno i), fun k ok t hk => absurd hk (hno k), fun t _ => hf.val t, fun _ _ => rfl, fun k _ _ _ _ hk => by simp at hk, fun k _ _ _ _ hk => by simp at hk,
      hf.defers, hf.size, fun k _ _ hk => by simp at hk, fun k _ hk => by simp at hk, fun k hk => by simp at hk, fun q _ hq => by simp at hq⟩
  obtain ⟨pre', post', fr2, e1, e2, e3, e4, e5⟩ := DInv.advanceAll hE ord [] fr h0 hc hx
  refine wp_region_any hm ?_
  have hsz : all.toArray.size = all.length := by simp
  rw [hsz]
  refine wpAny_dreg hE hcall hkn all.length _ a _ pre' post' fr2 σ ρ R' (by simp) ?_ (Ext.refl _) e1 h.drew e2 e4 (fun j hj => e5 j (.inr ?_)) e3 hR
  · unfold unl
    have := List.length_filter_le (fun i => !(Array.replicate all.length false).getD i false) (List.range all.length)
    simpa using this
  · have := List.all_eq_true.1 hcov j (List.mem_range.2 hj)
    simpa using this
end
end Go.Ax
/- What the abstract interpreter comes to is what the machine comes to: code, loops, calls. No statement of the seat is proved here. -/
namespace Go.Ax
open Go.RowKit

def AC.wf (N : Nat) : AC → Bool
  | .skip | .exit _ | .ret => true
  | .region _ ops => ops.all (dstOk N)
  | .dregion _ ops ord => dOk N ops ord
  | .other _ => false
  | .seq a b => a.wf N && b.wf N
  | .cond _ a b => a.wf N && b.wf N
  | .block _ b | .loop _ _ b | .join _ b => b.wf N

section
variable {P : Program} {B : Nat} {w0 : World} {N : Nat}

theorem acode_sound (hm : P.follows .mixedOrders = true) {call : CallF} (hcall : CallOk P call) (n : Nat) : ∀ (c : AC), c.wf N = true → ∀ {β : Type} (kn : K β) (ke : Nat → K β) (kr : K β) (R : List β) (Q : Exit → Act → World → Prop) ρ fr σ a w R',
    KS B w0 N ρ R kn (Q .normal) → (∀ i, KS B w0 N ρ R (ke i) (Q (.exit i))) → KS B w0 N ρ R kr (Q .ret) →
    FR N ρ fr a → Rel B w0 ρ σ w → acode P call n c kn ke kr fr σ = some R' → (∀ r ∈ R', r ∈ R) → c.erase.wp P Q a w := by
  intro c
  induction c with
  | skip =>
    intro _ β kn ke kr R Q ρ fr σ a w R' hn he hr hf h hx hR
    exact wp_skip (hn ρ fr σ a w R' (Ext.refl _) hf h hx hR)
  | region id ops =>
    intro hwf β kn ke kr R Q ρ fr σ a w R' hn he hr hf h hx hR
    refine wp_region ?_
    have := aops_sound hcall (all := ops) ops 0 rfl (fun o ho => List.all_eq_true.1 hwf o ho) ρ fr σ a w R' hn hf h hx hR
    simpa [List.range_eq_range'] using this
  | dregion id ops ord =>
    intro hwf β kn ke kr R Q ρ fr σ a w R' hn he hr hf h hx hR
    exact dregion_sound hm hwf hcall id hn hf h hx hR
  | other c => intro hwf; cases hwf
  | seq x y ihx ihy =>
    intro hwf β kn ke kr R Q ρ fr σ a w R' hn he hr hf h hx hR
    rw [AC.wf, Bool.and_eq_true] at hwf
    refine wp_seq (ihx hwf.1 (acode P call n y kn ke kr) ke kr R (Exit.then (y.erase.wp P Q) Q) ρ fr σ a w R' ?_ he hr hf h hx hR)
    intro ρ2 fr2 σ2 a2 w2 R2 e2 hf2 h2 hx2 hR2
    exact ihy hwf.2 kn ke kr R Q ρ2 fr2 σ2 a2 w2 R2 (hn.mono e2) (fun i => (he i).mono e2) (hr.mono e2) hf2 h2 hx2 hR2
  | cond c x y ihx ihy =>
    intro hwf β kn ke kr R Q ρ fr σ a w R' hn he hr hf h hx hR
    rw [AC.wf, Bool.and_eq_true] at hwf
    simp only [acode] at hx
    split at hx
    · rename_i hb
      exact wp_cond_true ((hf.ev c).asB hb) (ihx hwf.1 kn ke kr R Q ρ fr σ a w R' hn he hr hf h hx hR)
    · rename_i hb
      exact wp_cond_false ((hf.ev c).asB hb) (ihy hwf.2 kn ke kr R Q ρ fr σ a w R' hn he hr hf h hx hR)
    · cases hx
  | block id b ih =>
    intro hwf β kn ke kr R Q ρ fr σ a w R' hn he hr hf h hx hR
    refine wp_block (ih hwf kn _ kr R (Exit.inBlock id Q) ρ fr σ a w R' hn ?_ hr hf h hx hR)
    intro i ρ2 fr2 σ2 a2 w2 R2 e2 hf2 h2 hx2 hR2
    simp only [Exit.inBlock]
    split
    · rename_i e
      subst e
      simp only [Nat.beq_eq_true_eq, Nat.beq_refl, cond_true] at hx2
      exact hn ρ2 fr2 σ2 a2 w2 R2 e2 hf2 h2 hx2 hR2
    · rename_i e
      have : Nat.beq i id = false := by
        cases hb : Nat.beq i id with
        | false => rfl
        | true => exact absurd (Nat.eq_of_beq_eq_true hb) e
      rw [this] at hx2
      exact he i ρ2 fr2 σ2 a2 w2 R2 e2 hf2 h2 hx2 hR2
  | loop L Lx b ih =>
    intro hwf β kn ke kr R Q ρ fr σ a w R' hn he hr hf h hx hR
    simp only [acode] at hx
    obtain ⟨J, hJ, hall⟩ := bindL_some hx
    -- the ends of the loop
    have hex : ∀ i, KS B w0 N ρ J (fun fr σ => some [(Tag.exit i, fpick Lx fr, σ)]) (Q (.exit i)) := by
      intro i ρ2 fr2 σ2 a2 w2 R2 e2 hf2 h2 hx2 hR2
      cases hx2
      obtain ⟨R3, hR3, hsub⟩ := hall (Tag.exit i, fpick Lx fr2, σ2) (hR2 _ (List.mem_singleton_self _))
      exact he i ρ2 _ σ2 a2 w2 R3 e2 (hf2.make Lx) h2 hR3 fun r hr => hR r (hsub r hr)
    have hrt : KS B w0 N ρ J (fun fr σ => some [(Tag.ret, fpick Lx fr, σ)]) (Q .ret) := by
      intro ρ2 fr2 σ2 a2 w2 R2 e2 hf2 h2 hx2 hR2
      cases hx2
      obtain ⟨R3, hR3, hsub⟩ := hall (Tag.ret, fpick Lx fr2, σ2) (hR2 _ (List.mem_singleton_self _))
      exact hr ρ2 _ σ2 a2 w2 R3 e2 (hf2.make Lx) h2 hR3 fun r hr => hR r (hsub r hr)
    have key : ∀ m ρ2 fr2 σ2 a2 w2 R2, Ext ρ ρ2 → FR N ρ2 fr2 a2 → Rel B w0 ρ2 σ2 w2 →
        aloop (β := JR) L (fun k => acode P call n b k (fun i fr σ => some [(.exit i, fpick Lx fr, σ)]) (fun fr σ => some [(.ret, fpick Lx fr, σ)])) m (fpick L fr2) σ2 = some R2 → (∀ r ∈ R2, r ∈ J) →
        Code.rounds P b.erase Q m a2 w2 := by
      intro m
      induction m with
      | zero => intro ρ2 fr2 σ2 a2 w2 R2 e2 hf2 h2 hx2 hR2; simp [aloop] at hx2
      | succ m ihm =>
        intro ρ2 fr2 σ2 a2 w2 R2 e2 hf2 h2 hx2 hR2
        rw [rounds_succ]
        simp only [aloop] at hx2
        refine ih hwf _ _ _ J (Exit.then (Code.rounds P b.erase Q m) Q) ρ2 _ σ2 a2 w2 R2 ?_ (fun i => (hex i).mono e2) (hrt.mono e2) (hf2.make L) h2 hx2 hR2
        intro ρ3 fr3 σ3 a3 w3 R3 e3 hf3 h3 hx3 hR3
        exact ihm ρ3 fr3 σ3 a3 w3 R3 (e2.trans e3) hf3 h3 hx3 hR3
    exact wp_loop_rounds n (key n ρ fr σ a w J (Ext.refl _) hf h hJ fun r hr => hr)
  | exit id =>
    intro _ β kn ke kr R Q ρ fr σ a w R' hn he hr hf h hx hR
    exact wp_exit (he id ρ fr σ a w R' (Ext.refl _) hf h hx hR)
  | ret =>
    intro _ β kn ke kr R Q ρ fr σ a w R' hn he hr hf h hx hR
    exact wp_ret (hr ρ fr σ a w R' (Ext.refl _) hf h hx hR)
  | join L b ih =>
    intro hwf β kn ke kr R Q ρ fr σ a w R' hn he hr hf h hx hR
    simp only [acode] at hx
    obtain ⟨J, hJ, hall⟩ := bindL_some hx
    refine ih hwf _ _ _ J Q ρ fr σ a w J ?_ ?_ ?_ hf h hJ fun r hr => hr
    · intro ρ2 fr2 σ2 a2 w2 R2 e2 hf2 h2 hx2 hR2
      cases hx2
      obtain ⟨R3, hR3, hsub⟩ := hall (Tag.norm, fpick L fr2, σ2) (hR2 _ (List.mem_singleton_self _))
      exact hn ρ2 _ σ2 a2 w2 R3 e2 (hf2.make L) h2 hR3 fun r hr => hR r (hsub r hr)
    · intro i ρ2 fr2 σ2 a2 w2 R2 e2 hf2 h2 hx2 hR2
      cases hx2
      obtain ⟨R3, hR3, hsub⟩ := hall (Tag.exit i, fpick L fr2, σ2) (hR2 _ (List.mem_singleton_self _))
      exact he i ρ2 _ σ2 a2 w2 R3 e2 (hf2.make L) h2 hR3 fun r hr => hR r (hsub r hr)
    · intro ρ2 fr2 σ2 a2 w2 R2 e2 hf2 h2 hx2 hR2
      cases hx2
      obtain ⟨R3, hR3, hsub⟩ := hall (Tag.ret, fpick L fr2, σ2) (hR2 _ (List.mem_singleton_self _))
      exact hr ρ2 _ σ2 a2 w2 R3 e2 (hf2.make L) h2 hR3 fun r hr => hR r (hsub r hr)

/-- What a result slot holds. -/
def resF (tmps : Array Value) : ResultVar → Sem Value
  | .tmp t => pure (tmps.getD t undef)
  | .cell a t => do loadVar t (← asAddr (tmps.getD a undef))

theorem results_eq (fn : Func) (tmps : Array Value) : results fn tmps = (do
    let vs ← fn.results.mapM (resF tmps)
    pure (if h : vs.size = 1 then vs[0] else .tuple vs)) := by
  rfl

theorem aresults_sound {ρ : List RB} {σ : AHeap} {w : World} {fr : Fr} {a : Act} (h : Rel B w0 ρ σ w) (hf : FR N ρ fr a) : ∀ (res : List ResultVar) (l : List Value), aresults P fr σ res = some l →
    ∃ l', LR ρ l l' ∧ (res.mapM (resF a.tmps)).run P w = .ok l' w
  | [], l, hx => by simp [aresults] at hx; subst hx; exact ⟨[], LR.nil _, by simp⟩
  | .tmp t :: res, l, hx => by
    simp only [aresults, Option.map_eq_some_iff] at hx
    obtain ⟨l0, h0, rfl⟩ := hx
    obtain ⟨l', h1, h2⟩ := aresults_sound h hf res l0 h0
    refine ⟨_ :: l', LR.cons (hf.val t) h1, ?_⟩
    simp only [List.mapM_cons, Sem.run_bind, h2, resF, Sem.run_pure, Result.andThen_ok]
  | .cell x t :: res, l, hx => by
    simp only [aresults, Option.bind_eq_some_iff, Option.map_eq_some_iff] at hx
    obtain ⟨⟨g, m⟩, hg, v, hv, l0, h0, rfl⟩ := hx
    obtain ⟨l', h1, h2⟩ := aresults_sound h hf res l0 h0
    obtain ⟨v', e1, e2⟩ := aLoad_sound h hg (hf.val x) hv
    have hp : ∃ ad, a.tmps.getD x undef = .pointer (some ad) := by
      unfold aLoad at hv
      have := hf.val x
      split at hv
      · rename_i ad hfx
        rw [hfx] at this
        obtain ⟨a', ha, _⟩ := this.ptr_inv
        exact ⟨a', ha⟩
      · cases hv
    obtain ⟨ad, had⟩ := hp
    rw [had] at e1
    simp only [Instr.loadAt, Instr.sureAddr, pure_bind] at e1
    refine ⟨v' :: l', LR.cons e2 h1, ?_⟩
    simp only [List.mapM_cons, Sem.run_bind, h2, resF, had, asAddr, Sem.run_pure, Result.andThen_ok, e1]

/-- The abstract functions are the program's. -/
def FOk (P : Program) (F : FuncId → Option AFun) : Prop :=
  ∀ f af, F f = some af → ∃ fn c, P.funcs[f]? = some fn ∧ fn.body = some c ∧ af.body.erase = c ∧ fn.ntmps = af.n ∧ fn.results.toList = af.res ∧ af.body.wf af.n = true ∧ af.params ≤ af.n ∧ (fn.name == "runtime.NumGoroutine") = false

theorem fmake_range (params : Nat) (vs : List Value) (h : vs.length = params) (t : Nat) : ∀ k, fget (fmake (List.range' k params) vs) t = if k ≤ t then vs.getD (t - k) undef else undef := by
  subst h
  induction vs with
  | nil => intro k; simp [fmake, fget_leaf]
  | cons v vs ih =>
    intro k
    simp only [List.length_cons, List.range'_succ, fmake, fget_set, ih (k + 1)]
    by_cases h1 : t = k
    · subst h1; simp
    · rw [if_neg h1]
      by_cases h2 : k ≤ t
      · rw [if_pos (by omega), if_pos h2]
        obtain ⟨d, rfl⟩ : ∃ d, t = k + 1 + d := ⟨t - (k + 1), by omega⟩
        rw [show k + 1 + d - (k + 1) = d by omega, show k + 1 + d - k = d + 1 by omega]
        rfl
      · rw [if_neg (by omega), if_neg h2]

theorem acall_sound (hm : P.follows .mixedOrders = true) {F : FuncId → Option AFun} {X : FuncId → Option (List Value → AHeap → ND (Value × AHeap))} (hF : FOk P F)
    (hX : CallOk P fun f args σ => match X f with | some x => x args σ | none => none) : ∀ n, CallOk P (acall P F X n) := by
  intro n
  induction n with
  | zero => intro g args σ R hx; simp [acall] at hx
  | succ n ih =>
    intro g args σ R hx B w0 ρ w args' h ha
    simp only [acall] at hx
    split at hx
    · rename_i x hxg
      exact hX g args σ R (by simp [hxg, hx]) B w0 ρ w args' h ha
    · split at hx
      · rename_i af hF1
        obtain ⟨fn, c, hfn, hbody, hers, hn, hres, hwf, hpar, hname⟩ := hF g af hF1
        obtain ⟨R0, hx, hmerge⟩ := amerge_ok hx
        suffices hgoal : fn.body.isNone = false ∧ Calls P g args'.toArray w fun e w' => ∃ v v' ρ' σ', (v, σ') ∈ R0 ∧ e = .returned v' ∧ Ext ρ ρ' ∧ Rel B w0 ρ' σ' w' ∧ VR ρ' v v' from
          ⟨fn, hfn, hname, .inl ⟨hgoal.1, hgoal.2.mono fun e w' he => by
            obtain ⟨v, v', ρ', σ', hm, h1, h2, h3, h4⟩ := he
            obtain ⟨σ2, hm2, hk⟩ := hmerge v σ' hm
            exact ⟨v, v', ρ', σ2, hm2, h1, h2, hk _ _ _ _ h3, h4⟩⟩⟩
        revert hx
        generalize R0 = R
        intro hx
        cases hlen : Nat.beq args.length af.params with
        | false => rw [hlen] at hx; cases hx
        | true =>
          rw [hlen] at hx
          simp only [cond_true] at hx
          have hlen := Nat.eq_of_beq_eq_true hlen
          refine ⟨by simp [hbody], ?_⟩
          refine calls_of_wp hfn hbody ?_
          rw [← hers]
          have hpost : ∀ (e : Exit), e = .normal ∨ e = .ret → KS B w0 af.n ρ R (aret P af.res) (bodyPost P fn (fun e w' => ∃ v v' ρ' σ', (v, σ') ∈ R ∧ e = .returned v' ∧ Ext ρ ρ' ∧ Rel B w0 ρ' σ' w' ∧ VR ρ' v v') e) := by
            intro e he ρ2 fr2 σ2 a2 w2 R2 e2 hf2 h2 hx2 hR2
            have hmain : a2.defers = [] ∧ ∃ v, (results fn a2.tmps).run P w2 = .ok v w2 ∧ ∃ v0 v' ρ' σ', (v0, σ') ∈ R ∧ Ending.returned v = .returned v' ∧ Ext ρ ρ' ∧ Rel B w0 ρ' σ' w2 ∧ VR ρ' v0 v' := by
              refine ⟨hf2.defers, ?_⟩
              unfold aret at hx2
              have hrun : ∀ l l' : List Value, LR ρ2 l l' → (af.res.mapM (resF a2.tmps)).run P w2 = .ok l' w2 →
                  (results fn a2.tmps).run P w2 = .ok (if hh : l'.toArray.size = 1 then l'.toArray[0] else .tuple l'.toArray) w2 := by
                intro l l' _ hm
                rw [results_eq, Array.mapM_eq_mapM_toList, hres]
                simp only [bind_map_left, Sem.run_bind]
                rw [hm]
                rfl
              split at hx2
              · rename_i v hv
                cases hx2
                obtain ⟨l', h1, h2'⟩ := aresults_sound (P := P) h2 hf2 af.res _ hv
                obtain ⟨v', l2, rfl, hvv, hnil⟩ := h1.cons_inv
                rw [hnil.nil_inv] at h2' h1
                exact ⟨_, hrun _ _ h1 h2', v, v', ρ2, σ2, hR2 _ (by simp), rfl, e2, h2, hvv⟩
              · rename_i l hone hl
                cases hx2
                obtain ⟨l', h1, h2'⟩ := aresults_sound (P := P) h2 hf2 af.res _ hl
                have hne : ¬ l'.toArray.size = 1 := by
                  intro e1
                  have e1 : l'.length = 1 := by simpa using e1
                  rw [← h1.1] at e1
                  obtain ⟨x, rfl⟩ := List.length_eq_one_iff.1 e1
                  exact hone x rfl
                refine ⟨_, hrun _ _ h1 h2', .tuple l.toArray, _, ρ2, σ2, hR2 _ (List.mem_singleton_self _), rfl, e2, h2, ?_⟩
                rw [dif_neg hne]
                exact VR.tuple' (by simpa using h1)
              · cases hx2
            rcases he with rfl | rfl
            · exact hmain
            · exact hmain
          have hfr : FR af.n ρ (fmake (List.range af.params) args) { tmps := args'.toArray ++ Array.replicate (fn.ntmps - args'.toArray.size) undef, defers := [] } := by
            refine ⟨fun t => ?_, rfl, ?_⟩
            · rw [List.range_eq_range', fmake_range _ _ hlen t 0, if_pos (Nat.zero_le _)]
              simp only [Nat.sub_zero, Array.getD_eq_getD_getElem?, Array.getElem?_append, List.size_toArray]
              split
              · rename_i hlt
                have hlt2 : t < args.length := by rw [ha.1]; exact hlt
                have := ha.2 t _ _ (List.getElem?_eq_getElem hlt2) (List.getElem?_eq_getElem hlt)
                simpa [List.getD, hlt2, hlt] using this
              · rename_i hge
                have : args.getD t undef = undef := by simp [List.getD, List.getElem?_eq_none (show args.length ≤ t by rw [ha.1]; omega)]
                rw [this]; exact .dead _
            · have := ha.1
              simp [hn]; omega
          exact acode_sound hm ih n af.body hwf _ _ _ R _ ρ _ σ _ w R (hpost _ (.inl rfl)) (fun i ρ2 fr2 σ2 a2 w2 R2 _ _ _ hx2 _ => by cases hx2) (hpost _ (.inr rfl)) hfr h hx fun r hr => hr
      · cases hx
end
end Go.Ax
/- From the program's own functions, and hints on what is alive where, to the abstract interpreter's functions. No statement of the seat is proved here. -/
namespace Go.Ax
open Go.RowKit

inductive Hint where
  | loop (L Lx : List Nat)
  | loopj (L Lx Lj : List Nat)
  | ord (l : List (Nat × List Nat))
  | join (L : List Nat)

def withJoin (h : Option Hint) (c : AC) : AC :=
  match h with
  | some (.join L) => .join L c
  | _ => c

def toAC (h : Nat → Option Hint) : Code → Nat → AC × Nat
  | .skip, k => (.skip, k)
  | .region id ops false, k => (.region id ops.toList, k)
  | .region id ops true, k => match h k with
    | some (.ord l) => (.dregion id ops.toList l, k + 1)
    | _ => (.dregion id ops.toList [], k + 1)
  | .seq a b, k => (.seq (toAC h a k).1 (toAC h b (toAC h a k).2).1, (toAC h b (toAC h a k).2).2)
  | .cond c a b, k => (withJoin (h k) (.cond c (toAC h a (k + 1)).1 (toAC h b (toAC h a (k + 1)).2).1), (toAC h b (toAC h a (k + 1)).2).2)
  | .block id b, k => (withJoin (h k) (.block id (toAC h b (k + 1)).1), (toAC h b (k + 1)).2)
  | .loop b, k => match h k with
    | some (.loop L Lx) => (.loop L Lx (toAC h b (k + 1)).1, (toAC h b (k + 1)).2)
    | some (.loopj L Lx Lj) => (.loop L Lx (.join Lj (toAC h b (k + 1)).1), (toAC h b (k + 1)).2)
    | _ => (.loop [] [] (toAC h b (k + 1)).1, (toAC h b (k + 1)).2)
  | .exit i, k => (.exit i, k)
  | .ret, k => (.ret, k)
  | c, k => (.other c, k)

theorem erase_withJoin (h : Option Hint) (c : AC) : (withJoin h c).erase = c.erase := by
  unfold withJoin; split <;> rfl

theorem erase_toAC (h : Nat → Option Hint) : ∀ (c : Code) (k : Nat), (toAC h c k).1.erase = c := by
  intro c
  induction c with
  | region id ops d =>
    intro k
    cases d with
    | false => simp [toAC, AC.erase]
    | true =>
      simp only [toAC]
      split <;> simp [AC.erase]
  | seq a b iha ihb => intro k; simp only [toAC, AC.erase, iha, ihb]
  | cond c a b iha ihb => intro k; simp only [toAC, erase_withJoin, AC.erase, iha, ihb]
  | block id b ih => intro k; simp only [toAC, erase_withJoin, AC.erase, ih]
  | loop b ih =>
    intro k
    simp only [toAC]
    split <;> simp [AC.erase, ih]
  | _ => intro k; rfl

def mkF (P : Program) (skip : List FuncId) (H : FuncId → Nat → Option Hint) (f : FuncId) : Option AFun :=
  match cond (skip.contains f) none P.funcs[f]? with
  | some fn => match fn.body with
    | some c => some { n := fn.ntmps, params := fn.params.size + fn.nfree, res := fn.results.toList, body := (toAC (H f) c 0).1 }
    | none => none
  | none => none

def okF (P : Program) (skip : List FuncId) (H : FuncId → Nat → Option Hint) (f : FuncId) : Bool :=
  match mkF P skip H f with
  | some af => af.body.wf af.n && Nat.ble af.params af.n
  | none => true

theorem FOk.mk {P : Program} {skip : List FuncId} {H : FuncId → Nat → Option Hint} (h1 : (List.range P.funcs.size).all (okF P skip H) = true) (h2 : P.funcs.toList.all (fun fn => !(fn.name == "runtime.NumGoroutine")) = true) : FOk P (mkF P skip H) := by
  intro f af hf
  have hf0 := hf
  unfold mkF at hf
  split at hf
  · rename_i fn hfn0
    have hfn : P.funcs[f]? = some fn := by
      cases hs : skip.contains f with
      | true => rw [hs] at hfn0; cases hfn0
      | false => rw [hs] at hfn0; exact hfn0
    split at hf
    · rename_i c hc
      cases hf
      have hlt : f < P.funcs.size := (Array.getElem?_eq_some_iff.1 hfn).1
      have hok := List.all_eq_true.1 h1 f (List.mem_range.2 hlt)
      unfold okF at hok
      rw [hf0] at hok
      simp only [Bool.and_eq_true] at hok
      have hmem : fn ∈ P.funcs.toList := by
        have := Array.mem_of_getElem? hfn
        simpa using this
      have hname := List.all_eq_true.1 h2 fn hmem
      exact ⟨fn, c, hfn, hc, erase_toAC _ _ _, rfl, rfl, hok.1, Nat.le_of_ble_eq_true hok.2, by simpa using hname⟩
    · cases hf
  · cases hf
end Go.Ax
/- Functions without a body that the abstract interpreter takes: room whose bytes nobody knows; and how a closed call is told. No statement of the seat is proved here. -/
namespace Go.Ax
open Go.RowKit

/-- 'internal/bytealg.MakeNoZero': room whose bytes nobody knows; e: the type of a byte. -/
def aMakeNoZero (e : TypeId) (args : List Value) (σ : AHeap) : ND (Value × AHeap) :=
  match args with
  | [.int .i64 n] => if 0 ≤ n ∧ n ≤ 140737488355328 then some [(.slice (some ⟨σ.size, 0, none⟩) n.toNat (OPEN * 1 + n.toNat), σ.push (.cells (List.replicate n.toNat undef) e true))] else none
  | _ => none

theorem digits_size : ∀ (n t : Nat) (acc : Array Value), (Extern.BytealgMakeNoZero.digits n t acc).size = acc.size + n
  | 0, _, _ => rfl
  | n + 1, t, acc => by
    rw [Extern.BytealgMakeNoZero.digits, digits_size n]
    simp; omega

theorem LR.undefs (ρ : List RB) (n : Nat) {l' : List Value} (h : l'.length = n) : LR ρ (List.replicate n undef) l' := by
  refine ⟨by simp [h], fun i v v' a b => ?_⟩
  simp [List.getElem?_replicate] at a
  obtain ⟨_, rfl⟩ := a
  exact .dead _

/-- What is asked of a function without a body. -/
structure NoBody (P : Program) (g : FuncId) (e : Array Value → Sem Value) : Prop where
  fn : ∃ fn, P.funcs[g]? = some fn ∧ (fn.name == "runtime.NumGoroutine") = false ∧ fn.body.isNone = true ∧ Extern.findNext fn = none ∧ Extern.find fn = some e

theorem makeNoZero_ok {P : Program} {g : FuncId} {params results : Array TypeId} {t e : TypeId} (hb : NoBody P g (Extern.BytealgMakeNoZero.makeNoZero params results)) (ht : results[0]? = some t) (hu : P.underlying t = some (.slice e))
    {args : List Value} {σ : AHeap} {R : List (Value × AHeap)} (hx : aMakeNoZero e args σ = some R) {B : Nat} {w0 : World} {ρ : List RB} {w : World} {args' : List Value} (h : Rel B w0 ρ σ w) (ha : LR ρ args args') :
    ∃ fn, P.funcs[g]? = some fn ∧ (fn.name == "runtime.NumGoroutine") = false ∧
      ((fn.body.isNone = false ∧ Calls P g args'.toArray w fun e w' => ∃ v v' ρ' σ', (v, σ') ∈ R ∧ e = .returned v' ∧ Ext ρ ρ' ∧ Rel B w0 ρ' σ' w' ∧ VR ρ' v v') ∨
       (∃ v v' ρ' σ' w', (v, σ') ∈ R ∧ (callFunc g args'.toArray).run P w = .ok (.value v') w' ∧ Ext ρ ρ' ∧ Rel B w0 ρ' σ' w' ∧ VR ρ' v v')) := by
  obtain ⟨fn, hfn, hname, hbody, hnext, hfind⟩ := hb.fn
  refine ⟨fn, hfn, hname, .inr ?_⟩
  unfold aMakeNoZero at hx
  split at hx
  · rename_i n
    obtain ⟨v', l2, rfl, hv, hnil⟩ := ha.cons_inv
    rw [hnil.nil_inv, hv.int_inv]
    split at hx
    · rename_i hn
      cases hx
      obtain ⟨h0, h1⟩ := hn
      have n1 : ¬ (n < 0) := by omega
      have n2 : ¬ (281474976710656 < n) := by omega
      have hcap : n.toNat ≤ grownCap w n.toNat 0 e := by simp only [grownCap, Question.cut]; omega
      have hrun : ∃ bytes w2, w2 = w.drew.drew ∧ (Extern.BytealgMakeNoZero.makeNoZero params results #[.int .i64 n]).run P w =
          .ok (.slice (some ⟨w.heap.size, 0, none⟩) n.toNat (grownCap w n.toNat 0 e)) (w2.alloc (.cells (Extern.BytealgMakeNoZero.digits (grownCap w n.toNat 0 e) bytes #[]) e)) := by
        refine ⟨(Question.extern "internal/bytealg.MakeNoZero.bytes" 0).cut (w.drew.tape w.drew.drawn (.extern "internal/bytealg.MakeNoZero.bytes" 0)), w.drew.drew, rfl, ?_⟩
        conv => lhs; arg 2; whnf
        simp [ht, run_underlying hu, n1, n2, Question.forced, grownCap, run_askRoom, newRow]
      obtain ⟨bytes, w2, hw2, hrun⟩ := hrun
      have hr2 : Rel B w0 ρ σ w2 := by rw [hw2]; exact h.drew.drew
      have hsz : w2.heap.size = w.heap.size := by rw [hw2]; rfl
      have hds := digits_size (grownCap w n.toNat 0 e) bytes #[]
      generalize hD : Extern.BytealgMakeNoZero.digits (grownCap w n.toNat 0 e) bytes #[] = D at hrun hds
      have hds : D.size = grownCap w n.toNat 0 e := by simpa using hds
      obtain ⟨ρ', e1, e2, e3⟩ := newOpen_sound hr2 e (D.toList.drop n.toNat) (LR.undefs ρ n.toNat (l' := D.toList.take n.toNat) (by simp; omega))
      rw [List.take_append_drop, Array.toArray_toList] at e2
      refine ⟨_, .slice (some ⟨w.heap.size, 0, none⟩) n.toNat (grownCap w n.toNat 0 e), ρ', _, _, List.mem_singleton_self _, ?_, e1, e2, ?_⟩
      · rw [run_callFunc_extern hfn hname hbody hnext hfind, hrun]
        rfl
      · have hres := VR.slice (ρ := ρ') σ.size 0 n.toNat (OPEN * 1 + n.toNat) (grownCap w n.toNat 0 e) _ e3 (by
          have hdm : (OPEN * 1 + n.toNat) % OPEN = n.toNat ∧ (OPEN * 1 + n.toNat) / OPEN = 1 := by
            have : n.toNat < OPEN := by unfold OPEN; omega
            constructor
            · rw [Nat.mul_add_mod, Nat.mod_eq_of_lt this]
            · rw [Nat.mul_add_div (by unfold OPEN; omega), Nat.div_eq_of_lt this, Nat.add_zero]
          unfold CapR
          rw [if_neg (by omega), hdm.1, hdm.2]
          refine ⟨hcap, ?_⟩
          simp; omega)
        rw [hsz] at hres
        simpa using hres
    · cases hx
  · cases hx

/-- All outcomes are 'true'. -/
def allTrue (r : ND (Value × AHeap)) : Bool :=
  match r with
  | some L => L.all fun x => match x.1 with
    | .bool true => true
    | _ => false
  | none => false

theorem Rel.empty (w : World) : Rel w.heap.size w [] ⟨0, .leaf⟩ w :=
  ⟨rfl, fun i o h => by simp [AHeap.get, Tr.get_leaf] at h, fun i j oi oj ri rj h => by simp [AHeap.get, Tr.get_leaf] at h, Below.refl _ _, Nat.le_refl _⟩

theorem closed_call {P : Program} {call : CallF} (hc : CallOk P call) {f : FuncId} {fn : Func} (hf : P.funcs[f]? = some fn) (hb : fn.body.isNone = false) (h : allTrue (call f [] ⟨0, .leaf⟩) = true) (w : World) :
    Calls P f #[] w fun e w' => e = .returned (.bool true) ∧ Below w.heap.size w w' := by
  unfold allTrue at h
  split at h
  · rename_i L hL
    obtain ⟨fn', hfn', _, hor⟩ := hc f [] _ L hL _ _ _ w [] (Rel.empty w) (LR.nil _)
    rw [hf] at hfn'; cases hfn'
    rcases hor with ⟨_, hcalls⟩ | ⟨v, v', ρ', σ', w', hm, hrun, _⟩
    · refine hcalls.mono fun e w' he => ?_
      obtain ⟨v, v', ρ', σ', hm, rfl, _, hr, hv⟩ := he
      have := List.all_eq_true.1 h _ hm
      have hvt : v = .bool true := by
        revert this
        cases v with
        | bool b => cases b <;> simp
        | _ => simp
      rw [hvt] at hv
      rw [hv.bool_inv]
      exact ⟨rfl, hr.below⟩
    · simp only [callFunc] at hrun
      have hb2 : fn.body ≠ none := by intro e; rw [e] at hb; simp at hb
      simp [program, Sem.run, hf, hb2] at hrun
      split at hrun <;> simp at hrun
  · cases h
end Go.Ax
/- The abstract interpreter once more, with each value worked out before it goes on: what the kernel runs. No statement of the seat is proved here. -/
namespace Go.Ax
open Go.RowKit

section
variable {β : Type}

/-! ### Things worked out -/
noncomputable def fzN (n : Nat) (k : Nat → β) : β := @Nat.rec (fun _ => β) (k 0) (fun m _ => k (Nat.succ m)) n
theorem fzN_eq (n : Nat) (k : Nat → β) : fzN n k = k n := by cases n <;> rfl

noncomputable def fzI (n : Int) (k : Int → β) : β := @Int.rec (fun _ => β) (fun n => fzN n fun n => k (.ofNat n)) (fun n => fzN n fun n => k (.negSucc n)) n
theorem fzI_eq (n : Int) (k : Int → β) : fzI n k = k n := by
  cases n with
  | ofNat n => exact fzN_eq n fun n => k (.ofNat n)
  | negSucc n => exact fzN_eq n fun n => k (.negSucc n)

def fzK (d : IntKind) (k : IntKind → β) : β :=
  match d with
  | .i8 => k .i8
  | .i16 => k .i16
  | .i32 => k .i32
  | .i64 => k .i64
  | .u8 => k .u8
  | .u16 => k .u16
  | .u32 => k .u32
  | .u64 => k .u64
theorem fzK_eq (n : IntKind) (k : IntKind → β) : fzK n k = k n := by cases n <;> rfl

noncomputable def fzA (a : Addr) (k : Addr → β) : β :=
  match a with
  | ⟨b, o, none⟩ => fzN b fun b => fzN o fun o => k ⟨b, o, none⟩
  | ⟨b, o, some s⟩ => k ⟨b, o, some s⟩
theorem fzA_eq (a : Addr) (k : Addr → β) : fzA a k = k a := by
  obtain ⟨b, o, s⟩ := a
  cases s <;> simp [fzA, fzN_eq]

def fzL (f : Value → (Value → β) → β) : List Value → (List Value → β) → β
  | [], k => k []
  | v :: l, k => f v fun v => fzL f l fun l => k (v :: l)
theorem fzL_eq {f : Value → (Value → β) → β} (hf : ∀ v k, f v k = k v) : ∀ (l : List Value) (k : List Value → β), fzL f l k = k l
  | [], k => rfl
  | v :: l, k => by simp only [fzL, hf, fzL_eq hf l]

noncomputable def fzV : Nat → Value → (Value → β) → β
  | 0, v, k => k v
  | d + 1, v, k => match v with
    | .bool true => k (.bool true)
    | .bool false => k (.bool false)
    | .int kd n => fzI n fun n => k (.int kd n)
    | .pointer none => k (.pointer none)
    | .pointer (some a) => fzA a fun a => k (.pointer (some a))
    | .slice none l c => fzN l fun l => fzN c fun c => k (.slice none l c)
    | .slice (some a) l c => fzA a fun a => fzN l fun l => fzN c fun c => k (.slice (some a) l c)
    | .map (some r) => fzN r fun r => k (.map (some r))
    | .map none => k (.map none)
    | .iface t v => fzN t fun t => fzV d v fun v => k (.iface t v)
    | .agg c => fzL (fzV d) c.toList fun l => k (.agg ⟨l⟩)
    | .tuple c => fzL (fzV d) c.toList fun l => k (.tuple ⟨l⟩)
    | .func fn f c => fzL (fzV d) f.toList fun l => fzL (fzV d) c.toList fun m => k (.func fn ⟨l⟩ ⟨m⟩)
    | v => k v
theorem fzV_eq : ∀ (d : Nat) (v : Value) (k : Value → β), fzV d v k = k v
  | 0, v, k => rfl
  | d + 1, v, k => by
    have ih := fun v k => fzV_eq d v k
    cases v with
    | bool b => cases b <;> rfl
    | int kd n => simp [fzV, fzI_eq]
    | pointer a => cases a <;> simp [fzV, fzA_eq]
    | slice a l c => cases a <;> simp [fzV, fzA_eq, fzN_eq]
    | map r => cases r <;> simp [fzV, fzN_eq]
    | iface t v => simp [fzV, fzN_eq, ih]
    | agg c => simp [fzV, fzL_eq ih]
    | tuple c => simp [fzV, fzL_eq ih]
    | func fn f c => simp [fzV, fzL_eq ih]
    | _ => rfl

/-! ### Trees -/
def setK {α : Type} (x : α) : Nat → Tr α → Nat → (Tr α → β) → β
  | 0, t, _, k => k t
  | f + 1, t, n, k => match n, t with
    | 0, .leaf => k (.node .leaf (some x) .leaf)
    | 0, .node l _ r => k (.node l (some x) r)
    | m + 1, .leaf => cond (Nat.beq (Nat.mod m 2) 0) (setK x f .leaf (Nat.div m 2) fun l => k (.node l none .leaf)) (setK x f .leaf (Nat.div m 2) fun r => k (.node .leaf none r))
    | m + 1, .node l v r => cond (Nat.beq (Nat.mod m 2) 0) (setK x f l (Nat.div m 2) fun l => k (.node l v r)) (setK x f r (Nat.div m 2) fun r => k (.node l v r))
theorem setK_eq {α : Type} (x : α) : ∀ (f : Nat) (t : Tr α) (n : Nat) (k : Tr α → β), setK x f t n k = k (Tr.setF x f t n)
  | 0, t, n, k => rfl
  | f + 1, t, n, k => by
    cases n with
    | zero => cases t <;> rfl
    | succ m =>
      cases t with
      | leaf =>
        simp only [setK, Tr.setF, Tr.left, Tr.right, Tr.val, setK_eq x f]
        cases Nat.beq (Nat.mod m 2) 0 <;> rfl
      | node l v r =>
        simp only [setK, Tr.setF, Tr.left, Tr.right, Tr.val, setK_eq x f]
        cases Nat.beq (Nat.mod m 2) 0 <;> rfl

/-- Indices below 2^40: so deep a path. -/
def putK (fr : Fr) (d : Option Tmp) (v : Value) (k : Fr → β) : β :=
  match d with
  | some d => setK v (d + 1) fr d k
  | none => k fr
theorem putK_eq (fr : Fr) (d : Option Tmp) (v : Value) (k : Fr → β) : putK fr d v k = k (fput fr d v) := by
  cases d with
  | none => rfl
  | some d => simp only [putK, setK_eq]; rfl

def hsetK (σ : AHeap) (i : Nat) (o : AObj) (k : AHeap → β) : β := setK o (i + 1) σ.objs i fun t => k ⟨σ.size, t⟩
theorem hsetK_eq (σ : AHeap) (i : Nat) (o : AObj) (k : AHeap → β) : hsetK σ i o k = k (σ.set i o) := by
  simp only [hsetK, setK_eq]; rfl

/-! ### Rows -/
noncomputable def overO (c l : List Value) (k : List Value → Option β) : Option β :=
  @List.rec Value (fun _ => List Value → (List Value → Option β) → Option β) (fun c k => k c) (fun x _ ih c k => @List.rec Value (fun _ => Option β) none (fun _ c _ => ih c fun c => k (x :: c)) c) l c k
noncomputable def pokeO (c : List Value) (n : Nat) (l : List Value) (k : List Value → Option β) : Option β :=
  @Nat.rec (fun _ => List Value → (List Value → Option β) → Option β) (fun c k => overO c l k) (fun _ ih c k => @List.rec Value (fun _ => Option β) none (fun v c _ => ih c fun c => k (v :: c)) c) n c k
theorem overO_eq (c l : List Value) (k : List Value → Option β) : overO c l k = cond (Nat.ble l.length c.length) (k (l ++ c.drop l.length)) none := by
  induction l generalizing c k with
  | nil => cases c <;> rfl
  | cons x l ih =>
    cases c with
    | nil => rfl
    | cons y c =>
      have : overO (y :: c) (x :: l) k = overO c l fun c => k (x :: c) := rfl
      rw [this, ih]
      simp [Nat.ble]
theorem pokeO_eq (c : List Value) (n : Nat) (l : List Value) (k : List Value → Option β) : pokeO c n l k = cond (Nat.ble (n + l.length) c.length) (k (splice c n l)) none := by
  induction n generalizing c k with
  | zero =>
    have : pokeO c 0 l k = overO c l k := rfl
    rw [this, overO_eq]
    simp [splice]
  | succ n ih =>
    cases c with
    | nil =>
      have : Nat.ble (n + 1 + l.length) ([] : List Value).length = false := by rw [Bool.eq_false_iff]; simp
      rw [this]; rfl
    | cons v c =>
      have : pokeO (v :: c) (n + 1) l k = pokeO c n l fun c => k (v :: c) := rfl
      rw [this, ih]
      have : Nat.ble (n + 1 + l.length) (v :: c).length = Nat.ble (n + l.length) c.length := by
        rw [Bool.eq_iff_iff]; simp; omega
      rw [this]
      have h2 : splice (v :: c) (n + 1) l = v :: splice c n l := by
        simp [splice, show n + 1 + l.length = (n + l.length) + 1 by omega]
      rw [h2]

noncomputable def pokeK (a : Addr) (l : List Value) (σ : AHeap) : Option AHeap :=
  match l with
  | [] => some σ
  | _ => match σ.get a.block with
    | some (.cells c e opn) => cond (l.all Value.oneCell') (pokeO c a.off l fun c => hsetK σ a.block (.cells c e opn) some) none
    | _ => none
theorem pokeK_eq (a : Addr) (l : List Value) (σ : AHeap) : pokeK a l σ = aPoke a l σ := by
  cases l with
  | nil => rfl
  | cons x l =>
    simp only [pokeK, aPoke]
    generalize σ.get a.block = g
    cases g with
    | none => rfl
    | some o =>
      cases o <;> try rfl
      simp only [pokeO_eq, hsetK_eq]
      cases (x :: l).all Value.oneCell' <;> simp

noncomputable def storeK (n : Nat) (x v : Value) (σ : AHeap) : Option AHeap :=
  match x with
  | .pointer (some a) => cond (live v && Nat.beq v.cells.size n) (pokeK a v.cells.toList σ) none
  | _ => none
theorem storeK_eq (n : Nat) (x v : Value) (σ : AHeap) : storeK n x v σ = aStore n x v σ := by
  unfold storeK aStore
  cases x <;> try rfl
  rename_i a
  cases a <;> try rfl
  simp only [pokeK_eq]

noncomputable def aopK (P : Program) (ev : Operand → Value) (o : Oper) (σ : AHeap) : Option (Value × AHeap) :=
  match o.op with
  | .store t a x => (shp P t).bind fun g => (storeK g.2 (ev a) (ev x) σ).bind fun σ' => some (undef, σ')
  | _ => aop P ev o σ
theorem aopK_eq (P : Program) (ev : Operand → Value) (o : Oper) (σ : AHeap) : aopK P ev o σ = aop P ev o σ := by
  obtain ⟨dst, op, type, pos, after, guard⟩ := o
  cases op <;> try rfl
  simp only [aopK, aop, storeK_eq]
end
end Go.Ax
/- The abstract interpreter made ready once for each piece of code: closed terms that the kernel works out once. No statement of the seat is proved here. -/
namespace Go.Ax
open Go.RowKit

inductive Bx (α : Type) where
  | mk (a : α)
def Bx.un {α : Type} : Bx α → α
  | .mk a => a

theorem Bx.un_mk {α : Type} (a : α) : (Bx.mk a).un = a := rfl

/-! ### Paths in a frame, made ready -/
noncomputable def getC : Nat → Nat → Bx (Fr → Value)
  | 0, _ => .mk fun _ => undef
  | f + 1, n => match n with
    | 0 => .mk fun fr => @Tr.rec Value (fun _ => Value) undef (fun _ v _ _ _ => @Option.rec Value (fun _ => Value) undef (fun v => v) v) fr
    | m + 1 => cond (Nat.beq (Nat.mod m 2) 0)
      (match getC f (Nat.div m 2) with
        | .mk g => .mk fun fr => @Tr.rec Value (fun _ => Value) undef (fun l _ _ _ _ => g l) fr)
      (match getC f (Nat.div m 2) with
        | .mk g => .mk fun fr => @Tr.rec Value (fun _ => Value) undef (fun _ _ r _ _ => g r) fr)
theorem getC_eq : ∀ (f n : Nat) (t : Fr), n < f → (getC f n).un t = fget t n
  | 0, n, t, h => by omega
  | f + 1, n, t, h => by
    cases n with
    | zero =>
      cases t with
      | leaf => rfl
      | node l v r => cases v <;> rfl
    | succ m =>
      have hd : Nat.div m 2 < f := by show m / 2 < f; omega
      have ih := fun t => getC_eq f (Nat.div m 2) t hd
      simp only [getC]
      cases hg : getC f (Nat.div m 2) with
      | mk g =>
        rw [hg] at ih
        simp only [Bx.un_mk] at ih
        cases hb : Nat.beq (Nat.mod m 2) 0 with
        | true =>
          cases t with
          | leaf => simp only [cond_true, Bx.un_mk, fget, Tr.get_leaf]
          | node l v r => simp only [cond_true, Bx.un_mk, ih]; simp only [fget, Tr.get, hb, cond_true]
        | false =>
          cases t with
          | leaf => simp only [cond_false, Bx.un_mk, fget, Tr.get_leaf]
          | node l v r => simp only [cond_false, Bx.un_mk, ih]; simp only [fget, Tr.get, hb, cond_false]
noncomputable def lookC (t : Nat) : Bx (Fr → Value) := getC (t + 1) t
theorem lookC_eq (t : Nat) (fr : Fr) : (lookC t).un fr = fget fr t := getC_eq _ _ _ (Nat.lt_succ_self t)

noncomputable def setCF {β : Type} : Nat → Nat → Bx (Value → Fr → (Fr → β) → β)
  | 0, _ => .mk fun _ t k => k t
  | f + 1, n => match n with
    | 0 => .mk fun x t k => @Tr.rec Value (fun _ => β) (k (.node .leaf (some x) .leaf)) (fun l _ r _ _ => k (.node l (some x) r)) t
    | m + 1 => cond (Nat.beq (Nat.mod m 2) 0)
      (match setCF f (Nat.div m 2) with
        | .mk s => .mk fun x t k => @Tr.rec Value (fun _ => β) (s x .leaf fun l => k (.node l none .leaf)) (fun l v r _ _ => s x l fun l => k (.node l v r)) t)
      (match setCF f (Nat.div m 2) with
        | .mk s => .mk fun x t k => @Tr.rec Value (fun _ => β) (s x .leaf fun r => k (.node .leaf none r)) (fun l v r _ _ => s x r fun r => k (.node l v r)) t)
theorem setCF_eq {β : Type} : ∀ (f n : Nat) (x : Value) (t : Fr) (k : Fr → β), n < f → (setCF f n).un x t k = k (Tr.setF x f t n)
  | 0, n, x, t, k, h => by omega
  | f + 1, n, x, t, k, h => by
    cases n with
    | zero => cases t <;> rfl
    | succ m =>
      have hd : Nat.div m 2 < f := by show m / 2 < f; omega
      have ih := fun t k => setCF_eq (β := β) f (Nat.div m 2) x t k hd
      simp only [setCF, Tr.setF]
      cases hg : setCF (β := β) f (Nat.div m 2) with
      | mk s =>
        rw [hg] at ih
        simp only [Bx.un_mk] at ih
        cases hb : Nat.beq (Nat.mod m 2) 0 with
        | true => cases t <;> simp only [cond_true, Bx.un_mk, ih, Tr.left, Tr.right, Tr.val]
        | false => cases t <;> simp only [cond_false, Bx.un_mk, ih, Tr.left, Tr.right, Tr.val]
noncomputable def setC {β : Type} (t : Nat) : Bx (Value → Fr → (Fr → β) → β) := setCF (t + 1) t
theorem setC_eq {β : Type} (t : Nat) (v : Value) (fr : Fr) (k : Fr → β) : (setC t).un v fr k = k (fr.set t v) := setCF_eq _ _ _ _ _ (Nat.lt_succ_self t)

/-! ### A value of which the outermost is known -/
noncomputable def fz1 {β : Type} (v : Value) (k : Value → β) : β :=
  @Value.casesOn (fun _ => β) v (fun b => k (.bool b)) (fun d n => k (.int d n)) (fun d n => k (.float d n)) (fun d x y => k (.complex d x y)) (fun s => k (.string s)) (fun a => k (.pointer a)) (fun a l c => k (.slice a l c))
    (fun r => k (.map r)) (fun r => k (.chan r)) (fun f x y => k (.func f x y)) (k .nilFunc) (fun t v => k (.iface t v)) (k .nilIface) (fun c => k (.agg c)) (fun c => k (.tuple c))
theorem fz1_eq {β : Type} (v : Value) (k : Value → β) : fz1 v k = k v := by cases v <;> rfl
/-- A row's or a tuple's parts are known one by one. -/
noncomputable def fzT {β : Type} (v : Value) (k : Value → β) : β :=
  @Value.casesOn (fun _ => β) v (fun b => k (.bool b)) (fun d n => k (.int d n)) (fun d n => k (.float d n)) (fun d x y => k (.complex d x y)) (fun s => k (.string s)) (fun a => k (.pointer a)) (fun a l c => k (.slice a l c))
    (fun r => k (.map r)) (fun r => k (.chan r)) (fun f x y => k (.func f x y)) (k .nilFunc) (fun t v => k (.iface t v)) (k .nilIface) (fun c => fzL fz1 c.toList fun l => k (.agg ⟨l⟩)) (fun c => fzL fz1 c.toList fun l => k (.tuple ⟨l⟩))
theorem fzT_eq {β : Type} (v : Value) (k : Value → β) : fzT v k = k v := by
  cases v <;> first | rfl | (simp only [fzT, fzL_eq fz1_eq])
/-- How much of an operation's value is not yet known. -/
def modeOf (o : Op) : Nat :=
  match o with
  | .move _ | .assign _ | .pick .. | .extract .. | .nilCheck _ => 0
  | .load .. | .lookup .. | .entry .. | .typeAssert .. | .field .. | .call _ => 1
  | _ => 2
noncomputable def fzM {β : Type} (m : Nat) : Bx (Value → (Value → β) → β) :=
  match m with
  | 0 => .mk fz1
  | 1 => .mk fzT
  | _ => .mk (fzV 6)
theorem fzM_eq {β : Type} (m : Nat) (v : Value) (k : Value → β) : (fzM m).un v k = k v := by
  unfold fzM
  split
  · exact fz1_eq v k
  · exact fzT_eq v k
  · exact fzV_eq 6 v k

noncomputable def pickC {β : Type} : List Nat → Bx (Fr → (List Value → β) → β)
  | [] => .mk fun _ k => k []
  | t :: L => match lookC t, pickC L with
    | .mk g, .mk pk => .mk fun fr k => fz1 (g fr) fun v => pk fr fun vs => k (v :: vs)
theorem pickC_eq {β : Type} : ∀ (L : List Nat) (fr : Fr) (k : List Value → β), (pickC L).un fr k = k (fpick L fr)
  | [], fr, k => rfl
  | t :: L, fr, k => by
    have h1 := lookC_eq t fr
    have ih := fun k => pickC_eq (β := β) L fr k
    simp only [pickC]
    cases hg : lookC t with
    | mk g =>
      cases hp : pickC (β := β) L with
      | mk pk =>
        rw [hg] at h1; rw [hp] at ih
        simp only [Bx.un_mk] at h1 ih ⊢
        rw [fz1_eq, ih, h1]; rfl
noncomputable def makeC {β : Type} : List Nat → Bx (List Value → (Fr → β) → β)
  | [] => .mk fun _ k => k .leaf
  | t :: L => match setC (β := β) t, makeC (β := β) L with
    | .mk s, .mk mk => .mk fun vs k => @List.rec Value (fun _ => β) (k .leaf) (fun v vs _ => mk vs fun fr => fz1 v fun v => s v fr k) vs
theorem makeC_eq {β : Type} : ∀ (L : List Nat) (vs : List Value) (k : Fr → β), (makeC L).un vs k = k (fmake L vs)
  | [], vs, k => by cases vs <;> rfl
  | t :: L, vs, k => by
    have h1 := fun v fr (k : Fr → β) => setC_eq t v fr k
    have ih := fun vs k => makeC_eq (β := β) L vs k
    simp only [makeC]
    cases hg : setC (β := β) t with
    | mk s =>
      cases hp : makeC (β := β) L with
      | mk pk =>
        rw [hg] at h1; rw [hp] at ih
        simp only [Bx.un_mk] at h1 ih ⊢
        cases vs with
        | nil => rfl
        | cons v vs => simp only [ih, fz1_eq, h1]; rfl

/-! ### Operands, operations -/
noncomputable def evK (x : Operand) : Bx (Fr → Value) :=
  match x with
  | .tmp t => lookC t
  | .const v => cond (v.cells.toList.all flat1) (.mk fun _ => v) (.mk fun _ => undef)
  | .func f => .mk fun _ => .func (.func f) #[] #[]
  | .global _ => .mk fun _ => undef
theorem evK_eq (x : Operand) (fr : Fr) : (evK x).un fr = fev fr x := by
  cases x with
  | tmp t => exact lookC_eq t fr
  | const v => simp only [evK, fev]; cases v.cells.toList.all flat1 <;> rfl
  | func f => rfl
  | global g => rfl

noncomputable def evsK : List Operand → Bx (Fr → List Value)
  | [] => .mk fun _ => []
  | x :: l => match evK x, evsK l with
    | .mk e, .mk es => .mk fun fr => e fr :: es fr
theorem evsK_eq : ∀ (l : List Operand) (fr : Fr), (evsK l).un fr = l.map (fev fr)
  | [], fr => rfl
  | x :: l, fr => by
    have h1 := evK_eq x fr
    have h2 := evsK_eq l fr
    simp only [evsK]
    cases he : evK x with
    | mk e =>
      cases hes : evsK l with
      | mk es =>
        rw [he] at h1; rw [hes] at h2
        simp only [Bx.un] at h1 h2 ⊢
        rw [h1, h2]; rfl

noncomputable def kNum (k : IntKind) : Nat := @IntKind.rec (fun _ => Nat) 0 1 2 3 4 5 6 7 k
noncomputable def kEq (j k : IntKind) : Bool := Nat.beq (kNum j) (kNum k)
theorem kEq_eq (j k : IntKind) : kEq j k = decide (j = k) := by cases j <;> cases k <;> rfl

noncomputable def lim (k : IntKind) : Nat :=
  @IntKind.rec (fun _ => Nat) 127 32767 2147483647 9223372036854775807 255 65535 4294967295 18446744073709551615 k
theorem wrap_small (k : IntKind) (x : Nat) (h : x ≤ lim k) : k.wrap (x : Int) = x := by
  cases k <;> simp only [lim] at h <;> simp [IntKind.wrap, IntKind.bits, IntKind.signed] <;> omega

noncomputable def two {β : Type} (a b : Int) (f : Nat → Nat → β) (z : β) : β :=
  @Int.rec (fun _ => β) (fun m => @Int.rec (fun _ => β) (fun n => f m n) (fun _ => z) b) (fun _ => z) a
noncomputable def addF (k : IntKind) (a b : Int) : Int :=
  two a b (fun m n => @Bool.rec (fun _ => Int) (k.wrap (a + b)) (.ofNat (Nat.add m n)) (Nat.ble (Nat.add m n) (lim k))) (k.wrap (a + b))
theorem addF_eq (k : IntKind) (a b : Int) : addF k a b = k.wrap (a + b) := by
  cases a with
  | negSucc m => rfl
  | ofNat m =>
    cases b with
    | negSucc n => rfl
    | ofNat n =>
      show @Bool.rec (fun _ => Int) _ _ (Nat.ble (Nat.add m n) (lim k)) = _
      cases h : Nat.ble (Nat.add m n) (lim k) with
      | false => rfl
      | true => exact (wrap_small k (m + n) (Nat.le_of_ble_eq_true h)).symm
noncomputable def subF (k : IntKind) (a b : Int) : Int :=
  two a b (fun m n => @Bool.rec (fun _ => Int) (k.wrap (a - b)) (@Bool.rec (fun _ => Int) (k.wrap (a - b)) (.ofNat (Nat.sub m n)) (Nat.ble m (lim k))) (Nat.ble n m)) (k.wrap (a - b))
theorem subF_eq (k : IntKind) (a b : Int) : subF k a b = k.wrap (a - b) := by
  cases a with
  | negSucc m => rfl
  | ofNat m =>
    cases b with
    | negSucc n => rfl
    | ofNat n =>
      show @Bool.rec (fun _ => Int) _ (@Bool.rec (fun _ => Int) _ _ (Nat.ble m (lim k))) (Nat.ble n m) = _
      cases h : Nat.ble n m with
      | false => rfl
      | true =>
        cases h2 : Nat.ble m (lim k) with
        | false => rfl
        | true =>
          have h := Nat.le_of_ble_eq_true h
          have h2 := Nat.le_of_ble_eq_true h2
          have := wrap_small k (m - n) (by omega)
          show ((m - n : Nat) : Int) = k.wrap ((m : Int) - (n : Int))
          rw [← this]
          congr 1
          omega
noncomputable def ltF (a b : Int) : Bool := two a b (fun m n => Nat.ble (Nat.succ m) n) (decide (a < b))
theorem ltF_eq (a b : Int) : ltF a b = decide (a < b) := by
  cases a with
  | negSucc m => rfl
  | ofNat m =>
    cases b with
    | negSucc n => rfl
    | ofNat n =>
      show Nat.ble (Nat.succ m) n = _
      rw [Bool.eq_iff_iff]
      simp
      omega
noncomputable def eqF (a b : Int) : Bool := two a b (fun m n => Nat.beq m n) (a == b)
theorem eqF_eq (a b : Int) : eqF a b = (a == b) := by
  cases a with
  | negSucc m => rfl
  | ofNat m =>
    cases b with
    | negSucc n => rfl
    | ofNat n =>
      show Nat.beq m n = _
      rw [Bool.eq_iff_iff]
      simp
      omega

noncomputable def intK (op : BinOp) : Option (Bx (IntKind → Int → Int → Value)) :=
  match op with
  | .add => some (.mk fun k a b => .int k (addF k a b))
  | .sub => some (.mk fun k a b => .int k (subF k a b))
  | .mul => some (.mk fun k a b => .int k (k.wrap (a * b)))
  | .eql => some (.mk fun _ a b => .bool (eqF a b))
  | .neq => some (.mk fun _ a b => .bool (a != b))
  | .lss => some (.mk fun _ a b => .bool (ltF a b))
  | .leq => some (.mk fun _ a b => .bool (a ≤ b))
  | .gtr => some (.mk fun _ a b => .bool (ltF b a))
  | .geq => some (.mk fun _ a b => .bool (a ≥ b))
  | _ => none
noncomputable def binK (P : Program) (t : TypeId) (op : BinOp) : Bx (Value → Value → Option Value) :=
  match intK op with
  | some (.mk f) => .mk fun x y => match x, y with
    | .int k a, .int k' b => cond (kEq k k') (some (f k a b)) (aBinP P t op (.int k a) (.int k' b))
    | x, y => aBinP P t op x y
  | none => .mk fun x y => aBinP P t op x y
theorem binK_eq (P : Program) (t : TypeId) (op : BinOp) (x y : Value) : (binK P t op).un x y = aBinP P t op x y := by
  have key : ∀ f : IntKind → Int → Int → Value, op ≠ .shl → op ≠ .shr → (∀ k a b, aInt op k a b = some (f k a b)) →
      (match x, y with
        | .int k a, .int k' b => cond (kEq k k') (some (f k a b)) (aBinP P t op (.int k a) (.int k' b))
        | x, y => aBinP P t op x y) = aBinP P t op x y := by
    intro f h1 h2 hf
    split
    · rename_i k a k' b
      rw [kEq_eq]
      have : aBin (P.underlying t) op (.int k a) (.int k' b) = if k = k' then aInt op k a b else none := by
        cases op <;> first | rfl | exact absurd rfl h1 | exact absurd rfl h2
      by_cases e : k = k'
      · subst e
        simp only [decide_true, cond_true]
        unfold aBinP
        rw [this, if_pos rfl, hf]
      · simp [e]
    · rfl
  cases op <;> first | rfl | exact key _ (by simp) (by simp) (fun k a b => by simp only [aInt, addF_eq, subF_eq, ltF_eq, eqF_eq, gt_iff_lt])

noncomputable def copK (P : Program) (o : Oper) : Bx (Fr → AHeap → Option (Value × AHeap)) :=
  match o.op with
  | .move x | .assign x => match evK x with
    | .mk e => .mk fun fr σ => some (e fr, σ)
  | .load t a => match shp P t, evK a with
    | some (g, n), .mk e => fzN n fun n => .mk fun fr σ => (aLoad g n (e fr) σ).bind fun v => some (v, σ)
    | none, _ => .mk fun _ _ => none
  | .store t a x => match shp P t, evK a, evK x with
    | some (_, n), .mk e, .mk ex => fzN n fun n => .mk fun fr σ => (storeK n (e fr) (ex fr) σ).bind fun σ' => some (undef, σ')
    | none, _, _ => .mk fun _ _ => none
  | .binOp op t x y _ => match binK P t op, evK x, evK y with
    | .mk f, .mk ex, .mk ey => .mk fun fr σ => (f (ex fr) (ey fr)).bind fun v => some (v, σ)
  | .fieldAddr t x f => match fieldOff P t f, evK x with
    | some off, .mk e => fzN off fun off => .mk fun fr σ => (aFieldAddr off (e fr)).bind fun v => some (v, σ)
    | none, _ => .mk fun _ _ => none
  | .indexAddr t x i => match evK x, evK i with
    | .mk ex, .mk ei => .mk fun fr σ => (aIndexAddrOp P t (ex fr) (ei fr)).bind fun v => some (v, σ)
  | .extract x i => match evK x with
    | .mk e => .mk fun fr σ => (aExtract (e fr) i).bind fun v => some (v, σ)
  | .nilCheck x => match evK x with
    | .mk e => .mk fun fr σ => (aNil (e fr)).bind fun v => some (v, σ)
  | .convert s d x => match evK x with
    | .mk e => .mk fun fr σ => (aConv P s d (e fr) σ).bind fun v => some (v, σ)
  | _ => .mk fun fr σ => aop P (fev fr) o σ
theorem copK_eq (P : Program) (o : Oper) (fr : Fr) (σ : AHeap) : (copK P o).un fr σ = aop P (fev fr) o σ := by
  obtain ⟨dst, op, type, pos, after, guard⟩ := o
  cases op <;> try rfl
  case move x =>
    have h := evK_eq x fr
    simp only [copK, aop]
    cases he : evK x with
    | mk e => rw [he] at h; simp only [Bx.un] at h ⊢; rw [h]
  case assign x =>
    have h := evK_eq x fr
    simp only [copK, aop]
    cases he : evK x with
    | mk e => rw [he] at h; simp only [Bx.un] at h ⊢; rw [h]
  case load t a =>
    have h := evK_eq a fr
    simp only [copK, aop]
    cases he : evK a with
    | mk e =>
      rw [he] at h; simp only [Bx.un] at h
      cases shp P t with
      | none => rfl
      | some g => obtain ⟨g, n⟩ := g; simp only [fzN_eq, Bx.un, h, Option.bind_some]
  case store t a x =>
    have h := evK_eq a fr
    have h2 := evK_eq x fr
    simp only [copK, aop]
    cases he : evK a with
    | mk e =>
      cases hx : evK x with
      | mk ex =>
        rw [he] at h; rw [hx] at h2
        simp only [Bx.un] at h h2
        cases shp P t with
        | none => rfl
        | some g => obtain ⟨g, n⟩ := g; simp only [fzN_eq, Bx.un, h, h2, Option.bind_some, storeK_eq]
  case binOp op t x y ty =>
    have h := evK_eq x fr
    have h2 := evK_eq y fr
    have h3 := binK_eq P t op (fev fr x) (fev fr y)
    simp only [copK, aop]
    cases he : evK x with
    | mk e =>
      cases hx : evK y with
      | mk ex =>
        cases hb : binK P t op with
        | mk f =>
          rw [he] at h; rw [hx] at h2; rw [hb] at h3
          simp only [Bx.un] at h h2 h3 ⊢
          rw [h, h2, h3]
  case fieldAddr t x f =>
    have h := evK_eq x fr
    simp only [copK, aop]
    cases he : evK x with
    | mk e =>
      rw [he] at h; simp only [Bx.un] at h
      cases fieldOff P t f with
      | none => rfl
      | some off => simp only [fzN_eq, Bx.un, h, Option.bind_some]
  case indexAddr t x i =>
    have h := evK_eq x fr
    have h2 := evK_eq i fr
    simp only [copK, aop]
    cases he : evK x with
    | mk e =>
      cases hx : evK i with
      | mk ex =>
        rw [he] at h; rw [hx] at h2
        simp only [Bx.un] at h h2 ⊢
        rw [h, h2]
  case extract x i =>
    have h := evK_eq x fr
    simp only [copK, aop]
    cases he : evK x with
    | mk e => rw [he] at h; simp only [Bx.un] at h ⊢; rw [h]
  case nilCheck x =>
    have h := evK_eq x fr
    simp only [copK, aop]
    cases he : evK x with
    | mk e => rw [he] at h; simp only [Bx.un] at h ⊢; rw [h]
  case convert s d x =>
    have h := evK_eq x fr
    simp only [copK, aop]
    cases he : evK x with
    | mk e => rw [he] at h; simp only [Bx.un] at h ⊢; rw [h]
end Go.Ax
/- The abstract interpreter made ready: regions, code, functions; it is the same interpreter. No statement of the seat is proved here. -/
namespace Go.Ax
open Go.RowKit

abbrev K' (β : Type) := CallF → Nat → Fr → AHeap → ND β

section
variable {β : Type} (P : Program)

def isCall (o : Op) : Bool :=
  match o with
  | .call c => match c.callee with
    | .builtin _ => false
    | _ => true
  | .next _ false => true
  | _ => false

noncomputable def cval (o : Oper) : Bx (CallF → Fr → AHeap → ND (Value × AHeap)) :=
  match o.op with
  | .call c => match c.callee with
    | .value (.func g) => match evsK c.args.toList with
      | .mk es => .mk fun call fr σ => call g (es fr) σ
    | _ => .mk fun call fr σ => aval P call (fev fr) o σ
  | _ => .mk fun call fr σ => aval P call (fev fr) o σ
theorem cval_eq (o : Oper) (call : CallF) (fr : Fr) (σ : AHeap) : (cval P o).un call fr σ = aval P call (fev fr) o σ := by
  obtain ⟨dst, op, type, pos, after, guard⟩ := o
  cases op <;> try rfl
  rename_i c
  obtain ⟨callee, args, argTypes⟩ := c
  cases callee <;> try rfl
  rename_i f
  cases f <;> try rfl
  rename_i g
  have h := evsK_eq args.toList fr
  simp only [cval, aval, fev]
  cases he : evsK args.toList with
  | mk es => rw [he] at h; simp only [Bx.un_mk] at h ⊢; rw [h]; simp

theorem aval_plain {o : Oper} (h : isCall o.op = false) (call : CallF) (ev : Operand → Value) (σ : AHeap) : aval P call ev o σ = match aop P ev o σ with
    | some r => some [r]
    | none => none := by
  obtain ⟨dst, op, type, pos, after, guard⟩ := o
  cases op <;> try rfl
  case call c =>
    obtain ⟨callee, args, argTypes⟩ := c
    cases callee <;> first | rfl | (simp [isCall] at h)
  case next it str =>
    cases str <;> first | rfl | (simp [isCall] at h)

noncomputable def cput (m : Nat) (d : Option Tmp) (k : K' β) : Bx (CallF → Nat → Fr → Value → AHeap → ND β) :=
  match d with
  | none => .mk fun c n fr _ σ => k c n fr σ
  | some d => match setC d, fzM m with
    | .mk s, .mk fz => .mk fun c n fr v σ => fz v fun v => s v fr fun fr => k c n fr σ
theorem cput_eq (m : Nat) (d : Option Tmp) (k : K' β) (c : CallF) (n : Nat) (fr : Fr) (v : Value) (σ : AHeap) : (cput m d k).un c n fr v σ = k c n (fput fr d v) σ := by
  cases d with
  | none => rfl
  | some d =>
    have h := setC_eq (β := ND β) d v fr
    have h2 := fun k => fzM_eq (β := ND β) m v k
    simp only [cput]
    cases hs : setC (β := ND β) d with
    | mk s =>
      cases hz : fzM (β := ND β) m with
      | mk fz => rw [hs] at h; rw [hz] at h2; simp only [Bx.un_mk] at h h2 ⊢; rw [h2, h]; rfl

def plainOf (o : Op) : Option Operand :=
  match o with
  | .move x | .assign x => some x
  | _ => none
theorem plainOf_eq (P : Program) {o : Oper} {x : Operand} (h : plainOf o.op = some x) (ev : Operand → Value) (σ : AHeap) : aop P ev o σ = some (ev x, σ) ∧ isCall o.op = false := by
  obtain ⟨dst, op, type, pos, after, guard⟩ := o
  cases op <;> simp [plainOf] at h
  all_goals subst h; exact ⟨rfl, rfl⟩

noncomputable def cone (o : Oper) (k : K' β) : Bx (K' β) :=
  match cput (modeOf o.op) o.dst k with
  | .mk pt => match plainOf o.op with
    | some x => match evK x with
      | .mk e => .mk fun c n fr σ => pt c n fr (e fr) σ
    | none => cond (isCall o.op) (match cval P o with
      | .mk f => .mk fun c n fr σ => bindL (f c fr σ) fun r => match r with
        | (v, σ) => pt c n fr v σ)
      (match copK P o with
      | .mk f => .mk fun c n fr σ => @Option.rec (Value × AHeap) (fun _ => ND β) none (fun r => @Prod.rec Value AHeap (fun _ => ND β) (fun v σ => pt c n fr v σ) r) (f fr σ))
theorem cone_eq (o : Oper) (k : K' β) (c : CallF) (n : Nat) (fr : Fr) (σ : AHeap) : (cone P o k).un c n fr σ = aone P c o (k c n) fr σ := by
  have hp := cput_eq (modeOf o.op) o.dst k c n fr
  unfold cone aone
  cases hpt : cput (modeOf o.op) o.dst k with
  | mk pt =>
    rw [hpt] at hp
    simp only [Bx.un_mk] at hp
    simp only
    cases hpl : plainOf o.op with
    | some x =>
      obtain ⟨h1, h2⟩ := plainOf_eq P hpl (fev fr) σ
      have h3 := evK_eq x fr
      simp only
      cases he : evK x with
      | mk e =>
        rw [he] at h3
        simp only [Bx.un_mk] at h3 ⊢
        rw [aval_plain P h2, h1, hp, h3]
        rfl
    | none =>
      simp only
      cases hc : isCall o.op with
      | true =>
        have h := cval_eq P o c fr σ
        simp only [cond_true]
        cases hv : cval P o with
        | mk f => rw [hv] at h; simp only [Bx.un_mk] at h ⊢; rw [h]; simp only [hp]
      | false =>
        have h := copK_eq P o fr σ
        simp only [cond_false]
        cases hv : copK P o with
        | mk f =>
          rw [hv] at h; simp only [Bx.un_mk] at h ⊢
          rw [h, aval_plain P hc]
          cases aop P (fev fr) o σ with
          | none => rfl
          | some r => obtain ⟨v, σ'⟩ := r; simp [hp]

noncomputable def cguard (all : List Oper) (o : Oper) (yes no : Bx (K' β)) : Bx (K' β) :=
  match o.guard with
  | none => yes
  | some (j, want) => match (all[j]?).bind (·.dst) with
    | some t => match lookC t, setC (β := ND β) t, yes, no with
      | .mk g, .mk s, .mk y, .mk z => .mk fun c n fr σ => match asB (g fr) with
        | some true => s (.bool true) fr fun fr => cond want (y c n fr σ) (z c n fr σ)
        | some false => s (.bool false) fr fun fr => cond want (z c n fr σ) (y c n fr σ)
        | none => cond (isSkip (g fr)) (z c n fr σ) none
    | none => .mk fun _ _ _ _ => none
theorem cguard_eq (all : List Oper) (o : Oper) (yes no : Bx (K' β)) (c : CallF) (n : Nat) (fr : Fr) (σ : AHeap) :
    (cguard all o yes no).un c n fr σ = aguard all o (yes.un c n) (no.un c n) fr σ := by
  unfold cguard aguard
  cases o.guard with
  | none => rfl
  | some g =>
    obtain ⟨j, want⟩ := g
    simp only
    cases (all[j]?).bind (·.dst) with
    | none => rfl
    | some t =>
      have h1 := lookC_eq t fr
      have h2 := fun v => setC_eq (β := ND β) t v fr
      simp only
      cases hg : lookC t with
      | mk g =>
        cases hs : setC (β := ND β) t with
        | mk s =>
          rw [hg] at h1; rw [hs] at h2
          cases yes with
          | mk y =>
            cases no with
            | mk z =>
              simp only [Bx.un_mk] at h1 h2 ⊢
              rw [h1]
              cases asB (fget fr t) with
              | none => rfl
              | some b => cases b <;> simp only [h2]

noncomputable def cskip (o : Oper) (k : Bx (K' β)) : Bx (K' β) :=
  match k with
  | .mk k => match cput 0 o.dst k with
    | .mk pt => .mk fun c n fr σ => pt c n fr skipV σ
theorem cskip_eq (o : Oper) (k : Bx (K' β)) (c : CallF) (n : Nat) (fr : Fr) (σ : AHeap) : (cskip o k).un c n fr σ = k.un c n (fput fr o.dst skipV) σ := by
  cases k with
  | mk k =>
    have hp := cput_eq 0 o.dst k c n fr skipV σ
    simp only [cskip]
    cases hpt : cput 0 o.dst k with
    | mk pt => rw [hpt] at hp; exact hp

noncomputable def cops (all : List Oper) : List Oper → Bx (K' β) → Bx (K' β)
  | [], kn => kn
  | o :: os, kn => match cops all os kn with
    | .mk k => cguard all o (cone P o k) (cskip o (.mk k))
theorem cops_eq (all : List Oper) : ∀ (os : List Oper) (kn : Bx (K' β)) (c : CallF) (n : Nat), (cops P all os kn).un c n = aops P c all os (kn.un c n)
  | [], kn, c, n => rfl
  | o :: os, kn, c, n => by
    have ih := cops_eq all os kn c n
    funext fr σ
    simp only [cops, aops]
    cases hk : cops P all os kn with
    | mk k =>
      rw [hk] at ih
      simp only [Bx.un_mk] at ih
      rw [cguard_eq]
      congr 1
      · funext fr σ; rw [cone_eq]; show aone P c o (k c n) fr σ = _; rw [ih]
      · funext fr σ; rw [cskip_eq]; simp only [Bx.un_mk, ih]

noncomputable def crecheck (all : List Oper) : List Nat → Bx (K' β) → Bx (K' β)
  | [], k => k
  | q :: qs, k => match all[q]? with
    | none => .mk fun _ _ _ _ => none
    | some o => match crecheck all qs k, copK P o, o.dst with
      | .mk k', .mk f, some d => match lookC d with
        | .mk g => cguard all o (.mk fun c n fr σ => match f fr σ with
          | some (v, _) => cond (veq1 v (g fr)) (k' c n fr σ) none
          | none => none) (.mk k')
      | .mk k', _, none => cguard all o (.mk fun _ _ _ _ => none) (.mk k')
theorem crecheck_eq (all : List Oper) : ∀ (l : List Nat) (k : Bx (K' β)) (c : CallF) (n : Nat), (crecheck P all l k).un c n = arecheck P all l (k.un c n)
  | [], k, c, n => rfl
  | q :: qs, k, c, n => by
    have ih := crecheck_eq all qs k c n
    funext fr σ
    simp only [crecheck, arecheck]
    cases all[q]? with
    | none => rfl
    | some o =>
      simp only
      cases hk : crecheck P all qs k with
      | mk k' =>
        rw [hk] at ih
        simp only [Bx.un_mk] at ih
        cases hf : copK P o with
        | mk f =>
          cases hd : o.dst with
          | none =>
            simp only
            rw [cguard_eq]
            congr 1
            funext fr σ
            simp only [Bx.un_mk]
            cases aop P (fev fr) o σ <;> rfl
          | some d =>
            simp only
            cases hl : lookC d with
            | mk g =>
              simp only
              rw [cguard_eq]
              congr 1
              funext fr σ
              have h := copK_eq P o fr σ
              have h1 := lookC_eq d fr
              rw [hf] at h
              rw [hl] at h1
              simp only [Bx.un_mk] at h h1 ⊢
              rw [h]
              cases aop P (fev fr) o σ with
              | none => rfl
              | some r => obtain ⟨v, σ'⟩ := r; simp only [h1, ih]

noncomputable def cdops (all : List Oper) : List (Nat × List Nat) → Bx (K' β) → Bx (K' β)
  | [], kn => kn
  | (i, chk) :: os, kn => match all[i]? with
    | none => .mk fun _ _ _ _ => none
    | some o => match cdops all os kn with
      | .mk k => match crecheck P all chk (.mk k) with
        | .mk k' => cguard all o (cone P o k') (cskip o (.mk k))
theorem cdops_eq (all : List Oper) : ∀ (os : List (Nat × List Nat)) (kn : Bx (K' β)) (c : CallF) (n : Nat), (cdops P all os kn).un c n = adops P c all os (kn.un c n)
  | [], kn, c, n => rfl
  | (i, chk) :: os, kn, c, n => by
    have ih := cdops_eq all os kn c n
    funext fr σ
    simp only [cdops, adops]
    cases all[i]? with
    | none => rfl
    | some o =>
      simp only
      cases hk : cdops P all os kn with
      | mk k =>
        rw [hk] at ih
        simp only [Bx.un_mk] at ih
        have hr := crecheck_eq P all chk (.mk k) c n
        simp only [Bx.un_mk] at hr
        simp only
        cases hk' : crecheck P all chk (.mk k) with
        | mk k' =>
          rw [hk'] at hr
          simp only [Bx.un_mk] at hr
          simp only
          rw [cguard_eq]
          congr 1
          · funext fr σ; rw [cone_eq, hr, ih]
          · funext fr σ; rw [cskip_eq]; simp only [Bx.un_mk, ih]

def cdata (t : Tag) (pk : Fr → (List Value → ND JR) → ND JR) : K' JR := fun _ _ fr σ => pk fr fun vs => some [(t, vs, σ)]

theorem cdata_eq (t : Tag) (L : List Nat) (c : CallF) (n : Nat) : cdata t (pickC L).un c n = fun fr σ => some [(t, fpick L fr, σ)] := by
  funext fr σ; simp only [cdata, pickC_eq]

/-- A loop of which the body comes to its end as data. -/
def cloop (mL : List Value → (Fr → ND JR) → ND JR) (pL pLx : Fr → (List Value → ND JR) → ND JR) (mj : List Value → (Fr → ND JR) → ND JR) (body : K' JR) (c : CallF) (n : Nat) : Nat → List Value → AHeap → ND JR
  | 0, _, _ => none
  | m + 1, vs, σ => mL vs fun fr => bindL (body c n fr σ) fun r => match r with
    | (.norm, vs, σ) => mj vs fun fr => pL fr fun vs => cloop mL pL pLx mj body c n m vs σ
    | (.exit i, vs, σ) => mj vs fun fr => pLx fr fun vs => some [(.exit i, vs, σ)]
    | (.ret, vs, σ) => mj vs fun fr => pLx fr fun vs => some [(.ret, vs, σ)]
theorem cloop_eq (L Lx Lj : List Nat) (body : K' JR) (c : CallF) (n : Nat) (bd : K JR) (hb : ∀ fr σ, body c n fr σ = bd fr σ) : ∀ (m : Nat) (vs : List Value) (σ : AHeap),
    cloop (makeC L).un (pickC L).un (pickC Lx).un (makeC Lj).un body c n m vs σ =
      aloop (β := JR) L (fun k => fun fr σ => bindL (bd fr σ) fun r => match r with
        | (.norm, vs, σ) => k (fmake Lj vs) σ
        | (.exit i, vs, σ) => some [(.exit i, fpick Lx (fmake Lj vs), σ)]
        | (.ret, vs, σ) => some [(.ret, fpick Lx (fmake Lj vs), σ)]) m vs σ
  | 0, vs, σ => rfl
  | m + 1, vs, σ => by
    have ih := cloop_eq L Lx Lj body c n bd hb m
    simp only [cloop, aloop, makeC_eq, hb]
    congr 1
    funext r
    obtain ⟨t, vs, σ⟩ := r
    cases t with
    | norm => simp only [pickC_eq, makeC_eq, ih]
    | exit i => simp only [pickC_eq, makeC_eq]
    | ret => simp only [pickC_eq, makeC_eq]

noncomputable def ccode : AC → {β : Type} → Bx (K' β) → (Nat → Bx (K' β)) → Bx (K' β) → Bx (K' β)
  | .skip, _, kn, _, _ => kn
  | .region _ ops, _, kn, _, _ => cops P ops ops kn
  | .dregion _ ops ord, _, kn, _, _ => cdops P ops ord kn
  | .seq a b, _, kn, ke, kr => ccode a (ccode b kn ke kr) ke kr
  | .cond x a b, _, kn, ke, kr => match evK x, ccode a kn ke kr, ccode b kn ke kr with
    | .mk e, .mk fa, .mk fb => .mk fun c n fr σ => match asB (e fr) with
      | some true => fa c n fr σ
      | some false => fb c n fr σ
      | none => none
  | .block id b, _, kn, ke, kr => ccode b kn (fun i => cond (Nat.beq i id) kn (ke i)) kr
  | .loop L Lx (.join Lj b), β, _, ke, kr => match makeC (β := ND JR) L, pickC (β := ND JR) L, pickC (β := ND JR) Lx, makeC (β := ND JR) Lj, pickC (β := ND JR) Lj, makeC (β := ND β) Lx, pickC (β := ND β) L with
    | .mk mL, .mk pL, .mk pLx, .mk mj, .mk pj, .mk mx, .mk p0 =>
      match ccode b (β := JR) (.mk (cdata .norm pj)) (fun i => .mk (cdata (.exit i) pj)) (.mk (cdata .ret pj)), kr with
      | .mk body, .mk fr' => .mk fun c n fr σ => p0 fr fun vs => bindL (cloop mL pL pLx mj body c n n vs σ) fun r => match r with
        | (.exit i, vs, σ) => match ke i with
          | .mk f => mx vs fun fr => f c n fr σ
        | (.ret, vs, σ) => mx vs fun fr => fr' c n fr σ
        | (.norm, _, _) => none
  | .loop L Lx b, _, kn, ke, kr => .mk fun c n fr σ => acode P c n (.loop L Lx b) (kn.un c n) (fun i => (ke i).un c n) (kr.un c n) fr σ
  | .exit i, _, _, ke, _ => ke i
  | .ret, _, _, _, kr => kr
  | .other _, _, _, _, _ => .mk fun _ _ _ _ => none
  | .join L b, β, kn, ke, kr => match pickC (β := ND JR) L, makeC (β := ND β) L with
    | .mk pj, .mk mj =>
      match ccode b (β := JR) (.mk (cdata .norm pj)) (fun i => .mk (cdata (.exit i) pj)) (.mk (cdata .ret pj)), kn, kr with
      | .mk body, .mk fn, .mk fr' => .mk fun c n fr σ => bindL (body c n fr σ) fun r => match r with
        | (.norm, vs, σ) => mj vs fun fr => fn c n fr σ
        | (.exit i, vs, σ) => match ke i with
          | .mk f => mj vs fun fr => f c n fr σ
        | (.ret, vs, σ) => mj vs fun fr => fr' c n fr σ

theorem bx_eta {α : Type} (b : Bx α) : b = .mk b.un := by cases b; rfl

theorem ccode_eq : ∀ (ac : AC) {β : Type} (kn : Bx (K' β)) (ke : Nat → Bx (K' β)) (kr : Bx (K' β)) (c : CallF) (n : Nat),
    (ccode P ac kn ke kr).un c n = acode P c n ac (kn.un c n) (fun i => (ke i).un c n) (kr.un c n)
  | .skip, β, kn, ke, kr, c, n => rfl
  | .region _ ops, β, kn, ke, kr, c, n => cops_eq P ops ops kn c n
  | .dregion _ ops ord, β, kn, ke, kr, c, n => cdops_eq P ops ord kn c n
  | .seq a b, β, kn, ke, kr, c, n => by
    simp only [ccode, acode]
    rw [ccode_eq a, ccode_eq b]
  | .cond x a b, β, kn, ke, kr, c, n => by
    have ha := ccode_eq a kn ke kr c n
    have hb := ccode_eq b kn ke kr c n
    funext fr σ
    have hx := evK_eq x fr
    simp only [ccode, acode]
    cases he : evK x with
    | mk e =>
      cases hfa : ccode P a kn ke kr with
      | mk fa =>
        cases hfb : ccode P b kn ke kr with
        | mk fb =>
          rw [he] at hx; rw [hfa] at ha; rw [hfb] at hb
          simp only [Bx.un_mk] at hx ha hb ⊢
          rw [hx, ha, hb]
          all_goals (cases asB (fev fr x) with
          | none => rfl
          | some v => cases v <;> rfl)
  | .block id b, β, kn, ke, kr, c, n => by
    simp only [ccode, acode]
    rw [ccode_eq b]
    congr 1
    funext i fr σ
    cases Nat.beq i id <;> rfl
  | .exit i, β, kn, ke, kr, c, n => rfl
  | .ret, β, kn, ke, kr, c, n => rfl
  | .other _, β, kn, ke, kr, c, n => rfl
  | .join L b, β, kn, ke, kr, c, n => by
    have hb := ccode_eq b (β := JR) (.mk (cdata .norm (pickC L).un)) (fun i => .mk (cdata (.exit i) (pickC L).un)) (.mk (cdata .ret (pickC L).un)) c n
    funext fr σ
    simp only [ccode, acode]
    rw [bx_eta (pickC (β := ND JR) L), bx_eta (makeC (β := ND β) L)]
    simp only
    cases hbd : ccode P b (β := JR) (.mk (cdata .norm (pickC L).un)) (fun i => .mk (cdata (.exit i) (pickC L).un)) (.mk (cdata .ret (pickC L).un)) with
    | mk body =>
      rw [hbd] at hb
      simp only [Bx.un_mk, cdata_eq] at hb
      cases kn with
      | mk fn =>
        cases kr with
        | mk fr' =>
          simp only [Bx.un_mk]
          rw [hb]
          congr 1
          funext r
          obtain ⟨t, vs, σ⟩ := r
          cases t with
          | norm => simp only [makeC_eq]
          | exit i =>
            simp only
            cases ke i with
            | mk f => simp only [makeC_eq]; rfl
          | ret => simp only [makeC_eq]
  | .loop L Lx b, β, kn, ke, kr, c, n => by
    cases b
    case join Lj b =>
      have hb := ccode_eq b (β := JR) (.mk (cdata .norm (pickC Lj).un)) (fun i => .mk (cdata (.exit i) (pickC Lj).un)) (.mk (cdata .ret (pickC Lj).un)) c n
      funext fr σ
      simp only [ccode, acode]
      rw [bx_eta (pickC (β := ND JR) L), bx_eta (makeC (β := ND JR) L), bx_eta (pickC (β := ND JR) Lx), bx_eta (makeC (β := ND JR) Lj), bx_eta (pickC (β := ND JR) Lj), bx_eta (makeC (β := ND β) Lx), bx_eta (pickC (β := ND β) L)]
      simp only
      cases hbd : ccode P b (β := JR) (.mk (cdata .norm (pickC Lj).un)) (fun i => .mk (cdata (.exit i) (pickC Lj).un)) (.mk (cdata .ret (pickC Lj).un)) with
      | mk body =>
        rw [hbd] at hb
        simp only [Bx.un_mk, cdata_eq] at hb
        cases kr with
        | mk fr' =>
          simp only [Bx.un_mk, pickC_eq]
          rw [cloop_eq L Lx Lj body c n _ (fun fr σ => by rw [hb])]
          congr 1
          funext r
          obtain ⟨t, vs, σ⟩ := r
          cases t with
          | norm => rfl
          | exit i =>
            simp only
            cases ke i with
            | mk f => simp only [makeC_eq]; rfl
          | ret => simp only [makeC_eq]
    all_goals rfl

noncomputable def cret (res : List ResultVar) : Bx (K' (Value × AHeap)) := .mk fun _ _ fr σ => aret P res fr σ

noncomputable def cfun (f : AFun) : Bx (CallF → Nat → List Value → AHeap → ND (Value × AHeap)) :=
  match makeC (β := ND (Value × AHeap)) (List.range f.params), ccode P f.body (cret P f.res) (fun _ => .mk fun _ _ _ _ => none) (cret P f.res) with
  | .mk m, .mk k => .mk fun c n args σ => cond (Nat.beq args.length f.params) (m args fun fr => k c n fr σ) none

noncomputable def ccall (F : FuncId → Option AFun) (X : FuncId → Option (List Value → AHeap → ND (Value × AHeap))) : Nat → CallF
  | 0, _, _, _ => none
  | n + 1, f, args, σ => match X f with
    | some x => x args σ
    | none => match F f with
      | some af => match cfun P af with
        | .mk k => amerge σ.size (k (ccall F X n) n args σ)
      | none => none

theorem ccall_eq (F : FuncId → Option AFun) (X : FuncId → Option (List Value → AHeap → ND (Value × AHeap))) : ∀ n, ccall P F X n = acall P F X n
  | 0 => rfl
  | n + 1 => by
    have ih := ccall_eq F X n
    funext f args σ
    simp only [ccall, acall]
    cases X f with
    | some x => rfl
    | none =>
      simp only
      cases F f with
      | none => rfl
      | some af =>
        have hm := fun args k => makeC_eq (β := ND (Value × AHeap)) (List.range af.params) args k
        simp only [cfun]
        have hb := ccode_eq P af.body (cret P af.res) (fun _ => .mk fun _ _ _ _ => none) (cret P af.res) (acall P F X n) n
        cases hk : ccode P af.body (cret P af.res) (fun _ => .mk fun _ _ _ _ => none) (cret P af.res) with
        | mk k =>
          cases hmm : makeC (β := ND (Value × AHeap)) (List.range af.params) with
          | mk m =>
            rw [hk] at hb
            rw [hmm] at hm
            simp only [Bx.un_mk] at hb hm ⊢
            rw [ih]
            simp only [hm, hb]
            rfl
end
end Go.Ax
/- More functions without a body: the clone of a map, the order of two strings. No statement of the seat is proved here. -/
namespace Go.Ax
open Go.RowKit

/-- What a function without a body must meet. -/
def ExtOk (P : Program) (g : FuncId) (x : List Value → AHeap → ND (Value × AHeap)) : Prop :=
  ∀ (args : List Value) (σ : AHeap) (R : List (Value × AHeap)), x args σ = some R → ∀ B w0 ρ w args', Rel B w0 ρ σ w → LR ρ args args' →
    ∃ fn, P.funcs[g]? = some fn ∧ (fn.name == "runtime.NumGoroutine") = false ∧
      ((fn.body.isNone = false ∧ Calls P g args'.toArray w fun e w' => ∃ v v' ρ' σ', (v, σ') ∈ R ∧ e = .returned v' ∧ Ext ρ ρ' ∧ Rel B w0 ρ' σ' w' ∧ VR ρ' v v') ∨
       (∃ v v' ρ' σ' w', (v, σ') ∈ R ∧ (callFunc g args'.toArray).run P w = .ok (.value v') w' ∧ Ext ρ ρ' ∧ Rel B w0 ρ' σ' w' ∧ VR ρ' v v'))

theorem ExtOk.mk {P : Program} {g : FuncId} {e : Array Value → Sem Value} {x : List Value → AHeap → ND (Value × AHeap)} (hb : NoBody P g e)
    (h : ∀ (args : List Value) (σ : AHeap) (R : List (Value × AHeap)), x args σ = some R → ∀ B w0 ρ w args', Rel B w0 ρ σ w → LR ρ args args' →
      ∃ v v' ρ' σ' w', (v, σ') ∈ R ∧ (e args'.toArray).run P w = .ok v' w' ∧ Ext ρ ρ' ∧ Rel B w0 ρ' σ' w' ∧ VR ρ' v v') : ExtOk P g x := by
  intro args σ R hx B w0 ρ w args' hr ha
  obtain ⟨fn, hfn, hname, hbody, hnext, hfind⟩ := hb.fn
  obtain ⟨v, v', ρ', σ', w', hm, e1, e2, e3, e4⟩ := h args σ R hx B w0 ρ w args' hr ha
  refine ⟨fn, hfn, hname, .inr ⟨v, v', ρ', σ', w', hm, ?_, e2, e3, e4⟩⟩
  rw [run_callFunc_extern hfn hname hbody hnext hfind, e1]
  rfl

def aClone (args : List Value) (σ : AHeap) : ND (Value × AHeap) :=
  match args with
  | [.iface t (.map (some r))] => match σ.get r with
    | some (.map es clock) => some [(.iface t (.map (some σ.size)), σ.push (.map es clock))]
    | _ => none
  | _ => none

theorem clone_ok {P : Program} {g : FuncId} (hb : NoBody P g Extern.MapsClone.clone) : ExtOk P g aClone := by
  refine .mk hb fun args σ R hx B w0 ρ w args' h ha => ?_
  unfold aClone at hx
  split at hx
  · rename_i t r
    obtain ⟨v', l2, rfl, hv, hnil⟩ := ha.cons_inv
    rw [hnil.nil_inv]
    obtain ⟨u, rfl, _, hu⟩ := hv.iface_inv
    obtain ⟨x, rfl, hxr⟩ := hu.map_inv
    split at hx
    · rename_i es clock hg
      cases hx
      obtain ⟨es', h1, h2⟩ := h.mapAt hg hxr
      have hgo := run_getObj (P := P) h1 (fun c e fz => by simp)
      obtain ⟨ρ', e1, e2, e3, e4⟩ := newO_sound (P := P) h (o := .map es clock) (x := .map es' clock) rfl (fun ρ' r hp hext _ hh => ⟨es', hh, h2.mono hext⟩)
      refine ⟨_, .iface t (.map (some w.heap.size)), ρ', _, _, List.mem_singleton_self _, ?_, e2, e3, .iface _ _ _ (by simp [undef]) (.map _ _ e4)⟩
      have hdef : Extern.MapsClone.clone #[.iface t (.map (some x.b))] = (getObj x.b >>= fun o => match o with
          | .map entries clock => newObj (.map entries clock) >>= fun r => pure (.iface t (.map (some r)))
          | _ => stuck "maps.clone: a map expected") := rfl
      show (Extern.MapsClone.clone #[.iface t (.map (some x.b))]).run P w = _
      rw [hdef]
      simp [hgo, e1]
    · cases hx
  · cases hx

def aCmpStr (args : List Value) (σ : AHeap) : ND (Value × AHeap) :=
  match args with
  | [.string a, .string b] => some [(.int .i64 (Extern.BytealgCompare.cmp a b), σ)]
  | _ => none

theorem cmpStr_ok {P : Program} {g : FuncId} (hb : NoBody P g Extern.BytealgCompare.compare) : ExtOk P g aCmpStr := by
  refine .mk hb fun args σ R hx B w0 ρ w args' h ha => ?_
  unfold aCmpStr at hx
  split at hx
  · rename_i a b
    cases hx
    obtain ⟨v', l2, rfl, hv, ha⟩ := ha.cons_inv
    obtain ⟨v2, l3, rfl, hv2, hnil⟩ := ha.cons_inv
    rw [hnil.nil_inv, hv.string_inv, hv2.string_inv]
    exact ⟨_, .int .i64 (Extern.BytealgCompare.cmp a b), ρ, _, w, List.mem_singleton_self _, rfl, Ext.refl _, h, .int _ _⟩
  · cases hx
end Go.Ax
