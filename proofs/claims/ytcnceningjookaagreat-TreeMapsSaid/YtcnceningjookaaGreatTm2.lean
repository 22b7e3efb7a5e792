/- Texts of one proof,joined. No statement of the seat is proved here. -/
import Derived.Test.YtcnceningjookaaGreatTm1
import Derived.Recover
import Derived.Scope
import Derived.Laws.Externs
set_option linter.unusedVariables false
set_option linter.unusedSimpArgs false
set_option linter.unnecessarySimpa false
set_option linter.constructorNameAsVariable false
namespace Go.Ax
open Go.RowKit
def fL (P:Program) (s d:TypeId) (x:Value) (σ:AHeap):Option Value :=
 match P.underlying s,P.underlying d,x with
 | some _,some (.int k),.int _ n=>some (.int k (k.wrap n))
 | some .string,some .string,.string b=>some (.string b)
 | some (.slice e),some .string,x=>match P.underlying e with
   | some (.int .u8)=>V5 x σ
   | _=>none
 | some (.slice _),some (.slice e),.slice (some a) l c=>cond (Nat.beq s d && a.spot.isNone) (match P.underlying e,σ.get a.block with
   | some (.int .u8),some (.cells _ _ _)=>some (.slice (some a) l c)
   | _,_=>none) none
 | _,_,_=>none
def KT (P:Program) (t:TypeId) (x:Value):Option Value :=
 match P.underlying t with
 | some (.interface _) | none=>none
 | some _=>cond (DQ x) (some (.iface t x)) none
def kN (P:Program) (t:TypeId) (c:List Value) (off:Nat):Option Value :=
 match eR P t with
 | some (true,n)=>cond (Nat.ble (off+n) c.length) (some (.agg ((c.drop off).take n).toArray)) none
 | some (false,_)=>c[off]?
 | none=>none
def fT (P:Program) (t:TypeId) (f:Nat) (x:Value):Option Value :=
 match P.underlying t,x with
 | some (.struct fs),.agg c=>match fs[f]? with
   | some fd=>kN P fd.type c.toList fd.offset
   | none=>none
 | _,_=>none
def bQ (P:Program) (t:TypeId) (x i:Value):Option Value :=
 match P.underlying t,x,i with
 | some (.array n e),.agg c,.int _ i=>match P.info? e with
   | some j=>if 0≤i∧i<n then kN P e c.toList (i.toNat*j.size) else none
   | none=>none
 | some .string,.string s,.int _ i=>if 0≤i then match s[i.toNat]? with
  | some b=>some (.int .u8 b.toNat)
  | none=>none
  else none
 | _,_,_=>none
def kS (x y:Value):Option Value :=
 match x,y with
 | .int k a,.int _ b=>some (.int k (if b<a then b else a))
 | _,_=>none
def lR (x y:Value):Option Value :=
 match x,y with
 | .int k a,.int _ b=>some (.int k (if b > a then b else a))
 | _,_=>none
def yH (d:Option TypeDesc) (x:Value):Option Value :=
 match d,x with
 | some (.slice _),.slice _ n _=>some (.int .i64 n)
 | some .string,.string s=>some (.int .i64 s.size)
 | _,_=>none
def fP (P:Program) (t:TypeId) (x:Value) (σ:AHeap):Option Value :=
 match yH (P.underlying t) x with
 | some v=>some v
 | none=>match P.underlying t with
   | some (.map _ _)=>(JQ x σ).map fun es=>.int .i64 es.length
   | _=>none
def oX (x:Value):Option Value :=
 match x with
 | .slice _ _ c=>cond (Nat.blt c A4) (some (.int .i64 c)) none
 | _=>none
def cA (zc:List Value) (x:Value) (σ:AHeap):Option AHeap :=
 match x with
 | .slice none _ _=>some σ
 | .slice (some a) n _=>PL a (reps n zc) σ
 | _=>none
def KI (P:Program) (b:Builtin) (ts:List TypeId) (args:List Value) (σ:AHeap):Option (Value×AHeap) :=
 match b,ts,args with
 | .append,[t,u],[s,x]=>match DH P t with
   | some (e,z,by')=>match CK P e with
     | some zv=>cond (Q4 P u) (BZ e z by' s x σ) (cond (dN P u) (O0 e z by' zv.cells.toList s x σ) none)
     | none=>none
   | none=>none
 | .copy,[t,_],[d,x]=>match DH P t with
   | some (_,z,_)=>LM z d x σ
   | none=>none
 | .len,[t],[x]=>(fP P t x σ).bind fun v=>some (v,σ)
 | .delete,[t,_],[m,k]=>(M8 P t m k σ).bind fun σ'=>some (.tuple #[],σ')
 | .min,_,[x,y]=>(kS x y).bind fun v=>some (v,σ)
 | .max,_,[x,y]=>(lR x y).bind fun v=>some (v,σ)
 | .cap,[t],[x]=>match P.underlying t with
   | some (.slice _)=>(oX x).bind fun v=>some (v,σ)
   | _=>none
 | .clear,[t],[x]=>match DH P t with
   | some (e,_,_)=>match CK P e with
     | some zv=>(cA zv.cells.toList x σ).bind fun σ'=>some (.tuple #[],σ')
     | none=>none
   | none=>none
 | _,_,_=>none
def I7 (P:Program) (ev:Operand→Value) (o:Oper) (σ:AHeap):Option (Value×AHeap) :=
 match o.op with
 | .move x | .assign x=>some (ev x,σ)
 | .pick c a b=>(asB (ev c)).bind fun t=>some (cond t (ev a) (ev b),σ)
 | .alloc e=>(CK P e).bind fun z=>some (yY e z.cells.toList σ)
 | .box e x=>ACv e (ev x) σ
 | .build t ps=>(bM P t (ps.toList.map fun p=>(p.1,ev p.2))).bind fun v=>some (v,σ)
 | .buildSlice t n ps=>cond (Nat.beq n 0 && !ps.toList.isEmpty) none (HC P t n (ps.toList.map fun p=>(p.1,ev p.2)) σ)
 | .load t a=>(eR P t).bind fun g=>(AF g.1 g.2 (ev a) σ).bind fun v=>some (v,σ)
 | .store t a x=>(eR P t).bind fun g=>(AP g.2 (ev a) (ev x) σ).bind fun σ'=>some (undef,σ')
 | .nilCheck x=>(B5 (ev x)).bind fun v=>some (v,σ)
 | .binOp op t x y _=>(ZY P t op (ev x) (ev y)).bind fun v=>some (v,σ)
 | .unOp op _ x=>(sB op (ev x)).bind fun v=>some (v,σ)
 | .convert s d x=>(fL P s d (ev x) σ).bind fun v=>some (v,σ)
 | .makeInterface t x=>(KT P t (ev x)).bind fun v=>some (v,σ)
 | .makeFunc fn f c=>some (.func fn (f.toList.map ev).toArray (c.toList.map ev).toArray,σ)
 | .makeSlice t l c=>match DH P t with
   | some (e,_,by')=>match CK P e with
     | some z=>PC e by' z.cells.toList (ev l) (ev c) σ
     | none=>none
   | none=>none
 | .slice t x lo hi mx=>(UQ P t (ev x) (lo.map ev) (hi.map ev) (mx.map ev)).bind fun v=>some (v,σ)
 | .fieldAddr t x f=>(NQ P t f).bind fun off=>(AA off (ev x)).bind fun v=>some (v,σ)
 | .field t x f=>(fT P t f (ev x)).bind fun v=>some (v,σ)
 | .indexAddr t x i=>(KR P t (ev x) (ev i)).bind fun v=>some (v,σ)
 | .index t x i=>(bQ P t (ev x) (ev i)).bind fun v=>some (v,σ)
 | .extract x i=>(CY (ev x) i).bind fun v=>some (v,σ)
 | .makeMap t r=>JU P t (r.map ev) σ
 | .lookup t x i ok=>(EL P t (ev x) (ev i) ok σ).bind fun v=>some (v,σ)
 | .mapUpdate t m k x=>(FL P t (ev m) (ev k) (ev x) σ).bind fun σ'=>some (undef,σ')
 | .mapEntry t m k=>MD P t (ev m) (ev k) σ
 | .entryStore _ m s x=>(HA (ev m) (ev s) (ev x) σ).bind fun σ'=>some (undef,σ')
 | .range t x=>X0 P t (ev x) σ
 | .next it str=>cond str (aC (ev it) σ) none
 | .entry it=>(VF (ev it) σ).bind fun v=>some (v,σ)
 | .typeAssert x _ t ok=>(H8 P t ok (ev x)).bind fun v=>some (v,σ)
 | .call c=>match c.callee with
   | .builtin b=>KI P b c.argTypes.toList (c.args.toList.map ev) σ
   | _=>none
 | _=>none
section
variable {P:Program} {B:Nat} {w0:World} {ρ:List RB} {σ:AHeap} {w:World}
theorem tE {x x' v:Value} {ev:Operand→Value} (hx:VR ρ x x') (h:B5 x=some v) (o:Oper) (a:Operand) (ho:o.op=.nilCheck a) (ha:ev a=x') :
 ∃ v',(execOp ev o).run P w=.ok (.value v') w∧VR ρ v v':=by
 subst ha
 unfold B5 at h
 split at h
 ·cases h
  obtain ⟨a',he,ha⟩:=hx.ptr_inv
  refine ⟨.pointer (some a'),?_,ha.ptr⟩
  simp [execOp,ho,he]
 ·cases h
  generalize hv:ev a=u at hx
  cases hx with
  | func fn f f' c c' h1 h2 h3 h4=>exact ⟨_,by simp [execOp,ho,hv],.func _ _ _ _ _ h1 h2 h3 h4⟩
 ·cases h
  generalize hv:ev a=u at hx
  obtain ⟨a',c',rfl,_⟩:=hx.slice_inv
  exact ⟨_,by simp [execOp,ho,hv],hx⟩
 ·cases h
  generalize hv:ev a=u at hx
  cases hx with
  | iface t v v' h1 h2=>exact ⟨_,by simp [execOp,ho,hv],.iface _ _ _ h1 h2⟩
 ·cases h
  generalize hv:ev a=u at hx
  obtain ⟨m',rfl,_⟩:=hx.mapO_inv
  exact ⟨_,by simp [execOp,ho,hv],hx⟩
 ·cases h
theorem CF.same {σ':AHeap} (h:CF B w0 ρ σ' w) (hg:∀ j,σ'.get j=σ.get j) (hs:σ'.size=σ.size):CF B w0 ρ σ w :=
 ⟨by rw [h.len,hs],fun i o hi=>h.obj i o (by rw [hg]; exact hi),fun i j oi oj ri rj hi hj=>h.inj i j oi oj ri rj (by rw [hg]; exact hi) (by rw [hg]; exact hj),h.below,h.base⟩
theorem CF.marked (h:CF B w0 ρ σ w) {b:Nat} {c:List Value} {e:TypeId} {opn:Bool} {r:RB} (hg:σ.get b=some (.cells c e opn)) (hr:ρ[b]?=some r) (o:Nat) :
 ∃ w',(markStringish ⟨r.b,o,none⟩).run P w=.ok () w'∧CF B w0 ρ σ w':=by
 obtain ⟨r0,a,⟨c',fz,y1,y2,y3,y4,y5,y6⟩,_⟩:=h.obj b _ hg
 rw [hr] at a; cases a
 have hsh:w.shape? r.b=some (e,c'.size):=by simp [World.shape?,y1]
 have hrun:(markStringish ⟨r.b,o,none⟩).run P w=.ok () (w.freeze { block:=r.b,off:=c'.size } 1):=by
  simp [markStringish,hsh]
 have hlt:r.b<w.heap.size:=by
  rcases Nat.lt_or_ge r.b w.heap.size with k | k
  ·exact k
  ·rw [Array.getElem?_eq_none k] at y1; cases y1
 refine ⟨_,hrun,?_⟩
 obtain ⟨lo,hi⟩:=fz
 have hat:(w.freeze { block:=r.b,off:=c'.size } 1).heap[r.b]?=some (.cells c' e (if lo == hi then (c'.size,c'.size+1) else (min lo c'.size,max hi (c'.size+1)))):=by
  unfold World.freeze
  rw [if_neg (by decide)]
  simp [Array.getElem?_modify,y1]
 have hoth:∀ k,k≠r.b→(w.freeze { block:=r.b,off:=c'.size } 1).heap[k]?=w.heap[k]?:=by
  intro k hk
  unfold World.freeze
  rw [if_neg (by decide)]
  simp [Array.getElem?_modify,Ne.symm hk]
 have hsz:(w.freeze { block:=r.b,off:=c'.size } 1).heap.size=w.heap.size:=by
  unfold World.freeze
  rw [if_neg (by decide)]
  simp
 have hfz:oG (if lo == hi then (c'.size,c'.size+1) else (min lo c'.size,max hi (c'.size+1))) c'.size:=by
  refine ⟨.inr ?_⟩
  by_cases e:lo=hi
  ·simp [e]
  ·rcases y2.or with h1 | h1
   ·exact absurd h1 e
   ·simp only at h1
    simp [e]; omega
 have hu:=h.update (o':=.cells c e opn) hg rfl rfl hr ⟨c',_,hat,hfz,y3,y4,y5,y6⟩ hoth (by unfold World.freeze; rw [if_neg (by decide)]) (by unfold World.freeze; rw [if_neg (by decide)]) (by unfold World.freeze; rw [if_neg (by decide)]) hsz
 refine hu.same (fun j=>?_) rfl
 rw [AHeap.get_set]
 split
 ·rename_i e; subst e; exact hg.symm
 ·rfl
theorem qE (h:CF B w0 ρ σ w) {s d:TypeId} {x x' v:Value} (hx:VR ρ x x') (hv:fL P s d x σ=some v):∃ v' w',(convert s d x').run P w=.ok v' w'∧CF B w0 ρ σ w'∧VR ρ v v':=by
 unfold fL at hv
 split at hv
 ·rename_i d0 k k' n hs hd
  cases hv; rw [hx.int_inv]
  refine ⟨_,w,?_,h,.int _ _⟩
  cases d0<;>simp [convert,run_underlying hs,run_underlying hd,Conv.intToInt]<;>rfl
 ·rename_i b hs hd
  cases hv; rw [hx.string_inv]
  exact ⟨_,w,by simp [convert,run_underlying hs,run_underlying hd],h,.string _⟩
 ·rename_i e hs hd
  split at hv
  ·rename_i he
   obtain ⟨h1,h2⟩:=eC (P:=P) h hx hv
   refine ⟨v,w,?_,h,h2⟩
   have hsl:∃ a l c,x'=.slice a l c:=by
    unfold V5 at hv
    split at hv
    ·obtain ⟨a',c',rfl,_⟩:=hx.slice_ar; exact ⟨_,_,_,rfl⟩
    ·obtain ⟨a',c',rfl,_⟩:=hx.slice_ar; exact ⟨_,_,_,rfl⟩
    ·cases hv
   obtain ⟨a,l,c,rfl⟩:=hsl
   simp [convert,run_underlying hs,run_underlying hd,run_underlying he,h1]
  ·cases hv
 ·rename_i e0 e a l c hs hd
  cases hsd:(Nat.beq s d && a.spot.isNone) with
  | false=>rw [hsd] at hv; cases hv
  | true =>
    rw [hsd] at hv
    rw [Bool.and_eq_true] at hsd
    have hsd':=Nat.eq_of_beq_eq_true hsd.1
    subst hsd'
    have hzb:=hsd.2
    simp only [cond_true] at hv
    split at hv
    ·rename_i c0 e1 opn he hg
     cases hv
     cases hx with
     | slice b o l c c' r hr hc =>
       obtain ⟨w',e1,e2⟩:=h.marked (P:=P) hg hr (r.s+o)
       refine ⟨_,w',?_,e2,.slice b o l c c' r hr hc⟩
       obtain rfl:e0=e:=by rw [hs] at hd; cases hd; rfl
       simp [convert,run_underlying hs,run_underlying he,Functor.map]
       show Sem.run P (markStringish { block:=r.b,off:=r.s+o } >>= fun _=>pure (Value.slice (some { block:=r.b,off:=r.s+o }) l c')) w=_
       simp [e1]
     | zany a c' h0=>simp at hzb
     | zslice o a=>simp at hzb
    ·cases hv
 ·cases hv
theorem nG {t:TypeId} {x x' v:Value} (hx:VR ρ x x') (hv:KT P t x=some v):∃ v',(Instr.makeInterface t x').run P w=.ok v' w∧VR ρ v v':=by
 unfold KT at hv
 split at hv
 ·cases hv
 ·cases hv
 ·rename_i d hn hd
  cases hl:DQ x with
  | false=>rw [hl] at hv; cases hv
  | true =>
    rw [hl] at hv; cases hv
    refine ⟨.iface t x',?_,.iface _ _ _ (fun e=>by subst e; simp [DQ,undef] at hl) hx⟩
    cases d<;>first | exact absurd rfl (hn _) | simp [Instr.makeInterface,run_underlying hd]
theorem dB {t:TypeId} {c c':Array Value} {off:Nat} {v:Value} (hc:LR ρ c.toList c'.toList) (hv:kN P t c.toList off=some v) :
 ∃ v',(part t c' off).run P w=.ok v' w∧VR ρ v v':=by
 unfold kN at hv
 split at hv
 ·rename_i n hs
  obtain ⟨d,i,hd,hi,hg,rfl⟩:=ZT hs
  cases hb:Nat.ble (off+i.size) c.toList.length with
  | false=>rw [hb] at hv; cases hv
  | true =>
    rw [hb] at hv; cases hv
    refine ⟨.agg (c'.extract off (off+i.size)),?_,VR.agg' ?_⟩
    ·simp [part,RU hd,hg,CN hi]
    ·have:=(hc.drop off).take i.size
     simp only [List.toList_toArray,Array.toList_extract,List.extract_eq_take_drop]
     rw [show off+i.size - off=i.size by omega]
     exact this
 ·rename_i n hs
  obtain ⟨d,i,hd,hi,hg,rfl⟩:=ZT hs
  obtain ⟨v',h1,h2⟩:=hc.get hv
  refine ⟨v',?_,h2⟩
  have h1':c'[off]?=some v':=by simpa using h1
  simp [part,RU hd,hg,h1']
 ·cases hv
theorem VR.agg_inv {c:Array Value} {v':Value} (h:VR ρ (.agg c) v'):∃ c',v'=.agg c'∧LR ρ c.toList c'.toList:=by
 cases h with
 | agg c c' a b=>exact ⟨c',rfl,LR.of_arr a b⟩
theorem nO {t:TypeId} {f:Nat} {x x' v:Value} (hx:VR ρ x x') (hv:fT P t f x=some v):∃ v',(Instr.field t x' f).run P w=.ok v' w∧VR ρ v v':=by
 unfold fT at hv
 split at hv
 ·rename_i fs c ht
  split at hv
  ·rename_i fd hfd
   obtain ⟨c',rfl,hc⟩:=hx.agg_inv
   obtain ⟨v',h1,h2⟩:=dB (w:=w) hc hv
   exact ⟨v',by simp [Instr.field,run_underlying ht,hfd,asAgg,h1],h2⟩
  ·cases hv
 ·cases hv
theorem nB {t:TypeId} {x x' i i' v:Value} (hx:VR ρ x x') (hi:VR ρ i i') (hv:bQ P t x i=some v):∃ v',(Instr.index t x' i').run P w=.ok v' w∧VR ρ v v':=by
 unfold bQ at hv
 split at hv
 ·rename_i n e c k m ht
  split at hv
  ·rename_i j hj
   split at hv
   ·rename_i hb
    obtain ⟨c',rfl,hc⟩:=hx.agg_inv
    rw [hi.int_inv]
    obtain ⟨v',h1,h2⟩:=dB (w:=w) hc hv
    exact ⟨v',by simp [Instr.index,asIntOf,run_underlying ht,hb,CN hj,h1],h2⟩
   ·cases hv
  ·cases hv
 ·rename_i s k m ht
  split at hv
  ·rename_i hb
   split at hv
   ·rename_i b hb2; cases hv
    rw [hx.string_inv,hi.int_inv]
    exact ⟨_,by simp [Instr.index,asIntOf,run_underlying ht,hb,hb2],.int _ _⟩
   ·cases hv
  ·cases hv
 ·cases hv
theorem f6 {x x' v:Value} {i:Nat} (hx:VR ρ x x') (hv:CY x i=some v):∃ v',(Instr.extract x' i).run P w=.ok v' w∧VR ρ v v':=by
 unfold CY at hv
 split at hv
 ·rename_i vs
  split at hv
  ·cases hv
  ·rename_i hne
   cases hx with
   | dead=>simp at hv
   | skp=>exact absurd rfl hne
   | tuple c c' a b =>
     obtain ⟨v',h1,h2⟩:=(LR.of_arr a b).get hv
     have h1':c'[i]?=some v':=by simpa using h1
     exact ⟨v',by simp [Instr.extract,h1'],h2⟩
 ·cases hv
theorem uS {t ty:TypeId} {x x' v:Value} (hx:VR ρ x x') (hv:yH (P.underlying t) x=some v):(Builtin.len_ #[t] ty #[x']).run P w=.ok v w∧VR ρ v v:=by
 unfold yH at hv
 split at hv
 ·rename_i e a n c ht
  cases hv
  obtain ⟨a',c',rfl,_⟩:=hx.slice_ar
  exact ⟨by simp [Builtin.len_,run_underlying ht,goInt],.int _ _⟩
 ·rename_i s ht
  cases hv
  rw [hx.string_inv]
  exact ⟨by simp [Builtin.len_,run_underlying ht,goInt],.int _ _⟩
 ·cases hv
theorem pY (h:CF B w0 ρ σ w) {t ty:TypeId} {x x' v:Value} (hx:VR ρ x x') (hv:fP P t x σ=some v):(Builtin.len_ #[t] ty #[x']).run P w=.ok v w∧VR ρ v v:=by
 unfold fP at hv
 split at hv
 ·rename_i v0 hv0
  cases hv
  exact uS hx hv0
 ·split at hv
  ·rename_i k e ht
   simp only [Option.map_eq_some_iff] at hv
   obtain ⟨es,he,rfl⟩:=hv
   obtain ⟨es',hes,hor⟩:=VL h hx he
   refine ⟨?_,.int _ _⟩
   have hl:(es'.size:Int)=es.length:=by have:=hes.1; simp at this; omega
   rcases hor with ⟨rfl,rfl⟩ | ⟨b,clock,rfl,hb⟩
   ·simp [Builtin.len_,run_underlying ht,goInt] at hl ⊢; omega
   ·have hgo:=D8 (P:=P) hb (fun c e fz=>by simp)
    simp [Builtin.len_,run_underlying ht,goInt,hgo,hl]
  ·cases hv
theorem rJ {t ty:TypeId} {ts:Array TypeId} {x x' y y' v:Value} (hx:VR ρ x x') (hy:VR ρ y y') (hv:kS x y=some v):(Builtin.min_ ts ty #[x',y']).run P w=.ok v w∧VR ρ v v:=by
 unfold kS at hv
 split at hv
 ·cases hv; rw [hx.int_inv,hy.int_inv]
  exact ⟨by simp [Builtin.min_,Builtin.min2],.int _ _⟩
 ·cases hv
theorem p9 {t ty:TypeId} {ts:Array TypeId} {x x' y y' v:Value} (hx:VR ρ x x') (hy:VR ρ y y') (hv:lR x y=some v):(Builtin.max_ ts ty #[x',y']).run P w=.ok v w∧VR ρ v v:=by
 unfold lR at hv
 split at hv
 ·cases hv; rw [hx.int_inv,hy.int_inv]
  exact ⟨by simp [Builtin.max_,Builtin.max2],.int _ _⟩
 ·cases hv
def Met (P:Program) (B:Nat) (w0:World) (ρ:List RB) (w:World) (s:Sem Next) (y:Value×AHeap):Prop :=
 ∃ n w' ρ' v',s.run P w=.ok n w'∧(n=.value v'∨(n=.skip∧v'=undef))∧EJ ρ ρ'∧CF B w0 ρ' y.2 w'∧VR ρ' y.1 v'
theorem Met.quiet {s:Sem Next} {v v':Value} (h:CF B w0 ρ σ w) (hr:s.run P w=.ok (.value v') w) (hv:VR ρ v v'):Met P B w0 ρ w s (v,σ) :=
 ⟨_,w,ρ,v',hr,.inl rfl,EJ.refl _,h,hv⟩
theorem t7 {l:List Operand} {ev ev':Operand→Value} (hev:∀ x,VR ρ (ev x) (ev' x)):LR ρ (l.map ev) (l.map ev'):=by
 refine ⟨by simp,fun i v v' a b=>?_⟩
 simp only [List.getElem?_map,Option.map_eq_some_iff] at a b
 obtain ⟨x,hx,rfl⟩:=a
 obtain ⟨y,hy,rfl⟩:=b
 rw [hx] at hy; cases hy
 exact hev x
theorem oL {x:Option Operand} {ev ev':Operand→Value} (hev:∀ x,VR ρ (ev x) (ev' x)):VO ρ (x.map ev) (x.map ev'):=by
 cases x with
 | none=>exact .none
 | some x=>exact .some _ _ (hev x)
theorem AAy {l:List (Nat×Operand)} {ev ev':Operand→Value} (hev:∀ x,VR ρ (ev x) (ev' x)):PR ρ (l.map fun p=>(p.1,ev p.2)) (l.map fun p=>(p.1,ev' p.2)):=by
 refine ⟨by simp,fun i p p' a b=>?_⟩
 simp only [List.getElem?_map,Option.map_eq_some_iff] at a b
 obtain ⟨x,hx,rfl⟩:=a
 obtain ⟨y,hy,rfl⟩:=b
 rw [hx] at hy; cases hy
 exact ⟨rfl,hev _⟩
theorem t6 {t e ty:TypeId} {x x' v:Value} (ht:P.underlying t=some (.slice e)) (hx:VR ρ x x') (hv:oX x=some v) :
 (Builtin.cap_ #[t] ty #[x']).run P w=.ok v w∧VR ρ v v:=by
 unfold oX at hv
 split at hv
 ·rename_i a l c
  obtain ⟨a',c',rfl,_,hex,_⟩:=hx.slice_inv
  cases hb:Nat.blt c A4 with
  | false=>rw [hb] at hv; cases hv
  | true =>
    rw [hb] at hv
    cases hv
    have:c'=c:=hex (by simpa [Nat.blt_eq] using hb)
    subst this
    exact ⟨by simp [Builtin.cap_,run_underlying ht,goInt],.int _ _⟩
 ·cases hv
theorem oN (h:CF B w0 ρ σ w) {t ty e:TypeId} {z by':Nat} {zv x x':Value} {σ':AHeap} (he:DH P t=some (e,z,by')) (hz:CK P e=some zv) (hx:VR ρ x x') (hs:cA zv.cells.toList x σ=some σ') :
 ∃ w',(Builtin.clear_ #[t] ty #[x']).run P w=.ok (.tuple #[]) w'∧CF B w0 ρ σ' w':=by
 obtain ⟨i,ht,hi,rfl,rfl⟩:=MO he
 obtain ⟨i',hi',hz',hr,hzs⟩:=EV hz
 rw [hi] at hi'; cases hi'
 unfold cA at hs
 split at hs
 ·cases hs
  obtain ⟨a',c',rfl,hor⟩:=hx.slice_ar
  rcases hor with ⟨_,rfl⟩ | ⟨x0,x1,hh,_⟩
  ·exact ⟨w,by simp [Builtin.clear_,run_underlying ht],h⟩
  ·cases hh
 ·rename_i a n c
  obtain ⟨a',c',rfl,hor⟩:=hx.slice_ar
  rcases hor with ⟨hh,_⟩ | ⟨x0,x1,hh,rfl,hor⟩
  ·cases hh
  ·cases hh
   cases n with
   | zero =>
     simp only [reps,PL] at hs
     cases hs
     exact ⟨w,by simp [Builtin.clear_,run_underlying ht],h⟩
   | succ n =>
     have hzc:Builtin.zeroCells zv.cells (n+1)=(reps (n+1) zv.cells.toList).toArray:=SV (n+1) zv.cells
     obtain ⟨w',e1,e2,_⟩:=QK (P:=P) (a':=x1) h hs (.inr (hor.resolve_left (by omega))) ((hr ρ).reps (n+1))
     refine ⟨w',?_,e2⟩
     simp [Builtin.clear_,run_underlying ht,zeroValue,typeInfo,hi,hz',hzc,e1]
 ·cases hs
theorem iK (h:CF B w0 ρ σ w) {b:Builtin} {ts:Array TypeId} {ty:TypeId} {cs:Array Bool} {args args':List Value} {y:Value×AHeap} (ha:LR ρ args args') (hy:KI P b ts.toList args σ=some y) :
 Met P B w0 ρ w (builtin b ts ty cs args'.toArray) y:=by
 obtain ⟨ts⟩:=ts
 unfold KI at hy
 split at hy
 ·rename_i t u s x hts
  simp only at hts; subst hts
  obtain ⟨s',l1,rfl,h1,ha⟩:=ha.cons_inv
  obtain ⟨x',l2,rfl,h2,ha⟩:=ha.cons_inv
  rw [ha.nil_inv]
  split at hy
  ·rename_i e z by' he
   split at hy
   ·rename_i zv hz
    cases hu:Q4 P u with
    | false =>
      rw [hu] at hy
      simp only [cond_false] at hy
      cases hu2:dN P u with
      | false=>rw [hu2] at hy; cases hy
      | true =>
        rw [hu2] at hy
        simp only [cond_true] at hy
        obtain ⟨v',w',ρ',e1,e2,e3,e4⟩:=jE (ty:=ty) h he hz hu2 h1 h2 hy
        exact ⟨_,w',ρ',v',by simp [builtin,e1],.inl rfl,e2,e3,e4⟩
    | true =>
      rw [hu] at hy
      simp only [cond_true] at hy
      obtain ⟨v',w',ρ',e1,e2,e3,e4⟩:=kM (ty:=ty) h he hz hu h1 h2 hy
      exact ⟨_,w',ρ',v',by simp [builtin,e1],.inl rfl,e2,e3,e4⟩
   ·cases hy
  ·cases hy
 ·rename_i t u d x hts
  simp only at hts; subst hts
  obtain ⟨s',l1,rfl,h1,ha⟩:=ha.cons_inv
  obtain ⟨x',l2,rfl,h2,ha⟩:=ha.cons_inv
  rw [ha.nil_inv]
  split at hy
  ·rename_i e z by' he
   obtain ⟨v',w',e1,e2,e3⟩:=rL (u:=u) (ty:=ty) h he h1 h2 hy
   exact ⟨_,w',ρ,v',by simp [builtin,e1],.inl rfl,EJ.refl _,e2,e3⟩
  ·cases hy
 ·rename_i t x hts
  simp only at hts; subst hts
  obtain ⟨x',l1,rfl,h1,ha⟩:=ha.cons_inv
  rw [ha.nil_inv]
  simp only [Option.bind_eq_some_iff] at hy
  obtain ⟨v,hv,hy'⟩:=hy
  cases hy'
  obtain ⟨e1,e2⟩:=pY (ty:=ty) h h1 hv
  exact .quiet h (by simp [builtin,e1]) e2
 ·rename_i t u m k hts
  simp only at hts; subst hts
  obtain ⟨m',l1,rfl,h1,ha⟩:=ha.cons_inv
  obtain ⟨k',l2,rfl,h2,ha⟩:=ha.cons_inv
  rw [ha.nil_inv]
  simp only [Option.bind_eq_some_iff] at hy
  obtain ⟨σ',hs,hy'⟩:=hy
  cases hy'
  obtain ⟨w',e1,e2⟩:=j9 (u:=u) (ty:=ty) h h1 h2 hs
  exact ⟨_,w',ρ,.tuple #[],by simp [builtin,e1],.inl rfl,EJ.refl _,e2,VR.tuple' (LR.nil _)⟩
 ·rename_i x z hts
  obtain ⟨x',l1,rfl,h1,ha⟩:=ha.cons_inv
  obtain ⟨z',l2,rfl,h2,ha⟩:=ha.cons_inv
  rw [ha.nil_inv]
  simp only [Option.bind_eq_some_iff] at hy
  obtain ⟨v,hv,hy'⟩:=hy
  cases hy'
  obtain ⟨e1,e2⟩:=rJ (w:=w) (P:=P) (t:=ty) (ty:=ty) (ts:=⟨ts⟩) h1 h2 hv
  exact .quiet h (by simp [builtin,e1]) e2
 ·rename_i x z hts
  obtain ⟨x',l1,rfl,h1,ha⟩:=ha.cons_inv
  obtain ⟨z',l2,rfl,h2,ha⟩:=ha.cons_inv
  rw [ha.nil_inv]
  simp only [Option.bind_eq_some_iff] at hy
  obtain ⟨v,hv,hy'⟩:=hy
  cases hy'
  obtain ⟨e1,e2⟩:=p9 (w:=w) (P:=P) (t:=ty) (ty:=ty) (ts:=⟨ts⟩) h1 h2 hv
  exact .quiet h (by simp [builtin,e1]) e2
 ·rename_i t x hts
  simp only at hts; subst hts
  obtain ⟨x',l1,rfl,h1,ha⟩:=ha.cons_inv
  rw [ha.nil_inv]
  split at hy
  ·rename_i e hu
   simp only [Option.bind_eq_some_iff] at hy
   obtain ⟨v,hv,hy'⟩:=hy
   cases hy'
   obtain ⟨e1,e2⟩:=t6 (ty:=ty) (w:=w) hu h1 hv
   exact .quiet h (by simp [builtin,e1]) e2
  ·cases hy
 ·rename_i t x hts
  simp only at hts; subst hts
  obtain ⟨x',l1,rfl,h1,ha⟩:=ha.cons_inv
  rw [ha.nil_inv]
  split at hy
  ·rename_i e z by' he
   split at hy
   ·rename_i zv hz
    simp only [Option.bind_eq_some_iff] at hy
    obtain ⟨σ',hs,hy'⟩:=hy
    cases hy'
    obtain ⟨w',e1,e2⟩:=oN (ty:=ty) h he hz h1 hs
    exact ⟨_,w',ρ,.tuple #[],by simp [builtin,e1],.inl rfl,EJ.refl _,e2,VR.tuple' (LR.nil _)⟩
   ·cases hy
  ·cases hy
 ·cases hy
theorem VR.asB {x x':Value} {b:Bool} (hx:VR ρ x x') (h:Ax.asB x=some b):x'=.bool b:=by
 unfold Ax.asB at h
 split at h
 ·cases h; exact hx.bool_inv
 ·cases h
theorem lF (h:CF B w0 ρ σ w) {o:Oper} {ev ev':Operand→Value} {y:Value×AHeap} (hev:∀ x,VR ρ (ev x) (ev' x)) (hy:I7 P ev o σ=some y) :
 Met P B w0 ρ w (execOp ev' o) y:=by
 obtain ⟨dst,op,type,pos,after,guard⟩:=o
 unfold I7 at hy
 cases op<;>simp only [reduceCtorEq,Option.bind_eq_some_iff] at hy
 case move x=>cases hy; exact .quiet h (by simp [execOp]) (hev x)
 case assign x=>cases hy; exact .quiet h (by simp [execOp]) (hev x)
 case pick c a b =>
  obtain ⟨t,ht,hy⟩:=hy
  cases hy
  have:=(hev c).asB ht
  refine .quiet h (v':=cond t (ev' a) (ev' b)) ?_ ?_
  ·cases t<;>simp [execOp,this,asBool]
  ·cases t<;>exact hev _
 case alloc e =>
  obtain ⟨z,hz,hy⟩:=hy
  cases hy
  obtain ⟨v',w',ρ',e1,e2,e3,e4⟩:=nZ h hz true (.tuple #[]) rfl
  exact ⟨_,w',ρ',v',by simp [execOp,e1],.inl rfl,e2,e3,e4⟩
 case box e x =>
  obtain ⟨v',w',ρ',e1,e2,e3,e4⟩:=sF (P:=P) h (hev x) hy
  exact ⟨_,w',ρ',v',by simp [execOp,e1],.inl rfl,e2,e3,e4⟩
 case build t ps =>
  obtain ⟨v,hv,hy⟩:=hy
  cases hy
  obtain ⟨v',e1,e2⟩:=mK (w:=w) (parts':=ps.map fun p=>(p.1,ev' p.2)) (by simpa using AAy (l:=ps.toList) hev) hv
  exact .quiet h (by simp [execOp,e1]) e2
 case buildSlice t n ps =>
  cases hn:(Nat.beq n 0 && !ps.toList.isEmpty) with
  | true=>rw [hn] at hy; cases hy
  | false =>
    rw [hn] at hy
    simp only [cond_false] at hy
    have hps:n=0→(ps.toList.map fun p=>(p.1,ev p.2))=[]:=by
     intro e
     subst e
     cases hl:ps.toList with
     | nil=>rfl
     | cons p l=>rw [hl] at hn; simp at hn
    obtain ⟨v',w',ρ',e1,e2,e3,e4⟩:=Z7 (P:=P) h (parts':=ps.map fun p=>(p.1,ev' p.2)) (by simpa using AAy (l:=ps.toList) hev) hy hps
    exact ⟨_,w',ρ',v',by simp [execOp,e1],.inl rfl,e2,e3,e4⟩
 case load t a =>
  obtain ⟨⟨g,n⟩,hg,v,hv,hy⟩:=hy
  cases hy
  obtain ⟨v',e1,e2⟩:=V4 h hg (hev a) hv
  exact .quiet h (by simp [execOp,e1]) e2
 case store t a x =>
  obtain ⟨⟨g,n⟩,hg,σ',hs,hy⟩:=hy
  cases hy
  obtain ⟨w',e1,e2,_⟩:=oP h hg (hev a) (hev x) hs
  exact ⟨.skip,w',ρ,undef,by simp [execOp,e1],.inr ⟨rfl,rfl⟩,EJ.refl _,e2,.dead _⟩
 case nilCheck x =>
  obtain ⟨v,hv,hy⟩:=hy
  cases hy
  obtain ⟨v',e1,e2⟩:=tE (P:=P) (w:=w) (hev x) hv ⟨dst,.nilCheck x,type,pos,after,guard⟩ x rfl rfl
  exact .quiet h e1 e2
 case binOp op t x y' ty =>
  obtain ⟨v,hv,hy⟩:=hy
  cases hy
  obtain ⟨e1,e2⟩:=pV (w:=w) x y' (hev x) (hev y') hv
  refine .quiet h (v':=v) ?_ e2
  simp only [execOp]
  rw [Sem.run_bind,e1]
  rfl
 case unOp op t x =>
  obtain ⟨v,hv,hy⟩:=hy
  cases hy
  obtain ⟨e1,e2⟩:=zL (P:=P) (w:=w) (hev x) hv
  exact .quiet h (by simp [execOp,e1]) e2
 case convert s d x =>
  obtain ⟨v,hv,hy⟩:=hy
  cases hy
  obtain ⟨v',w',e1,e2,e3⟩:=qE h (hev x) hv
  exact ⟨_,w',ρ,v',by simp [execOp,e1],.inl rfl,EJ.refl _,e2,e3⟩
 case makeInterface t x =>
  obtain ⟨v,hv,hy⟩:=hy
  cases hy
  obtain ⟨v',e1,e2⟩:=nG (w:=w) (hev x) hv
  exact .quiet h (by simp [execOp,e1]) e2
 case makeFunc fn f c =>
  cases hy
  refine .quiet h (v':=.func fn (f.map ev') (c.map ev')) (by simp [execOp,Instr.makeFunc]) ?_
  have hf:=(t7 (l:=f.toList) hev)
  have hc:=(t7 (l:=c.toList) hev)
  have hf':LR ρ (f.toList.map ev).toArray.toList (f.map ev').toList:=by simpa using hf
  have hc':LR ρ (c.toList.map ev).toArray.toList (c.map ev').toList:=by simpa using hc
  exact .func _ _ _ _ _ hf'.arr.1 hc'.arr.1 hf'.arr.2 hc'.arr.2
 case makeSlice t l c =>
  split at hy
  ·rename_i e z by' he
   split at hy
   ·rename_i zv hz
    obtain ⟨v',w',ρ',e1,e2,e3,e4⟩:=pB h he hz (hev l) (hev c) hy
    exact ⟨_,w',ρ',v',by simp [execOp,e1],.inl rfl,e2,e3,e4⟩
   ·cases hy
  ·cases hy
 case slice t x lo hi mx =>
  obtain ⟨v,hv,hy⟩:=hy
  cases hy
  obtain ⟨v',e1,e2⟩:=gE (w:=w) (hev x) (oL hev) (oL hev) (oL hev) hv
  exact .quiet h (by simp [execOp,e1]) e2
 case fieldAddr t x f =>
  obtain ⟨off,ho,v,hv,hy⟩:=hy
  cases hy
  obtain ⟨v',e1,e2⟩:=cL (w:=w) ho (hev x) hv
  exact .quiet h (by simp [execOp,e1]) e2
 case field t x f =>
  obtain ⟨v,hv,hy⟩:=hy
  cases hy
  obtain ⟨v',e1,e2⟩:=nO (w:=w) (hev x) hv
  exact .quiet h (by simp [execOp,e1]) e2
 case indexAddr t x i =>
  obtain ⟨v,hv,hy⟩:=hy
  cases hy
  obtain ⟨v',e1,e2⟩:=YS (w:=w) (hev x) (hev i) hv
  exact .quiet h (by simp [execOp,e1]) e2
 case index t x i =>
  obtain ⟨v,hv,hy⟩:=hy
  cases hy
  obtain ⟨v',e1,e2⟩:=nB (w:=w) (hev x) (hev i) hv
  exact .quiet h (by simp [execOp,e1]) e2
 case extract x i =>
  obtain ⟨v,hv,hy⟩:=hy
  cases hy
  obtain ⟨v',e1,e2⟩:=f6 (P:=P) (w:=w) (hev x) hv
  exact .quiet h (by simp [execOp,e1]) e2
 case makeMap t r =>
  obtain ⟨v',w',ρ',e1,e2,e3,e4⟩:=iJ (P:=P) h (oL hev) hy
  exact ⟨_,w',ρ',v',by simp [execOp,e1],.inl rfl,e2,e3,e4⟩
 case lookup t x i ok =>
  obtain ⟨v,hv,hy⟩:=hy
  cases hy
  obtain ⟨v',e1,e2⟩:=kF h (hev x) (hev i) hv
  exact .quiet h (by simp [execOp,e1]) e2
 case mapUpdate t m k x =>
  obtain ⟨σ',hs,hy⟩:=hy
  cases hy
  obtain ⟨w',e1,e2⟩:=cS h (hev m) (hev k) (hev x) hs
  exact ⟨.skip,w',ρ,undef,by simp [execOp,e1],.inr ⟨rfl,rfl⟩,EJ.refl _,e2,.dead _⟩
 case mapEntry t m k =>
  obtain ⟨v',w',e1,e2,e3⟩:=eT (P:=P) h (hev m) (hev k) hy
  exact ⟨_,w',ρ,v',by simp [execOp,e1],.inl rfl,EJ.refl _,e2,e3⟩
 case entryStore t m s x =>
  obtain ⟨σ',hs,hy⟩:=hy
  cases hy
  obtain ⟨w',e1,e2⟩:=ZV (P:=P) (t:=t) h (hev m) (hev s) (hev x) hs
  exact ⟨.skip,w',ρ,undef,by simp [execOp,e1],.inr ⟨rfl,rfl⟩,EJ.refl _,e2,.dead _⟩
 case range t x =>
  obtain ⟨v',w',ρ',e1,e2,e3,e4⟩:=mW (P:=P) h (hev x) hy
  exact ⟨_,w',ρ',v',by simp [execOp,e1],.inl rfl,e2,e3,e4⟩
 case next it str =>
  cases str with
  | false=>cases hy
  | true =>
    obtain ⟨v',w',e1,e2,e3⟩:=gI (P:=P) (t:=type) h (hev it) hy
    exact ⟨_,w',ρ,v',by simp [execOp,e1],.inl rfl,EJ.refl _,e2,e3⟩
 case entry it =>
  obtain ⟨v,hv,hy⟩:=hy
  cases hy
  obtain ⟨v',e1,e2⟩:=mL (P:=P) h (hev it) hv
  exact .quiet h (by simp [execOp,e1]) e2
 case typeAssert x xt t ok =>
  obtain ⟨v,hv,hy⟩:=hy
  cases hy
  obtain ⟨v',e1,e2⟩:=kH (P:=P) (w:=w) (xt:=xt) (hev x) hv
  exact .quiet h (by simp [execOp,e1]) e2
 case call c =>
  split at hy
  ·rename_i b hb
   have he:(c.args.toList.map ev').toArray=c.args.map ev':=by apply Array.ext'; simp
   have key:∀ cs,Met P B w0 ρ w (builtin b c.argTypes type cs (c.args.map ev')) y:=fun cs=>by
    have:=iK (ty:=type) (cs:=cs) h (t7 (l:=c.args.toList) hev) hy
    rwa [he] at this
   have hx:∃ cs,execOp ev' ⟨dst,.call c,type,pos,after,guard⟩=builtin b c.argTypes type cs (c.args.map ev'):=⟨_,by simp only [execOp,resolve,hb,pure_bind,invoke]; rfl⟩
   obtain ⟨cs,hx⟩:=hx
   rw [hx]; exact key cs
  ·cases hy
end
end Go.Ax
namespace Go.Ax
open Go.RowKit
abbrev Fr:=Tr Value
def B4 (fr:Fr) (t:Nat):Value :=
 match fr.get t with
 | some v=>v
 | none=>undef
def H6 (fr:Fr) (d:Option Tmp) (v:Value):Fr :=
 match d with
 | some d=>fr.set d v
 | none=>fr
def R9 (fr:Fr):Operand→Value
 | .tmp t=>B4 fr t
 | .const v=>cond (v.cells.toList.all OJ) v undef
 | .func f=>.func (.func f) #[] #[]
 | .global _=>undef
def IU (L:List Nat) (fr:Fr):List Value:=L.map (B4 fr)
def GO:List Nat→List Value→Fr
 | t::L,v::vs=>(GO L vs).set t v
 | _,_=>.leaf
def zH (R:List Nat) (fr g:Fr):Fr:=R.foldr (fun t g=>g.set t (B4 fr t)) g
theorem H1 (fr:Fr) (t u:Nat) (v:Value):B4 (fr.set t v) u=if u=t then v else B4 fr u:=by
 unfold B4; rw [Tr.get_set]; by_cases h:u=t<;>simp [h]
theorem xJ (R:List Nat) (fr g:Fr) (t:Nat):B4 (zH R fr g) t=if t∈R then B4 fr t else B4 g t:=by
 induction R with
 | nil=>simp [zH]
 | cons u R ih =>
   show B4 ((zH R fr g).set u (B4 fr u)) t=_
   rw [H1]
   by_cases h:t=u
   ·subst h; simp
   ·rw [if_neg h,ih]; simp [h]
theorem WE (t:Nat):B4 .leaf t=undef:=by unfold B4; rw [Tr.get_leaf]
inductive DT where
 | nil
 | step (i:Nat) (chk:List Nat) (t:DT)
 | alt (a b:DT)
def DT.ofList:List (Nat×List Nat)→DT
 | []=>.nil
 | (i,chk)::l=>.step i chk (DT.ofList l)
inductive AC where
 | skip
 | region (id:Nat) (ops:List Oper)
 | dregion (id:Nat) (ops:List Oper) (ord:List (Nat×List Nat))
 | dtree (id:Nat) (ops:List Oper) (t:DT)
 | seq (a b:AC)
 | cond (c:Operand) (thn els:AC)
 | block (id:Nat) (b:AC)
 | loop (R L Lx:List Nat) (b:AC)
 | exit (id:Nat)
 | ret
 | join (L:List Nat) (b:AC)
 | scope (b:AC)
 | label (l:Nat)
 | other (c:Code)
def AC.erase:AC→Code
 | .skip=>.skip
 | .region id ops=>.region id ops.toArray false
 | .dregion id ops _=>.region id ops.toArray true
 | .dtree id ops _=>.region id ops.toArray true
 | .seq a b=>.seq a.erase b.erase
 | .cond c a b=>.cond c a.erase b.erase
 | .block id b=>.block id b.erase
 | .loop _ _ _ b=>.loop b.erase
 | .exit id=>.exit id
 | .ret=>.ret
 | .join _ b=>b.erase
 | .scope b=>.scope b.erase
 | .label l=>.label l
 | .other c=>c
def aQ:Value→Value→Bool
 | .bool a,.bool b=>a == b
 | .int j a,.int k b=>decide (j=k) && a == b
 | .string a,.string b=>decide (a.data.toList=b.data.toList)
 | .pointer a,.pointer b=>decide (a=b)
 | .slice a l c,.slice b m d=>decide (a=b) && Nat.beq l m && Nat.beq c d
 | .map a,.map b=>decide (a=b)
 | .nilFunc,.nilFunc=>true
 | .nilIface,.nilIface=>true
 | _,_=>false
def xE:Value→Value→Bool
 | .iface t v,.iface u w=>Nat.beq t u && aQ v w
 | a,b=>aQ a b
def qI:List Value→List Value→Bool
 | [],[]=>true
 | a::l,b::m=>xE a b && qI l m
 | _,_=>false
def AX:Value→Value→Bool
 | .agg a,.agg b=>qI a.toList b.toList
 | .tuple a,.tuple b=>qI a.toList b.toList
 | a,b=>xE a b
inductive Out where
 | ret (v:Value)
 | pan (v:Value)
abbrev WK:=Value→AHeap→Prop
abbrev RK:=Out→AHeap→Prop
abbrev FK:=Fr→AHeap→Prop
def RP (k kp:WK):RK:=fun r σ=>match r with
 | .ret v=>k v σ
 | .pan v=>kp v σ
abbrev BP:=FuncId→List Value→AHeap→RK→Prop
def noP:WK:=fun _ _=>False
structure zQ where
 n:Nat
 params:Nat
 res:List ResultVar
 body:AC
end Go.Ax
namespace Go.Ax
open Go.RowKit
structure Cx where
 N:Nat
 D:List Deferred
 Lp:List Nat
 T:Nat→Value
structure E7 (C:Cx) (a:Act):Prop where
 defers:a.defers=C.D
 size:a.tmps.size=C.N
 keep:∀ t∈C.Lp,a.tmps.getD t undef=C.T t
def Cx.ok (C:Cx) (d:Nat):Prop:=d<C.N∧d∉C.Lp
theorem E7.put {C:Cx} {a:Act} (h:E7 C a) {v:Value} {dst:Option Tmp} (hd:∀ d,dst=some d→C.ok d):E7 C (a.put dst v):=by
 cases dst with
 | none=>exact h
 | some d =>
   refine ⟨h.defers,by simp [Act.put,h.size],fun t ht=>?_⟩
   have hne:¬ d=t:=fun e=>(hd d rfl).2 (e▸ht)
   have:=h.keep t ht
   simpa [Act.put,Array.getD_eq_getD_getElem?,Array.getElem?_setIfInBounds,hne] using this
structure FR (C:Cx) (ρ:List RB) (fr:Fr) (a:Act):Prop where
 val:∀ t,VR ρ (B4 fr t) (a.tmps.getD t undef)
 kp:E7 C a
section
variable {P:Program} {B:Nat} {w0:World} {ρ:List RB} {σ:AHeap} {w:World} {C:Cx} {fr:Fr} {a:Act}
theorem FR.mono {ρ':List RB} (e:EJ ρ ρ') (h:FR C ρ fr a):FR C ρ' fr a:=⟨fun t=>(h.val t).mono e,h.kp⟩
theorem FR.put (h:FR C ρ fr a) {v v':Value} (hv:VR ρ v v') {dst:Option Tmp} (hd:∀ d,dst=some d→C.ok d):FR C ρ (H6 fr dst v) (a.put dst v'):=by
 cases dst with
 | none=>exact h
 | some d =>
   have hdN:=(hd d rfl).1
   refine ⟨fun t=>?_,h.kp.put hd⟩
   simp only [H6,H1,Act.put]
   by_cases ht:t=d
   ·subst ht
    have:t<a.tmps.size:=by rw [h.kp.size]; exact hdN
    simp [this,Array.getD_eq_getD_getElem?]
    exact hv
   ·have hne:¬ d=t:=fun e=>ht e.symm
    rw [if_neg ht]
    have:=h.val t
    simpa [Array.getD_eq_getD_getElem?,Array.getElem?_setIfInBounds,hne] using this
theorem FR.setb (h:FR C ρ fr a) {t:Nat} {b:Bool} (ht:B4 fr t=.bool b):FR C ρ (fr.set t (.bool b)) a:=by
 refine ⟨fun u=>?_,h.kp⟩
 rw [H1]
 split
 ·rename_i e; subst e; rw [← ht]; exact h.val u
 ·exact h.val u
theorem FR.ev (h:FR C ρ fr a) (x:Operand):VR ρ (R9 fr x) (a.eval x):=by
 cases x with
 | tmp t=>exact h.val t
 | const v =>
   simp only [R9,Act.eval]
   cases hc:v.cells.toList.all OJ with
   | false=>exact .dead _
   | true =>
     simp only [cond_true]
     cases v with
     | agg c=>exact VR.agg' (YP ρ hc)
     | tuple c =>
       simp [Value.cells,OJ] at hc
     | _=>exact fJ ρ (by simpa [Value.cells] using hc)
 | func f=>exact .func _ _ _ _ _ rfl rfl (fun i v v' x=>by simp at x) (fun i v v' x=>by simp at x)
 | global g=>exact .dead _
theorem yZ (L:List Nat) (fr:Fr) (t:Nat):B4 (GO L (IU L fr)) t=B4 fr t∨B4 (GO L (IU L fr)) t=undef:=by
 induction L with
 | nil=>right; exact WE t
 | cons u L ih =>
   simp only [IU,List.map_cons,GO,H1]
   split
   ·rename_i e; subst e; exact .inl rfl
   ·exact ih
theorem FR.make (h:FR C ρ fr a) (L:List Nat):FR C ρ (GO L (IU L fr)) a:=by
 refine ⟨fun t=>?_,h.kp⟩
 rcases yZ L fr t with e | e
 ·rw [e]; exact h.val t
 ·rw [e]; exact .dead _
theorem FR.yielded (h:FR C ρ fr a) {all:List Oper} {j t:Nat} {b:Bool} (hj:(all[j]?).bind (·.dst)=some t) (hb:B4 fr t=.bool b):yielded all.toArray a.tmps j=some b:=by
 have hv:=h.val t
 rw [hb] at hv
 have hv:=hv.bool_inv
 have ht:a.tmps[t]?=some (.bool b):=by
  rw [Array.getD_eq_getD_getElem?] at hv
  cases hx:a.tmps[t]? with
  | none=>rw [hx] at hv; simp [undef] at hv
  | some v=>rw [hx] at hv; simp at hv; rw [hv]
 unfold Go.yielded
 have hj':((all.toArray[j]?).bind (·.dst))=some t:=by simpa using hj
 rw [hj']
 simp [ht]
theorem TD {all:List Oper} {j t:Nat} (hj:(all[j]?).bind (·.dst)=some t) {tmps:Array Value} (hv:tmps.getD t undef=undef):yielded all.toArray tmps j=none:=by
 unfold Go.yielded
 have hj':((all.toArray[j]?).bind (·.dst))=some t:=by simpa using hj
 rw [hj']
 rw [Array.getD_eq_getD_getElem?] at hv
 simp only [Option.bind_some]
 cases hx:tmps[t]? with
 | none=>rfl
 | some v=>rw [hx] at hv; simp at hv; rw [hv]; rfl
def KS (B:Nat) (w0:World) (C:Cx) (ρ:List RB) (k:FK) (Q:Act→World→Prop):Prop :=
 ∀ ρ' fr σ a w,EJ ρ ρ'→FR C ρ' fr a→CF B w0 ρ' σ w→k fr σ→Q a w
theorem KS.mono {ρ':List RB} (e:EJ ρ ρ') {k:FK} {Q:Act→World→Prop} (h:KS B w0 C ρ k Q):KS B w0 C ρ' k Q :=
 fun ρ2 fr σ a w e2=>h ρ2 fr σ a w (e.trans e2)
def KP (B:Nat) (w0:World) (C:Cx) (ρ:List RB) (kp:WK) (Q:Exit→Act→World→Prop):Prop :=
 ∀ ρ' v v' σ a w,EJ ρ ρ'→E7 C a→CF B w0 ρ' σ w→VR ρ' v v'→kp v σ→Q (.panic [{ v:=v',recovered:=false }]) a w
theorem KP.mono {ρ':List RB} (e:EJ ρ ρ') {kp:WK} {Q:Exit→Act→World→Prop} (h:KP B w0 C ρ kp Q):KP B w0 C ρ' kp Q :=
 fun ρ2 v v' σ a w e2=>h ρ2 v v' σ a w (e.trans e2)
def AAu (ρ:List RB) (r:Out) (e:Ending):Prop :=
 match r with
 | .ret v=>∃ v',e=.returned v'∧VR ρ v v'
 | .pan v=>∃ v',e=.panicked [{ v:=v',recovered:=false }]∧VR ρ v v'
def Ev (P:Program):BP:=fun g args σ Q =>
 ∀ B w0 ρ w args',CF B w0 ρ σ w→LR ρ args args'→∃ fn,P.funcs[g]?=some fn∧(fn.name == "runtime.NumGoroutine")=false∧((fn.body.isNone=false∧Calls P g args'.toArray w fun e w'=>∃ r ρ' σ',Q r σ'∧AAu ρ' r e∧EJ ρ ρ'∧CF B w0 ρ' σ' w') ∨
  (∃ v v' ρ' σ' w',Q (.ret v) σ'∧(callFunc g args'.toArray).run P w=.ok (.value v') w'∧EJ ρ ρ'∧CF B w0 ρ' σ' w'∧VR ρ' v v'))
theorem Ev.mono {P:Program} {f:FuncId} {args:List Value} {σ:AHeap} {Q Q':RK} (h:Ev P f args σ Q) (hq:∀ r σ',Q r σ'→Q' r σ'):Ev P f args σ Q':=by
 intro B w0 ρ w args' hr ha
 obtain ⟨fn,h1,h2,h3⟩:=h B w0 ρ w args' hr ha
 refine ⟨fn,h1,h2,?_⟩
 rcases h3 with ⟨hb,hc⟩ | ⟨v,v',ρ',σ',w',hm,hrun,e⟩
 ·exact .inl ⟨hb,hc.mono fun e w' ⟨r,ρ',σ',q,x⟩=>⟨r,ρ',σ',hq _ _ q,x⟩⟩
 ·exact .inr ⟨v,v',ρ',σ',w',hq _ _ hm,hrun,e⟩
theorem S1 {g:FuncId} {fn:Func} {args:Array Value} (hf:P.funcs[g]?=some fn) (hn:(fn.name == "runtime.NumGoroutine")=false) (hb:fn.body.isNone=false) :
 (callFunc g args).run P w=.ok (.enter g args) w:=by
 simp only [beq_eq_false_iff_ne,ne_eq] at hn
 cases hbb:fn.body with
 | none=>rw [hbb] at hb; simp at hb
 | some c=>simp [callFunc,program,Sem.run,hf,hn,hbb]
theorem bO {ev ev':Operand→Value} {o:Oper} (h:∀ x∈o.op.operands,ev x=ev' x):I7 P ev o σ=I7 P ev' o σ:=by
 obtain ⟨dst,op,type,pos,after,guard⟩:=o
 have key:∀ (l:List (Nat×Operand)),(∀ p∈l,ev p.2=ev' p.2)→(l.map fun p=>(p.1,ev p.2))=l.map fun p=>(p.1,ev' p.2):=by
  intro l hl
  apply List.map_congr_left
  intro p hp
  rw [hl p hp]
 have key2:∀ (l:List Operand),(∀ p∈l,ev p=ev' p)→l.map ev=l.map ev':=by
  intro l hl
  exact List.map_congr_left hl
 have key3:∀ (l:Option Operand),(∀ p∈l,ev p=ev' p)→l.map ev=l.map ev':=by
  intro l hl
  cases l with
  | none=>rfl
  | some x=>simp [hl x rfl]
 unfold I7
 cases op<;>simp only [Op.operands] at h<;>try rfl
 case call c =>
  simp only [Call.operands] at h
  cases hc:c.callee with
  | builtin b =>
    rw [hc] at h
    simp only
    rw [key2 c.args.toList (fun p hp=>h p (by simpa using hp))]
  | _=>simp only [hc]
 case build t ps=>simp only; rw [key ps.toList (fun p hp=>h p.2 (by simp; exact ⟨p.1,by simpa using hp⟩))]
 case buildSlice t n ps=>simp only; rw [key ps.toList (fun p hp=>h p.2 (by simp; exact ⟨p.1,by simpa using hp⟩))]
 case makeFunc fn f c=>simp only; rw [key2 f.toList (fun p hp=>h p (by simp; left; simpa using hp)),key2 c.toList (fun p hp=>h p (by simp; right; simpa using hp))]
 case slice t x lo hi mx =>
  simp only
  rw [h x (by simp),key3 lo (fun p hp=>h p (by simp; cases lo<;>simp_all)),key3 hi (fun p hp=>h p (by simp; cases hi<;>simp_all)),key3 mx (fun p hp=>h p (by simp; cases mx<;>simp_all))]
 all_goals simp only
 case move x=>rw [h x (by simp)]
 case assign x=>rw [h x (by simp)]
 case pick c a b=>rw [h c (by simp),h a (by simp),h b (by simp)]
 case box e x=>rw [h x (by simp)]
 case load t x=>rw [h x (by simp)]
 case store t x y=>rw [h x (by simp),h y (by simp)]
 case nilCheck x=>rw [h x (by simp)]
 case binOp op t x y ty=>rw [h x (by simp),h y (by simp)]
 case unOp op t x=>rw [h x (by simp)]
 case convert s d x=>rw [h x (by simp)]
 case makeInterface t x=>rw [h x (by simp)]
 case makeSlice t x y=>rw [h x (by simp),h y (by simp)]
 case fieldAddr t x f=>rw [h x (by simp)]
 case field t x f=>rw [h x (by simp)]
 case indexAddr t x i=>rw [h x (by simp),h i (by simp)]
 case index t x i=>rw [h x (by simp),h i (by simp)]
 case extract x i=>rw [h x (by simp)]
 case makeMap t r=>rw [key3 r (fun p hp=>h p (by simpa using hp))]
 case lookup t x i ok=>rw [h x (by simp),h i (by simp)]
 case mapEntry t m k=>rw [h m (by simp),h k (by simp)]
 case entryStore t m s x=>rw [h m (by simp),h s (by simp),h x (by simp)]
 case mapUpdate t m k x=>rw [h m (by simp),h k (by simp),h x (by simp)]
 case range t x=>rw [h x (by simp)]
 case next it str=>rw [h it (by simp)]
 case entry it=>rw [h it (by simp)]
 case typeAssert x xt t ok=>rw [h x (by simp)]
theorem jU (x:Value) (l cap:Array Value) (name:String):invoke (.fn (.method name) cap) (#[x]++l)=callMethod x name l:=by
 have h0:(#[x]++l)[0]?=some x:=by simp [Array.getElem?_append]
 have h1:(#[x]++l).extract 1 (#[x]++l).size=l:=by apply Array.ext'; simp [List.take_of_length_le]
 simp only [invoke,h0,h1]
end
end Go.Ax
namespace Go.Ax
open Go.RowKit
def pu {α:Type} (o:Option α) (k:α→Prop):Prop:=∃ v,o=some v∧k v
def wB (v:Value) (k:Bool→Prop):Prop :=
 match asB v with
 | some t=>k t
 | none=>False
def wC (v:Value) (a b:Prop):Prop :=
 match asB v with
 | some true=>a
 | some false=>b
 | none=>False
def wF (v:Value) (k:FuncId→List Value→List Value→Prop):Prop :=
 match v with
 | .func (.func g) first captured=>k g first.toList captured.toList
 | _=>False
def wG (v:Value) (a b c:Prop):Prop :=
 match asB v with
 | some true=>a
 | some false=>b
 | none=>isSkip v=true∧c
def ACb (v:Value) (σ:AHeap) (kp:WK):Prop :=
 match v with
 | .iface t u=>kp (.iface t u) σ
 | _=>False
def BE (σ:AHeap) (o:C9) (k:Nat→AHeap→Prop):Prop:=k σ.size (σ.push o)
def BH (x:Value):Option Value :=
 match x with
 | .slice _ n _=>some (.int .i64 n)
 | _=>none
def m9 (x:Value):Option Value :=
 match x with
 | .string s=>some (.int .i64 s.size)
 | _=>none
def tR (x:Value) (σ:AHeap):Option Value:=(JQ x σ).map fun es=>.int .i64 es.length
def wJ (k:IntKind) (x:Value):Option Value :=
 match x with
 | .int _ n=>some (.int k (k.wrap n))
 | _=>none
def vY (g:Bool) (n:Nat) (c:List Value) (off:Nat):Option Value :=
 cond g (cond (Nat.ble (off+n) c.length) (some (.agg ((c.drop off).take n).toArray)) none) c[off]?
def tP (g:Bool) (n off:Nat) (x:Value):Option Value :=
 match x with
 | .agg c=>vY g n c.toList off
 | _=>none
def sY (g:Bool) (n len size:Nat) (x i:Value):Option Value :=
 match x,i with
 | .agg c,.int _ i=>if 0≤i∧i<len then vY g n c.toList (i.toNat*size) else none
 | _,_=>none
def uB (x i:Value):Option Value :=
 match x,i with
 | .string s,.int _ i=>if 0≤i then match s[i.toNat]? with
  | some b=>some (.int .u8 b.toNat)
  | none=>none
  else none
 | _,_=>none
def XZ (pl:List (Nat×Nat)) (zc:List Value) (BW:List (Nat×Value)):Option Value:=(QS (pl[·]?) zc BW).map fun l=>.agg l.toArray
def sI (size:Nat) (zc:List Value) (BW:List (Nat×Value)):Option Value:=(QS (fun k=>some (k*size,size)) zc BW).map fun l=>.agg l.toArray
def X3 (e z len:Nat) (zc:List Value) (BW:List (Nat×Value)) (σ:AHeap):Option (Value×AHeap) :=
 cond (Nat.ble (len*z) 16777216 && Nat.blt 0 z) ((QS (fun k=>some (k*z,z)) (reps len zc) BW).map fun l=>(.slice (some ⟨σ.size,0,none⟩) len len,σ.push (.cells l e false))) none
section
variable (P:Program) (E:BP)
def AA8 (op:BinOp) (t:TypeId) (x y:Value) (K:Value→Prop):Prop :=
 match P.underlying t with
 | some (.struct _)=>pu (ZY P t op x y) K
 | some (.array _ _)=>pu (ZY P t op x y) K
 | d=>pu (BF d op x y) K
def xQ (t:TypeId) (x:Value) (σ:AHeap) (K:Value→Prop):Prop :=
 match P.underlying t with
 | some (.slice _)=>pu (BH x) K
 | some .string=>pu (m9 x) K
 | some (.map _ _)=>pu (tR x σ) K
 | _=>False
def jD (t:TypeId) (x:Value) (lo hi mx:Option Value) (K:Value→Prop):Prop :=
 match P.underlying t with
 | some .string=>match mx with
   | none=>pu (RI x lo hi) K
   | some _=>False
 | some (.slice e)=>match P.info? e with
   | some i=>pu (A7 i.size x lo hi mx) K
   | none=>False
 | some (.array n e)=>match P.info? e with
   | some i=>pu (J8 n i.size x lo hi mx) K
   | none=>False
 | some (.pointer arr)=>match P.underlying arr with
   | some (.array n e)=>match P.info? e with
     | some i=>pu (J8 n i.size x lo hi mx) K
     | none=>False
   | _=>False
 | _=>False
def qC (t:TypeId) (x i:Value) (K:Value→Prop):Prop :=
 match P.underlying t with
 | some (.slice e)=>match P.info? e with
   | some j=>pu (AE j.size x i) K
   | none=>False
 | some (.array n e)=>match P.info? e with
   | some j=>pu (M4 n j.size x i) K
   | none=>False
 | _=>False
def qG (s d:TypeId) (x:Value) (σ:AHeap) (K:Value→Prop):Prop :=
 match P.underlying s,P.underlying d with
 | some (.int _),some (.int k)=>pu (wJ k x) K
 | _,_=>pu (fL P s d x σ) K
def iW (t:TypeId) (f:Nat) (x:Value) (K:Value→Prop):Prop :=
 match P.underlying t with
 | some (.struct fs)=>match fs[f]? with
   | some fd=>match eR P fd.type with
     | some (g,n)=>pu (tP g n fd.offset x) K
     | none=>False
   | none=>False
 | _=>False
def AAA (t:TypeId) (x i:Value) (K:Value→Prop):Prop :=
 match P.underlying t with
 | some (.array len e)=>match P.info? e with
   | some j=>match eR P e with
     | some (g,n)=>pu (sY g n len j.size x i) K
     | none=>False
   | none=>False
 | some .string=>pu (uB x i) K
 | _=>False
def iS (t:TypeId) (BW:List (Nat×Value)) (K:Value→Prop):Prop :=
 match CK P t with
 | some z=>match P.underlying t with
   | some (.struct fs)=>match NB P fs.toList with
     | some pl=>pu (XZ pl z.cells.toList BW) K
     | none=>False
   | some (.array _ e)=>match P.info? e with
     | some i=>pu (sI i.size z.cells.toList BW) K
     | none=>False
   | _=>False
 | none=>False
def aR (t:TypeId) (len:Nat) (BW:List (Nat×Value)) (σ:AHeap) (K:WK):Prop :=
 match DH P t with
 | some (e,z,_)=>match len with
   | 0=>match BW with
     | []=>K (.slice (some ⟨ZB,0,some 0⟩) 0 0) σ
     | _=>False
   | _=>match CK P e with
     | some zv=>pu (X3 e z len zv.cells.toList BW σ) fun r=>K r.1 r.2
     | none=>False
 | none=>False
def KL (b:Builtin) (ts:List TypeId) (args:List Value) (σ:AHeap) (K:WK):Prop :=
 match b,ts,args with
 | .append,[t,u],[s,x]=>match DH P t with
   | some (e,z,by')=>match CK P e with
     | some zv=>cond (Q4 P u) (pu (BZ e z by' s x σ) fun r=>K r.1 r.2) (cond (dN P u) (pu (O0 e z by' zv.cells.toList s x σ) fun r=>K r.1 r.2) False)
     | none=>False
   | none=>False
 | .copy,[t,_],[d,x]=>match DH P t with
   | some (_,z,_)=>pu (LM z d x σ) fun r=>K r.1 r.2
   | none=>False
 | .len,[t],[x]=>xQ P t x σ fun v=>K v σ
 | .delete,[t,_],[m,k]=>pu (M8 P t m k σ) fun σ'=>K (.tuple #[]) σ'
 | .min,_,[x,y]=>pu (kS x y) fun v=>K v σ
 | .max,_,[x,y]=>pu (lR x y) fun v=>K v σ
 | .cap,[t],[x]=>match P.underlying t with
   | some (.slice _)=>pu (oX x) fun v=>K v σ
   | _=>False
 | .clear,[t],[x]=>match DH P t with
   | some (e,_,_)=>match CK P e with
     | some zv=>pu (cA zv.cells.toList x σ) fun σ'=>K (.tuple #[]) σ'
     | none=>False
   | none=>False
 | _,_,_=>False
def OP (ev:Operand→Value) (o:Oper) (σ:AHeap) (K kp:WK):Prop :=
 match o.op with
 | .move x | .assign x=>K (ev x) σ
 | .pick c a b=>wB (ev c) fun t=>K (cond t (ev a) (ev b)) σ
 | .alloc e=>match CK P e with
   | some z=>BE σ (.cells z.cells.toList e false) fun b σ=>K (.pointer (some ⟨b,0,none⟩)) σ
   | none=>False
 | .box e x=>cond (DQ (ev x)) (BE σ (.cells (ev x).cells.toList e false) fun b σ=>K (.pointer (some ⟨b,0,none⟩)) σ) False
 | .build t ps=>iS P t (ps.toList.map fun p=>(p.1,ev p.2)) fun v=>K v σ
 | .buildSlice t n ps=>aR P t n (ps.toList.map fun p=>(p.1,ev p.2)) σ K
 | .load t a=>match eR P t with
   | some (g,n)=>pu (AF g n (ev a) σ) fun v=>K v σ
   | none=>False
 | .store t a x=>match eR P t with
   | some (_,n)=>pu (AP n (ev a) (ev x) σ) fun σ'=>K undef σ'
   | none=>False
 | .nilCheck x=>pu (B5 (ev x)) fun v=>K v σ
 | .binOp op t x y _=>AA8 P op t (ev x) (ev y) fun v=>K v σ
 | .unOp op _ x=>pu (sB op (ev x)) fun v=>K v σ
 | .convert s d x=>qG P s d (ev x) σ fun v=>K v σ
 | .makeInterface t x=>pu (KT P t (ev x)) fun v=>K v σ
 | .makeFunc fn f c=>K (.func fn (f.toList.map ev).toArray (c.toList.map ev).toArray) σ
 | .makeSlice t l c=>match DH P t with
   | some (e,_,by')=>match CK P e with
     | some z=>pu (PC e by' z.cells.toList (ev l) (ev c) σ) fun r=>K r.1 r.2
     | none=>False
   | none=>False
 | .slice t x lo hi mx=>jD P t (ev x) (lo.map ev) (hi.map ev) (mx.map ev) fun v=>K v σ
 | .fieldAddr t x f=>match NQ P t f with
   | some off=>pu (AA off (ev x)) fun v=>K v σ
   | none=>False
 | .field t x f=>iW P t f (ev x) fun v=>K v σ
 | .indexAddr t x i=>qC P t (ev x) (ev i) fun v=>K v σ
 | .index t x i=>AAA P t (ev x) (ev i) fun v=>K v σ
 | .extract x i=>pu (CY (ev x) i) fun v=>K v σ
 | .makeMap t r=>pu (JU P t (r.map ev) σ) fun r=>K r.1 r.2
 | .lookup t x i ok=>pu (EL P t (ev x) (ev i) ok σ) fun v=>K v σ
 | .mapUpdate t m k x=>pu (FL P t (ev m) (ev k) (ev x) σ) fun σ'=>K undef σ'
 | .mapEntry t m k=>pu (MD P t (ev m) (ev k) σ) fun r=>K r.1 r.2
 | .entryStore _ m s x=>pu (HA (ev m) (ev s) (ev x) σ) fun σ'=>K undef σ'
 | .range t x=>pu (X0 P t (ev x) σ) fun r=>K r.1 r.2
 | .next it str=>cond str (pu (aC (ev it) σ) fun r=>K r.1 r.2) (pu (SP (ev it) σ) fun L=>∀ r∈L,K r.1 r.2)
 | .entry it=>pu (VF (ev it) σ) fun v=>K v σ
 | .typeAssert x _ t ok=>pu (H8 P t ok (ev x)) fun v=>K v σ
 | .call c=>match c.callee with
   | .builtin b=>KL P b c.argTypes.toList (c.args.toList.map ev) σ K
   | .value f=>wF (ev f) fun g first captured=>E g (first++c.args.toList.map ev++captured) σ (RP K kp)
   | .invoke r name=>pu (BX P (ev r) name σ) fun r=>E r.1 (r.2::c.args.toList.map ev) σ (RP K kp)
 | .panic x=>ACb (ev x) σ kp
 | _=>False
end
section
variable {P:Program} {σ:AHeap}
theorem sS {op:BinOp} {t:TypeId} {x y:Value} {K:Value→Prop} (h:AA8 P op t x y K):pu (ZY P t op x y) K:=by
 unfold AA8 at h
 split at h
 ·exact h
 ·exact h
 ·obtain ⟨v,h1,h2⟩:=h
  exact ⟨v,by simp only [ZY,h1],h2⟩
theorem uY {t:TypeId} {x:Value} {K:Value→Prop} (h:xQ P t x σ K):pu (fP P t x σ) K:=by
 unfold xQ at h
 split at h
 ·rename_i e hu
  obtain ⟨v,h1,h2⟩:=h
  refine ⟨v,?_,h2⟩
  cases x<;>simp_all [BH,fP,yH]
 ·rename_i hu
  obtain ⟨v,h1,h2⟩:=h
  refine ⟨v,?_,h2⟩
  cases x<;>simp_all [m9,fP,yH]
 ·rename_i k e hu
  obtain ⟨v,h1,h2⟩:=h
  refine ⟨v,?_,h2⟩
  unfold tR at h1
  simp [fP,yH,hu,h1]
 ·exact h.elim
theorem mJ {t:TypeId} {x:Value} {lo hi mx:Option Value} {K:Value→Prop} (h:jD P t x lo hi mx K):pu (UQ P t x lo hi mx) K:=by
 unfold jD at h
 unfold UQ
 split at h
 ·rename_i hu
  rw [hu]
  split at h
  ·exact h
  ·exact h.elim
 ·rename_i e hu
  rw [hu]
  split at h
  ·rename_i i hi; simp only [hi]; exact h
  ·exact h.elim
 ·rename_i n e hu
  rw [hu]
  split at h
  ·rename_i i hi; simp only [hi]; exact h
  ·exact h.elim
 ·rename_i arr hu
  rw [hu]
  split at h
  ·rename_i n e hu2
   split at h
   ·rename_i i hi; simp only [hu2,hi]; exact h
   ·exact h.elim
  ·exact h.elim
 ·exact h.elim
theorem qW {t:TypeId} {x i:Value} {K:Value→Prop} (h:qC P t x i K):pu (KR P t x i) K:=by
 unfold qC at h
 unfold KR
 split at h
 ·rename_i e hu
  rw [hu]
  split at h
  ·rename_i j hi; simp only [hi]; exact h
  ·exact h.elim
 ·rename_i n e hu
  rw [hu]
  split at h
  ·rename_i j hi; simp only [hi]; exact h
  ·exact h.elim
 ·exact h.elim
theorem rB {s d:TypeId} {x:Value} {K:Value→Prop} (h:qG P s d x σ K):pu (fL P s d x σ) K:=by
 unfold qG at h
 split at h
 ·rename_i k0 k h1 h2
  obtain ⟨v,h3,h4⟩:=h
  refine ⟨v,?_,h4⟩
  unfold wJ at h3
  split at h3
  ·cases h3; simp [fL,h1,h2]
  ·cases h3
 ·exact h
theorem pR {t:TypeId} {g:Bool} {n:Nat} (hs:eR P t=some (g,n)) (c:List Value) (off:Nat):kN P t c off=vY g n c off:=by
 unfold kN vY
 rw [hs]
 cases g<;>rfl
theorem m4 {t:TypeId} {f:Nat} {x:Value} {K:Value→Prop} (h:iW P t f x K):pu (fT P t f x) K:=by
 unfold iW at h
 split at h
 ·rename_i fs hu
  split at h
  ·rename_i fd hf
   split at h
   ·rename_i g n hs
    obtain ⟨v,h1,h2⟩:=h
    refine ⟨v,?_,h2⟩
    unfold tP at h1
    split at h1
    ·unfold fT; rw [hu]; simp only [hf,pR hs]; exact h1
    ·cases h1
   ·exact h.elim
  ·exact h.elim
 ·exact h.elim
theorem sW {t:TypeId} {x i:Value} {K:Value→Prop} (h:AAA P t x i K):pu (bQ P t x i) K:=by
 unfold AAA at h
 split at h
 ·rename_i len e hu
  split at h
  ·rename_i j hj
   split at h
   ·rename_i g n hs
    obtain ⟨v,h1,h2⟩:=h
    refine ⟨v,?_,h2⟩
    unfold sY at h1
    split at h1
    ·unfold bQ; rw [hu]; simp only [hj,pR hs]; exact h1
    ·cases h1
   ·exact h.elim
  ·exact h.elim
 ·rename_i hu
  obtain ⟨v,h1,h2⟩:=h
  refine ⟨v,?_,h2⟩
  unfold uB at h1
  split at h1
  ·unfold bQ; rw [hu]; exact h1
  ·cases h1
 ·exact h.elim
theorem nH {t:TypeId} {BW:List (Nat×Value)} {K:Value→Prop} (h:iS P t BW K):pu (bM P t BW) K:=by
 unfold iS at h
 split at h
 ·rename_i z hz
  split at h
  ·rename_i fs hu
   split at h
   ·rename_i pl hp
    unfold bM; rw [hz,hu]; simp only [hp]; exact h
   ·exact h.elim
  ·rename_i n e hu
   split at h
   ·rename_i i hi
    unfold bM; rw [hz,hu]; simp only [hi]; exact h
   ·exact h.elim
  ·exact h.elim
 ·exact h.elim
theorem jY {t:TypeId} {n:Nat} {ps:List (Nat×Value)} {K:WK} (h:aR P t n ps σ K) :
 (Nat.beq n 0 && !ps.isEmpty)=false∧pu (HC P t n ps σ) fun r=>K r.1 r.2:=by
 unfold aR at h
 split at h
 ·rename_i e z by' he
  split at h
  ·split at h
   ·refine ⟨rfl,(.slice (some ⟨ZB,0,some 0⟩) 0 0,σ),?_,h⟩
    simp only [HC,he]
   ·exact h.elim
  ·rename_i hn0
   split at h
   ·rename_i zv hz
    refine ⟨?_,?_⟩
    ·cases n with
     | zero=>exact absurd rfl hn0
     | succ n=>rfl
    ·obtain ⟨r,h1,h2⟩:=h
     refine ⟨r,?_,h2⟩
     cases n with
     | zero=>exact absurd rfl hn0
     | succ n=>simp only [HC,he,hz]; exact h1
   ·exact h.elim
 ·exact h.elim
theorem iB {b:Builtin} {ts:List TypeId} {args:List Value} {K:WK} (h:KL P b ts args σ K):∃ r,KI P b ts args σ=some r∧K r.1 r.2:=by
 unfold KL at h
 unfold KI
 split at h
 ·split at h
  ·rename_i e z by' he
   split at h
   ·rename_i zv hz
    (try simp only [he,hz])
    cases hn:Q4 P _ with
    | true=>rw [hn] at h; exact h
    | false =>
      rw [hn] at h
      simp only [cond_false] at h ⊢
      cases hi:dN P _ with
      | true=>rw [hi] at h; exact h
      | false=>rw [hi] at h; exact h.elim
   ·exact h.elim
  ·exact h.elim
 ·split at h
  ·rename_i e z by' he
   (try simp only [he]); exact h
  ·exact h.elim
 ·obtain ⟨v,h1,h2⟩:=uY h
  exact ⟨(v,σ),by simp only [h1,Option.bind_some],h2⟩
 ·obtain ⟨v,h1,h2⟩:=h
  exact ⟨(.tuple #[],v),by simp only [h1,Option.bind_some],h2⟩
 ·obtain ⟨v,h1,h2⟩:=h
  exact ⟨(v,σ),by simp only [h1,Option.bind_some],h2⟩
 ·obtain ⟨v,h1,h2⟩:=h
  exact ⟨(v,σ),by simp only [h1,Option.bind_some],h2⟩
 ·split at h
  ·rename_i hu
   obtain ⟨v,h1,h2⟩:=h
   exact ⟨(v,σ),by simp only [hu,h1,Option.bind_some],h2⟩
  ·exact h.elim
 ·split at h
  ·rename_i he
   split at h
   ·rename_i hz
    obtain ⟨v,h1,h2⟩:=h
    exact ⟨(.tuple #[],v),by simp only [he,hz,h1,Option.bind_some],h2⟩
   ·exact h.elim
  ·exact h.elim
 ·exact h.elim
end
section
variable {P:Program}
theorem iC {E:BP} {ev:Operand→Value} {o:Oper} {σ:AHeap} {K kp:WK} (hc:∀ c,o.op=.call c→∃ b,c.callee=.builtin b) (hn:∀ it,o.op≠.next it false) (hp:∀ x,o.op≠.panic x) (h:OP P E ev o σ K kp) :
 ∃ r,I7 P ev o σ=some r∧K r.1 r.2:=by
 obtain ⟨dst,op,type,pos,after,guard⟩:=o
 have hone:∀ {r:Value×AHeap},I7 P ev ⟨dst,op,type,pos,after,guard⟩ σ=some r→K r.1 r.2→(∀ c,op≠.call c)→(∀ it,op≠.next it false)→∃ r,I7 P ev ⟨dst,op,type,pos,after,guard⟩ σ=some r∧K r.1 r.2:=fun {r} hr hk _ _=>⟨r,hr,hk⟩
 cases op with
 | move x=>exact hone (r:=(ev x,σ)) rfl h (by simp) (by simp)
 | assign x=>exact hone (r:=(ev x,σ)) rfl h (by simp) (by simp)
 | pick c a b =>
   simp only [OP,wB] at h
   split at h
   ·rename_i t h1
    exact hone (r:=(cond t (ev a) (ev b),σ)) (by simp [I7,h1]) h (by simp) (by simp)
   ·exact h.elim
 | alloc e =>
   simp only [OP] at h
   split at h
   ·rename_i z hz
    exact hone (r:=yY e z.cells.toList σ) (by simp [I7,hz]) h (by simp) (by simp)
   ·exact h.elim
 | box e x =>
   simp only [OP] at h
   cases hl:DQ (ev x) with
   | false=>rw [hl] at h; exact h.elim
   | true=>rw [hl] at h; exact hone (r:=yY e (ev x).cells.toList σ) (by simp [I7,ACv,hl]) h (by simp) (by simp)
 | build t ps =>
   obtain ⟨v,h1,h2⟩:=nH h
   exact hone (r:=(v,σ)) (by simp only [I7,h1,Option.bind_some]) h2 (by simp) (by simp)
 | buildSlice t n ps =>
   obtain ⟨h0,v,h1,h2⟩:=jY h
   have h0:(Nat.beq n 0 && !ps.toList.isEmpty)=false:=by simpa using h0
   exact hone (r:=v) (by simp only [I7,h0,cond_false,h1]) h2 (by simp) (by simp)
 | load t a =>
   simp only [OP] at h
   split at h
   ·rename_i g n hs
    obtain ⟨v,h1,h2⟩:=h
    exact hone (r:=(v,σ)) (by simp only [I7,hs,h1,Option.bind_some]) h2 (by simp) (by simp)
   ·exact h.elim
 | store t a x =>
   simp only [OP] at h
   split at h
   ·rename_i g n hs
    obtain ⟨v,h1,h2⟩:=h
    exact hone (r:=(undef,v)) (by simp only [I7,hs,h1,Option.bind_some]) h2 (by simp) (by simp)
   ·exact h.elim
 | nilCheck x =>
   obtain ⟨v,h1,h2⟩:=h
   exact hone (r:=(v,σ)) (by simp only [I7,h1,Option.bind_some]) h2 (by simp) (by simp)
 | binOp op t x y ty =>
   obtain ⟨v,h1,h2⟩:=sS h
   exact hone (r:=(v,σ)) (by simp only [I7,h1,Option.bind_some]) h2 (by simp) (by simp)
 | unOp op t x =>
   obtain ⟨v,h1,h2⟩:=h
   exact hone (r:=(v,σ)) (by simp only [I7,h1,Option.bind_some]) h2 (by simp) (by simp)
 | convert s d x =>
   obtain ⟨v,h1,h2⟩:=rB h
   exact hone (r:=(v,σ)) (by simp only [I7,h1,Option.bind_some]) h2 (by simp) (by simp)
 | makeInterface t x =>
   obtain ⟨v,h1,h2⟩:=h
   exact hone (r:=(v,σ)) (by simp only [I7,h1,Option.bind_some]) h2 (by simp) (by simp)
 | makeFunc fn f c=>exact hone (r:=(_,σ)) rfl h (by simp) (by simp)
 | makeSlice t l c =>
   simp only [OP] at h
   split at h
   ·rename_i e z by' he
    split at h
    ·rename_i zv hz
     obtain ⟨v,h1,h2⟩:=h
     exact hone (r:=v) (by simp only [I7,he,hz,h1]) h2 (by simp) (by simp)
    ·exact h.elim
   ·exact h.elim
 | slice t x lo hi mx =>
   obtain ⟨v,h1,h2⟩:=mJ h
   exact hone (r:=(v,σ)) (by simp only [I7,h1,Option.bind_some]) h2 (by simp) (by simp)
 | fieldAddr t x f =>
   simp only [OP] at h
   split at h
   ·rename_i off ho
    obtain ⟨v,h1,h2⟩:=h
    exact hone (r:=(v,σ)) (by simp only [I7,ho,h1,Option.bind_some]) h2 (by simp) (by simp)
   ·exact h.elim
 | field t x f =>
   obtain ⟨v,h1,h2⟩:=m4 h
   exact hone (r:=(v,σ)) (by simp only [I7,h1,Option.bind_some]) h2 (by simp) (by simp)
 | indexAddr t x i =>
   obtain ⟨v,h1,h2⟩:=qW h
   exact hone (r:=(v,σ)) (by simp only [I7,h1,Option.bind_some]) h2 (by simp) (by simp)
 | index t x i =>
   obtain ⟨v,h1,h2⟩:=sW h
   exact hone (r:=(v,σ)) (by simp only [I7,h1,Option.bind_some]) h2 (by simp) (by simp)
 | extract x i =>
   obtain ⟨v,h1,h2⟩:=h
   exact hone (r:=(v,σ)) (by simp only [I7,h1,Option.bind_some]) h2 (by simp) (by simp)
 | makeMap t r =>
   obtain ⟨v,h1,h2⟩:=h
   exact hone (r:=v) (by simp only [I7,h1]) h2 (by simp) (by simp)
 | lookup t x i ok =>
   obtain ⟨v,h1,h2⟩:=h
   exact hone (r:=(v,σ)) (by simp only [I7,h1,Option.bind_some]) h2 (by simp) (by simp)
 | mapUpdate t m k x =>
   obtain ⟨v,h1,h2⟩:=h
   exact hone (r:=(undef,v)) (by simp only [I7,h1,Option.bind_some]) h2 (by simp) (by simp)
 | mapEntry t m k =>
   obtain ⟨v,h1,h2⟩:=h
   exact hone (r:=v) (by simp only [I7,h1]) h2 (by simp) (by simp)
 | entryStore t m s x =>
   obtain ⟨v,h1,h2⟩:=h
   exact hone (r:=(undef,v)) (by simp only [I7,h1,Option.bind_some]) h2 (by simp) (by simp)
 | range t x =>
   obtain ⟨v,h1,h2⟩:=h
   exact hone (r:=v) (by simp only [I7,h1]) h2 (by simp) (by simp)
 | next it str =>
   cases str with
   | true =>
     obtain ⟨v,h1,h2⟩:=h
     exact hone (r:=v) (by simp only [I7,cond_true,h1]) h2 (by simp) (by simp)
   | false=>exact absurd rfl (hn it)
 | entry it =>
   obtain ⟨v,h1,h2⟩:=h
   exact hone (r:=(v,σ)) (by simp only [I7,h1,Option.bind_some]) h2 (by simp) (by simp)
 | typeAssert x xt t ok =>
   obtain ⟨v,h1,h2⟩:=h
   exact hone (r:=(v,σ)) (by simp only [I7,h1,Option.bind_some]) h2 (by simp) (by simp)
 | panic x=>exact absurd rfl (hp x)
 | call c =>
   obtain ⟨b,hb⟩:=hc c rfl
   simp only [OP,hb] at h
   obtain ⟨r,h1,h2⟩:=iB h
   exact ⟨r,by simp only [I7,hb,h1],h2⟩
 | _=>exact h.elim
end
end Go.Ax
namespace Go.Ax
open Go.RowKit
def eO:List Nat→Type
 | []=>AHeap→Prop
 | _::L=>Value→eO L
def eO.at:(L:List Nat)→eO L→List Value→AHeap→Prop
 | [],p,[],σ=>p σ
 | _::L,p,v::vs,σ=>eO.at L (p v) vs σ
 | [],_,_::_,_=>False
 | _::_,_,[],_=>False
def kJ:(L:List Nat)→(List Value→Prop)→Prop
 | [],p=>p []
 | _::L,p=>∀ v,kJ L fun vs=>p (v::vs)
theorem kJ.at:∀ (L:List Nat) (p:List Value→Prop),kJ L p→∀ vs,vs.length=L.length→p vs
 | [],p,h,vs,hl=>by
   have:vs=[]:=List.length_eq_zero_iff.1 hl
   subst this; exact h
 | _::L,p,h,[],hl=>by simp at hl
 | _::L,p,h,v::vs,hl=>kJ.at L (fun vs=>p (v::vs)) (h v) vs (by simpa using hl)
theorem eO.at_len:∀ (L:List Nat) (p:eO L) (vs:List Value) (σ:AHeap),eO.at L p vs σ→vs.length=L.length
 | [],p,[],σ,_=>rfl
 | _::L,p,v::vs,σ,h=>by simp [eO.at_len L (p v) vs σ h]
 | [],_,_::_,_,h=>h.elim
 | _::_,_,[],_,h=>h.elim
section
variable (P:Program) (E:BP)
def AAi (o:Oper) (k:FK) (kp:WK):FK:=fun fr σ=>OP P E (R9 fr) o σ (fun v σ'=>k (H6 fr o.dst v) σ') kp
abbrev GM:=Option ((Nat×Bool)×Nat×Bool)
def HN (md:GM) (o:Oper):GM :=
 match md with
 | some (g,t,b)=>match o.dst with
   | some d=>cond (Nat.beq d t) none (some (g,t,b))
   | none=>some (g,t,b)
 | none=>none
def yB (md:GM) (j:Nat) (want:Bool):Option Bool :=
 match md with
 | some ((j',want'),_,b)=>cond (Nat.beq j j' && (want == want')) (some b) none
 | none=>none
def J7 (all:List Oper) (o:Oper) (md:GM) (yes no:GM→FK):FK:=fun fr σ =>
 match o.guard with
 | none=>yes none fr σ
 | some (j,want)=>match yB md j want with
   | some true=>yes (HN md o) fr σ
   | some false=>no (HN md o) fr σ
   | none=>match (all[j]?).bind (·.dst) with
     | some t=>wG (B4 fr t)
      (cond want (yes (HN (some ((j,want),t,true)) o) (fr.set t (.bool true)) σ) (no (HN (some ((j,want),t,false)) o) (fr.set t (.bool true)) σ))
      (cond want (no (HN (some ((j,want),t,false)) o) (fr.set t (.bool false)) σ) (yes (HN (some ((j,want),t,true)) o) (fr.set t (.bool false)) σ))
      (no (HN (some ((j,want),t,false)) o) fr σ)
     | none=>False
def yL (all:List Oper) (kp:WK):List Oper→GM→FK→FK
 | [],_,kn=>kn
 | o::os,md,kn=>J7 all o md (fun md=>AAi P E o (yL all kp os md kn) kp) fun md fr σ=>yL all kp os md kn (H6 fr o.dst C7) σ
def wnx (o:Oper) (p:Prop):Prop :=
 match o.op with
 | .next _ false | .panic _=>False
 | _=>p
def zM (all:List Oper):List Nat→FK→FK
 | [],k=>k
 | q::qs,k=>fun fr σ=>match all[q]? with
   | none=>False
   | some o=>J7 all o none (fun _ fr σ=>match o.dst with
     | some d=>wnx o (OP P (fun _ _ _ _=>False) (R9 fr) o σ (fun v _=>AX v (B4 fr d)=true∧zM all qs k fr σ) noP)
     | none=>False) (fun _=>zM all qs k) fr σ
def lQ (chk:List Nat) (md:GM):GM :=
 match chk with
 | []=>md
 | _=>none
def dO (all:List Oper) (kp:WK):List (Nat×List Nat)→GM→FK→FK
 | [],_,kn=>kn
 | (i,chk)::os,md,kn=>fun fr σ=>match all[i]? with
   | none=>False
   | some o=>J7 all o md (fun md=>AAi P E o (zM P all chk (dO all kp os (lQ chk md) kn)) kp) (fun md fr σ=>dO all kp os md kn (H6 fr o.dst C7) σ) fr σ
def wdt (all:List Oper) (kp:WK):DT→GM→FK→FK
 | .nil,_,kn=>kn
 | .step i chk t,md,kn=>fun fr σ=>match all[i]? with
   | none=>False
   | some o=>J7 all o md (fun md=>AAi P E o (zM P all chk (wdt all kp t (lQ chk md) kn)) kp) (fun md fr σ=>wdt all kp t md kn (H6 fr o.dst C7) σ) fr σ
 | .alt x y,md,kn=>fun fr σ=>wdt all kp x md kn fr σ∧wdt all kp y md kn fr σ
def oT (kp:WK):AC→FK→(Nat→FK)→FK→FK
 | .skip,kn,_,_=>kn
 | .region _ ops,kn,_,_=>yL P E ops kp ops none kn
 | .dregion _ ops ord,kn,_,_=>dO P E ops kp ord none kn
 | .dtree _ ops t,kn,_,_=>wdt P E ops kp t none kn
 | .seq a b,kn,ke,kr=>oT kp a (oT kp b kn ke kr) ke kr
 | .cond c a b,kn,ke,kr=>fun fr σ=>wC (R9 fr c) (oT kp a kn ke kr fr σ) (oT kp b kn ke kr fr σ)
 | .block id b,kn,ke,kr=>oT kp b kn (fun i fr σ=>cond (Nat.beq i id) (kn fr σ) (ke i fr σ)) kr
 | .loop R L Lx b,_,ke,kr=>fun fr σ=>∃ I:Nat→eO L,(∃ m,eO.at L (I m) (IU L fr) σ)∧∀ m,kJ L fun vs=>∀ σ,eO.at L (I m) vs σ→oT kp b (fun fr σ=>∃ m'<m,eO.at L (I m') (IU L fr) σ) (fun i fr σ=>ke i (GO Lx (IU Lx fr)) σ) (fun fr σ=>kr (GO Lx (IU Lx fr)) σ) (zH R fr (GO L vs)) σ
 | .exit i,_,ke,_=>ke i
 | .ret,_,_,kr=>kr
 | .other _,_,_,_=>fun _ _=>False
 | .scope b,kn,ke,kr=>oT kp b kn ke kr
 | .label _,kn,_,_=>kn
 | .join L b,kn,ke,kr=>oT kp b (fun fr σ=>kn (GO L (IU L fr)) σ) (fun i fr σ=>ke i (GO L (IU L fr)) σ) (fun fr σ=>kr (GO L (IU L fr)) σ)
end
def wL (all:List Oper) (md:GM) (fr:Fr):Prop :=
 match md with
 | none=>True
 | some ((j,want),t,b)=>(all[j]?).bind (·.dst)=some t∧((b=true∧fr.get t=some (.bool want))∨(b=false∧(fr.get t=some (.bool (!want))∨(asB (B4 fr t)=none∧isSkip (B4 fr t)=true))))
theorem Tr.setF_self {α:Type} (x:α):∀ (f:Nat) (t:Tr α) (n:Nat),n<f→t.get n=some x→Tr.setF x f t n=t:=by
 intro f
 induction f with
 | zero=>intro t n h; omega
 | succ f ih =>
   intro t n h hg
   cases t with
   | leaf=>rw [Tr.get_leaf] at hg; cases hg
   | node l v r =>
     cases n with
     | zero =>
       have hv:v=some x:=hg
       subst hv
       rfl
     | succ n =>
       have hd:Nat.div n 2<f:=by show n / 2<f; omega
       rw [Tr.get_succ] at hg
       simp only [Tr.setF,Tr.left_node,Tr.right_node] at hg ⊢
       cases hb:Nat.beq (Nat.mod n 2) 0 with
       | true=>rw [hb] at hg; simp only [cond_true] at hg ⊢; rw [ih l _ hd hg]; rfl
       | false=>rw [hb] at hg; simp only [cond_false] at hg ⊢; rw [ih r _ hd hg]; rfl
theorem Tr.set_self {α:Type} {t:Tr α} {n:Nat} {x:α} (h:t.get n=some x):t.set n x=t:=Tr.setF_self x _ t n (Nat.lt_succ_self n) h
theorem e9 {fr:Fr} {t:Nat} {v:Value} (h:fr.get t=some v):B4 fr t=v:=by unfold B4; rw [h]
theorem wL.after {all:List Oper} {md:GM} {fr:Fr} (h:wL all md fr) (o:Oper) (v:Value):wL all (HN md o) (H6 fr o.dst v):=by
 unfold HN
 rcases md with _ | ⟨⟨j,want⟩,t,b⟩
 ·trivial
 ·cases hd:o.dst with
  | none=>exact h
  | some d =>
    simp only
    cases hb:Nat.beq d t with
    | true=>trivial
    | false =>
      have hne:¬ t=d:=fun e=>by subst e; simp at hb
      obtain ⟨h1,h2⟩:=h
      refine ⟨h1,?_⟩
      simp only [H6,Tr.get_set,H1,if_neg hne]
      exact h2
def ABY (P:Program):List ResultVar→Fr→AHeap→(List Value→Prop)→Prop
 | [],_,_,k=>k []
 | .tmp t::l,fr,σ,k=>ABY P l fr σ fun vs=>k (B4 fr t::vs)
 | .cell a t::l,fr,σ,k=>match eR P t with
   | some (g,n)=>pu (AF g n (B4 fr a) σ) fun v=>ABY P l fr σ fun vs=>k (v::vs)
   | none=>False
def tup:List Value→Value
 | [v]=>v
 | l=>.tuple l.toArray
def aJ (P:Program) (res:List ResultVar) (Q:RK):FK:=fun fr σ=>ABY P res fr σ fun vs=>Q (.ret (tup vs)) σ
def ADz (P:Program) (E:BP) (F:FuncId→Option zQ) (f:FuncId) (args:List Value) (σ:AHeap) (Q:RK):Prop :=
 match F f with
 | some af=>cond (Nat.beq args.length af.params) (oT P E (fun v σ=>Q (.pan v) σ) af.body (aJ P af.res Q) (fun _ _ _=>False) (aJ P af.res Q) (GO (List.range af.params) args) σ) False
 | none=>False
end Go.Ax
namespace Go.Ax
open Go.RowKit
section
variable {P:Program} {B:Nat} {w0:World} {ρ:List RB} {σ:AHeap} {w:World} {C:Cx} {fr:Fr} {a:Act}
theorem pL {o:Oper} {g:FuncId} {args:Array Value} {args':List Value} {K kp:WK} {next:Act→World→Prop} {Q:Exit→Act→World→Prop} {eargs:List Value}
 (hE:Ev P g eargs σ (RP K kp)) (h:CF B w0 ρ σ w) (ha:LR ρ eargs args') (hargs:args'.toArray=args)
 (hk:∀ v σ' ρ' v' w',K v σ'→EJ ρ ρ'→CF B w0 ρ' σ' w'→VR ρ' v v'→next (a.put o.dst v') w') (hkp:KP B w0 C ρ kp Q) (hc:E7 C a) :
 o.upon P a next Q ((callFunc g args).run P w):=by
 subst hargs
 obtain ⟨fn,hfn,hname,hor⟩:=hE B w0 ρ w args' h ha
 rcases hor with ⟨hb,hcl⟩ | ⟨v,v',ρ',σ',w',hm,hrun,e1,e2,e3⟩
 ·rw [S1 hfn hname hb,Oper.upon_enter]
  refine Calls.mono hcl fun e w' ⟨r,ρ',σ',q,hr,e1,e2⟩=>?_
  cases r with
  | ret v=>obtain ⟨v',rfl,hv⟩:=hr; exact hk v σ' ρ' v' w' q e1 e2 hv
  | pan v=>obtain ⟨v',rfl,hv⟩:=hr; exact hkp ρ' v v' σ' a w' e1 hc e2 hv q
 ·rw [hrun]
  exact hk v σ' ρ' v' w' hm e1 e2 e3
theorem X8 {o:Oper} {ev:Operand→Value} {K kp:WK} {next:Act→World→Prop} {Q:Exit→Act→World→Prop}
 (hev:∀ x∈o.op.operands,VR ρ (ev x) (a.eval x)) (h:CF B w0 ρ σ w) (hr:OP P (Ev P) ev o σ K kp)
 (hk:∀ v σ' ρ' v' w',K v σ'→EJ ρ ρ'→CF B w0 ρ' σ' w'→VR ρ' v v'→next (a.put o.dst v') w') (hkp:KP B w0 C ρ kp Q) (hc:E7 C a) :
 o.wp P a w next Q:=by
 by_cases hcall:∃ c,o.op=.call c∧∀ b,c.callee≠.builtin b
 ·obtain ⟨c,ho,hnb⟩:=hcall
  simp only [OP,ho] at hr
  split at hr
  ·rename_i b hb; exact absurd hb (hnb b)
  ·rename_i f hcal
   unfold wF at hr
   split at hr
   ·rename_i g first captured hfv
    have hev2:∀ x∈c.args.toList,VR ρ (ev x) (a.eval x):=fun x hx=>hev x (by rw [ho]; simp only [Op.operands,Call.operands,hcal]; simp; right; simpa using hx)
    have hev1:=hev f (by rw [ho]; simp only [Op.operands,Call.operands,hcal]; simp)
    rw [hfv] at hev1
    generalize hfa:a.eval f=fa at hev1
    cases hev1 with
    | func fn f1 f' c1 c' h1 h2 h3 h4 =>
      have hfirst:=LR.of_arr h1 h3
      have hcap:=LR.of_arr h2 h4
      have hmid:LR ρ (c.args.toList.map ev) (c.args.toList.map a.eval):=by
       refine ⟨by simp,fun i v v' x y=>?_⟩
       simp only [List.getElem?_map,Option.map_eq_some_iff] at x y
       obtain ⟨u,hu,rfl⟩:=x
       obtain ⟨u',hu',rfl⟩:=y
       rw [hu] at hu'; cases hu'
       exact hev2 u (List.mem_of_getElem? hu)
      have hargs:LR ρ (first.toList++c.args.toList.map ev++captured.toList) (f'.toList++c.args.toList.map a.eval++c'.toList) :=
       (hfirst.append hmid).append hcap
      have hexec:(execOp a.eval o).run P w=(callFunc g (f'++c.args.map a.eval++c')).run P w:=by
       have:o={ o with op:=.call c }:=by rw [← ho]
       rw [this]
       simp [execOp,resolve,hcal,Deferred.ofValue,hfa,invoke]
      unfold Oper.wp
      rw [hexec]
      exact pL hr h hargs (by apply Array.ext'; simp) hk hkp hc
   ·exact hr.elim
  ·rename_i r name hcal
   obtain ⟨⟨g,v0⟩,hmv,hr⟩:=hr
   have hev2:∀ x∈c.args.toList,VR ρ (ev x) (a.eval x):=fun x hx=>hev x (by rw [ho]; simp only [Op.operands,Call.operands,hcal]; simp; right; simpa using hx)
   have hev1:=hev r (by rw [ho]; simp only [Op.operands,Call.operands,hcal]; simp)
   obtain ⟨t,u,v1,hru,hmeth,hv1⟩:=jV (P:=P) h hev1 hmv
   have hmid:LR ρ (c.args.toList.map ev) (c.args.toList.map a.eval):=by
    refine ⟨by simp,fun i v v' x y=>?_⟩
    simp only [List.getElem?_map,Option.map_eq_some_iff] at x y
    obtain ⟨u,hu,rfl⟩:=x
    obtain ⟨u',hu',rfl⟩:=y
    rw [hu] at hu'; cases hu'
    exact hev2 u (List.mem_of_getElem? hu)
   have hexec:(execOp a.eval o).run P w=(callFunc g (#[v1]++c.args.map a.eval)).run P w:=by
    have:o={ o with op:=.call c }:=by rw [← ho]
    rw [this]
    have hm:=hmeth (P.types.size+Made.depth) (by simp [Made.depth])
    simp only [execOp,resolve,hcal,pure_bind]
    rw [jU,hru]
    simp [callMethod,hm]
   unfold Oper.wp
   rw [hexec]
   exact pL hr h (LR.cons hv1 hmid) (by apply Array.ext'; simp) hk hkp hc
 ·by_cases hnext:∃ it,o.op=.next it false
  ·obtain ⟨it,ho⟩:=hnext
   simp only [OP,ho,cond_false] at hr
   obtain ⟨L,h1,h2⟩:=hr
   obtain ⟨y,hyL,v',w',e1,e2,e3⟩:=fY (P:=P) (t:=o.type) h (hev it (by rw [ho]; simp [Op.operands])) h1
   have hexec:(execOp a.eval o).run P w=.ok (.value v') w':=by
    have:o={ o with op:=.next it false }:=by rw [← ho]
    rw [this]
    simp [execOp,e1]
   unfold Oper.wp
   rw [hexec]
   exact hk y.1 y.2 ρ v' w' (h2 y hyL) (EJ.refl _) e2 e3
  ·by_cases hpan:∃ x,o.op=.panic x
   ·obtain ⟨x,ho⟩:=hpan
    simp only [OP,ho,ACb] at hr
    split at hr
    ·rename_i t u hx
     have hv:=hev x (by rw [ho]; simp [Op.operands])
     rw [hx] at hv
     have hv0:=hv
     obtain ⟨u',hu',_,_⟩:=hv.iface_inv
     have hexec:(execOp a.eval o).run P w=.halt (.panic (.iface t u')) w:=by
      have:o={ o with op:=.panic x }:=by rw [← ho]
      rw [this]
      simp only [execOp,hu']
      rfl
     unfold Oper.wp
     rw [hexec]
     rw [hu'] at hv0
     exact hkp ρ _ _ σ a w (EJ.refl _) hc h hv0 hr
    ·exact hr.elim
   ·have hb:∀ c,o.op=.call c→∃ b,c.callee=.builtin b:=fun c hc=>by
     refine Classical.byContradiction fun hno=>hcall ⟨c,hc,fun b hb=>hno ⟨b,hb⟩⟩
    obtain ⟨r,h1,h2⟩:=iC hb (fun it hi=>hnext ⟨it,hi⟩) (fun x hx=>hpan ⟨x,hx⟩) hr
    have hex:∃ ev':Operand→Value,(∀ x∈o.op.operands,ev x=ev' x)∧∀ x,VR ρ (ev' x) (a.eval x):=by
     classical
     refine ⟨fun x=>if x∈o.op.operands then ev x else undef,fun x hx=>(if_pos hx).symm,fun x=>?_⟩
     simp only
     split
     ·rename_i hx; exact hev x hx
     ·exact .dead _
    obtain ⟨ev',he1,he2⟩:=hex
    rw [bO he1] at h1
    obtain ⟨n,w',ρ',v',e1,e2,e3,e4,e5⟩:=lF h he2 h1
    unfold Oper.wp
    rw [e1]
    have hfin:=hk r.1 r.2 ρ' v' w' h2 e3 e4 e5
    rcases e2 with rfl | ⟨rfl,rfl⟩
    ·exact hfin
    ·exact hfin
def oZ (N:Nat) (Lp:List Nat) (o:Oper):Bool :=
 match o.dst with
 | none=>true
 | some d=>Nat.blt d N && !Lp.contains d
theorem SQ {o:Oper} (h:oZ C.N C.Lp o=true):∀ d,o.dst=some d→C.ok d:=by
 intro d hd
 unfold oZ at h
 rw [hd] at h
 simp only [Bool.and_eq_true,Bool.not_eq_true'] at h
 refine ⟨by simpa using h.1,fun hm=>?_⟩
 have:=List.elem_eq_true_of_mem hm
 rw [List.contains,this] at h
 simp at h
theorem nJ {all:List Oper} {o:Oper} {md:GM} {yes no:GM→FK} (hf:FR C ρ fr a) (hg:wL all md fr) (hr:J7 all o md yes no fr σ) :
 (Region.wanted o (yielded all.toArray a.tmps)=true∧∃ fr' md',FR C ρ fr' a∧wL all md' fr'∧yes (HN md' o) fr' σ) ∨
 (Region.wanted o (yielded all.toArray a.tmps)=false∧∃ fr' md',FR C ρ fr' a∧wL all md' fr'∧no (HN md' o) fr' σ):=by
 have hbt:∀ {v:Value} {b:Bool},asB v=some b→v=.bool b:=fun {v b} hb=>by
  unfold asB at hb; split at hb
  ·cases hb; rfl
  ·cases hb
 unfold J7 at hr
 split at hr
 ·rename_i hgd; exact .inl ⟨by simp [Region.wanted,hgd],fr,none,hf,trivial,hr⟩
 ·rename_i j want hgd
  have hfacts:∀ bb,yB md j want=some bb→∃ t,md=some ((j,want),t,bb):=by
   intro bb hm
   unfold yB at hm
   split at hm
   ·rename_i j' want' t b
    cases hc:(Nat.beq j j' && (want == want')) with
    | false=>rw [hc] at hm; cases hm
    | true =>
      rw [hc] at hm
      simp only [cond_true,Option.some.injEq] at hm
      subst hm
      simp only [Bool.and_eq_true,beq_iff_eq] at hc
      have hj:=Nat.eq_of_beq_eq_true hc.1
      have hw:=hc.2
      subst hj; subst hw
      exact ⟨t,rfl⟩
   ·cases hm
  split at hr
  ·rename_i hm
   obtain ⟨t,rfl⟩:=hfacts true hm
   have hg0:=hg
   obtain ⟨h1,h2⟩:=hg
   rcases h2 with ⟨_,h2⟩ | ⟨h2,_⟩
   ·have hy:=hf.yielded h1 (e9 h2)
    exact .inl ⟨by simp [Region.wanted,hgd,hy],fr,_,hf,hg0,hr⟩
   ·cases h2
  ·rename_i hm
   obtain ⟨t,rfl⟩:=hfacts false hm
   have hg0:=hg
   obtain ⟨h1,h2⟩:=hg
   rcases h2 with ⟨h2,_⟩ | ⟨_,h2 | ⟨_,h3⟩⟩
   ·cases h2
   ·have hy:=hf.yielded h1 (e9 h2)
    exact .inr ⟨by cases want<;>simp [Region.wanted,hgd,hy],fr,_,hf,hg0,hr⟩
   ·have hv:=(hf.val t).isSkip h3
    have hy:=TD (all:=all) h1 hv
    exact .inr ⟨by simp [Region.wanted,hgd,hy],fr,_,hf,hg0,hr⟩
  ·split at hr
   ·rename_i t ht
    have hset:∀ b:Bool,(fr.set t (.bool b)).get t=some (.bool b):=fun b=>by rw [Tr.get_set,if_pos rfl]
    unfold wG at hr
    split at hr
    ·rename_i hb
     have hb':=hbt hb
     have hy:=hf.yielded ht hb'
     cases want with
     | true=>exact .inl ⟨by simp [Region.wanted,hgd,hy],_,some ((j,true),t,true),hf.setb hb',⟨ht,.inl ⟨rfl,hset true⟩⟩,hr⟩
     | false=>exact .inr ⟨by simp [Region.wanted,hgd,hy],_,some ((j,false),t,false),hf.setb hb',⟨ht,.inr ⟨rfl,.inl (hset true)⟩⟩,hr⟩
    ·rename_i hb
     have hb':=hbt hb
     have hy:=hf.yielded ht hb'
     cases want with
     | true=>exact .inr ⟨by simp [Region.wanted,hgd,hy],_,some ((j,true),t,false),hf.setb hb',⟨ht,.inr ⟨rfl,.inl (hset false)⟩⟩,hr⟩
     | false=>exact .inl ⟨by simp [Region.wanted,hgd,hy],_,some ((j,false),t,true),hf.setb hb',⟨ht,.inl ⟨rfl,hset false⟩⟩,hr⟩
    ·rename_i hb
     have hv:=(hf.val t).isSkip hr.1
     have hy:=TD (all:=all) ht hv
     exact .inr ⟨by simp [Region.wanted,hgd,hy],fr,some ((j,want),t,false),hf,⟨ht,.inr ⟨rfl,.inr ⟨hb,hr.1⟩⟩⟩,hr.2⟩
   ·exact hr.elim
theorem fI {all:List Oper} {kn:FK} {kp:WK} {Q:Exit→Act→World→Prop} :
 ∀ (os:List Oper) (i:Nat) (md:GM),all.drop i=os→(∀ o∈os,oZ C.N C.Lp o=true)→∀ ρ fr σ a w,KS B w0 C ρ kn (Q .normal)→KP B w0 C ρ kp Q→FR C ρ fr a→CF B w0 ρ σ w→wL all md fr→yL P (Ev P) all kp os md kn fr σ→wpOps P all.toArray Q (List.range' i os.length) a w:=by
 intro os
 induction os with
 | nil =>
   intro i md hd _ ρ fr σ a w hk hkp hf h hg hr
   simp only [List.length_nil,List.range'_zero,wpOps]
   exact hk ρ fr σ a w (EJ.refl _) hf h hr
 | cons o os ih =>
   intro i md hd hdst ρ fr σ a w hk hkp hf h hg hr
   have hoi:all[i]?=some o:=by
    have:=congrArg (·[0]?) hd
    simpa using this
   have hd':all.drop (i+1)=os:=by
    have:=congrArg List.tail hd
    simpa using this
   have ho:=SQ (hdst o (by simp))
   simp only [List.length_cons,List.range'_succ,wpOps]
   have hoi':all.toArray[i]?=some o:=by simpa using hoi
   rw [hoi']
   simp only
   unfold yL at hr
   rcases nJ hf hg hr with ⟨hw,fr',md',hf',hg',hr'⟩ | ⟨hw,fr',md',hf',hg',hr'⟩
   ·rw [if_pos hw]
    refine .inl (X8 (C:=C) (fun x _=>hf'.ev x) h hr' (fun v σ' ρ' v' w' hm e1 e2 e3=>?_) hkp hf'.kp)
    exact ih (i+1) _ hd' (fun o ho=>hdst o (by simp [ho])) ρ' _ σ' _ w' (hk.mono e1) (hkp.mono e1) ((hf'.mono e1).put e3 ho) e2 (hg'.after o v) hm
   ·rw [if_neg (by simp [hw])]
    exact ih (i+1) _ hd' (fun o ho=>hdst o (by simp [ho])) ρ _ σ _ w hk hkp (hf'.put .skp ho) h (hg'.after o C7) hr'
end
end Go.Ax
namespace Go.Ax
open Go.RowKit
def wQ (acc:List Nat) (o:Oper):Nat:=o.after.toList.foldl (fun m e=>cond (Region.binds .any e) (m ||| 2 ^ e.on ||| acc.getD e.on 0) m) 0
def HV:List Oper→List Nat→List Nat
 | [],acc=>acc
 | o::os,acc=>HV os (acc++[wQ acc o])
inductive Bef (all:List Oper):Nat→Nat→Prop where
 | edge (i:Nat) (o:Oper) (e:Edge):all[i]?=some o→e∈o.after.toList→Region.binds .any e=true→Bef all e.on i
 | trans (i j:Nat) (o:Oper) (e:Edge):all[i]?=some o→e∈o.after.toList→Region.binds .any e=true→Bef all j e.on→Bef all j i
theorem Y8 (acc:List Nat) (j:Nat):∀ (l:List Edge) (m:Nat),(l.foldl (fun m e=>cond (Region.binds .any e) (m ||| 2 ^ e.on ||| acc.getD e.on 0) m) m).testBit j=true→m.testBit j=true∨∃ e∈l,Region.binds .any e=true∧(e.on=j∨(acc.getD e.on 0).testBit j=true)
 | [],m,h=>.inl h
 | e::l,m,h=>by
   simp only [List.foldl_cons] at h
   rcases Y8 acc j l _ h with h1 | ⟨e',he,hb,hh⟩
   ·cases hb:Region.binds .any e with
    | false=>rw [hb] at h1; exact .inl h1
    | true =>
      rw [hb] at h1
      simp only [cond_true,Nat.testBit_or,Bool.or_eq_true,Nat.testBit_two_pow,decide_eq_true_eq] at h1
      rcases h1 with (h1 | h1) | h1
      ·exact .inl h1
      ·exact .inr ⟨e,by simp,hb,.inl h1⟩
      ·exact .inr ⟨e,by simp,hb,.inr h1⟩
   ·exact .inr ⟨e',by simp [he],hb,hh⟩
theorem gH (all:List Oper):∀ (os pre:List Oper) (acc:List Nat),all=pre++os→acc.length=pre.length→(∀ (i:Nat) m j,acc[i]?=some m→m.testBit j=true→Bef all j i)→∀ (i:Nat) m j,(HV os acc)[i]?=some m→m.testBit j=true→Bef all j i
 | [],_,acc,_,_,h=>h
 | o::os,pre,acc,he,hl,h=>by
   refine gH all os (pre++[o]) (acc++[wQ acc o]) (by simp [he]) (by simp [hl]) ?_
   intro i m j hi hm
   rw [List.getElem?_append] at hi
   split at hi
   ·exact h i m j hi hm
   ·rename_i hlt
    have hi0:i - acc.length=0:=by
     rcases Nat.eq_zero_or_pos (i - acc.length) with h0 | h0
     ·exact h0
     ·rw [List.getElem?_eq_none (by simp; omega)] at hi; cases hi
    rw [hi0] at hi
    simp only [List.getElem?_cons_zero,Option.some.injEq] at hi
    subst hi
    have hio:all[i]?=some o:=by
     have:i=pre.length:=by omega
     rw [he,this]; simp
    rcases Y8 acc j o.after.toList 0 hm with h1 | ⟨e,hmem,hb,hh⟩
    ·simp at h1
    ·rcases hh with rfl | hh
     ·exact .edge i o e hio hmem hb
     ·rw [List.getD_eq_getElem?_getD] at hh
      cases hacc:acc[e.on]? with
      | none=>rw [hacc] at hh; simp at hh
      | some m' =>
        rw [hacc] at hh
        exact .trans i j o e hio hmem hb (h _ m' j hacc hh)
def XS (b:List Nat) (j i:Nat):Bool:=(b.getD i 0).testBit j
theorem SI {all:List Oper} {j i:Nat} (h:XS (HV all []) j i=true):Bef all j i:=by
 unfold XS at h
 rw [List.getD_eq_getElem?_getD] at h
 cases hi:(HV all [])[i]? with
 | none=>rw [hi] at h; simp at h
 | some m=>rw [hi] at h; exact gH all all [] [] rfl rfl (fun i m j x=>by simp at x) i m j hi h
def ABB (all:List Oper) (S:Nat→Prop):Prop:=∀ i o,all[i]?=some o→S i→∀ e∈o.after.toList,Region.binds .any e=true→S e.on
theorem Bef.closed {all:List Oper} {S:Nat→Prop} (hc:ABB all S) {j i:Nat} (h:Bef all j i):(∀ o,all[i]?=some o→∀ e∈o.after.toList,Region.binds .any e=true→S e.on)→S j:=by
 induction h with
 | edge i o e ho he hb=>exact fun hx=>hx o ho e he hb
 | trans i j o e ho he hb _ ih=>exact fun hx=>ih fun o' ho'=>hc e.on o' ho' (hx o ho e he hb)
def RA:Op→Bool
 | .move _ | .assign _ | .pick .. | .build .. | .nilCheck _ | .binOp .. | .unOp .. | .makeInterface .. | .makeFunc .. | .slice .. | .fieldAddr .. | .field .. | .indexAddr .. | .index .. | .extract .. | .typeAssert ..=>true
 | .call c=>match c.callee with
   | .builtin .min | .builtin .max=>true
   | _=>false
 | .buildSlice _ n _=>Nat.beq n 0
 | _=>false
def XE:Op→Bool
 | .load .. | .convert .. | .lookup .. | .entry ..=>true
 | .call c=>match c.callee with
   | .builtin .len=>true
   | _=>false
 | _=>false
section
variable {P:Program}
theorem B9 {α:Type} (q:Option α) (σ:AHeap):(q.bind fun v=>some (v,σ))=q.map fun v=>(v,σ):=by cases q<;>rfl
theorem lV (ev:Operand→Value) {o:Oper} (hq:RA o.op=true):∃ q:Option Value,∀ σ,I7 P ev o σ=q.map fun v=>(v,σ):=by
 obtain ⟨dst,op,type,pos,after,guard⟩:=o
 cases op<;>simp only [RA,reduceCtorEq] at hq
 case move x=>exact ⟨some (ev x),fun σ=>rfl⟩
 case assign x=>exact ⟨some (ev x),fun σ=>rfl⟩
 case pick c a b=>exact ⟨(asB (ev c)).map fun t=>cond t (ev a) (ev b),fun σ=>by simp only [I7]; cases asB (ev c)<;>rfl⟩
 case build t ps=>exact ⟨_,fun σ=>by simp only [I7]; exact B9 _ σ⟩
 case buildSlice t n ps =>
  have h0:n=0:=Nat.eq_of_beq_eq_true hq
  subst h0
  cases hn:(Nat.beq 0 0 && !ps.toList.isEmpty) with
  | true=>exact ⟨none,fun σ=>by simp only [I7,hn,cond_true]; rfl⟩
  | false =>
    cases he:DH P t with
    | none=>exact ⟨none,fun σ=>by simp only [I7,hn,cond_false,HC,he]; rfl⟩
    | some x=>exact ⟨some (.slice (some ⟨ZB,0,some 0⟩) 0 0),fun σ=>by simp only [I7,hn,cond_false,HC,he]; rfl⟩
 case nilCheck x=>exact ⟨_,fun σ=>by simp only [I7]; exact B9 _ σ⟩
 case binOp op t x y ty=>exact ⟨_,fun σ=>by simp only [I7]; exact B9 _ σ⟩
 case unOp op t x=>exact ⟨_,fun σ=>by simp only [I7]; exact B9 _ σ⟩
 case makeInterface t x=>exact ⟨_,fun σ=>by simp only [I7]; exact B9 _ σ⟩
 case makeFunc fn f c=>exact ⟨some (.func fn (f.toList.map ev).toArray (c.toList.map ev).toArray),fun σ=>rfl⟩
 case slice t x lo hi mx=>exact ⟨_,fun σ=>by simp only [I7]; exact B9 _ σ⟩
 case fieldAddr t x f=>exact ⟨(NQ P t f).bind fun off=>AA off (ev x),fun σ=>by simp only [I7]; cases NQ P t f<;>simp [B9]⟩
 case field t x f=>exact ⟨_,fun σ=>by simp only [I7]; exact B9 _ σ⟩
 case indexAddr t x i=>exact ⟨_,fun σ=>by simp only [I7]; exact B9 _ σ⟩
 case index t x i=>exact ⟨_,fun σ=>by simp only [I7]; exact B9 _ σ⟩
 case extract x i=>exact ⟨_,fun σ=>by simp only [I7]; exact B9 _ σ⟩
 case typeAssert x xt t ok=>exact ⟨_,fun σ=>by simp only [I7]; exact B9 _ σ⟩
 case call c =>
  obtain ⟨callee,args,argTypes⟩:=c
  cases callee with
  | builtin b =>
    have hb:∃ q:Option Value,∀ σ,KI P b argTypes.toList (args.toList.map ev) σ=q.map fun v=>(v,σ):=by
     generalize argTypes.toList=ts
     generalize args.toList.map ev=l
     cases b<;>simp only [reduceCtorEq] at hq
     case max =>
      match l with
      | [x,y]=>exact ⟨_,fun σ=>by simp only [KI]; exact B9 _ σ⟩
      | []=>exact ⟨none,fun σ=>rfl⟩
      | [x]=>exact ⟨none,fun σ=>rfl⟩
      | _::_::_::_=>exact ⟨none,fun σ=>rfl⟩
     case min =>
      match l with
      | [x,y]=>exact ⟨_,fun σ=>by simp only [KI]; exact B9 _ σ⟩
      | []=>exact ⟨none,fun σ=>rfl⟩
      | [x]=>exact ⟨none,fun σ=>rfl⟩
      | _::_::_::_=>exact ⟨none,fun σ=>rfl⟩
    obtain ⟨q,hq'⟩:=hb
    exact ⟨q,fun σ=>by simp only [I7]; exact hq' σ⟩
  | _=>simp only [reduceCtorEq] at hq
theorem qQ {ev:Operand→Value} {o:Oper} {σ:AHeap} {v:Value} {σ':AHeap} (hq:(RA o.op || XE o.op)=true) (h:I7 P ev o σ=some (v,σ')):σ'=σ:=by
 rw [Bool.or_eq_true] at hq
 rcases hq with hq | hq
 ·obtain ⟨q,hq⟩:=lV (P:=P) ev hq
  rw [hq σ] at h
  simp only [Option.map_eq_some_iff,Prod.mk.injEq] at h
  obtain ⟨u,_,_,rfl⟩:=h
  rfl
 ·obtain ⟨dst,op,type,pos,after,guard⟩:=o
  cases op<;>simp only [XE,reduceCtorEq] at hq
  case load t a =>
   simp only [I7,Option.bind_eq_some_iff,Option.some.injEq,Prod.mk.injEq] at h
   obtain ⟨_,_,_,_,_,rfl⟩:=h
   rfl
  case call c =>
   obtain ⟨callee,args,argTypes⟩:=c
   cases callee with
   | builtin b =>
     simp only [I7] at h
     cases b<;>simp only [reduceCtorEq] at hq
     simp only [KI] at h
     split at h<;>first | cases h | rename_i hc _ | skip
     all_goals first | (exfalso; simp_all; done) | skip
     all_goals simp only [Option.bind_eq_some_iff,Option.some.injEq,Prod.mk.injEq] at h
     all_goals obtain ⟨_,_,_,rfl⟩:=h
     all_goals rfl
   | _=>simp only [reduceCtorEq] at hq
  all_goals simp only [I7,Option.bind_eq_some_iff,Option.some.injEq,Prod.mk.injEq] at h
  all_goals obtain ⟨_,_,_,rfl⟩:=h
  all_goals rfl
theorem ABX {ev:Operand→Value} {o:Oper} {σ:AHeap} {v:Value} {σ':AHeap} (σ2:AHeap) (hq:RA o.op=true) (h:I7 P ev o σ=some (v,σ')):I7 P ev o σ2=some (v,σ2):=by
 obtain ⟨q,hq⟩:=lV (P:=P) ev hq
 rw [hq σ] at h
 rw [hq σ2]
 simp only [Option.map_eq_some_iff,Prod.mk.injEq] at h ⊢
 obtain ⟨u,hu,rfl,_⟩:=h
 exact ⟨u,hu,rfl,trivial⟩
theorem i8 {a b:Value} (h:aQ a b=true):a=b:=by
 unfold aQ at h
 split at h<;>(try simp only [Bool.and_eq_true,beq_iff_eq,decide_eq_true_eq] at h)
 ·rw [h]
 ·rw [h.1,h.2]
 ·rename_i x y
  have:x.data=y.data:=Array.ext' h
  have:x=y:=ByteArray.ext this
  rw [this]
 ·rw [h]
 ·obtain ⟨⟨h1,h2⟩,h3⟩:=h
  rw [h1,Nat.eq_of_beq_eq_true h2,Nat.eq_of_beq_eq_true h3]
 ·rw [h]
 ·rfl
 ·rfl
 ·cases h
theorem lP {a b:Value} (h:xE a b=true):a=b:=by
 unfold xE at h
 split at h
 ·simp only [Bool.and_eq_true] at h
  rw [Nat.eq_of_beq_eq_true h.1,i8 h.2]
 ·exact i8 h
theorem XW:∀ {a b:List Value},qI a b=true→a=b
 | [],[],_=>rfl
 | x::l,y::m,h=>by
   simp only [qI,Bool.and_eq_true] at h
   rw [lP h.1,XW h.2]
 | [],_::_,h=>by cases h
 | _::_,[],h=>by cases h
theorem t9 {a b:Value} (h:AX a b=true):a=b:=by
 unfold AX at h
 split at h
 ·rename_i x y
  have:x=y:=Array.ext' (XW h)
  rw [this]
 ·rename_i x y
  have:x=y:=Array.ext' (XW h)
  rw [this]
 ·exact lP h
def II (all:List Oper) (o:Oper):List Tmp :=
 (o.op.operands.toList.filterMap fun | .tmp t=>some t | _=>none) ++
 (match o.guard with
  | some (g,_)=>((all[g]?).bind (·.dst)).toList
  | none=>[])
theorem QY {all:List Oper} {o:Oper} {t:Nat} (h:Operand.tmp t∈o.op.operands):t∈II all o:=by
 unfold II
 refine List.mem_append_left _ (List.mem_filterMap.2 ⟨.tmp t,by simpa using h,rfl⟩)
theorem VY {all:List Oper} {o:Oper} {j t:Nat} {b:Bool} (hg:o.guard=some (j,b)) (ht:(all[j]?).bind (·.dst)=some t):t∈II all o:=by
 unfold II
 refine List.mem_append_right _ ?_
 rw [hg]
 simp only [ht]
 simp
def EG (op:Op):Bool:=RA op || XE op
def iR (all:List Oper) (b:List Nat) (chk:List Nat) (k i:Nat) (ok o:Oper):Bool :=
 !(Nat.beq k i) && !(XS b i k) &&
 (match ok.dst,o.dst with | some d,some d'=>!(Nat.beq d d') | _,_=>true) &&
 (match ok.dst with | some d=>!(II all o).contains d || XS b k i | none=>true) &&
 (match o.dst with | some d=>!(II all ok).contains d || XS b k i | none=>true) &&
 (EG o.op || !(XE ok.op) || XS b k i || chk.contains k)
def w8 (all:List Oper) (b:List Nat) (pre:List Nat) (q:Nat):Bool :=
 match all[q]? with
 | none=>false
 | some oq=>EG oq.op && oq.dst.isSome && pre.contains q && pre.all fun k=>match all[k]? with
   | some ok=>match ok.dst with
     | some d=>!(II all oq).contains d || XS b k q
     | none=>true
   | none=>false
def qT (N:Nat) (Lp:List Nat) (all:List Oper) (b:List Nat) (pre:List Nat):List (Nat×List Nat)→Bool
 | []=>true
 | (i,chk)::post=>match all[i]? with
   | none=>false
   | some o=>oZ N Lp o && (!(EG o.op) || (o.dst.isSome && chk.isEmpty)) &&
     pre.all (fun k=>match all[k]? with | some ok=>iR all b chk k i ok o | none=>false) &&
     chk.all (w8 all b (i::pre)) && chk.all (fun q=>!(Nat.beq q i)) && qT N Lp all b (i::pre) post
def S9 (all:List Oper):Bool:=(List.range all.length).all fun i=>match all[i]? with
 | some o=>o.after.toList.all fun e=>!(Region.binds .any e) || Nat.blt e.on i
 | none=>false
def DT.heads:DT→List Nat
 | .nil=>[]
 | .step i _ _=>[i]
 | .alt a b=>a.heads++b.heads
def QM (N:Nat) (Lp:List Nat) (all:List Oper) (b:List Nat):List Nat→DT→Bool
 | _,.nil=>true
 | pre,.step i chk t=>qT N Lp all b pre [(i,chk)] && QM N Lp all b (i::pre) t
 | pre,.alt x y=>QM N Lp all b pre x && QM N Lp all b pre y
def cQ (all:List Oper) (i:Nat):Bool :=
 match all[i]? with
 | some o=>!(EG o.op)
 | none=>false
def fH (all:List Oper) (b:List Nat) (pre h:List Nat):Bool :=
 (List.range all.length).all fun j=>pre.contains j || h.any fun s=>Nat.beq j s || XS b s j
def SN (all:List Oper) (b:List Nat):List Nat→List Nat→DT→Bool
 | pre,h,.nil=>fH all b pre h
 | pre,h,.step i _ t=>(match cQ all i with
  | true=>fH all b pre h
  | false=>Nat.beq h.length 1) && SN all b (i::pre) t.heads t
 | pre,h,.alt x y=>SN all b pre h x && SN all b pre h y
def ACL (N:Nat) (Lp:List Nat) (all:List Oper) (t:DT):Bool :=
 S9 all && QM N Lp all (HV all []) [] t && SN all (HV all []) [] t.heads t
def dOk (N:Nat) (Lp:List Nat) (all:List Oper) (ord:List (Nat×List Nat)):Bool:=ACL N Lp all (DT.ofList ord)
end
end Go.Ax
namespace Go.Ax
open Go.RowKit
def YD (all:List Oper) (o:Oper) (yes no:FK):FK:=fun fr σ =>
 match o.guard with
 | none=>yes fr σ
 | some (j,want)=>match (all[j]?).bind (·.dst) with
   | some t=>match asB (B4 fr t) with
     | some true=>cond want (yes (fr.set t (.bool true)) σ) (no (fr.set t (.bool true)) σ)
     | some false=>cond want (no (fr.set t (.bool false)) σ) (yes (fr.set t (.bool false)) σ)
     | none=>isSkip (B4 fr t)=true∧no fr σ
   | none=>False
def I6 (P:Program) (all:List Oper):List Nat→FK→FK
 | [],k=>k
 | q::qs,k=>fun fr σ=>match all[q]? with
   | none=>False
   | some o=>YD all o (fun fr σ=>match I7 P (R9 fr) o σ,o.dst with
     | some (v,_),some d=>AX v (B4 fr d)=true∧I6 P all qs k fr σ
     | _,_=>False) (I6 P all qs k) fr σ
def ACH (P:Program) (o:Oper) (k:FK) (kp:WK):FK:=fun fr σ=>∃ K0:WK,OP P (Ev P) (R9 fr) o σ K0 kp∧∀ v σ',K0 v σ'→k (H6 fr o.dst v) σ'
def ND (P:Program) (all:List Oper) (kp:WK):List (Nat×List Nat)→FK→FK
 | [],kn=>kn
 | (i,chk)::os,kn=>fun fr σ=>match all[i]? with
   | none=>False
   | some o=>YD all o (ACH P o (I6 P all chk (ND P all kp os kn)) kp) (fun fr σ=>ND P all kp os kn (H6 fr o.dst C7) σ) fr σ
def mS (P:Program) (all:List Oper) (kp:WK):DT→FK→FK
 | .nil,kn=>kn
 | .step i chk t,kn=>fun fr σ=>match all[i]? with
   | none=>False
   | some o=>YD all o (ACH P o (I6 P all chk (mS P all kp t kn)) kp) (fun fr σ=>mS P all kp t kn (H6 fr o.dst C7) σ) fr σ
 | .alt x y,kn=>fun fr σ=>mS P all kp x kn fr σ∧mS P all kp y kn fr σ
theorem hS {all:List Oper} {o:Oper} {md:GM} {y n:GM→FK} {ky kn:FK} {fr:Fr} {σ:AHeap} (hg:wL all md fr)
 (hy:∀ md fr,wL all md fr→y (HN md o) fr σ→ky fr σ) (hy0:∀ fr,y none fr σ→ky fr σ)
 (hn:∀ md fr,wL all md fr→n (HN md o) fr σ→kn fr σ) (h:J7 all o md y n fr σ) :
 YD all o ky kn fr σ:=by
 unfold J7 at h
 unfold YD
 split at h
 ·rename_i ho
  (try simp only [ho])
  exact hy0 _ h
 ·rename_i j want ho
  (try simp only [ho])
  split at h
  ·rename_i hm
   unfold yB at hm
   split at hm
   ·rename_i j' want' t b
    cases hc:(Nat.beq j j' && (want == want')) with
    | false=>rw [hc] at hm; cases hm
    | true =>
      rw [hc] at hm
      simp only [cond_true,Option.some.injEq] at hm
      subst hm
      simp only [Bool.and_eq_true,beq_iff_eq] at hc
      have hj:=Nat.eq_of_beq_eq_true hc.1
      have hw:=hc.2
      subst hj; subst hw
      have hg0:=hg
      obtain ⟨h1,h2⟩:=hg
      rcases h2 with ⟨_,h2⟩ | ⟨h2,_⟩
      ·simp only [h1,e9 h2,asB]
       cases want with
       | true=>simp only [cond_true]; rw [Tr.set_self h2]; exact hy _ _ hg0 h
       | false=>simp only [cond_false]; rw [Tr.set_self h2]; exact hy _ _ hg0 h
      ·cases h2
   ·cases hm
  ·rename_i hm
   unfold yB at hm
   split at hm
   ·rename_i j' want' t b
    cases hc:(Nat.beq j j' && (want == want')) with
    | false=>rw [hc] at hm; cases hm
    | true =>
      rw [hc] at hm
      simp only [cond_true,Option.some.injEq] at hm
      subst hm
      simp only [Bool.and_eq_true,beq_iff_eq] at hc
      have hj:=Nat.eq_of_beq_eq_true hc.1
      have hw:=hc.2
      subst hj; subst hw
      have hg0:=hg
      obtain ⟨h1,h2⟩:=hg
      rcases h2 with ⟨h2,_⟩ | ⟨_,h2 | ⟨h2,h3⟩⟩
      ·cases h2
      ·simp only [h1,e9 h2,asB]
       cases want with
       | true=>simp only [Bool.not_true,cond_true]; rw [Tr.set_self (x:=Value.bool false) h2]; exact hn _ _ hg0 h
       | false=>simp only [Bool.not_false,cond_false]; rw [Tr.set_self (x:=Value.bool true) h2]; exact hn _ _ hg0 h
      ·simp only [h1,h2,h3,true_and]
       exact hn _ _ hg0 h
   ·cases hm
  ·split at h
   ·rename_i t ht
    (try simp only [ht])
    unfold wG at h
    have hset:∀ b:Bool,(fr.set t (.bool b)).get t=some (.bool b):=fun b=>by rw [Tr.get_set,if_pos rfl]
    split at h
    ·rename_i hb
     (try simp only [hb])
     cases want with
     | true=>exact hy (some ((j,true),t,true)) _ ⟨ht,.inl ⟨rfl,hset true⟩⟩ h
     | false=>exact hn (some ((j,false),t,false)) _ ⟨ht,.inr ⟨rfl,.inl (hset true)⟩⟩ h
    ·rename_i hb
     (try simp only [hb])
     cases want with
     | true=>exact hn (some ((j,true),t,false)) _ ⟨ht,.inr ⟨rfl,.inl (hset false)⟩⟩ h
     | false=>exact hy (some ((j,false),t,true)) _ ⟨ht,.inl ⟨rfl,hset false⟩⟩ h
    ·rename_i hb
     (try simp only [hb,h.1,true_and])
     exact hn (some ((j,want),t,false)) _ ⟨ht,.inr ⟨rfl,.inr ⟨hb,h.1⟩⟩⟩ h.2
   ·exact h.elim
theorem vS {P:Program} {all:List Oper} {k k':FK} (hk:∀ fr σ,k fr σ→k' fr σ):∀ (qs:List Nat) (fr:Fr) (σ:AHeap),zM P all qs k fr σ→I6 P all qs k' fr σ
 | [],fr,σ,h=>hk _ _ h
 | q::qs,fr,σ,h=>by
   simp only [zM] at h
   simp only [I6]
   split at h
   ·exact h.elim
   ·rename_i o ho
    (try simp only [ho])
    have hyes:∀ fr,(match o.dst with
     | some d=>wnx o (OP P (fun _ _ _ _=>False) (R9 fr) o σ (fun v _=>AX v (B4 fr d)=true∧zM P all qs k fr σ) noP)
     | none=>False)→(match I7 P (R9 fr) o σ,o.dst with
     | some (v,_),some d=>AX v (B4 fr d)=true∧I6 P all qs k' fr σ
     | _,_=>False):=by
     intro fr h
     split at h
     ·rename_i d hd
      have hn:∀ it,o.op≠.next it false:=fun it hi=>by simp only [wnx,hi] at h
      have hp:∀ x,o.op≠.panic x:=fun x hi=>by simp only [wnx,hi] at h
      have h:OP P (fun _ _ _ _=>False) (R9 fr) o σ (fun v _=>AX v (B4 fr d)=true∧zM P all qs k fr σ) noP:=by
       unfold wnx at h
       split at h
       ·exact h.elim
       ·exact h.elim
       ·exact h
      have hb:∀ c,o.op=.call c→∃ b,c.callee=.builtin b:=fun c hc=>by
       simp only [OP,hc] at h
       split at h
       ·exact ⟨_,‹_›⟩
       ·unfold wF at h; split at h<;>exact h.elim
       ·obtain ⟨_,_,h⟩:=h; exact h.elim
      obtain ⟨r,h1,h2,h3⟩:=iC hb hn hp h
      simp only [h1,hd]
      exact ⟨h2,vS hk qs fr σ h3⟩
     ·exact h.elim
    exact hS (md:=none) trivial (fun md fr _ h=>hyes fr h) (fun fr h=>hyes fr h) (fun md fr _ h=>vS hk qs fr σ h) h
theorem fF {P:Program} {all:List Oper} {k k':FK} {kp:WK} (hk:∀ fr σ,k fr σ→k' fr σ):∀ (os:List (Nat×List Nat)) (md:GM) (fr:Fr) (σ:AHeap),wL all md fr→dO P (Ev P) all kp os md k fr σ→ND P all kp os k' fr σ
 | [],_,fr,σ,_,h=>hk _ _ h
 | (i,chk)::os,md,fr,σ,hg,h=>by
   simp only [dO] at h
   simp only [ND]
   split at h
   ·exact h.elim
   ·rename_i o ho
    (try simp only [ho])
    have hyes:∀ md fr,wL all md fr→AAi P (Ev P) o (zM P all chk (dO P (Ev P) all kp os (lQ chk (HN md o)) k)) kp fr σ→ACH P o (I6 P all chk (ND P all kp os k')) kp fr σ:=by
     intro md fr hg h
     refine ⟨_,h,fun v σ' hv=>?_⟩
     cases chk with
     | nil=>exact fF hk os _ _ _ (hg.after o v) hv
     | cons c chk=>exact vS (fun fr σ h=>fF hk os none _ _ trivial h) _ _ _ hv
    exact hS hg hyes (fun fr h=>hyes none fr trivial (by cases chk<;>exact h)) (fun md fr hg h=>fF hk os _ _ _ (hg.after o C7) h) h
theorem lM {P:Program} {all:List Oper} {k k':FK} {kp:WK} (hk:∀ fr σ,k fr σ→k' fr σ):∀ (t:DT) (md:GM) (fr:Fr) (σ:AHeap),wL all md fr→wdt P (Ev P) all kp t md k fr σ→mS P all kp t k' fr σ
 | .nil,_,fr,σ,_,h=>hk _ _ h
 | .alt x y,md,fr,σ,hg,h=>⟨lM hk x md fr σ hg h.1,lM hk y md fr σ hg h.2⟩
 | .step i chk t,md,fr,σ,hg,h=>by
   simp only [wdt] at h
   simp only [mS]
   split at h
   ·exact h.elim
   ·rename_i o ho
    (try simp only [ho])
    have hyes:∀ md fr,wL all md fr→AAi P (Ev P) o (zM P all chk (wdt P (Ev P) all kp t (lQ chk (HN md o)) k)) kp fr σ→ACH P o (I6 P all chk (mS P all kp t k')) kp fr σ:=by
     intro md fr hg h
     refine ⟨_,h,fun v σ' hv=>?_⟩
     cases chk with
     | nil=>exact lM hk t _ _ _ (hg.after o v) hv
     | cons c chk=>exact vS (fun fr σ h=>lM hk t none _ _ trivial h) _ _ _ hv
    exact hS hg hyes (fun fr h=>hyes none fr trivial (by cases chk<;>exact h)) (fun md fr hg h=>lM hk t _ _ _ (hg.after o C7) h) h
def TK (all:List Oper) (o:Oper) (fr:Fr):Option Bool :=
 match o.guard with
 | none=>some true
 | some (j,want)=>match (all[j]?).bind (·.dst) with
   | some t=>match asB (B4 fr t) with
     | some b=>some (b == want)
     | none=>cond (isSkip (B4 fr t)) (some false) none
   | none=>none
def FEq (fr fr':Fr):Prop:=∀ t,B4 fr t=B4 fr' t
theorem FEq.ev {fr fr':Fr} (h:FEq fr fr'):R9 fr=R9 fr':=by
 funext x
 cases x with
 | tmp t=>exact h t
 | _=>rfl
theorem ZQ {v:Value} {b:Bool} (h:asB v=some b):v=.bool b:=by
 unfold asB at h
 split at h
 ·cases h; rfl
 ·cases h
theorem ZK {fr:Fr} {t:Nat} {b:Bool} (h:B4 fr t=.bool b):FEq (fr.set t (.bool b)) fr:=by
 intro u
 rw [H1]
 split
 ·rename_i e; subst e; exact h.symm
 ·rfl
theorem YV {all:List Oper} {o:Oper} {yes no:FK} {fr:Fr} {σ:AHeap} (h:YD all o yes no fr σ) :
 ∃ wb fr',TK all o fr=some wb∧FEq fr' fr∧(if wb=true then yes else no) fr' σ:=by
 unfold YD at h
 unfold TK
 cases hg:o.guard with
 | none=>rw [hg] at h; exact ⟨true,fr,rfl,fun _=>rfl,h⟩
 | some p =>
   obtain ⟨j,want⟩:=p
   rw [hg] at h
   simp only at h ⊢
   cases ht:(all[j]?).bind (·.dst) with
   | none=>rw [ht] at h; exact h.elim
   | some t =>
     rw [ht] at h
     simp only at h ⊢
     cases hb:asB (B4 fr t) with
     | none =>
       rw [hb] at h
       simp only at h ⊢
       exact ⟨false,fr,by rw [h.1]; rfl,fun _=>rfl,h.2⟩
     | some bb =>
       rw [hb] at h
       cases bb with
       | true =>
         cases want with
         | true=>exact ⟨true,_,rfl,ZK (ZQ hb),h⟩
         | false=>exact ⟨false,_,rfl,ZK (ZQ hb),h⟩
       | false =>
         cases want with
         | true=>exact ⟨false,_,rfl,ZK (ZQ hb),h⟩
         | false=>exact ⟨true,_,rfl,ZK (ZQ hb),h⟩
theorem VI {all:List Oper} {o:Oper} {fr fr':Fr} (h:∀ t∈II all o,B4 fr t=B4 fr' t):TK all o fr=TK all o fr':=by
 unfold TK
 split
 ·rfl
 ·rename_i j want hg
  split
  ·rename_i t ht
   rw [h t (VY hg ht)]
  ·rfl
theorem zG {all:List Oper} {o:Oper} {fr fr':Fr} (h:∀ t∈II all o,B4 fr t=B4 fr' t):∀ x∈o.op.operands,R9 fr x=R9 fr' x:=by
 intro x hx
 cases x with
 | tmp t=>exact h t (QY hx)
 | _=>rfl
section
variable {P:Program} {B:Nat} {w0:World} {C:Cx} {all:List Oper} {kp:WK}
theorem sL {ev:Operand→Value} {o:Oper} {σ:AHeap} {K:WK} (hf:EG o.op=true) (h:OP P (Ev P) ev o σ K kp):∃ v,I7 P ev o σ=some (v,σ)∧K v σ:=by
 have hb:∀ c,o.op=.call c→∃ b,c.callee=.builtin b:=fun c hc=>by
  rw [hc] at hf
  cases hcal:c.callee with
  | builtin b=>exact ⟨b,rfl⟩
  | value f=>simp [EG,RA,XE,hcal] at hf
  | invoke r n=>simp [EG,RA,XE,hcal] at hf
 obtain ⟨⟨v,σ'⟩,h1,h2⟩:=iC hb (fun it hc=>by rw [hc] at hf; simp [EG,RA,XE] at hf) (fun x hc=>by rw [hc] at hf; simp [EG,RA,XE] at hf) h
 have hσ:=qQ (by unfold EG at hf; exact hf) h1
 subst hσ
 exact ⟨v,h1,h2⟩
theorem WM {o:Oper} {fr:Fr} {a:Act} {ρ:List RB} {wb:Bool} (hw:TK all o fr=some wb) (hv:∀ t∈II all o,VR ρ (B4 fr t) (a.tmps.getD t undef)) :
 Region.wanted o (yielded all.toArray a.tmps)=wb:=by
 unfold TK at hw
 split at hw
 ·rename_i hg; cases hw; simp [Region.wanted,hg]
 ·rename_i j want hg
  split at hw
  ·rename_i t ht
   split at hw
   ·rename_i bb hb
    cases hw
    have hvt:=hv t (VY hg ht)
    rw [ZQ hb] at hvt
    have hvt:=hvt.bool_inv
    have ht2:a.tmps[t]?=some (.bool bb):=by
     rw [Array.getD_eq_getD_getElem?] at hvt
     cases hx:a.tmps[t]? with
     | none=>rw [hx] at hvt; simp [undef] at hvt
     | some v=>rw [hx] at hvt; simp at hvt; rw [hvt]
    have hy:yielded all.toArray a.tmps j=some bb:=by
     unfold Go.yielded
     have hj':((all.toArray[j]?).bind (·.dst))=some t:=by simpa using ht
     rw [hj']
     simp [ht2]
    simp [Region.wanted,hg,hy]
   ·cases hs:isSkip (B4 fr t) with
    | false=>rw [hs] at hw; cases hw
    | true =>
      rw [hs] at hw
      cases hw
      have hvt:=(hv t (VY hg ht)).isSkip hs
      have hy:=TD (all:=all) ht hvt
      simp [Region.wanted,hg,hy]
  ·cases hw
theorem TH {k:FK}:∀ (chk:List Nat) (fr:Fr) (σ:AHeap),I6 P all chk k fr σ→∃ fr2,FEq fr2 fr∧k fr2 σ∧∀ q∈chk,∀ oq,all[q]?=some oq→TK all oq fr=some false∨(TK all oq fr=some true∧∃ d σ'',oq.dst=some d∧I7 P (R9 fr) oq σ=some (B4 fr d,σ''))
 | [],fr,σ,h=>⟨fr,fun _=>rfl,h,fun q hq=>by simp at hq⟩
 | q::qs,fr,σ,h=>by
   simp only [I6] at h
   split at h
   ·exact h.elim
   ·rename_i o ho
    obtain ⟨wb,fr',hw,hfe,h⟩:=YV h
    cases wb with
    | false =>
      simp only [Bool.false_eq_true,if_false] at h
      obtain ⟨fr2,e1,e2,e3⟩:=TH qs fr' σ h
      refine ⟨fr2,fun t=>(e1 t).trans (hfe t),e2,fun q' hq' oq hoq=>?_⟩
      rcases List.mem_cons.1 hq' with rfl | hq'
      ·rw [ho] at hoq; cases hoq; exact .inl hw
      ·have:=e3 q' hq' oq hoq
       rw [VI (fr':=fr) (fun t _=>hfe t),hfe.ev] at this
       rcases this with h1 | ⟨h1,d,σ'',h2,h3⟩
       ·exact .inl h1
       ·exact .inr ⟨h1,d,σ'',h2,by rw [← hfe d]; exact h3⟩
    | true =>
      simp only [if_true] at h
      split at h
      ·rename_i v σ'' d hv hd
       obtain ⟨hb,h⟩:=h
       obtain ⟨fr2,e1,e2,e3⟩:=TH qs fr' σ h
       refine ⟨fr2,fun t=>(e1 t).trans (hfe t),e2,fun q' hq' oq hoq=>?_⟩
       rcases List.mem_cons.1 hq' with rfl | hq'
       ·rw [ho] at hoq; cases hoq
        refine .inr ⟨hw,d,σ'',hd,?_⟩
        rw [← hfe.ev,hv,t9 hb,hfe d]
       ·have:=e3 q' hq' oq hoq
        rw [VI (fr':=fr) (fun t _=>hfe t),hfe.ev] at this
        rcases this with h1 | ⟨h1,d,σ'',h2,h3⟩
        ·exact .inl h1
        ·exact .inr ⟨h1,d,σ'',h2,by rw [← hfe d]; exact h3⟩
      ·exact h.elim
theorem Bef.lt (hE:S9 all=true) {j i:Nat} (h:Bef all j i):j<i:=by
 have key:∀ i o e,all[i]?=some o→e∈o.after.toList→Region.binds .any e=true→e.on<i:=by
  intro i o e ho he hb
  have hlt:=(List.getElem?_eq_some_iff.1 ho).1
  have:=List.all_eq_true.1 hE i (List.mem_range.2 hlt)
  rw [ho] at this
  have:=List.all_eq_true.1 this e he
  rw [hb] at this
  simpa using this
 induction h with
 | edge i o e ho he hb=>exact key i o e ho he hb
 | trans i j o e ho he hb _ ih=>exact Nat.lt_trans ih (key i o e ho he hb)
def GF (P:Program) (all:List Oper) (pre:List Nat) (fr0 fr:Fr) (σ:AHeap) (q:Nat) (oq:Oper):Prop :=
 ∃ frq d,oq.dst=some d∧(∀ t∈II all oq,(∃ k ok,k∈pre∧all[k]?=some ok∧ok.dst=some t∧XS (HV all []) k q=true)→B4 frq t=B4 fr t)∧(∀ t∈II all oq,(¬ ∃ k ok,k∈pre∧all[k]?=some ok∧ok.dst=some t∧XS (HV all []) k q=true)→B4 frq t=B4 fr0 t)∧((TK all oq frq=some true∧I7 P (R9 frq) oq σ=some (B4 fr d,σ))∨(TK all oq frq=some false∧B4 fr d=C7))
structure PT (P:Program) (C:Cx) (all:List Oper) (pre:List Nat) (fr0 fr:Fr) (σ:AHeap) (ρ:List RB) (S:Nat→Prop) (a:Act):Prop where
 sub:∀ i,S i→i∈pre
 spine:∀ i o,i∈pre→all[i]?=some o→EG o.op=false→S i
 closed:ABB all S
 f1:∀ k ok t,S k→all[k]?=some ok→ok.dst=some t→VR ρ (B4 fr t) (a.tmps.getD t undef)
 f2:∀ t,(∀ k ok,S k→all[k]?=some ok→ok.dst≠some t)→VR ρ (B4 fr0 t) (a.tmps.getD t undef)
 f3:∀ t,(∀ k ok,k∈pre→all[k]?=some ok→ok.dst≠some t)→B4 fr t=B4 fr0 t
 dis:∀ k k' ok ok' t,k∈pre→k'∈pre→all[k]?=some ok→all[k']?=some ok'→ok.dst=some t→ok'.dst=some t→k=k'
 pw:∀ k q ok oq t,k∈pre→q∈pre→k≠q→all[k]?=some ok→all[q]?=some oq→ok.dst=some t→t∈II all oq→XS (HV all []) k q=true∨XS (HV all []) q k=true
 kp:E7 C a
 dst:∀ k ok d,k∈pre→all[k]?=some ok→ok.dst=some d→C.ok d
 flt:∀ k ok,k∈pre→all[k]?=some ok→EG ok.op=true→ok.dst≠none
 ins:∀ k,k∈pre→∃ ok,all[k]?=some ok
 g:∀ q oq,q∈pre→¬ S q→all[q]?=some oq→GF P all pre fr0 fr σ q oq
theorem CG {b:List Nat} {chk:List Nat} {k i:Nat} {ok o:Oper} (h:iR all b chk k i ok o=true) :
 k≠i∧XS b i k=false∧(∀ d d',ok.dst=some d→o.dst=some d'→d≠d')∧(∀ d,ok.dst=some d→d∈II all o→XS b k i=true)∧(∀ d,o.dst=some d→d∈II all ok→XS b k i=true)∧(EG o.op=false→XE ok.op=true→XS b k i=false→k∈chk):=by
 unfold iR at h
 simp only [Bool.and_eq_true,Bool.not_eq_true',Bool.or_eq_true] at h
 obtain ⟨⟨⟨⟨⟨h1,h2⟩,h3⟩,h4⟩,h5⟩,h7⟩:=h
 refine ⟨fun e=>by subst e; simp at h1,h2,fun d d' hd hd' e=>?_,fun d hd hm=>?_,fun d hd hm=>?_,fun hf hr hb=>?_⟩
 ·rw [hd,hd'] at h3; subst e; simp at h3
 ·rw [hd] at h4
  rcases (by simpa using h4:d∉II all o∨XS b k i=true) with h | h
  ·exact absurd hm h
  ·exact h
 ·rw [hd] at h5
  rcases (by simpa using h5:d∉II all ok∨XS b k i=true) with h | h
  ·exact absurd hm h
  ·exact h
 ·rcases h7 with ((h | h) | h) | h
  ·rw [hf] at h; cases h
  ·rw [hr] at h; cases h
  ·rw [hb] at h; cases h
  ·simpa using h
theorem U7 {b:List Nat} {pre:List Nat} {i:Nat} {chk:List Nat} {post:List (Nat×List Nat)} (h:qT C.N C.Lp all b pre ((i,chk)::post)=true) :
 ∃ o,all[i]?=some o∧(∀ d,o.dst=some d→C.ok d)∧(EG o.op=true→o.dst≠none∧chk=[])∧(∀ k∈pre,∃ ok,all[k]?=some ok∧iR all b chk k i ok o=true)∧(∀ q∈chk,w8 all b (i::pre) q=true∧q≠i)∧qT C.N C.Lp all b (i::pre) post=true:=by
 simp only [qT] at h
 split at h
 ·cases h
 ·rename_i o ho
  simp only [Bool.and_eq_true,List.all_eq_true,Bool.or_eq_true,Bool.not_eq_true'] at h
  obtain ⟨⟨⟨⟨⟨h1,h2⟩,h3⟩,h4⟩,h5⟩,h6⟩:=h
  refine ⟨o,ho,SQ h1,fun hf=>?_,fun k hk=>?_,fun q hq=>⟨h4 q hq,fun e=>?_⟩,h6⟩
  ·rcases h2 with h2 | h2
   ·rw [hf] at h2; cases h2
   ·exact ⟨fun e=>by rw [e] at h2; simp at h2,by simpa using h2.2⟩
  ·have:=h3 k hk
   split at this
   ·rename_i ok hok; exact ⟨ok,hok,this⟩
   ·cases this
  ·have:=h5 q hq
   subst e
   simp at this
theorem yE {b:List Nat} {pre:List Nat} {q:Nat} (h:w8 all b pre q=true):∃ oq,all[q]?=some oq∧EG oq.op=true∧q∈pre∧∀ k∈pre,∀ ok d,all[k]?=some ok→ok.dst=some d→d∈II all oq→XS b k q=true:=by
 unfold w8 at h
 split at h
 ·cases h
 ·rename_i oq hoq
  simp only [Bool.and_eq_true,List.all_eq_true] at h
  obtain ⟨⟨⟨h1,h2⟩,h3⟩,h4⟩:=h
  refine ⟨oq,hoq,h1,by simpa using h3,fun k hk ok d hok hd hm=>?_⟩
  have:=h4 k hk
  rw [hok] at this
  simp only [hd] at this
  rcases (by simpa using this:d∉II all oq∨XS b k q=true) with h | h
  ·exact absurd hm h
  ·exact h
theorem PT.advance (hE:S9 all=true) {pre:List Nat} {fr0 fr:Fr} {σ:AHeap} {ρ:List RB} {S:Nat→Prop} {a:Act} {i:Nat} {chk:List Nat} {post:List (Nat×List Nat)} {kn:FK} {o:Oper}
 (h:PT P C all pre fr0 fr σ ρ S a) (hc:qT C.N C.Lp all (HV all []) pre ((i,chk)::post)=true) (ho:all[i]?=some o) (hf:EG o.op=true)
 (hx:ND P all kp ((i,chk)::post) kn fr σ):∃ fr',PT P C all (i::pre) fr0 fr' σ ρ S a∧ND P all kp post kn fr' σ:=by
 obtain ⟨o',ho',hdN,hflt,hpair,_,_⟩:=U7 hc
 rw [ho] at ho'; cases ho'
 obtain ⟨hdn,rfl⟩:=hflt hf
 obtain ⟨d,hd⟩:∃ d,o.dst=some d:=by cases h:o.dst with | none=>exact absurd h hdn | some d=>exact ⟨d,rfl⟩
 have hiS:¬ S i:=fun hs=>by
  obtain ⟨ok,_,hp⟩:=hpair i (h.sub i hs)
  exact (CG hp).1 rfl
 have hipre:i∉pre:=fun hs=>by
  obtain ⟨ok,_,hp⟩:=hpair i hs
  exact (CG hp).1 rfl
 simp only [ND,ho] at hx
 obtain ⟨wb,fr1,hw,hfe,hx2⟩:=YV hx
 clear hx
 -- the value that is put
 have hval:∃ v,((wb=true∧I7 P (R9 fr) o σ=some (v,σ))∨(wb=false∧v=C7))∧ND P all kp post kn (H6 fr1 o.dst v) σ:=by
  cases wb with
  | false=>exact ⟨C7,.inr ⟨rfl,rfl⟩,by simpa using hx2⟩
  | true =>
    simp only [if_true] at hx2
    obtain ⟨K0,hx2,hx3⟩:=hx2
    obtain ⟨v,h1,h2⟩:=sL hf hx2
    rw [hfe.ev] at h1
    exact ⟨v,.inl ⟨rfl,h1⟩,hx3 v σ h2⟩
 obtain ⟨v,hv,hx⟩:=hval
 refine ⟨_,?_,hx⟩
 have hget:∀ t,B4 (H6 fr1 o.dst v) t=if t=d then v else B4 fr t:=by
  intro t
  rw [hd]
  simp only [H6,H1,hfe t]
 have hne:∀ k ok t,k∈pre→all[k]?=some ok→ok.dst=some t→t≠d:=by
  intro k ok t hk hok hkt e
  obtain ⟨ok',hok',hp⟩:=hpair k hk
  rw [hok] at hok'; cases hok'
  exact (CG hp).2.2.1 t d hkt hd e
 refine ⟨fun k hk=>List.mem_cons_of_mem _ (h.sub k hk),fun k ok hk hok hfk=>?_,h.closed,fun k ok t hk hok hkt=>?_,h.f2,fun t ht=>?_,?_,?_,h.kp,?_,?_,?_,?_⟩
 ·rcases List.mem_cons.1 hk with rfl | hk
  ·rw [ho] at hok; cases hok; rw [hf] at hfk; cases hfk
  ·exact h.spine k ok hk hok hfk
 ·rw [hget,if_neg (hne k ok t (h.sub k hk) hok hkt)]
  exact h.f1 k ok t hk hok hkt
 ·rw [hget,if_neg (fun e=>ht i o (by simp) ho (by rw [hd,e]))]
  exact h.f3 t fun k ok hk hok=>ht k ok (by simp [hk]) hok
 ·intro k k' ok ok' t hk hk' hok hok' hkt hkt'
  rcases List.mem_cons.1 hk with rfl | hk2<;>rcases List.mem_cons.1 hk' with rfl | hk2'
  ·rfl
  ·rw [ho] at hok; cases hok
   rw [hd] at hkt; cases hkt
   exact absurd rfl (hne k' ok' _ hk2' hok' hkt')
  ·rw [ho] at hok'; cases hok'
   rw [hd] at hkt'; cases hkt'
   exact absurd rfl (hne k ok _ hk2 hok hkt)
  ·exact h.dis k k' ok ok' t hk2 hk2' hok hok' hkt hkt'
 ·intro k q ok oq t hk hq hkq hok hoq hkt hm
  rcases List.mem_cons.1 hk with rfl | hk2<;>rcases List.mem_cons.1 hq with rfl | hq2
  ·exact absurd rfl hkq
  ·rw [ho] at hok; cases hok
   obtain ⟨oq',hoq',hp⟩:=hpair q hq2
   rw [hoq] at hoq'; cases hoq'
   exact .inr ((CG hp).2.2.2.2.1 t hkt hm)
  ·rw [ho] at hoq; cases hoq
   obtain ⟨ok',hok',hp⟩:=hpair k hk2
   rw [hok] at hok'; cases hok'
   exact .inl ((CG hp).2.2.2.1 t hkt hm)
  ·exact h.pw k q ok oq t hk2 hq2 hkq hok hoq hkt hm
 ·intro k ok d' hk hok hkd
  rcases List.mem_cons.1 hk with rfl | hk
  ·rw [ho] at hok; cases hok; exact hdN d' hkd
  ·exact h.dst k ok d' hk hok hkd
 ·intro k ok hk hok hfk
  rcases List.mem_cons.1 hk with rfl | hk
  ·rw [ho] at hok; cases hok; exact hdn
  ·exact h.flt k ok hk hok hfk
 ·intro k hk
  rcases List.mem_cons.1 hk with rfl | hk
  ·exact ⟨o,ho⟩
  ·exact h.ins k hk
 ·intro q oq hq hqS hoq
  rcases List.mem_cons.1 hq with rfl | hq
  ·rw [ho] at hoq; cases hoq
   refine ⟨fr,d,hd,fun t ht hex=>?_,fun t ht hex=>?_,?_⟩
   ·obtain ⟨k,ok,hk,hok,hkt,hb⟩:=hex
    rcases List.mem_cons.1 hk with rfl | hk
    ·exact absurd ((SI hb).lt hE) (Nat.lt_irrefl _)
    ·rw [hget,if_neg (hne k ok t hk hok hkt)]
   ·refine h.f3 t fun k ok hk hok hkt=>hex ⟨k,ok,by simp [hk],hok,hkt,?_⟩
    obtain ⟨ok',hok',hp⟩:=hpair k hk
    rw [hok] at hok'; cases hok'
    exact (CG hp).2.2.2.1 t hkt ht
   ·rw [hget,if_pos rfl]
    rcases hv with ⟨rfl,hv⟩ | ⟨rfl,hv⟩
    ·exact .inl ⟨hw,hv⟩
    ·exact .inr ⟨hw,hv⟩
  ·obtain ⟨frq,dq,hdq,g1,g2,g3⟩:=h.g q oq hq hqS hoq
   obtain ⟨oq',hoq',hp⟩:=hpair q hq
   rw [hoq] at hoq'; cases hoq'
   have hnb:¬ XS (HV all []) i q=true:=fun hh=>by
    have:=(CG hp).2.1
    rw [hh] at this; cases this
   refine ⟨frq,dq,hdq,fun t ht hex=>?_,fun t ht hex=>?_,?_⟩
   ·obtain ⟨k,ok,hk,hok,hkt,hb⟩:=hex
    rcases List.mem_cons.1 hk with rfl | hk
    ·exact absurd hb hnb
    ·rw [hget,if_neg (hne k ok t hk hok hkt)]
     exact g1 t ht ⟨k,ok,hk,hok,hkt,hb⟩
   ·exact g2 t ht fun ⟨k,ok,hk,hok,hkt,hb⟩=>hex ⟨k,ok,by simp [hk],hok,hkt,hb⟩
   ·rw [hget,if_neg (hne q oq dq hq hoq hdq)]
    exact g3
theorem AAe {o:Oper} {ev:Operand→Value} {σ:AHeap} {ρ:List RB} {w:World} {a:Act} {v:Value} {next:Act→World→Prop} {Q:Exit→Act→World→Prop}
 (hev:∀ x∈o.op.operands,VR ρ (ev x) (a.eval x)) (h:CF B w0 ρ σ w) (hf:EG o.op=true) (hv:I7 P ev o σ=some (v,σ))
 (hk:∀ ρ' v' w',EJ ρ ρ'→CF B w0 ρ' σ w'→VR ρ' v v'→next (a.put o.dst v') w'):o.wp P a w next Q:=by
 have hex:∃ ev':Operand→Value,(∀ x∈o.op.operands,ev x=ev' x)∧∀ x,VR ρ (ev' x) (a.eval x):=by
  classical
  refine ⟨fun x=>if x∈o.op.operands then ev x else undef,fun x hx=>(if_pos hx).symm,fun x=>?_⟩
  simp only
  split
  ·rename_i hx; exact hev x hx
  ·exact .dead _
 obtain ⟨ev',he1,he2⟩:=hex
 rw [bO he1] at hv
 obtain ⟨n,w',ρ',v',e1,e2,e3,e4,e5⟩:=lF h he2 hv
 unfold Oper.wp
 rw [e1]
 have hfin:=hk ρ' v' w' e3 e4 e5
 rcases e2 with rfl | ⟨rfl,rfl⟩
 ·exact hfin
 ·exact hfin
theorem PT.floatStep {pre:List Nat} {fr0 fr:Fr} {σ:AHeap} {ρ:List RB} {S:Nat→Prop} {a:Act} {w:World} {i:Nat} {o:Oper} {Q:Exit→Act→World→Prop} {Kn:Act→World→Prop} (hkp:KP B w0 C ρ kp Q)
 (h:PT P C all pre fr0 fr σ ρ S a) (hr:CF B w0 ρ σ w) (hi:i∈pre) (hiS:¬ S i) (ho:all[i]?=some o) (hready:∀ e∈o.after.toList,Region.binds .any e=true→S e.on)
 (hK:∀ ρ' a' w',PT P C all pre fr0 fr σ ρ' (fun j=>j=i∨S j) a'→EJ ρ ρ'→CF B w0 ρ' σ w'→Kn a' w'):wpOp P all.toArray Q i Kn a w:=by
 have hfl:EG o.op=true:=by
  cases hf:EG o.op with
  | true=>rfl
  | false=>exact absurd (h.spine i o hi ho hf) hiS
 obtain ⟨frq,d,hd,g1,g2,g3⟩:=h.g i o hi hiS ho
 have hbefS:∀ k,XS (HV all []) k i=true→S k:=fun k hb=>(SI hb).closed h.closed fun o' ho'=>by rw [ho] at ho'; cases ho'; exact hready
 -- what it II at stands for what the machine has there
 have hv:∀ t∈II all o,VR ρ (B4 frq t) (a.tmps.getD t undef):=by
  intro t ht
  by_cases hex:∃ k ok,k∈pre∧all[k]?=some ok∧ok.dst=some t∧XS (HV all []) k i=true
  ·rw [g1 t ht hex]
   obtain ⟨k,ok,hk,hok,hkt,hb⟩:=hex
   exact h.f1 k ok t (hbefS k hb) hok hkt
  ·rw [g2 t ht hex]
   refine h.f2 t fun k ok hk hok hkt=>?_
   have hki:k≠i:=fun e=>hiS (e▸hk)
   rcases h.pw k i ok o t (h.sub k hk) hi hki hok ho hkt ht with hb | hb
   ·exact hex ⟨k,ok,h.sub k hk,hok,hkt,hb⟩
   ·exact hiS ((SI hb).closed h.closed fun o' ho'=>h.closed k o' ho' hk)
 have hdN:=h.dst i o d hi ho hd
 -- behind it
 have hnext:∀ ρ' v',EJ ρ ρ'→VR ρ' (B4 fr d) v'→PT P C all pre fr0 fr σ ρ' (fun j=>j=i∨S j) (a.put o.dst v'):=by
  intro ρ' v' he hvv
  have hput:∀ t,(a.put o.dst v').tmps.getD t undef=if t=d then v' else a.tmps.getD t undef:=by
   intro t
   rw [hd]
   simp only [Act.put,Array.getD_eq_getD_getElem?,Array.getElem?_setIfInBounds]
   by_cases htd:t=d
   ·subst htd
    have:t<a.tmps.size:=by rw [h.kp.size]; exact hdN.1
    simp [this]
   ·rw [if_neg (fun e=>htd e.symm),if_neg htd]
  refine ⟨fun j hj=>?_,fun j ok hj hok hf=>.inr (h.spine j ok hj hok hf),fun j oj hoj hj e he hb=>?_,fun k ok t hk hok hkt=>?_,fun t ht=>?_,h.f3,h.dis,h.pw,?_,h.dst,h.flt,h.ins,fun q oq hq hqS hoq=>h.g q oq hq (fun hs=>hqS (.inr hs)) hoq⟩
  ·rcases hj with rfl | hj
   ·exact hi
   ·exact h.sub j hj
  ·rcases hj with rfl | hj
   ·rw [ho] at hoj; cases hoj; exact .inr (hready e he hb)
   ·exact .inr (h.closed j oj hoj hj e he hb)
  ·rw [hput]
   split
   ·rename_i htd; subst htd; exact hvv
   ·rename_i htd
    rcases hk with rfl | hk
    ·rw [ho] at hok; cases hok; rw [hd] at hkt; cases hkt; exact absurd rfl htd
    ·exact (h.f1 k ok t hk hok hkt).mono he
  ·rw [hput,if_neg (fun e=>ht i o (.inl rfl) ho (by rw [hd,e]))]
   exact (h.f2 t fun k ok hk hok=>ht k ok (.inr hk) hok).mono he
  ·exact h.kp.put fun d' hd'=>by rw [hd] at hd'; cases hd'; exact hdN
 unfold wpOp
 have hoa:all.toArray[i]?=some o:=by simpa using ho
 rw [hoa]
 simp only
 rcases g3 with ⟨hw,hval⟩ | ⟨hw,hval⟩
 ·rw [if_pos (WM hw hv)]
  left
  refine AAe (ev:=R9 frq) (fun x hx=>?_) hr hfl hval fun ρ' v' w' e1 e2 e3=>?_
  ·cases x with
   | tmp t=>exact hv t (QY hx)
   | const c=>exact (FR.ev (C:=⟨a.tmps.size,a.defers,[],fun _=>undef⟩) (a:=a) (fr:=.leaf) ⟨fun t=>by rw [WE]; exact .dead _,rfl,rfl,fun t ht=>by simp at ht⟩ (.const c))
   | func f=>exact .func _ _ _ _ _ rfl rfl (fun i v v' x=>by simp at x) (fun i v v' x=>by simp at x)
   | global g=>exact .dead _
  ·exact hK ρ' _ w' (hnext ρ' v' e1 e3) e1 e2
 ·rw [if_neg (by rw [WM hw hv]; simp)]
  exact hK ρ _ w (hnext ρ undef (EJ.refl _) (by rw [hval]; exact .skp)) (EJ.refl _) hr
theorem PT.spineStep (hE:S9 all=true) {pre:List Nat} {fr0 fr:Fr} {σ:AHeap} {ρ:List RB} {S:Nat→Prop} {a:Act} {w:World} {i:Nat} {chk:List Nat} {post:List (Nat×List Nat)} {o:Oper} {Q:Exit→Act→World→Prop} {Kn:Act→World→Prop}
 {kn:FK} (hkp:KP B w0 C ρ kp Q)
 (h:PT P C all pre fr0 fr σ ρ S a) (hr:CF B w0 ρ σ w) (hc:qT C.N C.Lp all (HV all []) pre ((i,chk)::post)=true) (ho:all[i]?=some o) (hfl:EG o.op=false)
 (hready:∀ e∈o.after.toList,Region.binds .any e=true→S e.on)
 (hx:ND P all kp ((i,chk)::post) kn fr σ)
 (hK:∀ ρ' fr' σ' a' w',PT P C all (i::pre) fr0 fr' σ' ρ' (fun j=>j=i∨S j) a'→EJ ρ ρ'→CF B w0 ρ' σ' w'→ND P all kp post kn fr' σ'→Kn a' w') :
 wpOp P all.toArray Q i Kn a w:=by
 obtain ⟨o',ho',hdN,_,hpair,hchk,_⟩:=U7 hc
 rw [ho] at ho'; cases ho'
 have hipre:i∉pre:=fun hs=>by
  obtain ⟨ok,_,hp⟩:=hpair i hs
  exact (CG hp).1 rfl
 have hiS:¬ S i:=fun hs=>hipre (h.sub i hs)
 have hbefS:∀ k,XS (HV all []) k i=true→S k:=fun k hb=>(SI hb).closed h.closed fun o' ho'=>by rw [ho] at ho'; cases ho'; exact hready
 have hpo:∀ k∈pre,∀ ok,all[k]?=some ok→iR all (HV all []) chk k i ok o=true:=fun k hk ok hok=>by
  obtain ⟨ok',hok',hp⟩:=hpair k hk
  rw [hok] at hok'; cases hok'; exact hp
 have hv:∀ t∈II all o,VR ρ (B4 fr t) (a.tmps.getD t undef):=by
  intro t ht
  by_cases hex:∃ k ok,S k∧all[k]?=some ok∧ok.dst=some t
  ·obtain ⟨k,ok,hk,hok,hkt⟩:=hex
   exact h.f1 k ok t hk hok hkt
  ·rw [h.f3 t fun k ok hk hok hkt=>hex ⟨k,ok,hbefS k ((CG (hpo k hk ok hok)).2.2.2.1 t hkt ht),hok,hkt⟩]
   exact h.f2 t fun k ok hk hok hkt=>hex ⟨k,ok,hk,hok,hkt⟩
 simp only [ND,ho] at hx
 obtain ⟨wb,fr1,hw,hfe,hx2⟩:=YV hx
 clear hx
 -- behind it: a value is put; the heap may have turned
 have hnext:∀ (v v':Value) σ' ρ' fr2,EJ ρ ρ'→VR ρ' v v'→FEq fr2 (H6 fr1 o.dst v)→(∀ q oq,q∈pre→¬ (q=i∨S q)→all[q]?=some oq→∀ frq d,oq.dst=some d→(∀ t∈II all oq,(∃ k ok,k∈pre∧all[k]?=some ok∧ok.dst=some t∧XS (HV all []) k q=true)→B4 frq t=B4 fr t)→(∀ t∈II all oq,(¬ ∃ k ok,k∈pre∧all[k]?=some ok∧ok.dst=some t∧XS (HV all []) k q=true)→B4 frq t=B4 fr0 t)→TK all oq frq=some true→I7 P (R9 frq) oq σ=some (B4 fr d,σ)→I7 P (R9 frq) oq σ'=some (B4 fr d,σ'))→PT P C all (i::pre) fr0 fr2 σ' ρ' (fun j=>j=i∨S j) (a.put o.dst v'):=by
  intro v v' σ' ρ' fr2 he hvv hf2 hG
  have hget:∀ t,B4 fr2 t=match o.dst with | some d=>if t=d then v else B4 fr t | none=>B4 fr t:=by
   intro t
   rw [hf2 t]
   cases hd:o.dst with
   | none=>exact hfe t
   | some d=>simp only [H6,H1,hfe t]
  have hgetN:∀ t,o.dst≠some t→B4 fr2 t=B4 fr t:=by
   intro t ht
   rw [hget t]
   cases hd:o.dst with
   | none=>rfl
   | some d=>simp only; rw [if_neg (fun e=>ht (by rw [hd,e]))]
  have hput:∀ t,(a.put o.dst v').tmps.getD t undef=if o.dst=some t then v' else a.tmps.getD t undef:=by
   intro t
   cases hd:o.dst with
   | none=>simp [Act.put]
   | some d =>
     simp only [Act.put,Array.getD_eq_getD_getElem?,Array.getElem?_setIfInBounds]
     by_cases htd:d=t
     ·subst htd
      have:d<a.tmps.size:=by rw [h.kp.size]; exact (hdN d hd).1
      simp [this]
     ·rw [if_neg htd,if_neg (fun e=>htd (by cases e; rfl))]
  have hne:∀ k ok t,k∈pre→all[k]?=some ok→ok.dst=some t→o.dst≠some t:=by
   intro k ok t hk hok hkt e
   exact (CG (hpo k hk ok hok)).2.2.1 t t hkt e rfl
  refine ⟨fun j hj=>?_,fun j ok hj hok hf=>?_,fun j oj hoj hj e he' hb=>?_,fun k ok t hk hok hkt=>?_,fun t ht=>?_,fun t ht=>?_,?_,?_,?_,?_,?_,?_,?_⟩
  ·rcases hj with rfl | hj
   ·simp
   ·exact List.mem_cons_of_mem _ (h.sub j hj)
  ·rcases List.mem_cons.1 hj with rfl | hj
   ·exact .inl rfl
   ·exact .inr (h.spine j ok hj hok hf)
  ·rcases hj with rfl | hj
   ·rw [ho] at hoj; cases hoj; exact .inr (hready e he' hb)
   ·exact .inr (h.closed j oj hoj hj e he' hb)
  ·rcases hk with rfl | hk
   ·rw [ho] at hok; cases hok
    rw [hput,if_pos hkt,hget,hkt]
    simp only [if_true]
    exact hvv
   ·have hn:=hne k ok t (h.sub k hk) hok hkt
    rw [hput,if_neg hn,hgetN t hn]
    exact (h.f1 k ok t hk hok hkt).mono he
  ·rw [hput,if_neg (ht i o (.inl rfl) ho)]
   exact (h.f2 t fun k ok hk hok=>ht k ok (.inr hk) hok).mono he
  ·rw [hgetN t (ht i o (by simp) ho)]
   exact h.f3 t fun k ok hk hok=>ht k ok (by simp [hk]) hok
  ·intro k k' ok ok' t hk hk' hok hok' hkt hkt'
   rcases List.mem_cons.1 hk with rfl | hk2<;>rcases List.mem_cons.1 hk' with rfl | hk2'
   ·rfl
   ·rw [ho] at hok; cases hok
    exact absurd hkt (hne k' ok' t hk2' hok' hkt')
   ·rw [ho] at hok'; cases hok'
    exact absurd hkt' (hne k ok t hk2 hok hkt)
   ·exact h.dis k k' ok ok' t hk2 hk2' hok hok' hkt hkt'
  ·intro k q ok oq t hk hq hkq hok hoq hkt hm
   rcases List.mem_cons.1 hk with rfl | hk2<;>rcases List.mem_cons.1 hq with rfl | hq2
   ·exact absurd rfl hkq
   ·rw [ho] at hok; cases hok
    exact .inr ((CG (hpo q hq2 oq hoq)).2.2.2.2.1 t hkt hm)
   ·rw [ho] at hoq; cases hoq
    exact .inl ((CG (hpo k hk2 ok hok)).2.2.2.1 t hkt hm)
   ·exact h.pw k q ok oq t hk2 hq2 hkq hok hoq hkt hm
  ·exact h.kp.put hdN
  ·intro k ok d' hk hok hkd
   rcases List.mem_cons.1 hk with rfl | hk
   ·rw [ho] at hok; cases hok; exact hdN d' hkd
   ·exact h.dst k ok d' hk hok hkd
  ·intro k ok hk hok hfk
   rcases List.mem_cons.1 hk with rfl | hk
   ·rw [ho] at hok; cases hok; rw [hfl] at hfk; cases hfk
   ·exact h.flt k ok hk hok hfk
  ·intro k hk
   rcases List.mem_cons.1 hk with rfl | hk
   ·exact ⟨o,ho⟩
   ·exact h.ins k hk
  ·intro q oq hq hqS hoq
   rcases List.mem_cons.1 hq with rfl | hq
   ·exact absurd (.inl rfl) hqS
   ·obtain ⟨frq,dq,hdq,g1,g2,g3⟩:=h.g q oq hq (fun hs=>hqS (.inr hs)) hoq
    have hnb:¬ XS (HV all []) i q=true:=fun hh=>by
     have:=(CG (hpo q hq oq hoq)).2.1
     rw [hh] at this; cases this
    refine ⟨frq,dq,hdq,fun t ht hex=>?_,fun t ht hex=>?_,?_⟩
    ·obtain ⟨k,ok,hk,hok,hkt,hb⟩:=hex
     rcases List.mem_cons.1 hk with rfl | hk
     ·exact absurd hb hnb
     ·rw [hgetN t (hne k ok t hk hok hkt)]
      exact g1 t ht ⟨k,ok,hk,hok,hkt,hb⟩
    ·exact g2 t ht fun ⟨k,ok,hk,hok,hkt,hb⟩=>hex ⟨k,ok,by simp [hk],hok,hkt,hb⟩
    ·rw [hgetN dq (hne q oq dq hq hoq hdq)]
     rcases g3 with ⟨h1,h2⟩ | h2
     ·exact .inl ⟨h1,hG q oq hq hqS hoq frq dq hdq g1 g2 h1 h2⟩
     ·exact .inr h2
 unfold wpOp
 have hoa:all.toArray[i]?=some o:=by simpa using ho
 rw [hoa]
 simp only
 cases wb with
 | false =>
   rw [if_neg (by rw [WM hw hv]; simp)]
   simp only [Bool.false_eq_true,if_false] at hx2
   exact hK ρ _ σ _ w (hnext C7 undef σ ρ _ (EJ.refl _) .skp (fun _=>rfl) fun q oq hq hqS hoq frq d hd g1 g2 h1 h2=>h2) (EJ.refl _) hr hx2
 | true =>
   rw [if_pos (WM hw hv)]
   left
   simp only [if_true] at hx2
   obtain ⟨K0,hx2,hx3⟩:=hx2
   rw [hfe.ev] at hx2
   refine X8 (C:=C) (ev:=R9 fr) (fun x hx=>?_) hr hx2 (fun v σ' ρ' v' w' hm e1 e2 e3=>?_) hkp h.kp
   ·cases x with
    | tmp t=>exact hv t (QY hx)
    | const c=>exact (FR.ev (C:=⟨a.tmps.size,a.defers,[],fun _=>undef⟩) (a:=a) (fr:=.leaf) ⟨fun t=>by rw [WE]; exact .dead _,rfl,rfl,fun t ht=>by simp at ht⟩ (.const c))
    | func f=>exact .func _ _ _ _ _ rfl rfl (fun i v v' x=>by simp at x) (fun i v v' x=>by simp at x)
    | global g=>exact .dead _
   ·obtain ⟨fr2,f1,f2,f3⟩:=TH chk _ _ (hx3 v σ' hm)
    refine hK ρ' fr2 σ' _ w' (hnext v v' σ' ρ' fr2 e1 e3 f1 ?_) e1 e2 f2
    intro q oq hq hqS hoq frq d hd g1 g2 h1 h2
    cases hqq:RA oq.op with
    | true=>exact ABX σ' hqq h2
    | false =>
      have hqf:EG oq.op=true:=by
       cases hf:EG oq.op with
       | true=>rfl
       | false=>exact absurd (h.spine q oq hq hoq hf) fun hs=>hqS (.inr hs)
      have hqr:XE oq.op=true:=by
       unfold EG at hqf
       rw [hqq] at hqf
       simpa using hqf
      have hnb:XS (HV all []) q i=false:=by
       cases hb:XS (HV all []) q i with
       | false=>rfl
       | true=>exact absurd (hbefS q hb) fun hs=>hqS (.inr hs)
      have hqc:=(CG (hpo q hq oq hoq)).2.2.2.2.2 hfl hqr hnb
      obtain ⟨oq',hoq',_,_,hwr⟩:=yE (hchk q hqc).1
      rw [hoq] at hoq'; cases hoq'
      have hneD:∀ k ok t,k∈pre→all[k]?=some ok→ok.dst=some t→o.dst≠some t:=by
       intro k ok t hk hok hkt e
       exact (CG (hpo k hk ok hok)).2.2.1 t t hkt e rfl
      have hnb2:¬ XS (HV all []) i q=true:=fun hh=>by
       have:=(CG (hpo q hq oq hoq)).2.1
       rw [hh] at this; cases this
      -- the frame behind the operation shows the read what it saw
      have hsame:∀ t∈II all oq,B4 (H6 fr1 o.dst v) t=B4 frq t:=by
       intro t ht
       have hnd:o.dst≠some t:=fun e=>hnb2 (hwr i (by simp) o t ho e ht)
       have h0:B4 (H6 fr1 o.dst v) t=B4 fr t:=by
        cases hd:o.dst with
        | none=>exact hfe t
        | some d =>
          simp only [H6,H1]
          rw [if_neg (fun e=>hnd (by rw [hd,e]))]
          exact hfe t
       rw [h0]
       by_cases hex:∃ k ok,k∈pre∧all[k]?=some ok∧ok.dst=some t∧XS (HV all []) k q=true
       ·exact (g1 t ht hex).symm
       ·rw [g2 t ht hex]
        exact h.f3 t fun k ok hk hok hkt=>hex ⟨k,ok,hk,hok,hkt,hwr k (by simp [hk]) ok t hok hkt ht⟩
      rcases f3 q hqc oq hoq with hz | ⟨_,d',σ'',hd',hval⟩
      ·rw [VI hsame,h1] at hz; cases hz
      ·rw [hd] at hd'; cases hd'
       rw [bO (zG hsame)] at hval
       obtain rfl:=qQ (by unfold EG at hqf; exact hqf) hval
       have hdd:B4 (H6 fr1 o.dst v) d=B4 fr d:=by
        have hnd:=hneD q oq d hq hoq hd
        cases hd2:o.dst with
        | none=>exact hfe d
        | some d2 =>
          simp only [H6,H1]
          rw [if_neg (fun e=>hnd (by rw [hd2,e]))]
          exact hfe d
       rw [hdd] at hval
       exact hval
theorem AA5 (P:Program) (all:List Oper) (kp:WK) (i:Nat) (chk:List Nat) (t:DT) (kn:FK):mS P all kp (.step i chk t) kn=ND P all kp [(i,chk)] (mS P all kp t kn):=rfl
theorem fQ (P:Program) (all:List Oper) (kp:WK) (kn:FK):∀ l,ND P all kp l kn=mS P all kp (DT.ofList l) kn
 | []=>rfl
 | (i,chk)::l=>by
   funext fr σ
   simp only [ND,DT.ofList,mS,fQ P all kp kn l]
theorem xM {i:Nat} (h:cQ all i=true):∃ o,all[i]?=some o∧EG o.op=false:=by
 unfold cQ at h
 split at h
 ·rename_i o ho; exact ⟨o,ho,by simpa using h⟩
 ·cases h
def O2 (all:List Oper) (t:DT):Prop:=∀ i∈t.heads,cQ all i=true
theorem PT.advanceAll (hE:S9 all=true) {fr0:Fr} {σ:AHeap} {ρ:List RB} {S:Nat→Prop} {a:Act} {kn:FK}:∀ (t:DT) (pre:List Nat) (fr:Fr),
 PT P C all pre fr0 fr σ ρ S a→QM C.N C.Lp all (HV all []) pre t=true→SN all (HV all []) pre t.heads t=true→mS P all kp t kn fr σ→∃ pre' t' fr',PT P C all pre' fr0 fr' σ ρ S a∧QM C.N C.Lp all (HV all []) pre' t'=true∧SN all (HV all []) pre' t'.heads t'=true∧mS P all kp t' kn fr' σ∧O2 all t'
 | .nil,pre,fr,h,hc,hv,hx=>⟨pre,.nil,fr,h,hc,hv,hx,fun i hi=>by simp [DT.heads] at hi⟩
 | .alt x y,pre,fr,h,hc,hv,hx=>by
   by_cases hh:O2 all (.alt x y)
   ·exact ⟨pre,_,fr,h,hc,hv,hx,hh⟩
   ·-- two heads at XL are heads that write
    rw [QM,Bool.and_eq_true] at hc
    rw [SN,Bool.and_eq_true] at hv
    by_cases hy:y.heads=[]
    ·-- one side is empty
     have hxh:(DT.alt x y).heads=x.heads:=by simp [DT.heads,hy]
     rw [hxh] at hv
     exact PT.advanceAll hE x pre fr h hc.1 hv.1 hx.1
    ·by_cases hx0:x.heads=[]
     ·have hyh:(DT.alt x y).heads=y.heads:=by simp [DT.heads,hx0]
      rw [hyh] at hv
      exact PT.advanceAll hE y pre fr h hc.2 hv.2 hx.2
     ·exfalso
      refine hh ?_
      have hlen:(DT.heads (.alt x y)).length≠1:=by
       intro this
       simp only [DT.heads,List.length_append] at this
       have h1:=List.length_pos_iff.2 hx0
       have h2:=List.length_pos_iff.2 hy
       omega
      have key:∀ (t:DT) (H:List Nat),H.length≠1→SN all (HV all []) pre H t=true→O2 all t:=by
       intro t
       induction t with
       | nil=>intro H _ _ i hi; simp [DT.heads] at hi
       | alt a b iha ihb =>
         intro H hH h i hi
         rw [SN,Bool.and_eq_true] at h
         rcases List.mem_append.1 hi with hi | hi
         ·exact iha H hH h.1 i hi
         ·exact ihb H hH h.2 i hi
       | step j chk t ih =>
         intro H hH h i hi
         simp only [DT.heads,List.mem_cons,List.not_mem_nil,or_false] at hi
         subst hi
         rw [SN,Bool.and_eq_true] at h
         cases hs:cQ all i with
         | true=>rfl
         | false =>
           rw [hs] at h
           exact absurd (Nat.eq_of_beq_eq_true h.1) hH
      intro i hi
      rcases List.mem_append.1 hi with hi | hi
      ·exact key x _ hlen hv.1 i hi
      ·exact key y _ hlen hv.2 i hi
 | .step i chk t,pre,fr,h,hc,hv,hx=>by
   have hc0:=hc
   rw [QM,Bool.and_eq_true] at hc
   obtain ⟨o,ho,_,_,_,_,_⟩:=U7 hc.1
   cases hf:EG o.op with
   | false=>exact ⟨pre,_,fr,h,hc0,hv,hx,fun j hj=>by
    simp only [DT.heads,List.mem_cons,List.not_mem_nil,or_false] at hj
    subst hj
    unfold cQ; rw [ho]; simp [hf]⟩
   | true =>
     rw [AA5] at hx
     obtain ⟨fr',h1,h2⟩:=h.advance hE hc.1 ho hf hx
     rw [SN,Bool.and_eq_true] at hv
     exact PT.advanceAll hE t (i::pre) fr' h1 hc.2 hv.2 h2
theorem xD {kn:FK} {fr:Fr} {σ:AHeap} {pre:List Nat} {i:Nat}:∀ (t:DT) (H:List Nat),i∈t.heads→QM C.N C.Lp all (HV all []) pre t=true→SN all (HV all []) pre H t=true→mS P all kp t kn fr σ→∃ chk t',qT C.N C.Lp all (HV all []) pre [(i,chk)]=true∧QM C.N C.Lp all (HV all []) (i::pre) t'=true∧SN all (HV all []) (i::pre) t'.heads t'=true∧ND P all kp [(i,chk)] (mS P all kp t' kn) fr σ
 | .nil,_,hi,_,_,_=>by simp [DT.heads] at hi
 | .alt x y,H,hi,hc,hv,hx=>by
   rw [QM,Bool.and_eq_true] at hc
   rw [SN,Bool.and_eq_true] at hv
   rcases List.mem_append.1 hi with hi | hi
   ·exact xD x H hi hc.1 hv.1 hx.1
   ·exact xD y H hi hc.2 hv.2 hx.2
 | .step j chk t,H,hi,hc,hv,hx=>by
   simp only [DT.heads,List.mem_cons,List.not_mem_nil,or_false] at hi
   subst hi
   rw [QM,Bool.and_eq_true] at hc
   rw [SN,Bool.and_eq_true] at hv
   exact ⟨chk,t,hc.1,hc.2,hv.2,hx⟩
theorem cU {b:List Nat} {pre:List Nat}:∀ (t:DT) (H:List Nat),O2 all t→SN all b pre H t=true→fH all b pre H=true
 | .nil,_,_,hv=>hv
 | .alt x y,H,hs,hv=>by
   rw [SN,Bool.and_eq_true] at hv
   exact cU x H (fun i hi=>hs i (List.mem_append.2 (.inl hi))) hv.1
 | .step j chk t,H,hs,hv=>by
   rw [SN,Bool.and_eq_true] at hv
   rw [hs j (by simp [DT.heads])] at hv
   exact hv.1
theorem qB {b:List Nat} {pre H:List Nat} (h:fH all b pre H=true) {j:Nat} (hj:j<all.length):j∈pre∨∃ s∈H,j=s∨XS b s j=true:=by
 have:=List.all_eq_true.1 h j (List.mem_range.2 hj)
 rw [Bool.or_eq_true,List.any_eq_true] at this
 rcases this with h | ⟨s,hs,h⟩
 ·exact .inl (by simpa using h)
 ·rw [Bool.or_eq_true] at h
  exact .inr ⟨s,hs,h.imp Nat.eq_of_beq_eq_true id⟩
theorem xC {kn:FK} {fr:Fr} {σ:AHeap}:∀ (t:DT),t.heads=[]→mS P all kp t kn fr σ→kn fr σ
 | .nil,_,h=>h
 | .alt x y,hh,h=>xC x (List.append_eq_nil_iff.1 hh).1 h.1
 | .step i chk t,hh,_=>by simp [DT.heads] at hh
end
end Go.Ax
namespace Go.Ax
open Go.RowKit
section
variable {P:Program} {B:Nat} {w0:World} {C:Cx} {all:List Oper} {kp:WK}
def unl (n:Nat) (listed:Array Bool):Nat:=((List.range n).filter fun i=>!listed.getD i false).length
theorem J5 {listed:Array Bool} {i:Nat} (hi:i<listed.size):listed.getD i true=listed.getD i false:=by
 simp [Array.getD_eq_getD_getElem?,hi]
theorem AEh {n:Nat} {listed:Array Bool} {i:Nat} (hn:listed.size=n) (hi:i<n) (hl:listed.getD i false=false):unl n (listed.setIfInBounds i true)<unl n listed:=by
 unfold unl
 have hsub:∀ l:List Nat,l.Nodup→i∈l→(l.filter fun j=>!(listed.setIfInBounds i true).getD j false).length<(l.filter fun j=>!listed.getD j false).length:=by
  intro l
  induction l with
  | nil=>intro _ h; simp at h
  | cons x l ih =>
    intro hnd hm
    rw [List.nodup_cons] at hnd
    simp only [List.filter_cons]
    by_cases hx:x=i
    ·subst hx
     have h1:(listed.setIfInBounds x true).getD x false=true:=by
      have hx':x<listed.size:=by omega
      simp [Array.getD_eq_getD_getElem?,hx']
     have hrest:(l.filter fun j=>!(listed.setIfInBounds x true).getD j false)=l.filter fun j=>!listed.getD j false:=by
      apply List.filter_congr
      intro j hj
      have hne:x≠j:=fun e=>hnd.1 (e▸hj)
      rw [getD_set_ne false hne]
     rw [h1,hl,hrest]
     simp
    ·have hm':i∈l:=by
      rcases List.mem_cons.1 hm with h | h
      ·exact absurd h.symm hx
      ·exact h
     have h1:(listed.setIfInBounds i true).getD x false=listed.getD x false:=getD_set_ne false (fun e=>hx e.symm)
     rw [h1]
     have:=ih hnd.2 hm'
     split
     ·rw [List.length_cons,List.length_cons]; omega
     ·exact this
 exact hsub _ List.nodup_range (List.mem_range.2 hi)
theorem uZ (hE:S9 all=true) {kn:FK} {Q:Exit→Act→World→Prop} {fr0:Fr} {ρ0:List RB} (hkn:KS B w0 C ρ0 kn (Q .normal))
 (listed:Array Bool) (a:Act) (w:World) (pre:List Nat) (t:DT) (fr:Fr) (σ:AHeap) (ρ:List RB)
 (hext:EJ ρ0 ρ) (h:PT P C all pre fr0 fr σ ρ (fun i=>listed.getD i false=true) a) (hr:CF B w0 ρ σ w)
 (hc:QM C.N C.Lp all (HV all []) pre t=true) (hv:SN all (HV all []) pre t.heads t=true)
 (hx:mS P all kp t kn fr σ) (hall:∀ i,i<all.length→listed.getD i false=true):Q .normal a w:=by
 have hnil:t.heads=[]:=by
  cases hh:t.heads with
  | nil=>rfl
  | cons s l =>
    obtain ⟨chk,t',hc1,_,_,_⟩:=xD t t.heads (by rw [hh]; simp) hc hv hx (i:=s)
    obtain ⟨os,hos,_,_,hpair,_,_⟩:=U7 hc1
    have hlt:=(List.getElem?_eq_some_iff.1 hos).1
    obtain ⟨ok2,_,hp2⟩:=hpair s (h.sub s (hall s hlt))
    exact absurd rfl (CG hp2).1
 refine hkn ρ fr σ a w hext ⟨fun t=>?_,h.kp⟩ hr (xC t hnil hx)
 by_cases hex:∃ k ok,k∈pre∧all[k]?=some ok∧ok.dst=some t
 ·obtain ⟨k,ok,hk,hok,hkt⟩:=hex
  exact h.f1 k ok t (hall k (List.getElem?_eq_some_iff.1 hok).1) hok hkt
 ·rw [h.f3 t fun k ok hk hok hkt=>hex ⟨k,ok,hk,hok,hkt⟩]
  exact h.f2 t fun k ok hk hok hkt=>hex ⟨k,ok,h.sub k hk,hok,hkt⟩
theorem uP (hE:S9 all=true) {kn:FK} {Q:Exit→Act→World→Prop} {fr0:Fr} {ρ0:List RB} (hkn:KS B w0 C ρ0 kn (Q .normal)) (hkp:KP B w0 C ρ0 kp Q) :
 ∀ (fuel:Nat) (listed:Array Bool) (a:Act) (w:World) (pre:List Nat) (t:DT) (fr:Fr) (σ:AHeap) (ρ:List RB),
   listed.size=all.length→unl all.length listed≤fuel→EJ ρ0 ρ→PT P C all pre fr0 fr σ ρ (fun i=>listed.getD i false=true) a→CF B w0 ρ σ w→QM C.N C.Lp all (HV all []) pre t=true→SN all (HV all []) pre t.heads t=true→O2 all t→mS P all kp t kn fr σ→wpAny P .any all.toArray Q fuel listed a w:=by
 intro fuel
 induction fuel with
 | zero =>
   intro listed a w pre t fr σ ρ hls hu hext h hr hc hv hs hx
   refine ⟨?_,?_⟩
   ·cases hrd:Region.ready .any all.toArray listed with
    | nil=>rfl
    | cons i l =>
      have hi:i∈Region.ready .any all.toArray listed:=by rw [hrd]; simp
      obtain ⟨h1,o,ho,_⟩:=mem_ready.1 hi
      have hlt:i<all.length:=by have:=(Array.getElem?_eq_some_iff.1 ho).1; simpa using this
      have hm:i∈(List.range all.length).filter fun i=>!listed.getD i false:=by
       rw [List.mem_filter]
       refine ⟨List.mem_range.2 hlt,?_⟩
       rw [← J5 (by omega),h1]; rfl
      have:=List.length_pos_of_mem hm
      unfold unl at hu
      omega
   ·exact uZ hE hkn listed a w pre t fr σ ρ hext h hr hc hv hx (by
     intro i hi
     cases hb:listed.getD i false with
     | true=>rfl
     | false =>
       have hm:i∈(List.range all.length).filter fun i=>!listed.getD i false:=by
        rw [List.mem_filter]
        exact ⟨List.mem_range.2 hi,by rw [hb]; rfl⟩
       have:=List.length_pos_of_mem hm
       unfold unl at hu
       omega)
 | succ fuel ih =>
   intro listed a w pre t fr σ ρ hls hu hext h hr hc hv hs hx
   refine ⟨fun hnil=>?_,fun i hi=>?_⟩
   ·refine uZ hE hkn listed a w pre t fr σ ρ hext h hr hc hv hx ?_
    have key:∀ n i,i<n→i<all.length→listed.getD i false=true:=by
     intro n
     induction n with
     | zero=>intro i h; omega
     | succ n ihn =>
       intro i hin hi
       cases hb:listed.getD i false with
       | true=>rfl
       | false =>
         have hoi:all[i]?=some all[i]:=List.getElem?_eq_getElem hi
         have:i∈Region.ready .any all.toArray listed:=by
          rw [mem_ready]
          refine ⟨by rw [J5 (by omega),hb],all[i],by simp [hi],fun e he hbd=>?_⟩
          have hlt:=(Bef.edge (all:=all) i all[i] e hoi (by simpa using he) hbd).lt hE
          exact ihn e.on (by omega) (by omega)
         rw [hnil] at this
         simp at this
    exact fun i hi=>key (i+1) i (by omega) hi
   ·obtain ⟨h1,o,ho,hedge⟩:=mem_ready.1 hi
    have ho':all[i]?=some o:=by simpa using ho
    have hlt:i<all.length:=(List.getElem?_eq_some_iff.1 ho').1
    have hiF:listed.getD i false=false:=by rw [← J5 (by omega)]; exact h1
    have hiS:¬ listed.getD i false=true:=by rw [hiF]; simp
    have hready:∀ e∈o.after.toList,Region.binds .any e=true→listed.getD e.on false=true:=fun e he hb=>hedge e (by simpa using he) hb
    have hS':∀ j,(listed.setIfInBounds i true).getD j false=true↔(j=i∨listed.getD j false=true):=by
     intro j
     by_cases hj:j=i
     ·subst hj
      have:j<listed.size:=by omega
      simp [Array.getD_eq_getD_getElem?,this]
     ·rw [getD_set_ne false (fun e=>hj e.symm)]
      simp [hj]
    have hSeq:(fun j=>(listed.setIfInBounds i true).getD j false=true)=fun j=>j=i∨listed.getD j false=true:=by
     funext j; exact propext (hS' j)
    have hls':(listed.setIfInBounds i true).size=all.length:=by simpa using hls
    have hu':unl all.length (listed.setIfInBounds i true)≤fuel:=by
     have:=AEh hls hlt hiF
     omega
    rcases qB (cU t t.heads hs hv) hlt with hpre | ⟨s,hsh,hsi⟩
    ·refine h.floatStep (hkp.mono hext) hr hpre hiS ho' hready fun ρ' a' w' hd he hr'=>?_
     exact ih _ a' w' pre t fr σ ρ' hls' hu' (hext.trans he) (by rw [hSeq]; exact hd) hr' hc hv hs hx
    ·obtain ⟨chk,t',hc1,hc2,hv2,hx2⟩:=xD t t.heads hsh hc hv hx
     have hsi:s=i:=by
      rcases hsi with rfl | hb
      ·rfl
      ·have:=(SI hb).closed h.closed fun o'' ho''=>by rw [ho'] at ho''; cases ho''; exact hready
       have hsp:=h.sub s this
       obtain ⟨_,_,_,_,hpair,_,_⟩:=U7 hc1
       obtain ⟨ok2,_,hp2⟩:=hpair s hsp
       exact absurd rfl (CG hp2).1
     subst hsi
     obtain ⟨os,hos,hfs⟩:=xM (hs s hsh)
     rw [ho'] at hos; cases hos
     refine h.spineStep hE (hkp.mono hext) hr hc1 ho' hfs hready hx2 fun ρ' fr' σ' a' w' hd he hr' hx'=>?_
     obtain ⟨pre',t2,fr2,e1,e2,e3,e4,e5⟩:=PT.advanceAll hE t' (s::pre) fr' hd hc2 hv2 hx'
     exact ih _ a' w' pre' t2 fr2 σ' ρ' hls' hu' (hext.trans he) (by rw [hSeq]; exact e1) hr' e2 e3 e5 e4
theorem dF (hm:P.follows .mixedOrders=true) {t:DT} (hd:ACL C.N C.Lp all t=true) {kn:FK} {Q:Exit→Act→World→Prop}
 {ρ:List RB} {fr:Fr} {σ:AHeap} {a:Act} {w:World} (id:Nat) (hkn:KS B w0 C ρ kn (Q .normal)) (hkp:KP B w0 C ρ kp Q) (hf:FR C ρ fr a) (h:CF B w0 ρ σ w)
 (hx:mS P all kp t kn fr σ):(Code.region id all.toArray true).wp P Q a w:=by
 unfold ACL at hd
 simp only [Bool.and_eq_true] at hd
 obtain ⟨⟨hE,hc⟩,hcov⟩:=hd
 have h0:PT P C all [] fr fr σ ρ (fun i=>(Array.replicate all.length false).getD i false=true) a:=by
  have hno:∀ i,¬ (Array.replicate all.length false).getD i false=true:=by
   intro i
   simp only [Array.getD_eq_getD_getElem?,Array.getElem?_replicate]
   split<;>simp
  refine ⟨fun i hi=>absurd hi (hno i),fun i o hi=>by simp at hi,fun i o _ hi=>absurd hi (hno i),fun k ok t hk=>absurd hk (hno k),fun t _=>hf.val t,fun _ _=>rfl,fun k _ _ _ _ hk=>by simp at hk,fun k _ _ _ _ hk=>by simp at hk,
   hf.kp,fun k _ _ hk=>by simp at hk,fun k _ hk=>by simp at hk,fun k hk=>by simp at hk,fun q _ hq=>by simp at hq⟩
 obtain ⟨pre',t',fr2,e1,e2,e3,e4,e5⟩:=PT.advanceAll hE t [] fr h0 hc hcov hx
 refine wp_region_any hm ?_
 have hsz:all.toArray.size=all.length:=by simp
 rw [hsz]
 refine uP hE hkn hkp all.length _ a _ pre' t' fr2 σ ρ (by simp) ?_ (EJ.refl _) e1 h.drew e2 e3 e5 e4
 ·unfold unl
  have:=List.length_filter_le (fun i=>!(Array.replicate all.length false).getD i false) (List.range all.length)
  simpa using this
theorem jL (hm:P.follows .mixedOrders=true) {ord:List (Nat×List Nat)} (hd:dOk C.N C.Lp all ord=true) {kn:FK} {Q:Exit→Act→World→Prop}
 {ρ:List RB} {fr:Fr} {σ:AHeap} {a:Act} {w:World} (id:Nat) (hkn:KS B w0 C ρ kn (Q .normal)) (hkp:KP B w0 C ρ kp Q) (hf:FR C ρ fr a) (h:CF B w0 ρ σ w)
 (hx:ND P all kp ord kn fr σ):(Code.region id all.toArray true).wp P Q a w:=by
 rw [fQ] at hx
 exact dF hm hd id hkn hkp hf h hx
end
end Go.Ax
namespace Go.Ax
open Go.RowKit
def AC.wf (N:Nat) (Lp:List Nat):AC→Bool
 | .skip | .exit _ | .ret | .label _=>true
 | .region _ ops=>ops.all (oZ N Lp)
 | .dregion _ ops ord=>dOk N Lp ops ord
 | .dtree _ ops t=>ACL N Lp ops t
 | .other _=>false
 | .seq a b=>a.wf N Lp && b.wf N Lp
 | .cond _ a b=>a.wf N Lp && b.wf N Lp
 | .block _ b | .join _ b | .scope b=>b.wf N Lp
 | .loop R _ _ b=>b.wf N (Lp++R)
section
variable {P:Program} {B:Nat} {w0:World} {C:Cx}
theorem V9 (hm:P.follows .mixedOrders=true) {kp:WK}:∀ (c:AC) {C:Cx},c.wf C.N C.Lp=true→∀ (kn:FK) (ke:Nat→FK) (kr:FK) (Q:Exit→Act→World→Prop) ρ fr σ a w,
 KS B w0 C ρ kn (Q .normal)→(∀ i,KS B w0 C ρ (ke i) (Q (.exit i)))→KS B w0 C ρ kr (Q .ret)→KP B w0 C ρ kp Q→FR C ρ fr a→CF B w0 ρ σ w→oT P (Ev P) kp c kn ke kr fr σ→c.erase.wp P Q a w:=by
 intro c
 induction c with
 | skip =>
   intro C _ kn ke kr Q ρ fr σ a w hn he hr hp hf h hx
   exact wp_skip (hn ρ fr σ a w (EJ.refl _) hf h hx)
 | region id ops =>
   intro C hwf kn ke kr Q ρ fr σ a w hn he hr hp hf h hx
   refine wp_region ?_
   have:=fI (all:=ops) ops 0 none rfl (fun o ho=>List.all_eq_true.1 hwf o ho) ρ fr σ a w hn hp hf h trivial hx
   simpa [List.range_eq_range'] using this
 | dregion id ops ord =>
   intro C hwf kn ke kr Q ρ fr σ a w hn he hr hp hf h hx
   exact jL hm hwf id hn hp hf h (fF (fun _ _ h=>h) ord none fr σ trivial hx)
 | dtree id ops t =>
   intro C hwf kn ke kr Q ρ fr σ a w hn he hr hp hf h hx
   exact dF hm hwf id hn hp hf h (lM (fun _ _ h=>h) t none fr σ trivial hx)
 | other c=>intro C hwf; cases hwf
 | seq x y ihx ihy =>
   intro C hwf kn ke kr Q ρ fr σ a w hn he hr hp hf h hx
   rw [AC.wf,Bool.and_eq_true] at hwf
   refine wp_seq (ihx hwf.1 (oT P (Ev P) kp y kn ke kr) ke kr (Exit.then (y.erase.wp P Q) Q) ρ fr σ a w ?_ he hr hp hf h hx)
   intro ρ2 fr2 σ2 a2 w2 e2 hf2 h2 hx2
   exact ihy hwf.2 kn ke kr Q ρ2 fr2 σ2 a2 w2 (hn.mono e2) (fun i=>(he i).mono e2) (hr.mono e2) (hp.mono e2) hf2 h2 hx2
 | cond c x y ihx ihy =>
   intro C hwf kn ke kr Q ρ fr σ a w hn he hr hp hf h hx
   rw [AC.wf,Bool.and_eq_true] at hwf
   simp only [oT,wC] at hx
   split at hx
   ·rename_i hb
    exact wp_cond_true ((hf.ev c).asB hb) (ihx hwf.1 kn ke kr Q ρ fr σ a w hn he hr hp hf h hx)
   ·rename_i hb
    exact wp_cond_false ((hf.ev c).asB hb) (ihy hwf.2 kn ke kr Q ρ fr σ a w hn he hr hp hf h hx)
   ·exact hx.elim
 | block id b ih =>
   intro C hwf kn ke kr Q ρ fr σ a w hn he hr hp hf h hx
   refine wp_block (ih hwf kn _ kr (Exit.inBlock id Q) ρ fr σ a w hn ?_ hr hp hf h hx)
   intro i ρ2 fr2 σ2 a2 w2 e2 hf2 h2 hx2
   simp only [Exit.inBlock]
   split
   ·rename_i e
    subst e
    simp only [Nat.beq_eq_true_eq,Nat.beq_refl,cond_true] at hx2
    exact hn ρ2 fr2 σ2 a2 w2 e2 hf2 h2 hx2
   ·rename_i e
    have:Nat.beq i id=false:=by
     cases hb:Nat.beq i id with
     | false=>rfl
     | true=>exact absurd (Nat.eq_of_beq_eq_true hb) e
    rw [this] at hx2
    exact he i ρ2 fr2 σ2 a2 w2 e2 hf2 h2 hx2
 | loop R L Lx b ih =>
   intro C hwf kn ke kr Q ρ fr σ a w hn he hr hp hf h hx
   simp only [oT] at hx
   obtain ⟨I,⟨m0,h0⟩,hI⟩:=hx
   let C':Cx:=⟨C.N,C.D,C.Lp++R,fun t=>a.tmps.getD t undef⟩
   have hweak:∀ {a2:Act},E7 C' a2→E7 C a2:=fun k=>⟨k.defers,k.size,fun t ht=>by
    rw [k.keep t (List.mem_append_left _ ht)]; exact hf.kp.keep t ht⟩
   have hfw:∀ {ρ2:List RB} {fr2:Fr} {a2:Act},FR C' ρ2 fr2 a2→FR C ρ2 fr2 a2:=fun k=>⟨k.val,hweak k.kp⟩
   have hmk:∀ {ρ2:List RB} {fr2:Fr} {a2:Act},EJ ρ ρ2→FR C' ρ2 fr2 a2→FR C' ρ2 (zH R fr (GO L (IU L fr2))) a2:=fun {ρ2 fr2 a2} e k=>by
    refine ⟨fun t=>?_,k.kp⟩
    rw [xJ]
    split
    ·rename_i ht
     rw [k.kp.keep t (List.mem_append_right _ ht)]
     exact (hf.val t).mono e
    ·exact (k.make L).val t
   have hf':FR C' ρ fr a:=⟨hf.val,hf.kp.defers,hf.kp.size,fun t _=>rfl⟩
   have key:∀ n m ρ2 fr2 σ2 a2 w2,m<n→EJ ρ ρ2→FR C' ρ2 fr2 a2→CF B w0 ρ2 σ2 w2→eO.at L (I m) (IU L fr2) σ2→Code.rounds P b.erase Q n a2 w2:=by
    intro n
    induction n with
    | zero=>intro m ρ2 fr2 σ2 a2 w2 hlt; omega
    | succ n ihn =>
      intro m ρ2 fr2 σ2 a2 w2 hlt e2 hf2 h2 hx2
      rw [rounds_succ]
      have hb:=kJ.at L _ (hI m) (IU L fr2) (eO.at_len _ _ _ _ hx2) σ2 hx2
      refine ih (C:=C') hwf _ _ _ (Exit.then (Code.rounds P b.erase Q n) Q) ρ2 _ σ2 a2 w2 ?_ ?_ ?_ (fun ρ3 v v' σ3 a3 w3 e3 k=>hp ρ3 v v' σ3 a3 w3 (e2.trans e3) (hweak k)) (hmk e2 hf2) h2 hb
      ·intro ρ3 fr3 σ3 a3 w3 e3 hf3 h3 ⟨m',hm',hx3⟩
       exact ihn m' ρ3 fr3 σ3 a3 w3 (by omega) (e2.trans e3) hf3 h3 hx3
      ·intro i ρ3 fr3 σ3 a3 w3 e3 hf3 h3 hx3
       exact he i ρ3 _ σ3 a3 w3 (e2.trans e3) ((hfw hf3).make Lx) h3 hx3
      ·intro ρ3 fr3 σ3 a3 w3 e3 hf3 h3 hx3
       exact hr ρ3 _ σ3 a3 w3 (e2.trans e3) ((hfw hf3).make Lx) h3 hx3
   exact wp_loop_rounds (m0+1) (key (m0+1) m0 ρ fr σ a w (by omega) (EJ.refl _) hf' h h0)
 | exit id =>
   intro C _ kn ke kr Q ρ fr σ a w hn he hr hp hf h hx
   exact wp_exit (he id ρ fr σ a w (EJ.refl _) hf h hx)
 | ret =>
   intro C _ kn ke kr Q ρ fr σ a w hn he hr hp hf h hx
   exact wp_ret (hr ρ fr σ a w (EJ.refl _) hf h hx)
 | label l =>
   intro C _ kn ke kr Q ρ fr σ a w hn he hr hp hf h hx
   exact wp_label (hn ρ fr σ a w (EJ.refl _) hf h hx)
 | scope b ih =>
   intro C hwf kn ke kr Q ρ fr σ a w hn he hr hp hf h hx
   exact wp_scope_straight (ih hwf kn ke kr (Exit.noGoto Q) ρ fr σ a w hn he hr hp hf h hx)
 | join L b ih =>
   intro C hwf kn ke kr Q ρ fr σ a w hn he hr hp hf h hx
   simp only [oT] at hx
   refine ih hwf _ _ _ Q ρ fr σ a w ?_ ?_ ?_ hp hf h hx
   ·intro ρ2 fr2 σ2 a2 w2 e2 hf2 h2 hx2
    exact hn ρ2 _ σ2 a2 w2 e2 (hf2.make L) h2 hx2
   ·intro i ρ2 fr2 σ2 a2 w2 e2 hf2 h2 hx2
    exact he i ρ2 _ σ2 a2 w2 e2 (hf2.make L) h2 hx2
   ·intro ρ2 fr2 σ2 a2 w2 e2 hf2 h2 hx2
    exact hr ρ2 _ σ2 a2 w2 e2 (hf2.make L) h2 hx2
def ACV (tmps:Array Value):ResultVar→Sem Value
 | .tmp t=>pure (tmps.getD t undef)
 | .cell a t=>do loadVar t (← asAddr (tmps.getD a undef))
theorem sZ (fn:Func) (tmps:Array Value):results fn tmps=(do
 let vs ← fn.results.mapM (ACV tmps)
 pure (if h:vs.size=1 then vs[0] else .tuple vs)):=by
 rfl
theorem tX {res:List ResultVar} {ρ:List RB} {σ:AHeap} {w:World} {fr:Fr} {tmps:Array Value} (h:CF B w0 ρ σ w) (hf:∀ x∈res,match x with | .tmp t=>VR ρ (B4 fr t) (tmps.getD t undef) | .cell a _=>VR ρ (B4 fr a) (tmps.getD a undef)) {k:List Value→Prop} (hx:ABY P res fr σ k) :
 ∃ l l',LR ρ l l'∧(res.mapM (ACV tmps)).run P w=.ok l' w∧k l:=by
 induction res generalizing k with
 | nil=>exact ⟨[],[],LR.nil _,by simp,hx⟩
 | cons r res ih =>
   cases r with
   | tmp t =>
     obtain ⟨l,l',h1,h2,h3⟩:=ih (fun x hm=>hf x (by simp [hm])) hx
     refine ⟨_,_::l',LR.cons (hf (.tmp t) (by simp)) h1,?_,h3⟩
     simp only [List.mapM_cons,Sem.run_bind,h2,ACV,Sem.run_pure,Result.andThen_ok]
   | cell x t =>
     simp only [ABY] at hx
     split at hx
     ·rename_i g m hg
      obtain ⟨v,hv,hx⟩:=hx
      obtain ⟨l,l',h1,h2,h3⟩:=ih (fun x hm=>hf x (by simp [hm])) hx
      have hfx:=hf (.cell x t) (by simp)
      simp only at hfx
      obtain ⟨v',e1,e2⟩:=V4 h hg hfx hv
      have hp:∃ ad,tmps.getD x undef=.pointer (some ad):=by
       unfold AF at hv
       split at hv
       ·rename_i ad hfx2
        rw [hfx2] at hfx
        obtain ⟨a',ha,_⟩:=hfx.ptr_inv
        exact ⟨a',ha⟩
       ·cases hv
      obtain ⟨ad,had⟩:=hp
      rw [had] at e1
      simp only [Instr.loadAt,Instr.sureAddr,pure_bind] at e1
      refine ⟨_,v'::l',LR.cons e2 h1,?_,h3⟩
      simp only [List.mapM_cons,Sem.run_bind,h2,ACV,had,asAddr,Sem.run_pure,Result.andThen_ok,e1]
     ·exact hx.elim
theorem V7 {fn:Func} {res:List ResultVar} {Q:RK} {ρ:List RB} {fr:Fr} {σ:AHeap} {tmps:Array Value} {w:World} (hres:fn.results.toList=res) (h:CF B w0 ρ σ w)
 (hf:∀ x∈res,match x with | .tmp t=>VR ρ (B4 fr t) (tmps.getD t undef) | .cell a _=>VR ρ (B4 fr a) (tmps.getD a undef)) (hx:aJ P res Q fr σ) :
 ∃ v,(results fn tmps).run P w=.ok v w∧∃ r,Q r σ∧AAu ρ r (.returned v):=by
 obtain ⟨l,l',h1,h2,h3⟩:=tX h hf hx
 have hrun:(results fn tmps).run P w=.ok (if hh:l'.toArray.size=1 then l'.toArray[0] else .tuple l'.toArray) w:=by
  rw [sZ,Array.mapM_eq_mapM_toList,hres]
  simp only [bind_map_left,Sem.run_bind]
  rw [h2]
  rfl
 refine ⟨_,hrun,_,h3,?_⟩
 rcases l with _ | ⟨v,_ | ⟨v2,vs⟩⟩
 ·rw [h1.nil_inv]
  exact ⟨_,rfl,VR.tuple' (by simpa using LR.nil ρ)⟩
 ·obtain ⟨v',l2,rfl,hvv,hnil⟩:=h1.cons_inv
  rw [hnil.nil_inv]
  exact ⟨_,rfl,hvv⟩
 ·have hne:¬ l'.toArray.size=1:=by
   intro e1
   have e1:l'.length=1:=by simpa using e1
   rw [← h1.1] at e1
   simp at e1
  rw [dif_neg hne]
  exact ⟨_,rfl,VR.tuple' (by simpa using h1)⟩
theorem pP (params:Nat) (vs:List Value) (h:vs.length=params) (t:Nat):∀ k,B4 (GO (List.range' k params) vs) t=if k≤t then vs.getD (t - k) undef else undef:=by
 subst h
 induction vs with
 | nil=>intro k; simp [GO,WE]
 | cons v vs ih =>
   intro k
   simp only [List.length_cons,List.range'_succ,GO,H1,ih (k+1)]
   by_cases h1:t=k
   ·subst h1; simp
   ·rw [if_neg h1]
    by_cases h2:k≤t
    ·rw [if_pos (by omega),if_pos h2]
     obtain ⟨d,rfl⟩:∃ d,t=k+1+d:=⟨t - (k+1),by omega⟩
     rw [show k+1+d - (k+1)=d by omega,show k+1+d - k=d+1 by omega]
     rfl
    ·rw [if_neg h2,if_neg (by omega)]
theorem FR.start {ρ:List RB} {n params:Nat} {args args':List Value} (ha:LR ρ args args') (hlen:args.length=params) (hp:params≤n) :
 FR ⟨n,[],[],fun _=>undef⟩ ρ (GO (List.range params) args) { tmps:=args'.toArray++Array.replicate (n - args'.toArray.size) undef,defers:=[] }:=by
 refine ⟨fun t=>?_,rfl,?_,fun t ht=>by simp at ht⟩
 ·rw [List.range_eq_range',pP _ _ hlen t 0,if_pos (Nat.zero_le _)]
  simp only [Nat.sub_zero,Array.getD_eq_getD_getElem?,Array.getElem?_append,List.size_toArray]
  split
  ·rename_i hlt
   have hlt2:t<args.length:=by rw [ha.1]; exact hlt
   have:=ha.2 t _ _ (List.getElem?_eq_getElem hlt2) (List.getElem?_eq_getElem hlt)
   simpa [List.getD,hlt2,hlt] using this
  ·rename_i hge
   have:args.getD t undef=undef:=by simp [List.getD,List.getElem?_eq_none (show args.length≤t by rw [ha.1]; omega)]
   rw [this]; exact .dead _
 ·have:=ha.1
  simp; omega
structure AF8 (P:Program) (f:FuncId) (af:zQ) (fn:Func):Prop where
 at':P.funcs[f]?=some fn
 body:fn.body=some af.body.erase
 n:fn.ntmps=af.n
 res:fn.results.toList=af.res
 wf:af.body.wf af.n []=true
 par:af.params≤af.n
 name:(fn.name == "runtime.NumGoroutine")=false
def FOk (P:Program) (F:FuncId→Option zQ):Prop:=∀ f af,F f=some af→∃ fn,AF8 P f af fn
theorem Ev.of (hm:P.follows .mixedOrders=true) {F:FuncId→Option zQ} (hF:FOk P F) {f:FuncId} {args:List Value} {σ:AHeap} {Q:RK} (h:ADz P (Ev P) F f args σ Q):Ev P f args σ Q:=by
 unfold ADz at h
 split at h
 ·rename_i af hf
  obtain ⟨fn,k⟩:=hF f af hf
  cases hlen:Nat.beq args.length af.params with
  | false=>rw [hlen] at h; exact h.elim
  | true =>
    rw [hlen] at h
    simp only [cond_true] at h
    have hlen:=Nat.eq_of_beq_eq_true hlen
    intro B w0 ρ w args' hr ha
    refine ⟨fn,k.at',k.name,.inl ⟨by simp [k.body],?_⟩⟩
    refine calls_of_wp_defers k.at' k.body ?_
    have hstart:=FR.start ha hlen k.par
    rw [← k.n] at hstart
    have hend:∀ (ρ2:List RB) (fr2:Fr) (σ2:AHeap) (a2:Act) (w2:World),EJ ρ ρ2→FR ⟨fn.ntmps,[],[],fun _=>undef⟩ ρ2 fr2 a2→CF B w0 ρ2 σ2 w2→aJ P af.res Q fr2 σ2→Leaves P fn a2.tmps (fun e w'=>∃ r ρ' σ',Q r σ'∧AAu ρ' r e∧EJ ρ ρ'∧CF B w0 ρ' σ' w') a2.defers .returning w2:=by
     intro ρ2 fr2 σ2 a2 w2 e2 hf2 h2 hx2
     have hd:a2.defers=[]:=hf2.kp.defers
     rw [hd]
     obtain ⟨v,h3,r,h4,h5⟩:=V7 k.res h2 (fun x _=>by cases x<;>exact hf2.val _) hx2
     exact ⟨v,h3,r,ρ2,σ2,h4,h5,e2,h2⟩
    refine V9 (C:=⟨fn.ntmps,[],[],fun _=>undef⟩) hm af.body (by rw [k.n]; exact k.wf) _ _ _ _ ρ _ σ _ w hend (fun i ρ2 fr2 σ2 a2 w2 _ _ _ hx2=>hx2.elim) hend ?_ hstart hr h
    intro ρ2 v v' σ2 a2 w2 e2 hk h2 hv hx2
    have hd:a2.defers=[]:=hk.defers
    show Leaves P fn a2.tmps _ a2.defers _ w2
    rw [hd]
    exact ⟨.pan v,ρ2,σ2,hx2,⟨v',rfl,hv⟩,e2,h2⟩
 ·exact h.elim
end
end Go.Ax
namespace Go.Ax
open Go.RowKit
structure AAX (P:Program) (g:FuncId) (e:Array Value→Sem Value):Prop where
 fn:∃ fn,P.funcs[g]?=some fn∧(fn.name == "runtime.NumGoroutine")=false∧fn.body.isNone=true∧Extern.findNext fn=none∧Extern.find fn=some e
theorem CF.empty (w:World):CF w.heap.size w [] ⟨0,.leaf⟩ w :=
 ⟨rfl,fun i o h=>by simp [AHeap.get,Tr.get_leaf] at h,fun i j oi oj ri rj h=>by simp [AHeap.get,Tr.get_leaf] at h,Below.refl _ _,Nat.le_refl _⟩
end Go.Ax
namespace Go.Ax
open Go.RowKit
inductive RY where
 | loop (L Lx:List Nat)
 | loopr (R L Lx Lj:List Nat)
 | loopj (L Lx Lj:List Nat)
 | ord (l:List (Nat×List Nat))
 | tree (t:DT)
 | join (L:List Nat)
def ZL (h:Option RY) (c:AC):AC :=
 match h with
 | some (.join L)=>.join L c
 | _=>c
def HO (h:Nat→Option RY):Code→Nat→AC×Nat
 | .skip,k=>(.skip,k)
 | .region id ops false,k=>(.region id ops.toList,k)
 | .region id ops true,k=>match h k with
   | some (.ord l)=>(.dregion id ops.toList l,k+1)
   | some (.tree t)=>(.dtree id ops.toList t,k+1)
   | _=>(.dregion id ops.toList [],k+1)
 | .seq a b,k=>(.seq (HO h a k).1 (HO h b (HO h a k).2).1,(HO h b (HO h a k).2).2)
 | .cond c a b,k=>(ZL (h k) (.cond c (HO h a (k+1)).1 (HO h b (HO h a (k+1)).2).1),(HO h b (HO h a (k+1)).2).2)
 | .block id b,k=>(ZL (h k) (.block id (HO h b (k+1)).1),(HO h b (k+1)).2)
 | .loop b,k=>match h k with
   | some (.loop L Lx)=>(.loop [] L Lx (HO h b (k+1)).1,(HO h b (k+1)).2)
   | some (.loopj L Lx Lj)=>(.loop [] L Lx (.join Lj (HO h b (k+1)).1),(HO h b (k+1)).2)
   | some (.loopr R L Lx Lj)=>(.loop R L Lx (.join Lj (HO h b (k+1)).1),(HO h b (k+1)).2)
   | _=>(.loop [] [] [] (HO h b (k+1)).1,(HO h b (k+1)).2)
 | .exit i,k=>(.exit i,k)
 | .ret,k=>(.ret,k)
 | .scope b,k=>(.scope (HO h b k).1,(HO h b k).2)
 | .label l,k=>(.label l,k)
 | c,k=>(.other c,k)
theorem VC (h:Option RY) (c:AC):(ZL h c).erase=c.erase:=by
 unfold ZL; split<;>rfl
theorem YA (h:Nat→Option RY):∀ (c:Code) (k:Nat),(HO h c k).1.erase=c:=by
 intro c
 induction c with
 | region id ops d =>
   intro k
   cases d with
   | false=>simp [HO,AC.erase]
   | true =>
     simp only [HO]
     split<;>simp [AC.erase]
 | seq a b iha ihb=>intro k; simp only [HO,AC.erase,iha,ihb]
 | cond c a b iha ihb=>intro k; simp only [HO,VC,AC.erase,iha,ihb]
 | block id b ih=>intro k; simp only [HO,VC,AC.erase,ih]
 | loop b ih =>
   intro k
   simp only [HO]
   split<;>simp [AC.erase,ih]
 | scope b ih=>intro k; simp only [HO,AC.erase,ih]
 | _=>intro k; rfl
def Y4 (P:Program) (E:BP) (fn:Func) (h:Nat→Option RY) (args:List Value) (σ:AHeap) (Q:RK):Prop :=
 cond (Nat.beq args.length (fn.params.size+fn.nfree)) (oT P E (fun v σ=>Q (.pan v) σ) (HO h (fn.body.getD .skip) 0).1 (aJ P fn.results.toList Q) (fun _ _ _=>False) (aJ P fn.results.toList Q) (GO (List.range (fn.params.size+fn.nfree)) args) σ) False
def XP (fn:Func) (h:Nat→Option RY):Bool :=
 fn.body.isSome && (HO h (fn.body.getD .skip) 0).1.wf fn.ntmps [] && Nat.ble (fn.params.size+fn.nfree) fn.ntmps && !(fn.name == "runtime.NumGoroutine")
theorem Ev.fn {P:Program} (hm:P.follows .mixedOrders=true) {f:FuncId} {fn:Func} (hf:P.funcs[f]?=some fn) (h:Nat→Option RY) (hc:XP fn h=true) {args:List Value} {σ:AHeap} {Q:RK} (hx:Y4 P (Ev P) fn h args σ Q):Ev P f args σ Q:=by
 unfold XP at hc
 simp only [Bool.and_eq_true,Bool.not_eq_true'] at hc
 obtain ⟨⟨⟨h1,h2⟩,h3⟩,h4⟩:=hc
 obtain ⟨c,hcb⟩:=Option.isSome_iff_exists.1 h1
 rw [hcb] at h2
 simp only [Option.getD_some] at h2
 let af:zQ:={ n:=fn.ntmps,params:=fn.params.size+fn.nfree,res:=fn.results.toList,body:=(HO h c 0).1 }
 have hok:AF8 P f af fn:=⟨hf,by rw [hcb]; simp [af,YA],rfl,rfl,h2,Nat.le_of_ble_eq_true h3,h4⟩
 refine Ev.of hm (F:=fun g=>if g=f then some af else none) (fun g ag hg=>?_) ?_
 ·by_cases e:g=f
  ·subst e; simp at hg; subst hg; exact ⟨fn,hok⟩
  ·simp [e] at hg
 ·unfold ADz
  simp only [if_true]
  unfold Y4 at hx
  rw [hcb] at hx
  exact hx
end Go.Ax
namespace Go.Ax
open Go.RowKit
inductive VT where
 | i (k:IntKind)
 | b
 | s
 | v
def tI (k:IntKind) (K:Int→Prop) (v:Value):Prop :=
 match v with
 | .int j n=>cond (decide (j=k)) (K n) False
 | _=>False
def tB (K:Bool→Prop) (v:Value):Prop :=
 match v with
 | .bool b=>K b
 | _=>False
def tS (K:ByteArray→Prop) (v:Value):Prop :=
 match v with
 | .string s=>K s
 | _=>False
def ty:VT→(Value→Prop)→Value→Prop
 | .i k,K=>tI k fun n=>K (.int k n)
 | .b,K=>tB fun b=>K (.bool b)
 | .s,K=>tS fun s=>K (.string s)
 | .v,K=>K
def om (o:Option Value) (K:Value→Prop):Prop :=
 match o with
 | some v=>K v
 | none=>False
def eN (t:VT) (o:Option Value) (K:Value→Prop):Prop:=om o (ty t K)
theorem KJ {t:VT} {K:Value→Prop} {v:Value} (h:ty t K v):K v:=by
 cases t with
 | i k =>
   simp only [ty,tI] at h
   split at h
   ·rename_i j n
    cases hk:decide (j=k) with
    | true=>rw [hk] at h; have:=of_decide_eq_true hk; subst this; exact h
    | false=>rw [hk] at h; exact h.elim
   ·exact h.elim
 | b=>simp only [ty,tB] at h; split at h<;>first | exact h | exact h.elim
 | s=>simp only [ty,tS] at h; split at h<;>first | exact h | exact h.elim
 | v=>exact h
theorem ACC {t:VT} {K K':Value→Prop} (hk:∀ v,K v→K' v) {v:Value} (h:ty t K v):ty t K' v:=by
 cases t with
 | i k =>
   simp only [ty,tI] at h ⊢
   split at h
   ·rename_i j n
    cases hd:decide (j=k) with
    | true=>rw [hd] at h; exact hk _ h
    | false=>rw [hd] at h; exact h.elim
   ·exact h.elim
 | b =>
   simp only [ty,tB] at h ⊢
   split at h
   ·exact hk _ h
   ·exact h.elim
 | s =>
   simp only [ty,tS] at h ⊢
   split at h
   ·exact hk _ h
   ·exact h.elim
 | v=>exact hk _ h
theorem P4 {o:Option Value} {K K':Value→Prop} (hk:∀ v,K v→K' v) (h:om o K):pu o K':=by
 unfold om at h
 split at h
 ·exact ⟨_,rfl,hk _ h⟩
 ·exact h.elim
theorem HR {t:VT} {o:Option Value} {K K':Value→Prop} (hk:∀ v,K v→K' v) (h:eN t o K):pu o K':=P4 (fun v h=>hk v (KJ h)) h
def r0 (K:AHeap→Prop):WK:=fun v σ =>
 match v with
 | .tuple a=>match a.toList with
   | []=>K σ
   | _=>False
 | _=>False
def r2 (K:Value→Value→AHeap→Prop):WK:=fun v σ =>
 match v with
 | .tuple a=>match a.toList with
   | [x,y]=>K x y σ
   | _=>False
 | _=>False
def r3 (K:Value→Value→Value→AHeap→Prop):WK:=fun v σ =>
 match v with
 | .tuple a=>match a.toList with
   | [x,y,z]=>K x y z σ
   | _=>False
 | _=>False
def r4 (K:Value→Value→Value→Value→AHeap→Prop):WK:=fun v σ =>
 match v with
 | .tuple a=>match a.toList with
   | [x,y,z,u]=>K x y z u σ
   | _=>False
 | _=>False
def rt:List VT→WK→WK
 | [],K=>r0 fun σ=>K (.tuple #[]) σ
 | [t],K=>fun v σ=>ty t (fun v=>K v σ) v
 | [t,u],K=>r2 fun x y σ=>ty t (fun x=>ty u (fun y=>K (.tuple #[x,y]) σ) y) x
 | [t,u,s3],K=>r3 fun x y z σ=>ty t (fun x=>ty u (fun y=>ty s3 (fun z=>K (.tuple #[x,y,z]) σ) z) y) x
 | [t,u,s3,q],K=>r4 fun x y z w σ=>ty t (fun x=>ty u (fun y=>ty s3 (fun z=>ty q (fun w=>K (.tuple #[x,y,z,w]) σ) w) z) y) x
 | _,_=>fun _ _=>False
theorem oB {a:Array Value} {l:List Value} (h:a.toList=l):a=l.toArray:=by rw [← h]
theorem AEa:∀ {l:List VT} {K:WK} {v:Value} {σ:AHeap},rt l K v σ→K v σ
 | [],K,v,σ,h=>by
   simp only [rt,r0] at h
   split at h
   ·split at h
    ·rename_i a ha; rw [oB ha]; exact h
    ·exact h.elim
   ·exact h.elim
 | [t],K,v,σ,h=>KJ (K:=fun v=>K v σ) h
 | [t,u],K,v,σ,h=>by
   simp only [rt,r2] at h
   split at h
   ·split at h
    ·rename_i a x y ha; rw [oB ha]; exact KJ (K:=fun y=>K (.tuple #[x,y]) σ) (KJ (K:=fun x=>ty u (fun y=>K (.tuple #[x,y]) σ) y) h)
    ·exact h.elim
   ·exact h.elim
 | [t,u,s3],K,v,σ,h=>by
   simp only [rt,r3] at h
   split at h
   ·split at h
    ·rename_i a x y z ha
     rw [oB ha]
     have h:=KJ (K:=fun x=>ty u (fun y=>ty s3 (fun z=>K (.tuple #[x,y,z]) σ) z) y) h
     have h:=KJ (K:=fun y=>ty s3 (fun z=>K (.tuple #[x,y,z]) σ) z) h
     exact KJ (K:=fun z=>K (.tuple #[x,y,z]) σ) h
    ·exact h.elim
   ·exact h.elim
 | [t,u,s3,q],K,v,σ,h=>by
   simp only [rt,r4] at h
   split at h
   ·split at h
    ·rename_i a x y z w ha
     rw [oB ha]
     have h:=KJ (K:=fun x=>ty u (fun y=>ty s3 (fun z=>ty q (fun w=>K (.tuple #[x,y,z,w]) σ) w) z) y) h
     have h:=KJ (K:=fun y=>ty s3 (fun z=>ty q (fun w=>K (.tuple #[x,y,z,w]) σ) w) z) h
     have h:=KJ (K:=fun z=>ty q (fun w=>K (.tuple #[x,y,z,w]) σ) w) h
     exact KJ (K:=fun w=>K (.tuple #[x,y,z,w]) σ) h
    ·exact h.elim
   ·exact h.elim
 | _::_::_::_::_::_,K,v,σ,h=>h.elim
def ldC (σ:AHeap) (a:Value):Nat→List VT→(List Value→Prop)→Prop
 | _,[],K=>K []
 | i,t::l,K=>om (AA i a) fun p=>eN t (AF false 1 p σ) fun v=>ldC σ a (i+1) l fun vs=>K (v::vs)
theorem rM (ad:Addr) (i:Nat):(ad.add i).block=ad.block∧(ad.add i).off=ad.off+i:=by
 unfold Addr.add
 split
 ·rename_i h; subst h; exact ⟨rfl,rfl⟩
 ·exact ⟨rfl,rfl⟩
theorem AA9 {σ:AHeap} {ad:Addr}:∀ (l:List VT) (i:Nat) {K:List Value→Prop},ldC σ (.pointer (some ad)) i l K→∃ vs:List Value,K vs∧vs.length=l.length∧∀ (j:Nat) (v:Value),vs[j]?=some v→((σ.row ad.block).bind fun c=>c[ad.off+i+j]?)=some v
 | [],i,K,h=>⟨[],h,rfl,fun j v hv=>by simp at hv⟩
 | t::l,i,K,h=>by
   simp only [ldC,AA,om] at h
   obtain ⟨v,h1,h2⟩:=HR (fun v h=>h) h
   obtain ⟨vs,h3,h4,h5⟩:=AA9 l (i+1) h2
   refine ⟨v::vs,h3,by simp [h4],fun j u hu=>?_⟩
   cases j with
   | zero =>
     simp at hu; subst hu
     simp only [AF,cond_false,(rM ad i).1,(rM ad i).2] at h1
     exact h1
   | succ j =>
     have:=h5 j u (by simpa using hu)
     rw [show ad.off+i+(j+1)=ad.off+(i+1)+j by omega]
     exact this
theorem yV {σ:AHeap} {a:Value} {l:List VT} {K:List Value→Prop} (h:ldC σ a 0 l K) (hn:l≠[]):∃ vs,AF true l.length a σ=some (.agg vs.toArray)∧K vs:=by
 have hp:∃ ad,a=.pointer (some ad):=by
  cases l with
  | nil=>exact absurd rfl hn
  | cons t l =>
    simp only [ldC,AA,om] at h
    split at h
    ·rename_i o hv
     split at hv
     ·exact ⟨_,rfl⟩
     ·cases hv
    ·exact h.elim
 obtain ⟨ad,rfl⟩:=hp
 obtain ⟨vs,h1,h2,h3⟩:=AA9 l 0 h
 refine ⟨vs,?_,h1⟩
 have hpos:0<l.length:=List.length_pos_iff.2 hn
 have h0:=h3 0 _ (List.getElem?_eq_getElem (show 0<vs.length by omega))
 cases hr:σ.row ad.block with
 | none=>rw [hr] at h0; cases h0
 | some c =>
   simp only [hr,Option.bind_some] at h3
   have hlen:ad.off+l.length≤c.length:=by
    have:=h3 (l.length - 1) _ (List.getElem?_eq_getElem (show l.length - 1<vs.length by omega))
    have:=(List.getElem?_eq_some_iff.1 this).1
    omega
   have hv:(c.drop ad.off).take l.length=vs:=by
    apply List.ext_getElem?
    intro j
    rw [List.getElem?_take]
    by_cases hj:j<l.length
    ·rw [if_pos hj,List.getElem?_drop]
     have:=h3 j _ (List.getElem?_eq_getElem (show j<vs.length by omega))
     rw [List.getElem?_eq_getElem (show j<vs.length by omega)]
     simpa using this
    ·rw [if_neg hj,List.getElem?_eq_none (by omega)]
   obtain ⟨m,hm⟩:∃ m,l.length=m+1:=⟨l.length - 1,by omega⟩
   rw [hm] at hlen hv ⊢
   have hb:Nat.ble (ad.off+(m+1)) c.length=true:=Nat.ble_eq_true_of_le hlen
   simp only [AF,cond_true,oQ,hr,Option.bind_some,hb,Option.map_some,hv]
def gO (pl:Nat→Option (Nat×Nat)):List Value→List (Nat×Value)→(List Value→Prop)→Prop
 | c,[],K=>K c
 | c,(k,v)::ps,K=>match pl k with
   | some (o,n)=>cond (Nat.beq n 1) (cond (Nat.ble (o+1) c.length && v.oneCell') (gO pl (splice c o [v]) ps K) False)
    (cond (DQ v && Nat.beq v.cells.size n && Nat.ble (o+v.cells.size) c.length) (gO pl (splice c o v.cells.toList) ps K) False)
   | none=>False
theorem kT {v:Value} (h:v.oneCell'=true):DQ v=true∧v.cells=#[v]:=by cases v<;>simp_all [DQ,Value.oneCell',Value.cells]
theorem NH {pl:Nat→Option (Nat×Nat)}:∀ {ps:List (Nat×Value)} {c:List Value} {K:List Value→Prop},gO pl c ps K→∃ l,QS pl c ps=some l∧K l
 | [],c,K,h=>⟨c,rfl,h⟩
 | (k,v)::ps,c,K,h=>by
   simp only [gO] at h
   simp only [QS]
   split at h
   ·rename_i o n hp
    simp only [hp]
    cases hn:Nat.beq n 1 with
    | true =>
      rw [hn] at h
      simp only [cond_true] at h
      have hn:=Nat.eq_of_beq_eq_true hn
      subst hn
      cases hc:(Nat.ble (o+1) c.length && v.oneCell') with
      | false=>rw [hc] at h; exact h.elim
      | true =>
        rw [hc] at h
        simp only [cond_true] at h
        rw [Bool.and_eq_true] at hc
        obtain ⟨h1,h2⟩:=kT hc.2
        obtain ⟨l,h3,h4⟩:=NH h
        refine ⟨l,?_,h4⟩
        have hc2:=hc.1
        simp only [h1,h2,List.size_toArray,List.length_cons,List.length_nil,Nat.zero_add,hc2,Nat.beq_refl,Bool.and_self,cond_true]
        exact h3
    | false =>
      rw [hn] at h
      simp only [cond_false] at h
      cases hc:(DQ v && Nat.beq v.cells.size n && Nat.ble (o+v.cells.size) c.length) with
      | false=>rw [hc] at h; exact h.elim
      | true =>
        rw [hc] at h
        obtain ⟨l,h3,h4⟩:=NH h
        exact ⟨l,by simp only [cond_true]; exact h3,h4⟩
   ·exact h.elim
def pk (t:VT) (c:Bool) (x y:Value):Value :=
 match t,x,y with
 | .i k,.int j a,.int j' b=>cond (decide (j=k) && decide (j'=k)) (.int k (cond c a b)) (cond c x y)
 | .b,.bool a,.bool b=>.bool (cond c a b)
 | .s,.string a,.string b=>.string (cond c a b)
 | _,_,_=>cond c x y
theorem AFh (t:VT) (c:Bool) (x y:Value):pk t c x y=cond c x y:=by
 unfold pk
 split
 ·rename_i k j a j' b
  cases h:(decide (j=k) && decide (j'=k)) with
  | false=>rfl
  | true =>
    rw [Bool.and_eq_true] at h
    have h1:=of_decide_eq_true h.1
    have h2:=of_decide_eq_true h.2
    subst h1; subst h2
    cases c<;>rfl
 ·cases c<;>rfl
 ·cases c<;>rfl
 ·rfl
end Go.Ax
