/- Texts of one proof,joined. No statement of the seat is proved here. -/
import Derived.Orders
import Derived.LoopN
import Derived.Below
import Derived.Laws.CopyRow
import Derived.Laws.AppendOwn
import Derived.KernelRfl
import Derived.Laws.MakeOwn
import Derived.Laws.BytesString
import Derived.ChangeKeysEq
import Derived.Laws.StructEq
import Derived.Recover
import Derived.Scope
import Derived.Laws.Externs
import Derived.Deep.Slices
import Derived.ChangeArms
import Derived.ChangeStays
import Derived.ReadAgain
import GoSem.ClaimJoined
import Derived.Test.YtcnceningjookaaGreatProg
import Derived.Test.YtcnceningjookaaGreatChecked
import Derived.Lib.Overlaps
import Derived.Shelf.Sort.Plain
import Derived.Test.YtcnceningjookaaGreatRows
import Derived.WalkKit
import Derived.ProofKit
import Derived.OpenShut
import Derived.SizedLaws
set_option linter.unusedVariables false
set_option linter.unusedSimpArgs false
set_option linter.unnecessarySimpa false
set_option linter.constructorNameAsVariable false
namespace Go.Ax
inductive Tr (α:Type) where
 | leaf
 | node (l:Tr α) (v:Option α) (r:Tr α)
namespace Tr
variable {α:Type}
def left:Tr α→Tr α
 | .leaf=>.leaf
 | .node l _ _=>l
def right:Tr α→Tr α
 | .leaf=>.leaf
 | .node _ _ r=>r
def val:Tr α→Option α
 | .leaf=>none
 | .node _ v _=>v
def get:Tr α→Nat→Option α
 | .leaf,_=>none
 | .node l v r,n=>match n with
   | 0=>v
   | m+1=>cond (Nat.beq (Nat.mod m 2) 0) (l.get (Nat.div m 2)) (r.get (Nat.div m 2))
def setF (x:α):Nat→Tr α→Nat→Tr α
 | 0,t,_=>t
 | f+1,t,n=>match n with
   | 0=>.node t.left (some x) t.right
   | m+1=>cond (Nat.beq (Nat.mod m 2) 0) (.node (setF x f t.left (Nat.div m 2)) t.val t.right) (.node t.left t.val (setF x f t.right (Nat.div m 2)))
def set (t:Tr α) (n:Nat) (x:α):Tr α:=setF x (n+1) t n
theorem get_leaf (n:Nat):(Tr.leaf:Tr α).get n=none:=by cases n<;>rfl
theorem get_succ (t:Tr α) (m:Nat):t.get (m+1)=cond (Nat.beq (Nat.mod m 2) 0) (t.left.get (Nat.div m 2)) (t.right.get (Nat.div m 2)):=by
 cases t with
 | leaf=>simp only [left,right,get_leaf]; cases Nat.beq (Nat.mod m 2) 0<;>rfl
 | node l v r=>rfl
theorem left_node (a:Tr α) (v:Option α) (b:Tr α):(Tr.node a v b).left=a:=rfl
theorem right_node (a:Tr α) (v:Option α) (b:Tr α):(Tr.node a v b).right=b:=rfl
theorem AAn (t:Tr α):t.get 0=t.val:=by cases t<;>rfl
theorem ABi (x:α):∀ (f:Nat) (t:Tr α) (n m:Nat),n<f→(setF x f t n).get m=if m=n then some x else t.get m:=by
 intro f
 induction f with
 | zero=>intro t n m h; omega
 | succ f ih =>
   intro t n m h
   cases n with
   | zero =>
     cases m with
     | zero=>rfl
     | succ m=>simp only [setF,get_succ,left,right]; simp
   | succ n =>
     have hd:Nat.div n 2<f:=by show n / 2<f; omega
     have hb:∀ k,Nat.beq (Nat.mod k 2) 0=decide (k % 2=0):=fun k=>by
      show Nat.beq (k % 2) 0=_
      rw [Bool.eq_iff_iff]; simp
     cases m with
     | zero =>
       simp only [setF,hb]
       cases hn:decide (n % 2=0)<;>simp [AAn,val]
     | succ m =>
       simp only [setF,hb]
       by_cases hn:n % 2=0
       ·simp only [hn,decide_true,cond_true]
        rw [get_succ,get_succ t]
        simp only [hb,left_node,right_node]
        by_cases hm:m % 2=0
        ·simp only [hm,decide_true,cond_true]
         rw [ih _ _ _ hd]
         by_cases he:m=n
         ·subst he; simp
         ·rw [if_neg (show ¬ Nat.div m 2=Nat.div n 2 from fun e=>he (by have:m / 2=n / 2:=e; omega)),if_neg (by omega)]
        ·simp only [hm,decide_false,cond_false]
         rw [if_neg (by omega)]
       ·simp only [hn,decide_false,cond_false]
        rw [get_succ,get_succ t]
        simp only [hb,left_node,right_node]
        by_cases hm:m % 2=0
        ·simp only [hm,decide_true,cond_true]
         rw [if_neg (by omega)]
        ·simp only [hm,decide_false,cond_false]
         rw [ih _ _ _ hd]
         by_cases he:m=n
         ·subst he; simp
         ·rw [if_neg (show ¬ Nat.div m 2=Nat.div n 2 from fun e=>he (by have:m / 2=n / 2:=e; omega)),if_neg (by omega)]
theorem get_set (t:Tr α) (n m:Nat) (x:α):(t.set n x).get m=if m=n then some x else t.get m:=ABi x _ t n m (Nat.lt_succ_self n)
end Tr
inductive C9 where
 | cells (c:List Value) (elem:TypeId) (opn:Bool)
 | ro (c:List Value) (elem:TypeId)
 | map (es:List MapEntry) (clock:Nat)
 | strIter (s:ByteArray) (pos:Nat)
 | mapIter (m:Option Nat) (since:Nat) (seen:List Nat) (stepped:Nat)
 | dead
def C9.writable:C9→Bool
 | .ro _ _ | .dead=>false
 | _=>true
structure AHeap where
 size:Nat
 objs:Tr C9
namespace AHeap
def get (σ:AHeap) (i:Nat):Option C9:=σ.objs.get i
def set (σ:AHeap) (i:Nat) (o:C9):AHeap:={ size:=σ.size,objs:=σ.objs.set i o }
def push (σ:AHeap) (o:C9):AHeap:={ size:=σ.size+1,objs:=σ.objs.set σ.size o }
theorem get_set (σ:AHeap) (i j:Nat) (o:C9):(σ.set i o).get j=if j=i then some o else σ.get j:=Tr.get_set _ _ _ _
theorem get_push (σ:AHeap) (j:Nat) (o:C9):(σ.push o).get j=if j=σ.size then some o else σ.get j:=Tr.get_set _ _ _ _
@[simp] theorem AF4 (σ:AHeap) (i:Nat) (o:C9):(σ.set i o).size=σ.size:=rfl
@[simp] theorem AEp (σ:AHeap) (o:C9):(σ.push o).size=σ.size+1:=rfl
end AHeap
structure RB where
 b:Nat
 s:Nat
 n:Nat
def A4:Nat:=18446744073709551616
def ZB:Nat:=1180591620717411303424
def Y9 (r:RB) (o c c':Nat):Prop:=if c<A4 then c'=c else (c % A4≤c'∧r.s+o+c'*(c / A4)≤r.n∧c'≤9223372036854775807)
inductive VR (ρ:List RB):Value→Value→Prop where
 | dead (v:Value):VR ρ undef v
 | skp:VR ρ (.tuple #[.chan none]) undef
 | bool (b:Bool):VR ρ (.bool b) (.bool b)
 | int (k:IntKind) (n:Int):VR ρ (.int k n) (.int k n)
 | string (s:ByteArray):VR ρ (.string s) (.string s)
 | nilptr:VR ρ (.pointer none) (.pointer none)
 | ptr (b o:Nat) (r:RB):ρ[b]?=some r→VR ρ (.pointer (some ⟨b,o,none⟩)) (.pointer (some ⟨r.b,r.s+o,none⟩))
 | nilslice (l c:Nat):c<A4→VR ρ (.slice none l c) (.slice none l c)
 | slice (b o l c c':Nat) (r:RB):ρ[b]?=some r→Y9 r o c c'→VR ρ (.slice (some ⟨b,o,none⟩) l c) (.slice (some ⟨r.b,r.s+o,none⟩) l c')
 | zany (a:Addr) (c':Nat):a.spot=none→VR ρ (.slice (some ⟨ZB,1,some 0⟩) 0 A4) (.slice (some a) 0 c')
 | zslice (o:Nat) (a:Addr):VR ρ (.slice (some ⟨ZB,o,some 0⟩) 0 0) (.slice (some a) 0 0)
 | nilmap:VR ρ (.map none) (.map none)
 | map (b:Nat) (r:RB):ρ[b]?=some r→VR ρ (.map (some b)) (.map (some r.b))
 | func (fn:Fn) (f f' c c':Array Value):f.size=f'.size→c.size=c'.size→(∀ (i:Nat) (v v':Value),f[i]?=some v→f'[i]?=some v'→VR ρ v v')→(∀ (i:Nat) (v v':Value),c[i]?=some v→c'[i]?=some v'→VR ρ v v')→VR ρ (.func fn f c) (.func fn f' c')
 | nilFunc:VR ρ .nilFunc .nilFunc
 | nilIface:VR ρ .nilIface .nilIface
 | iface (t:TypeId) (v v':Value):v≠undef→VR ρ v v'→VR ρ (.iface t v) (.iface t v')
 | agg (c c':Array Value):c.size=c'.size→(∀ (i:Nat) (v v':Value),c[i]?=some v→c'[i]?=some v'→VR ρ v v')→VR ρ (.agg c) (.agg c')
 | tuple (c c':Array Value):c.size=c'.size→(∀ (i:Nat) (v v':Value),c[i]?=some v→c'[i]?=some v'→VR ρ v v')→VR ρ (.tuple c) (.tuple c')
def EJ (ρ ρ':List RB):Prop:=∀ (i:Nat) (r:RB),ρ[i]?=some r→ρ'[i]?=some r
theorem EJ.refl (ρ:List RB):EJ ρ ρ:=fun _ _ h=>h
theorem EJ.trans {a b c:List RB} (h:EJ a b) (k:EJ b c):EJ a c:=fun i r x=>k i r (h i r x)
theorem EJ.append (ρ:List RB) (l:List RB):EJ ρ (ρ++l):=fun i r h=>by
 rw [List.getElem?_append_left (List.getElem?_eq_some_iff.1 h).1]; exact h
theorem VR.mono {ρ ρ':List RB} (e:EJ ρ ρ') {v v':Value} (h:VR ρ v v'):VR ρ' v v':=by
 induction h with
 | dead v=>exact .dead v
 | skp=>exact .skp
 | bool b=>exact .bool b
 | int k n=>exact .int k n
 | string s=>exact .string s
 | nilptr=>exact .nilptr
 | ptr b o r h=>exact .ptr b o r (e _ _ h)
 | nilslice l c h=>exact .nilslice l c h
 | slice b o l c c' r h k=>exact .slice b o l c c' r (e _ _ h) k
 | zany a c' h=>exact .zany a c' h
 | zslice o a=>exact .zslice o a
 | nilmap=>exact .nilmap
 | map b r h=>exact .map b r (e _ _ h)
 | func fn f f' c c' h1 h2 _ _ i1 i2=>exact .func fn f f' c c' h1 h2 i1 i2
 | nilFunc=>exact .nilFunc
 | nilIface=>exact .nilIface
 | iface t v v' hd _ ih=>exact .iface t v v' hd ih
 | agg c c' h _ ih=>exact .agg c c' h ih
 | tuple c c' h _ ih=>exact .tuple c c' h ih
def LR (ρ:List RB) (l l':List Value):Prop:=l.length=l'.length∧∀ (i:Nat) (v v':Value),l[i]?=some v→l'[i]?=some v'→VR ρ v v'
theorem LR.mono {ρ ρ':List RB} (e:EJ ρ ρ') {l l':List Value} (h:LR ρ l l'):LR ρ' l l':=⟨h.1,fun i v v' a b=>(h.2 i v v' a b).mono e⟩
theorem LR.nil (ρ:List RB):LR ρ [] []:=⟨rfl,fun i v v' h=>by simp at h⟩
theorem LR.cons {ρ:List RB} {v v':Value} {l l':List Value} (h:VR ρ v v') (t:LR ρ l l'):LR ρ (v::l) (v'::l'):=by
 refine ⟨by simp [t.1],fun i a b ha hb=>?_⟩
 cases i with
 | zero=>simp at ha hb; subst ha; subst hb; exact h
 | succ i=>simp at ha hb; exact t.2 i a b ha hb
theorem LR.tail {ρ:List RB} {v v':Value} {l l':List Value} (h:LR ρ (v::l) (v'::l')):VR ρ v v'∧LR ρ l l':=by
 refine ⟨h.2 0 v v' rfl rfl,by have:=h.1; simpa using this,fun i a b ha hb=>h.2 (i+1) a b (by simpa using ha) (by simpa using hb)⟩
theorem LR.cons_inv {ρ:List RB} {v:Value} {l l':List Value} (h:LR ρ (v::l) l'):∃ v' t',l'=v'::t'∧VR ρ v v'∧LR ρ l t':=by
 cases l' with
 | nil=>have:=h.1; simp at this
 | cons v' t'=>exact ⟨v',t',rfl,h.tail⟩
theorem LR.nil_inv {ρ:List RB} {l':List Value} (h:LR ρ [] l'):l'=[]:=List.length_eq_zero_iff.1 h.1.symm
theorem LR.get {ρ:List RB} {l l':List Value} (h:LR ρ l l') {i:Nat} {v:Value} (hv:l[i]?=some v):∃ v',l'[i]?=some v'∧VR ρ v v':=by
 have hi:i<l'.length:=h.1▸(List.getElem?_eq_some_iff.1 hv).1
 exact ⟨l'[i],by simp [hi],h.2 i v _ hv (by simp [hi])⟩
theorem LR.append {ρ:List RB} {a a' b b':List Value} (h:LR ρ a a') (k:LR ρ b b'):LR ρ (a++b) (a'++b'):=by
 induction a generalizing a' with
 | nil=>rw [h.nil_inv]; exact k
 | cons v t ih=>obtain ⟨v',t',rfl,h1,h2⟩:=h.cons_inv; exact LR.cons h1 (ih h2)
theorem LR.take {ρ:List RB} {a a':List Value} (h:LR ρ a a') (n:Nat):LR ρ (a.take n) (a'.take n):=by
 refine ⟨by simp [h.1],fun i v v' x y=>?_⟩
 rw [List.getElem?_take] at x y
 split at x<;>simp_all
 exact h.2 i v v' x y
theorem LR.drop {ρ:List RB} {a a':List Value} (h:LR ρ a a') (n:Nat):LR ρ (a.drop n) (a'.drop n) :=
 ⟨by simp [h.1],fun i v v' x y=>h.2 (n+i) v v' (by simpa using x) (by simpa using y)⟩
theorem LR.arr {ρ:List RB} {c c':Array Value} (h:LR ρ c.toList c'.toList):c.size=c'.size∧∀ (i:Nat) (v v':Value),c[i]?=some v→c'[i]?=some v'→VR ρ v v' :=
 ⟨by have:=h.1; simpa using this,fun i v v' a b=>h.2 i v v' (by simpa using a) (by simpa using b)⟩
theorem LR.of_arr {ρ:List RB} {c c':Array Value} (h:c.size=c'.size) (k:∀ (i:Nat) (v v':Value),c[i]?=some v→c'[i]?=some v'→VR ρ v v'):LR ρ c.toList c'.toList :=
 ⟨by simpa using h,fun i v v' a b=>k i v v' (by simpa using a) (by simpa using b)⟩
theorem VR.agg' {ρ:List RB} {c c':Array Value} (h:LR ρ c.toList c'.toList):VR ρ (.agg c) (.agg c'):=.agg _ _ h.arr.1 h.arr.2
theorem VR.tuple' {ρ:List RB} {c c':Array Value} (h:LR ρ c.toList c'.toList):VR ρ (.tuple c) (.tuple c'):=.tuple _ _ h.arr.1 h.arr.2
def DQ:Value→Bool
 | .tuple _=>false
 | _=>true
def C7:Value:=.tuple #[.chan none]
def isSkip:Value→Bool
 | .tuple c=>match c.toList with
   | [.chan none]=>true
   | _=>false
 | _=>false
theorem VR.isSkip {ρ:List RB} {v v':Value} (h:VR ρ v v') (hs:Ax.isSkip v=true):v'=undef:=by
 cases h with
 | skp=>rfl
 | tuple c c' hsz hi =>
   unfold Ax.isSkip at hs
   simp only at hs
   split at hs
   ·rename_i hc
    have h0:c[0]?=some (.chan none):=by rw [← Array.getElem?_toList,hc]; rfl
    have hlen:c.size=1:=by rw [← Array.length_toList,hc]; rfl
    have h1:c'[0]?=some (c'[0]'(by omega)):=by simp
    have:=hi 0 _ _ h0 h1
    generalize c'[0]'(by omega)=x at this
    cases this
   ·cases hs
 | _=>simp [Ax.isSkip,undef] at hs
theorem VR.live_eq {ρ:List RB} {v v':Value} (h:VR ρ v v') (hl:DQ v=true):DQ v'=true∧v.oneCell'=v'.oneCell':=by
 cases h<;>simp_all [DQ,undef,Value.oneCell']
theorem VR.cells {ρ:List RB} {v v':Value} (h:VR ρ v v') (hl:DQ v=true):LR ρ v.cells.toList v'.cells.toList:=by
 cases h with
 | agg c c' a b=>exact LR.of_arr a b
 | tuple c c' a b=>simp [DQ] at hl
 | dead v=>simp [DQ,undef] at hl
 | skp=>simp [DQ] at hl
 | _=>exact LR.cons (by constructor<;>assumption) (LR.nil _)
end Go.Ax
namespace Go.Ax
open Go.RowKit
structure oG (fz:Nat×Nat) (n:Nat):Prop where
 or:fz.1=fz.2∨n≤fz.1
theorem oG.zero (n:Nat):oG (0,0) n:=⟨.inl rfl⟩
theorem oG.at {fz:Nat×Nat} {n:Nat} (h:oG fz n) (j:Nat) (hj:j<n):(decide (fz.1≤j) && decide (j<fz.2))=false:=by
 rcases h.or with h | h
 ·rw [h]
  rcases Nat.lt_or_ge j fz.2 with k | k
  ·(simp; try omega)
  ·(simp; try omega)
 ·(simp; try omega)
def EK (ρ:List RB) (es es':List MapEntry):Prop :=
 es.length=es'.length∧∀ (i:Nat) (e e':MapEntry),es[i]?=some e→es'[i]?=some e'→VR ρ e.key e'.key∧VR ρ e.val e'.val∧e.born=e'.born∧DQ e.key=true
theorem EK.mono {ρ ρ':List RB} (x:EJ ρ ρ') {es es':List MapEntry} (h:EK ρ es es'):EK ρ' es es' :=
 ⟨h.1,fun i e e' a b=>let ⟨k,v,c,d⟩:=h.2 i e e' a b; ⟨k.mono x,v.mono x,c,d⟩⟩
def jP (ρ:List RB) (r:RB) (heap:Array Obj):C9→Prop
 | .cells c e opn=>∃ c' fz,heap[r.b]?=some (.cells c' e fz)∧oG fz c'.size∧c'.size=r.n∧(opn=false→r.s+c.length=r.n)∧r.s+c.length≤r.n∧LR ρ c ((c'.toList.drop r.s).take c.length)
 | .ro c e=>∃ c' fz,heap[r.b]?=some (.cells c' e fz)∧c'.size=r.n∧r.s+c.length≤r.n∧LR ρ c ((c'.toList.drop r.s).take c.length)
 | .map es clock=>∃ es',heap[r.b]?=some (.map es' clock)∧EK ρ es es'.toList
 | .strIter s pos=>r.s=0∧heap[r.b]?=some (.stringIter s pos)
 | .mapIter m since seen stepped=>∃ m',r.s=0∧heap[r.b]?=some (.mapIter m' since seen.toArray stepped)∧VR ρ (.map m) (.map m')
 | .dead=>True
theorem jP.mono {ρ ρ':List RB} (x:EJ ρ ρ') {r:RB} {h h':Array Obj} (hh:h'[r.b]?=h[r.b]?) {o:C9} (k:jP ρ r h o):jP ρ' r h' o:=by
 cases o with
 | cells c e opn=>obtain ⟨c',fz,a,b,d,f,g,j⟩:=k; exact ⟨c',fz,by rw [hh]; exact a,b,d,f,g,j.mono x⟩
 | ro c e=>obtain ⟨c',fz,a,b,d,f⟩:=k; exact ⟨c',fz,by rw [hh]; exact a,b,d,f.mono x⟩
 | map es clock=>obtain ⟨es',a,b⟩:=k; exact ⟨es',by rw [hh]; exact a,b.mono x⟩
 | strIter s pos=>exact ⟨k.1,by rw [hh]; exact k.2⟩
 | mapIter m since seen stepped=>obtain ⟨m',a,b,d⟩:=k; exact ⟨m',a,by rw [hh]; exact b,d.mono x⟩
 | dead=>trivial
structure CF (B:Nat) (w0:World) (ρ:List RB) (σ:AHeap) (w:World):Prop where
 len:ρ.length=σ.size
 obj:∀ i o,σ.get i=some o→∃ r,ρ[i]?=some r∧jP ρ r w.heap o∧(o.writable=true→B≤r.b)∧(o.writable=false→o≠.dead→r.b<B)
 inj:∀ i j oi oj ri rj,σ.get i=some oi→σ.get j=some oj→oi.writable=true→oj.writable=true→ρ[i]?=some ri→ρ[j]?=some rj→ri.b=rj.b→i=j
 below:Below B w0 w
 base:B≤w0.heap.size
theorem CF.drew {B:Nat} {w0:World} {ρ:List RB} {σ:AHeap} {w:World} (h:CF B w0 ρ σ w):CF B w0 ρ σ w.drew :=
 ⟨h.len,h.obj,h.inj,h.below.drew,h.base⟩
theorem CF.hsize {B:Nat} {w0:World} {ρ:List RB} {σ:AHeap} {w:World} (h:CF B w0 ρ σ w):B≤w.heap.size:=Nat.le_trans h.base h.below.size
theorem CF.update {B:Nat} {w0:World} {ρ:List RB} {σ:AHeap} {w w':World} (h:CF B w0 ρ σ w) {i:Nat} {o o':C9} {r:RB}
 (hi:σ.get i=some o) (hw:o.writable=true) (hw':o'.writable=true) (hr:ρ[i]?=some r) (ho:jP ρ r w'.heap o')
 (hoth:∀ k,k≠r.b→w'.heap[k]?=w.heap[k]?) (hos:w'.os=w.os) (ht:w'.tape=w.tape) (hout:w'.output=w.output) (hs:w'.heap.size=w.heap.size) :
 CF B w0 ρ (σ.set i o') w':=by
 obtain ⟨r0,hr0,_,hB,_⟩:=h.obj i o hi
 rw [hr] at hr0; cases hr0
 have hB:=hB hw
 refine ⟨by simpa using h.len,fun j q hj=>?_,fun j k oj ok rj rk hj hk wj wk rj' rk' e=>?_,?_,h.base⟩
 ·rw [AHeap.get_set] at hj
  split at hj
  ·rename_i e; subst e; cases hj; exact ⟨r,hr,ho,fun _=>hB,fun x=>by rw [hw'] at x; cases x⟩
  ·rename_i e
   obtain ⟨rj,a,b,c,d⟩:=h.obj j q hj
   refine ⟨rj,a,?_,c,d⟩
   by_cases hq:q.writable=true
   ·exact b.mono (EJ.refl _) (hoth _ fun x=>e (h.inj j i q o rj r hj hi hq hw a hr x))
   ·cases q with
    | dead=>trivial
    | ro c' e'=>exact b.mono (EJ.refl _) (hoth _ fun x=>by have:=d rfl (by simp); omega)
    | _=>simp [C9.writable] at hq
 ·rw [AHeap.get_set] at hj hk
  have key:∀ {a:Nat} {q:C9},(if a=i then some o' else σ.get a)=some q→∃ q',σ.get a=some q'∧(q.writable=true→q'.writable=true):=by
   intro a q x
   split at x
   ·rename_i e; subst e; exact ⟨o,hi,fun _=>hw⟩
   ·exact ⟨q,x,id⟩
  obtain ⟨qj,a1,b1⟩:=key hj
  obtain ⟨qk,a2,b2⟩:=key hk
  exact h.inj j k qj qk rj rk a1 a2 (b1 wj) (b2 wk) rj' rk' e
 ·refine h.below.trans ⟨hos,ht,hout,by omega,fun k hk=>hoth k (by omega)⟩
theorem CF.new {B:Nat} {w0:World} {ρ:List RB} {σ:AHeap} {w:World} (h:CF B w0 ρ σ w) {o:C9} {x:Obj} {n:Nat}
 (hw:o.writable=true) (ho:∀ r:RB,r=⟨w.heap.size,0,n⟩→jP (ρ++[r]) r (w.alloc x).heap o) :
 CF B w0 (ρ++[⟨w.heap.size,0,n⟩]) (σ.push o) (w.alloc x)∧EJ ρ (ρ++[⟨w.heap.size,0,n⟩])∧(ρ++[⟨w.heap.size,0,n⟩])[σ.size]?=some ⟨w.heap.size,0,n⟩:=by
 have hext:=EJ.append ρ [⟨w.heap.size,0,n⟩]
 have hnew:(ρ++[(⟨w.heap.size,0,n⟩:RB)])[σ.size]?=some ⟨w.heap.size,0,n⟩:=by rw [← h.len]; simp
 have hold:∀ k,k<w.heap.size→(w.alloc x).heap[k]?=w.heap[k]?:=fun k hk=>Below.heap_alloc _ _ _ hk
 have hlt:∀ i q r,σ.get i=some q→q.writable=true→ρ[i]?=some r→r.b<w.heap.size:=by
  intro i q r hi hq hr
  obtain ⟨r0,a,b,_,_⟩:=h.obj i q hi
  rw [hr] at a; cases a
  have:w.heap[r.b]?≠none:=by
   cases q with
   | cells c e opn=>obtain ⟨c',fz,y,_⟩:=b; rw [y]; simp
   | map es cl=>obtain ⟨es',y,_⟩:=b; rw [y]; simp
   | strIter s p=>rw [b.2]; simp
   | mapIter m s1 s2 s3=>obtain ⟨m',_,y,_⟩:=b; rw [y]; simp
   | ro c e=>simp [C9.writable] at hq
   | dead=>simp [C9.writable] at hq
  rcases Nat.lt_or_ge r.b w.heap.size with k | k
  ·exact k
  ·exact absurd (Array.getElem?_eq_none k) this
 refine ⟨⟨by simp [h.len],fun i q hi=>?_,fun i j oi oj ri rj hi hj wi wj ri' rj' e=>?_,h.below.alloc h.hsize _,h.base⟩,hext,hnew⟩
 ·rw [AHeap.get_push] at hi
  split at hi
  ·rename_i e; subst e; cases hi
   exact ⟨_,hnew,ho _ rfl,fun _=>h.hsize,fun y=>by rw [hw] at y; cases y⟩
  ·obtain ⟨r,a,b,c,d⟩:=h.obj i q hi
   refine ⟨r,hext _ _ a,?_,c,d⟩
   by_cases hq:q.writable=true
   ·exact b.mono hext (hold _ (hlt i q r hi hq a))
   ·cases q with
    | dead=>trivial
    | ro c' e'=>exact b.mono hext (hold _ (by have:=d rfl (by simp); have:=h.hsize; omega))
    | _=>simp [C9.writable] at hq
 ·rw [AHeap.get_push] at hi hj
  have old:∀ {a:Nat} {q:C9} {r:RB},σ.get a=some q→(ρ++[(⟨w.heap.size,0,n⟩:RB)])[a]?=some r→ρ[a]?=some r:=by
   intro a q r y z
   obtain ⟨r0,y',_⟩:=h.obj a q y
   rw [hext _ _ y'] at z; cases z; exact y'
  split at hi<;>split at hj
  ·omega
  ·rename_i e1 e2; subst e1; cases hi
   rw [hnew] at ri'; cases ri'
   have:=hlt j oj rj hj wj (old hj rj')
   simp at e; omega
  ·rename_i e1 e2; subst e2; cases hj
   rw [hnew] at rj'; cases rj'
   have:=hlt i oi ri hi wi (old hi ri')
   simp at e; omega
  ·exact h.inj i j oi oj ri rj hi hj wi wj (old hi ri') (old hj rj') e
theorem CF.garbage {B:Nat} {w0:World} {ρ:List RB} {σ:AHeap} {w:World} (h:CF B w0 ρ σ w) (x:Obj):CF B w0 ρ σ (w.alloc x):=by
 have hold:∀ k,k<w.heap.size→(w.alloc x).heap[k]?=w.heap[k]?:=fun k hk=>Below.heap_alloc _ _ _ hk
 refine ⟨h.len,fun i q hi=>?_,h.inj,h.below.alloc h.hsize _,h.base⟩
 obtain ⟨r,a,b,c,d⟩:=h.obj i q hi
 refine ⟨r,a,?_,c,d⟩
 have hlt:q≠.dead→r.b<w.heap.size:=by
  intro hd
  have:w.heap[r.b]?≠none:=by
   cases q with
   | cells c e opn=>obtain ⟨c',fz,y,_⟩:=b; rw [y]; simp
   | map es cl=>obtain ⟨es',y,_⟩:=b; rw [y]; simp
   | strIter s p=>rw [b.2]; simp
   | mapIter m s1 s2 s3=>obtain ⟨m',_,y,_⟩:=b; rw [y]; simp
   | ro c e=>obtain ⟨c',fz,y,_⟩:=b; rw [y]; simp
   | dead=>exact absurd rfl hd
  rcases Nat.lt_or_ge r.b w.heap.size with k | k
  ·exact k
  ·exact absurd (Array.getElem?_eq_none k) this
 cases q with
 | dead=>trivial
 | _=>exact b.mono (EJ.refl _) (hold _ (hlt (by simp)))
theorem CF.kill {B:Nat} {w0:World} {ρ:List RB} {σ:AHeap} {w:World} (h:CF B w0 ρ σ w) (i:Nat) (hi:σ.get i≠none):CF B w0 ρ (σ.set i .dead) w:=by
 refine ⟨by simpa using h.len,fun j q hj=>?_,fun j k oj ok rj rk hj hk wj wk rj' rk' e=>?_,h.below,h.base⟩
 ·rw [AHeap.get_set] at hj
  split at hj
  ·rename_i e; subst e; cases hj
   cases hx:σ.get j with
   | none=>exact absurd hx hi
   | some q=>obtain ⟨r,a,_⟩:=h.obj j q hx; exact ⟨r,a,trivial,fun y=>by simp [C9.writable] at y,fun _ y=>absurd rfl y⟩
  ·exact h.obj j q hj
 ·rw [AHeap.get_set] at hj hk
  split at hj
  ·cases hj; simp [C9.writable] at wj
  ·split at hk
   ·cases hk; simp [C9.writable] at wk
   ·exact h.inj j k oj ok rj rk hj hk wj wk rj' rk' e
theorem CF.rebirth {B:Nat} {w0:World} {ρ:List RB} {σ:AHeap} {w w':World} (h:CF B w0 ρ σ w) {i:Nat} {o o':C9} {r r2:RB}
 (hi:σ.get i=some o) (hw:o.writable=true) (hw':o'.writable=true) (hr:ρ[i]?=some r) (hb:r2.b=r.b) (ho:jP (ρ++[r2]) r2 w'.heap o')
 (hoth:∀ k,k≠r.b→w'.heap[k]?=w.heap[k]?) (hos:w'.os=w.os) (ht:w'.tape=w.tape) (hout:w'.output=w.output) (hs:w'.heap.size=w.heap.size) :
 CF B w0 (ρ++[r2]) ((σ.set i .dead).push o') w'∧EJ ρ (ρ++[r2])∧(ρ++[r2])[σ.size]?=some r2:=by
 have hext:=EJ.append ρ [r2]
 have hnew:(ρ++[r2])[σ.size]?=some r2:=by rw [← h.len]; simp
 obtain ⟨r0,hr0,_,hB,_⟩:=h.obj i o hi
 rw [hr] at hr0; cases hr0
 have hB:=hB hw
 have hlt:∀ {j q},σ.get j=some q→j<σ.size:=by
  intro j q hj
  obtain ⟨x,hx,_⟩:=h.obj j q hj
  have:=(List.getElem?_eq_some_iff.1 hx).1
  rw [h.len] at this; exact this
 have key:∀ {j q},((σ.set i .dead).push o').get j=some q→(j=σ.size∧q=o')∨(j=i∧q=.dead)∨(j≠i∧σ.get j=some q):=by
  intro j q hj
  rw [AHeap.get_push] at hj
  split at hj
  ·exact .inl ⟨by assumption,by cases hj; rfl⟩
  ·rw [AHeap.get_set] at hj
   split at hj
   ·exact .inr (.inl ⟨by assumption,by cases hj; rfl⟩)
   ·exact .inr (.inr ⟨by assumption,hj⟩)
 have old:∀ {a:Nat} {q:C9} {x:RB},σ.get a=some q→(ρ++[r2])[a]?=some x→ρ[a]?=some x:=by
  intro a q x y z
  obtain ⟨r0,y',_⟩:=h.obj a q y
  rw [hext _ _ y'] at z; cases z; exact y'
 refine ⟨⟨by simp [h.len],fun j q hj=>?_,fun j k oj ok rj rk hj hk wj wk rj' rk' e=>?_,?_,h.base⟩,hext,hnew⟩
 ·rcases key hj with ⟨rfl,rfl⟩ | ⟨rfl,rfl⟩ | ⟨hne,hj⟩
  ·exact ⟨r2,hnew,ho,fun _=>by omega,fun y=>by rw [hw'] at y; cases y⟩
  ·exact ⟨r,hext _ _ hr,trivial,fun y=>by simp [C9.writable] at y,fun _ y=>absurd rfl y⟩
  ·obtain ⟨rj,a,b,c,d⟩:=h.obj j q hj
   refine ⟨rj,hext _ _ a,?_,c,d⟩
   by_cases hq:q.writable=true
   ·exact b.mono hext (hoth _ fun x=>hne (h.inj j i q o rj r hj hi hq hw a hr x))
   ·cases q with
    | dead=>trivial
    | ro c' e'=>exact b.mono hext (hoth _ fun x=>by have:=d rfl (by simp); omega)
    | _=>simp [C9.writable] at hq
 ·rcases key hj with ⟨rfl,rfl⟩ | ⟨rfl,rfl⟩ | ⟨hne,hj2⟩<;>rcases key hk with ⟨rfl,rfl⟩ | ⟨rfl,rfl⟩ | ⟨hne2,hk2⟩
  ·rfl
  ·simp [C9.writable] at wk
  ·rw [hnew] at rj'; cases rj'
   exact absurd (h.inj k i ok o rk r hk2 hi wk hw (old hk2 rk') hr (by rw [← e,hb])) hne2
  ·simp [C9.writable] at wj
  ·simp [C9.writable] at wj
  ·simp [C9.writable] at wj
  ·rw [hnew] at rk'; cases rk'
   exact absurd (h.inj j i oj o rj r hj2 hi wj hw (old hj2 rj') hr (by rw [e,hb])) hne
  ·simp [C9.writable] at wk
  ·exact h.inj j k oj ok rj rk hj2 hk2 wj wk (old hj2 rj') (old hk2 rk') e
 ·exact h.below.trans ⟨hos,ht,hout,by omega,fun k hk=>hoth k (by omega)⟩
def AHeap.row (σ:AHeap) (b:Nat):Option (List Value) :=
 match σ.get b with
 | some (.cells c _ _)=>some c
 | some (.ro c _)=>some c
 | _=>none
theorem CF.read {B:Nat} {w0:World} {ρ:List RB} {σ:AHeap} {w:World} (h:CF B w0 ρ σ w) {b:Nat} {c:List Value} {r:RB}
 (hc:σ.row b=some c) (hr:ρ[b]?=some r):∃ c',LR ρ c c'∧∀ (j:Nat) v,c'[j]?=some v→w.cell? ⟨r.b,r.s+j,none⟩=some v:=by
 unfold AHeap.row at hc
 have key:∀ (c':Array Value) (e:TypeId) (fz:Nat×Nat) (n:Nat),w.heap[r.b]?=some (.cells c' e fz)→∀ (j:Nat) v,((c'.toList.drop r.s).take n)[j]?=some v→w.cell? ⟨r.b,r.s+j,none⟩=some v:=by
  intro c' e fz n hh j v hv
  rw [List.getElem?_take] at hv
  split at hv
  ·simp at hv; simp [World.cell?,hh,hv]
  ·cases hv
 split at hc
 ·rename_i c0 e opn hg; cases hc
  obtain ⟨r0,a,⟨c',fz,x1,x2,x4,x5,x6,x7⟩,_⟩:=h.obj b _ hg
  rw [hr] at a; cases a
  exact ⟨_,x7,key c' e fz _ x1⟩
 ·rename_i c0 e hg; cases hc
  obtain ⟨r0,a,⟨c',fz,x1,x2,x3,x4⟩,_⟩:=h.obj b _ hg
  rw [hr] at a; cases a
  exact ⟨_,x4,key c' e fz _ x1⟩
 ·cases hc
def splice (c:List Value) (o:Nat) (l:List Value):List Value:=c.take o++l++c.drop (o+l.length)
theorem JN (c:List Value) (o:Nat) (l:List Value) (h:o+l.length≤c.length):(splice c o l).length=c.length:=by
 simp [splice]; omega
section
variable {P:Program}
theorem KH (g o:Nat) (t:TypeId) (fz:Nat×Nat):∀ (vs:List Value) (i:Nat) (cur:Array Value) (w:World),w.heap[g]?=some (.cells cur t fz)→oG fz cur.size→o+i+vs.length≤cur.size→(∀ v∈vs,v.oneCell'=true)→(storeCells ⟨g,o,none⟩ vs i).run P w=.ok () (w.setRow g (cur.toList.take (o+i)++vs++cur.toList.drop (o+i+vs.length)).toArray)
 | [],i,cur,w,hg,_,_,_=>by
   simp only [storeCells,List.append_nil,List.length_nil,Nat.add_zero,List.take_append_drop,Array.toArray_toList]
   rw [setRow_self w g cur t fz hg]
   rfl
 | v::rest,i,cur,w,hg,hf,hl,h1=>by
   have hi:o+i<cur.size:=by simp at hl; omega
   have hadd:(⟨g,o,none⟩:Addr).add i=⟨g,o+i,none⟩:=by unfold Addr.add; split<;>simp_all
   have hcell:w.cell? ⟨g,o+i,none⟩=some cur[o+i]:=by simp [World.cell?,hg,hi]
   have hfro:w.frozen? ⟨g,o+i,none⟩=false:=by obtain ⟨lo,hi'⟩:=fz; simpa [World.frozen?,hg] using hf.at (o+i) hi
   have hst:(store ((⟨g,o,none⟩:Addr).add i) v).run P w=.ok () (w.setRow g (cur.setIfInBounds (o+i) v)):=by
    rw [hadd,run_store P w _ v _ (h1 v (by simp)),hcell]
    simp [hfro,setCell_eq_setRow w g (o+i) cur t fz v hg]
   have ih:=KH g o t fz rest (i+1) (cur.setIfInBounds (o+i) v) (w.setRow g (cur.setIfInBounds (o+i) v)) (setRow_heap w g cur _ t _ hg) (by simpa using hf) (by simp at hl ⊢; omega) (fun x hx=>h1 x (by simp [hx]))
   simp only [storeCells,Sem.run_bind,hst,Result.andThen_ok,ih,setRow_setRow]
   congr 3
   have hs:=list_seg_step cur.toList (o+i) v rest (by simp at hl ⊢; omega)
   simp only [Array.toList_setIfInBounds,List.length_cons] at *
   rw [show o+(i+1)=o+i+1 by omega]
   exact hs
end
theorem SE (c' l':List Value) (s n o m:Nat) (hm:l'.length=m) (ho:o+m≤n) (hn:s+n≤c'.length) :
 ((c'.take (s+o)++l'++c'.drop (s+o+m)).drop s).take n=splice ((c'.drop s).take n) o l':=by
 subst hm
 apply List.ext_getElem?
 intro j
 simp only [splice,List.getElem?_take,List.getElem?_drop,List.getElem?_append,List.length_take,List.length_append,List.length_drop]
 by_cases h1:j<n
 ·rw [if_pos h1]
  by_cases h2:j<o
  ·rw [if_pos (by omega),if_pos (by omega),if_pos (by omega),if_pos (by omega),if_pos (by omega),if_pos (by omega),if_pos (by omega)]
  ·by_cases h3:j<o+l'.length
   ·rw [if_pos (by omega),if_neg (by omega),if_pos (by omega),if_neg (by omega)]
    congr 1; omega
   ·rw [if_neg (by omega),if_neg (by omega),if_pos (by omega)]
    congr 1; omega
 ·rw [if_neg h1]
  split
  ·rename_i h2; split
   ·rename_i h3; simp<;>omega
   ·rename_i h3; simp<;>omega
  ·rename_i h2; rw [if_neg (by omega)]
theorem LR.splice {ρ:List RB} {c c' l l':List Value} (h:LR ρ c c') (k:LR ρ l l') (o:Nat):LR ρ (splice c o l) (splice c' o l'):=by
 unfold Ax.splice
 rw [← k.1]
 exact (h.take o |>.append k).append (h.drop _)
theorem CF.write {P:Program} {B:Nat} {w0:World} {ρ:List RB} {σ:AHeap} {w:World} (h:CF B w0 ρ σ w) {b o:Nat} {c l l':List Value} {e:TypeId} {opn:Bool} {r:RB}
 (hg:σ.get b=some (.cells c e opn)) (hr:ρ[b]?=some r) (hl:LR ρ l l') (h1:∀ v∈l',v.oneCell'=true) (ho:o+l.length≤c.length) :
 ∃ w',(storeCells ⟨r.b,r.s+o,none⟩ l' 0).run P w=.ok () w'∧CF B w0 ρ (σ.set b (.cells (splice c o l) e opn)) w'∧w'.heap.size=w.heap.size:=by
 obtain ⟨r0,a,⟨c',fz,x1,x2,x4,x5,x5',x7⟩,_⟩:=h.obj b _ hg
 rw [hr] at a; cases a
 have hll:=hl.1
 have hs:c'.toList.length=r.n:=by simpa using x4
 refine ⟨_,KH r.b (r.s+o) e fz l' 0 c' w x1 x2 (by rw [x4]; omega) h1,?_,by simp [World.setRow]⟩
 refine h.update hg rfl rfl hr ⟨_,fz,setRow_heap w r.b c' _ e fz x1,?_,?_,?_,?_,?_⟩ (fun k hk=>setRow_other _ _ _ _ hk) rfl rfl rfl (by simp [World.setRow])
 ·have:(c'.toList.take (r.s+o+0)++l'++c'.toList.drop (r.s+o+0+l'.length)).toArray.size=c'.size:=by simp; omega
  rw [this]; exact x2
 ·simp; omega
 ·intro hh; rw [JN _ _ _ ho]; exact x5 hh
 ·rw [JN _ _ _ ho]; exact x5'
 ·rw [JN _ _ _ ho]
  have:=SE c'.toList l' r.s c.length o l'.length rfl (by omega) (by omega)
  simp only [Nat.add_zero]
  rw [this]
  exact x7.splice hl o
end Go.Ax
namespace Go.Ax
def y0:TypeDesc→Bool
 | .struct _ | .array _ _=>true
 | _=>false
def eR (P:Program) (t:TypeId):Option (Bool×Nat) :=
 match P.underlying t,P.info? t with
 | some d,some i=>some (y0 d,i.size)
 | _,_=>none
def OJ:Value→Bool
 | .bool _ | .int _ _ | .string _ | .pointer none | .map none | .nilFunc | .nilIface=>true
 | .slice none _ c=>Nat.blt c A4
 | _=>false
def CK (P:Program) (t:TypeId):Option Value :=
 match P.info? t with
 | some i=>match i.zero with
   | some z=>cond (z.cells.toList.all OJ && Nat.beq z.cells.size i.size) (some z) none
   | none=>none
 | none=>none
def DH (P:Program) (t:TypeId):Option (TypeId×Nat×Nat) :=
 match P.underlying t with
 | some (.slice e)=>match P.info? e with
   | some i=>some (e,i.size,i.bytes)
   | none=>none
 | _=>none
def oQ (σ:AHeap) (a:Addr) (n:Nat):Option (List Value) :=
 match n with
 | 0=>some []
 | m+1=>(σ.row a.block).bind fun c=>cond (Nat.ble (a.off+(m+1)) c.length) (some ((c.drop a.off).take (m+1))) none
def AF (g:Bool) (n:Nat) (x:Value) (σ:AHeap):Option Value :=
 match x with
 | .pointer (some a)=>cond g ((oQ σ a n).map fun l=>.agg l.toArray) ((σ.row a.block).bind fun c=>c[a.off]?)
 | _=>none
def PL (a:Addr) (l:List Value) (σ:AHeap):Option AHeap :=
 match l with
 | []=>some σ
 | _=>match σ.get a.block with
   | some (.cells c e opn)=>cond (l.all Value.oneCell' && Nat.ble (a.off+l.length) c.length) (some (σ.set a.block (.cells (splice c a.off l) e opn))) none
   | _=>none
def AP (n:Nat) (x v:Value) (σ:AHeap):Option AHeap :=
 match x with
 | .pointer (some a)=>cond (DQ v && Nat.beq v.cells.size n) (PL a v.cells.toList σ) none
 | _=>none
def yY (e:TypeId) (l:List Value) (σ:AHeap):Value×AHeap:=(.pointer (some ⟨σ.size,0,none⟩),σ.push (.cells l e false))
def ACv (e:TypeId) (v:Value) (σ:AHeap):Option (Value×AHeap):=cond (DQ v) (some (yY e v.cells.toList σ)) none
def asB:Value→Option Bool
 | .bool b=>some b
 | _=>none
def UI (op:BinOp) (k:IntKind) (a b:Int):Option Value :=
 match op with
 | .add=>some (.int k (k.wrap (a+b)))
 | .sub=>some (.int k (k.wrap (a - b)))
 | .mul=>some (.int k (k.wrap (a*b)))
 | .quo=>if b=0 then none else some (.int k (k.wrap (a.tdiv b)))
 | .rem=>if b=0 then none else some (.int k (a.tmod b))
 | .and=>some (.int k (k.wrap (BitVec.ofInt k.bits a &&& BitVec.ofInt k.bits b).toNat))
 | .or=>some (.int k (k.wrap (BitVec.ofInt k.bits a ||| BitVec.ofInt k.bits b).toNat))
 | .xor=>some (.int k (k.wrap (BitVec.ofInt k.bits a ^^^ BitVec.ofInt k.bits b).toNat))
 | .andNot=>some (.int k (k.wrap (BitVec.ofInt k.bits a &&& ~~~BitVec.ofInt k.bits b).toNat))
 | .eql=>some (.bool (a == b))
 | .neq=>some (.bool (a != b))
 | .lss=>some (.bool (a<b))
 | .leq=>some (.bool (a≤b))
 | .gtr=>some (.bool (a > b))
 | .geq=>some (.bool (a ≥ b))
 | .shl | .shr=>none
def VW (op:BinOp) (k:IntKind) (a b:Int):Option Value :=
 if b<0 then none else
  match op with
  | .shl=>some (.int k (k.wrap (a*2 ^ (min b.toNat k.bits))))
  | .shr=>some (.int k (a.fdiv (2 ^ (min b.toNat k.bits))))
  | _=>none
def ADk (op:BinOp) (x y:ByteArray):Option Value :=
 match op with
 | .add=>if x.size+y.size≤140737488355328 then some (.string (x++y)) else none
 | .eql=>some (.bool (x.toList == y.toList))
 | .neq=>some (.bool !(x.toList == y.toList))
 | .lss=>some (.bool (Op.bytesLess x.toList y.toList))
 | .leq=>some (.bool (Op.bytesLess x.toList y.toList || x.toList == y.toList))
 | .gtr=>some (.bool !(Op.bytesLess x.toList y.toList || x.toList == y.toList))
 | .geq=>some (.bool !Op.bytesLess x.toList y.toList)
 | _=>none
def aEq (d:TypeDesc) (x y:Value):Option Bool :=
 match d,x,y with
 | .bool,.bool a,.bool b=>some (a == b)
 | .pointer _,.pointer none,.pointer b=>some b.isNone
 | .pointer _,.pointer (some _),.pointer none=>some false
 | .slice _,.slice none _ _,.slice b _ _=>some b.isNone
 | .slice _,.slice (some _) _ _,.slice none _ _=>some false
 | .map _ _,.map none,.map b=>some b.isNone
 | .map _ _,.map (some _),.map none=>some false
 | .func _ _ _,.nilFunc,.nilFunc=>some true
 | .func _ _ _,.nilFunc,.func _ _ _=>some false
 | .func _ _ _,.func _ _ _,.nilFunc=>some false
 | .interface ms,.nilIface,.nilIface=>cond ms.isEmpty (some true) none
 | .interface _,.nilIface,.iface _ _=>some false
 | .interface _,.iface _ _,.nilIface=>some false
 | _,_,_=>none
def BF (d:Option TypeDesc) (op:BinOp) (x y:Value):Option Value :=
 match x,y with
 | .int k a,.int k' b=>match op with
   | .shl=>VW .shl k a b
   | .shr=>VW .shr k a b
   | op=>if k=k' then UI op k a b else none
 | .string a,.string b=>ADk op a b
 | x,y=>match op,d with
   | .eql,some d=>(aEq d x y).map .bool
   | .neq,some d=>(aEq d x y).map fun b=>.bool !b
   | _,_=>none
def sB (op:UnOp) (x:Value):Option Value :=
 match op,x with
 | .neg,.int k n=>some (.int k (k.wrap (0 - n)))
 | .xor,.int k n=>some (.int k (k.wrap (BitVec.ofInt k.bits (if k.signed then -1 else k.max) ^^^ BitVec.ofInt k.bits n).toNat))
 | .not,.bool b=>some (.bool !b)
 | _,_=>none
def BU (c:Nat):Nat:=c % A4
def bnd (x:Value) (y:Nat):Option Nat :=
 match x with
 | .int _ i=>if 0≤i∧i≤y then some i.toNat else none
 | _=>none
def J2 (x:Option Value) (dflt y:Nat):Option Nat :=
 match x with
 | some v=>bnd v y
 | none=>some dflt
def ZA:Value:=.slice (some ⟨ZB,1,some 0⟩) 0 A4
def RI (x:Value) (lo hi:Option Value):Option Value :=
 match x with
 | .string s=>(J2 hi s.size s.size).bind fun h=>(J2 lo 0 h).bind fun l=>some (.string (s.extract l h))
 | _=>none
def A7 (z:Nat) (x:Value) (lo hi mx:Option Value):Option Value :=
 match x with
 | .slice a len c=>match mx with
   | some m=>(bnd m (BU c)).bind fun m=>match hi with
     | some hi=>(bnd hi m).bind fun h=>(J2 lo 0 h).bind fun l=>some (.slice (if m=l then a else a.map (·.add (l*z))) (h - l) (m - l))
     | none=>none
   | none=>(J2 hi len (BU c)).bind fun h=>(J2 lo 0 h).bind fun l =>
     if c<A4 then (if h≤c then some (.slice (if c=l then a else a.map (·.add (l*z))) (h - l) (c - l)) else none)
     else if l<BU c∧c / A4=z then some (.slice (a.map (·.add (l*z))) (h - l) (c - l))
     else if h=l then some ZA else none
 | _=>none
def J8 (n z:Nat) (x:Value) (lo hi mx:Option Value):Option Value :=
 match x,mx,Nat.blt n A4 with
 | .pointer (some a),none,true=>(J2 hi n n).bind fun h=>(J2 lo 0 h).bind fun l=>some (.slice (some (if n=l then a else a.add (l*z))) (h - l) (n - l))
 | _,_,_=>none
def UQ (P:Program) (t:TypeId) (x:Value) (lo hi mx:Option Value):Option Value :=
 match P.underlying t with
 | some .string=>match mx with
   | none=>RI x lo hi
   | some _=>none
 | some (.slice e)=>match P.info? e with
   | some i=>A7 i.size x lo hi mx
   | none=>none
 | some (.array n e)=>match P.info? e with
   | some i=>J8 n i.size x lo hi mx
   | none=>none
 | some (.pointer arr)=>match P.underlying arr with
   | some (.array n e)=>match P.info? e with
     | some i=>J8 n i.size x lo hi mx
     | none=>none
   | _=>none
 | _=>none
def AE (z:Nat) (x i:Value):Option Value :=
 match x,i with
 | .slice (some a) len _,.int _ i=>if 0≤i∧i<len then some (.pointer (some (a.add (i.toNat*z)))) else none
 | _,_=>none
def M4 (n z:Nat) (x i:Value):Option Value :=
 match x,i with
 | .pointer (some a),.int _ i=>if 0≤i∧i<n then some (.pointer (some (a.add (i.toNat*z)))) else none
 | _,_=>none
def KR (P:Program) (t:TypeId) (x i:Value):Option Value :=
 match P.underlying t with
 | some (.slice e)=>match P.info? e with
   | some j=>AE j.size x i
   | none=>none
 | some (.array n e)=>match P.info? e with
   | some j=>M4 n j.size x i
   | none=>none
 | _=>none
def NQ (P:Program) (t:TypeId) (f:Nat):Option Nat :=
 match P.underlying t with
 | some (.struct fs)=>match fs[f]? with
   | some fd=>match P.info? fd.type with
     | some i=>if i.size=0 then none else some fd.offset
     | none=>none
   | none=>none
 | _=>none
def AA (off:Nat) (x:Value):Option Value :=
 match x with
 | .pointer (some a)=>some (.pointer (some (a.add off)))
 | _=>none
def reps:Nat→List Value→List Value
 | 0,_=>[]
 | n+1,l=>l++reps n l
def PC (e:TypeId) (bytes:Nat) (z:List Value) (l c:Value) (σ:AHeap):Option (Value×AHeap) :=
 match l,c with
 | .int _ l,.int _ c=>if 0≤l∧l≤c∧c*bytes≤140737488355328∧c≤140737488355328 then some (.slice (some ⟨σ.size,0,none⟩) l.toNat c.toNat,σ.push (.cells (reps c.toNat z) e false)) else none
 | _,_=>none
def D5 (z:Nat) (x:Value) (σ:AHeap):Option (Nat×List Value) :=
 match x with
 | .slice (some a) n _=>(oQ σ a (n*z)).map fun l=>(n,l)
 | .slice none n _=>if n=0 then some (0,[]) else none
 | .string s=>if z=1 then some (s.size,s.data.toList.map fun b=>.int .u8 b.toNat) else none
 | _=>none
def XJ (z:Nat) (a:Option Addr) (len:Nat) (σ:AHeap):Option (List Value) :=
 match a with
 | some a=>oQ σ a (len*z)
 | none=>if len=0 then some [] else none
def G5 (e:TypeId) (z bytes:Nat) (s:Value) (n:Nat) (news:List Value) (σ:AHeap):Option (Value×AHeap) :=
 match s with
 | .slice base len c =>
   if len+n≤BU c then
    match base with
    | none=>match news with
      | []=>some (.slice none (len+n) c,σ)
      | _=>none
    | some a=>(PL (a.add (len*z)) news σ).map fun σ'=>(.slice (some a) (len+n) c,σ')
   else if (len+n)*bytes≤140737488355328∧len+n≤140737488355328∧0<z then
    (XJ z base len σ).bind fun olds =>
    if c<A4 then some (.slice (some ⟨σ.size,0,none⟩) (len+n) (A4*z+(len+n)),σ.push (.cells (olds++news) e true))
    else match base with
     | some a=>match σ.get a.block with
       | some (.cells _ e' true)=>if e'=e∧c / A4=z∧news.all Value.oneCell'∧a.spot=none then some (.slice (some ⟨σ.size,0,none⟩) (len+n) (A4*z+(len+n)),(σ.set a.block .dead).push (.cells (olds++news) e true)) else none
       | _=>none
     | none=>none
   else none
 | _=>none
def BZ (e:TypeId) (z bytes:Nat) (s x:Value) (σ:AHeap):Option (Value×AHeap) :=
 (D5 z x σ).bind fun r=>G5 e z bytes s r.1 r.2 σ
def O0 (e:TypeId) (z bytes:Nat) (zero:List Value) (s x:Value) (σ:AHeap):Option (Value×AHeap) :=
 match x with
 | .int _ n=>if 0≤n∧n≤140737488355328∧n*bytes≤140737488355328 then G5 e z bytes s n.toNat (reps n.toNat zero) σ else none
 | _=>none
def LM (z:Nat) (d x:Value) (σ:AHeap):Option (Value×AHeap) :=
 match d,x with
 | .slice base dl _,.slice xb xl xc =>
   (D5 z (.slice xb (Nat.min xl dl) xc) σ).bind fun (n,l)=>match base with
    | some a=>(PL a l σ).map fun σ'=>(.int .i64 n,σ')
    | none=>some (.int .i64 n,σ)
 | _,_=>none
def bytesOf:List Value→Option (List UInt8)
 | []=>some []
 | .int .u8 n::l=>(bytesOf l).map (UInt8.ofNat n.toNat::·)
 | _=>none
def V5 (x:Value) (σ:AHeap):Option Value :=
 match x with
 | .slice none _ _=>some (.string .empty)
 | .slice (some a) n _=>(oQ σ a n).bind fun l=>(bytesOf l).map fun b=>.string ⟨b.toArray⟩
 | _=>none
def CY (x:Value) (i:Nat):Option Value :=
 match x with
 | .tuple vs=>match vs.toList with
   | [.chan none]=>none
   | l=>l[i]?
 | _=>none
def B5 (x:Value):Option Value :=
 match x with
 | .pointer (some a)=>some (.pointer (some a))
 | .func (.func f) p q=>some (.func (.func f) p q)
 | .slice a l c=>some (.slice a l c)
 | .iface t v=>some (.iface t v)
 | .map m=>some (.map m)
 | _=>none
end Go.Ax
namespace Go.Ax
open Go.RowKit
def AR (ρ:List RB) (a a':Addr):Prop:=∃ r,ρ[a.block]?=some r∧a.spot=none∧a'=⟨r.b,r.s+a.off,none⟩
theorem VR.ptr_inv {ρ:List RB} {a:Addr} {v':Value} (h:VR ρ (.pointer (some a)) v'):∃ a',v'=.pointer (some a')∧AR ρ a a':=by
 cases h with
 | ptr b o r hr=>exact ⟨_,rfl,r,hr,rfl,rfl⟩
theorem AR.ptr {ρ:List RB} {a a':Addr} (h:AR ρ a a'):VR ρ (.pointer (some a)) (.pointer (some a')):=by
 obtain ⟨r,x,y,z⟩:=h
 obtain ⟨b,o,s⟩:=a
 simp only at y; subst y; subst z
 exact .ptr b o r x
theorem OV (a:Addr) (n:Nat) (h:a.spot=none):a.add n=⟨a.block,a.off+n,none⟩:=by
 obtain ⟨b,o,s⟩:=a
 simp only at h; subst h
 exact Addr.add_lit b o n
theorem AR.add {ρ:List RB} {a a':Addr} (h:AR ρ a a') (n:Nat):AR ρ (a.add n) (a'.add n):=by
 obtain ⟨r,x,y,z⟩:=h
 subst z
 rw [OV a n y,Addr.add_lit]
 exact ⟨r,x,rfl,by simp [Nat.add_assoc]⟩
section
variable {P:Program} {B:Nat} {w0:World} {ρ:List RB} {σ:AHeap} {w:World}
theorem l6 (h:CF B w0 ρ σ w) {a a':Addr} {n:Nat} {l:List Value} (hs:oQ σ a n=some l) (ha:n=0∨AR ρ a a') :
 ∃ l',LR ρ l l'∧l'.length=n∧∀ (j:Nat) v,l'[j]?=some v→w.cell? (a'.add j)=some v:=by
 cases n with
 | zero=>simp [oQ] at hs; subst hs; exact ⟨[],LR.nil _,rfl,fun j v hv=>by simp at hv⟩
 | succ m =>
   rcases ha with ha | ⟨r,hr,hsp,rfl⟩
   ·omega
   simp only [oQ,Option.bind_eq_some_iff] at hs
   obtain ⟨c,hc,hs⟩:=hs
   cases hb:Nat.ble (a.off+(m+1)) c.length with
   | false=>rw [hb] at hs; cases hs
   | true =>
     rw [hb] at hs
     have hle:=Nat.le_of_ble_eq_true hb
     cases hs
     obtain ⟨c',hl,hcell⟩:=h.read hc hr
     refine ⟨(c'.drop a.off).take (m+1),(hl.drop _).take _,by have:=hl.1; simp; omega,fun j v hv=>?_⟩
     rw [List.getElem?_take] at hv
     split at hv
     ·rw [Addr.add_lit]
      have:=hcell (a.off+j) v (by simpa using hv)
      rw [Nat.add_assoc]; exact this
     ·cases hv
theorem vV {a':Addr} {l':List Value} {n:Nat} (hn:l'.length=n) (hc:∀ (j:Nat) v,l'[j]?=some v→w.cell? (a'.add j)=some v) :
 (loadCells a' n).run P w=.ok l'.toArray w:=by
 subst hn
 exact run_loadCells_list w a' l' hc
theorem ZT {t:TypeId} {g:Bool} {n:Nat} (h:eR P t=some (g,n)):∃ d i,P.underlying t=some d∧P.info? t=some i∧y0 d=g∧i.size=n:=by
 unfold eR at h
 split at h
 ·rename_i d i hd hi; cases h; exact ⟨d,i,hd,hi,rfl,rfl⟩
 ·cases h
theorem RU {t:TypeId} {d:TypeDesc} (hd:P.underlying t=some d):(isAgg t).run P w=.ok (y0 d) w:=by
 cases d<;>simp [isAgg,run_underlying hd,y0]
theorem CN {t:TypeId} {i:TypeInfo} (hi:P.info? t=some i):(sizeOf t).run P w=.ok i.size w:=by
 simp [sizeOf,typeInfo,hi]
theorem V4 (h:CF B w0 ρ σ w) {t:TypeId} {g:Bool} {n:Nat} {x x' v:Value} (ht:eR P t=some (g,n)) (hx:VR ρ x x') (hv:AF g n x σ=some v) :
 ∃ v',(Instr.loadAt t x').run P w=.ok v' w∧VR ρ v v':=by
 obtain ⟨d,i,hd,hi,rfl,rfl⟩:=ZT ht
 unfold AF at hv
 split at hv
 ·rename_i a
  obtain ⟨a',rfl,ha⟩:=hx.ptr_inv
  cases hg:y0 d with
  | true =>
    rw [hg] at hv
    simp only [cond_true,Option.map_eq_some_iff] at hv
    obtain ⟨l,hl,rfl⟩:=hv
    obtain ⟨l',h1,h2,h3⟩:=l6 h hl (.inr ha)
    refine ⟨.agg l'.toArray,?_,VR.agg' (by simpa using h1)⟩
    simp [Instr.loadAt,Instr.sureAddr,loadVar,RU hd,hg,CN hi,vV (P:=P) h2 h3]
  | false =>
    rw [hg] at hv
    simp only [cond_false,Option.bind_eq_some_iff] at hv
    obtain ⟨c,hc,hv⟩:=hv
    obtain ⟨r,hr,hsp,rfl⟩:=ha
    obtain ⟨c',hl,hcell⟩:=h.read hc hr
    obtain ⟨v',hv',hvr⟩:=hl.get hv
    refine ⟨v',?_,hvr⟩
    simp [Instr.loadAt,Instr.sureAddr,loadVar,RU hd,hg,hcell _ _ hv']
 ·cases hv
theorem QK (h:CF B w0 ρ σ w) {a a':Addr} {l l':List Value} {σ':AHeap} (hp:PL a l σ=some σ') (ha:l=[]∨AR ρ a a') (hl:LR ρ l l') :
 ∃ w',(storeCells a' l' 0).run P w=.ok () w'∧CF B w0 ρ σ' w'∧w'.heap.size=w.heap.size:=by
 cases l with
 | nil =>
   rw [hl.nil_inv]
   simp [PL] at hp; subst hp
   exact ⟨w,rfl,h,rfl⟩
 | cons v t =>
   rcases ha with ha | ⟨r,hr,hsp,rfl⟩
   ·cases ha
   simp only [PL] at hp
   split at hp
   ·rename_i c e opn hg
    cases hb:(List.all (v::t) Value.oneCell' && Nat.ble (a.off+(v::t).length) c.length) with
    | false=>rw [hb] at hp; cases hp
    | true =>
      rw [hb] at hp; cases hp
      rw [Bool.and_eq_true] at hb
      have hone:∀ v'∈l',v'.oneCell'=true:=by
       intro v' hv'
       obtain ⟨j,hj,rfl⟩:=List.mem_iff_getElem.1 hv'
       have hj2:j<(v::t).length:=by rw [hl.1]; exact hj
       have hr2:=hl.2 j _ _ (List.getElem?_eq_getElem hj2) (List.getElem?_eq_getElem hj)
       have ho:((v::t)[j]).oneCell'=true:=List.all_eq_true.1 hb.1 _ (List.getElem_mem hj2)
       have hlv:DQ ((v::t)[j])=true:=by
        revert ho; cases (v::t)[j]<;>simp [DQ,Value.oneCell']
       rw [← (hr2.live_eq hlv).2]; exact ho
      obtain ⟨w',h1,h2,h3⟩:=h.write (P:=P) hg hr hl hone (Nat.le_of_ble_eq_true hb.2)
      exact ⟨w',h1,h2,h3⟩
   ·cases hp
theorem oP (h:CF B w0 ρ σ w) {t:TypeId} {g:Bool} {n:Nat} {x x' v v':Value} {σ':AHeap} (ht:eR P t=some (g,n)) (hx:VR ρ x x') (hv:VR ρ v v') (hs:AP n x v σ=some σ') :
 ∃ w',(Instr.storeAt t x' v').run P w=.ok () w'∧CF B w0 ρ σ' w'∧w'.heap.size=w.heap.size:=by
 obtain ⟨d,i,hd,hi,rfl,rfl⟩:=ZT ht
 unfold AP at hs
 split at hs
 ·rename_i a
  obtain ⟨a',rfl,ha⟩:=hx.ptr_inv
  cases hb:(DQ v && Nat.beq v.cells.size i.size) with
  | false=>rw [hb] at hs; cases hs
  | true =>
    rw [hb] at hs
    simp only [cond_true] at hs
    rw [Bool.and_eq_true] at hb
    have hsz:=Nat.eq_of_beq_eq_true hb.2
    have hl:=hv.cells hb.1
    have hs2:v'.cells.size=i.size:=by have:=hl.1; simp at this; omega
    obtain ⟨w',h1,h2,h3⟩:=QK (P:=P) h hs (.inr ha) hl
    refine ⟨w',?_,h2,h3⟩
    simp [Instr.storeAt,Instr.sureAddr,storeVar,CN hi,hs2,h1]
 ·cases hs
theorem WQ (h:CF B w0 ρ σ w) (e:TypeId) {l l':List Value} (hl:LR ρ l l') :
 ∃ ρ',EJ ρ ρ'∧CF B w0 ρ' (σ.push (.cells l e false)) (w.alloc (.cells l'.toArray e))∧AR ρ' ⟨σ.size,0,none⟩ ⟨w.heap.size,0,none⟩:=by
 have hall:(w.alloc (.cells l'.toArray e)).heap[w.heap.size]?=some (.cells l'.toArray e):=by show (w.heap.push _)[w.heap.size]?=_; simp
 have:=h.new (o:=.cells l e false) (x:=.cells l'.toArray e) (n:=l'.length) rfl (fun r hr=>by
  subst hr
  refine ⟨l'.toArray,(0,0),hall,oG.zero _,by simp,fun _=>by simp [hl.1],by simp [hl.1],?_⟩
  simp only [List.drop_zero,List.toList_toArray,hl.1,List.take_length]
  exact hl.mono (EJ.append _ _))
 exact ⟨_,this.2.1,this.1,_,this.2.2,rfl,by simp⟩
theorem jK (h:CF B w0 ρ σ w) (e:TypeId) {l l':List Value} (more:List Value) (hl:LR ρ l l') :
 ∃ ρ',EJ ρ ρ'∧CF B w0 ρ' (σ.push (.cells l e true)) (w.alloc (.cells (l'++more).toArray e))∧ρ'[σ.size]?=some ⟨w.heap.size,0,l'.length+more.length⟩:=by
 have hall:(w.alloc (.cells (l'++more).toArray e)).heap[w.heap.size]?=some (.cells (l'++more).toArray e):=by show (w.heap.push _)[w.heap.size]?=_; simp
 have:=h.new (o:=.cells l e true) (x:=.cells (l'++more).toArray e) (n:=l'.length+more.length) rfl (fun r hr=>by
  subst hr
  refine ⟨(l'++more).toArray,(0,0),hall,oG.zero _,by simp,fun hh=>by (cases hh),by simp [hl.1],?_⟩
  simp only [List.drop_zero,List.toList_toArray,hl.1]
  rw [List.take_left' rfl]
  exact hl.mono (EJ.append _ _))
 exact ⟨_,this.2.1,this.1,this.2.2⟩
theorem fJ (ρ:List RB) {v:Value} (h:OJ v=true):VR ρ v v:=by
 cases v with
 | bool b=>exact .bool b
 | int k n=>exact .int k n
 | string s=>exact .string s
 | pointer a=>cases a with
   | none=>exact .nilptr
   | some a=>simp [OJ] at h
 | slice a l c=>cases a with
   | none=>exact .nilslice l c (by simpa [OJ] using h)
   | some a=>simp [OJ] at h
 | map r=>cases r with
   | none=>exact .nilmap
   | some r=>simp [OJ] at h
 | nilFunc=>exact .nilFunc
 | nilIface=>exact .nilIface
 | _=>simp [OJ] at h
theorem YP (ρ:List RB) {c:List Value} (h:c.all OJ=true):LR ρ c c:=by
 refine ⟨rfl,fun i v v' a b=>?_⟩
 rw [a] at b; cases b
 exact fJ ρ (List.all_eq_true.1 h v (List.mem_of_getElem? a))
theorem EV {t:TypeId} {z:Value} (h:CK P t=some z):∃ i,P.info? t=some i∧i.zero=some z∧(∀ ρ,LR ρ z.cells.toList z.cells.toList)∧z.cells.size=i.size:=by
 unfold CK at h
 split at h
 ·rename_i i hi
  split at h
  ·rename_i z' hz
   cases hb:(z'.cells.toList.all OJ && Nat.beq z'.cells.size i.size) with
   | false=>rw [hb] at h; cases h
   | true =>
     rw [hb] at h; cases h
     rw [Bool.and_eq_true] at hb
     exact ⟨i,hi,hz,fun ρ=>YP ρ hb.1,Nat.eq_of_beq_eq_true hb.2⟩
  ·cases h
 ·cases h
theorem GJ {t:TypeId} {i:TypeInfo} {z:Value} (hi:P.info? t=some i) (hz:i.zero=some z):(zeroValue t).run P w=.ok z w:=by
 simp [zeroValue,typeInfo,hi,hz]
theorem nZ (h:CF B w0 ρ σ w) {t:TypeId} {z:Value} (hz:CK P t=some z) (b:Bool) (old:Value) (hb:b=true) :
 ∃ v' w' ρ',(Instr.alloc t b old).run P w=.ok v' w'∧EJ ρ ρ'∧CF B w0 ρ' (yY t z.cells.toList σ).2 w'∧VR ρ' (yY t z.cells.toList σ).1 v':=by
 obtain ⟨i,hi,hz',hr,_⟩:=EV hz
 obtain ⟨ρ',h1,h2,h3⟩:=WQ h t (hr ρ)
 refine ⟨_,_,ρ',?_,h1,h2,h3.ptr⟩
 subst hb
 simp [Instr.alloc,GJ hi hz',newVar,newRow]
theorem sF (h:CF B w0 ρ σ w) {t:TypeId} {v v':Value} {x:Value×AHeap} (hv:VR ρ v v') (hb:ACv t v σ=some x) :
 ∃ u w' ρ',(Instr.box t v').run P w=.ok u w'∧EJ ρ ρ'∧CF B w0 ρ' x.2 w'∧VR ρ' x.1 u:=by
 unfold ACv at hb
 cases hl:DQ v with
 | false=>rw [hl] at hb; cases hb
 | true =>
   rw [hl] at hb; cases hb
   obtain ⟨ρ',h1,h2,h3⟩:=WQ h t (hv.cells hl)
   refine ⟨_,_,ρ',?_,h1,h2,h3.ptr⟩
   simp [Instr.box,newVar,newRow]
end
end Go.Ax
namespace Go.Ax
open Go.RowKit
section
variable {P:Program} {B:Nat} {w0:World} {ρ:List RB} {σ:AHeap} {w:World}
theorem VR.int_inv {k:IntKind} {n:Int} {v':Value} (h:VR ρ (.int k n) v'):v'=.int k n:=by cases h; rfl
theorem VR.bool_inv {b:Bool} {v':Value} (h:VR ρ (.bool b) v'):v'=.bool b:=by cases h; rfl
theorem VR.string_inv {b:ByteArray} {v':Value} (h:VR ρ (.string b) v'):v'=.string b:=by cases h; rfl
theorem uF {op:BinOp} {k:IntKind} {a b:Int} {v:Value} (t:TypeId) (h:UI op k a b=some v) :
 (binOp op t (.int k a) (.int k b)).run P w=.ok v w∧VR ρ v v:=by
 cases op<;>simp only [UI,reduceCtorEq] at h
 case quo | rem =>
  split at h
  ·cases h
  ·rename_i hb; cases h; exact ⟨by simp [binOp,Op.intDiv,hb],.int _ _⟩
 all_goals
  cases h
  first
   | exact ⟨by simp [binOp,Op.intArith,Op.intBits,Op.intCmp],.int _ _⟩
   | exact ⟨by simp [binOp,Op.intArith,Op.intBits,Op.intCmp],.bool _⟩
theorem ZW {op:BinOp} {k yk:IntKind} {a b:Int} {v:Value} (t:TypeId) (h:VW op k a b=some v) :
 (binOp op t (.int k a) (.int yk b)).run P w=.ok v w∧VR ρ v v:=by
 unfold VW at h
 split at h
 ·cases h
 ·rename_i hb
  cases op<;>simp only [reduceCtorEq] at h
  all_goals cases h; exact ⟨by simp [binOp,Op.shift,hb],.int _ _⟩
theorem tU {op:BinOp} {a b:ByteArray} {v:Value} (t:TypeId) (h:ADk op a b=some v) :
 (binOp op t (.string a) (.string b)).run P w=.ok v w∧VR ρ v v:=by
 cases op<;>simp only [ADk,reduceCtorEq] at h
 case add =>
  split at h
  ·rename_i hb; cases h
   refine ⟨?_,.string _⟩
   have hb':¬ (IntKind.i64.max<(a.size:Int)+(b.size:Int)):=by rw [IntKind.max_i64]; omega
   simp [binOp,Op.stringOp,hb']
   omega
  ·cases h
 all_goals cases h; exact ⟨by simp [binOp,Op.stringOp],.bool _⟩
theorem GI (t:TypeId) (x y:Value):Op.equal t x y=Op.equalIn (9999+1) t x y:=rfl
theorem VR.ptrO_inv {a:Option Addr} {v':Value} (h:VR ρ (.pointer a) v'):∃ a',v'=.pointer a'∧a'.isNone=a.isNone:=by
 cases h with
 | nilptr=>exact ⟨none,rfl,rfl⟩
 | ptr b o r _=>exact ⟨some _,rfl,rfl⟩
theorem VR.sliceO_inv {a:Option Addr} {l c:Nat} {v':Value} (h:VR ρ (.slice a l c) v'):∃ a' c',v'=.slice a' l c'∧a'.isNone=a.isNone:=by
 cases h with
 | nilslice=>exact ⟨none,_,rfl,rfl⟩
 | slice b o l c c' r _ _=>exact ⟨some _,_,rfl,rfl⟩
 | zany a c' _=>exact ⟨some _,_,rfl,rfl⟩
 | zslice o a=>exact ⟨some _,_,rfl,rfl⟩
theorem VR.mapO_inv {a:Option Nat} {v':Value} (h:VR ρ (.map a) v'):∃ a',v'=.map a'∧a'.isNone=a.isNone:=by
 cases h with
 | nilmap=>exact ⟨none,rfl,rfl⟩
 | map b r _=>exact ⟨some _,rfl,rfl⟩
theorem lZ {d:TypeDesc} {t:TypeId} {x y x' y':Value} {b:Bool} (hd:P.underlying t=some d) (hx:VR ρ x x') (hy:VR ρ y y') (h:aEq d x y=some b) :
 (Op.equal t x' y').run P w=.ok b w∧(∀ (o1 o2:Operand) (op:BinOp),(eqGuard op t o1 o2 x' y').run P w=.ok () w)∧(∀ op,op=.eql∨op=.neq→binOp op t x' y'=(if op=.eql then (do pure (.bool (← Op.equal t x' y'))) else (do pure (.bool (!(← Op.equal t x' y')))))):=by
 rw [GI]
 unfold aEq at h
 split at h
 all_goals (try (cases h; done))
 ·cases h; rw [hx.bool_inv,hy.bool_inv]
  refine ⟨by unfold Op.equalIn; simp [run_underlying hd],fun o1 o2 op=>?_,fun op ho=>?_⟩
  ·cases op<;>simp [eqGuard]
  ·rcases ho with rfl | rfl<;>simp [binOp,GI]
 ·cases h
  obtain ⟨b',rfl,hb⟩:=hy.ptrO_inv
  cases hx
  refine ⟨by unfold Op.equalIn; simp [run_underlying hd,hb],fun o1 o2 op=>?_,fun op ho=>?_⟩
  ·cases op<;>simp [eqGuard]
  ·rcases ho with rfl | rfl<;>simp [binOp,GI]
 ·cases h
  obtain ⟨a',rfl,hb⟩:=hx.ptrO_inv
  cases hy
  cases a' with
  | none=>simp at hb
  | some a' =>
    refine ⟨by unfold Op.equalIn; simp [run_underlying hd],fun o1 o2 op=>?_,fun op ho=>?_⟩
    ·cases op<;>simp [eqGuard]
    ·rcases ho with rfl | rfl<;>simp [binOp,GI]
 ·cases h
  obtain ⟨b',c',rfl,hb⟩:=hy.sliceO_inv
  cases hx
  refine ⟨by unfold Op.equalIn; simp [run_underlying hd,hb],fun o1 o2 op=>?_,fun op ho=>?_⟩
  ·cases op<;>simp [eqGuard]
  ·rcases ho with rfl | rfl<;>simp [binOp,GI]
 ·cases h
  obtain ⟨a',c',rfl,hb⟩:=hx.sliceO_inv
  cases hy
  cases a' with
  | none=>simp at hb
  | some a' =>
    refine ⟨by unfold Op.equalIn; simp [run_underlying hd],fun o1 o2 op=>?_,fun op ho=>?_⟩
    ·cases op<;>simp [eqGuard]
    ·rcases ho with rfl | rfl<;>simp [binOp,GI]
 ·cases h
  obtain ⟨b',rfl,hb⟩:=hy.mapO_inv
  cases hx
  refine ⟨by unfold Op.equalIn; simp [run_underlying hd,hb],fun o1 o2 op=>?_,fun op ho=>?_⟩
  ·cases op<;>simp [eqGuard]
  ·rcases ho with rfl | rfl<;>simp [binOp,GI]
 ·cases h
  obtain ⟨a',rfl,hb⟩:=hx.mapO_inv
  cases hy
  cases a' with
  | none=>simp at hb
  | some a' =>
    refine ⟨by unfold Op.equalIn; simp [run_underlying hd],fun o1 o2 op=>?_,fun op ho=>?_⟩
    ·cases op<;>simp [eqGuard]
    ·rcases ho with rfl | rfl<;>simp [binOp,GI]
 case h_11 ms =>
  cases hm:ms.isEmpty with
  | false=>rw [hm] at h; cases h
  | true =>
    rw [hm] at h
    cases h; cases hx; cases hy
    refine ⟨by unfold Op.equalIn; simp [run_underlying hd],fun o1 o2 op=>?_,fun op ho=>?_⟩
    ·have hg:(Op.eqGuardIn Op.maxDepth t .nilIface .nilIface).run P w=.ok false w:=by
      show (Op.eqGuardIn (_+1) t .nilIface .nilIface).run P w=_
      unfold Op.eqGuardIn
      simp [run_underlying hd]
      simpa using hm
     cases op<;>simp [eqGuard,hg]
    ·rcases ho with rfl | rfl<;>simp [binOp,GI]
 all_goals
  cases h; cases hx; cases hy
  refine ⟨by unfold Op.equalIn; simp [run_underlying hd],fun o1 o2 op=>?_,fun op ho=>?_⟩
  ·cases op<;>simp [eqGuard]
  ·rcases ho with rfl | rfl<;>simp [binOp,GI]
theorem tF {op:BinOp} {t:TypeId} {x y x' y' v:Value} (o1 o2:Operand) (hx:VR ρ x x') (hy:VR ρ y y') (h:BF (P.underlying t) op x y=some v) :
 (do eqGuard op t o1 o2 x' y'; binOp op t x' y':Sem Value).run P w=.ok v w∧VR ρ v v:=by
 unfold BF at h
 split at h
 ·rename_i k a k' b
  rw [hx.int_inv,hy.int_inv]
  have hg:(eqGuard op t o1 o2 (.int k a) (.int k' b)).run P w=.ok () w:=by cases op<;>simp [eqGuard]
  simp only [Sem.run_bind,hg,Result.andThen_ok]
  split at h
  ·exact ZW t h
  ·exact ZW t h
  ·split at h
   ·rename_i hk; subst hk; exact uF t h
   ·cases h
 ·rename_i a b
  rw [hx.string_inv,hy.string_inv]
  have hg:(eqGuard op t o1 o2 (.string a) (.string b)).run P w=.ok () w:=by cases op<;>simp [eqGuard]
  simp only [Sem.run_bind,hg,Result.andThen_ok]
  exact tU t h
 ·split at h
  ·rename_i d hd
   simp only [Option.map_eq_some_iff] at h
   obtain ⟨b,hb,rfl⟩:=h
   obtain ⟨h1,h2,h3⟩:=lZ (w:=w) hd hx hy hb
   refine ⟨?_,.bool _⟩
   simp only [Sem.run_bind,h2,Result.andThen_ok]
   rw [h3 _ (.inl rfl)]
   simp [h1]
  ·rename_i d hd
   simp only [Option.map_eq_some_iff] at h
   obtain ⟨b,hb,rfl⟩:=h
   obtain ⟨h1,h2,h3⟩:=lZ (w:=w) hd hx hy hb
   refine ⟨?_,.bool _⟩
   simp only [Sem.run_bind,h2,Result.andThen_ok]
   rw [h3 _ (.inr rfl)]
   simp [h1]
  ·cases h
theorem zL {op:UnOp} {x x' v:Value} (hx:VR ρ x x') (h:sB op x=some v):(Op.unary op x').run P w=.ok v w∧VR ρ v v:=by
 unfold sB at h
 split at h
 ·cases h; rw [hx.int_inv]; exact ⟨by simp [Op.unary,Op.intArith],.int _ _⟩
 ·cases h; rw [hx.int_inv]; exact ⟨by simp [Op.unary,Op.intBits],.int _ _⟩
 ·cases h; rw [hx.bool_inv]; exact ⟨by simp [Op.unary],.bool _⟩
 ·cases h
end
end Go.Ax
namespace Go.Ax
open Go.RowKit
inductive VO (ρ:List RB):Option Value→Option Value→Prop where
 | none:VO ρ none none
 | some (v v':Value):VR ρ v v'→VO ρ (some v) (some v')
section
variable {P:Program} {B:Nat} {w0:World} {ρ:List RB} {σ:AHeap} {w:World}
theorem OW {x x':Value} {y y' n:Nat} (code:BoundsCode) (hx:VR ρ x x') (h:bnd x y=some n) (hy:y≤y') :
 (Instr.sliceBound x' y' code).run P w=.ok n w∧n≤y:=by
 unfold bnd at h
 split at h
 ·rename_i k i
  split at h
  ·rename_i hi; cases h
   cases hx
   have:0≤i∧i≤(y':Int):=by omega
   exact ⟨by simp [Instr.sliceBound,asIntOf,this],by omega⟩
  ·cases h
 ·cases h
theorem UM (isSlice:Bool) (len cap':Nat) {lo hi lo' hi':Option Value} {k h l:Nat} (hl:VO ρ lo lo') (hh:VO ρ hi hi')
 (h1:J2 hi len k=some h) (h2:J2 lo 0 h=some l) (hk:k≤cap') :
 (Instr.sliceBounds isSlice len cap' lo' hi' none).run P w=.ok (l,h,cap') w∧l≤h∧(h≤k∨h=len):=by
 cases hh with
 | none =>
   simp only [J2,Option.some.injEq] at h1; subst h1
   cases hl with
   | none=>simp only [J2,Option.some.injEq] at h2; subst h2; exact ⟨by simp [Instr.sliceBounds],by omega,.inr rfl⟩
   | some v v' hv=>obtain ⟨a,b⟩:=OW (P:=P) (w:=w) .sliceB hv h2 (Nat.le_refl _); exact ⟨by simp [Instr.sliceBounds,a],b,.inr rfl⟩
 | some u u' hu =>
   obtain ⟨c,d⟩:=OW (P:=P) (w:=w) (if isSlice then .sliceAcap else .sliceAlen) hu h1 hk
   cases hl with
   | none=>simp only [J2,Option.some.injEq] at h2; subst h2; exact ⟨by simp [Instr.sliceBounds,c],by omega,.inl d⟩
   | some v v' hv=>obtain ⟨a,b⟩:=OW (P:=P) (w:=w) .sliceB hv h2 (Nat.le_refl _); exact ⟨by simp [Instr.sliceBounds,a,c],b,.inl d⟩
theorem pU (len cap':Nat) {lo lo':Option Value} {hi hi' mx mx':Value} {k m h l:Nat} (hl:VO ρ lo lo') (hh:VR ρ hi hi') (hm:VR ρ mx mx')
 (h0:bnd mx k=some m) (h1:bnd hi m=some h) (h2:J2 lo 0 h=some l) (hk:k≤cap') :
 (Instr.sliceBounds true len cap' lo' (some hi') (some mx')).run P w=.ok (l,h,m) w∧l≤h∧h≤m∧m≤k:=by
 obtain ⟨a,b⟩:=OW (P:=P) (w:=w) .slice3Acap hm h0 hk
 obtain ⟨c,d⟩:=OW (P:=P) (w:=w) .slice3B hh h1 (Nat.le_refl _)
 cases hl with
 | none=>simp only [J2,Option.some.injEq] at h2; subst h2; exact ⟨by simp [Instr.sliceBounds,a,c],by omega,d,b⟩
 | some v v' hv=>obtain ⟨e,f⟩:=OW (P:=P) (w:=w) .slice3C hv h2 (Nat.le_refl _); exact ⟨by simp [Instr.sliceBounds,a,c,e],f,d,b⟩
theorem VR.slice_inv {a:Option Addr} {l c:Nat} {v':Value} (h:VR ρ (.slice a l c) v') :
 ∃ a' c',v'=.slice a' l c'∧BU c≤c'∧(c<A4→c'=c)∧((a=none∧a'=none∧c<A4)∨(∃ x x' r,a=some x∧a'=some x'∧ρ[x.block]?=some r∧x'=⟨r.b,r.s+x.off,none⟩∧Y9 r x.off c c'∧x.spot=none) ∨
  (∃ x',a=some ⟨ZB,1,some 0⟩∧l=0∧c=A4∧a'=some x'∧x'.spot=none)∨(∃ o x',a=some ⟨ZB,o,some 0⟩∧l=0∧c=0∧a'=some x'∧True)):=by
 cases h with
 | nilslice _ _ hc=>exact ⟨none,c,rfl,Nat.mod_le _ _,fun _=>rfl,.inl ⟨rfl,rfl,hc⟩⟩
 | slice b o _ _ c' r hr hc =>
   refine ⟨_,c',rfl,?_,?_,.inr (.inl ⟨_,_,r,rfl,rfl,hr,rfl,hc,rfl⟩)⟩
   ·unfold Y9 at hc; unfold BU
    split at hc
    ·rw [hc]; exact Nat.mod_le _ _
    ·exact hc.1
   ·intro hlt; unfold Y9 at hc; rw [if_pos hlt] at hc; exact hc
 | zany x' c' hs=>exact ⟨_,c',rfl,by simp [BU],fun hh=>absurd hh (by omega),.inr (.inr (.inl ⟨x',rfl,rfl,rfl,rfl,hs⟩))⟩
 | zslice o x'=>exact ⟨_,0,rfl,by simp [BU,A4],fun _=>rfl,.inr (.inr (.inr ⟨o,x',rfl,rfl,rfl,rfl,trivial⟩))⟩
theorem VR.mk_exact {x x':Addr} {l c:Nat} (hc:c<A4) {r:RB} (hr:ρ[x.block]?=some r) (hs:x.spot=none) (hx:x'=⟨r.b,r.s+x.off,none⟩):VR ρ (.slice (some x) l c) (.slice (some x') l c):=by
 obtain ⟨b,o,s⟩:=x
 simp only at hs; subst hs; subst hx
 exact .slice b o l c c r hr (by unfold Y9; rw [if_pos hc])
theorem C6 {c:Nat} (h:c<A4):BU c=c:=Nat.mod_eq_of_lt h
theorem nC {z:Nat} {t e:TypeId} {i:TypeInfo} {x x' v:Value} {lo lo' hi hi' mx mx':Option Value} (ht:P.underlying t=some (.slice e)) (hinf:P.info? e=some i) (hz:i.size=z)
 (hx:VR ρ x x') (h1:VO ρ lo lo') (h2:VO ρ hi hi') (h3:VO ρ mx mx') (h:A7 z x lo hi mx=some v) :
 ∃ v',(Instr.slice t x' lo' hi' mx').run P w=.ok v' w∧VR ρ v v':=by
 subst hz
 unfold A7 at h
 split at h
 ·rename_i a len c
  obtain ⟨a',c',rfl,hk,hex,hcases⟩:=hx.slice_inv
  have hsz:=CN (P:=P) (w:=w) hinf
  cases h3 with
  | none =>
    simp only [Option.bind_eq_some_iff] at h
    obtain ⟨hh,e1,ll,e2,h⟩:=h
    obtain ⟨hb,hlh,hhk⟩:=UM (P:=P) (w:=w) true len c' h1 h2 e1 e2 hk
    have hrun:(Instr.slice t (.slice a' len c') lo' hi' none).run P w=.ok (.slice (if c'=ll then a' else a'.map (·.add (ll*i.size))) (hh - ll) (c' - ll)) w:=by
     simp [Instr.slice,run_underlying ht,hb,hsz]
    refine ⟨_,hrun,?_⟩
    split at h
    ·rename_i hc
     obtain rfl:=hex hc
     split at h
     ·rename_i hhc
      cases h
      have hc2:c' - ll<A4:=by omega
      rcases hcases with ⟨rfl,rfl,hcn⟩ | ⟨x,x1,r,rfl,rfl,hr,rfl,_,hs0⟩ | ⟨x1,_,_,hco,_,_⟩ | ⟨o,x1,rfl,rfl,rfl,rfl,hs1⟩
      ·simp only [Option.map_none,ite_self]; exact .nilslice _ _ (by omega)
      ·split
       ·exact .mk_exact hc2 hr (hs0) rfl
       ·simp only [Option.map_some]
        rw [OV _ _ (hs0),Addr.add_lit]
        exact .mk_exact hc2 (x:=⟨x.block,x.off+ll*i.size,none⟩) hr rfl (by simp [Nat.add_assoc])
      ·omega
      ·have hl0:ll=0:=by omega
       have hh0:hh=0:=by omega
       subst hl0; subst hh0
       simp only [if_true,Nat.sub_self]
       exact .zslice o x1
     ·cases h
    ·rename_i hc
     split at h
     ·rename_i hlk
      obtain ⟨hlk,hze⟩:=hlk
      cases h
      have hne:¬ (c'=ll):=by omega
      rw [if_neg hne]
      unfold BU at hlk hk
      have hmod:(c - ll) % A4=c % A4 - ll∧(c - ll) / A4=c / A4∧A4≤c - ll:=by
       unfold A4 at *; omega
      rcases hcases with ⟨rfl,rfl,hcn⟩ | ⟨x,x1,r,rfl,rfl,hr,rfl,hcr,hs0⟩ | ⟨x1,rfl,rfl,hco,rfl,hs1⟩ | ⟨o,x1,rfl,rfl,rfl,rfl,hs1⟩
      ·exact absurd hcn hc
      ·simp only [Option.map_some]
       rw [OV _ _ (hs0),Addr.add_lit]
       unfold Y9 at hcr
       rw [if_neg hc,hze] at hcr
       have hfit:ll*i.size+(c' - ll)*i.size=c'*i.size:=by rw [← Nat.add_mul]; congr 1; omega
       have hcap:Y9 r (x.off+ll*i.size) (c - ll) (c' - ll):=by
        unfold Y9
        rw [if_neg (by omega),hmod.1,hmod.2.1,hze]
        omega
       have hfin:=VR.slice x.block (x.off+ll*i.size) (hh - ll) (c - ll) (c' - ll) r hr hcap
       rw [Nat.add_assoc]; exact hfin
      ·subst hco; simp [A4] at hlk
      ·simp [A4] at hc
     ·split at h
      ·rename_i hhl; cases h; subst hhl
       rw [Nat.sub_self]
       rcases hcases with ⟨rfl,rfl,hcn⟩ | ⟨x,x1,r,rfl,rfl,hr,rfl,hcr,hs0⟩ | ⟨x1,rfl,rfl,hco,rfl,hs1⟩ | ⟨o,x1,rfl,rfl,rfl,rfl,hs1⟩
       ·exact absurd hcn hc
       ·split
        ·exact .zany _ _ rfl
        ·simp only [Option.map_some]; exact .zany _ _ (by rw [Addr.add_lit])
       ·split
        ·exact .zany _ _ hs1
        ·simp only [Option.map_some]; exact .zany _ _ (by rw [OV _ _ hs1])
       ·simp [A4] at hc
      ·cases h
  | some m m' hm =>
    simp only [Option.bind_eq_some_iff] at h
    obtain ⟨mm,e0,h⟩:=h
    cases h2 with
    | none=>simp at h
    | some u u' hu =>
      simp only [Option.bind_eq_some_iff] at h
      obtain ⟨hh,e1,ll,e2,h⟩:=h
      cases h
      obtain ⟨hb,hlh,hhm,hmk⟩:=pU (P:=P) (w:=w) len c' h1 hu hm e0 e1 e2 hk
      have hrun:(Instr.slice t (.slice a' len c') lo' (some u') (some m')).run P w=.ok (.slice (if mm=ll then a' else a'.map (·.add (ll*i.size))) (hh - ll) (mm - ll)) w:=by
       simp [Instr.slice,run_underlying ht,hb,hsz]
      refine ⟨_,hrun,?_⟩
      have hc2:mm - ll<A4:=by
       have:BU c<A4:=Nat.mod_lt _ (by unfold A4; omega)
       omega
      rcases hcases with ⟨rfl,rfl,hcn⟩ | ⟨x,x1,r,rfl,rfl,hr,rfl,_,hs0⟩ | ⟨x1,rfl,rfl,hco,rfl,hs1⟩ | ⟨o,x1,rfl,rfl,rfl,rfl,hs1⟩
      ·simp only [Option.map_none,ite_self]; exact .nilslice _ _ (by omega)
      ·split
       ·exact .mk_exact hc2 hr (hs0) rfl
       ·simp only [Option.map_some]
        rw [OV _ _ (hs0),Addr.add_lit]
        exact .mk_exact hc2 (x:=⟨x.block,x.off+ll*i.size,none⟩) hr rfl (by simp [Nat.add_assoc])
      ·subst hco
       have:mm=0:=by have:BU A4=0:=by decide
                     omega
       have hl0:ll=0:=by omega
       have hh0:hh=0:=by omega
       subst this; subst hl0; subst hh0
       simp only [if_true,Nat.sub_self]
       exact .zslice 1 x1
      ·have:mm=0:=by have:BU 0=0:=by decide
                     omega
       have hl0:ll=0:=by omega
       have hh0:hh=0:=by omega
       subst this; subst hl0; subst hh0
       simp only [if_true,Nat.sub_self]
       exact .zslice o x1
 ·cases h
end
end Go.Ax
namespace Go.Ax
open Go.RowKit
section
variable {P:Program} {B:Nat} {w0:World} {ρ:List RB} {σ:AHeap} {w:World}
theorem eE {t:TypeId} {x x' v:Value} {lo lo' hi hi':Option Value} (ht:P.underlying t=some .string)
 (hx:VR ρ x x') (h1:VO ρ lo lo') (h2:VO ρ hi hi') (h:RI x lo hi=some v) :
 (Instr.slice t x' lo' hi' none).run P w=.ok v w∧VR ρ v v:=by
 unfold RI at h
 split at h
 ·rename_i s
  rw [hx.string_inv]
  simp only [Option.bind_eq_some_iff] at h
  obtain ⟨hh,e1,ll,e2,h⟩:=h
  cases h
  obtain ⟨hb,_⟩:=UM (P:=P) (w:=w) false s.size s.size h1 h2 e1 e2 (Nat.le_refl _)
  exact ⟨by simp [Instr.slice,run_underlying ht,hb],.string _⟩
 ·cases h
theorem SB {n z:Nat} {x x' v:Value} {lo lo' hi hi' mx mx':Option Value}
 (hx:VR ρ x x') (h1:VO ρ lo lo') (h2:VO ρ hi hi') (h3:VO ρ mx mx') (h:J8 n z x lo hi mx=some v) :
 ∃ a' ll hh,x'=.pointer (some a')∧mx'=none∧(Instr.sliceBounds false n n lo' hi' none).run P w=.ok (ll,hh,n) w∧VR ρ v (.slice (some (if n=ll then a' else a'.add (ll*z))) (hh - ll) (n - ll)):=by
 unfold J8 at h
 split at h
 ·rename_i a hn
  have hn:n<A4:=by simpa using hn
  cases h3
  obtain ⟨a',rfl,ha⟩:=hx.ptr_inv
  simp only [Option.bind_eq_some_iff] at h
  obtain ⟨hh,e1,ll,e2,h⟩:=h
  cases h
  obtain ⟨hb,_⟩:=UM (P:=P) (w:=w) false n n h1 h2 e1 e2 (Nat.le_refl _)
  refine ⟨a',ll,hh,rfl,rfl,hb,?_⟩
  obtain ⟨r,hr,hs,rfl⟩:=ha
  split
  ·exact .mk_exact (by omega) hr hs rfl
  ·rw [OV _ _ hs,Addr.add_lit]
   exact .mk_exact (x:=⟨a.block,a.off+ll*z,none⟩) (by omega) hr rfl (by simp [Nat.add_assoc])
 ·cases h
theorem gE {t:TypeId} {x x' v:Value} {lo lo' hi hi' mx mx':Option Value}
 (hx:VR ρ x x') (h1:VO ρ lo lo') (h2:VO ρ hi hi') (h3:VO ρ mx mx') (h:UQ P t x lo hi mx=some v) :
 ∃ v',(Instr.sliceAt t x' lo' hi' mx').run P w=.ok v' w∧VR ρ v v':=by
 unfold UQ at h
 split at h
 ·rename_i ht
  split at h
  ·cases h3
   obtain ⟨a,b⟩:=eE (w:=w) ht hx h1 h2 h
   exact ⟨v,by simp [Instr.sliceAt,run_underlying ht,a],b⟩
  ·cases h
 ·rename_i e ht
  split at h
  ·rename_i i hi
   obtain ⟨v',a,b⟩:=nC (w:=w) ht hi rfl hx h1 h2 h3 h
   exact ⟨v',by simp [Instr.sliceAt,run_underlying ht,a],b⟩
  ·cases h
 ·rename_i n e ht
  split at h
  ·rename_i i hi
   obtain ⟨a',ll,hh,rfl,rfl,hb,hv⟩:=SB (P:=P) (w:=w) hx h1 h2 h3 h
   exact ⟨_,by simp [Instr.sliceAt,run_underlying ht,Instr.sureAddr,hb,CN hi],hv⟩
  ·cases h
 ·rename_i arr ht
  split at h
  ·rename_i n e ha
   split at h
   ·rename_i i hi
    obtain ⟨a',ll,hh,rfl,rfl,hb,hv⟩:=SB (P:=P) (w:=w) hx h1 h2 h3 h
    exact ⟨_,by simp [Instr.sliceAt,Instr.slice,run_underlying ht,run_underlying ha,asAddr,hb,CN hi],hv⟩
   ·cases h
  ·cases h
 ·cases h
theorem YS {t:TypeId} {x x' i i' v:Value} (hx:VR ρ x x') (hi:VR ρ i i') (h:KR P t x i=some v) :
 ∃ v',(Instr.indexAt t x' i').run P w=.ok v' w∧VR ρ v v':=by
 unfold KR at h
 split at h
 ·rename_i e ht
  split at h
  ·rename_i j hj
   unfold AE at h
   split at h
   ·rename_i a len c k n
    rw [hi.int_inv]
    split at h
    ·rename_i hb; cases h
     obtain ⟨a',c',rfl,_,_,hcases⟩:=hx.slice_inv
     rcases hcases with ⟨hh,_⟩ | ⟨x,x1,r,hxe,rfl,hr,rfl,_,hs0⟩ | ⟨x1,_,hl,_⟩ | ⟨o,x1,_,hl,_⟩
     ·cases hh
     ·cases hxe
      refine ⟨_,?_,(AR.add ⟨r,hr,hs0,rfl⟩ (n.toNat*j.size)).ptr⟩
      simp [Instr.indexAt,run_underlying ht,asIntOf,hb,CN hj]
     ·omega
     ·omega
    ·cases h
   ·cases h
  ·cases h
 ·rename_i n e ht
  split at h
  ·rename_i j hj
   unfold M4 at h
   split at h
   ·rename_i a k m
    rw [hi.int_inv]
    split at h
    ·rename_i hb; cases h
     obtain ⟨a',rfl,ha⟩:=hx.ptr_inv
     refine ⟨_,?_,(ha.add (m.toNat*j.size)).ptr⟩
     simp [Instr.indexAt,run_underlying ht,asIntOf,hb,CN hj,Instr.sureAddr]
    ·cases h
   ·cases h
  ·cases h
 ·cases h
theorem cL {t:TypeId} {f off:Nat} {x x' v:Value} (hf:NQ P t f=some off) (hx:VR ρ x x') (h:AA off x=some v) :
 ∃ v',(Instr.fieldAt t x' f).run P w=.ok v' w∧VR ρ v v':=by
 unfold NQ at hf
 split at hf
 ·rename_i fs ht
  split at hf
  ·rename_i fd hfd
   split at hf
   ·rename_i i hi
    split at hf
    ·cases hf
    ·rename_i hz; cases hf
     unfold AA at h
     split at h
     ·rename_i a; cases h
      obtain ⟨a',rfl,ha⟩:=hx.ptr_inv
      refine ⟨_,?_,(ha.add fd.offset).ptr⟩
      simp [Instr.fieldAt,run_underlying ht,hfd,Instr.sureAddr,fieldPlace,CN hi,hz]
     ·cases h
   ·cases hf
  ·cases hf
 ·cases hf
theorem P8 (n:Nat) (l:List Value):(reps n l).length=n*l.length:=by
 induction n with
 | zero=>simp [reps]
 | succ n ih=>simp [reps,ih,Nat.succ_mul]; omega
theorem ABd (n:Nat) (l:List Value) (i:Nat) (h:i<n*l.length):(reps n l)[i]?=l[i % l.length]?:=by
 induction n generalizing i with
 | zero=>simp at h
 | succ n ih =>
   simp only [reps,List.getElem?_append]
   split
   ·rename_i hi; rw [Nat.mod_eq_of_lt hi]
   ·rename_i hi
    rw [ih _ (by rw [Nat.succ_mul] at h; omega)]
    congr 1
    rw [← Nat.mod_eq_sub_mod (by omega)]
theorem SV (n:Nat) (z:Array Value):madeCells z (n*z.size)=(reps n z.toList).toArray:=by
 apply Array.ext'
 simp only [madeCells,Array.toList_map,Array.toList_range]
 apply List.ext_getElem?
 intro i
 simp only [List.getElem?_map]
 by_cases hi:i<n*z.size
 ·rw [ABd n z.toList i (by simpa using hi)]
  have hpos:0<z.size:=by
   rcases Nat.eq_zero_or_pos z.size with h | h
   ·rw [h] at hi; simp at hi
   ·exact h
  have hm:i % z.size<z.size:=Nat.mod_lt _ hpos
  simp [List.getElem?_range hi,hm]
 ·rw [List.getElem?_eq_none (by simpa using hi),List.getElem?_eq_none (by rw [P8]; simpa using hi)]
  rfl
theorem LR.reps {l l':List Value} (h:LR ρ l l') (n:Nat):LR ρ (reps n l) (reps n l'):=by
 induction n with
 | zero=>exact LR.nil _
 | succ n ih=>exact h.append ih
theorem MO {t e:TypeId} {z by':Nat} (h:DH P t=some (e,z,by')):∃ i,P.underlying t=some (.slice e)∧P.info? e=some i∧i.size=z∧i.bytes=by':=by
 unfold DH at h
 split at h
 ·rename_i e' ht
  split at h
  ·rename_i i hi; cases h; exact ⟨i,ht,hi,rfl,rfl⟩
  ·cases h
 ·cases h
theorem pB (h:CF B w0 ρ σ w) {t e:TypeId} {z by':Nat} {zv l l' c c':Value} {x:Value×AHeap} (he:DH P t=some (e,z,by')) (hz:CK P e=some zv)
 (hl:VR ρ l l') (hc:VR ρ c c') (hm:PC e by' zv.cells.toList l c σ=some x) :
 ∃ v' w' ρ',(Instr.makeSlice t l' c').run P w=.ok v' w'∧EJ ρ ρ'∧CF B w0 ρ' x.2 w'∧VR ρ' x.1 v':=by
 obtain ⟨i,ht,hi,rfl,rfl⟩:=MO he
 obtain ⟨i',hi',hz',hr,hzs⟩:=EV hz
 rw [hi] at hi'; cases hi'
 unfold PC at hm
 split at hm
 ·rename_i k1 n k2 m
  rw [hl.int_inv,hc.int_inv]
  split at hm
  ·rename_i hb
   cases hm
   obtain ⟨h0,h1,h2,h3⟩:=hb
   obtain ⟨ρ',e1,e2,e3⟩:=WQ h e ((hr ρ).reps m.toNat)
   have hrun:=run_make (P:=P) w t e i zv ht hi hz' k1 k2 n m h0 h1 (by rw [Int.mul_comm]; omega) (by omega)
   rw [← hzs,SV] at hrun
   refine ⟨_,_,ρ',hrun,e1,e2,?_⟩
   obtain ⟨r,hr1,hr2,hr3⟩:=e3
   exact .mk_exact (x:=⟨σ.size,0,none⟩) (by unfold A4; omega) hr1 rfl hr3
  ·cases hm
 ·cases hm
theorem LR.of_flat {l:List Value} (h:∀ v∈l,OJ v=true):LR ρ l l:=YP ρ (List.all_eq_true.2 h)
theorem MI (h:CF B w0 ρ σ w) {a a':Addr} {n:Nat} {l:List Value} (hs:oQ σ a n=some l) (ha:n=0∨AR ρ a a') :
 ∃ l',LR ρ l l'∧l'.length=n∧∀ w2:World,w2.heap=w.heap→(loadCells a' n).run P w2=.ok l'.toArray w2:=by
 obtain ⟨l',h1,h2,h3⟩:=l6 h hs ha
 refine ⟨l',h1,h2,fun w2 hw=>vV h2 fun j v hv=>?_⟩
 have:=h3 j v hv
 unfold World.cell? at *
 rw [hw]; exact this
theorem rO (h:CF B w0 ρ σ w) {z n:Nat} {x x':Value} {news:List Value} (hx:VR ρ x x') (hs:D5 z x σ=some (n,news)) :
 ∃ news',LR ρ news news'∧(∀ w2:World,(Builtin.lenOf x').run P w2=.ok n w2)∧∀ w2:World,w2.heap=w.heap→(Builtin.firstCells z n x').run P w2=.ok news'.toArray w2:=by
 unfold D5 at hs
 split at hs
 ·rename_i a len c
  simp only [Option.map_eq_some_iff] at hs
  obtain ⟨l,hl,he⟩:=hs
  cases he
  obtain ⟨a',c',rfl,_,_,hcases⟩:=hx.slice_inv
  rcases hcases with ⟨hh,_⟩ | ⟨x,x1,r,hxe,rfl,hr,rfl,_,hs0⟩ | ⟨x1,_,rfl,_,rfl,_⟩ | ⟨o,x1,_,rfl,_,rfl,_⟩
  ·cases hh
  ·cases hxe
   obtain ⟨l',h1,h2,h3⟩:=MI (P:=P) h hl (.inr ⟨r,hr,hs0,rfl⟩)
   exact ⟨l',h1,fun w2=>by simp [Builtin.lenOf],fun w2 hw=>by simp [Builtin.firstCells,h3 w2 hw]⟩
  all_goals
   obtain ⟨l',h1,h2,h3⟩:=MI (P:=P) (a':=x1) h hl (.inl (by omega))
   exact ⟨l',h1,fun w2=>by simp [Builtin.lenOf],fun w2 hw=>by simp only [Builtin.firstCells,h3 w2 hw]⟩
 ·rename_i len c
  split at hs
  ·rename_i hn; cases hs; subst hn
   cases hx
   exact ⟨[],LR.nil _,fun w2=>by simp [Builtin.lenOf],fun w2 _=>by simp [Builtin.firstCells]⟩
  ·cases hs
 ·rename_i s
  split at hs
  case isFalse=>cases hs
  cases hs
  rw [hx.string_inv]
  have he:s.extract 0 s.size=s:=by
   apply ByteArray.ext; simp [ByteArray.data_extract]
  refine ⟨_,LR.of_flat (l:=s.data.toList.map fun b=>Value.int .u8 b.toNat) ?_,fun w2=>by simp [Builtin.lenOf],fun w2 _=>by simp [Builtin.firstCells,he]; exact Array.ext' (by simp)⟩
  intro v hv
  simp at hv
  obtain ⟨b,_,rfl⟩:=hv
  rfl
 ·cases hs
end
end Go.Ax
namespace Go.Ax
open Go.RowKit
section
variable {P:Program} {B:Nat} {w0:World} {ρ:List RB} {σ:AHeap} {w:World}
def Q4 (P:Program) (u:TypeId):Bool :=
 match P.underlying u with
 | some (.slice _) | some .string=>true
 | _=>false
theorem iE {u:TypeId} (h:Q4 P u=true):(∃ e,P.underlying u=some (.slice e))∨P.underlying u=some .string:=by
 unfold Q4 at h
 split at h
 ·exact .inl ⟨_,by assumption⟩
 ·exact .inr (by assumption)
 ·cases h
theorem iD {t u ty e:TypeId} {i:TypeInfo} {a:Option Addr} {len c n:Nat} {x:Value} {new:Array Value} (ht:P.underlying t=some (.slice e)) (hi:P.info? e=some i)
 (hu:Q4 P u=true) (hn:(Builtin.lenOf x).run P w=.ok n w) (hf:(Builtin.firstCells i.size n x).run P w=.ok new w) (hc:len+n≤c) :
 (Builtin.append_ #[t,u] ty #[.slice a len c,x]).run P w =
  match a with
   | some a=>((storeCells (a.add (len*i.size)) new.toList).run P w).andThen fun _ w2=>.ok (.slice (some a) (len+n) c) w2
   | none=>.ok (.slice none (len+n) c) w:=by
 rcases iE hu with ⟨e',hd⟩ | hd
 all_goals cases a<;>simp [Builtin.append_,run_underlying ht,run_underlying hd,hn,CN hi,hc,hf]
theorem eK {t u ty e:TypeId} {i:TypeInfo} {z:Value} {a:Option Addr} {len c n:Nat} {x:Value} {old new:Array Value} (ht:P.underlying t=some (.slice e)) (hi:P.info? e=some i) (hz:i.zero=some z)
 (hu:Q4 P u=true) (hn:(Builtin.lenOf x).run P w=.ok n w) (hf:(Builtin.firstCells i.size n x).run P w.drew=.ok new w.drew)
 (hfo:(Builtin.firstCells i.size len (.slice a len c)).run P w.drew=.ok old w.drew) (hc:c<len+n) (h63:len+n≤140737488355328) (h48:(len+n)*i.bytes≤140737488355328) :
 (Builtin.append_ #[t,u] ty #[.slice a len c,x]).run P w =
  .ok (.slice (some ⟨w.heap.size,0,none⟩) (len+n) (grownCap w (len+n) c e)) (w.drew.alloc (.cells (old++new++Builtin.zeroCells z.cells (grownCap w (len+n) c e - (len+n))) e)):=by
 have hc':¬ (len+n≤c):=by omega
 have h63':¬ (9223372036854775807<((len:Int)+(n:Int))):=by omega
 have hfit:=growslice_fits hc h48
 have h48':¬ (281474976710656<Builtin.nextslicecap (len+n) c*i.bytes):=by omega
 rcases iE hu with ⟨e',hd⟩ | hd
 all_goals simp [Builtin.append_,run_underlying ht,run_underlying hd,hn,sizeOf,typeInfo,zeroValue,hi,hz,hc',h63',h48',Question.forced,hf,hfo,newRow,grownCap]
def wR (a b:List Value) (c:Array Value):Array Value:=a.toArray++b.toArray++c
theorem AB0 {a:Addr} {n:Nat} {l:List Value} (hs:oQ σ a n=some l):l.length=n:=by
 cases n with
 | zero=>simp [oQ] at hs; subst hs; rfl
 | succ m =>
   simp only [oQ,Option.bind_eq_some_iff] at hs
   obtain ⟨c,hc,hs⟩:=hs
   cases hb:Nat.ble (a.off+(m+1)) c.length with
   | false=>rw [hb] at hs; cases hs
   | true =>
     rw [hb] at hs
     have hle:=Nat.le_of_ble_eq_true hb
     cases hs
     simp; omega
theorem cH {z n:Nat} {x:Value} {news:List Value} (hs:D5 z x σ=some (n,news)):news.length=n*z:=by
 unfold D5 at hs
 split at hs
 ·simp only [Option.map_eq_some_iff,Prod.mk.injEq] at hs
  obtain ⟨l,hl,rfl,rfl⟩:=hs
  exact AB0 hl
 ·split at hs<;>cases hs; simp
 ·split at hs
  ·rename_i h1; cases hs; subst h1; simp
  ·cases hs
 ·cases hs
def AFe (P:Program) (w:World) (t u ty e:TypeId) (i:TypeInfo) (zv x':Value) (n:Nat) (news':List Value):Prop :=
 (∀ (a:Option Addr) (len c:Nat),len+n≤c→(Builtin.append_ #[t,u] ty #[.slice a len c,x']).run P w =
     match a with
      | some a=>((storeCells (a.add (len*i.size)) news').run P w).andThen fun _ w2=>.ok (.slice (some a) (len+n) c) w2
      | none=>.ok (.slice none (len+n) c) w)∧(∀ (a:Option Addr) (len c:Nat) (old:Array Value),(Builtin.firstCells i.size len (.slice a len c)).run P w.drew=.ok old w.drew→c<len+n→len+n≤140737488355328→(len+n)*i.bytes≤140737488355328→(Builtin.append_ #[t,u] ty #[.slice a len c,x']).run P w =
     .ok (.slice (some ⟨w.heap.size,0,none⟩) (len+n) (grownCap w (len+n) c e)) (w.drew.alloc (.cells (old++news'.toArray++Builtin.zeroCells zv.cells (grownCap w (len+n) c e - (len+n))) e)))
theorem UP (h:CF B w0 ρ σ w) {t u ty e:TypeId} {i:TypeInfo} {n:Nat} {zv s s' x':Value} {news news':List Value} {y:Value×AHeap}
 (hz':i.zero=some zv) (hzs:zv.cells.size=i.size) (hnl0:news.length=n*i.size) (hl:LR ρ news news') (hgive:AFe P w t u ty e i zv x' n news')
 (hs:VR ρ s s') (hy:G5 e i.size i.bytes s n news σ=some y) :
 ∃ v' w' ρ',(Builtin.append_ #[t,u] ty #[s',x']).run P w=.ok v' w'∧EJ ρ ρ'∧CF B w0 ρ' y.2 w'∧VR ρ' y.1 v':=by
 obtain ⟨hfit,hmore⟩:=hgive
 have hzero:n=0→news=[]:=fun e=>by subst e; simpa using hnl0
 unfold G5 at hy
 split at hy
 ·rename_i base len c
  obtain ⟨a',c',rfl,hk,hex,hcases⟩:=hs.slice_inv
  split at hy
  ·-- there is room,for sure
   rename_i hroom
   have hroom':len+n≤c':=by omega
   rw [hfit _ _ _ hroom']
   split at hy
   ·split at hy
    ·cases hy
     rcases hcases with ⟨_,rfl,hcn⟩ | ⟨_,_,_,hh,_⟩ | ⟨_,hh,_⟩ | ⟨_,_,hh,_⟩
     ·obtain rfl:=hex hcn
      exact ⟨_,w,ρ,rfl,EJ.refl _,h,.nilslice _ _ hcn⟩
     all_goals cases hh
    ·cases hy
   ·rename_i a
    simp only [Option.map_eq_some_iff] at hy
    obtain ⟨σ',hp,rfl⟩:=hy
    rcases hcases with ⟨hh,_⟩ | ⟨x0,x1,r,hxe,rfl,hr0,rfl,hcr,hs0⟩ | ⟨x1,hxe,rfl,hco,rfl,hs1⟩ | ⟨o,x1,hxe,rfl,hco,rfl,hs1⟩
    ·cases hh
    ·cases hxe
     obtain ⟨w',e1,e2,e3⟩:=QK (P:=P) h hp (.inr (AR.add ⟨r,hr0,hs0,rfl⟩ (len*i.size))) hl
     refine ⟨_,w',ρ,by simp only [e1,Result.andThen_ok]; rfl,EJ.refl _,e2,?_⟩
     obtain ⟨b,o,sp⟩:=a
     have hsp':=hs0
     simp only at hsp'; subst hsp'
     exact .slice b o _ c c' r hr0 hcr
    ·have hn0:news=[]:=by
      have hk0:BU A4=0:=by decide
      rw [hco,hk0] at hroom
      have hn:n=0:=by omega
      exact hzero hn
     subst hn0
     rw [hl.nil_inv]
     simp [PL] at hp; subst hp
     cases hxe
     refine ⟨.slice (some x1) (0+n) c',w,ρ,by simp [storeCells],EJ.refl _,h,?_⟩
     have hn:n=0:=by
      have hk0:BU A4=0:=by decide
      rw [hco,hk0] at hroom; omega
     subst hn; subst hco
     exact .zany _ _ hs1
    ·have hn:n=0:=by
      have hk0:BU 0=0:=by decide
      rw [hco,hk0] at hroom; omega
     have hn0:news=[]:=hzero hn
     subst hn0
     rw [hl.nil_inv]
     simp [PL] at hp; subst hp
     cases hxe
     refine ⟨.slice (some x1) (0+n) c',w,ρ,by simp [storeCells],EJ.refl _,h,?_⟩
     subst hn; subst hco
     have:c'=0:=hex (by unfold A4; omega)
     subst this
     exact .zslice _ _
  ·rename_i hroom
   split at hy
   ·rename_i hb
    obtain ⟨hb1,hb2,hb3⟩:=hb
    simp only [Option.bind_eq_some_iff] at hy
    obtain ⟨olds,hold,hy⟩:=hy
    -- the cells of the slice itself
    have hold':∃ olds',LR ρ olds olds'∧olds'.length=len*i.size∧∀ w2:World,w2.heap=w.heap→(Builtin.firstCells i.size len (.slice a' len c')).run P w2=.ok olds'.toArray w2:=by
     unfold XJ at hold
     rcases hcases with ⟨rfl,rfl,hcn⟩ | ⟨x0,x1,r,rfl,rfl,hr0,rfl,hcr,hs0⟩ | ⟨x1,rfl,rfl,hco,rfl,hs1⟩ | ⟨o,x1,rfl,rfl,hco,rfl,hs1⟩
     ·simp only at hold
      split at hold
      ·rename_i hl0; cases hold; subst hl0
       exact ⟨[],LR.nil _,by simp,fun w2 _=>by simp [Builtin.firstCells]⟩
      ·cases hold
     ·obtain ⟨l',h1,h2,h3⟩:=MI (P:=P) h hold (.inr ⟨r,hr0,hs0,rfl⟩)
      exact ⟨l',h1,h2,fun w2 hw=>by simp only [Builtin.firstCells,h3 w2 hw]⟩
     all_goals
      obtain ⟨l',h1,h2,h3⟩:=MI (P:=P) (a':=x1) h hold (.inl (by omega))
      exact ⟨l',h1,h2,fun w2 hw=>by simp only [Builtin.firstCells,h3 w2 hw]⟩
    obtain ⟨olds',hlo,hlol,hofirst⟩:=hold'
    have grow:c'<len+n→∀ σ2:AHeap,σ2.size=σ.size→CF B w0 ρ σ2 w→∃ v' w' ρ',(Builtin.append_ #[t,u] ty #[.slice a' len c',x']).run P w=.ok v' w'∧EJ ρ ρ'∧CF B w0 ρ' (σ2.push (.cells (olds++news) e true)) w'∧VR ρ' (.slice (some ⟨σ.size,0,none⟩) (len+n) (A4*i.size+(len+n))) v':=by
     intro hcc σ2 hsz h2
     have hrun:=hmore _ _ _ _ (hofirst w.drew rfl) hcc hb2 hb1
     have hge:len+n≤grownCap w (len+n) c' e:=by simp only [grownCap,Question.cut]; omega
     obtain ⟨ρ',e1,e2,e3⟩:=jK h2.drew e (Builtin.zeroCells zv.cells (grownCap w (len+n) c' e - (len+n))).toList (hlo.append hl)
     refine ⟨_,_,ρ',hrun,e1,?_,?_⟩
     ·have:(wR olds' news' (Builtin.zeroCells zv.cells (grownCap w (len+n) c' e - (len+n))))=(olds'++news'++(Builtin.zeroCells zv.cells (grownCap w (len+n) c' e - (len+n))).toList).toArray:=by
       apply Array.ext'; simp [wR]
      rw [← this] at e2
      exact e2
     ·rw [hsz] at e3
      have hnl:news'.length=n*i.size:=by
       rw [← hl.1,hnl0]
      have hres:=VR.slice (ρ:=ρ') σ.size 0 (len+n) (A4*i.size+(len+n)) (grownCap w (len+n) c' e) _ e3 (by
       unfold Y9
       have hdm:(A4*i.size+(len+n)) % A4=len+n∧(A4*i.size+(len+n)) / A4=i.size:=by
        have:len+n<A4:=by unfold A4; omega
        constructor
        ·rw [Nat.mul_add_mod,Nat.mod_eq_of_lt this]
        ·rw [Nat.mul_add_div (by unfold A4; omega),Nat.div_eq_of_lt this,Nat.add_zero]
       rw [if_neg (by have:A4*1≤A4*i.size:=Nat.mul_le_mul_left _ hb3
                      omega),hdm.1,hdm.2]
       refine ⟨hge,?_,?_⟩
       ·simp only [List.length_append,size_zeroCells,Array.length_toList,hlol,hnl,hzs,Nat.zero_add]
        rw [← Nat.add_mul,← Nat.add_mul]
        exact Nat.le_of_eq (by congr 1; omega)
       ·have:=grownCap_le_maxLen w (len+n) c' e (by unfold maxLen; omega)
        unfold maxLen at this
        exact this)
      simpa using hres
    split at hy
    ·rename_i hc
     cases hy
     obtain rfl:=hex hc
     rw [C6 hc] at hroom
     exact grow (by omega) σ rfl h
    ·rename_i hc
     split at hy
     ·rename_i a
      split at hy
      ·rename_i cs e' hg
       split at hy
       ·rename_i hcond
        obtain ⟨rfl,hze,hone,hzb⟩:=hcond
        cases hy
        by_cases hcc:c'<len+n
        ·exact grow hcc (σ.set a.block .dead) rfl (h.kill a.block (by rw [hg]; simp))
        ·have hcc:len+n≤c':=by omega
         rcases hcases with ⟨hh,_⟩ | ⟨x0,x1,r,hxe,rfl,hr0,rfl,hcr,hs0⟩ | ⟨x1,hxe,_,_,_⟩ | ⟨o,x1,hxe,_,hco,_⟩
         ·cases hh
         ·cases hxe
          unfold Y9 at hcr
          rw [if_neg hc,hze] at hcr
          obtain ⟨_,hfitc,hc63⟩:=hcr
          obtain ⟨r0,hr0',⟨cc,fz,x1,x2,x4,x5,x6,x7⟩,_⟩:=h.obj a.block _ hg
          rw [hr0] at hr0'; cases hr0'
          have hnl:news'.length=n*i.size:=by rw [← hl.1,hnl0]
          have hmul:(len+n)*i.size≤c'*i.size:=Nat.mul_le_mul_right _ hcc
          rw [Nat.add_mul] at hmul
          have hfits:r.s+a.off+len*i.size+0+news'.length≤cc.size:=by rw [x4,hnl]; omega
          have hone':∀ v∈news',v.oneCell'=true:=by
           intro v' hv'
           obtain ⟨j,hj,rfl⟩:=List.mem_iff_getElem.1 hv'
           have hj2:j<news.length:=by rw [hl.1]; exact hj
           have hr2:=hl.2 j _ _ (List.getElem?_eq_getElem hj2) (List.getElem?_eq_getElem hj)
           have ho:(news[j]).oneCell'=true:=List.all_eq_true.1 hone _ (List.getElem_mem hj2)
           have hlv:DQ (news[j])=true:=by
            revert ho; cases news[j]<;>simp [DQ,Value.oneCell']
           rw [← (hr2.live_eq hlv).2]; exact ho
          have hst:=KH (P:=P) r.b (r.s+a.off+len*i.size) e' fz news' 0 cc w x1 x2 hfits hone'
          have hrun:=hfit (some ⟨r.b,r.s+a.off,none⟩) len c' hcc
          simp only [Addr.add_lit,hst,Result.andThen_ok] at hrun
          have holdc:=hofirst w rfl
          -- the cells behind the store
          have hseg:LR ρ (olds++news) ((((cc.toList.take (r.s+a.off+len*i.size+0)++news'++cc.toList.drop (r.s+a.off+len*i.size+0+news'.length)).toArray).toList.drop (r.s+a.off)).take (olds++news).length):=by
           have holds2:olds'=((cc.toList.drop (r.s+a.off)).take (len*i.size)):=by
            have hrd:=run_loadCells_list (P:=P) w ⟨r.b,r.s+a.off,none⟩ ((cc.toList.drop (r.s+a.off)).take (len*i.size)) (fun j v hv=>by
             rw [List.getElem?_take] at hv
             split at hv
             ·rw [Addr.add_lit]; simp at hv; simp [World.cell?,x1,hv]
             ·cases hv)
            have hlen2:((cc.toList.drop (r.s+a.off)).take (len*i.size)).length=len*i.size:=by simp; omega
            rw [hlen2] at hrd
            simp only [Builtin.firstCells] at holdc
            rw [hrd] at holdc
            injection holdc with h1 h2
            have:=congrArg Array.toList h1
            simpa using this.symm
           have:=SE cc.toList news' (r.s+a.off) (olds++news).length (len*i.size) news'.length rfl (by simp [hlo.1,hl.1,hlol]) (by simp [hlo.1,hl.1,hlol,hnl]; omega)
           simp only [Nat.add_zero,List.toList_toArray]
           rw [this]
           have e1:splice ((cc.toList.drop (r.s+a.off)).take (olds++news).length) (len*i.size) news'=olds'++news':=by
            have hL2:(olds++news).length=len*i.size+news'.length:=by simp [hlo.1,hl.1,hlol]
            have hd:∀ X:List Value,List.drop (len*i.size+news'.length) (List.take (len*i.size+news'.length) X)=[]:=fun X=>by
             rw [List.drop_eq_nil_iff]; simp; omega
            unfold splice
            rw [hL2,hd,List.append_nil,List.take_take,Nat.min_eq_left (by omega),← holds2]
           rw [e1]
           exact hlo.append hl
          obtain ⟨q1,q2,q3⟩:=h.rebirth (o':=.cells (olds++news) e' true) (r2:=⟨r.b,r.s+a.off,r.n⟩) hg rfl rfl hr0 rfl
           (w':=w.setRow r.b (cc.toList.take (r.s+a.off+len*i.size+0)++news'++cc.toList.drop (r.s+a.off+len*i.size+0+news'.length)).toArray)
           ⟨_,fz,setRow_heap w r.b cc _ e' fz x1,by
            have:(cc.toList.take (r.s+a.off+len*i.size+0)++news'++cc.toList.drop (r.s+a.off+len*i.size+0+news'.length)).toArray.size=cc.size:=by simp; omega
            rw [this]; exact x2,by simp; omega,(fun hh=>by simp at hh),(by simp [hlo.1,hl.1,hlol,hnl]; omega),hseg.mono (EJ.append _ _)⟩
           (fun k hk=>setRow_other _ _ _ _ hk) rfl rfl rfl (by simp [World.setRow])
          refine ⟨_,_,_,hrun,q2,q1,?_⟩
          have hres:=VR.slice (ρ:=ρ++[⟨r.b,r.s+a.off,r.n⟩]) σ.size 0 (len+n) (A4*i.size+(len+n)) c' _ q3 (by
           unfold Y9
           have hdm:(A4*i.size+(len+n)) % A4=len+n∧(A4*i.size+(len+n)) / A4=i.size:=by
            have:len+n<A4:=by unfold A4; omega
            constructor
            ·rw [Nat.mul_add_mod,Nat.mod_eq_of_lt this]
            ·rw [Nat.mul_add_div (by unfold A4; omega),Nat.div_eq_of_lt this,Nat.add_zero]
           rw [if_neg (by have:A4*1≤A4*i.size:=Nat.mul_le_mul_left _ hb3
                          omega),hdm.1,hdm.2]
           exact ⟨hcc,by simpa using hfitc,hc63⟩)
          simpa using hres
         ·cases hxe
          exact (by cases hzb)
         ·exact absurd (show c<A4 by rw [hco]; unfold A4; omega) hc
       ·cases hy
      ·cases hy
     ·cases hy
   ·cases hy
 ·cases hy
theorem kM (h:CF B w0 ρ σ w) {t u ty e:TypeId} {z by':Nat} {zv s s' x x':Value} {y:Value×AHeap} (he:DH P t=some (e,z,by')) (hz:CK P e=some zv)
 (hu:Q4 P u=true) (hs:VR ρ s s') (hx:VR ρ x x') (hy:BZ e z by' s x σ=some y) :
 ∃ v' w' ρ',(Builtin.append_ #[t,u] ty #[s',x']).run P w=.ok v' w'∧EJ ρ ρ'∧CF B w0 ρ' y.2 w'∧VR ρ' y.1 v':=by
 obtain ⟨i,ht,hi,rfl,rfl⟩:=MO he
 obtain ⟨i',hi',hz',hr,hzs⟩:=EV hz
 rw [hi] at hi'; cases hi'
 unfold BZ at hy
 simp only [Option.bind_eq_some_iff,Prod.exists] at hy
 obtain ⟨n,news,hsrc,hy⟩:=hy
 obtain ⟨news',hl,hlen,hfirst⟩:=rO (P:=P) h hx hsrc
 refine UP h hz' hzs (cH hsrc) hl ⟨fun a len c hc=>?_,fun a len c old ho hc h1 h2=>?_⟩ hs hy
 ·have:=iD (ty:=ty) ht hi hu (hlen w) (hfirst w rfl) hc (a:=a)
  simpa using this
 ·exact eK (ty:=ty) ht hi hz' hu (hlen w) (hfirst w.drew rfl) ho hc h1 h2
def dN (P:Program) (u:TypeId):Bool :=
 match P.underlying u with
 | some (.int _)=>true
 | _=>false
theorem yJ {u:TypeId} (h:dN P u=true):∃ k,P.underlying u=some (.int k):=by
 unfold dN at h
 split at h
 ·exact ⟨_,by assumption⟩
 ·cases h
theorem jE (h:CF B w0 ρ σ w) {t u ty e:TypeId} {z by':Nat} {zv s s' x x':Value} {y:Value×AHeap} (he:DH P t=some (e,z,by')) (hz:CK P e=some zv)
 (hu:dN P u=true) (hs:VR ρ s s') (hx:VR ρ x x') (hy:O0 e z by' zv.cells.toList s x σ=some y) :
 ∃ v' w' ρ',(Builtin.append_ #[t,u] ty #[s',x']).run P w=.ok v' w'∧EJ ρ ρ'∧CF B w0 ρ' y.2 w'∧VR ρ' y.1 v':=by
 obtain ⟨i,ht,hi,rfl,rfl⟩:=MO he
 obtain ⟨i',hi',hz',hr,hzs⟩:=EV hz
 rw [hi] at hi'; cases hi'
 obtain ⟨k,hk⟩:=yJ hu
 unfold O0 at hy
 split at hy
 ·rename_i kk m
  rw [hx.int_inv]
  split at hy
  ·rename_i hb
   obtain ⟨hb0,hb1,hb2⟩:=hb
   have hw:IntKind.i64.wrap m=m:=by rw [IntKind.wrap_i64]; omega
   have hzc:Builtin.zeroCells zv.cells m.toNat=(reps m.toNat zv.cells.toList).toArray:=SV m.toNat zv.cells
   have hz2:m.toNat*i.size=0→(reps m.toNat zv.cells.toList).toArray=#[]:=by
    intro e0
    have:(reps m.toNat zv.cells.toList).length=0:=by rw [P8]; simpa [hzs] using e0
    rw [List.length_eq_zero_iff.1 this]
   have n1:¬ m<0:=by omega
   have n2:¬ ((281474976710656:Int)<m*(i.bytes:Int)):=by omega
   refine UP h hz' hzs (by rw [P8]; simp [hzs]) ((hr ρ).reps m.toNat) ⟨fun a len c hc=>?_,fun a len c old ho hc h1 h2=>?_⟩ hs hy
   ·by_cases h0:m.toNat*i.size=0
    ·have h0':=hz2 h0
     have h0'':reps m.toNat zv.cells.toList=[]:=by simpa using h0'
     cases a<;>simp [Builtin.append_,run_underlying ht,run_underlying hk,asInt,asIntOf,hw,n1,n2,typeInfo,sizeOf,hi,hc,h0,h0'',storeCells]
    ·cases a<;>simp [Builtin.append_,run_underlying ht,run_underlying hk,asInt,asIntOf,hw,n1,n2,typeInfo,sizeOf,zeroValue,hi,hz',hc,h0,hzc]
   ·have hc':¬ (len+m.toNat≤c):=by omega
    have h63':¬ (9223372036854775807<((len:Int)+max m 0)):=by omega
    have h48':¬ (281474976710656<Builtin.nextslicecap (len+m.toNat) c*i.bytes):=by
     have:=growslice_fits hc h2
     omega
    by_cases h0:m.toNat*i.size=0
    ·have h0':=hz2 h0
     have h0'':reps m.toNat zv.cells.toList=[]:=by simpa using h0'
     simp [Builtin.append_,run_underlying ht,run_underlying hk,asInt,asIntOf,hw,n1,n2,sizeOf,typeInfo,zeroValue,hi,hz',hc',h63',h48',Question.forced,ho,newRow,grownCap,h0,h0'']
    ·simp [Builtin.append_,run_underlying ht,run_underlying hk,asInt,asIntOf,hw,n1,n2,sizeOf,typeInfo,zeroValue,hi,hz',hc',h63',h48',Question.forced,ho,newRow,grownCap,h0,hzc]
  ·cases hy
 ·cases hy
end
end Go.Ax
namespace Go.Ax
open Go.RowKit
section
variable {P:Program} {B:Nat} {w0:World} {ρ:List RB} {σ:AHeap} {w:World}
theorem VR.slice_ar {a:Option Addr} {l c:Nat} {v':Value} (h:VR ρ (.slice a l c) v') :
 ∃ a' c',v'=.slice a' l c'∧((a=none∧a'=none)∨∃ x x',a=some x∧a'=some x'∧(l=0∨AR ρ x x')):=by
 obtain ⟨a',c',rfl,_,_,hcases⟩:=h.slice_inv
 refine ⟨a',c',rfl,?_⟩
 rcases hcases with ⟨rfl,rfl,_⟩ | ⟨x,x1,r,rfl,rfl,hr,rfl,_,hs0⟩ | ⟨x1,rfl,hl,_,rfl,_⟩ | ⟨o,x1,rfl,hl,_,rfl,_⟩
 ·exact .inl ⟨rfl,rfl⟩
 ·exact .inr ⟨x,_,rfl,rfl,.inr ⟨r,hr,hs0,rfl⟩⟩
 ·exact .inr ⟨_,x1,rfl,rfl,.inl hl⟩
 ·exact .inr ⟨_,x1,rfl,rfl,.inl hl⟩
theorem rL (h:CF B w0 ρ σ w) {t u ty e:TypeId} {z by':Nat} {d d' x x':Value} {y:Value×AHeap} (he:DH P t=some (e,z,by'))
 (hd:VR ρ d d') (hx:VR ρ x x') (hy:LM z d x σ=some y) :
 ∃ v' w',(Builtin.copy_ #[t,u] ty #[d',x']).run P w=.ok v' w'∧CF B w0 ρ y.2 w'∧VR ρ y.1 v':=by
 obtain ⟨i,ht,hi,rfl,rfl⟩:=MO he
 unfold LM at hy
 split at hy
 ·rename_i base dl dc xb xl xc
  simp only [Option.bind_eq_some_iff,Prod.exists] at hy
  obtain ⟨n,l,hsrc,hy⟩:=hy
  obtain ⟨b',dc',rfl,hbase⟩:=hd.slice_ar
  obtain ⟨xb',xc',rfl,hxb⟩:=hx.slice_ar
  -- what is read
  have hread:n=Nat.min xl dl∧∃ l',LR ρ l l'∧(Builtin.firstCells i.size n (.slice xb' xl xc')).run P w=.ok l'.toArray w:=by
   unfold D5 at hsrc
   split at hsrc
   ·rename_i a len c hx1
    cases hx1
    simp only [Option.map_eq_some_iff,Prod.mk.injEq] at hsrc
    obtain ⟨l0,hl0,rfl,rfl⟩:=hsrc
    rcases hxb with ⟨hh,_⟩ | ⟨x0,x1,hh,rfl,hor⟩
    ·cases hh
    ·cases hh
     have hor':Nat.min xl dl*i.size=0∨AR ρ a x1:=by
      rcases hor with h0 | h0
      ·left; subst h0; simp
      ·exact .inr h0
     obtain ⟨l',h1,h2,h3⟩:=MI (P:=P) h hl0 hor'
     exact ⟨rfl,l',h1,by simp only [Builtin.firstCells,h3 w rfl]⟩
   ·rename_i len c hx1
    cases hx1
    split at hsrc
    ·rename_i h0; cases hsrc
     rcases hxb with ⟨_,rfl⟩ | ⟨x0,x1,hh,_⟩
     ·exact ⟨h0.symm,[],LR.nil _,by simp [Builtin.firstCells]⟩
     ·cases hh
    ·cases hsrc
   ·rename_i hx1; cases hx1
   ·cases hsrc
  obtain ⟨rfl,l',hl,hfirst⟩:=hread
  have hhead:(Builtin.copy_ #[t,u] ty #[.slice b' dl dc',.slice xb' xl xc']).run P w =
   match b' with
   | some a=>((storeCells a l').run P w).andThen fun _ w'=>.ok (.int .i64 (Nat.min xl dl:Nat)) w'
   | none=>.ok (.int .i64 (Nat.min xl dl:Nat)) w:=by
   cases b'<;>simp [Builtin.copy_,run_underlying ht,Builtin.lenOf,CN hi,hfirst,goInt]
  split at hy
  ·rename_i a
   simp only [Option.map_eq_some_iff] at hy
   obtain ⟨σ',hp,rfl⟩:=hy
   rcases hbase with ⟨hh,_⟩ | ⟨x0,x1,hh,rfl,hor⟩
   ·cases hh
   ·cases hh
    have hor':l=[]∨AR ρ a x1:=by
     rcases hor with h0 | h0
     ·left
      subst h0
      have:=cH hsrc
      rw [show Nat.min xl 0=0 from Nat.min_zero _] at this
      simpa using this
     ·exact .inr h0
    obtain ⟨w',e1,e2,e3⟩:=QK (P:=P) h hp hor' hl
    rw [hhead]
    exact ⟨_,w',by simp only [e1,Result.andThen_ok],e2,.int _ _⟩
  ·cases hy
   rcases hbase with ⟨_,rfl⟩ | ⟨x0,x1,hh,_⟩
   ·rw [hhead]; exact ⟨_,w,rfl,h,.int _ _⟩
   ·cases hh
 ·cases hy
theorem ZN:∀ (l:List Value) (bs:List UInt8),Ax.bytesOf l=some bs→∃ ns:List Int,l=ns.map (Value.int .u8)∧bs=ns.map fun n=>UInt8.ofNat n.toNat
 | [],bs,h=>by simp [Ax.bytesOf] at h; subst h; exact ⟨[],rfl,rfl⟩
 | v::t,bs,h=>by
   unfold Ax.bytesOf at h
   split at h
   ·cases ‹_::_=[]›
   ·rename_i n l' he
    cases he
    simp only [Option.map_eq_some_iff] at h
    obtain ⟨bs',hb,rfl⟩:=h
    obtain ⟨ns,rfl,rfl⟩:=ZN _ bs' hb
    exact ⟨n::ns,rfl,rfl⟩
   ·cases h
theorem TL:∀ (l:List Int) (r:ByteArray),l.foldl (fun r n=>r.push (UInt8.ofNat n.toNat)) r=⟨(r.data.toList++l.map fun n=>UInt8.ofNat n.toNat).toArray⟩
 | [],r=>by simp
 | b::l,r=>by
   simp only [List.foldl_cons,List.map_cons]
   rw [TL l]
   simp [ByteArray.push]
theorem LR.bytes {l l':List Value} {bs:List UInt8} (h:LR ρ l l') (hb:Ax.bytesOf l=some bs):Ax.bytesOf l'=some bs:=by
 induction l generalizing l' bs with
 | nil=>rw [h.nil_inv]; exact hb
 | cons v t ih =>
   obtain ⟨v',t',rfl,h1,h2⟩:=h.cons_inv
   unfold Ax.bytesOf at hb
   split at hb
   ·cases ‹_::_=[]›
   ·rename_i n l0 he
    cases he
    simp only [Option.map_eq_some_iff] at hb
    obtain ⟨bs',hb,rfl⟩:=hb
    rw [h1.int_inv]
    simp [Ax.bytesOf,ih h2 hb]
   ·cases hb
theorem eC (h:CF B w0 ρ σ w) {x x' v:Value} (hx:VR ρ x x') (hv:V5 x σ=some v):(Conv.bytesToString x').run P w=.ok v w∧VR ρ v v:=by
 unfold V5 at hv
 split at hv
 ·cases hv
  obtain ⟨a',c',rfl,hor⟩:=hx.slice_ar
  rcases hor with ⟨_,rfl⟩ | ⟨x0,x1,hh,_⟩
  ·exact ⟨by simp [Conv.bytesToString],.string _⟩
  ·cases hh
 ·rename_i a n c
  simp only [Option.bind_eq_some_iff,Option.map_eq_some_iff] at hv
  obtain ⟨l,hl,bs,hb,rfl⟩:=hv
  obtain ⟨a',c',rfl,hor⟩:=hx.slice_ar
  rcases hor with ⟨hh,_⟩ | ⟨x0,x1,hh,rfl,hor⟩
  ·cases hh
  ·cases hh
   obtain ⟨l',h1,h2,h3⟩:=MI (P:=P) h hl hor
   obtain ⟨ns,rfl,rfl⟩:=ZN _ _ (h1.bytes hb)
   refine ⟨?_,.string _⟩
   rw [run_bytesToString w x1 n c' ns (h3 w rfl),TL]
   have he0:ByteArray.empty.data=#[]:=rfl
   rw [he0]
   simp
 ·cases hv
def NB (P:Program):List Field→Option (List (Nat×Nat))
 | []=>some []
 | f::fs=>match P.info? f.type,NB P fs with
   | some i,some l=>some ((f.offset,i.size)::l)
   | _,_=>none
def QS (place:Nat→Option (Nat×Nat)) (cells:List Value):List (Nat×Value)→Option (List Value)
 | []=>some cells
 | (i,v)::rest =>
   match place i with
   | none=>none
   | some (off,size) =>
     cond (DQ v && Nat.beq v.cells.size size && Nat.ble (off+v.cells.size) cells.length) (QS place (splice cells off v.cells.toList) rest) none
def bM (P:Program) (t:TypeId) (BW:List (Nat×Value)):Option Value :=
 match CK P t,P.underlying t with
 | some z,some (.struct fs)=>match NB P fs.toList with
   | some pl=>(QS (pl[·]?) z.cells.toList BW).map fun l=>.agg l.toArray
   | none=>none
 | some z,some (.array _ e)=>match P.info? e with
   | some i=>(QS (fun k=>some (k*i.size,i.size)) z.cells.toList BW).map fun l=>.agg l.toArray
   | none=>none
 | _,_=>none
def HC (P:Program) (t:TypeId) (len:Nat) (BW:List (Nat×Value)) (σ:AHeap):Option (Value×AHeap) :=
 match DH P t with
 | some (e,z,_) =>
   match len with
   | 0=>some (.slice (some ⟨ZB,0,some 0⟩) 0 0,σ)
   | _=>match CK P e with
     | some zv=>cond (Nat.ble (len*z) 16777216 && Nat.blt 0 z) ((QS (fun k=>some (k*z,z)) (reps len zv.cells.toList) BW).map fun l=>(.slice (some ⟨σ.size,0,none⟩) len len,σ.push (.cells l e false))) none
     | none=>none
 | none=>none
def PR (ρ:List RB) (l l':List (Nat×Value)):Prop:=l.length=l'.length∧∀ (i:Nat) p p',l[i]?=some p→l'[i]?=some p'→p.1=p'.1∧VR ρ p.2 p'.2
theorem PR.cons_inv {p:Nat×Value} {l l':List (Nat×Value)} (h:PR ρ (p::l) l'):∃ p' t',l'=p'::t'∧p.1=p'.1∧VR ρ p.2 p'.2∧PR ρ l t':=by
 cases l' with
 | nil=>have:=h.1; simp at this
 | cons p' t' =>
   have h0:=h.2 0 p p' rfl rfl
   exact ⟨p',t',rfl,h0.1,h0.2,by have:=h.1; simpa using this,fun i a b ha hb=>h.2 (i+1) a b (by simpa using ha) (by simpa using hb)⟩
theorem qV (vs:List Value):∀ (k off:Nat) (cs:Array Value),off+k+vs.length≤cs.size→((vs.zipIdx k).foldl (fun (cs:Array Value) (p:Value×Nat)=>cs.setIfInBounds (off+p.2) p.1) cs).toList=cs.toList.take (off+k)++vs++cs.toList.drop (off+k+vs.length):=by
 induction vs with
 | nil=>intro k off cs h; simp
 | cons v t ih =>
   intro k off cs h
   simp only [List.zipIdx_cons,List.foldl_cons]
   rw [ih (k+1) off (cs.setIfInBounds (off+k) v) (by simp at h ⊢; omega)]
   have hs:=list_seg_step cs.toList (off+k) v t (by simp at h ⊢; omega)
   simp only [Array.toList_setIfInBounds,List.length_cons]
   rw [show off+(k+1)=off+k+1 by omega]
   exact hs
theorem qD (v:Array Value) (off:Nat) (cs:Array Value) (h:off+v.size≤cs.size) :
 (v.zipIdx.foldl (fun (cs:Array Value) (p:Value×Nat)=>cs.setIfInBounds (off+p.2) p.1) cs).toList=splice cs.toList off v.toList:=by
 have:=qV v.toList 0 off cs (by simpa using h)
 simp only [Nat.add_zero] at this
 rw [← Array.foldl_toList,Array.toList_zipIdx]
 unfold splice
 exact this
theorem P3 {place:Nat→Option (Nat×Nat)}:∀ (BW parts':List (Nat×Value)) (cells:List Value) (cells':Array Value) (l:List Value),
 PR ρ BW parts'→LR ρ cells cells'.toList→QS place cells BW=some l→∃ l',Instr.fill place cells' parts'=some l'∧LR ρ l l'.toList
 | [],parts',cells,cells',l,hp,hc,h=>by
   have:parts'=[]:=List.length_eq_zero_iff.1 hp.1.symm
   subst this
   simp [QS] at h; subst h
   exact ⟨cells',rfl,hc⟩
 | (i,v)::rest,parts',cells,cells',l,hp,hc,h=>by
   obtain ⟨⟨i',v'⟩,t',rfl,hi,hv,ht⟩:=hp.cons_inv
   simp only at hi hv; subst hi
   unfold QS at h
   split at h
   ·cases h
   ·rename_i off size hpl
    cases hb:(DQ v && Nat.beq v.cells.size size && Nat.ble (off+v.cells.size) cells.length) with
    | false=>rw [hb] at h; cases h
    | true =>
      rw [hb] at h
      simp only [cond_true] at h
      rw [Bool.and_eq_true,Bool.and_eq_true] at hb
      obtain ⟨⟨b1,b2⟩,b3⟩:=hb
      have b2:=Nat.eq_of_beq_eq_true b2
      have b3:=Nat.le_of_ble_eq_true b3
      have hl:=hv.cells b1
      have hsz:v'.cells.size=v.cells.size:=by have:=hl.1; simpa using this.symm
      have hcz:cells'.size=cells.length:=by have:=hc.1; simpa using this.symm
      have key:LR ρ (splice cells off v.cells.toList) (v'.cells.zipIdx.foldl (fun (cs:Array Value) (p:Value×Nat)=>cs.setIfInBounds (off+p.2) p.1) cells').toList:=by
       rw [qD _ _ _ (by omega)]
       exact hc.splice hl off
      obtain ⟨l',h1,h2⟩:=P3 rest t' _ _ l ht key h
      refine ⟨l',?_,h2⟩
      unfold Instr.fill
      rw [hpl]
      simp only
      have hn1:¬ (v'.cells.size≠size∨off+v'.cells.size > cells'.size):=by omega
      simp only [hsz,b2,hcz]
      rw [if_neg (by simp; omega)]
      exact h1
theorem sX {fs:List Field}:∀ {l:List (Nat×Nat)},NB P fs=some l→(fs.mapM (m:=Sem) fun f=>Prod.mk f.offset <$> sizeOf f.type).run P w=.ok l w:=by
 induction fs with
 | nil=>intro l h; simp [NB] at h; subst h; simp
 | cons f fs ih =>
   intro l h
   unfold NB at h
   split at h
   ·rename_i i l' hi hl
    cases h
    simp [List.mapM_cons,CN hi,ih hl]
   ·cases h
theorem mK {t:TypeId} {BW:List (Nat×Value)} {parts':Array (Nat×Value)} {v:Value} (hp:PR ρ BW parts'.toList) (h:bM P t BW=some v) :
 ∃ v',(Instr.build t parts').run P w=.ok v' w∧VR ρ v v':=by
 unfold bM at h
 split at h
 ·rename_i z fs hz ht
  obtain ⟨i,hi,hz',hr,_⟩:=EV hz
  split at h
  ·rename_i pl hpl
   simp only [Option.map_eq_some_iff] at h
   obtain ⟨l,hf,rfl⟩:=h
   obtain ⟨l',h1,h2⟩:=P3 (ρ:=ρ) BW parts'.toList z.cells.toList z.cells l hp (hr ρ) hf
   refine ⟨.agg l',?_,VR.agg' (by simpa using h2)⟩
   have hm:(fs.mapM (m:=Sem) fun f=>do pure (f.offset,← sizeOf f.type)).run P w=.ok pl.toArray w:=by
    rw [Array.mapM_eq_mapM_toList]
    simp [sX (w:=w) hpl]
   simp only [Instr.build,Sem.run_bind,GJ hi hz',Result.andThen_ok,run_underlying ht,hm]
   have hpl2:(fun (x:Nat)=>pl.toArray[x]?)=(fun (x:Nat)=>pl[x]?):=by funext x; simp
   rw [hpl2,h1]
   simp
  ·cases h
 ·rename_i z n e hz ht
  obtain ⟨i,hi,hz',hr,_⟩:=EV hz
  split at h
  ·rename_i j hj
   simp only [Option.map_eq_some_iff] at h
   obtain ⟨l,hf,rfl⟩:=h
   obtain ⟨l',h1,h2⟩:=P3 (ρ:=ρ) BW parts'.toList z.cells.toList z.cells l hp (hr ρ) hf
   refine ⟨.agg l',?_,VR.agg' (by simpa using h2)⟩
   simp [Instr.build,GJ hi hz',run_underlying ht,CN hj,h1]
  ·cases h
 ·cases h
theorem Z7 (h:CF B w0 ρ σ w) {t:TypeId} {len:Nat} {BW:List (Nat×Value)} {parts':Array (Nat×Value)} {y:Value×AHeap} (hp:PR ρ BW parts'.toList) (hy:HC P t len BW σ=some y) (hpl:len=0→BW=[]) :
 ∃ v' w' ρ',(Instr.buildSlice t len parts').run P w=.ok v' w'∧EJ ρ ρ'∧CF B w0 ρ' y.2 w'∧VR ρ' y.1 v':=by
 unfold HC at hy
 split at hy
 ·rename_i e z by' he
  obtain ⟨i,ht,hi,rfl,rfl⟩:=MO he
  split at hy
  ·cases hy
   have hpn:=hpl rfl
   subst hpn
   have hp0:parts'.toList=[]:=List.length_eq_zero_iff.1 hp.1.symm
   have hp0:parts'=#[]:=by simpa using hp0
   subst hp0
   have hg:∀ k,k<B→(w.alloc (.cells #[] e)).heap[k]?=w.heap[k]?:=fun k hk=>Below.heap_alloc _ _ _ (by have:=h.hsize; omega)
   refine ⟨_,w.alloc (.cells #[] e),ρ,by simp [Instr.buildSlice,run_underlying ht,CN hi,Instr.fill,newRow,Array.range_zero']; rfl,EJ.refl _,h.garbage _,.zslice 0 _⟩
  ·rename_i hlen
   split at hy
   ·rename_i zv hz
    obtain ⟨i',hi',hz',hr,hzs⟩:=EV hz
    rw [hi] at hi'; cases hi'
    cases hb:(Nat.ble (len*i.size) 16777216 && Nat.blt 0 i.size) with
    | false=>rw [hb] at hy; cases hy
    | true =>
      rw [hb] at hy
      simp only [cond_true,Option.map_eq_some_iff] at hy
      obtain ⟨l,hf,rfl⟩:=hy
      rw [Bool.and_eq_true] at hb
      have hb1:=Nat.le_of_ble_eq_true hb.1
      have hb2:0<i.size:=by simpa using hb.2
      have hl0:len≠0:=fun e=>hlen (by rw [e])
      have hc0:LR ρ (reps len zv.cells.toList) (madeCells zv.cells (len*zv.cells.size)).toList:=by
       rw [SV]; simpa using (hr ρ).reps len
      obtain ⟨l',h1,h2⟩:=P3 (ρ:=ρ) BW parts'.toList _ _ l hp hc0 hf
      obtain ⟨ρ',e1,e2,e3⟩:=WQ h e h2
      have hnz:¬ (len*i.size=0):=by
       intro e; rcases Nat.mul_eq_zero.1 e with e | e<;>omega
      rw [hzs] at h1
      unfold madeCells at h1
      refine ⟨.slice (some ⟨w.heap.size,0,none⟩) len len,w.alloc (.cells l' e),ρ',?_,e1,by simpa using e2,?_⟩
      ·have hb1':¬ (16777216<len*i.size):=by omega
       simp only [Instr.buildSlice,Sem.run_bind,run_underlying ht,Result.andThen_ok,CN hi]
       simp [hb1',hnz,GJ hi hz',h1,newRow]
      ·obtain ⟨r,hr1,hr2,hr3⟩:=e3
       exact .mk_exact (x:=⟨σ.size,0,none⟩) (by
        have:len*1≤len*i.size:=Nat.mul_le_mul_left _ hb2
        unfold A4; omega) hr1 rfl hr3
   ·cases hy
 ·cases hy
end
end Go.Ax
namespace Go.Ax
open Go.RowKit
def U9:TypeDesc→Bool
 | .int _ | .string=>true
 | _=>false
def kC:Value→Bool
 | .int _ _ | .string _=>true
 | _=>false
def OE (d:TypeDesc) (k:Value) (es:List MapEntry):Option (Option (Nat×Value)):=cond (U9 d) (Instr.findNow d k es 0) none
def PK (P:Program) (t:TypeId):Option (TypeDesc×TypeId) :=
 match P.underlying t with
 | some (.map k e)=>match P.underlying k with
   | some d=>some (d,e)
   | none=>none
 | _=>none
def JQ (m:Value) (σ:AHeap):Option (List MapEntry) :=
 match m with
 | .map none=>some []
 | .map (some r)=>match σ.get r with
   | some (.map es _)=>some es
   | _=>none
 | _=>none
def okV (ok:Bool) (v:Value) (b:Bool):Value:=cond ok (.tuple #[v,.bool b]) v
def EL (P:Program) (t:TypeId) (m k:Value) (ok:Bool) (σ:AHeap):Option Value :=
 match PK P t with
 | some (d,e)=>match CK P e with
   | some z=>(JQ m σ).bind fun es=>(OE d k es).bind fun r=>match r with
     | some (_,v)=>some (okV ok v true)
     | none=>some (okV ok z false)
   | none=>none
 | none=>none
def FL (P:Program) (t:TypeId) (m k v:Value) (σ:AHeap):Option AHeap :=
 match PK P t,m with
 | some (d,_),.map (some r)=>match σ.get r with
   | some (.map es clock)=>cond (kC k) ((OE d k es).bind fun f=>match f with
     | some (i,_)=>some (σ.set r (.map (es.modify i fun e=>{ e with key:=k,val:=v }) clock))
     | none=>some (σ.set r (.map (es++[{ key:=k,val:=v,born:=clock }]) (clock+1)))) none
   | _=>none
 | _,_=>none
def MD (P:Program) (t:TypeId) (m k:Value) (σ:AHeap):Option (Value×AHeap) :=
 match PK P t,m with
 | some (d,e),.map (some r)=>match CK P e,σ.get r with
   | some z,some (.map es clock)=>cond (kC k) ((OE d k es).bind fun f=>match f with
     | some (i,v)=>(es[i]?).map fun x=>(.tuple #[v,.int .i64 (x.born:Nat)],σ.set r (.map (es.modify i fun e=>{ e with key:=k }) clock))
     | none=>some (.tuple #[z,.int .i64 (clock:Nat)],σ.set r (.map (es++[{ key:=k,val:=z,born:=clock }]) (clock+1)))) none
   | _,_=>none
 | _,_=>none
def HA (m s v:Value) (σ:AHeap):Option AHeap :=
 match m,s with
 | .map (some r),.int _ n=>match σ.get r with
   | some (.map es clock)=>(es.findIdx? fun e=>(e.born:Int) == n).map fun i=>σ.set r (.map (es.modify i fun e=>{ e with val:=v }) clock)
   | _=>none
 | _,_=>none
def M8 (P:Program) (t:TypeId) (m k:Value) (σ:AHeap):Option AHeap :=
 match PK P t,m with
 | some (d,_),.map none=>cond (U9 d) (some σ) none
 | some (d,_),.map (some r)=>match σ.get r with
   | some (.map es clock)=>(OE d k es).bind fun f=>match f with
     | some (i,_)=>some (σ.set r (.map (es.eraseIdx i) clock))
     | none=>some (σ.set r (.map es clock))
   | _=>none
 | _,_=>none
section
variable {P:Program} {B:Nat} {w0:World} {ρ:List RB} {σ:AHeap} {w:World}
theorem D8 {r:Nat} {o:Obj} (h:w.heap[r]?=some o) (hn:∀ c e fz,o≠.cells c e fz):(getObj r).run P w=.ok o w:=by
 unfold getObj Sem.run
 rw [h]
 cases o<;>first | rfl | exact absurd rfl (hn _ _ _)
theorem uQ {r:Nat} {o o':Obj} (h:w.heap[r]?=some o) (hn:∀ c e fz,o≠.cells c e fz):(setObj r o').run P w=.ok () { w with heap:=w.heap.setIfInBounds r o' }:=by
 unfold setObj Sem.run
 rw [h]
 cases o<;>first | rfl | exact absurd rfl (hn _ _ _)
theorem RM {t:TypeId} {d:TypeDesc} {e:TypeId} (h:PK P t=some (d,e)):∃ k,P.underlying t=some (.map k e)∧P.underlying k=some d:=by
 unfold PK at h
 split at h
 ·rename_i k e' ht
  split at h
  ·rename_i d' hk; cases h; exact ⟨k,ht,hk⟩
  ·cases h
 ·cases h
theorem K7 {k:TypeId} {d:TypeDesc} (hd:P.underlying k=some d) (hk:U9 d=true) (b:Bool) (v:Value):(Instr.checkKey b 10000 k v).run P w=.ok () w:=by
 show (Instr.checkKey b (9999+1) k v).run P w=.ok () w
 unfold Instr.checkKey
 cases d<;>simp [U9] at hk<;>simp [run_underlying hd]
theorem dZ {d:TypeDesc} (hk:U9 d=true) {a a' b b':Value} (ha:VR ρ a a') (hb:VR ρ b b') {r:Bool} (h:Instr.sameNow d a b=some r):Instr.sameNow d a' b'=some r:=by
 unfold Instr.sameNow at h
 split at h
 ·rw [ha.int_inv,hb.int_inv]; exact h
 ·rw [ha.string_inv,hb.string_inv]; exact h
 ·simp [U9] at hk
 ·cases h
theorem NP {d:TypeDesc} (hk:U9 d=true) {k k':Value} (hkk:VR ρ k k'):∀ (es es':List MapEntry) (i:Nat) (r:Option (Nat×Value)),EK ρ es es'→Instr.findNow d k es i=some r→∃ r',Instr.findNow d k' es' i=some r'∧((r=none∧r'=none)∨∃ j v v',r=some (j,v)∧r'=some (j,v')∧VR ρ v v')
 | [],es',i,r,he,h=>by
   have:es'=[]:=List.length_eq_zero_iff.1 he.1.symm
   subst this
   simp [Instr.findNow] at h; subst h
   exact ⟨none,rfl,.inl ⟨rfl,rfl⟩⟩
 | e::es,es',i,r,he,h=>by
   cases es' with
   | nil=>have:=he.1; simp at this
   | cons e' es' =>
     obtain ⟨h1,h2,_,_⟩:=he.2 0 e e' rfl rfl
     have ht:EK ρ es es':=⟨by have:=he.1; simpa using this,fun j a b ha hb=>he.2 (j+1) a b (by simpa using ha) (by simpa using hb)⟩
     unfold Instr.findNow at h ⊢
     split at h
     ·rename_i hs
      cases h
      rw [dZ hk hkk h1 hs]
      exact ⟨_,rfl,.inr ⟨i,e.val,e'.val,rfl,rfl,h2⟩⟩
     ·rename_i hs
      rw [dZ hk hkk h1 hs]
      exact NP hk hkk es es' (i+1) r ht h
     ·cases h
theorem Y1 {d:TypeDesc} {k:Value}:∀ (es:List MapEntry) (i j:Nat) (v:Value),Instr.findNow d k es i=some (some (j,v))→i≤j∧∃ e,es[j - i]?=some e∧Instr.sameNow d k e.key=some true∧e.val=v
 | [],i,j,v,h=>by simp [Instr.findNow] at h
 | e::es,i,j,v,h=>by
   unfold Instr.findNow at h
   split at h
   ·rename_i hs
    simp only [Option.some.injEq,Prod.mk.injEq] at h
    obtain ⟨rfl,rfl⟩:=h
    exact ⟨Nat.le_refl _,e,by simp,hs,rfl⟩
   ·obtain ⟨h1,e',h2,h3,h4⟩:=Y1 es (i+1) j v h
    refine ⟨by omega,e',?_,h3,h4⟩
    rw [show j - i=(j - (i+1))+1 by omega]
    simpa using h2
   ·cases h
theorem WC {t:TypeId} {z:Value} (h:CK P t=some z) (ρ:List RB):VR ρ z z:=by
 obtain ⟨i,_,_,hr,_⟩:=EV h
 have:=hr ρ
 cases z with
 | agg c=>exact VR.agg' this
 | tuple c =>
   have h0:OJ (.tuple c)=true:=by
    unfold CK at h
    split at h
    ·split at h
     ·rename_i z' _
      cases hb:(z'.cells.toList.all OJ && Nat.beq z'.cells.size _) with
      | false=>rw [hb] at h; cases h
      | true=>rw [hb] at h; cases h; rw [Bool.and_eq_true] at hb; simpa [Value.cells] using hb.1
     ·cases h
    ·cases h
   simp [OJ] at h0
 | _=>exact this.2 0 _ _ rfl rfl
theorem VR.okV {v v':Value} (ok b:Bool) (h:VR ρ v v'):VR ρ (Ax.okV ok v b) (Ax.okV ok v' b):=by
 cases ok with
 | false=>exact h
 | true=>exact VR.tuple' (LR.cons h (LR.cons (.bool b) (LR.nil _)))
theorem VR.map_inv {r:Nat} {v':Value} (h:VR ρ (.map (some r)) v'):∃ x,v'=.map (some x.b)∧ρ[r]?=some x:=by
 cases h with
 | map b x hx=>exact ⟨x,rfl,hx⟩
theorem CF.mapAt (h:CF B w0 ρ σ w) {r:Nat} {es:List MapEntry} {clock:Nat} {x:RB} (hg:σ.get r=some (.map es clock)) (hx:ρ[r]?=some x) :
 ∃ es',w.heap[x.b]?=some (.map es' clock)∧EK ρ es es'.toList:=by
 obtain ⟨r0,a,⟨es',y1,y2⟩,_⟩:=h.obj r _ hg
 rw [hx] at a; cases a
 exact ⟨es',y1,y2⟩
theorem VL (h:CF B w0 ρ σ w) {m m':Value} {es:List MapEntry} (hm:VR ρ m m') (he:JQ m σ=some es) :
 ∃ es',EK ρ es es'.toList∧((m'=.map none∧es'=#[])∨∃ b clock,m'=.map (some b)∧w.heap[b]?=some (.map es' clock)):=by
 unfold JQ at he
 split at he
 ·cases he
  cases hm
  exact ⟨#[],⟨rfl,fun i e e' a=>by simp at a⟩,.inl ⟨rfl,rfl⟩⟩
 ·rename_i r
  split at he
  ·rename_i es0 clock hg
   cases he
   obtain ⟨x,rfl,hx⟩:=hm.map_inv
   obtain ⟨es',h1,h2⟩:=h.mapAt hg hx
   exact ⟨es',h2,.inr ⟨_,clock,rfl,h1⟩⟩
  ·cases he
 ·cases he
theorem WV {d:TypeDesc} {k:Value} {es:List MapEntry} {r:Option (Nat×Value)} (h:OE d k es=some r):U9 d=true∧Instr.findNow d k es 0=some r:=by
 unfold OE at h
 cases hk:U9 d with
 | false=>rw [hk] at h; cases h
 | true=>rw [hk] at h; exact ⟨rfl,h⟩
theorem QL {kt:TypeId} {d:TypeDesc} {k:Value} {es:List MapEntry} {r:Option (Nat×Value)} (hd:P.underlying kt=some d) (h:Instr.findNow d k es 0=some r):(Instr.findKey kt k es).run P w=.ok r w:=by
 simp [Instr.findKey,run_underlying hd,h]
theorem kF (h:CF B w0 ρ σ w) {t:TypeId} {m m' k k' v:Value} {ok:Bool} (hm:VR ρ m m') (hk:VR ρ k k') (hv:EL P t m k ok σ=some v) :
 ∃ v',(Instr.lookup t m' k' ok).run P w=.ok v' w∧VR ρ v v':=by
 unfold EL at hv
 split at hv
 ·rename_i d e hmo
  obtain ⟨kt,ht,hkt⟩:=RM hmo
  split at hv
  ·rename_i z hz
   obtain ⟨i,hi,hz',_,_⟩:=EV hz
   simp only [Option.bind_eq_some_iff] at hv
   obtain ⟨es,he,f,hf,hv⟩:=hv
   obtain ⟨es',hes,hor⟩:=VL h hm he
   obtain ⟨hkd,hf⟩:=WV hf
   obtain ⟨f',hf',hrel⟩:=NP hkd hk es es'.toList 0 f hes hf
   have hck:=fun b=>K7 (P:=P) (w:=w) hkt hkd b k'
   have hfk:=QL (P:=P) (w:=w) hkt hf'
   have hzv:=GJ (P:=P) (w:=w) hi hz'
   have hmain:(Instr.lookup t m' k' ok).run P w=.ok (match f' with | some (_,v)=>okV ok v true | none=>okV ok z false) w:=by
    rcases hor with ⟨rfl,rfl⟩ | ⟨b,clock,rfl,hb⟩
    ·rcases hrel with ⟨rfl,rfl⟩ | ⟨j,u,u',rfl,rfl,_⟩
     ·cases ok<;>simp [Instr.lookup,run_underlying ht,hck,hfk,hzv,okV]
     ·simp [Instr.findNow] at hf'
    ·have hgo:=D8 (P:=P) hb (fun c e fz=>by simp)
     rcases hrel with ⟨rfl,rfl⟩ | ⟨j,u,u',rfl,rfl,_⟩
     ·cases ok<;>simp [Instr.lookup,run_underlying ht,hck,hfk,hzv,hgo,okV]
     ·cases ok<;>simp [Instr.lookup,run_underlying ht,hck,hfk,hgo,okV]
   refine ⟨_,hmain,?_⟩
   rcases hrel with ⟨rfl,rfl⟩ | ⟨j,u,u',rfl,rfl,hu⟩
   ·cases hv; exact (WC hz ρ).okV ok false
   ·cases hv; exact hu.okV ok true
  ·cases hv
 ·cases hv
end
end Go.Ax
namespace Go.Ax
open Go.RowKit
section
variable {P:Program} {B:Nat} {w0:World} {ρ:List RB} {σ:AHeap} {w:World}
theorem EK.app {es es':List MapEntry} (h:EK ρ es es') {k k' v v':Value} {b:Nat} (hk:VR ρ k k') (hv:VR ρ v v') (hl:DQ k=true) :
 EK ρ (es++[{ key:=k,val:=v,born:=b }]) (es'++[{ key:=k',val:=v',born:=b }]):=by
 refine ⟨by simp [h.1],fun i e e' a b=>?_⟩
 rw [List.getElem?_append] at a b
 split at a
 ·rename_i hlt
  rw [if_pos (by rw [← h.1]; exact hlt)] at b
  exact h.2 i e e' a b
 ·rename_i hge
  rw [if_neg (by rw [← h.1]; exact hge)] at b
  rw [h.1] at a
  cases hi:i - es'.length with
  | zero=>rw [hi] at a b; simp at a b; subst a; subst b; exact ⟨hk,hv,rfl,hl⟩
  | succ j=>rw [hi] at a; simp at a
theorem EK.modify {es es':List MapEntry} (h:EK ρ es es') {k k' v v':Value} (hk:VR ρ k k') (hv:VR ρ v v') (hl:DQ k=true) (j:Nat) :
 EK ρ (es.modify j fun e=>{ e with key:=k,val:=v }) (es'.modify j fun e=>{ e with key:=k',val:=v' }):=by
 refine ⟨by simp [h.1],fun i e e' a b=>?_⟩
 rw [List.getElem?_modify] at a b
 simp only [Option.map_eq_map,Option.map_eq_some_iff] at a b
 obtain ⟨x,hx,rfl⟩:=a
 obtain ⟨x',hx',rfl⟩:=b
 obtain ⟨p,q,r,s⟩:=h.2 i x x' hx hx'
 by_cases e:j=i
 ·simp only [if_pos e]; exact ⟨hk,hv,r,hl⟩
 ·simp only [if_neg e]; exact ⟨p,q,r,s⟩
theorem EK.erase {es es':List MapEntry} (h:EK ρ es es') (j:Nat):EK ρ (es.eraseIdx j) (es'.eraseIdx j):=by
 refine ⟨by simp [List.length_eraseIdx,h.1],fun i e e' a b=>?_⟩
 rw [List.getElem?_eraseIdx] at a b
 split at a
 ·rename_i hlt; rw [if_pos hlt] at b; exact h.2 i e e' a b
 ·rename_i hlt; rw [if_neg hlt] at b; exact h.2 _ e e' a b
theorem CF.setO (h:CF B w0 ρ σ w) {r:Nat} {o o':C9} {x:RB} {c0 co:Obj} (hg:σ.get r=some o) (hw:o.writable=true) (hw':o'.writable=true) (hx:ρ[r]?=some x)
 (hc:w.heap[x.b]?=some c0) (hn:∀ c e fz,c0≠.cells c e fz) (ho:∀ hp:Array Obj,hp[x.b]?=some co→jP ρ x hp o') :
 (setObj x.b co).run P w=.ok () { w with heap:=w.heap.setIfInBounds x.b co }∧CF B w0 ρ (σ.set r o') { w with heap:=w.heap.setIfInBounds x.b co }:=by
 have hlt:x.b<w.heap.size:=by
  rcases Nat.lt_or_ge x.b w.heap.size with k | k
  ·exact k
  ·rw [Array.getElem?_eq_none k] at hc; cases hc
 refine ⟨uQ hc hn,h.update hg hw hw' hx (ho _ (by simp [hlt])) (fun k hk=>?_) rfl rfl rfl (by simp)⟩
 rw [Array.getElem?_setIfInBounds_ne (Ne.symm hk)]
theorem zD {a b:ByteArray} (h:(a == b)=true):a=b:=by
 obtain ⟨a⟩:=a
 obtain ⟨b⟩:=b
 have h2:(a == b)=true:=h
 rw [eq_of_beq h2]
theorem uV (a:ByteArray):(a == a)=true:=by
 obtain ⟨a⟩:=a
 show (a == a)=true
 simp
theorem dC {d:TypeDesc} {a b:Value} (hk:U9 d=true) (h:Instr.sameNow d a b=some true):Instr.sameBits 10000 b a=true:=by
 unfold Instr.sameNow at h
 split at h
 ·split at h
  ·rename_i e; subst e; simp at h; subst h; simp [Instr.sameBits]
  ·cases h
 ·simp only [Option.some.injEq] at h
  have:=zD h
  subst this
  show (_ == _)=true
  exact uV _
 ·simp [U9] at hk
 ·cases h
theorem SM {old new:Value} (h:Instr.sameBits 10000 old new=true):(Instr.keyThatStays old new).run P w=.ok new w:=by
 simp [Instr.keyThatStays,h]
theorem WU {k:Value} (h:kC k=true):DQ k=true:=by
 cases k<;>simp [kC] at h<;>rfl
theorem VR.mapN {v':Value} (h:VR ρ (.map none) v'):v'=.map none:=by
 cases h; rfl
theorem cS (h:CF B w0 ρ σ w) {t:TypeId} {m m' k k' v v':Value} {σ':AHeap} (hm:VR ρ m m') (hk:VR ρ k k') (hv:VR ρ v v') (hy:FL P t m k v σ=some σ') :
 ∃ w',(Instr.mapUpdate t m' k' v').run P w=.ok () w'∧CF B w0 ρ σ' w':=by
 unfold FL at hy
 split at hy
 ·rename_i d e r hmo
  obtain ⟨kt,ht,hkt⟩:=RM hmo
  obtain ⟨x,rfl,hx⟩:=hm.map_inv
  split at hy
  ·rename_i es clock hg
   obtain ⟨es',h1,h2⟩:=h.mapAt hg hx
   cases hkv:kC k with
   | false=>rw [hkv] at hy; cases hy
   | true =>
     rw [hkv] at hy
     simp only [cond_true,Option.bind_eq_some_iff] at hy
     obtain ⟨f,hf,hy⟩:=hy
     obtain ⟨hkd,hf⟩:=WV hf
     obtain ⟨f',hf',hrel⟩:=NP hkd hk es es'.toList 0 f h2 hf
     have hck:=fun b=>K7 (P:=P) (w:=w) hkt hkd b k'
     have hfk:=QL (P:=P) (w:=w) hkt hf'
     have hgo:=D8 (P:=P) h1 (fun c e fz=>by simp)
     rcases hrel with ⟨rfl,rfl⟩ | ⟨j,u,u',rfl,rfl,_⟩
     ·cases hy
      obtain ⟨e1,e2⟩:=h.setO (P:=P) (o':=.map (es++[{ key:=k,val:=v,born:=clock }]) (clock+1)) (co:=.map (es'.push { key:=k',val:=v',born:=clock }) (clock+1)) hg rfl rfl hx h1 (fun c e fz=>by simp)
       (fun hp hh=>⟨_,hh,by simpa using h2.app hk hv (WU hkv)⟩)
      exact ⟨_,by simp [Instr.mapUpdate,run_underlying ht,hck,hfk,hgo,e1],e2⟩
     ·cases hy
      obtain ⟨_,e',he',hs,_⟩:=Y1 es'.toList 0 j u' hf'
      have he'':es'[j]?=some e':=by simpa using he'
      have hst:=SM (P:=P) (w:=w) (dC hkd hs)
      obtain ⟨e1,e2⟩:=h.setO (P:=P) (o':=.map (es.modify j fun e=>{ e with key:=k,val:=v }) clock) (co:=.map (es'.modify j fun e=>{ e with key:=k',val:=v' }) clock) hg rfl rfl hx h1 (fun c e fz=>by simp)
       (fun hp hh=>⟨_,hh,by rw [Array.toList_modify]; exact h2.modify hk hv (WU hkv) j⟩)
      refine ⟨_,?_,e2⟩
      simp [Instr.mapUpdate,run_underlying ht,hck,hfk,hgo,he'',hst,e1]
  ·cases hy
 ·cases hy
theorem EK.modKey {es es':List MapEntry} (h:EK ρ es es') {k k':Value} (hk:VR ρ k k') (hl:DQ k=true) (j:Nat) :
 EK ρ (es.modify j fun e=>{ e with key:=k }) (es'.modify j fun e=>{ e with key:=k' }):=by
 refine ⟨by simp [h.1],fun i e e' a b=>?_⟩
 rw [List.getElem?_modify] at a b
 simp only [Option.map_eq_map,Option.map_eq_some_iff] at a b
 obtain ⟨x,hx,rfl⟩:=a
 obtain ⟨x',hx',rfl⟩:=b
 obtain ⟨p,q,r,s⟩:=h.2 i x x' hx hx'
 by_cases e:j=i
 ·simp only [if_pos e]; exact ⟨hk,q,r,hl⟩
 ·simp only [if_neg e]; exact ⟨p,q,r,s⟩
theorem EK.modVal {es es':List MapEntry} (h:EK ρ es es') {v v':Value} (hv:VR ρ v v') (j:Nat) :
 EK ρ (es.modify j fun e=>{ e with val:=v }) (es'.modify j fun e=>{ e with val:=v' }):=by
 refine ⟨by simp [h.1],fun i e e' a b=>?_⟩
 rw [List.getElem?_modify] at a b
 simp only [Option.map_eq_map,Option.map_eq_some_iff] at a b
 obtain ⟨x,hx,rfl⟩:=a
 obtain ⟨x',hx',rfl⟩:=b
 obtain ⟨p,q,r,s⟩:=h.2 i x x' hx hx'
 by_cases e:j=i
 ·simp only [if_pos e]; exact ⟨p,hv,r,s⟩
 ·simp only [if_neg e]; exact ⟨p,q,r,s⟩
theorem EK.findBorn {n:Int}:∀ {es es':List MapEntry},EK ρ es es'→es'.findIdx? (fun e=>(e.born:Int) == n)=es.findIdx? (fun e=>(e.born:Int) == n)
 | [],[],_=>rfl
 | [],_::_,h=>by have:=h.1; simp at this
 | _::_,[],h=>by have:=h.1; simp at this
 | e::es,e'::es',h=>by
   have h0:=(h.2 0 e e' rfl rfl).2.2.1
   have ht:EK ρ es es':=⟨by have:=h.1; simpa using this,fun i x x' a b=>h.2 (i+1) x x' (by simpa using a) (by simpa using b)⟩
   simp only [List.findIdx?_cons,h0,ht.findBorn]
theorem eT (h:CF B w0 ρ σ w) {t:TypeId} {m m' k k' v:Value} {σ':AHeap} (hm:VR ρ m m') (hk:VR ρ k k') (hy:MD P t m k σ=some (v,σ')) :
 ∃ v' w',(Instr.mapEntry t m' k').run P w=.ok v' w'∧CF B w0 ρ σ' w'∧VR ρ v v':=by
 unfold MD at hy
 split at hy
 ·rename_i d e r hmo
  obtain ⟨kt,ht,hkt⟩:=RM hmo
  obtain ⟨x,rfl,hx⟩:=hm.map_inv
  split at hy
  ·rename_i z es clock hz hg
   obtain ⟨i,hi,hz',_,_⟩:=EV hz
   have hzv:=GJ (P:=P) (w:=w) hi hz'
   obtain ⟨es',h1,h2⟩:=h.mapAt hg hx
   cases hkv:kC k with
   | false=>rw [hkv] at hy; cases hy
   | true =>
     rw [hkv] at hy
     simp only [cond_true,Option.bind_eq_some_iff] at hy
     obtain ⟨f,hf,hy⟩:=hy
     obtain ⟨hkd,hf⟩:=WV hf
     obtain ⟨f',hf',hrel⟩:=NP hkd hk es es'.toList 0 f h2 hf
     have hck:=fun b=>K7 (P:=P) (w:=w) hkt hkd b k'
     have hfk:=QL (P:=P) (w:=w) hkt hf'
     have hgo:=D8 (P:=P) h1 (fun c e fz=>by simp)
     rcases hrel with ⟨rfl,rfl⟩ | ⟨j,u,u',rfl,rfl,hu⟩
     ·simp only [Option.some.injEq,Prod.mk.injEq] at hy
      obtain ⟨rfl,rfl⟩:=hy
      obtain ⟨e1,e2⟩:=h.setO (P:=P) (o':=.map (es++[{ key:=k,val:=z,born:=clock }]) (clock+1)) (co:=.map (es'.push { key:=k',val:=z,born:=clock }) (clock+1)) hg rfl rfl hx h1 (fun c e fz=>by simp)
       (fun hp hh=>⟨_,hh,by simpa using h2.app hk (WC hz ρ) (WU hkv)⟩)
      exact ⟨_,_,by simp [Instr.mapEntry,run_underlying ht,hck,hfk,hgo,hzv,e1]; rfl,e2,VR.tuple' (LR.cons (WC hz ρ) (LR.cons (.int _ _) (LR.nil _)))⟩
     ·simp only [Option.map_eq_some_iff] at hy
      obtain ⟨ex,hex,hy⟩:=hy
      simp only [Prod.mk.injEq] at hy
      obtain ⟨rfl,rfl⟩:=hy
      obtain ⟨_,e',he',hs,_⟩:=Y1 es'.toList 0 j u' hf'
      have he'':es'[j]?=some e':=by simpa using he'
      have hb:=(h2.2 j ex e' hex (by simpa using he'')).2.2.1
      have hst:=SM (P:=P) (w:=w) (dC hkd hs)
      obtain ⟨e1,e2⟩:=h.setO (P:=P) (o':=.map (es.modify j fun e=>{ e with key:=k }) clock) (co:=.map (es'.modify j fun e=>{ e with key:=k' }) clock) hg rfl rfl hx h1 (fun c e fz=>by simp)
       (fun hp hh=>⟨_,hh,by rw [Array.toList_modify]; exact h2.modKey hk (WU hkv) j⟩)
      refine ⟨.tuple #[u',.int .i64 (e'.born:Nat)],_,?_,e2,?_⟩
      ·simp [Instr.mapEntry,run_underlying ht,hck,hfk,hgo,he'',hst,e1]; rfl
      ·rw [hb]; exact VR.tuple' (LR.cons hu (LR.cons (.int _ _) (LR.nil _)))
  ·cases hy
 ·cases hy
theorem ZV (h:CF B w0 ρ σ w) {t:TypeId} {m m' s s' v v':Value} {σ':AHeap} (hm:VR ρ m m') (hs:VR ρ s s') (hv:VR ρ v v') (hy:HA m s v σ=some σ') :
 ∃ w',(Instr.entryStore t m' s' v').run P w=.ok () w'∧CF B w0 ρ σ' w':=by
 unfold HA at hy
 split at hy
 ·rename_i r kd n
  obtain ⟨x,rfl,hx⟩:=hm.map_inv
  have hs':=hs.int_inv
  subst hs'
  split at hy
  ·rename_i es clock hg
   obtain ⟨es',h1,h2⟩:=h.mapAt hg hx
   have hgo:=D8 (P:=P) h1 (fun c e fz=>by simp)
   simp only [Option.map_eq_some_iff] at hy
   obtain ⟨i,hi,rfl⟩:=hy
   rw [← h2.findBorn] at hi
   have hi':es'.findIdx? (fun e=>(e.born:Int) == n)=some i:=by cases es'; simpa using hi
   obtain ⟨e1,e2⟩:=h.setO (P:=P) (o':=.map (es.modify i fun e=>{ e with val:=v }) clock) (co:=.map (es'.modify i fun e=>{ e with val:=v' }) clock) hg rfl rfl hx h1 (fun c e fz=>by simp)
    (fun hp hh=>⟨_,hh,by rw [Array.toList_modify]; exact h2.modVal hv i⟩)
   refine ⟨_,?_,e2⟩
   simp [Instr.entryStore,hgo,asInt,asIntOf,hi',e1]
  ·cases hy
 ·cases hy
theorem j9 (h:CF B w0 ρ σ w) {t u ty:TypeId} {m m' k k':Value} {σ':AHeap} (hm:VR ρ m m') (hk:VR ρ k k') (hy:M8 P t m k σ=some σ') :
 ∃ w',(Builtin.delete_ #[t,u] ty #[m',k']).run P w=.ok (.tuple #[]) w'∧CF B w0 ρ σ' w':=by
 unfold M8 at hy
 split at hy
 ·rename_i d e hmo
  obtain ⟨kt,ht,hkt⟩:=RM hmo
  cases hkd:U9 d with
  | false=>rw [hkd] at hy; cases hy
  | true =>
    rw [hkd] at hy; cases hy
    rw [hm.mapN]
    exact ⟨w,by simp [Builtin.delete_,run_underlying ht,K7 (P:=P) (w:=w) hkt hkd],h⟩
 ·rename_i d e r hmo
  obtain ⟨kt,ht,hkt⟩:=RM hmo
  obtain ⟨x,rfl,hx⟩:=hm.map_inv
  split at hy
  ·rename_i es clock hg
   obtain ⟨es',h1,h2⟩:=h.mapAt hg hx
   simp only [Option.bind_eq_some_iff] at hy
   obtain ⟨f,hf,hy⟩:=hy
   obtain ⟨hkd,hf⟩:=WV hf
   obtain ⟨f',hf',hrel⟩:=NP hkd hk es es'.toList 0 f h2 hf
   have hck:=fun b=>K7 (P:=P) (w:=w) hkt hkd b k'
   have hfk:=QL (P:=P) (w:=w) hkt hf'
   have hgo:=D8 (P:=P) h1 (fun c e fz=>by simp)
   rcases hrel with ⟨rfl,rfl⟩ | ⟨j,u,u',rfl,rfl,_⟩
   ·cases hy
    obtain ⟨e1,e2⟩:=h.setO (P:=P) (o':=.map es clock) (co:=.map es' clock) hg rfl rfl hx h1 (fun c e fz=>by simp) (fun hp hh=>⟨_,hh,h2⟩)
    exact ⟨_,by simp [Builtin.delete_,run_underlying ht,hck,hfk,hgo,e1],e2⟩
   ·cases hy
    obtain ⟨e1,e2⟩:=h.setO (P:=P) (o':=.map (es.eraseIdx j) clock) (co:=.map (es'.eraseIdxIfInBounds j) clock) hg rfl rfl hx h1 (fun c e fz=>by simp)
     (fun hp hh=>⟨_,hh,by
      have:(es'.eraseIdxIfInBounds j).toList=es'.toList.eraseIdx j:=by
       unfold Array.eraseIdxIfInBounds
       split
       ·simp
       ·rename_i hge; rw [List.eraseIdx_of_length_le (by simp; omega)]
      rw [this]; exact h2.erase j⟩)
    exact ⟨_,by simp [Builtin.delete_,run_underlying ht,hck,hfk,hgo,e1],e2⟩
  ·cases hy
 ·cases hy
theorem gX (h:CF B w0 ρ σ w) {o:C9} {x:Obj} (hw:o.writable=true) (ho:∀ (ρ':List RB) (r:RB) (hp:Array Obj),EJ ρ ρ'→r.s=0→hp[r.b]?=some x→jP ρ' r hp o) :
 ∃ ρ',(newObj x).run P w=.ok w.heap.size (w.alloc x)∧EJ ρ ρ'∧CF B w0 ρ' (σ.push o) (w.alloc x)∧ρ'[σ.size]?=some ⟨w.heap.size,0,0⟩:=by
 obtain ⟨a,b,c⟩:=h.new (n:=0) hw (x:=x) (fun r hr=>ho _ r _ (EJ.append ρ _) (by rw [hr]) (by rw [hr]; exact heap_alloc_new w x))
 exact ⟨_,rfl,b,a,c⟩
def JU (P:Program) (t:TypeId) (r:Option Value) (σ:AHeap):Option (Value×AHeap) :=
 match r with
 | none=>some (.map (some σ.size),σ.push (.map [] 0))
 | some (.int _ _)=>match P.underlying t with
   | some (.map _ _)=>some (.map (some σ.size),σ.push (.map [] 0))
   | _=>none
 | _=>none
theorem iJ (h:CF B w0 ρ σ w) {t:TypeId} {r r':Option Value} {y:Value×AHeap} (hr:VO ρ r r') (hy:JU P t r σ=some y) :
 ∃ v' w' ρ',(Instr.makeMap t r').run P w=.ok v' w'∧EJ ρ ρ'∧CF B w0 ρ' y.2 w'∧VR ρ' y.1 v':=by
 obtain ⟨ρ',e1,e2,e3,e4⟩:=gX (P:=P) h (o:=.map [] 0) (x:=.map #[] 0) rfl (fun ρ' r hp _ _ hh=>⟨#[],hh,rfl,fun i e e' a=>by simp at a⟩)
 have e5:VR ρ' (.map (some σ.size)) (.map (some w.heap.size)):=.map _ _ e4
 unfold JU at hy
 split at hy
 ·cases hy
  cases hr
  exact ⟨_,_,ρ',by simp [Instr.makeMap,e1],e2,e3,e5⟩
 ·split at hy
  ·rename_i ht
   cases hy
   cases hr with
   | some a b hab =>
     rw [hab.int_inv]
     exact ⟨_,_,ρ',by simp [Instr.makeMap,run_underlying ht,asInt,asIntOf,e1],e2,e3,e5⟩
  ·cases hy
 ·cases hy
def X0 (P:Program) (t:TypeId) (x:Value) (σ:AHeap):Option (Value×AHeap) :=
 let p:Value:=.pointer (some ⟨σ.size,0,none⟩)
 match P.underlying t,x with
 | some .string,.string s=>some (p,σ.push (.strIter s 0))
 | some (.map _ _),.map none=>some (p,σ.push (.mapIter none 0 [] 0))
 | some (.map _ _),.map (some m)=>match σ.get m with
   | some (.map _ clock)=>some (p,σ.push (.mapIter (some m) clock [] clock))
   | _=>none
 | _,_=>none
theorem mW (h:CF B w0 ρ σ w) {t:TypeId} {x x':Value} {y:Value×AHeap} (hx:VR ρ x x') (hy:X0 P t x σ=some y) :
 ∃ v' w' ρ',(Instr.range t x').run P w=.ok v' w'∧EJ ρ ρ'∧CF B w0 ρ' y.2 w'∧VR ρ' y.1 v':=by
 have key:∀ (o:C9) (c:Obj),o.writable=true→(∀ (ρ':List RB) (r:RB) (hp:Array Obj),EJ ρ ρ'→r.s=0→hp[r.b]?=some c→jP ρ' r hp o)→∃ ρ',(newObj c).run P w=.ok w.heap.size (w.alloc c)∧EJ ρ ρ'∧CF B w0 ρ' (σ.push o) (w.alloc c)∧VR ρ' (.pointer (some ⟨σ.size,0,none⟩)) (.pointer (some ⟨w.heap.size,0,none⟩)):=by
  intro o c ho hc
  obtain ⟨ρ',e1,e2,e3,e4⟩:=gX (P:=P) h ho hc
  exact ⟨ρ',e1,e2,e3,.ptr _ 0 _ e4⟩
 unfold X0 at hy
 split at hy
 ·rename_i s ht
  cases hy
  rw [hx.string_inv]
  obtain ⟨ρ',e1,e2,e3,e4⟩:=key (.strIter s 0) (.stringIter s 0) rfl (fun ρ' r hp _ h0 hh=>⟨h0,hh⟩)
  exact ⟨_,_,ρ',by simp [Instr.range,run_underlying ht,e1],e2,e3,e4⟩
 ·rename_i a b ht
  cases hy
  rw [hx.mapN]
  obtain ⟨ρ',e1,e2,e3,e4⟩:=key (.mapIter none 0 [] 0) (.mapIter none 0 #[] 0) rfl (fun ρ' r hp _ h0 hh=>⟨none,h0,hh,.nilmap⟩)
  exact ⟨_,_,ρ',by simp [Instr.range,run_underlying ht,e1],e2,e3,e4⟩
 ·rename_i a b m ht
  split at hy
  ·rename_i es clock hg
   cases hy
   obtain ⟨x,rfl,hxm⟩:=hx.map_inv
   obtain ⟨es',h1,h2⟩:=h.mapAt hg hxm
   have hgo:=D8 (P:=P) h1 (fun c e fz=>by simp)
   obtain ⟨ρ',e1,e2,e3,e4⟩:=key (.mapIter (some m) clock [] clock) (.mapIter (some x.b) clock #[] clock) rfl (fun ρ' r hp hext h0 hh=>⟨some x.b,h0,hh,.map _ _ (hext _ _ hxm)⟩)
   exact ⟨_,_,ρ',by simp [Instr.range,run_underlying ht,hgo,e1],e2,e3,e4⟩
  ·cases hy
 ·cases hy
def aC (it:Value) (σ:AHeap):Option (Value×AHeap) :=
 match it with
 | .pointer (some ⟨r,0,none⟩)=>match σ.get r with
   | some (.strIter s pos)=>cond (Nat.blt pos s.size) (some (.tuple #[.bool true,.int .i64 pos,.int .i32 (Utf8.decode s pos).1],σ.set r (.strIter s (pos+(Utf8.decode s pos).2)))) (some (.tuple #[.bool false],σ))
   | _=>none
 | _=>none
theorem VR.ptr_at {r:Nat} {v':Value} (h:VR ρ (.pointer (some ⟨r,0,none⟩)) v'):∃ x,ρ[r]?=some x∧v'=.pointer (some ⟨x.b,x.s+0,none⟩):=by
 cases h with
 | ptr b o x hx=>exact ⟨x,hx,rfl⟩
theorem gI (h:CF B w0 ρ σ w) {it it':Value} {t:TypeId} {y:Value×AHeap} (hx:VR ρ it it') (hy:aC it σ=some y) :
 ∃ v' w',(Instr.next it' true t).run P w=.ok v' w'∧CF B w0 ρ y.2 w'∧VR ρ y.1 v':=by
 unfold aC at hy
 split at hy
 ·rename_i r
  obtain ⟨x,hxr,rfl⟩:=hx.ptr_at
  split at hy
  ·rename_i s pos hg
   obtain ⟨r0,a,⟨hs0,hb⟩,_⟩:=h.obj r _ hg
   rw [hxr] at a; cases a
   have hgo:=D8 (P:=P) hb (fun c e fz=>by simp)
   cases hlt:Nat.blt pos s.size with
   | true =>
     rw [hlt] at hy
     simp only [cond_true,Option.some.injEq] at hy
     subst hy
     have hlt':pos<s.size:=by simpa using hlt
     obtain ⟨e1,e2⟩:=h.setO (P:=P) (o':=.strIter s (pos+(Utf8.decode s pos).2)) (co:=.stringIter s (pos+(Utf8.decode s pos).2)) hg rfl rfl hxr hb (fun c e fz=>by simp) (fun hp hh=>⟨hs0,hh⟩)
     refine ⟨.tuple #[.bool true,goInt pos,.int .i32 (Utf8.decode s pos).1],_,?_,e2,?_⟩
     ·rw [hs0]; simp [Instr.next,hgo,hlt',e1]
     ·exact VR.tuple' (LR.cons (.bool _) (LR.cons (.int _ _) (LR.cons (.int _ _) (LR.nil _))))
   | false =>
     rw [hlt] at hy
     simp only [cond_false,Option.some.injEq] at hy
     subst hy
     have hlt':¬ pos<s.size:=fun c=>by
      have:Nat.blt pos s.size=true:=by simpa using c
      rw [hlt] at this; cases this
     refine ⟨.tuple #[.bool false],w,?_,h,VR.tuple' (LR.cons (.bool _) (LR.nil _))⟩
     rw [hs0]; simp [Instr.next,hgo,hlt']
  ·cases hy
 ·cases hy
end
end Go.Ax
namespace Go.Ax
open Go.RowKit
section
variable {P:Program} {B:Nat} {w0:World} {ρ:List RB} {σ:AHeap} {w:World}
theorem EK.nil:EK ρ [] []:=⟨rfl,fun i e e' a=>by simp at a⟩
theorem EK.cons_inv {e:MapEntry} {es es':List MapEntry} (h:EK ρ (e::es) es'):∃ e' t,es'=e'::t∧VR ρ e.key e'.key∧VR ρ e.val e'.val∧e.born=e'.born∧DQ e.key=true∧EK ρ es t:=by
 cases es' with
 | nil=>have:=h.1; simp at this
 | cons e' t =>
   obtain ⟨a,b,c,d⟩:=h.2 0 e e' rfl rfl
   exact ⟨e',t,rfl,a,b,c,d,by have:=h.1; simpa using this,fun j a b ha hb=>h.2 (j+1) a b (by simpa using ha) (by simpa using hb)⟩
theorem EK.cons {e e':MapEntry} {es es':List MapEntry} (a:VR ρ e.key e'.key) (b:VR ρ e.val e'.val) (c:e.born=e'.born) (d:DQ e.key=true) (h:EK ρ es es'):EK ρ (e::es) (e'::es'):=by
 refine ⟨by simp [h.1],fun j x y hx hy=>?_⟩
 cases j with
 | zero=>simp at hx hy; subst hx; subst hy; exact ⟨a,b,c,d⟩
 | succ j=>exact h.2 j x y (by simpa using hx) (by simpa using hy)
theorem EK.filter (p:Nat→Bool):∀ {es es':List MapEntry},EK ρ es es'→EK ρ (es.filter fun e=>p e.born) (es'.filter fun e=>p e.born)
 | [],es',h=>by
   have:es'=[]:=List.length_eq_zero_iff.1 h.1.symm
   subst this; exact .nil
 | e::es,es',h=>by
   obtain ⟨e',t,rfl,a,b,c,d,ht⟩:=h.cons_inv
   have ih:=EK.filter p ht
   simp only [List.filter_cons,← c]
   split
   ·exact .cons a b c d ih
   ·exact ih
theorem EK.append:∀ {l l' m m':List MapEntry},EK ρ l l'→EK ρ m m'→EK ρ (l++m) (l'++m')
 | [],l',m,m',h,k=>by
   have:l'=[]:=List.length_eq_zero_iff.1 h.1.symm
   subst this; exact k
 | e::es,l',m,m',h,k=>by
   obtain ⟨e',t,rfl,a,b,c,d,ht⟩:=h.cons_inv
   exact .cons a b c d (EK.append ht k)
theorem EK.all (p:Nat→Bool):∀ {es es':List MapEntry},EK ρ es es'→(es'.all fun e=>p e.born)=es.all fun e=>p e.born
 | [],es',h=>by
   have:es'=[]:=List.length_eq_zero_iff.1 h.1.symm
   subst this; rfl
 | e::es,es',h=>by
   obtain ⟨e',t,rfl,a,b,c,d,ht⟩:=h.cons_inv
   simp only [List.all_cons,EK.all p ht,c]
theorem EK.find (p:Nat→Bool):∀ {es es':List MapEntry} {e:MapEntry},EK ρ es es'→(es.find? fun e=>p e.born)=some e→∃ e',(es'.find? fun e=>p e.born)=some e'∧VR ρ e.key e'.key∧VR ρ e.val e'.val
 | [],es',e,h,hf=>by simp at hf
 | x::es,es',e,h,hf=>by
   obtain ⟨e',t,rfl,a,b,c,d,ht⟩:=h.cons_inv
   simp only [List.find?_cons,← c] at hf ⊢
   split at hf
   ·cases hf; exact ⟨e',rfl,a,b⟩
   ·exact EK.find p ht hf
theorem EK.isEmpty {es es':List MapEntry} (h:EK ρ es es'):es'.isEmpty=es.isEmpty:=by
 cases es<;>cases es'<;>first | rfl | (have:=h.1; simp at this)
theorem EK.mem {es es':List MapEntry} {e':MapEntry} (h:EK ρ es es') (hm:e'∈es'):∃ e∈es,VR ρ e.key e'.key∧VR ρ e.val e'.val∧e.born=e'.born:=by
 obtain ⟨i,hi,rfl⟩:=List.getElem_of_mem hm
 have hi':i<es.length:=by rw [h.1]; exact hi
 obtain ⟨a,b,c,_⟩:=h.2 i es[i] es'[i] (by simp) (by simp)
 exact ⟨es[i],by simp,a,b,c⟩
theorem o8 {n:Nat} (hn:0<n):∃ i w1,(choose (.mapNext n)).run P w=.ok i w1∧i<n∧(w1=w∨w1=w.drew):=by
 by_cases h1:n≤1
 ·exact ⟨0,w,by simp [choose,Sem.run,Question.forced,h1],hn,.inl rfl⟩
 ·refine ⟨w.tape w.drawn (.mapNext n) % n,w.drew,?_,Nat.mod_lt _ hn,.inr rfl⟩
  simp only [choose,Sem.run,Question.forced,h1,Question.cut]
  rfl
def SP (it:Value) (σ:AHeap):Option (List (Value×AHeap)) :=
 match it with
 | .pointer (some ⟨r,0,none⟩)=>match σ.get r with
   | some (.mapIter none _ _ _)=>some [(.tuple #[.bool false],σ)]
   | some (.mapIter (some m) since seen last)=>match σ.get m with
     | some (.map es clock)=>cond (!seen.isEmpty && !es.isEmpty && es.all fun e=>Nat.ble last e.born) none
       (some (cond ((es.filter fun e=>!seen.contains e.born && Nat.blt e.born since).isEmpty) [(.tuple #[.bool false],σ)] [] ++
        ((es.filter fun e=>!seen.contains e.born && Nat.blt e.born since)++(es.filter fun e=>!seen.contains e.born && Nat.ble since e.born)).map fun e =>
          (.tuple #[.bool true,e.key,e.val],σ.set r (.mapIter (some m) since (seen++[e.born]) clock))))
     | _=>none
   | _=>none
 | _=>none
theorem fY (h:CF B w0 ρ σ w) {it it':Value} {t:TypeId} {L:List (Value×AHeap)} (hx:VR ρ it it') (hy:SP it σ=some L) :
 ∃ y∈L,∃ v' w',(Instr.next it' false t).run P w=.ok v' w'∧CF B w0 ρ y.2 w'∧VR ρ y.1 v':=by
 unfold SP at hy
 split at hy
 ·rename_i r
  obtain ⟨x,hxr,rfl⟩:=hx.ptr_at
  split at hy
  ·rename_i s1 s2 s3 hg
   cases hy
   obtain ⟨r0,a,⟨m',hs0,hb,hmm⟩,_⟩:=h.obj r _ hg
   rw [hxr] at a; cases a
   have hgo:=D8 (P:=P) hb (fun c e fz=>by simp)
   have hmn:=hmm.mapN
   simp only [Value.map.injEq] at hmn
   subst hmn
   refine ⟨_,List.mem_singleton.2 rfl,.tuple #[.bool false],w,?_,h,VR.tuple' (LR.cons (.bool _) (LR.nil _))⟩
   rw [hs0]; simp [Instr.next,hgo]
  ·rename_i m since seen last hg
   obtain ⟨r0,a,⟨m',hs0,hb,hmm⟩,_⟩:=h.obj r _ hg
   rw [hxr] at a; cases a
   obtain ⟨xm,hm',hxm⟩:=hmm.map_inv
   simp only [Value.map.injEq] at hm'
   subst hm'
   have hgo:=D8 (P:=P) hb (fun c e fz=>by simp)
   split at hy
   ·rename_i es clock hgm
    obtain ⟨es',h1,h2⟩:=h.mapAt hgm hxm
    have hgm:=D8 (P:=P) h1 (fun c e fz=>by simp)
    cases hbad:(!seen.isEmpty && !es.isEmpty && es.all fun e=>Nat.ble last e.born) with
    | true=>rw [hbad] at hy; cases hy
    | false =>
      rw [hbad] at hy
      simp only [cond_false,Option.some.injEq] at hy
      have hbad':(!seen.isEmpty && !es'.toList.isEmpty && es'.toList.all fun e=>decide (e.born ≥ last))=false:=by
       rw [h2.isEmpty]
       have e1:=h2.all (fun b=>decide (b ≥ last))
       rw [e1]
       rw [← hbad]
       congr 1
       congr 1
       funext e
       rw [Bool.eq_iff_iff]; simp
      have hold:=h2.filter (fun b=>!seen.contains b && Nat.blt b since)
      have hnew:=h2.filter (fun b=>!seen.contains b && Nat.ble since b)
      have hboth:=hold.append hnew
      have eold:es'.toList.filter (fun e=>!seen.contains e.born && Nat.blt e.born since)=((es'.filter fun e=>!seen.toArray.contains e.born).filter fun e=>decide (e.born<since)).toList:=by
       simp only [Array.toList_filter,List.filter_filter,List.contains_toArray]
       congr 1; funext e
       rw [Bool.and_comm]
       congr 1
       rw [Bool.eq_iff_iff]; simp
      have enew:es'.toList.filter (fun e=>!seen.contains e.born && Nat.ble since e.born)=((es'.filter fun e=>!seen.toArray.contains e.born).filter fun e=>decide (e.born ≥ since)).toList:=by
       simp only [Array.toList_filter,List.filter_filter,List.contains_toArray]
       congr 1; funext e
       rw [Bool.and_comm]
       congr 1
       rw [Bool.eq_iff_iff]; simp
      rw [eold] at hold hboth
      rw [enew] at hnew hboth
      generalize hO:((es'.filter fun e=>!seen.toArray.contains e.born).filter fun e=>decide (e.born<since))=O at *
      generalize hN:((es'.filter fun e=>!seen.toArray.contains e.born).filter fun e=>decide (e.born ≥ since))=N at *
      generalize hC:((if O.isEmpty then #[none] else #[])++(O++N).map some:Array (Option MapEntry))=C
      have hpos:0<C.size:=by
       rw [← hC]
       by_cases he:O.isEmpty
       ·simp [he]; omega
       ·simp [he]
        have:0<O.size:=by
         rcases Nat.eq_zero_or_pos O.size with h0 | h0
         ·exact absurd (by simpa using h0) he
         ·exact h0
        omega
      obtain ⟨i,w1,hch,hi,hw1⟩:=o8 (P:=P) (w:=w) hpos
      have hr1:CF B w0 ρ σ w1:=by rcases hw1 with rfl | rfl<;>first | exact h | exact h.drew
      have hheap:w1.heap=w.heap:=by rcases hw1 with rfl | rfl<;>rfl
      have hb1:w1.heap[x.b]?=some (.mapIter (some xm.b) since seen.toArray last):=by rw [hheap]; exact hb
      have hb2:(!seen.toArray.isEmpty && !es'.isEmpty && es'.all fun e=>decide (e.born ≥ last))=false:=by
       rw [← hbad']; simp
      obtain ⟨c,hci⟩:∃ c,C[i]?=some c:=⟨C[i],by simp [hi]⟩
      have hmem:c∈C:=Array.mem_of_getElem? hci
      rw [← hC,Array.mem_append] at hmem
      cases c with
      | none =>
        have hrun:(Instr.next (.pointer (some ⟨x.b,x.s+0,none⟩)) false t).run P w=.ok (.tuple #[.bool false]) w1:=by
         rw [hs0]
         unfold Instr.next
         simp only [Nat.add_zero,Sem.run_bind,hgo,Result.andThen_ok,hgm,hb2,Bool.false_eq_true,if_false,hO,hN,hC,hch,Sem.run_pure,hci]
        have hnone:O.isEmpty=true:=by
         by_cases he:O.isEmpty
         ·exact he
         ·rw [if_neg he] at hmem; simp at hmem
        have hem:(es.filter fun e=>!seen.contains e.born && Nat.blt e.born since).isEmpty=true:=by
         rw [← hold.isEmpty]; simpa using hnone
        refine ⟨(.tuple #[.bool false],σ),?_,.tuple #[.bool false],w1,hrun,hr1,VR.tuple' (LR.cons (.bool _) (LR.nil _))⟩
        rw [← hy,hem]; simp
      | some e' =>
        have he':e'∈O++N:=by
         rcases hmem with hmem | hmem
         ·by_cases he:O.isEmpty
          ·rw [if_pos he] at hmem; simp at hmem
          ·rw [if_neg he] at hmem; simp at hmem
         ·rw [Array.mem_map] at hmem
          obtain ⟨a,ha,hae⟩:=hmem
          cases hae; exact ha
        obtain ⟨e,hel,hk,hv,hborn⟩:=hboth.mem (e':=e') (by simpa using he')
        obtain ⟨f1,f2⟩:=hr1.setO (P:=P) (o':=.mapIter (some m) since (seen++[e.born]) clock) (co:=.mapIter (some xm.b) since (seen.toArray.push e'.born) clock) hg rfl rfl hxr hb1 (fun c e fz=>by simp)
         (fun hp hh=>⟨some xm.b,hs0,by rw [hborn]; simpa using hh,.map _ _ hxm⟩)
        have hrun:(Instr.next (.pointer (some ⟨x.b,x.s+0,none⟩)) false t).run P w=.ok (.tuple #[.bool true,e'.key,e'.val]) { w1 with heap:=w1.heap.setIfInBounds x.b (.mapIter (some xm.b) since (seen.toArray.push e'.born) clock) }:=by
         rw [hs0]
         unfold Instr.next
         simp only [Nat.add_zero,Sem.run_bind,hgo,Result.andThen_ok,hgm,hb2,Bool.false_eq_true,if_false,hO,hN,hC,hch,Sem.run_pure,hci,f1]
        refine ⟨(.tuple #[.bool true,e.key,e.val],σ.set r (.mapIter (some m) since (seen++[e.born]) clock)),?_,_,_,hrun,f2,VR.tuple' (LR.cons (.bool _) (LR.cons hk (LR.cons hv (LR.nil _))))⟩
        rw [← hy]
        apply List.mem_append_right
        exact List.mem_map.2 ⟨e,hel,rfl⟩
   ·cases hy
  ·cases hy
 ·cases hy
def VF (it:Value) (σ:AHeap):Option Value :=
 match it with
 | .pointer (some ⟨r,0,none⟩)=>match σ.get r with
   | some (.mapIter (some m) _ seen stepped)=>seen.getLast?.bind fun stamp=>match σ.get m with
     | some (.map es clock)=>cond (Nat.beq clock stepped) ((es.find? fun e=>Nat.beq e.born stamp).map fun e=>.tuple #[e.key,e.val]) none
     | _=>none
   | _=>none
 | _=>none
theorem mL (h:CF B w0 ρ σ w) {it it' v:Value} (hx:VR ρ it it') (hy:VF it σ=some v) :
 ∃ v',(Instr.entry it').run P w=.ok v' w∧VR ρ v v':=by
 unfold VF at hy
 split at hy
 ·rename_i r
  obtain ⟨x,hxr,rfl⟩:=hx.ptr_at
  split at hy
  ·rename_i m since seen stepped hg
   obtain ⟨r0,a,⟨m',hs0,hb,hmm⟩,_⟩:=h.obj r _ hg
   rw [hxr] at a; cases a
   obtain ⟨xm,hm',hxm⟩:=hmm.map_inv
   simp only [Value.map.injEq] at hm'
   subst hm'
   have hgo:=D8 (P:=P) hb (fun c e fz=>by simp)
   simp only [Option.bind_eq_some_iff] at hy
   obtain ⟨stamp,hst,hy⟩:=hy
   split at hy
   ·rename_i es clock hgm
    obtain ⟨es',h1,h2⟩:=h.mapAt hgm hxm
    have hgm:=D8 (P:=P) h1 (fun c e fz=>by simp)
    cases hc:Nat.beq clock stepped with
    | false=>rw [hc] at hy; cases hy
    | true =>
      rw [hc] at hy
      have hc':clock=stepped:=Nat.eq_of_beq_eq_true hc
      subst hc'
      simp only [cond_true,Option.map_eq_some_iff] at hy
      obtain ⟨e,he,rfl⟩:=hy
      obtain ⟨e',he',hk,hv⟩:=h2.find (fun b=>Nat.beq b stamp) he
      have hf:es'.find? (fun e=>e.born == stamp)=some e':=by
       rw [← Array.find?_toList]
       have hfun:(fun e:MapEntry=>e.born == stamp)=fun e=>Nat.beq e.born stamp:=by
        funext e; rw [Bool.eq_iff_iff]; simp
       rw [hfun]; exact he'
      have hbk:seen.toArray.back?=some stamp:=by simpa using hst
      refine ⟨.tuple #[e'.key,e'.val],?_,VR.tuple' (LR.cons hk (LR.cons hv (LR.nil _)))⟩
      rw [hs0]; simp [Instr.entry,hgo,hgm,hst,hf]
   ·cases hy
  ·cases hy
 ·cases hy
theorem XB {t:TypeId} {i:TypeInfo} (h:P.info? t=some i):(typeInfo t).run P w=.ok i w:=by
 simp [typeInfo,h]
def H8 (P:Program) (t:TypeId) (ok:Bool) (x:Value):Option Value :=
 let no:Option Value:=cond ok ((CK P t).map fun z=>.tuple #[z,.bool false]) none
 match P.underlying t,x with
 | some (.interface _),.nilIface=>no
 | some (.interface want),.iface u _=>match P.info? u with
   | some i=>match Instr.missingMethod want i.methods with
     | none=>some (okV ok x true)
     | some _=>no
   | none=>none
 | some _,.nilIface=>no
 | some _,.iface u v=>cond (Nat.beq u t) (some (okV ok v true)) no
 | _,_=>none
theorem VR.iface_inv {t:TypeId} {v v':Value} (h:VR ρ (.iface t v) v'):∃ u,v'=.iface t u∧v≠undef∧VR ρ v u:=by
 cases h with
 | iface t v u a b=>exact ⟨u,rfl,a,b⟩
theorem kH {t xt:TypeId} {ok:Bool} {x x' v:Value} (hx:VR ρ x x') (hy:H8 P t ok x=some v) :
 ∃ v',(Instr.typeAssert x' xt t ok).run P w=.ok v' w∧VR ρ v v':=by
 have no:∀ (s d:Option TypeId) (ms:String),cond ok ((CK P t).map fun z=>.tuple #[z,.bool false]) none=some v→∃ z v',(zeroValue t).run P w=.ok z w∧ok=true∧v'=.tuple #[z,.bool false]∧VR ρ v v':=by
  intro s d ms hn
  cases ok with
  | false=>cases hn
  | true =>
    simp only [cond_true,Option.map_eq_some_iff] at hn
    obtain ⟨z,hz,rfl⟩:=hn
    obtain ⟨i,hi,hz',_,_⟩:=EV hz
    exact ⟨z,_,GJ hi hz',rfl,rfl,VR.tuple' (LR.cons (WC hz ρ) (LR.cons (.bool _) (LR.nil _)))⟩
 unfold H8 at hy
 simp only at hy
 split at hy
 ·rename_i ms ht
  obtain ⟨z,v',e1,rfl,rfl,e2⟩:=no none none "" hy
  have:x'=.nilIface:=by cases hx; rfl
  subst this
  exact ⟨_,by simp [Instr.typeAssert,run_underlying ht,e1],e2⟩
 ·rename_i want u _ ht
  obtain ⟨v1,rfl,_,_⟩:=hx.iface_inv
  split at hy
  ·rename_i i hi
   have hti:=XB (P:=P) (w:=w) hi
   split at hy
   ·rename_i hmm
    cases hy
    refine ⟨okV ok _ true,?_,hx.okV ok true⟩
    cases ok<;>simp [Instr.typeAssert,run_underlying ht,hti,hmm,okV]
   ·rename_i ms hmm
    obtain ⟨z,v',e1,rfl,rfl,e2⟩:=no none none "" hy
    exact ⟨_,by simp [Instr.typeAssert,run_underlying ht,hti,hmm,e1],e2⟩
  ·cases hy
 ·rename_i d hn ht
  obtain ⟨z,v',e1,rfl,rfl,e2⟩:=no none none "" hy
  have:x'=.nilIface:=by cases hx; rfl
  subst this
  refine ⟨_,?_,e2⟩
  cases d<;>first | exact absurd rfl (hn _) | simp [Instr.typeAssert,run_underlying ht,e1]
 ·rename_i d u v1 hn ht
  obtain ⟨u1,rfl,_,hv1⟩:=hx.iface_inv
  cases hut:Nat.beq u t with
  | true =>
    rw [hut] at hy
    have:=Nat.eq_of_beq_eq_true hut
    subst this
    cases hy
    refine ⟨okV ok u1 true,?_,hv1.okV ok true⟩
    cases d<;>first | exact absurd rfl (hn _) | (cases ok<;>simp [Instr.typeAssert,run_underlying ht,okV])
  | false =>
    rw [hut] at hy
    obtain ⟨z,v',e1,rfl,rfl,e2⟩:=no none none "" hy
    have hne:¬ u=t:=fun e=>by subst e; simp at hut
    refine ⟨_,?_,e2⟩
    cases d<;>first | exact absurd rfl (hn _) | simp [Instr.typeAssert,run_underlying ht,e1,hne]
 ·cases hy
def BX (P:Program) (x:Value) (name:String) (σ:AHeap):Option (FuncId×Value) :=
 match x with
 | .iface t v=>(P.info? t).bind fun i=>(i.methods.toList.find? (·.name == name)).bind fun m=>cond m.path.toList.isEmpty (match m.func with
   | some (f,pr)=>match P.underlying t,pr with
     | some (.pointer _),true=>some (f,v)
     | some (.pointer e),false=>(eR P e).bind fun g=>(AF g.1 g.2 v σ).bind fun u=>some (f,u)
     | some _,false=>some (f,v)
     | _,_=>none
   | none=>none) none
 | _=>none
theorem qA {ts:Array TypeId} {ty:TypeId} {a:Addr} {s1 s2:ByteArray}:(Builtin.ssaWrapNilChk_ ts ty #[.pointer (some a),.string s1,.string s2]).run P w=.ok (.pointer (some a)) w:=rfl
theorem jV (h:CF B w0 ρ σ w) {x x' v:Value} {name:String} {f:FuncId} (hx:VR ρ x x') (hy:BX P x name σ=some (f,v)) :
 ∃ t u v',x'=.iface t u∧(∀ n,0<n→(method n t u name).run P w=.ok (f,v') w)∧VR ρ v v':=by
 unfold BX at hy
 split at hy
 ·rename_i t v0
  obtain ⟨u,rfl,hd,hu⟩:=hx.iface_inv
  simp only [Option.bind_eq_some_iff] at hy
  obtain ⟨i,hi,m,hm,hy⟩:=hy
  have hti:=XB (P:=P) (w:=w) hi
  have hm':i.methods.find? (·.name == name)=some m:=by rw [← Array.find?_toList]; exact hm
  cases hp:m.path.toList.isEmpty with
  | false=>rw [hp] at hy; cases hy
  | true =>
    rw [hp] at hy
    simp only [cond_true] at hy
    have hp':m.path.toList=[]:=by simpa using hp
    have hpe:m.path=#[]:=by simpa using hp'
    have hpb:m.path.isEmpty=true:=by rw [hpe]; rfl
    split at hy
    ·rename_i f0 pr hf
     have hsteps:∀ n,0<n→(method n t u name).run P w=((receiverAt t (.val u) pr (some ((name.splitOn ".").getLastD name))).run P w).andThen fun v w=>.ok (f0,v) w:=by
      intro n hn
      obtain ⟨k,rfl⟩:∃ k,n=k+1:=⟨n - 1,by omega⟩
      unfold method
      simp only [Sem.run_bind,hti,Result.andThen_ok,hm',hp',follow,Sem.run_pure,hf,hpb,if_true]
     split at hy
     ·rename_i e ht
      cases hy
      refine ⟨t,u,u,rfl,fun n hn=>?_,hu⟩
      rw [hsteps n hn]
      simp [receiverAt,run_underlying ht,Place.get]
     ·rename_i e ht
      simp only [Option.bind_eq_some_iff] at hy
      obtain ⟨⟨g,k⟩,hg,l,hl,hy⟩:=hy
      cases hy
      obtain ⟨l',e1,e2⟩:=V4 h hg hu hl
      have hptr:∃ a,u=.pointer (some a):=by
       unfold AF at hl
       split at hl
       ·obtain ⟨a',rfl,_⟩:=hu.ptr_inv; exact ⟨a',rfl⟩
       ·cases hl
      obtain ⟨a,rfl⟩:=hptr
      refine ⟨t,_,l',rfl,fun n hn=>?_,e2⟩
      rw [hsteps n hn]
      have e1':(loadVar e a).run P w=.ok l' w:=by
       have:=e1
       simp only [Instr.loadAt,Instr.sureAddr] at this
       simpa using this
      simp [receiverAt,run_underlying ht,Place.get,qA,strVal,asAddr,e1']
     ·rename_i d hn1 ht
      cases hy
      refine ⟨t,u,u,rfl,fun n hn=>?_,hu⟩
      rw [hsteps n hn]
      cases d<;>first | exact absurd rfl (hn1 _) | simp [receiverAt,run_underlying ht,Place.get]
     ·cases hy
    ·cases hy
 ·cases hy
end
end Go.Ax
namespace Go.Ax
open Go.RowKit
def iY:List Value→List Value→Option Bool
 | [],[]=>some true
 | .int k a::l,.int k' b::m=>if k=k' then cond (a == b) (iY l m) (some false) else none
 | _,_=>none
def AD7 (P:Program) (t:TypeId) (x y:Value):Option Bool :=
 match P.underlying t,x,y with
 | some (.int _),.int k a,.int k' b=>if k=k' then some (a == b) else none
 | some .bool,.bool a,.bool b=>some (a == b)
 | some .string,.string a,.string b=>some (a.toList == b.toList)
 | _,_,_=>none
def yD (P:Program) (a b:List Value):List Field→Option Bool
 | []=>some true
 | f::fs=>if f.name≠"_" then (match eR P f.type,a[f.offset]?,b[f.offset]? with
    | some (false,_),some x,some y=>(AD7 P f.type x y).bind fun r=>cond r (yD P a b fs) (some false)
    | _,_,_=>none) else yD P a b fs
def oC (P:Program) (t:TypeId) (x y:Value):Option Bool :=
 match P.underlying t,x,y with
 | some (.array n e),.agg a,.agg b=>match P.underlying e,P.info? e with
   | some (.int _),some i=>cond (Nat.beq i.size 1 && Nat.beq a.toList.length n && Nat.beq b.toList.length n && !P.eqGuardType P.depth t) (iY a.toList b.toList) none
   | _,_=>none
 | some (.struct fs),.agg a,.agg b=>cond (P.stoodInHeld t || P.eqGuardType P.depth t) none (yD P a.toList b.toList fs.toList)
 | _,_,_=>none
def ZY (P:Program) (t:TypeId) (op:BinOp) (x y:Value):Option Value :=
 match BF (P.underlying t) op x y with
 | some v=>some v
 | none=>match op with
   | .eql=>(oC P t x y).map .bool
   | .neq=>(oC P t x y).map fun b=>.bool !b
   | _=>none
section
variable {P:Program} {B:Nat} {w0:World} {ρ:List RB} {σ:AHeap} {w:World}
theorem VR.agg_inv' {c:Array Value} {v':Value} (h:VR ρ (.agg c) v'):∃ c',v'=.agg c'∧LR ρ c.toList c'.toList:=by
 cases h with
 | agg c c' a b=>exact ⟨c',rfl,LR.of_arr a b⟩
theorem t3 {t:TypeId} {x y x' y':Value} {b:Bool} (d:Nat) (hx:VR ρ x x') (hy:VR ρ y y') (h:AD7 P t x y=some b):(Op.equalIn (d+1) t x' y').run P w=.ok b w:=by
 unfold AD7 at h
 split at h
 ·rename_i k0 k a k' b' ht
  rw [hx.int_inv,hy.int_inv]
  split at h
  ·rename_i hk; subst hk; cases h
   exact run_equalIn_int w d t k k0 a b' ht
  ·cases h
 ·rename_i a b' ht
  rw [hx.bool_inv,hy.bool_inv]; cases h
  exact run_equalIn_bool' w d t a b' ht
 ·rename_i a b' ht
  rw [hx.string_inv,hy.string_inv]; cases h
  exact run_equalIn_string w d t a b' ht
 ·cases h
theorem m8 (d:Nat) {e:TypeId} {k0:IntKind} {i:TypeInfo} (he:P.underlying e=some (.int k0)) (hi:P.info? e=some i) (h1:i.size=1) (xs ys:Array Value):∀ (l m l' m':List Value) (n s:Nat) (b:Bool),
 LR ρ l l'→LR ρ m m'→xs.toList.drop s=l'→ys.toList.drop s=m'→l.length=n→m.length=n→iY l m=some b→(Op.eqItems (d+1) e 1 xs ys (List.range' s n)).run P w=.ok b w:=by
 intro l
 induction l with
 | nil =>
   intro m l' m' n s b hl hm dx dy ln mn h
   subst ln
   have:m=[]:=List.length_eq_zero_iff.1 mn
   subst this
   simp [iY] at h; subst h
   simp [Op.eqItems]
 | cons x l ih =>
   intro m l' m' n s b hl hm dx dy ln mn h
   cases m with
   | nil=>simp at mn ln; omega
   | cons y m =>
     obtain ⟨x',l2,rfl,hx,hl2⟩:=hl.cons_inv
     obtain ⟨y',m2,rfl,hy,hm2⟩:=hm.cons_inv
     obtain ⟨n,rfl⟩:∃ k,n=k+1:=⟨n - 1,by simp at ln; omega⟩
     have gx:xs[s]?=some x':=by
      have:=congrArg (·[0]?) dx
      simpa using this
     have gy:ys[s]?=some y':=by
      have:=congrArg (·[0]?) dy
      simpa using this
     have dx2:xs.toList.drop (s+1)=l2:=by
      have:=congrArg List.tail dx
      simpa using this
     have dy2:ys.toList.drop (s+1)=m2:=by
      have:=congrArg List.tail dy
      simpa using this
     unfold iY at h
     split at h
     ·rename_i heq; cases heq
     ·rename_i k a l0 k' b' m0 e1 e2
      cases e1; cases e2
      rw [hx.int_inv] at gx
      rw [hy.int_inv] at gy
      split at h
      ·rename_i hk; subst hk
       have hag:∀ (v:Array Value) (z:Value),v[s]?=some z→(part e v (s*1)).run P w=.ok z w:=by
        intro v z hz
        have hz':v[s*1]?=some z:=by simpa using hz
        simp [part,isAgg,run_underlying he,y0,hz]
       simp only [List.range'_succ,Op.eqItems,Sem.run_bind,hag _ _ gx,hag _ _ gy,Result.andThen_ok,run_equalIn_int w d e k k0 a b' he]
       cases hab:(a == b') with
       | true =>
         rw [hab] at h
         simp only [cond_true] at h
         simp only [Bool.not_true,Bool.false_eq_true,if_false]
         exact ih m l2 m2 n (s+1) b hl2 hm2 dx2 dy2 (by simpa using ln) (by simpa using mn) h
       | false =>
         rw [hab] at h
         simp only [cond_false,Option.some.injEq] at h
         subst h
         simp
      ·cases h
     ·cases h
theorem X6 (d:Nat) {xs ys:Array Value} {a b:List Value} (ha:LR ρ a xs.toList) (hb:LR ρ b ys.toList):∀ (fs:List Field) (r:Bool),yD P a b fs=some r→(Op.eqFields (d+1) xs ys fs).run P w=.ok r w
 | [],r,h=>by simp [yD] at h; subst h; simp [Op.eqFields]
 | f::fs,r,h=>by
   unfold yD at h
   unfold Op.eqFields
   split at h
   ·rename_i hn
    rw [if_pos hn]
    split at h
    ·rename_i n0 x y hs gx gy
     obtain ⟨x',gx',hx⟩:=ha.get gx
     obtain ⟨y',gy',hy⟩:=hb.get gy
     obtain ⟨dd,i,hd,hi,hg,_⟩:=ZT hs
     simp only [Option.bind_eq_some_iff] at h
     obtain ⟨r1,hr1,h⟩:=h
     have hp:∀ (v:Array Value) (z:Value),v.toList[f.offset]?=some z→(part f.type v f.offset).run P w=.ok z w:=by
      intro v z hz
      have hz':v[f.offset]?=some z:=by simpa using hz
      simp [part,RU hd,hg,hz']
     simp only [Sem.run_bind,hp _ _ gx',hp _ _ gy',Result.andThen_ok,t3 (w:=w) d hx hy hr1]
     cases r1 with
     | true=>simp only [cond_true] at h; simp only [Bool.not_true,Bool.false_eq_true,if_false]; exact X6 d ha hb fs r h
     | false=>simp only [cond_false,Option.some.injEq] at h; subst h; simp
    ·cases h
   ·rename_i hn
    rw [if_neg hn]
    exact X6 d ha hb fs r h
theorem ZE {t:TypeId} {x y x' y':Value} {b:Bool} (hx:VR ρ x x') (hy:VR ρ y y') (h:oC P t x y=some b) :
 ∃ xs ys,x'=.agg xs∧y'=.agg ys∧P.eqGuardType P.depth t=false∧(Op.equalIn 10000 t (.agg xs) (.agg ys)).run P w=.ok b w:=by
 unfold oC at h
 split at h
 ·rename_i n e a b' ht
  obtain ⟨xs,rfl,hxs⟩:=hx.agg_inv'
  obtain ⟨ys,rfl,hys⟩:=hy.agg_inv'
  split at h
  ·rename_i k i he hi
   cases hc:(Nat.beq i.size 1 && Nat.beq a.toList.length n && Nat.beq b'.toList.length n && !P.eqGuardType P.depth t) with
   | false=>rw [hc] at h; cases h
   | true =>
     rw [hc] at h
     simp only [cond_true] at h
     simp only [Bool.and_eq_true,Bool.not_eq_true'] at hc
     obtain ⟨⟨⟨c1,c2⟩,c3⟩,c4⟩:=hc
     have c1:=Nat.eq_of_beq_eq_true c1
     refine ⟨xs,ys,rfl,rfl,c4,?_⟩
     have hcells:P.cellsOf e=1:=by simp [Program.cellsOf,hi,c1]
     rw [show 10000=9999+1 from rfl,run_equalIn_array w 9999 xs ys ht hi,hcells,List.range_eq_range']
     exact m8 9998 he hi c1 xs ys a.toList b'.toList xs.toList ys.toList n 0 b hxs hys rfl rfl (Nat.eq_of_beq_eq_true c2) (Nat.eq_of_beq_eq_true c3) h
  ·cases h
 ·rename_i fs a b' ht
  obtain ⟨xs,rfl,hxs⟩:=hx.agg_inv'
  obtain ⟨ys,rfl,hys⟩:=hy.agg_inv'
  cases hc:(P.stoodInHeld t || P.eqGuardType P.depth t) with
  | true=>rw [hc] at h; cases h
  | false =>
    rw [hc] at h
    simp only [cond_false] at h
    rw [Bool.or_eq_false_iff] at hc
    have hfs:P.fieldsOf t=fs:=by simp [Program.fieldsOf,ht]
    refine ⟨xs,ys,rfl,rfl,hc.2,?_⟩
    rw [show 10000=9999+1 from rfl,run_equalIn_struct w 9999 t xs ys (by rw [hfs]; exact ht) hc.1,hfs]
    exact X6 9998 hxs hys fs.toList b h
 ·cases h
theorem pV {op:BinOp} {t:TypeId} {x y x' y' v:Value} (o1 o2:Operand) (hx:VR ρ x x') (hy:VR ρ y y') (h:ZY P t op x y=some v) :
 (do eqGuard op t o1 o2 x' y'; binOp op t x' y':Sem Value).run P w=.ok v w∧VR ρ v v:=by
 unfold ZY at h
 split at h
 ·rename_i v0 hv0
  cases h
  exact tF o1 o2 hx hy hv0
 ·split at h
  ·simp only [Option.map_eq_some_iff] at h
   obtain ⟨b,hb,rfl⟩:=h
   obtain ⟨xs,ys,rfl,rfl,h1,h2⟩:=ZE (w:=w) hx hy hb
   refine ⟨?_,.bool _⟩
   simp only [Sem.run_bind,run_eqGuard_agg w .eql t o1 o2 xs ys h1,Result.andThen_ok,run_eql_struct,h2]
  ·simp only [Option.map_eq_some_iff] at h
   obtain ⟨b,hb,rfl⟩:=h
   obtain ⟨xs,ys,rfl,rfl,h1,h2⟩:=ZE (w:=w) hx hy hb
   refine ⟨?_,.bool _⟩
   simp only [Sem.run_bind,run_eqGuard_agg w .neq t o1 o2 xs ys h1,Result.andThen_ok,run_neq_struct,h2]
  ·cases h
end
end Go.Ax
