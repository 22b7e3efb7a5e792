/- Texts of one proof,joined. No statement of the seat is proved here. -/
import Derived.Test.YtcnceningjookaaGreatTe2
import Derived.Deep.Slices
import Derived.ChangeArms
import Derived.ChangeStays
import Derived.ReadAgain
import GoSem.ClaimJoined
import Derived.Recover
import Derived.Test.YtcnceningjookaaGreatProg
import Derived.Test.YtcnceningjookaaGreatChecked
set_option linter.unusedVariables false
set_option linter.unusedSimpArgs false
set_option linter.unnecessarySimpa false
set_option linter.constructorNameAsVariable false
namespace Go.Ax
open Go.RowKit
section
variable (P:Program)
def VZ (t:TypeId):VT :=
 match P.underlying t with
 | some (.int k)=>.i k
 | some .bool=>.b
 | some .string=>.s
 | _=>.v
def AD5 (t:TypeId):Option (List VT) :=
 match P.types[t]? with
 | some i=>match i.desc with
   | .tuple ts=>some (ts.toList.map (VZ P))
   | .invalid=>none
   | _=>some [VZ P t]
 | none=>none
def rtK (t:TypeId) (K:WK):WK :=
 match AD5 P t with
 | some l=>rt l K
 | none=>K
def qV:Nat→TypeId→Option (List VT)
 | 0,_=>none
 | n+1,t=>match P.underlying t with
   | some (.struct fs)=>fs.toList.foldr (fun f l=>match qV n f.type,l with
     | some a,some b=>some (a++b)
     | _,_=>none) (some [])
   | some (.array _ _)=>none
   | some _=>some [VZ P t]
   | none=>none
def yT:BinOp→Bool
 | .eql | .neq | .lss | .leq | .gtr | .geq=>true
 | _=>false
def ACD (op:BinOp) (t:TypeId) (x y:Value) (K:Value→Prop):Prop :=
 match P.underlying t with
 | some (.struct _)=>cU .b (YV P t op x y) K
 | some (.array _ _)=>cU .b (YV P t op x y) K
 | d=>cond (yT op) (cU .b (BA d op x y) K) (cU (VZ P t) (BA d op x y) K)
def ACU (t:TypeId) (x:Value) (σ:AHeap) (K:Value→Prop):Prop :=
 match P.underlying t with
 | some (.slice _)=>cU (.i .i64) (BJ x) K
 | some .string=>cU (.i .i64) (kO x) K
 | some (.map _ _)=>cU (.i .i64) (ACQ x σ) K
 | _=>False
def qY (t:TypeId) (x:Value) (lo hi mx:Option Value) (K:Value→Prop):Prop :=
 match P.underlying t with
 | some .string=>match mx with
   | none=>cU .s (Q5 x lo hi) K
   | some _=>False
 | some (.slice e)=>match P.info? e with
   | some i=>om (AY i.size x lo hi mx) K
   | none=>False
 | some (.array n e)=>match P.info? e with
   | some i=>om (JB n i.size x lo hi mx) K
   | none=>False
 | some (.pointer arr)=>match P.underlying arr with
   | some (.array n e)=>match P.info? e with
     | some i=>om (JB n i.size x lo hi mx) K
     | none=>False
   | _=>False
 | _=>False
def yC (t:TypeId) (x i:Value) (K:Value→Prop):Prop :=
 match P.underlying t with
 | some (.slice e)=>match P.info? e with
   | some j=>om (AG j.size x i) K
   | none=>False
 | some (.array n e)=>match P.info? e with
   | some j=>om (LT n j.size x i) K
   | none=>False
 | _=>False
def xZ (s d:TypeId) (x:Value) (σ:AHeap) (K:Value→Prop):Prop :=
 match P.underlying s,P.underlying d with
 | some (.int _),some (.int k)=>cU (.i k) (sJ k x) K
 | _,_=>cU (VZ P d) (eK P s d x σ) K
def pU (t:TypeId) (f:Nat) (x:Value) (K:Value→Prop):Prop :=
 match P.underlying t with
 | some (.struct fs)=>match fs[f]? with
   | some fd=>match cS P fd.type with
     | some (g,n)=>cU (VZ P fd.type) (rA g n fd.offset x) K
     | none=>False
   | none=>False
 | _=>False
def ACF (t:TypeId) (x i:Value) (K:Value→Prop):Prop :=
 match P.underlying t with
 | some (.array len e)=>match P.info? e with
   | some j=>match cS P e with
     | some (g,n)=>cU (VZ P e) (p4 g n len j.size x i) K
     | none=>False
   | none=>False
 | some .string=>cU (.i .u8) (p8 x i) K
 | _=>False
def qA (t:TypeId) (BM:List (Nat×Value)) (K:Value→Prop):Prop :=
 match CP P t with
 | some z=>match P.underlying t with
   | some (.struct fs)=>match MC P fs.toList with
     | some pl=>e7 (pl[·]?) z.cells.toList BM fun l=>K (.agg l.toArray)
     | none=>False
   | some (.array _ e)=>match P.info? e with
     | some i=>e7 (fun k=>some (k*i.size,i.size)) z.cells.toList BM fun l=>K (.agg l.toArray)
     | none=>False
   | _=>False
 | none=>False
def j7 (t:TypeId) (len:Nat) (BM:List (Nat×Value)) (σ:AHeap) (K:WK):Prop :=
 match C1 P t with
 | some (e,z,_)=>match len with
   | 0=>match BM with
     | []=>K (.slice (some ⟨ZB,0,some 0⟩) 0 0) σ
     | _=>False
   | _=>match CP P e with
     | some zv=>cond (Nat.ble (len*z) 16777216 && Nat.blt 0 z) (e7 (fun k=>some (k*z,z)) (reps len zv.cells.toList) BM fun l=>BB σ (.cells l e false) fun b σ=>K (.slice (some ⟨b,0,none⟩) len len) σ) False
     | none=>False
 | none=>False
def fI (b:Builtin) (ts:List TypeId) (args:List Value) (σ:AHeap) (K:WK):Prop :=
 match b,ts,args with
 | .len,[t],[x]=>ACU P t x σ fun v=>K v σ
 | .min,[t,_],[x,y]=>cU (VZ P t) (jM x y) fun v=>K v σ
 | .max,[t,_],[x,y]=>cU (VZ P t) (jB x y) fun v=>K v σ
 | .cap,[t],[x]=>match P.underlying t with
   | some (.slice _)=>cU (.i .i64) (mQ x) fun v=>K v σ
   | _=>False
 | _,_,_=>KF P b ts args σ K
def xY (t:TypeId) (a:Value) (σ:AHeap) (K:Value→Prop):Prop :=
 match cS P t with
 | some (true,n)=>match qV P 6 t with
   | some l=>cond (Nat.beq l.length n && Nat.blt 0 n && Nat.blt n 24) (ldC σ a 0 l fun vs=>K (.agg vs.toArray)) (om (AD true n a σ) K)
   | none=>om (AD true n a σ) K
 | some (false,n)=>cU (VZ P t) (AD false n a σ) K
 | none=>False
def qW (x:Value) (i:Nat):Option Value :=
 match x with
 | .tuple vs=>match vs.toList with
   | a::b::l=>(a::b::l)[i]?
   | _=>CL x i
 | _=>CL x i
def ABF (E:BP) (ev:Operand→Value) (o:Oper) (σ:AHeap) (K kp:WK):Prop :=
 match o.op with
 | .pick c a b=>wB (ev c) fun t=>K (pk (VZ P o.type) t (ev a) (ev b)) σ
 | .box e x=>match cS P e with
   | some (g,n)=>cond (Nat.beq n 1 && !g) (cond (ev x).oneCell' (BB σ (.cells [ev x] e false) fun b σ=>K (.pointer (some ⟨b,0,none⟩)) σ) False)
     (cond (DB (ev x)) (BB σ (.cells (ev x).cells.toList e false) fun b σ=>K (.pointer (some ⟨b,0,none⟩)) σ) False)
   | none=>False
 | .build t ps=>qA P t (ps.toList.map fun p=>(p.1,ev p.2)) fun v=>K v σ
 | .buildSlice t n ps=>j7 P t n (ps.toList.map fun p=>(p.1,ev p.2)) σ K
 | .load t a=>xY P t (ev a) σ fun v=>K v σ
 | .nilCheck x=>om (BX (ev x)) fun v=>K v σ
 | .binOp op t x y _=>ACD P op t (ev x) (ev y) fun v=>K v σ
 | .unOp op t x=>cU (VZ P t) (pJ op (ev x)) fun v=>K v σ
 | .convert s d x=>xZ P s d (ev x) σ fun v=>K v σ
 | .makeInterface t x=>om (KA P t (ev x)) fun v=>K v σ
 | .slice t x lo hi mx=>qY P t (ev x) (lo.map ev) (hi.map ev) (mx.map ev) fun v=>K v σ
 | .fieldAddr t x f=>match L9 P t f with
   | some off=>om (AB off (ev x)) fun v=>K v σ
   | none=>False
 | .field t x f=>pU P t f (ev x) fun v=>K v σ
 | .indexAddr t x i=>yC P t (ev x) (ev i) fun v=>K v σ
 | .index t x i=>ACF P t (ev x) (ev i) fun v=>K v σ
 | .extract x i=>cU (VZ P o.type) (qW (ev x) i) fun v=>K v σ
 | .lookup t x i ok=>cond ok (om (IW P t (ev x) (ev i) ok σ) fun v=>K v σ) (cU (VZ P o.type) (IW P t (ev x) (ev i) ok σ) fun v=>K v σ)
 | .entry it=>om (eP (ev it) σ) fun v=>K v σ
 | .typeAssert x _ t ok=>cond ok (om (HH P t ok (ev x)) fun v=>K v σ) (cU (VZ P t) (HH P t ok (ev x)) fun v=>K v σ)
 | .call c=>match c.callee with
   | .builtin b=>fI P b c.argTypes.toList (c.args.toList.map ev) σ K
   | .value f=>wF (ev f) fun g first captured=>E g (first++c.args.toList.map ev++captured) σ (RP (rtK P o.type K) kp)
   | .invoke r name=>pu (BR P (ev r) name σ) fun r=>E r.1 (r.2::c.args.toList.map ev) σ (RP (rtK P o.type K) kp)
 | _=>NF P E ev o σ K kp
end
section
variable {P:Program} {σ:AHeap} {K K':Value→Prop}
theorem AAn {t:TypeId} {K:WK} {v:Value} {σ:AHeap} (h:rtK P t K v σ):K v σ:=by
 unfold rtK at h
 cases hr:AD5 P t with
 | none=>rw [hr] at h; exact h
 | some l=>rw [hr] at h; exact AB7 h
theorem EO {α:Type} {o:Option α} {K K':α→Prop} (hk:∀ v,K v→K' v) (h:pu o K):pu o K' :=
 let ⟨v,h1,h2⟩:=h; ⟨v,h1,hk v h2⟩
theorem AA4 (x:Value) (i:Nat):qW x i=CL x i:=by
 unfold qW
 split
 ·rename_i vs
  split
  ·rename_i a b l h
   simp only [CL,h]
  ·rfl
 ·rfl
theorem ACG {op:BinOp} {t:TypeId} {x y:Value} (hk:∀ v,K v→K' v) (h:ACD P op t x y K):xL P op t x y K':=by
 unfold ACD at h
 unfold xL
 have hd:∀ d,cond (yT op) (cU .b (BA d op x y) K) (cU (VZ P t) (BA d op x y) K)→pu (BA d op x y) K':=fun d h=>by
  cases hc:yT op<;>rw [hc] at h<;>exact GV hk h
 cases hu:P.underlying t with
 | none=>rw [hu] at h; exact hd _ h
 | some d=>cases d<;>(rw [hu] at h; first | exact hd _ h | exact GV hk h)
theorem ACR {t:TypeId} {x:Value} (hk:∀ v,K v→K' v) (h:ACU P t x σ K):uG P t x σ K':=by
 unfold ACU at h
 unfold uG
 cases hu:P.underlying t with
 | none=>rw [hu] at h; exact h.elim
 | some d=>cases d<;>(rw [hu] at h; first | exact h.elim | exact GV hk h)
theorem yW {t:TypeId} {x:Value} {lo hi mx:Option Value} (hk:∀ v,K v→K' v) (h:qY P t x lo hi mx K):eY P t x lo hi mx K':=by
 unfold qY at h
 unfold eY
 cases hu:P.underlying t with
 | none=>rw [hu] at h; exact h.elim
 | some d =>
   rw [hu] at h
   cases d with
   | string=>cases mx<;>first | exact h.elim | exact GV hk h
   | slice e =>
     simp only at h ⊢
     cases he:P.info? e with
     | none=>rw [he] at h; exact h.elim
     | some i=>rw [he] at h; exact OL hk h
   | array n e =>
     simp only at h ⊢
     cases he:P.info? e with
     | none=>rw [he] at h; exact h.elim
     | some i=>rw [he] at h; exact OL hk h
   | pointer p =>
     simp only at h ⊢
     cases hp:P.underlying p with
     | none=>rw [hp] at h; exact h.elim
     | some d =>
       rw [hp] at h
       cases d with
       | array n e =>
         simp only at h ⊢
         cases he:P.info? e with
         | none=>rw [he] at h; exact h.elim
         | some i=>rw [he] at h; exact OL hk h
       | _=>exact h.elim
   | _=>exact h.elim
theorem ABS {t:TypeId} {x i:Value} (hk:∀ v,K v→K' v) (h:yC P t x i K):pC P t x i K':=by
 unfold yC at h
 unfold pC
 cases hu:P.underlying t with
 | none=>rw [hu] at h; exact h.elim
 | some d =>
   rw [hu] at h
   cases d with
   | slice e =>
     simp only at h ⊢
     cases he:P.info? e with
     | none=>rw [he] at h; exact h.elim
     | some i=>rw [he] at h; exact OL hk h
   | array n e =>
     simp only at h ⊢
     cases he:P.info? e with
     | none=>rw [he] at h; exact h.elim
     | some i=>rw [he] at h; exact OL hk h
   | _=>exact h.elim
theorem ABT {s d:TypeId} {x:Value} (hk:∀ v,K v→K' v) (h:xZ P s d x σ K):nH P s d x σ K':=by
 unfold xZ at h
 unfold nH
 cases hu:P.underlying s with
 | none=>rw [hu] at h; exact GV hk h
 | some a =>
   rw [hu] at h
   cases hv:P.underlying d with
   | none=>rw [hv] at h; cases a<;>exact GV hk h
   | some b=>rw [hv] at h; cases a<;>cases b<;>exact GV hk h
theorem yU {t:TypeId} {f:Nat} {x:Value} (hk:∀ v,K v→K' v) (h:pU P t f x K):eW P t f x K':=by
 unfold pU at h
 unfold eW
 cases hu:P.underlying t with
 | none=>rw [hu] at h; exact h.elim
 | some d =>
   rw [hu] at h
   cases d<;>simp only at h ⊢<;>first | exact h.elim | skip
   rename_i fs
   cases hf:fs[f]? with
   | none=>rw [hf] at h; exact h.elim
   | some fd =>
     rw [hf] at h
     simp only at h ⊢
     cases hs:cS P fd.type with
     | none=>rw [hs] at h; exact h.elim
     | some g=>rw [hs] at h; exact GV hk h
theorem ACI {t:TypeId} {x i:Value} (hk:∀ v,K v→K' v) (h:ACF P t x i K):wL P t x i K':=by
 unfold ACF at h
 unfold wL
 cases hu:P.underlying t with
 | none=>rw [hu] at h; exact h.elim
 | some d =>
   rw [hu] at h
   cases d<;>simp only at h ⊢<;>first | exact h.elim | exact GV hk h | skip
   rename_i len e
   cases hi:P.info? e with
   | none=>rw [hi] at h; exact h.elim
   | some j =>
     rw [hi] at h
     simp only at h ⊢
     cases hs:cS P e with
     | none=>rw [hs] at h; exact h.elim
     | some g=>rw [hs] at h; exact GV hk h
theorem zE {t:TypeId} {BM:List (Nat×Value)} (hk:∀ v,K v→K' v) (h:qA P t BM K):gF P t BM K':=by
 unfold qA at h
 unfold gF
 cases hz:CP P t with
 | none=>rw [hz] at h; exact h.elim
 | some z =>
   rw [hz] at h
   simp only at h ⊢
   cases hu:P.underlying t with
   | none=>rw [hu] at h; exact h.elim
   | some d =>
     rw [hu] at h
     cases d<;>simp only at h ⊢<;>first | exact h.elim | skip
     ·rename_i n e
      cases hi:P.info? e with
      | none=>rw [hi] at h; exact h.elim
      | some i =>
        rw [hi] at h
        obtain ⟨l,h1,h2⟩:=MF h
        exact ⟨.agg l.toArray,by simp only [rF,h1,Option.map_some],hk _ h2⟩
     ·rename_i fs
      cases hp:MC P fs.toList with
      | none=>rw [hp] at h; exact h.elim
      | some pl =>
        rw [hp] at h
        obtain ⟨l,h1,h2⟩:=MF h
        exact ⟨.agg l.toArray,by simp only [XE,h1,Option.map_some],hk _ h2⟩
theorem vL {t:TypeId} {n:Nat} {ps:List (Nat×Value)} {K K':WK} (hk:∀ v σ,K v σ→K' v σ) (h:j7 P t n ps σ K):Y2 P t n ps σ K':=by
 unfold j7 at h
 unfold Y2
 cases he:C1 P t with
 | none=>rw [he] at h; exact h.elim
 | some p =>
   obtain ⟨e,z,by'⟩:=p
   rw [he] at h
   simp only at h ⊢
   cases n with
   | zero =>
     cases ps with
     | nil=>exact hk _ _ h
     | cons p ps=>exact h.elim
   | succ n =>
     simp only at h ⊢
     cases hz:CP P e with
     | none=>rw [hz] at h; exact h.elim
     | some zv =>
       rw [hz] at h
       simp only at h ⊢
       cases hc:(Nat.ble ((n+1)*z) 16777216 && Nat.blt 0 z) with
       | false=>rw [hc] at h; exact h.elim
       | true =>
         rw [hc] at h
         obtain ⟨l,h1,h2⟩:=MF h
         exact ⟨(.slice (some ⟨σ.size,0,none⟩) (n+1) (n+1),σ.push (.cells l e false)),by simp only [WT,hc,cond_true,h1,Option.map_some],hk _ _ h2⟩
theorem hU {b:Builtin} {ts:List TypeId} {args:List Value} {K K':WK} (hk:∀ v σ,K v σ→K' v σ) (h:KF P b ts args σ K):KF P b ts args σ K':=by
 unfold KF at h ⊢
 split at h
 ·rename_i t u s x
  cases he:C1 P t with
  | none=>rw [he] at h; exact h.elim
  | some p =>
    obtain ⟨e,z,by'⟩:=p
    rw [he] at h
    simp only at h ⊢
    cases hz:CP P e with
    | none=>rw [hz] at h; exact h.elim
    | some zv =>
      rw [hz] at h
      simp only at h ⊢
      cases hn:PY P u<;>rw [hn] at h<;>simp only [cond_true,cond_false] at h ⊢
      ·cases hi:cE P u<;>rw [hi] at h<;>simp only [cond_true,cond_false] at h ⊢
       exact EO (fun r=>hk _ _) h
      ·exact EO (fun r=>hk _ _) h
 ·rename_i t _ d x
  cases he:C1 P t with
  | none=>rw [he] at h; exact h.elim
  | some p =>
    obtain ⟨e,z,by'⟩:=p
    rw [he] at h
    exact EO (fun r=>hk _ _) h
 ·rename_i t x
  unfold uG at h ⊢
  cases hu:P.underlying t with
  | none=>rw [hu] at h; exact h.elim
  | some d=>cases d<;>(rw [hu] at h; first | exact h.elim | exact EO (fun v=>hk _ _) h)
 ·exact EO (fun r=>hk _ _) h
 ·exact EO (fun r=>hk _ _) h
 ·exact EO (fun r=>hk _ _) h
 ·rename_i t x
  cases hu:P.underlying t with
  | none=>rw [hu] at h; exact h.elim
  | some d=>cases d<;>(rw [hu] at h; first | exact h.elim | exact EO (fun v=>hk _ _) h)
 ·rename_i t x
  cases he:C1 P t with
  | none=>rw [he] at h; exact h.elim
  | some p =>
    obtain ⟨e,z,by'⟩:=p
    rw [he] at h
    simp only at h ⊢
    cases hz:CP P e with
    | none=>rw [hz] at h; exact h.elim
    | some zv=>rw [hz] at h; exact EO (fun r=>hk _ _) h
 ·exact h.elim
theorem rG {b:Builtin} {ts:List TypeId} {args:List Value} {K K':WK} (hk:∀ v σ,K v σ→K' v σ) (h:fI P b ts args σ K):KF P b ts args σ K':=by
 unfold fI at h
 split at h
 ·exact ACR (fun v=>hk v σ) h
 ·exact GV (fun v=>hk v σ) h
 ·exact GV (fun v=>hk v σ) h
 ·rename_i t x
  unfold KF
  cases hu:P.underlying t with
  | none=>rw [hu] at h; exact h.elim
  | some d=>cases d<;>(rw [hu] at h; first | exact h.elim | (simp only [hu]; exact GV (fun v=>hk v σ) h))
 ·exact hU hk h
theorem AAr {t:TypeId} {a:Value} (hk:∀ v,K v→K' v) (h:xY P t a σ K):match cS P t with
 | some (g,n)=>pu (AD g n a σ) K'
 | none=>False:=by
 unfold xY at h
 cases hs:cS P t with
 | none=>rw [hs] at h; exact h.elim
 | some g =>
   obtain ⟨g,n⟩:=g
   rw [hs] at h
   cases g with
   | false=>exact GV hk h
   | true =>
     simp only at h ⊢
     cases hf:qV P 6 t with
     | none=>rw [hf] at h; exact OL hk h
     | some l =>
       rw [hf] at h
       simp only at h
       cases hc:(Nat.beq l.length n && Nat.blt 0 n && Nat.blt n 24) with
       | false=>rw [hc] at h; exact OL hk h
       | true =>
         rw [hc] at h
         simp only [Bool.and_eq_true] at hc
         have hl:=Nat.eq_of_beq_eq_true hc.1.1
         have hp:0<n:=by simpa using hc.1.2
         obtain ⟨vs,h1,h2⟩:=uW h (fun e=>by subst e; simp at hl; omega)
         rw [hl] at h1
         exact ⟨_,h1,hk _ h2⟩
def YS (E:BP):Prop:=∀ f a σ (Q Q':RK),(∀ r σ,Q r σ→Q' r σ)→E f a σ Q→E f a σ Q'
theorem k7 {E:BP} (hE:YS E) {ev:Operand→Value} {o:Oper} {K K' kp kp':WK} (hk:∀ v σ,K v σ→K' v σ) (hkp:∀ v σ,kp v σ→kp' v σ) (h:ABF P E ev o σ K kp):NF P E ev o σ K' kp':=by
 have hrp:∀ t r σ,RP (rtK P t K) kp r σ→RP K' kp' r σ:=fun t r σ h=>by
  cases r with
  | ret v=>exact hk _ _ (AAn h)
  | pan v=>exact hkp _ _ h
 have hw:=fun (K:WK) v (h:K v σ)=>h
 obtain ⟨dst,op,type,pos,after,guard⟩:=o
 cases op<;>simp only [ABF,NF] at h ⊢<;>try (first | exact hk _ _ h | exact h.elim)
 case pick c a b =>
  unfold wB at h ⊢
  split at h
  ·rw [ADd] at h; exact hk _ _ h
  ·exact h.elim
 case alloc e =>
  cases hz:CP P e with
  | none=>rw [hz] at h; exact h.elim
  | some z=>rw [hz] at h; exact hk _ _ h
 case box e x =>
  cases hs:cS P e with
  | none=>rw [hs] at h; exact h.elim
  | some g =>
    obtain ⟨g,n⟩:=g
    rw [hs] at h
    simp only at h
    cases hn:(Nat.beq n 1 && !g) with
    | true =>
      rw [hn] at h
      simp only [cond_true] at h
      cases ho:(ev x).oneCell' with
      | false=>rw [ho] at h; exact h.elim
      | true =>
        rw [ho] at h
        obtain ⟨h1,h2⟩:=jO ho
        rw [h1,h2]
        exact hk _ _ h
    | false =>
      rw [hn] at h
      simp only [cond_false] at h
      cases hl:DB (ev x) with
      | false=>rw [hl] at h; exact h.elim
      | true=>rw [hl] at h; exact hk _ _ h
 case build t ps=>exact zE (fun v=>hk v σ) h
 case buildSlice t n ps=>exact vL hk h
 case load t a=>exact AAr (fun v=>hk v σ) h
 case store t a x =>
  cases hs:cS P t with
  | none=>rw [hs] at h; exact h.elim
  | some g=>rw [hs] at h; exact EO (fun v=>hk _ v) h
 case nilCheck x=>exact OL (fun v=>hk v σ) h
 case binOp op t x y ty=>exact ACG (fun v=>hk v σ) h
 case unOp op t x=>exact GV (fun v=>hk v σ) h
 case convert s d x=>exact ABT (fun v=>hk v σ) h
 case makeInterface t x=>exact OL (fun v=>hk v σ) h
 case makeSlice t l c =>
  cases he:C1 P t with
  | none=>rw [he] at h; exact h.elim
  | some p =>
    obtain ⟨e,z,by'⟩:=p
    rw [he] at h
    simp only at h ⊢
    cases hz:CP P e with
    | none=>rw [hz] at h; exact h.elim
    | some zv=>rw [hz] at h; exact EO (fun r=>hk _ _) h
 case slice t x lo hi mx=>exact yW (fun v=>hk v σ) h
 case fieldAddr t x f =>
  cases ho:L9 P t f with
  | none=>rw [ho] at h; exact h.elim
  | some off=>rw [ho] at h; exact OL (fun v=>hk v σ) h
 case field t x f=>exact yU (fun v=>hk v σ) h
 case indexAddr t x i=>exact ABS (fun v=>hk v σ) h
 case index t x i=>exact ACI (fun v=>hk v σ) h
 case extract x i=>rw [AA4] at h; exact GV (fun v=>hk v σ) h
 case makeMap t r=>exact EO (fun r=>hk _ _) h
 case lookup t x i ok=>cases ok<;>first | exact OL (fun v=>hk v σ) h | exact GV (fun v=>hk v σ) h
 case mapEntry t m k=>exact EO (fun r=>hk _ _) h
 case entryStore t m s x=>exact EO (fun v=>hk _ v) h
 case mapUpdate t m k x=>exact EO (fun v=>hk _ v) h
 case range t x=>exact EO (fun r=>hk _ _) h
 case next it str=>cases str<;>first | exact EO (fun r=>hk _ _) h | exact EO (fun L hL r hr=>hk _ _ (hL r hr)) h
 case entry it=>exact OL (fun v=>hk v σ) h
 case typeAssert x xt t ok=>cases ok<;>first | exact OL (fun v=>hk v σ) h | exact GV (fun v=>hk v σ) h
 case call c =>
  cases hc:c.callee with
  | builtin b=>rw [hc] at h; exact rG hk h
  | value f =>
    rw [hc] at h
    simp only at h ⊢
    unfold wF at h ⊢
    split at h
    ·exact hE _ _ _ _ _ (hrp type) h
    ·exact h.elim
  | invoke r name =>
    rw [hc] at h
    exact EO (fun p h=>hE _ _ _ _ _ (hrp type) h) h
 case panic x =>
  unfold AAg at h ⊢
  split at h
  ·exact hkp _ _ h
  ·exact h.elim
end
end Go.Ax
namespace Go.Ax
open Go.RowKit
def MD:List VT→Type
 | []=>AHeap→Prop
 | .i _::L=>Int→MD L
 | .b::L=>Bool→MD L
 | .s::L=>ByteArray→MD L
 | .v::L=>Value→MD L
def MD.at:(L:List VT)→MD L→List Value→AHeap→Prop
 | [],p,[],σ=>p σ
 | .i k::L,p,v::vs,σ=>tI k (fun n=>MD.at L (p n) vs σ) v
 | .b::L,p,v::vs,σ=>tB (fun b=>MD.at L (p b) vs σ) v
 | .s::L,p,v::vs,σ=>tS (fun s=>MD.at L (p s) vs σ) v
 | .v::L,p,v::vs,σ=>MD.at L (p v) vs σ
 | [],_,_::_,_=>False
 | _::_,_,[],_=>False
def cK:(L:List VT)→(List Value→Prop)→Prop
 | [],p=>p []
 | .i k::L,p=>∀ n,cK L fun vs=>p (.int k n::vs)
 | .b::L,p=>∀ b,cK L fun vs=>p (.bool b::vs)
 | .s::L,p=>∀ s,cK L fun vs=>p (.string s::vs)
 | .v::L,p=>∀ v,cK L fun vs=>p (v::vs)
def VOk:List VT→List Value→Prop
 | [],[]=>True
 | t::L,v::vs=>ty t (fun _=>True) v∧VOk L vs
 | _,_=>False
theorem j9 {t:VT} {K:Value→Prop} {v:Value} (h:ty t K v):ty t (fun _=>True) v:=ABA (fun _ _=>trivial) h
theorem MD.ok:∀ (L:List VT) (p:MD L) (vs:List Value) (σ:AHeap),MD.at L p vs σ→VOk L vs
 | [],p,[],σ,_=>trivial
 | .i k::L,p,v::vs,σ,h=>by
   have h:ty (.i k) (fun v=>match v with | .int _ n=>MD.at L (p n) vs σ | _=>False) v:=h
   refine ⟨j9 h,?_⟩
   have:=KB h
   split at this
   ·exact MD.ok L _ vs σ this
   ·exact this.elim
 | .b::L,p,v::vs,σ,h=>by
   have h:ty .b (fun v=>match v with | .bool n=>MD.at L (p n) vs σ | _=>False) v:=h
   refine ⟨j9 h,?_⟩
   have:=KB h
   split at this
   ·exact MD.ok L _ vs σ this
   ·exact this.elim
 | .s::L,p,v::vs,σ,h=>by
   have h:ty .s (fun v=>match v with | .string n=>MD.at L (p n) vs σ | _=>False) v:=h
   refine ⟨j9 h,?_⟩
   have:=KB h
   split at this
   ·exact MD.ok L _ vs σ this
   ·exact this.elim
 | .v::L,p,v::vs,σ,h=>⟨trivial,MD.ok L (p v) vs σ h⟩
 | [],_,_::_,_,h=>h.elim
 | .i _::_,_,[],_,h=>h.elim
 | .b::_,_,[],_,h=>h.elim
 | .s::_,_,[],_,h=>h.elim
 | .v::_,_,[],_,h=>h.elim
theorem cK.at:∀ (L:List VT) (p:List Value→Prop),cK L p→∀ vs,VOk L vs→p vs
 | [],p,h,[],_=>h
 | [],_,_,_::_,h=>h.elim
 | .i k::L,p,h,v::vs,⟨h1,h2⟩=>by
   simp only [ty,tI] at h1
   split at h1
   ·rename_i j n
    cases hd:decide (j=k) with
    | true=>have:=of_decide_eq_true hd; subst this; exact cK.at L (fun vs=>p (.int j n::vs)) (h n) vs h2
    | false=>rw [hd] at h1; exact h1.elim
   ·exact h1.elim
 | .b::L,p,h,v::vs,⟨h1,h2⟩=>by
   simp only [ty,tB] at h1
   split at h1
   ·exact cK.at L _ (h _) vs h2
   ·exact h1.elim
 | .s::L,p,h,v::vs,⟨h1,h2⟩=>by
   simp only [ty,tS] at h1
   split at h1
   ·exact cK.at L _ (h _) vs h2
   ·exact h1.elim
 | .v::L,p,h,v::vs,⟨_,h2⟩=>cK.at L (fun vs=>p (v::vs)) (h v) vs h2
 | _::_,_,_,[],h=>h.elim
theorem gT.of:∀ (L:List Nat) (p:List Value→Prop),(∀ vs,vs.length=L.length→p vs)→gT L p
 | [],p,h=>h [] rfl
 | _::L,p,h=>fun v=>gT.of L (fun vs=>p (v::vs)) fun vs hl=>h (v::vs) (by simp [hl])
def cJ.of:(L:List Nat)→(List Value→AHeap→Prop)→cJ L
 | [],p=>p []
 | _::L,p=>fun v=>cJ.of L fun vs=>p (v::vs)
theorem cJ.at_of:∀ (L:List Nat) (p:List Value→AHeap→Prop) (vs:List Value) (σ:AHeap),vs.length=L.length→(cJ.at L (cJ.of L p) vs σ↔p vs σ)
 | [],p,[],σ,_=>Iff.rfl
 | _::L,p,v::vs,σ,h=>cJ.at_of L (fun vs=>p (v::vs)) vs σ (by simpa using h)
 | [],_,_::_,_,h=>by simp at h
 | _::_,_,[],_,h=>by simp at h
section
variable (P:Program) (E:BP)
def ACh (o:Oper) (k:FK) (kp:WK):FK:=fun fr σ=>ABF P E (P5 fr) o σ (fun v σ'=>k (HC fr o.dst v) σ') kp
def yB (all:List Oper) (kp:WK):List Oper→GM→FK→FK
 | [],_,kn=>kn
 | o::os,md,kn=>I7 all o md (fun md=>ACh P E o (yB all kp os md kn) kp) fun md fr σ=>yB all kp os md kn (HC fr o.dst F2) σ
def xre (all:List Oper):List Nat→FK→FK
 | [],k=>k
 | q::qs,k=>fun fr σ=>match all[q]? with
   | none=>False
   | some o=>I7 all o none (fun _ fr σ=>match o.dst with
     | some d=>wnx o (ABF P (fun _ _ _ _=>False) (P5 fr) o σ (fun v _=>AQ v (BW fr d)=true∧xre all qs k fr σ) noP)
     | none=>False) (fun _=>xre all qs k) fr σ
def oA (all:List Oper) (kp:WK):List (Nat×List Nat)→GM→FK→FK
 | [],_,kn=>kn
 | (i,chk)::os,md,kn=>fun fr σ=>match all[i]? with
   | none=>False
   | some o=>I7 all o md (fun md=>ACh P E o (xre P all chk (oA all kp os (jH chk md) kn)) kp) (fun md fr σ=>oA all kp os md kn (HC fr o.dst F2) σ) fr σ
def xdt (all:List Oper) (kp:WK):DT→GM→FK→FK
 | .nil,_,kn=>kn
 | .step i chk t,md,kn=>fun fr σ=>match all[i]? with
   | none=>False
   | some o=>I7 all o md (fun md=>ACh P E o (xre P all chk (xdt all kp t (jH chk md) kn)) kp) (fun md fr σ=>xdt all kp t md kn (HC fr o.dst F2) σ) fr σ
 | .alt x y,md,kn=>fun fr σ=>xdt all kp x md kn fr σ∧xdt all kp y md kn fr σ
def qH (kd:Nat→VT) (kp:WK):AC→FK→(Nat→FK)→FK→FK
 | .skip,kn,_,_=>kn
 | .region _ ops,kn,_,_=>yB P E ops kp ops none kn
 | .dregion _ ops ord,kn,_,_=>oA P E ops kp ord none kn
 | .dtree _ ops t,kn,_,_=>xdt P E ops kp t none kn
 | .seq a b,kn,ke,kr=>qH kd kp a (qH kd kp b kn ke kr) ke kr
 | .cond c a b,kn,ke,kr=>fun fr σ=>wC (P5 fr c) (qH kd kp a kn ke kr fr σ) (qH kd kp b kn ke kr fr σ)
 | .block id b,kn,ke,kr=>qH kd kp b kn (fun i fr σ=>cond (Nat.beq i id) (kn fr σ) (ke i fr σ)) kr
 | .loop R L Lx b,_,ke,kr=>fun fr σ=>∃ I:Nat→MD (L.map kd),(∃ m,MD.at (L.map kd) (I m) (HU L fr) σ) ∧
  ∀ m,cK (L.map kd) fun vs=>∀ σ,MD.at (L.map kd) (I m) vs σ→qH kd kp b (fun fr σ=>∃ m'<m,MD.at (L.map kd) (I m') (HU L fr) σ) (fun i fr σ=>ke i (F0 Lx (HU Lx fr)) σ) (fun fr σ=>kr (F0 Lx (HU Lx fr)) σ) (vD R fr (F0 L vs)) σ
 | .exit i,_,ke,_=>ke i
 | .ret,_,_,kr=>kr
 | .other _,_,_,_=>fun _ _=>False
 | .scope b,kn,ke,kr=>qH kd kp b kn ke kr
 | .label _,kn,_,_=>kn
 | .join L b,kn,ke,kr=>qH kd kp b (fun fr σ=>kn (F0 L (HU L fr)) σ) (fun i fr σ=>ke i (F0 L (HU L fr)) σ) (fun fr σ=>kr (F0 L (HU L fr)) σ)
end
section
variable {P:Program} {kp kp':WK}
theorem OV {all:List Oper} {o:Oper} {md:GM} {y n y' n':GM→FK} {fr:Fr} {σ:AHeap} (hy:∀ md fr,y md fr σ→y' md fr σ) (hn:∀ md fr,n md fr σ→n' md fr σ) (h:I7 all o md y n fr σ):I7 all o md y' n' fr σ:=by
 unfold I7 at h ⊢
 cases hg:o.guard with
 | none=>rw [hg] at h; exact hy _ _ h
 | some p =>
   obtain ⟨j,want⟩:=p
   rw [hg] at h
   simp only at h ⊢
   cases hm:vS md j want with
   | some b=>cases b<;>(rw [hm] at h; first | exact hy _ _ h | exact hn _ _ h)
   | none =>
     rw [hm] at h
     simp only at h ⊢
     cases ht:(all[j]?).bind (·.dst) with
     | none=>rw [ht] at h; exact h.elim
     | some t =>
       rw [ht] at h
       simp only at h ⊢
       unfold wG at h ⊢
       split at h
       ·cases want<;>first | exact hy _ _ h | exact hn _ _ h
       ·cases want<;>first | exact hy _ _ h | exact hn _ _ h
       ·exact ⟨h.1,hn _ _ h.2⟩
theorem YS.ev:YS (Ev P):=fun _ _ _ _ _ hq h=>h.mono hq
theorem YS.no:YS (fun _ _ _ _=>False):=fun _ _ _ _ _ _ h=>h
theorem j8 (hkp:∀ v σ,kp v σ→kp' v σ) {all:List Oper} {k k':FK} (hk:∀ fr σ,k fr σ→k' fr σ):∀ (os:List Oper) (md:GM) (fr:Fr) (σ:AHeap),yB P (Ev P) all kp os md k fr σ→vI P (Ev P) all kp' os md k' fr σ
 | [],_,fr,σ,h=>hk _ _ h
 | o::os,md,fr,σ,h=>OV (fun md fr h=>k7 YS.ev (fun v σ h=>j8 hkp hk os md _ σ h) hkp h) (fun md fr h=>j8 hkp hk os md _ σ h) h
theorem sI {all:List Oper} {k k':FK} (hk:∀ fr σ,k fr σ→k' fr σ):∀ (qs:List Nat) (fr:Fr) (σ:AHeap),xre P all qs k fr σ→vV P all qs k' fr σ
 | [],fr,σ,h=>hk _ _ h
 | q::qs,fr,σ,h=>by
   simp only [xre] at h
   simp only [vV]
   cases ho:all[q]? with
   | none=>rw [ho] at h; exact h.elim
   | some o =>
     rw [ho] at h
     refine OV (fun _ fr h=>?_) (fun _ fr h=>sI hk qs fr σ h) h
     cases hd:o.dst with
     | none=>rw [hd] at h; exact h.elim
     | some d =>
       rw [hd] at h
       simp only at h ⊢
       have hn:∀ it,o.op≠.next it false:=fun it hi=>by simp only [wnx,hi] at h
       have hp:∀ x,o.op≠.panic x:=fun x hi=>by simp only [wnx,hi] at h
       have hw:∀ p:Prop,wnx o p=p:=fun p=>by
        unfold wnx
        split
        ·rename_i it hi; exact absurd hi (hn it)
        ·rename_i x hi; exact absurd hi (hp x)
        ·rfl
       rw [hw] at h ⊢
       exact k7 YS.no (fun v σ' ⟨h1,h2⟩=>⟨h1,sI hk qs fr σ h2⟩) (fun _ _ h=>h) h
theorem lE (hkp:∀ v σ,kp v σ→kp' v σ) {all:List Oper} {k k':FK} (hk:∀ fr σ,k fr σ→k' fr σ):∀ (os:List (Nat×List Nat)) (md:GM) (fr:Fr) (σ:AHeap),oA P (Ev P) all kp os md k fr σ→bH P (Ev P) all kp' os md k' fr σ
 | [],_,fr,σ,h=>hk _ _ h
 | (i,chk)::os,md,fr,σ,h=>by
   simp only [oA] at h
   simp only [bH]
   cases ho:all[i]? with
   | none=>rw [ho] at h; exact h.elim
   | some o =>
     rw [ho] at h
     exact OV (fun md fr h=>k7 YS.ev (fun v σ h=>sI (fun fr σ h=>lE hkp hk os _ fr σ h) chk _ σ h) hkp h) (fun md fr h=>lE hkp hk os md _ σ h) h
theorem oW (hkp:∀ v σ,kp v σ→kp' v σ) {all:List Oper} {k k':FK} (hk:∀ fr σ,k fr σ→k' fr σ):∀ (t:DT) (md:GM) (fr:Fr) (σ:AHeap),xdt P (Ev P) all kp t md k fr σ→wdt P (Ev P) all kp' t md k' fr σ
 | .nil,_,fr,σ,h=>hk _ _ h
 | .alt x y,md,fr,σ,h=>⟨oW hkp hk x md fr σ h.1,oW hkp hk y md fr σ h.2⟩
 | .step i chk t,md,fr,σ,h=>by
   simp only [xdt] at h
   simp only [wdt]
   cases ho:all[i]? with
   | none=>rw [ho] at h; exact h.elim
   | some o =>
     rw [ho] at h
     exact OV (fun md fr h=>k7 YS.ev (fun v σ h=>sI (fun fr σ h=>oW hkp hk t _ fr σ h) chk _ σ h) hkp h) (fun md fr h=>oW hkp hk t md _ σ h) h
theorem tW (kd:Nat→VT) (hkp:∀ v σ,kp v σ→kp' v σ):∀ (c:AC) {qn qn':FK} {qe qe':Nat→FK} {qr qr':FK},(∀ fr σ,qn fr σ→qn' fr σ)→(∀ i fr σ,qe i fr σ→qe' i fr σ)→(∀ fr σ,qr fr σ→qr' fr σ) →
 ∀ fr σ,qH P (Ev P) kd kp c qn qe qr fr σ→mJ P (Ev P) kp' c qn' qe' qr' fr σ:=by
 intro c
 induction c with
 | skip=>intro _ _ _ _ _ _ hn he hr fr σ h; exact hn _ _ h
 | region id ops=>intro _ _ _ _ _ _ hn he hr fr σ h; exact j8 hkp hn ops none fr σ h
 | dregion id ops ord=>intro _ _ _ _ _ _ hn he hr fr σ h; exact lE hkp hn ord none fr σ h
 | dtree id ops t=>intro _ _ _ _ _ _ hn he hr fr σ h; exact oW hkp hn t none fr σ h
 | seq a b iha ihb=>intro _ _ _ _ _ _ hn he hr fr σ h; exact iha (ihb hn he hr) he hr fr σ h
 | cond c a b iha ihb =>
   intro _ _ _ _ _ _ hn he hr fr σ h
   simp only [qH,mJ,wC] at h ⊢
   split at h
   ·exact iha hn he hr _ _ h
   ·exact ihb hn he hr _ _ h
   ·exact h.elim
 | block id b ih =>
   intro qn qn' qe qe' qr qr' hn he hr fr σ h
   refine ih (qe:=fun i fr σ=>cond (Nat.beq i id) (qn fr σ) (qe i fr σ)) hn (fun i fr σ h=>?_) hr fr σ h
   cases hb:Nat.beq i id with
   | true=>rw [hb] at h; exact hn _ _ h
   | false=>rw [hb] at h; exact he i _ _ h
 | exit i=>intro _ _ _ _ _ _ hn he hr fr σ h; exact he i _ _ h
 | ret=>intro _ _ _ _ _ _ hn he hr fr σ h; exact hr _ _ h
 | label l=>intro _ _ _ _ _ _ hn he hr fr σ h; exact hn _ _ h
 | scope b ih=>intro _ _ _ _ _ _ hn he hr fr σ h; exact ih hn he hr fr σ h
 | other c=>intro _ _ _ _ _ _ hn he hr fr σ h; exact h.elim
 | join L b ih =>
   intro _ _ _ _ _ _ hn he hr fr σ h
   exact ih (fun fr σ h=>hn _ _ h) (fun i fr σ h=>he i _ _ h) (fun fr σ h=>hr _ _ h) fr σ h
 | loop R L Lx b ih =>
   intro qn qn' qe qe' qr qr' hn he hr fr σ h
   simp only [qH] at h
   simp only [mJ]
   obtain ⟨I,⟨m0,h0⟩,hI⟩:=h
   have hlen:∀ fr:Fr,(HU L fr).length=L.length:=fun fr=>by simp [HU]
   refine ⟨fun m=>cJ.of L (MD.at (L.map kd) (I m)),⟨m0,(cJ.at_of L _ _ _ (hlen fr)).2 h0⟩,fun m=>gT.of L _ fun vs hl σ hv=>?_⟩
   have hv':=(cJ.at_of L _ vs σ hl).1 hv
   have hb:=cK.at _ _ (hI m) vs (MD.ok _ _ _ _ hv') σ hv'
   refine ih (fun fr σ h=>?_) (fun i fr σ h=>he i _ _ h) (fun fr σ h=>hr _ _ h) _ _ hb
   obtain ⟨m',h1,h2⟩:=h
   exact ⟨m',h1,(cJ.at_of L _ _ _ (hlen fr)).2 h2⟩
end
def xfn (P:Program) (E:BP) (fn:Func) (h:Nat→Option QY) (kd:Nat→VT) (args:List Value) (σ:AHeap) (Q:RK):Prop :=
 cond (Nat.beq args.length (fn.params.size+fn.nfree)) (qH P E kd (fun v σ=>Q (.pan v) σ) (GT h (fn.body.getD .skip) 0).1 (YJ P fn.results.toList Q) (fun _ _ _=>False) (YJ P fn.results.toList Q) (F0 (List.range (fn.params.size+fn.nfree)) args) σ) False
theorem Ev.xfn {P:Program} (hm:P.follows .mixedOrders=true) {f:FuncId} {fn:Func} (hf:P.funcs[f]?=some fn) (h:Nat→Option QY) (kd:Nat→VT) (hc:WI fn h=true) {args:List Value} {σ:AHeap} {Q:RK} (hx:Go.Ax.xfn P (Ev P) fn h kd args σ Q):Ev P f args σ Q:=by
 refine Ev.fn hm hf h hc ?_
 unfold Go.Ax.xfn at hx
 unfold X1
 cases hb:Nat.beq args.length (fn.params.size+fn.nfree) with
 | false=>rw [hb] at hx; exact hx.elim
 | true =>
   rw [hb] at hx
   exact tW kd (fun _ _ h=>h) _ (fun _ _ h=>h) (fun _ _ _ h=>h) (fun _ _ h=>h) _ _ hx
end Go.Ax
namespace Go.Ax
open Go.RowKit
abbrev PK:=Nat→Option (Bool×CX)
def PK.emp:PK:=fun _=>none
def J (x y z:Option (Bool×CX)):Prop:=(x=none∧z=y)∨(y=none∧z=x)∨(∃ o,x=some (false,o)∧y=some (false,o)∧z=some (false,o))
theorem J.assoc {x y xy c r:Option (Bool×CX)} (h:J x y xy) (k:J xy c r):∃ yc,J y c yc∧J x yc r:=by
 rcases h with ⟨rfl,rfl⟩ | ⟨rfl,rfl⟩ | ⟨o,rfl,rfl,rfl⟩
 ·exact ⟨r,k,.inl ⟨rfl,rfl⟩⟩
 ·exact ⟨c,.inl ⟨rfl,rfl⟩,k⟩
 ·rcases k with ⟨hx,_⟩ | ⟨rfl,rfl⟩ | ⟨o',hx,rfl,rfl⟩
  ·cases hx
  ·exact ⟨some (false,o),.inr (.inl ⟨rfl,rfl⟩),.inr (.inr ⟨o,rfl,rfl,rfl⟩)⟩
  ·cases hx
   exact ⟨some (false,o),.inr (.inr ⟨o,rfl,rfl,rfl⟩),.inr (.inr ⟨o,rfl,rfl,rfl⟩)⟩
def PK.Join (a b r:PK):Prop:=∀ i,J (a i) (b i) (r i)
def PK.Of (r:PK) (σ:AHeap):Prop:=∀ i q o,r i=some (q,o)→σ.get i=some o∧i<σ.size
abbrev AJ:=PK→Prop
def sep (A B:AJ):AJ:=fun r=>∃ a b,PK.Join a b r∧A a∧B b
def emp:AJ:=fun r=>r=PK.emp
def IU (p:Prop):AJ:=fun r=>r=PK.emp∧p
def ex {α:Sort _} (A:α→AJ):AJ:=fun r=>∃ x,A x r
def pt (b:Nat) (o:CX):AJ:=fun r=>r=fun i=>if i=b then some (true,o) else none
def ro (b:Nat) (o:CX):AJ:=fun r=>r=fun i=>if i=b then some (false,o) else none
theorem PK.Join.comm {a b r:PK} (h:PK.Join a b r):PK.Join b a r:=fun i=>by
 rcases h i with ⟨x,y⟩ | ⟨x,y⟩ | ⟨o,x,y,z⟩
 ·exact .inr (.inl ⟨x,y⟩)
 ·exact .inl ⟨x,y⟩
 ·exact .inr (.inr ⟨o,y,x,z⟩)
theorem PK.Join.emp_left (r:PK):PK.Join PK.emp r r:=fun _=>.inl ⟨rfl,rfl⟩
theorem PK.Join.emp_eq {b r:PK} (h:PK.Join PK.emp b r):r=b:=by
 funext i
 rcases h i with ⟨_,y⟩ | ⟨x,y⟩ | ⟨o,x,_⟩
 ·exact y
 ·rw [y,x]; rfl
 ·cases x
theorem PK.Join.assoc {a b ab c r:PK} (h:PK.Join a b ab) (k:PK.Join ab c r):∃ bc,PK.Join b c bc∧PK.Join a bc r :=
 ⟨fun i=>Classical.choose ((h i).assoc (k i)),fun i=>(Classical.choose_spec ((h i).assoc (k i))).1,fun i=>(Classical.choose_spec ((h i).assoc (k i))).2⟩
theorem NX (A B:AJ):sep A B=sep B A:=by
 funext r; apply propext
 exact ⟨fun ⟨a,b,h,x,y⟩=>⟨b,a,h.comm,y,x⟩,fun ⟨a,b,h,x,y⟩=>⟨b,a,h.comm,y,x⟩⟩
theorem D7 (A B C:AJ):sep (sep A B) C=sep A (sep B C):=by
 funext r; apply propext
 constructor
 ·rintro ⟨ab,c,h,⟨a,b,k,x,y⟩,z⟩
  obtain ⟨bc,h1,h2⟩:=k.assoc h
  exact ⟨a,bc,h2,x,b,c,h1,y,z⟩
 ·rintro ⟨a,bc,h,x,b,c,k,y,z⟩
  obtain ⟨ba,h1,h2⟩:=k.comm.assoc h.comm
  exact ⟨ba,c,h2.comm,⟨a,b,h1.comm,x,y⟩,z⟩
theorem LS (A:AJ):sep emp A=A:=by
 funext r; apply propext
 constructor
 ·rintro ⟨a,b,h,rfl,y⟩; rw [h.emp_eq]; exact y
 ·intro h; exact ⟨_,r,PK.Join.emp_left r,rfl,h⟩
def AW:List AJ→AJ
 | []=>emp
 | A::l=>sep A (AW l)
theorem MA (l m:List AJ):AW (l++m)=sep (AW l) (AW m):=by
 induction l with
 | nil=>simp [AW,LS]
 | cons A l ih=>simp [AW,ih,D7]
theorem vO {l m:List AJ} (h:l.Perm m):AW l=AW m:=by
 induction h with
 | nil=>rfl
 | cons x _ ih=>simp [AW,ih]
 | swap x y l=>simp only [AW]; rw [← D7,NX y x,D7]
 | trans _ _ ih1 ih2=>rw [ih1,ih2]
def H (l:List AJ) (σ:AHeap):Prop:=∃ r,PK.Of r σ∧AW l r
theorem PK.Of.left {a b r:PK} {σ:AHeap} (h:PK.Of r σ) (j:PK.Join a b r):PK.Of a σ:=fun i q o ha=>by
 rcases j i with ⟨x,y⟩ | ⟨x,y⟩ | ⟨o',x,y,z⟩
 ·rw [x] at ha; cases ha
 ·exact h i q o (by rw [y,ha])
 ·rw [x] at ha; cases ha; exact h i _ _ z
theorem H.perm {l m:List AJ} {σ:AHeap} (h:H l σ) (p:l.Perm m):H m σ:=by
 obtain ⟨r,h1,h2⟩:=h; exact ⟨r,h1,by rw [← vO p]; exact h2⟩
theorem H.left {l m:List AJ} {σ:AHeap} (h:H (l++m) σ):H l σ:=by
 obtain ⟨r,h1,h2⟩:=h
 rw [MA] at h2
 obtain ⟨a,b,j,x,y⟩:=h2
 exact ⟨a,h1.left j,x⟩
theorem H.nil (σ:AHeap):H [] σ:=⟨PK.emp,(fun i q o h=>by simp [PK.emp] at h),rfl⟩
theorem H.tail {A:AJ} {l:List AJ} {σ:AHeap} (h:H (A::l) σ):H l σ:=(h.perm (by simpa using List.perm_append_comm (l₁:=[A]) (l₂:=l)):H (l++[A]) σ).left
theorem H.second {A B:AJ} {l:List AJ} {σ:AHeap} (h:H (A::B::l) σ):H (A::l) σ :=
 (h.perm (List.Perm.cons A (by simpa using List.perm_append_comm (l₁:=[B]) (l₂:=l))):H ((A::l)++[B]) σ).left
def bK (l:List AJ) (is:List Nat):List AJ:=is.map fun i=>l.getD i emp
theorem K6:∀ (l:List AJ) (i:Nat),AW l=sep (l.getD i emp) (AW (l.set i emp))
 | [],i=>by simp [AW,LS]
 | A::l,0=>by simp [AW,LS]
 | A::l,i+1=>by
   simp only [AW,List.getD_cons_succ,List.set_cons_succ]
   rw [K6 l i,← D7,NX A,D7]
theorem T8 (l:List AJ) (i:Nat) (B:AJ) (h:i<l.length):AW (l.set i B)=sep B (AW (l.set i emp)):=by
 rw [K6 _ i,List.set_set]
 simp [List.getD,h]
theorem fM {l:List AJ}:∀ (is:List Nat),is.Nodup→∃ K,AW l=sep (AW (bK l is)) K
 | [],_=>⟨AW l,by simp [bK,AW,LS]⟩
 | i::is,hn=>by
   rw [List.nodup_cons] at hn
   obtain ⟨K,hK⟩:=fM (l:=l.set i emp) is hn.2
   refine ⟨K,?_⟩
   rw [K6 l i,hK]
   have hp:bK (l.set i emp) is=bK l is:=by
    unfold bK
    apply List.map_congr_left
    intro x hx
    have hx':i≠x:=fun e=>hn.1 (e▸hx)
    simp [List.getD,List.getElem?_set,hx']
   rw [hp]
   show _=sep (sep _ _) _
   rw [D7]
   rfl
theorem H.pick {l:List AJ} {σ:AHeap} (h:H l σ) (is:List Nat) (hn:is.Nodup):H (bK l is) σ:=by
 obtain ⟨K,hK⟩:=fM (l:=l) is hn
 obtain ⟨r,h1,h2⟩:=h
 rw [hK] at h2
 obtain ⟨a,b,j,x,y⟩:=h2
 exact ⟨a,h1.left j,x⟩
theorem H.front {l:List AJ} {σ:AHeap} {A:AJ} (h:H l σ) (i:Nat) (hi:l[i]?=some A):H (A::l.set i emp) σ:=by
 obtain ⟨r,h1,h2⟩:=h
 rw [K6 l i] at h2
 simp only [List.getD,hi,Option.getD_some] at h2
 exact ⟨r,h1,h2⟩
theorem H.back {l:List AJ} {σ:AHeap} {A B:AJ} (i:Nat) (hi:l[i]?=some A) (h:H (B::l.set i emp) σ):H (l.set i B) σ:=by
 have hlt:=(List.getElem?_eq_some_iff.1 hi).1
 obtain ⟨r,h1,h2⟩:=h
 exact ⟨r,h1,by rw [T8 l i B hlt]; exact h2⟩
theorem BC {l m:List AJ} {σ:AHeap}:H (AW l::m) σ↔H (l++m) σ:=by
 unfold H; simp only [AW,MA]
theorem KN {α:Sort _} {A:α→AJ} {m:List AJ} {σ:AHeap}:H (ex A::m) σ↔∃ x,H (A x::m) σ:=by
 constructor
 ·rintro ⟨r,h,a,b,j,⟨x,hx⟩,hb⟩; exact ⟨x,r,h,a,b,j,hx,hb⟩
 ·rintro ⟨x,r,h,a,b,j,hx,hb⟩; exact ⟨r,h,a,b,j,⟨x,hx⟩,hb⟩
theorem BZ {p:Prop} {m:List AJ} {σ:AHeap}:H (IU p::m) σ↔p∧H m σ:=by
 constructor
 ·rintro ⟨r,h,a,b,j,⟨rfl,hp⟩,hb⟩; exact ⟨hp,r,h,by rw [j.emp_eq]; exact hb⟩
 ·rintro ⟨hp,r,h,hb⟩; exact ⟨r,h,_,r,PK.Join.emp_left r,⟨rfl,hp⟩,hb⟩
theorem yY {m:List AJ} {σ:AHeap}:H (emp::m) σ↔H m σ:=by
 unfold H; simp only [AW,LS]
theorem BE {A B:AJ} {m:List AJ} {σ:AHeap}:H (sep A B::m) σ↔H (A::B::m) σ:=by
 unfold H; simp only [AW,D7]
theorem H.snoc {A:AJ} {l:List AJ} {σ:AHeap} (h:H (A::l) σ):H (l++[A]) σ:=h.perm (by simpa using List.perm_append_comm (l₁:=[A]) (l₂:=l))
theorem H.unsnoc {A:AJ} {l:List AJ} {σ:AHeap} (h:H (l++[A]) σ):H (A::l) σ:=h.perm (List.perm_append_comm (l₁:=l) (l₂:=[A]))
theorem H.get0 {b:Nat} {o:CX} {l:List AJ} {σ:AHeap} (h:H (pt b o::l) σ):σ.get b=some o∧b<σ.size:=by
 obtain ⟨r,h,a,c,j,rfl,hc⟩:=h
 exact (h.left j) b true o (by simp)
theorem H.rget0 {b:Nat} {o:CX} {l:List AJ} {σ:AHeap} (h:H (ro b o::l) σ):σ.get b=some o∧b<σ.size:=by
 obtain ⟨r,h,a,c,j,rfl,hc⟩:=h
 exact (h.left j) b false o (by simp)
theorem H.get {l:List AJ} {σ:AHeap} (h:H l σ) (i:Nat) {b:Nat} {o:CX} (hi:l[i]?=some (pt b o)):σ.get b=some o:=(h.front i hi).get0.1
theorem H.set0 {b:Nat} {o:CX} {l:List AJ} {σ:AHeap} (h:H (pt b o::l) σ) (o':CX):H (pt b o'::l) (σ.set b o'):=by
 obtain ⟨r,h,a,c,j,rfl,hc⟩:=h
 refine ⟨fun i=>if i=b then some (true,o') else r i,?_,fun i=>if i=b then some (true,o') else none,c,?_,rfl,hc⟩
 ·intro i q x hx
  simp only at hx
  rw [AHeap.get_set]
  split at hx
  ·rename_i e; subst e; cases hx
   exact ⟨by simp,((h.left j) i true o (by simp)).2⟩
  ·rename_i e
   rw [if_neg e]; exact h i q x hx
 ·intro i
  have hj:=j i
  by_cases e:i=b
  ·subst e
   simp only [if_pos]
   simp only [if_pos] at hj
   rcases hj with ⟨x,_⟩ | ⟨x,_⟩ | ⟨_,x,_⟩
   ·cases x
   ·exact .inr (.inl ⟨x,rfl⟩)
   ·cases x
  ·simp only [if_neg e] at hj ⊢
   exact hj
theorem H.set {l:List AJ} {σ:AHeap} (h:H l σ) (i:Nat) {b:Nat} {o:CX} (hi:l[i]?=some (pt b o)) (o':CX):H (l.set i (pt b o')) (σ.set b o'):=H.back i hi ((h.front i hi).set0 o')
theorem H.push {l:List AJ} {σ:AHeap} (h:H l σ) (o:CX):H (l++[pt σ.size o]) (σ.push o):=by
 refine H.snoc ?_
 obtain ⟨r,h,hl⟩:=h
 have hfree:r σ.size=none:=by
  cases hr:r σ.size with
  | none=>rfl
  | some x=>obtain ⟨q,y⟩:=x; have:=(h _ q y hr).2; omega
 refine ⟨fun i=>if i=σ.size then some (true,o) else r i,?_,fun i=>if i=σ.size then some (true,o) else none,r,?_,rfl,hl⟩
 ·intro i q x hx
  simp only at hx
  rw [AHeap.get_push]
  split at hx
  ·rename_i e; subst e; cases hx; exact ⟨by simp,by simp⟩
  ·rename_i e; rw [if_neg e]; exact ⟨(h i q x hx).1,by have:=(h i q x hx).2; simp; omega⟩
 ·intro i
  by_cases e:i=σ.size
  ·subst e; simp [hfree]; exact .inr (.inl ⟨rfl,rfl⟩)
  ·simp [e]; exact .inl ⟨rfl,rfl⟩
theorem H.freeze0 {b:Nat} {o:CX} {l:List AJ} {σ:AHeap} (h:H (pt b o::l) σ):H (ro b o::l) σ:=by
 obtain ⟨r,h,a,c,j,rfl,hc⟩:=h
 refine ⟨fun i=>if i=b then some (false,o) else r i,?_,fun i=>if i=b then some (false,o) else none,c,?_,rfl,hc⟩
 ·intro i q x hx
  simp only at hx
  split at hx
  ·rename_i e; subst e; cases hx; exact (h.left j) i true o (by simp)
  ·exact h i q x hx
 ·intro i
  have hj:=j i
  by_cases e:i=b
  ·subst e
   simp only [if_pos]
   simp only [if_pos] at hj
   rcases hj with ⟨x,_⟩ | ⟨x,_⟩ | ⟨_,x,_⟩
   ·cases x
   ·exact .inr (.inl ⟨x,rfl⟩)
   ·cases x
  ·simp only [if_neg e] at hj ⊢
   exact hj
theorem H.freeze {l:List AJ} {σ:AHeap} (h:H l σ) (i:Nat) {b:Nat} {o:CX} (hi:l[i]?=some (pt b o)):H (l.set i (ro b o)) σ:=H.back i hi (h.front i hi).freeze0
theorem ACS (b:Nat) (o:CX):sep (ro b o) (ro b o)=ro b o:=by
 funext r; apply propext
 constructor
 ·rintro ⟨a,c,j,rfl,rfl⟩
  funext i
  rcases j i with ⟨x,y⟩ | ⟨x,y⟩ | ⟨o',x,y,z⟩
  ·exact y
  ·exact y
  ·simp only at x z
   split at x
   ·cases x; rename_i e; rw [z,if_pos e]
   ·cases x
 ·rintro rfl
  refine ⟨_,_,fun i=>?_,rfl,rfl⟩
  by_cases e:i=b
  ·exact .inr (.inr ⟨o,by simp [e],by simp [e],by simp [e]⟩)
  ·exact .inl ⟨by simp [e],rfl⟩
def X0 (A:AJ):Prop:=∀ r,A r→sep A A r
theorem X0.ro (b:Nat) (o:CX):X0 (ro b o):=fun r h=>by rw [ACS]; exact h
theorem X0.pure (p:Prop):X0 (IU p):=by
 rintro r ⟨rfl,hp⟩; exact ⟨_,_,PK.Join.emp_left _,⟨rfl,hp⟩,⟨rfl,hp⟩⟩
theorem X0.emp:X0 emp:=fun r h=>by rw [LS]; exact h
theorem X0.ex {α:Sort _} {A:α→AJ} (h:∀ x,X0 (A x)):X0 (ex A):=by
 rintro r ⟨x,hx⟩
 obtain ⟨a,b,j,ha,hb⟩:=h x r hx
 exact ⟨a,b,j,⟨x,ha⟩,⟨x,hb⟩⟩
theorem X0.sep {A B:AJ} (h:X0 A) (k:X0 B):X0 (sep A B):=by
 rintro r ⟨a,b,j,ha,hb⟩
 have e:Ax.sep (Ax.sep A B) (Ax.sep A B)=Ax.sep (Ax.sep A A) (Ax.sep B B):=by
  rw [D7,← D7 B A B,NX B A,D7 A B B,← D7]
 rw [e]
 exact ⟨a,b,j,h a ha,k b hb⟩
theorem X0.star:∀ {l:List AJ},(∀ A∈l,X0 A)→X0 (AW l)
 | [],_=>X0.emp
 | A::l,h=>X0.sep (h A (by simp)) (X0.star fun B hB=>h B (by simp [hB]))
theorem H.dup0 {l:List AJ} {σ:AHeap} {A:AJ} (h:H (A::l) σ) (hd:X0 A):H (A::A::l) σ:=by
 rw [← BE]
 obtain ⟨r,h,a,b,j,x,y⟩:=h
 exact ⟨r,h,a,b,j,hd a x,y⟩
theorem H.dup {l:List AJ} {σ:AHeap} (h:H l σ) (i:Nat) {A:AJ} (hi:l[i]?=some A) (hd:X0 A):H (l++[A]) σ:=by
 have h1:=h.front i hi
 have h2:H (A::A::l.set i emp) σ:=h1.dup0 hd
 have hlt:=(List.getElem?_eq_some_iff.1 hi).1
 have hs:l.set i A=l:=by
  apply List.ext_getElem?
  intro j
  rw [List.getElem?_set]
  split
  ·rename_i e; subst e; exact hi.symm
  ·rfl
 obtain ⟨r,g1,g2⟩:=h2
 refine H.snoc ⟨r,g1,?_⟩
 have:AW (A::l)=sep A (sep A (AW (l.set i emp))):=by
  show sep A (AW l)=_
  conv=>lhs; rw [← hs]
  rw [T8 l i A hlt]
 rw [this]; exact g2
theorem H.ne2 {l:List AJ} {σ:AHeap} {b c:Nat} {o p:CX} (h:H (pt b o::pt c p::l) σ):b≠c:=by
 rintro rfl
 obtain ⟨r,h,a,d,j,rfl,a2,d2,j2,rfl,hd⟩:=h
 have h2:d b≠none:=by
  rcases j2 b with ⟨x,y⟩ | ⟨x,y⟩ | ⟨_,_,_,z⟩
  ·simp at x
  ·rw [y]; simp
  ·rw [z]; simp
 rcases j b with ⟨x,_⟩ | ⟨x,_⟩ | ⟨_,x,_⟩
 ·simp at x
 ·exact h2 x
 ·simp at x
end Go.Ax
namespace Go.Ax
open Go.RowKit
@[congr] theorem AEF {α:Type} {o o':Option α} {k:α→Prop} (h:o=o'):pu o k=pu o' k:=by rw [h]
@[congr] theorem ADS {v v':Value} {a b:Prop} (h:v=v'):wC v a b=wC v' a b:=by rw [h]
@[congr] theorem ADR {v v':Value} {k:Bool→Prop} (h:v=v'):wB v k=wB v' k:=by rw [h]
@[congr] theorem ADb {v v':Value} {a b c:Prop} (h:v=v'):wG v a b c=wG v' a b c:=by rw [h]
@[congr] theorem ADr {v v':Value} {k:FuncId→List Value→List Value→Prop} (h:v=v'):wF v k=wF v' k:=by rw [h]
@[congr] theorem ACl {σ σ':AHeap} {o o':CX} {k:Nat→AHeap→Prop} (h:σ=σ') (g:o=o'):BB σ o k=BB σ' o' k:=by rw [h,g]
@[congr] theorem ADI {P:Program} {f:FuncId} {a a':List Value} {σ σ':AHeap} {Q:RK} (h:a=a') (g:σ=σ'):Ev P f a σ Q=Ev P f a' σ' Q:=by rw [h,g]
@[simp] theorem A4 {α:Type} (v:α) (k:α→Prop):pu (some v) k=k v:=propext ⟨fun ⟨_,h,hk⟩=>by cases h; exact hk,fun h=>⟨v,rfl,h⟩⟩
@[simp] theorem AEZ {α:Type} (k:α→Prop):pu none k=False:=propext ⟨(fun ⟨_,h,_⟩=>by cases h),False.elim⟩
@[simp] theorem AET (a b:Prop):wC (.bool true) a b=a:=rfl
@[simp] theorem m7 (a b:Prop):wC (.bool false) a b=b:=rfl
@[simp] theorem ABL (a b c:Prop):wG (.bool true) a b c=a:=rfl
@[simp] theorem yN (a b c:Prop):wG (.bool false) a b c=b:=rfl
@[simp] theorem AEX (b:Bool) (k:Bool→Prop):wB (.bool b) k=k b:=rfl
@[simp] theorem AEQ (g:FuncId) (a c:Array Value) (k:FuncId→List Value→List Value→Prop):wF (.func (.func g) a c) k=k g a.toList c.toList:=rfl
theorem ACA {b:Bool} {x y:Prop} (h1:b=true→x) (h2:b=false→y):wC (.bool b) x y:=by cases b; exact h2 rfl; exact h1 rfl
theorem UT {p:Prop} [Decidable p] {x y:Prop} (h1:p→x) (h2:¬ p→y):wC (.bool (decide p)) x y:=ACA (fun h=>h1 (by simpa using h)) fun h=>h2 (by simpa using h)
theorem AB3 {b:Bool} {x y z:Prop} (h1:b=true→x) (h2:b=false→y):wG (.bool b) x y z:=by cases b; exact h2 rfl; exact h1 rfl
theorem kU {p:Prop} [Decidable p] {x y z:Prop} (h1:p→x) (h2:¬ p→y):wG (.bool (decide p)) x y z:=AB3 (fun h=>h1 (by simpa using h)) fun h=>h2 (by simpa using h)
def one (v:Value):Bool:=v.oneCell'
section
variable (n:Int) (n2 c:Nat) (x y:Array Value) (v:Value)
@[simp] theorem ACx (b:Bool):DB (.bool b)=true:=rfl
@[simp] theorem ADy (b:Bool):one (.bool b)=true:=rfl
@[simp] theorem ABy (b:Bool):Value.cells (.bool b)=#[.bool b]:=rfl
@[simp] theorem ADO (k:IntKind):DB (.int k n)=true:=rfl
@[simp] theorem AES (k:IntKind):one (.int k n)=true:=rfl
@[simp] theorem AC0 (k:IntKind):Value.cells (.int k n)=#[.int k n]:=rfl
@[simp] theorem ABi (s:ByteArray):DB (.string s)=true:=rfl
@[simp] theorem ACL (s:ByteArray):one (.string s)=true:=rfl
@[simp] theorem AA3 (s:ByteArray):Value.cells (.string s)=#[.string s]:=rfl
@[simp] theorem AAp (a:Option Addr):DB (.pointer a)=true:=rfl
@[simp] theorem ABa (a:Option Addr):one (.pointer a)=true:=rfl
@[simp] theorem AAM (a:Option Addr):Value.cells (.pointer a)=#[.pointer a]:=rfl
@[simp] theorem ACu (a:Option Addr):DB (.slice a n2 c)=true:=rfl
@[simp] theorem ACy (a:Option Addr):one (.slice a n2 c)=true:=rfl
@[simp] theorem ABq (a:Option Addr):Value.cells (.slice a n2 c)=#[.slice a n2 c]:=rfl
@[simp] theorem ADK (r:Option Nat):DB (.map r)=true:=rfl
@[simp] theorem AEg (r:Option Nat):one (.map r)=true:=rfl
@[simp] theorem AC1 (r:Option Nat):Value.cells (.map r)=#[.map r]:=rfl
@[simp] theorem ADB (f:Fn):DB (.func f x y)=true:=rfl
@[simp] theorem ADH (f:Fn):one (.func f x y)=true:=rfl
@[simp] theorem ACZ (f:Fn):Value.cells (.func f x y)=#[.func f x y]:=rfl
@[simp] theorem AAt:DB (.nilFunc)=true:=rfl
@[simp] theorem ABp:one (.nilFunc)=true:=rfl
@[simp] theorem AAO:Value.cells (.nilFunc)=#[.nilFunc]:=rfl
@[simp] theorem AAH:DB (.nilIface)=true:=rfl
@[simp] theorem AAk:one (.nilIface)=true:=rfl
@[simp] theorem zF:Value.cells (.nilIface)=#[.nilIface]:=rfl
@[simp] theorem AB0 (t:TypeId):DB (.iface t v)=true:=rfl
@[simp] theorem ADA (t:TypeId):one (.iface t v)=true:=rfl
@[simp] theorem ABu (t:TypeId):Value.cells (.iface t v)=#[.iface t v]:=rfl
@[simp] theorem AD4:DB (.agg x)=true:=rfl
@[simp] theorem AC3:Value.cells (.agg x)=x:=rfl
end
section
variable (d:Option TypeDesc) (k:IntKind) (a b:Int)
@[simp] theorem t4:BA d .add (.int k a) (.int k b)=some (.int k (k.wrap (a+b))):=by simp [BA,TP]
@[simp] theorem AAQ:BA d .sub (.int k a) (.int k b)=some (.int k (k.wrap (a - b))):=by simp [BA,TP]
@[simp] theorem AA1:BA d .mul (.int k a) (.int k b)=some (.int k (k.wrap (a*b))):=by simp [BA,TP]
@[simp] theorem AEM:BA d .quo (.int k a) (.int k b)=if b=0 then none else some (.int k (k.wrap (a.tdiv b))):=by simp [BA,TP]
@[simp] theorem ABX:BA d .rem (.int k a) (.int k b)=if b=0 then none else some (.int k (a.tmod b)):=by simp [BA,TP]
@[simp] theorem AEf:BA d .and (.int k a) (.int k b)=some (.int k (k.wrap (BitVec.ofInt k.bits a &&& BitVec.ofInt k.bits b).toNat)):=by simp [BA,TP]
@[simp] theorem AEy:BA d .or (.int k a) (.int k b)=some (.int k (k.wrap (BitVec.ofInt k.bits a ||| BitVec.ofInt k.bits b).toNat)):=by simp [BA,TP]
@[simp] theorem AER:BA d .xor (.int k a) (.int k b)=some (.int k (k.wrap (BitVec.ofInt k.bits a ^^^ BitVec.ofInt k.bits b).toNat)):=by simp [BA,TP]
@[simp] theorem AEU:BA d .eql (.int k a) (.int k b)=some (.bool (decide (a=b))):=by
  simp only [BA,if_true,TP]
  rw [show (a == b)=decide (a=b) from by by_cases h:a=b<;>simp [h]]
@[simp] theorem tY:BA d .neq (.int k a) (.int k b)=some (.bool (decide (a≠b))):=by
  simp only [BA,if_true,TP,bne,decide_not]
  rw [show (a == b)=decide (a=b) from by by_cases h:a=b<;>simp [h]]
@[simp] theorem AAj:BA d .lss (.int k a) (.int k b)=some (.bool (decide (a<b))):=by simp [BA,TP]
@[simp] theorem AEO:BA d .leq (.int k a) (.int k b)=some (.bool (decide (a≤b))):=by simp [BA,TP]
@[simp] theorem AEa:BA d .gtr (.int k a) (.int k b)=some (.bool (decide (b<a))):=by simp [BA,TP]
@[simp] theorem AEP:BA d .geq (.int k a) (.int k b)=some (.bool (decide (b≤a))):=by simp [BA,TP]
end
@[simp] theorem AEc (a b:Bool):BA (some .bool) .eql (.bool a) (.bool b)=some (.bool (a == b)):=rfl
@[simp] theorem AEN (a b:Bool):BA (some .bool) .neq (.bool a) (.bool b)=some (.bool (!(a == b))):=rfl
@[simp] theorem AD9 (t:TypeId) (b:Option Addr):BA (some (.pointer t)) .eql (.pointer none) (.pointer b)=some (.bool b.isNone):=rfl
@[simp] theorem TM (t:TypeId) (a:Addr):BA (some (.pointer t)) .eql (.pointer (some a)) (.pointer none)=some (.bool false):=rfl
@[simp] theorem ADJ (t:TypeId) (b:Option Addr):BA (some (.pointer t)) .neq (.pointer none) (.pointer b)=some (.bool !b.isNone):=rfl
@[simp] theorem ADv (t:TypeId) (a:Addr):BA (some (.pointer t)) .neq (.pointer (some a)) (.pointer none)=some (.bool true):=rfl
@[simp] theorem ADG (t:TypeId) (l c:Nat) (b:Option Addr) (m d:Nat):BA (some (.slice t)) .eql (.slice none l c) (.slice b m d)=some (.bool b.isNone):=rfl
@[simp] theorem ADu (t:TypeId) (a:Addr) (l c m d:Nat):BA (some (.slice t)) .eql (.slice (some a) l c) (.slice none m d)=some (.bool false):=rfl
@[simp] theorem AD6 (t:TypeId) (l c:Nat) (b:Option Addr) (m d:Nat):BA (some (.slice t)) .neq (.slice none l c) (.slice b m d)=some (.bool !b.isNone):=rfl
@[simp] theorem AD7 (t:TypeId) (a:Addr) (l c m d:Nat):BA (some (.slice t)) .neq (.slice (some a) l c) (.slice none m d)=some (.bool true):=rfl
@[simp] theorem xF (b:Bool):pJ .not (.bool b)=some (.bool !b):=rfl
@[simp] theorem AEz (k:IntKind) (n:Int):pJ .neg (.int k n)=some (.int k (k.wrap (0 - n))):=rfl
@[simp] theorem ADY (k k':IntKind) (n:Int):sJ k (.int k' n)=some (.int k (k.wrap n)):=rfl
@[simp] theorem min2 (k k':IntKind) (a b:Int):jM (.int k a) (.int k' b)=some (.int k (if b<a then b else a)):=rfl
@[simp] theorem max2 (k k':IntKind) (a b:Int):jB (.int k a) (.int k' b)=some (.int k (if b > a then b else a)):=rfl
@[simp] theorem NR (a:Option Addr) (n c:Nat):BJ (.slice a n c)=some (.int .i64 n):=rfl
@[simp] theorem AAK (s:ByteArray):kO (.string s)=some (.int .i64 s.size):=rfl
theorem wrap_i64 {n:Int} (h : -9223372036854775808≤n∧n<9223372036854775808):IntKind.i64.wrap n=n:=by
 simp [IntKind.wrap,IntKind.bits,IntKind.signed]; omega
theorem AA8 {n:Int} (h:0≤n∧n<256):IntKind.u8.wrap n=n:=by
 simp [IntKind.wrap,IntKind.bits,IntKind.signed]; omega
theorem X6 {n:Int} (h:0≤n∧n<18446744073709551616):IntKind.u64.wrap n=n:=by
 simp [IntKind.wrap,IntKind.bits,IntKind.signed]; omega
@[simp] theorem DX (a:Addr):BX (.pointer (some a))=some (.pointer (some a)):=rfl
@[simp] theorem AD1 (f:FuncId) (p q:Array Value):BX (.func (.func f) p q)=some (.func (.func f) p q):=rfl
@[simp] theorem AM (off:Nat) (b o:Nat):AB off (.pointer (some ⟨b,o,none⟩))=some (.pointer (some ⟨b,o+off,none⟩)):=by
  simp only [AB,Addr.add]
  split
  ·rename_i h; subst h; rfl
  ·rfl
theorem EP (b o n:Nat):(⟨b,o,none⟩:Addr).add n=⟨b,o+n,none⟩:=by
 simp only [Addr.add]
 split
 ·rename_i h; subst h; rfl
 ·rfl
theorem TG {z b o l c:Nat} {k:IntKind} {i:Int} (h:0≤i∧i<l):AG z (.slice (some ⟨b,o,none⟩) l c) (.int k i)=some (.pointer (some ⟨b,o+i.toNat*z,none⟩)):=by
 simp only [AG,if_pos h,EP]
@[simp] theorem AEA (a b:Value):CL (.tuple #[a,b]) 0=some a:=by simp [CL]
@[simp] theorem AD0 (a b:Value):CL (.tuple #[a,b]) 1=some b:=by simp [CL]
@[simp] theorem ACw (a b c:Value):CL (.tuple #[a,b,c]) 0=some a:=by simp [CL]
@[simp] theorem ADD (a b c:Value):CL (.tuple #[a,b,c]) 1=some b:=by simp [CL]
@[simp] theorem AC8 (a b c:Value):CL (.tuple #[a,b,c]) 2=some c:=by simp [CL]
theorem LJ {σ:AHeap} {b:Nat} {c:List Value} {e:TypeId} {opn:Bool} (h:σ.get b=some (.cells c e opn)):σ.row b=some c:=by simp [AHeap.row,h]
theorem kQ {σ:AHeap} {b:Nat} {c:List Value} {e:TypeId} (h:σ.get b=some (.ro c e)):σ.row b=some c:=by simp [AHeap.row,h]
theorem BK {σ:AHeap} {b o n:Nat} {c:List Value} (h:σ.row b=some c):AD false n (.pointer (some ⟨b,o,none⟩)) σ=c[o]?:=by simp [AD,h]
theorem WG {σ:AHeap} {b o n:Nat} {c:List Value} (h:σ.row b=some c) (hl:o+n≤c.length):AD true n (.pointer (some ⟨b,o,none⟩)) σ=some (.agg ((c.drop o).take n).toArray):=by
 cases n with
 | zero=>simp [AD,kW]
 | succ n =>
   have hb:Nat.ble (o+(n+1)) c.length=true:=Nat.ble_eq_true_of_le hl
   simp [AD,kW,h,hb]
theorem H.row {l:List AJ} {σ:AHeap} (h:H l σ) (i:Nat) {b:Nat} {c:List Value} {e:TypeId} {opn:Bool} (hi:l[i]?=some (pt b (.cells c e opn))):σ.row b=some c:=LJ (h.get i hi)
theorem S7 {l:List AJ} {σ:AHeap} {o:CX} {k:Nat→AHeap→Prop} (h:H l σ) (hk:∀ b σ',H (l++[pt b o]) σ'→k b σ'):BB σ o k:=hk _ _ (h.push o)
theorem zO {v:Value} (h:one v=true):DB v=true∧v.cells=#[v]:=by cases v<;>simp_all [one,DB,Value.oneCell',Value.cells]
theorem eG (c:List Value) (o:Nat) (v:Value) (h:o<c.length):splice c o [v]=c.set o v:=by
 apply List.ext_getElem?
 intro j
 simp only [splice,List.getElem?_set]
 rcases Nat.lt_trichotomy j o with g | g | g
 ·rw [if_neg (by omega),List.append_assoc,List.getElem?_append_left (by simp; omega),List.getElem?_take,if_pos g]
 ·subst g
  rw [if_pos rfl,if_pos h,List.append_assoc,List.getElem?_append_right (by simp; omega)]
  simp [Nat.min_eq_left (Nat.le_of_lt h)]
 ·rw [if_neg (by omega),List.getElem?_append_right (by simp; omega)]
  simp
  congr 1; omega
theorem E9 {l:List AJ} {σ:AHeap} (h:H l σ) (i:Nat) {b o:Nat} {c:List Value} {e:TypeId} {opn:Bool} {v:Value} {k:AHeap→Prop} (hi:l[i]?=some (pt b (.cells c e opn))) (hv:one v=true) (ho:o<c.length)
 (hk:∀ σ',H (l.set i (pt b (.cells (c.set o v) e opn))) σ'→k σ'):pu (AN 1 (.pointer (some ⟨b,o,none⟩)) v σ) k:=by
 obtain ⟨h1,h2⟩:=zO hv
 have hb:Nat.ble (o+1) c.length=true:=Nat.ble_eq_true_of_le ho
 have he:AN 1 (.pointer (some ⟨b,o,none⟩)) v σ=some (σ.set b (.cells (c.set o v) e opn)):=by
  have hv':v.oneCell'=true:=hv
  simp [AN,h1,h2,NA,h.get i hi,hb,eG c o v ho,hv']
 rw [he,A4]
 exact hk _ (h.set i hi _)
theorem XM {l:List AJ} {σ:AHeap} (h:H l σ) (i:Nat) {b o n:Nat} {c vs:List Value} {e:TypeId} {opn:Bool} {k:AHeap→Prop} (hi:l[i]?=some (pt b (.cells c e opn))) (hn:vs.length=n) (hpos:0<n) (hv:vs.all one=true) (ho:o+n≤c.length)
 (hk:∀ σ',H (l.set i (pt b (.cells (splice c o vs) e opn))) σ'→k σ'):pu (AN n (.pointer (some ⟨b,o,none⟩)) (.agg vs.toArray) σ) k:=by
 have hb:Nat.ble (o+vs.length) c.length=true:=Nat.ble_eq_true_of_le (by omega)
 have he:AN n (.pointer (some ⟨b,o,none⟩)) (.agg vs.toArray) σ=some (σ.set b (.cells (splice c o vs) e opn)):=by
  have hs:(Nat.beq vs.length n)=true:=by rw [hn]; exact Nat.beq_refl n
  simp only [AN,DB,Value.cells,List.size_toArray,hs,Bool.true_and,cond_true]
  cases vs with
  | nil=>simp at hn; omega
  | cons v vs =>
    simp only [NA,h.get i hi]
    have hv':((v::vs).all Value.oneCell' && Nat.ble (o+(v::vs).length) c.length)=true:=by
     rw [hb,Bool.and_true]; exact hv
    rw [hv']; rfl
 rw [he,A4]
 exact hk _ (h.set i hi _)
def yD (b:UInt8):Value:=.int .u8 (b.toNat:Int)
def bv (l:List UInt8):List Value:=l.map yD
@[simp] theorem vQ (l:List UInt8):(bv l).length=l.length:=by simp [bv]
@[simp] theorem uU (l m:List UInt8):bv (l++m)=bv l++bv m:=by simp [bv]
@[simp] theorem lS (l:List UInt8) (n:Nat):(bv l).take n=bv (l.take n):=by simp [bv]
@[simp] theorem AAS (l:List UInt8) (n:Nat):(bv l).drop n=bv (l.drop n):=by simp [bv]
@[simp] theorem AEk:bv []=[]:=rfl
@[simp] theorem AEY (b:UInt8) (l:List UInt8):bv (b::l)=yD b::bv l:=rfl
theorem ACX (l:List UInt8) (i:Nat):(bv l)[i]?=l[i]?.map yD:=by simp [bv]
theorem qI (l:List UInt8):(bv l).all one=true:=by simp [bv,yD,one,Value.oneCell']
theorem vK (l m:List UInt8) (o:Nat):splice (bv l) o (bv m)=bv (l.take o++m++l.drop (o+m.length)):=by simp [splice]
@[simp] theorem AEd (a b:Nat):Nat.ble a b=decide (a≤b):=by
  rw [Bool.eq_iff_iff]; simp
@[simp] theorem AEW (a b:Nat):Nat.beq a b=decide (a=b):=by
  rw [Bool.eq_iff_iff]; simp
@[simp] theorem AEK (a b:Nat):Nat.blt a b=decide (a<b):=by
  rw [Bool.eq_iff_iff]; simp [Nat.blt]; omega
attribute [simp] XE rF O6
end Go.Ax
namespace Go.Ax
open Go.RowKit
theorem H.map0 {A B:AJ} {l:List AJ} {σ:AHeap} (h:H (A::l) σ) (k:∀ r,A r→B r):H (B::l) σ:=by
 obtain ⟨r,h,a,b,j,x,y⟩:=h; exact ⟨r,h,a,b,j,k a x,y⟩
def GP (z n c:Nat):Prop:=n≤BH c∧(c<AX∨c / AX=z)
theorem GP.exact {z n:Nat} (h:n<AX):GP z n n:=⟨by rw [CI h]; exact Nat.le_refl _,.inl h⟩
theorem GP.open' {z n:Nat} (h:n<AX):GP z n (AX*z+n):=by
 refine ⟨?_,.inr ?_⟩
 ·unfold BH; rw [Nat.mul_add_mod,Nat.mod_eq_of_lt h]; exact Nat.le_refl _
 ·rw [Nat.mul_add_div (by unfold AX; omega),Nat.div_eq_of_lt h,Nat.add_zero]
theorem CS {k:IntKind} {i:Int} {y:Nat} (h:0≤i∧i≤y):bnd (.int k i) y=some i.toNat:=by simp only [bnd,if_pos h]
theorem jX {c l:Nat} (h:l≤BH c):BH (c - l)=BH c - l∧(AX≤c→(c - l) / AX=c / AX∧AX≤c - l):=by
 unfold BH at *; unfold AX at *; omega
theorem uF {z b o n c:Nat} {lo hi:Int} {k k':IntKind} (hc:GP z n c) (h:0≤lo∧lo<hi∧hi≤n) :
 ∃ c',AY z (.slice (some ⟨b,o,none⟩) n c) (some (.int k lo)) (some (.int k' hi)) none=some (.slice (some ⟨b,o+lo.toNat*z,none⟩) (hi.toNat - lo.toNat) c')∧GP z (hi.toNat - lo.toNat) c':=by
 obtain ⟨h1,h2⟩:=hc
 have hks:=jX (c:=c) (l:=lo.toNat) (by omega)
 refine ⟨c - lo.toNat,?_,?_,?_⟩
 ·simp only [AY,IQ]
  rw [CS (y:=BH c) (by omega)]
  simp only [Option.bind_some]
  rw [CS (by omega)]
  simp only [Option.bind_some]
  rcases Nat.lt_or_ge c AX with hlt | hge
  ·have:=CI hlt
   rw [if_pos hlt,if_pos (by omega),if_neg (by omega)]
   simp [EP]
  ·have:¬ c<AX:=by omega
   rw [if_neg this,if_pos ⟨by omega,h2.resolve_left this⟩]
   simp [EP]
 ·omega
 ·rcases h2 with h2 | h2
  ·left; omega
  ·rcases Nat.lt_or_ge c AX with hlt | hge
   ·left; omega
   ·right; rw [(hks.2 hge).1]; exact h2
theorem NY {z b o n c:Nat} {lo:Int} {k:IntKind} (hc:GP z n c) (h:0≤lo∧lo<n) :
 ∃ c',AY z (.slice (some ⟨b,o,none⟩) n c) (some (.int k lo)) none none=some (.slice (some ⟨b,o+lo.toNat*z,none⟩) (n - lo.toNat) c')∧GP z (n - lo.toNat) c':=by
 obtain ⟨h1,h2⟩:=hc
 have hks:=jX (c:=c) (l:=lo.toNat) (by omega)
 refine ⟨c - lo.toNat,?_,?_,?_⟩
 ·simp only [AY,IQ]
  simp only [Option.bind_some]
  rw [CS (by omega)]
  simp only [Option.bind_some]
  rcases Nat.lt_or_ge c AX with hlt | hge
  ·have:=CI hlt
   rw [if_pos hlt,if_pos (by omega),if_neg (by omega)]
   simp [EP]
  ·have:¬ c<AX:=by omega
   rw [if_neg this,if_pos ⟨by omega,h2.resolve_left this⟩]
   simp [EP]
 ·omega
 ·rcases h2 with h2 | h2
  ·left; omega
  ·rcases Nat.lt_or_ge c AX with hlt | hge
   ·left; omega
   ·right; rw [(hks.2 hge).1]; exact h2
theorem zM {z b o n c:Nat} {hi:Int} {k:IntKind} (hc:GP z n c) (hn:0<n) (h:0≤hi∧hi≤n) :
 ∃ c',AY z (.slice (some ⟨b,o,none⟩) n c) none (some (.int k hi)) none=some (.slice (some ⟨b,o,none⟩) hi.toNat c')∧GP z hi.toNat c':=by
 obtain ⟨h1,h2⟩:=hc
 refine ⟨c,?_,by omega,h2⟩
 simp only [AY,IQ]
 rw [CS (y:=BH c) (by omega)]
 simp only [Option.bind_some]
 rcases Nat.lt_or_ge c AX with hlt | hge
 ·have:=CI hlt
  rw [if_pos hlt,if_pos (by omega),if_neg (by omega)]
  simp [EP]
 ·have:¬ c<AX:=by omega
  rw [if_neg this,if_pos ⟨by omega,h2.resolve_left this⟩]
  simp [EP]
theorem sL {z b o n c:Nat} {lo hi mx:Int} {k k' k'':IntKind} (hc:GP z n c) (h:0≤lo∧lo≤hi∧hi≤mx∧mx≤n∧lo<mx) :
 AY z (.slice (some ⟨b,o,none⟩) n c) (some (.int k lo)) (some (.int k' hi)) (some (.int k'' mx))=some (.slice (some ⟨b,o+lo.toNat*z,none⟩) (hi.toNat - lo.toNat) (mx.toNat - lo.toNat)):=by
 obtain ⟨h1,h2⟩:=hc
 simp only [AY,IQ]
 rw [CS (y:=BH c) (by omega)]
 simp only [Option.bind_some]
 rw [CS (by omega)]
 simp only [Option.bind_some]
 rw [CS (by omega)]
 simp only [Option.bind_some]
 rw [if_neg (by omega)]
 simp [EP]
theorem E3 {σ:AHeap} {z b o n cap:Nat} {c:List Value} (h:σ.row b=some c) (hn:o+n*z≤c.length):DC z (.slice (some ⟨b,o,none⟩) n cap) σ=some (n,(c.drop o).take (n*z)):=by
 simp only [DC]
 cases hz:n*z with
 | zero=>simp [kW]
 | succ m =>
   have hb:o+(m+1)≤c.length:=by omega
   simp [kW,h,hb]
theorem AA5 (σ:AHeap) (z c:Nat):DC z (.slice none 0 c) σ=some (0,[]):=rfl
theorem UG (σ:AHeap) (z c:Nat) (a:Addr):DC z (.slice (some a) 0 c) σ=some (0,[]):=by simp [DC,kW]
def A5 (e z:Nat) (v:Value) (n:Nat) (xs:List Value):AJ:=fun r =>
 (r=PK.emp∧n=0∧xs=[]∧(v=.slice none 0 0∨v=.slice (some ⟨ZB,0,some 0⟩) 0 0)) ∨
 (∃ b c opn rest,pt b (.cells (xs++rest) e opn) r∧xs.length=n*z∧rest.length=(BH c - n)*z∧v=.slice (some ⟨b,0,none⟩) n c∧n≤BH c∧((opn=true∧AX≤c∧c / AX=z)∨c<AX))
theorem EX {e z n:Nat} {v:Value} {xs:List Value} {l:List AJ} {σ:AHeap}:H (A5 e z v n xs::l) σ ↔
 ((n=0∧xs=[]∧(v=.slice none 0 0∨v=.slice (some ⟨ZB,0,some 0⟩) 0 0))∧H l σ) ∨
 (∃ b c opn rest,H (pt b (.cells (xs++rest) e opn)::l) σ∧xs.length=n*z∧rest.length=(BH c - n)*z∧v=.slice (some ⟨b,0,none⟩) n c∧n≤BH c∧((opn=true∧AX≤c∧c / AX=z)∨c<AX)):=by
 constructor
 ·rintro ⟨r,h,a,k,j,x | ⟨b,c,opn,rest,x,y⟩,hk⟩
  ·obtain ⟨rfl,x⟩:=x
   exact .inl ⟨x,r,h,by rw [j.emp_eq]; exact hk⟩
  ·exact .inr ⟨b,c,opn,rest,⟨r,h,a,k,j,x,hk⟩,y⟩
 ·rintro (⟨x,r,h,hk⟩ | ⟨b,c,opn,rest,⟨r,h,a,k,j,x,hk⟩,y⟩)
  ·exact ⟨r,h,_,r,PK.Join.emp_left r,.inl ⟨rfl,x⟩,hk⟩
  ·exact ⟨r,h,a,k,j,.inr ⟨b,c,opn,rest,x,y⟩,hk⟩
theorem H.own_nil {l:List AJ} {σ:AHeap} (h:H l σ) (e z:Nat):H (l++[A5 e z (.slice none 0 0) 0 []]) σ:=H.snoc (EX.2 (.inl ⟨⟨rfl,rfl,.inl rfl⟩,h⟩))
theorem H.own_zb {l:List AJ} {σ:AHeap} (h:H l σ) (e z:Nat):H (l++[A5 e z (.slice (some ⟨ZB,0,some 0⟩) 0 0) 0 []]) σ:=H.snoc (EX.2 (.inl ⟨⟨rfl,rfl,.inr rfl⟩,h⟩))
theorem H.own_src {l:List AJ} {σ:AHeap} (h:H l σ) (i:Nat) {e z n:Nat} {v:Value} {xs:List Value} (hi:l[i]?=some (A5 e z v n xs)) :
 DC z v σ=some (n,xs)∧xs.length=n*z∧∃ a c,v=.slice a n c:=by
 rcases EX.1 (h.front i hi) with ⟨⟨rfl,rfl,rfl | rfl⟩,h⟩ | ⟨b,c,opn,rest,h,hx,hr,rfl,hn,ho⟩
 ·exact ⟨rfl,by simp,_,_,rfl⟩
 ·exact ⟨UG _ _ _ _,by simp,_,_,rfl⟩
 ·refine ⟨?_,hx,_,_,rfl⟩
  rw [E3 (LJ h.get0.1) (by simp; omega)]
  simp [← hx]
theorem ZV {l:List AJ} {σ:AHeap} {b o:Nat} {c ys:List Value} {e:TypeId} {opn:Bool} (h:H (pt b (.cells c e opn)::l) σ) (hv:ys.all one=true) (ho:o+ys.length≤c.length) :
 ∃ σ',NA ⟨b,o,none⟩ ys σ=some σ'∧H (pt b (.cells (splice c o ys) e opn)::l) σ':=by
 cases ys with
 | nil=>exact ⟨σ,rfl,by simpa [splice] using h⟩
 | cons y ys =>
   refine ⟨_,?_,h.set0 _⟩
   simp only [NA,h.get0.1]
   have hv':((y::ys).all Value.oneCell' && Nat.ble (o+(y::ys).length) c.length)=true:=by
    rw [Nat.ble_eq_true_of_le ho,Bool.and_true]; exact hv
   rw [hv']; rfl
theorem HV (xs rest ys:List Value) (o:Nat) (h:o=xs.length) (hr:ys.length≤rest.length):splice (xs++rest) o ys=xs++ys++rest.drop ys.length:=by
 subst h
 simp [splice,List.drop_append]
theorem DS {l:List AJ} {σ:AHeap} (h:H l σ) (i:Nat) {e z by' n m:Nat} {v x:Value} {xs ys:List Value} {k:Value×AHeap→Prop} (hi:l[i]?=some (A5 e z v n xs)) (hs:DC z x σ=some (m,ys)) (hz:0<z)
 (hb:(n+m)*by'≤140737488355328∧n+m≤140737488355328) (hone:ys.all one=true) (hk:∀ v' σ',H (l.set i (A5 e z v' (n+m) (xs++ys))) σ'→k (v',σ')):pu (BN e z by' v x σ) k:=by
 have hlen:ys.length=m*z:=aC hs
 have hN:n+m<AX:=by unfold AX; omega
 -- a new block in its place
 have new:∀ (a:Option Addr) (c:Nat) (σ2:AHeap),v=.slice a n c→¬ n+m≤BH c→SI z a n σ=some xs→xs.length=n*z→H (l.set i emp) σ2→σ2.size=σ.size →
  (D2 e z by' v m ys σ=some (.slice (some ⟨σ.size,0,none⟩) (n+m) (AX*z+(n+m)),σ2.push (.cells (xs++ys) e true)))→pu (BN e z by' v x σ) k:=by
  intro a c σ2 hv hc hold hxl h2 hsz he
  unfold BN
  rw [hs]
  simp only [Option.bind_some,he,A4]
  refine hk _ _ (H.back i hi ?_)
  have:=(h2.push (.cells (xs++ys) e true)).unsnoc
  rw [hsz] at this
  refine EX.2 (.inr ⟨_,_,true,[],by simpa using this,by simp [hlen,hxl,Nat.add_mul],?_,rfl,?_,.inl ⟨rfl,?_,?_⟩⟩)
  ·have:BH (AX*z+(n+m))=n+m:=by unfold BH; rw [Nat.mul_add_mod,Nat.mod_eq_of_lt hN]
   rw [this]; simp
  ·exact (GP.open' (z:=z) hN).1
  ·have:AX*1≤AX*z:=Nat.mul_le_mul_left _ hz
   omega
  ·exact (GP.open' (z:=z) hN).2.resolve_left (by have:AX*1≤AX*z:=Nat.mul_le_mul_left _ hz
                                                 omega)
 have hf:=h.front i hi
 rcases EX.1 hf with ⟨⟨rfl,rfl,hv⟩,h2⟩ | ⟨b,c,opn,rest,h2,hx,hr,rfl,hn,ho⟩
 ·rcases Nat.eq_zero_or_pos m with rfl | hm
  ·have hys:ys=[]:=List.length_eq_zero_iff.1 (by simpa using hlen)
   subst hys
   have he:BN e z by' v x σ=some (v,σ):=by
    unfold BN; rw [hs]
    rcases hv with rfl | rfl<;>simp [D2,BH,NA]
   rw [he,A4]
   refine hk _ _ (H.back i hi (EX.2 (.inl ⟨⟨rfl,rfl,hv⟩,h2⟩)))
  ·rcases hv with rfl | rfl
   ·refine new none 0 σ rfl (by simp [BH]; omega) rfl (by simp) h2 rfl ?_
    simp only [D2]
    rw [if_neg (by simp [BH]; omega),if_pos ⟨by omega,by omega,hz⟩]
    simp [SI,AX]
   ·refine new (some ⟨ZB,0,some 0⟩) 0 σ rfl (by simp [BH]; omega) (by simp [SI,kW]) (by simp) h2 rfl ?_
    simp only [D2]
    rw [if_neg (by simp [BH]; omega),if_pos ⟨by omega,by omega,hz⟩]
    simp [SI,AX,kW]
 ·by_cases hroom:n+m≤BH c
  ·obtain ⟨σ',hp,h3⟩:=ZV (o:=n*z) (ys:=ys) h2 hone (by
    rw [List.length_append,hx,hr,hlen]
    have:n*z+(BH c - n)*z=BH c*z:=by rw [← Nat.add_mul]; congr 1; omega
    have h4:(n+m)*z≤BH c*z:=Nat.mul_le_mul_right _ hroom
    rw [Nat.add_mul] at h4; omega)
   have he:BN e z by' (.slice (some ⟨b,0,none⟩) n c) x σ=some (.slice (some ⟨b,0,none⟩) (n+m) c,σ'):=by
    unfold BN; rw [hs]
    simp only [Option.bind_some,D2]
    rw [if_pos hroom,EP,Nat.zero_add,hp]; rfl
   rw [he,A4]
   have hfit:ys.length≤rest.length:=by rw [hlen,hr]; exact Nat.mul_le_mul_right _ (by omega)
   rw [HV xs rest ys (n*z) hx.symm hfit] at h3
   refine hk _ _ (H.back i hi (EX.2 (.inr ⟨b,c,opn,rest.drop ys.length,h3,?_,?_,rfl,hroom,ho⟩)))
   ·rw [List.length_append,hx,hlen,Nat.add_mul]
   ·rw [List.length_drop,hr,hlen,← Nat.sub_mul]; congr 1; omega
  ·have hold:SI z (some ⟨b,0,none⟩) n σ=some xs:=by
    simp only [SI]
    have:=(h.own_src i hi).1
    simp only [DC,Option.map_eq_some_iff] at this
    obtain ⟨l0,h1,h4⟩:=this
    rw [h1]; cases h4; rfl
   rcases ho with ⟨rfl,hc1,hc2⟩ | hc
   ·refine new (some ⟨b,0,none⟩) c (σ.set b .dead) rfl hroom hold hx (h2.set0 .dead).tail rfl ?_
    simp only [D2]
    rw [if_neg hroom,if_pos ⟨by omega,by omega,hz⟩,hold]
    simp only [Option.bind_some]
    rw [if_neg (by omega),h2.get0.1]
    simp only
    rw [if_pos ⟨trivial,hc2,hone,trivial⟩]
   ·refine new (some ⟨b,0,none⟩) c σ rfl hroom hold hx h2.tail rfl ?_
    simp only [D2]
    rw [if_neg hroom,if_pos ⟨by omega,by omega,hz⟩,hold]
    simp only [Option.bind_some]
    rw [if_pos hc]
theorem UZ {l:List AJ} {σ:AHeap} (h:H l σ) (i:Nat) {z b o dl dc xl xc m:Nat} {xb:Option Addr} {c ys:List Value} {e:TypeId} {opn:Bool} {k:Value×AHeap→Prop} (hi:l[i]?=some (pt b (.cells c e opn)))
 (hs:DC z (.slice xb (Nat.min xl dl) xc) σ=some (m,ys)) (hone:ys.all one=true) (hl:o+ys.length≤c.length)
 (hk:∀ σ',H (l.set i (pt b (.cells (splice c o ys) e opn))) σ'→k (.int .i64 m,σ')):pu (KJ z (.slice (some ⟨b,o,none⟩) dl dc) (.slice xb xl xc) σ) k:=by
 obtain ⟨σ',hp,h3⟩:=ZV (h.front i hi) hone hl
 have he:KJ z (.slice (some ⟨b,o,none⟩) dl dc) (.slice xb xl xc) σ=some (.int .i64 m,σ'):=by
  simp only [KJ,hs,Option.bind_some,hp,Option.map_some]
 rw [he,A4]
 exact hk _ (H.back i hi h3)
theorem QO (n:Nat) (v:Value):reps n [v]=List.replicate n v:=by
 induction n with
 | zero=>rfl
 | succ n ih=>simp [reps,ih,List.replicate_succ]
theorem RR {l:List AJ} {σ:AHeap} (h:H l σ) {e by':Nat} {zc:List Value} {n c:Int} {k1 k2:IntKind} {k:Value×AHeap→Prop} (hn:0≤n∧n≤c∧c*by'≤140737488355328∧c≤140737488355328)
 (hk:∀ b σ',H (l++[pt b (.cells (reps c.toNat zc) e false)]) σ'→k (.slice (some ⟨b,0,none⟩) n.toNat c.toNat,σ')):pu (OU e by' zc (.int k1 n) (.int k2 c) σ) k:=by
 have he:OU e by' zc (.int k1 n) (.int k2 c) σ=some (.slice (some ⟨σ.size,0,none⟩) n.toNat c.toNat,σ.push (.cells (reps c.toNat zc) e false)):=by
  simp only [OU,if_pos hn]
 rw [he,A4]
 exact hk _ _ (h.push _)
theorem jI {l:List AJ} {σ:AHeap} (h:H l σ) {e z len:Nat} {zc cs:List Value} {BM:List (Nat×Value)} {k:Value×AHeap→Prop} (hc:(Nat.ble (len*z) 16777216 && Nat.blt 0 z)=true)
 (hf:O6 (fun k=>some (k*z,z)) (reps len zc) BM=some cs)
 (hk:∀ b σ',H (l++[pt b (.cells cs e false)]) σ'→k (.slice (some ⟨b,0,none⟩) len len,σ')):pu (WT e z len zc BM σ) k:=by
 have he:WT e z len zc BM σ=some (.slice (some ⟨σ.size,0,none⟩) len len,σ.push (.cells cs e false)):=by
  simp only [WT,hc,hf,cond_true,Option.map_some]
 rw [he,A4]
 exact hk _ _ (h.push _)
theorem H.own_form {l:List AJ} {σ:AHeap} (h:H l σ) (i:Nat) {e z n:Nat} {v:Value} {xs:List Value} (hi:l[i]?=some (A5 e z v n xs)) (hn:0<n) :
 ∃ b c,v=.slice (some ⟨b,0,none⟩) n c∧GP z n c∧∃ rest,σ.row b=some (xs++rest):=by
 rcases EX.1 (h.front i hi) with ⟨⟨rfl,rfl,rfl | rfl⟩,h⟩ | ⟨b,c,opn,rest,h,hx,hr,rfl,hn,ho⟩
 ·omega
 ·omega
 ·exact ⟨b,c,rfl,⟨hn,by rcases ho with ⟨_,_,x⟩ | x; exact .inr x; exact .inl x⟩,rest,LJ h.get0.1⟩
theorem aX (xs rest:List Value) (a z:Nat) (h:a+z≤xs.length):((xs++rest).drop a).take z=(xs.drop a).take z:=by
 rw [List.drop_append_of_le_length (by omega),List.take_append_of_le_length (by simp; omega)]
theorem H.own_elem {l:List AJ} {σ:AHeap} (h:H l σ) (i:Nat) {e z n:Nat} {v:Value} {xs:List Value} (hi:l[i]?=some (A5 e z v n xs)) {k:Nat} (hk:k<n) :
 ∃ b,(∀ kd,AG z v (.int kd k)=some (.pointer (some ⟨b,k*z,none⟩)))∧AD true z (.pointer (some ⟨b,k*z,none⟩)) σ=some (.agg ((xs.drop (k*z)).take z).toArray) ∧
   ∀ m j,j<z→AD false m (.pointer (some ⟨b,k*z+j,none⟩)) σ=xs[k*z+j]?:=by
 obtain ⟨b,c,rfl,hc,rest,hrow⟩:=h.own_form i hi (by omega)
 have hx:=(h.own_src i hi).2.1
 have hkz:k*z+z≤n*z:=by rw [← Nat.succ_mul]; exact Nat.mul_le_mul_right _ hk
 refine ⟨b,fun kd=>?_,?_,fun m j hj=>?_⟩
 ·rw [TG (by omega)]; simp
 ·rw [WG hrow (by simp; omega),aX _ _ _ _ (by omega)]
 ·rw [BK hrow,List.getElem?_append_left (by omega)]
theorem PL (xs rest ys:List Value) (o:Nat) (h:o+ys.length≤xs.length):splice (xs++rest) o ys=splice xs o ys++rest:=by
 unfold splice
 rw [List.take_append_of_le_length (by omega),List.drop_append_of_le_length (by omega)]
 simp
theorem m5 {l:List AJ} {σ:AHeap} (h:H l σ) (i:Nat) {e z n b o c dl dc xl xc m:Nat} {xb:Option Addr} {xs ys:List Value} {k:Value×AHeap→Prop} (hi:l[i]?=some (A5 e z (.slice (some ⟨b,0,none⟩) n c) n xs)) (hn:0<n)
 (hs:DC z (.slice xb (Nat.min xl dl) xc) σ=some (m,ys)) (hone:ys.all one=true) (hl:o+ys.length≤xs.length)
 (hk:∀ σ',H (l.set i (A5 e z (.slice (some ⟨b,0,none⟩) n c) n (splice xs o ys))) σ'→k (.int .i64 m,σ')):pu (KJ z (.slice (some ⟨b,o,none⟩) dl dc) (.slice xb xl xc) σ) k:=by
 rcases EX.1 (h.front i hi) with ⟨⟨rfl,rfl,_⟩,h⟩ | ⟨b',c',opn,rest,h1,hx,hr,hv,hn,ho⟩
 ·omega
 ·cases hv
  obtain ⟨σ',hp,h3⟩:=ZV (o:=o) h1 hone (by simp; omega)
  have he:KJ z (.slice (some ⟨b,o,none⟩) dl dc) (.slice xb xl xc) σ=some (.int .i64 m,σ'):=by
   simp only [KJ,hs,Option.bind_some,hp,Option.map_some]
  rw [he,A4]
  rw [PL _ _ _ _ hl] at h3
  exact hk _ (H.back i hi (EX.2 (.inr ⟨b,c,opn,rest,h3,by rw [IP _ _ _ hl]; exact hx,hr,rfl,hn,ho⟩)))
theorem NN {l:List AJ} {σ:AHeap} (h:H l σ) (i:Nat) {e z n b o c:Nat} {w:Value} {xs:List Value} {k:AHeap→Prop} (hi:l[i]?=some (A5 e z (.slice (some ⟨b,0,none⟩) n c) n xs)) (hn:0<n) (hw:one w=true) (ho:o<xs.length)
 (hk:∀ σ',H (l.set i (A5 e z (.slice (some ⟨b,0,none⟩) n c) n (xs.set o w))) σ'→k σ'):pu (AN 1 (.pointer (some ⟨b,o,none⟩)) w σ) k:=by
 rcases EX.1 (h.front i hi) with ⟨⟨rfl,rfl,_⟩,h⟩ | ⟨b',c',opn,rest,h1,hx,hr,hv,hn,ho2⟩
 ·omega
 ·cases hv
  refine E9 h1 0 rfl hw (by simp; omega) ?_
  intro σ' h3
  simp only [List.set_cons_zero] at h3
  rw [List.set_append_left _ _ ho] at h3
  exact hk _ (H.back i hi (EX.2 (.inr ⟨b,c,opn,rest,h3,by simpa using hx,hr,rfl,hn,ho2⟩)))
def gO (v:Value) (x:List UInt8):AJ:=ex fun p:Nat×Nat×Nat×List Value×Nat×Bool =>
 sep (IU (v=.slice (some ⟨p.1,p.2.1,none⟩) x.length p.2.2.1∧GP 1 x.length p.2.2.1∧(p.2.2.2.1.drop p.2.1).take x.length=bv x∧p.2.1+x.length≤p.2.2.2.1.length)) (ro p.1 (.cells p.2.2.2.1 p.2.2.2.2.1 p.2.2.2.2.2))
theorem H.rob0 {v:Value} {x:List UInt8} {l:List AJ} {σ:AHeap} (h:H (gO v x::l) σ) :
 ∃ b o cap c,v=.slice (some ⟨b,o,none⟩) x.length cap∧GP 1 x.length cap∧σ.row b=some c∧(c.drop o).take x.length=bv x∧o+x.length≤c.length:=by
 obtain ⟨p,h⟩:=KN.1 h
 rw [BE] at h
 obtain ⟨⟨h1,h2,h3,h4⟩,h⟩:=BZ.1 h
 exact ⟨_,_,_,_,h1,h2,LJ h.rget0.1,h3,h4⟩
theorem sY {σ:AHeap} {b o cap n:Nat} {c:List Value} {x:List UInt8} (hr:σ.row b=some c) (hx:(c.drop o).take x.length=bv x) (hl:o+x.length≤c.length) (hn:n≤x.length) :
 DC 1 (.slice (some ⟨b,o,none⟩) n cap) σ=some (n,bv (x.take n)):=by
 rw [E3 hr (by omega),Nat.mul_one,← lS,← hx,List.take_take,Nat.min_eq_left hn]
theorem H.rob {l:List AJ} {σ:AHeap} (h:H l σ) (i:Nat) {v:Value} {x:List UInt8} (hi:l[i]?=some (gO v x)) :
 ∃ b o cap c,v=.slice (some ⟨b,o,none⟩) x.length cap∧GP 1 x.length cap∧σ.row b=some c∧(c.drop o).take x.length=bv x∧o+x.length≤c.length:=(h.front i hi).rob0
theorem ADX {l:List AJ} {σ:AHeap}:H [AW l] σ↔H l σ:=by rw [BC,List.append_nil]
theorem y7 {l m:List AJ} {σ:AHeap}:H (l++m) σ↔H (AW l::m) σ:=BC.symm
theorem H.out {l:List AJ} {σ:AHeap} {A:AJ} (h:H l σ) (i:Nat) (hi:l[i]?=some A):H [A,AW (l.set i emp)] σ:=by
 have:=h.front i hi
 exact (BC.2 (by simpa using this:H ([A]++l.set i emp) σ):H (AW [A]::l.set i emp) σ) |> fun _=>by
  have h2:H (A::l.set i emp) σ:=this
  obtain ⟨r,h3,a,b,j,x,y⟩:=h2
  exact ⟨r,h3,a,b,j,x,by simp only [AW]; rw [NX,LS]; exact y⟩
theorem H.in' {l:List AJ} {σ:AHeap} {A B:AJ} (i:Nat) (hi:l[i]?=some A) (h:H [B,AW (l.set i emp)] σ):H (l.set i B) σ:=by
 refine H.back i hi ?_
 obtain ⟨r,h3,a,b,j,x,y⟩:=h
 refine ⟨r,h3,a,b,j,x,?_⟩
 simp only [AW] at y
 rw [NX,LS] at y
 exact y
theorem H.to_own {l:List AJ} {σ:AHeap} (h:H l σ) (i:Nat) {b e z n:Nat} {xs:List Value} {opn:Bool} (hi:l[i]?=some (pt b (.cells xs e opn))) (hx:xs.length=n*z) (hn:n<AX) :
 H (l.set i (A5 e z (.slice (some ⟨b,0,none⟩) n n) n xs)) σ:=by
 refine H.back i hi (EX.2 (.inr ⟨b,n,opn,[],by simpa using h.front i hi,hx,?_,rfl,?_,.inr hn⟩))
 ·rw [CI hn]; simp
 ·rw [CI hn]; exact Nat.le_refl _
theorem H.emp_end {l:List AJ} {σ:AHeap} (h:H l σ):H (l++[emp]) σ:=H.snoc (yY.2 h)
structure Rd (σ:AHeap) (v:Value) (x:List UInt8):Prop where
 src:DC 1 v σ=some (x.length,bv x)
 form:∃ a c,v=.slice a x.length c
 elem:∀ (k:Nat) (b:UInt8),x[k]?=some b→∃ p,(∀ kd,AG 1 v (.int kd k)=some (.pointer (some p)))∧AD false 1 (.pointer (some p)) σ=some (yD b)
theorem Rd.nil (σ:AHeap) (c:Nat):Rd σ (.slice none 0 c) []:=⟨rfl,⟨none,c,rfl⟩,fun k b h=>by simp at h⟩
theorem wD {σ:AHeap} {b o cap:Nat} {c:List Value} {x:List UInt8} (hr:σ.row b=some c) (hx:(c.drop o).take x.length=bv x) (hl:o+x.length≤c.length):Rd σ (.slice (some ⟨b,o,none⟩) x.length cap) x:=by
 refine ⟨?_,⟨_,_,rfl⟩,fun k y hk=>?_⟩
 ·rw [sY hr hx hl (Nat.le_refl _),List.take_length]
 ·have hlt:=(List.getElem?_eq_some_iff.1 hk).1
  refine ⟨⟨b,o+k,none⟩,fun kd=>by rw [TG (by omega)]; simp,?_⟩
  rw [BK hr]
  have:((c.drop o).take x.length)[k]?=(bv x)[k]?:=by rw [hx]
  rw [List.getElem?_take,if_pos hlt,List.getElem?_drop,ACX,hk] at this
  exact this
theorem H.rob_rd {l:List AJ} {σ:AHeap} (h:H l σ) (i:Nat) {v:Value} {x:List UInt8} (hi:l[i]?=some (gO v x)):Rd σ v x:=by
 obtain ⟨b,o,cap,c,rfl,hc,hr,hx,hl⟩:=h.rob i hi
 exact wD hr hx hl
theorem H.beside {l m:List AJ} {σ:AHeap} (h:H l σ) (i:Nat) (hi:l[i]?=some (AW m)):H m σ:=by
 have:=h.front i hi
 rw [BC] at this
 exact this.left
theorem kL {l:List AJ} {σ:AHeap} {b o cap:Nat} {x:List UInt8} {c:List Value} {e:Nat} {opn:Bool} (hcap:GP 1 x.length cap) (hx:(c.drop o).take x.length=bv x) (hl:o+x.length≤c.length) (h:H (ro b (.cells c e opn)::l) σ) :
 H (gO (.slice (some ⟨b,o,none⟩) x.length cap) x::l) σ:=KN.2 ⟨(b,o,cap,c,e,opn),by rw [BE]; exact BZ.2 ⟨⟨rfl,hcap,hx,hl⟩,h⟩⟩
end Go.Ax
namespace Go.Ax
open Go.RowKit Go.Deep
theorem B7.pushRo {B:Nat} {w0:World} {ρ:List RB} {σ:AHeap} {w:World} (h:B7 B w0 ρ σ w) {b off:Nat} {c:List Value} {c':Array Value} {e:TypeId} {fz:Nat×Nat} (hb:w.heap[b]?=some (.cells c' e fz)) (hB:b<B) (ho:off+c.length≤c'.size)
 (hl:LR ρ c ((c'.toList.drop off).take c.length)) :
 B7 B w0 (ρ++[⟨b,off,c'.size⟩]) (σ.push (.ro c e)) w∧D5 ρ (ρ++[⟨b,off,c'.size⟩])∧(ρ++[(⟨b,off,c'.size⟩:RB)])[σ.size]?=some ⟨b,off,c'.size⟩:=by
 have hext:=D5.append ρ [⟨b,off,c'.size⟩]
 have hnew:(ρ++[(⟨b,off,c'.size⟩:RB)])[σ.size]?=some ⟨b,off,c'.size⟩:=by rw [← h.len]; simp
 have old:∀ {a:Nat} {q:CX} {r:RB},σ.get a=some q→(ρ++[(⟨b,off,c'.size⟩:RB)])[a]?=some r→ρ[a]?=some r:=by
  intro a q r y z
  obtain ⟨r0,y',_⟩:=h.obj a q y
  rw [hext _ _ y'] at z; cases z; exact y'
 refine ⟨⟨by simp [h.len],fun i q hi=>?_,fun i j oi oj ri rj hi hj wi wj ri' rj' e=>?_,h.below,h.base⟩,hext,hnew⟩
 ·rw [AHeap.get_push] at hi
  split at hi
  ·rename_i e1; subst e1; cases hi
   exact ⟨_,hnew,⟨c',fz,hb,rfl,ho,hl.mono hext⟩,(fun x=>by cases x),fun _ _=>hB⟩
  ·obtain ⟨r,x1,x2,x3,x4⟩:=h.obj i q hi
   exact ⟨r,hext _ _ x1,x2.mono hext rfl,x3,x4⟩
 ·rw [AHeap.get_push] at hi hj
  split at hi
  ·cases hi; cases wi
  ·split at hj
   ·cases hj; cases wj
   ·exact h.inj i j oi oj ri rj hi hj wi wj (old hi ri') (old hj rj') e
theorem H.pushRo {l:List AJ} {σ:AHeap} (h:H l σ) (o:CX):H (ro σ.size o::l) (σ.push o):=(h.push o).unsnoc.freeze0
def tT {M:Type} (A:List Value→M→AJ):List (List Value)→List M→AJ
 | c::cs,m::ms=>sep (A c m) (tT A cs ms)
 | _,_=>emp
theorem tT.snoc {M:Type} {A:List Value→M→AJ}:∀ (cs:List (List Value)) (ms:List M) (c:List Value) (m:M),cs.length=ms.length→tT A (cs++[c]) (ms++[m])=sep (A c m) (tT A cs ms)
 | [],[],c,m,_=>rfl
 | [],_::_,c,m,h=>by simp at h
 | _::_,[],c,m,h=>by simp at h
 | x::cs,y::ms,c,m,h=>by
   simp only [List.cons_append,tT,tT.snoc cs ms c m (by simpa using h)]
   rw [← D7,NX (A x y),D7]
def gL {M:Type} (z by':Nat) (A:List Value→M→AJ) (v:Value) (L:List M):AJ:=fun r =>
 (r=PK.emp∧L=[]∧(v=.slice none 0 0∨v=.slice (some ⟨ZB,0,some 0⟩) 0 0)) ∨
 (∃ (id cap e:Nat) (css:List (List Value)),sep (ro id (.ro css.flatten e)) (tT A css L) r∧v=.slice (some ⟨id,0,none⟩) L.length cap∧L.length≤cap∧cap<AX∧css.length=L.length∧(∀ c∈css,c.length=z)∧L.length*by'≤reachBytes)
theorem Z5 {M:Type} {z by':Nat} {A:List Value→M→AJ} {v:Value} {L:List M} {l:List AJ} {σ:AHeap}:H (gL z by' A v L::l) σ ↔
 ((L=[]∧(v=.slice none 0 0∨v=.slice (some ⟨ZB,0,some 0⟩) 0 0))∧H l σ) ∨
 (∃ (id cap e:Nat) (css:List (List Value)),H (ro id (.ro css.flatten e)::tT A css L::l) σ∧v=.slice (some ⟨id,0,none⟩) L.length cap∧L.length≤cap∧cap<AX∧css.length=L.length∧(∀ c∈css,c.length=z)∧L.length*by'≤reachBytes):=by
 constructor
 ·rintro ⟨r,h,a,k,j,x | ⟨id,cap,e,css,x,y⟩,hk⟩
  ·obtain ⟨rfl,x⟩:=x
   exact .inl ⟨x,r,h,by rw [j.emp_eq]; exact hk⟩
  ·exact .inr ⟨id,cap,e,css,by rw [← BE]; exact ⟨r,h,a,k,j,x,hk⟩,y⟩
 ·rintro (⟨x,r,h,hk⟩ | ⟨id,cap,e,css,hh,y⟩)
  ·exact ⟨r,h,_,r,PK.Join.emp_left r,.inl ⟨rfl,x⟩,hk⟩
  ·rw [← BE] at hh
   obtain ⟨r,h,a,k,j,x,hk⟩:=hh
   exact ⟨r,h,a,k,j,.inr ⟨id,cap,e,css,x,y⟩,hk⟩
theorem Y0 {z:Nat}:∀ {css:List (List Value)} {k:Nat} {c:List Value},(∀ c∈css,c.length=z)→css[k]?=some c→(css.flatten.drop (k*z)).take z=c
 | [],k,c,_,h=>by simp at h
 | x::css,0,c,h,hk=>by
   simp at hk; subst hk
   simp [h x (by simp)]
 | x::css,k+1,c,h,hk=>by
   simp at hk
   have hx:=h x (by simp)
   rw [List.flatten_cons,show (k+1)*z=x.length+k*z by rw [hx,Nat.succ_mul]; omega,List.drop_append,List.drop_of_length_le (by omega),List.nil_append]
   have:x.length+k*z - x.length=k*z:=by omega
   rw [this]
   exact Y0 (fun c hc=>h c (by simp [hc])) hk
theorem O5 {z:Nat}:∀ {css:List (List Value)},(∀ c∈css,c.length=z)→css.flatten.length=css.length*z
 | [],_=>by simp
 | x::css,h=>by
   rw [List.flatten_cons,List.length_append,h x (by simp),O5 fun c hc=>h c (by simp [hc]),List.length_cons,Nat.succ_mul]; omega
section
variable (P:Program)
def L8 (t:TypeId) {M:Type} (A:List Value→M→AJ):Prop :=
 ∀ ⦃H':Type⦄ ⦃enc:TypeId×Value→H'⦄ ⦃W:World⦄ ⦃base:Nat⦄ ⦃held:Bool⦄ ⦃n:Nat⦄ ⦃cs:List Value⦄ ⦃x:DataW H'×List MemPlace⦄ ⦃ρ:List RB⦄ ⦃σ:AHeap⦄,B7 W.heap.size W ρ σ W →
   DataW.trod enc P W base (fun _=>true) held n t cs=some x→(∀ w∈x.1.weights P t,w≤reachBytes) →
   ∃ ρ' σ' cs' m,D5 ρ ρ'∧B7 W.heap.size W ρ' σ' W∧LR ρ' cs' cs∧cs'.length=P.cellsOf t∧∀ l,H l σ→H (A cs' m::l) σ'
variable {P}
theorem L8.int {t:TypeId} {k:IntKind} (ht:P.underlying t=some (.int k)) (hc:P.cellsOf t=1):L8 P t (M:=Int) fun cs n=>IU (cs=[.int k n]∧(Lit.int k n).wf=true):=by
 intro H' enc W base held n cs x ρ σ hr h _
 obtain ⟨m,rfl,rfl,hw⟩:=DataW.trod_int ht h
 exact ⟨ρ,σ,[.int k m],m,D5.refl _,hr,LR.cons (.int _ _) (LR.nil _),by simp [hc],fun l hl=>BZ.2 ⟨⟨rfl,hw⟩,hl⟩⟩
theorem L8.slice {t e:TypeId} {M:Type} {A:List Value→M→AJ} (ht:P.underlying t=some (.slice e)) (hc:P.cellsOf t=1) (hz:0<P.cellsOf e) (hE:L8 P e A) :
 L8 P t (M:=List M) fun cs L=>ex fun v=>sep (IU (cs=[v])) (gL (P.cellsOf e) (P.bytesOf e) A v L):=by
 intro H' enc W base held fuel cs x ρ σ hr h hw
 rcases open_slice ht h with ⟨rfl,rfl⟩ | ⟨a,len,cap,m,n,D,Pl,rfl,hb,hl,hm,hmm,rfl,hx⟩
 ·refine ⟨ρ,σ,[.slice none 0 0],[],D5.refl _,hr,LR.cons (.nilslice _ _ (by unfold AX; omega)) (LR.nil _),by simp [hc],fun l hl=>KN.2 ⟨.slice none 0 0,?_⟩⟩
  rw [BE]
  exact BZ.2 ⟨rfl,Z5.2 (.inl ⟨⟨rfl,.inl rfl⟩,hl⟩)⟩
 ·simp only [if_true] at hmm
  subst hmm
  rcases Nat.eq_zero_or_pos m with rfl | hpos
  ·have hl0:len=0:=by omega
   subst hl0
   refine ⟨ρ,σ,[.slice (some ⟨ZB,0,some 0⟩) 0 0],[],D5.refl _,hr,LR.cons (.zslice _ _) (LR.nil _),by simp [hc],fun l hl=>KN.2 ⟨.slice (some ⟨ZB,0,some 0⟩) 0 0,?_⟩⟩
   rw [BE]
   exact BZ.2 ⟨rfl,Z5.2 (.inl ⟨⟨rfl,.inr rfl⟩,hl⟩)⟩
  ·-- the block
   obtain ⟨cs0,hcells0,_⟩:=hx 0 hpos
   obtain ⟨_,hlen0,hcell0⟩:=World.cells?_some hcells0
   have hc00:=hcell0 0 hz
   have hsome:∃ c' e' fz,W.heap[a.block]?=some (.cells c' e' fz)∧a.spot=none:=by
    have h1:W.cell? a=cs0[0]?:=by simpa [Addr.add] using hc00
    have h2:cs0[0]?=some (cs0[0]'(by omega)):=by simp
    rw [h2] at h1
    unfold World.cell? at h1
    split at h1
    ·rename_i c' e' fz hh
     split at h1
     ·cases h1
     ·rename_i hs
      exact ⟨c',e',fz,hh,by simpa using hs⟩
    ·cases h1
   obtain ⟨c',e',fz,hblk,hsp⟩:=hsome
   have hBlk:a.block<W.heap.size:=(Array.getElem?_eq_some_iff.1 hblk).1
   -- the elements,one by one
   have key:∀ j,j≤len→∃ (ρ':List RB) (σ':AHeap) (css:List (List Value)) (L:List M),D5 ρ ρ'∧B7 W.heap.size W ρ' σ' W∧css.length=j∧L.length=j∧(∀ c∈css,c.length=P.cellsOf e) ∧
    LR ρ' css.flatten ((c'.toList.drop a.off).take (j*P.cellsOf e))∧(a.off+j*P.cellsOf e≤c'.size∨j=0)∧∀ l,H l σ→H (tT A css L::l) σ':=by
    intro j
    induction j with
    | zero=>intro _; exact ⟨ρ,σ,[],[],D5.refl _,hr,rfl,rfl,by simp,by simpa using LR.nil _,.inr rfl,fun l hl=>yY.2 hl⟩
    | succ j ih =>
      intro hj
      obtain ⟨ρ1,σ1,css,L,x1,x2,x3,x4,x5,x6,x7,x8⟩:=ih (by omega)
      obtain ⟨cs',hcells,htrod⟩:=hx j (by omega)
      obtain ⟨_,hlen,hcell⟩:=World.cells?_some hcells
      obtain ⟨ρ2,σ2,cs2,m2,y1,y2,y3,y4,y5⟩:=hE x2 htrod (by
       intro w hwm
       refine hw w ?_
       unfold DataW.weights
       rw [ht]
       simp only [List.mem_cons,List.mem_append]
       right; left
       have hmem:∀ (l:List (DataW H')) (d:DataW H'),d∈l→∀ w∈d.weights P e,w∈DataW.weightsAll P e l:=by
        intro l d hd w hw
        induction l with
        | nil=>simp at hd
        | cons z l ih =>
          unfold DataW.weightsAll
          rcases List.mem_cons.1 hd with rfl | hd
          ·exact List.mem_append_left _ hw
          ·exact List.mem_append_right _ (ih hd)
       exact hmem _ (D j) (List.mem_map.2 ⟨j,List.mem_range.2 (by omega),rfl⟩) w hwm)
      -- the cells as they stand in the block
      have hcs:∀ i,i<P.cellsOf e→c'[a.off+j*P.cellsOf e+i]?=cs'[i]?:=by
       intro i hi
       have:=hcell i hi
       rw [show (a.add (j*P.cellsOf e)).add i=⟨a.block,a.off+j*P.cellsOf e+i,none⟩ by
        rw [show a=⟨a.block,a.off,none⟩ by cases a; simp at hsp; simp [hsp],EP,EP]] at this
       simpa [World.cell?,hblk] using this
      have hfit:a.off+(j+1)*P.cellsOf e≤c'.size:=by
       have h1:=hcs (P.cellsOf e - 1) (by omega)
       have h2:cs'[P.cellsOf e - 1]?≠none:=by simp; omega
       rw [← h1] at h2
       have h3:a.off+j*P.cellsOf e+(P.cellsOf e - 1)<c'.size:=by
        rcases Nat.lt_or_ge (a.off+j*P.cellsOf e+(P.cellsOf e - 1)) c'.size with q | q
        ·exact q
        ·exact absurd (Array.getElem?_eq_none q) h2
       rw [Nat.succ_mul]; omega
      refine ⟨ρ2,σ2,css++[cs2],L++[m2],x1.trans y1,y2,by simp [x3],by simp [x4],?_,?_,.inl hfit,?_⟩
      ·intro c hcm
       rcases List.mem_append.1 hcm with q | q
       ·exact x5 c q
       ·simp at q; subst q; exact y4
      ·have hsplit:(c'.toList.drop a.off).take ((j+1)*P.cellsOf e)=(c'.toList.drop a.off).take (j*P.cellsOf e)++cs':=by
        rw [Nat.succ_mul,List.take_add]
        congr 1
        rw [List.drop_drop]
        apply List.ext_getElem?
        intro i
        rw [List.getElem?_take]
        split
        ·rename_i hi
         rw [List.getElem?_drop]
         have:=hcs i hi
         simpa using this
        ·rename_i hi
         exact (List.getElem?_eq_none (by omega)).symm
       rw [hsplit,List.flatten_append]
       exact (x6.mono y1).append (by simpa using y3)
      ·intro l hl
       rw [tT.snoc _ _ _ _ (by omega),BE]
       exact y5 _ (x8 l hl)
   obtain ⟨ρ1,σ1,css,L,x1,x2,x3,x4,x5,x6,x7,x8⟩:=key len (Nat.le_refl _)
   have hfl:=O5 x5
   have hfit:a.off+css.flatten.length≤c'.size:=by
    rw [hfl,x3]
    rcases x7 with q | q
    ·exact q
    ·subst q
     have h1:c'[a.off]?≠none:=by
      have h1:W.cell? a=cs0[0]?:=by simpa [Addr.add] using hc00
      have h2:cs0[0]?=some (cs0[0]'(by omega)):=by simp
      rw [h2] at h1
      simp [World.cell?,hblk,hsp] at h1
      rw [h1]; simp
     have h3:a.off<c'.size:=by
      rcases Nat.lt_or_ge a.off c'.size with q | q
      ·exact q
      ·exact absurd (Array.getElem?_eq_none q) h1
     omega
   obtain ⟨z1,z2,z3⟩:=x2.pushRo hblk hBlk hfit (by rw [hfl,x3]; exact x6)
   refine ⟨_,_,[.slice (some ⟨σ1.size,0,none⟩) len m],L,x1.trans z2,z1,?_,by simp [hc],fun l hl=>KN.2 ⟨.slice (some ⟨σ1.size,0,none⟩) len m,?_⟩⟩
   ·refine LR.cons ?_ (LR.nil _)
    have hcap:m<AX:=by unfold AX; unfold maxLen at hm; omega
    have:=VR.slice σ1.size 0 len m m _ z3 (by unfold X2; rw [if_pos hcap])
    have ha:a=⟨a.block,a.off,none⟩:=by cases a; simp at hsp; simp [hsp]
    rw [ha]
    simpa using this
   ·rw [BE]
    refine BZ.2 ⟨rfl,Z5.2 (.inr ⟨σ1.size,m,e',css,(x8 l hl).pushRo _,by rw [x4],by omega,by unfold AX; unfold maxLen at hm; omega,by omega,x5,?_⟩)⟩
    rw [x4]
    have hwm:=hw ((len+(m - len))*P.bytesOf e) (by
     unfold DataW.weights
     rw [ht]
     simp)
    have:len*P.bytesOf e≤(len+(m - len))*P.bytesOf e:=Nat.mul_le_mul_right _ (by omega)
    omega
theorem L8.imp {P:Program} {t:TypeId} {M N:Type} {A:List Value→M→AJ} {B:List Value→N→AJ} (g:M→N) (h:L8 P t A) (hi:∀ cs m l σ,H (A cs m::l) σ→H (B cs (g m)::l) σ):L8 P t B:=by
 intro H' enc W base held n cs x ρ σ hr h1 h2
 obtain ⟨ρ1,σ1,c1,m1,x1,x2,x3,x4,x5⟩:=h hr h1 h2
 exact ⟨ρ1,σ1,c1,g m1,x1,x2,x3,x4,fun l hl=>hi _ _ _ _ (x5 l hl)⟩
theorem B7.start (W:World):B7 W.heap.size W [] ⟨0,.leaf⟩ W:=B7.empty W
theorem WN {P:Program} {H':Type} {enc:TypeId×Value→H'} {W W':World} (hl:laidOutB P=true) (hm:mapsRowed P=true) (hz:((List.range P.types.size).all fun t=>match P.underlying t with | some (.slice e)=>decide (0<P.cellsOf e) | _=>true)=true)
 (hb:Below W.heap.size W W') {sp:Nat→Bool}:∀ {ts:List TypeId} {vs:List Value} {ds:List (DataW H')} {ps:List MemPlace},(∀ t∈ts,t<P.types.size)→DataW.TrodAll enc P W 0 (fun _=>true) true ts vs ds ps→(∀ p∈ps,sp p.block=true) →
 DataW.TrodAll enc P W' 0 sp true ts vs ds ps
 | [],[],[],ps,_,h,_=>h
 | t::ts,v::vs,d::ds,ps,ht,⟨p,q,⟨n,h1⟩,h2,e⟩,hs=>by
   refine ⟨p,q,⟨n,?_⟩,WN hl hm hz hb (fun u hu=>ht u (List.mem_cons_of_mem _ hu)) h2 (fun x hx=>hs x (by rw [e]; exact List.mem_append_right _ hx)),e⟩
   exact DataW.trod_stays (kids_rows hl hm) (fun ht hu=>slices_full_of P hz _ _ ht hu) (fun h=>by cases h) (ht t (List.mem_cons_self)) h1
    (fun x hx=>hb.same (DataW.trod_lt n t _ _ h1 x hx)) (fun x hx=>hs x (by rw [e]; exact List.mem_append_left _ hx))
end
end Go.Ax
namespace Go.Ax
open Go.RowKit
def hl (l:List (Nat×QY)) (k:Nat):Option QY:=l.lookup k
def il:Nat→Nat→List (Nat×List Nat)
 | _,0=>[]
 | a,n+1=>(a,[])::il (a+1) n
def L (b o:Nat) (σ:AHeap):Option Value:=AD false 1 (.pointer (some ⟨b,o,none⟩)) σ
def A3 (k:IntKind) (o:Option Value) (K:Int→Prop):Prop:=om o (tI k K)
def DJ (o:Option Value) (K:Bool→Prop):Prop:=om o (tB K)
def If (c:Bool) (A B:Prop):Prop :=
 match c with
 | true=>A
 | false=>B
def Bi (e:Int) (K:Int→Prop):Prop:=K e
def On (v:Value) (p:Prop):Prop:=cond v.oneCell' p False
def F3 (n:Int):Int:=IntKind.i64.wrap n
def VN (n:Int):Int:=IntKind.u64.wrap n
def Y3 (n:Int):Int:=IntKind.u32.wrap n
def wu8 (n:Int):Int:=IntKind.u8.wrap n
def St (b o:Nat) (v:Value) (σ:AHeap) (K:AHeap→Prop):Prop:=pu (AN 1 (.pointer (some ⟨b,o,none⟩)) v σ) K
def pQ (Q:RK):WK:=fun v σ=>Q (.pan v) σ
def cI (Q:RK) (k:IntKind) (K:Int→AHeap→Prop):RK:=RP (fun v σ=>tI k (fun n=>K n σ) v) (pQ Q)
def cB (Q:RK) (K:Bool→AHeap→Prop):RK:=RP (fun v σ=>tB (fun n=>K n σ) v) (pQ Q)
def cV (Q:RK) (K:WK):RK:=RP K (pQ Q)
def c0 (Q:RK) (K:AHeap→Prop):RK:=RP (r0 K) (pQ Q)
def c2 (Q:RK) (K:Value→Value→AHeap→Prop):RK:=RP (r2 K) (pQ Q)
def c3 (Q:RK) (K:Value→Value→Value→AHeap→Prop):RK:=RP (r3 K) (pQ Q)
def c4 (Q:RK) (K:Value→Value→Value→Value→AHeap→Prop):RK:=RP (r4 K) (pQ Q)
section
variable {Q:RK} {σ:AHeap}
@[simp] theorem A6 (k:IntKind) (K:Int→AHeap→Prop) (n:Int):cI Q k K (.ret (.int k n)) σ=K n σ:=by simp [cI,RP,tI]
@[simp] theorem AE5 (k:IntKind) (K:Int→AHeap→Prop) (v:Value):cI Q k K (.pan v) σ=Q (.pan v) σ:=rfl
@[simp] theorem E8 (K:Bool→AHeap→Prop) (n:Bool):cB Q K (.ret (.bool n)) σ=K n σ:=rfl
@[simp] theorem AE0 (K:Bool→AHeap→Prop) (v:Value):cB Q K (.pan v) σ=Q (.pan v) σ:=rfl
@[simp] theorem B4 (K:WK) (v:Value):cV Q K (.ret v) σ=K v σ:=rfl
@[simp] theorem yM (K:WK) (v:Value):cV Q K (.pan v) σ=Q (.pan v) σ:=rfl
@[simp] theorem B5 (K:AHeap→Prop):c0 Q K (.ret (.tuple #[])) σ=K σ:=rfl
@[simp] theorem EE (K:AHeap→Prop) (v:Value):c0 Q K (.pan v) σ=Q (.pan v) σ:=rfl
@[simp] theorem BQ (K:Value→Value→AHeap→Prop) (a b:Value):c2 Q K (.ret (.tuple #[a,b])) σ=K a b σ:=rfl
@[simp] theorem AEh (K:Value→Value→AHeap→Prop) (v:Value):c2 Q K (.pan v) σ=Q (.pan v) σ:=rfl
@[simp] theorem PW (K:Value→Value→Value→AHeap→Prop) (a b c:Value):c3 Q K (.ret (.tuple #[a,b,c])) σ=K a b c σ:=rfl
@[simp] theorem AEw (K:Value→Value→Value→AHeap→Prop) (v:Value):c3 Q K (.pan v) σ=Q (.pan v) σ:=rfl
@[simp] theorem kN (K:Value→Value→Value→Value→AHeap→Prop) (a b c d:Value):c4 Q K (.ret (.tuple #[a,b,c,d])) σ=K a b c d σ:=rfl
@[simp] theorem AEm (K:Value→Value→Value→Value→AHeap→Prop) (v:Value):c4 Q K (.pan v) σ=Q (.pan v) σ:=rfl
@[simp] theorem AF (v:Value) (K:Value→Prop):om (some v) K=K v:=rfl
@[simp] theorem AH (k:IntKind) (n:Int) (K:Int→Prop):A3 k (some (.int k n)) K=K n:=by simp [A3,tI]
@[simp] theorem BY (b:Bool) (K:Bool→Prop):DJ (some (.bool b)) K=K b:=rfl
@[simp] theorem AP (k:IntKind) (n:Int) (K:Int→Prop):tI k K (.int k n)=K n:=by simp [tI]
@[simp] theorem EL (b:Bool) (K:Bool→Prop):tB K (.bool b)=K b:=rfl
@[simp] theorem ACz (s:ByteArray) (K:ByteArray→Prop):tS K (.string s)=K s:=rfl
@[simp] theorem AD2 (a b:Value):qW (.tuple #[a,b]) 0=some a:=rfl
@[simp] theorem ADF (a b:Value):qW (.tuple #[a,b]) 1=some b:=rfl
@[simp] theorem AEL (A B:Prop):If true A B=A:=rfl
@[simp] theorem ADc (A B:Prop):If false A B=B:=rfl
@[congr] theorem ADz {c d:Bool} {A B:Prop} (h:c=d):If c A B=If d A B:=by rw [h]
@[congr] theorem AED {o p:Option Value} {K:Value→Prop} (h:o=p):om o K=om p K:=by rw [h]
@[congr] theorem AC4 {k:IntKind} {o p:Option Value} {K:Int→Prop} (h:o=p):A3 k o K=A3 k p K:=by rw [h]
@[congr] theorem ACv {o p:Option Value} {K:Bool→Prop} (h:o=p):DJ o K=DJ p K:=by rw [h]
@[congr] theorem ADm {e d:Int} {K:Int→Prop} (h:e=d):Bi e K=Bi d K:=by rw [h]
@[congr] theorem ADl {k:IntKind} {v u:Value} {K:Int→Prop} (h:v=u):tI k K v=tI k K u:=by rw [h]
@[congr] theorem ADo {v u:Value} {K:Bool→Prop} (h:v=u):tB K v=tB K u:=by rw [h]
@[congr] theorem AEG {v u:Value} {p:Prop} (h:v=u):On v p=On u p:=by rw [h]
@[congr] theorem AD3 {b o:Nat} {v u:Value} {σ:AHeap} {K:AHeap→Prop} (h:v=u):St b o v σ K=St b o u σ K:=by rw [h]
theorem FA {v:Value} {p:Prop} (h:one v=true) (k:p):On v p:=by
 have h:v.oneCell'=true:=h
 unfold On; rw [h]; exact k
theorem AT {p:Prop} [Decidable p] {A B:Prop} (h1:p→A) (h2:¬ p→B):If (decide p) A B:=by
 by_cases h:p
 ·rw [decide_eq_true h]; exact h1 h
 ·rw [decide_eq_false h]; exact h2 h
theorem CY {p:Prop} [Decidable p] {A B:Prop} (h1:¬ p→A) (h2:p→B):If (!decide p) A B:=by
 by_cases h:p
 ·rw [decide_eq_true h]; exact h2 h
 ·rw [decide_eq_false h]; exact h1 h
theorem iK {c:Bool} {A B:Prop} (h1:c=true→A) (h2:c=false→B):If c A B:=by cases c; exact h2 rfl; exact h1 rfl
theorem IM {c:Bool} {A B:Prop} (h:c=true) (k:A):If c A B:=by rw [h]; exact k
theorem C8 {c:Bool} {A B:Prop} (h:c=false) (k:B):If c A B:=by rw [h]; exact k
theorem bi {e m:Int} {K:Int→Prop} (h:e=m) (k:K m):Bi e K:=by rw [h]; exact k
theorem qR {n:Int} (h : -9223372036854775808≤n∧n<9223372036854775808):F3 n=n:=wrap_i64 h
theorem AAs {n:Int} (h:0≤n∧n<18446744073709551616):VN n=n:=X6 h
theorem AB4 {n:Int} (h:0≤n∧n<256):wu8 n=n:=AA8 h
theorem GA {e:Int} {K:Int→Prop} (m:Int) (h:e=m∧-9223372036854775808≤m∧m<9223372036854775808) (k:K m):Bi (F3 e) K:=by
 rw [h.1,qR h.2]; exact k
theorem YG {e:Int} {K:Int→Prop} (m:Int) (h:e=m∧0≤m∧m<18446744073709551616) (k:K m):Bi (VN e) K:=by
 rw [h.1,AAs h.2]; exact k
theorem bu8 {e:Int} {K:Int→Prop} (m:Int) (h:e=m∧0≤m∧m<256) (k:K m):Bi (wu8 e) K:=by
 rw [h.1,AB4 h.2]; exact k
end
class lV (l:List Value) (i:Nat) (v:outParam Value):Prop where
 eq:l[i]?=some v
instance (v:Value) (l:List Value):lV (v::l) 0 v:=⟨rfl⟩
instance (v w:Value) (l:List Value) (i:Nat) [h:lV l i v]:lV (w::l) (i+1) v:=⟨by simpa using h.eq⟩
class AAx (l:List Value) (i:Nat) (v:Value) (l':outParam (List Value)):Prop where
 eq:l.set i v=l'
 lt:i<l.length
instance (u v:Value) (l:List Value):AAx (u::l) 0 v (v::l):=⟨rfl,by simp⟩
instance (u v:Value) (l l':List Value) (i:Nat) [h:AAx l i v l']:AAx (u::l) (i+1) v (u::l'):=⟨by simp [h.eq],by simpa using h.lt⟩
class AtB (l:List AJ) (b:Nat) (A:outParam AJ) (r:outParam (List AJ)):Prop where
 perm:l.Perm (A::r)
instance (b:Nat) (o:CX) (l:List AJ):AtB (pt b o::l) b (pt b o) l:=⟨.refl _⟩
instance (b:Nat) (o:CX) (l:List AJ):AtB (ro b o::l) b (ro b o) l:=⟨.refl _⟩
instance (priority:=100) (A B:AJ) (l r:List AJ) (b:Nat) [h:AtB l b A r]:AtB (B::l) b A (B::r):=⟨(h.perm.cons B).trans (.swap _ _ _)⟩
class pH (l:List AJ) (v:Value) (A:outParam AJ) (r:outParam (List AJ)):Prop where
 perm:l.Perm (A::r)
instance (e z n:Nat) (v:Value) (xs:List Value) (l:List AJ):pH (A5 e z v n xs::l) v (A5 e z v n xs) l:=⟨.refl _⟩
instance (v:Value) (x:List UInt8) (l:List AJ):pH (gO v x::l) v (gO v x) l:=⟨.refl _⟩
instance {M:Type} (z y:Nat) (A:List Value→M→AJ) (v:Value) (x:List M) (l:List AJ):pH (gL z y A v x::l) v (gL z y A v x) l:=⟨.refl _⟩
instance (priority:=100) (A B:AJ) (l r:List AJ) (v:Value) [h:pH l v A r]:pH (B::l) v A (B::r):=⟨(h.perm.cons B).trans (.swap _ _ _)⟩
class Fnd (l:List AJ) (A:AJ) (r:outParam (List AJ)):Prop where
 perm:l.Perm (A::r)
instance (A:AJ) (l:List AJ):Fnd (A::l) A l:=⟨.refl _⟩
instance (priority:=100) (A B:AJ) (l r:List AJ) [h:Fnd l A r]:Fnd (B::l) A (B::r):=⟨(h.perm.cons B).trans (.swap _ _ _)⟩
section
variable {l r:List AJ} {σ:AHeap}
theorem H.atv (v:Value) {A:AJ} (h:H l σ) [k:pH l v A r]:H (A::r) σ:=h.perm k.perm
theorem H.atb (b:Nat) {A:AJ} (h:H l σ) [k:AtB l b A r]:H (A::r) σ:=h.perm k.perm
theorem H.fnd (A:AJ) (h:H l σ) [k:Fnd l A r]:H (A::r) σ:=h.perm k.perm
class pI (l:List AJ) (b:Nat) (c:outParam (List Value)):Prop where
 row:∀ σ,H l σ→σ.row b=some c
instance (b:Nat) (c:List Value) (e:TypeId) (q:Bool) (l:List AJ):pI (pt b (.cells c e q)::l) b c:=⟨fun _ h=>LJ h.get0.1⟩
instance (b:Nat) (c:List Value) (e:TypeId) (q:Bool) (l:List AJ):pI (ro b (.cells c e q)::l) b c:=⟨fun _ h=>LJ h.rget0.1⟩
instance (b:Nat) (c:List Value) (e:TypeId) (l:List AJ):pI (ro b (.ro c e)::l) b c:=⟨fun _ h=>kQ h.rget0.1⟩
instance (priority:=100) (A:AJ) (b:Nat) (c:List Value) (l:List AJ) [k:pI l b c]:pI (A::l) b c:=⟨fun σ h=>k.row σ h.tail⟩
theorem qO {b o:Nat} {c:List Value} {v:Value} (h:H l σ) [k:pI l b c] [g:lV c o v]:L b o σ=some v:=by
 unfold L
 rw [BK (k.row σ h),g.eq]
theorem st {b o:Nat} {c c':List Value} {e:TypeId} {q:Bool} {v:Value} {K:AHeap→Prop} (h:H l σ) [f:AtB l b (pt b (.cells c e q)) r] [g:AAx c o v c'] (hv:one v=true) (k:∀ σ',H (pt b (.cells c' e q)::r) σ'→K σ'):St b o v σ K:=by
 unfold St
 refine E9 (h.perm f.perm) 0 rfl hv g.lt fun σ' h'=>k σ' ?_
 rw [g.eq] at h'
 exact h'
theorem nw {o:CX} {K:Nat→AHeap→Prop} (h:H l σ) (k:∀ b σ',H (pt b o::l) σ'→K b σ'):BB σ o K:=S7 h fun b σ' h'=>k b σ' h'.unsnoc
end
end Go.Ax
namespace Go.Ax
open Go.RowKit
def Dv (P:Program) (g:FuncId) (caps:List Value) (rv:Option Value) (σ:AHeap) (K:AHeap→Prop):Prop :=
 ∀ B w0 ρ w args',B7 B w0 ρ σ w→LR ρ caps args'→∃ fn,P.funcs[g]?=some fn∧(fn.name == "runtime.NumGoroutine")=false∧fn.body.isNone=false ∧
   ∀ u u',(match rv with
     | none=>u=.returning∧u'=.returning
     | some v=>∃ v',VR ρ v v'∧u=.panicking [{ v:=v',recovered:=false }]∧u'=.panicking [{ v:=v',recovered:=true }]) →
     CallsD P g args'.toArray u w fun e u2 w'=>(∃ v,e=.returned v)∧u2=u'∧∃ ρ' σ',K σ'∧D5 ρ ρ'∧B7 B w0 ρ' σ' w'
def AAl:AC→Option (Nat×Nat×Oper×List Oper×AC)
 | .seq (.region id (o::os)) b=>match o.dst,o.op,o.guard with
   | some t,.call c,none=>match c.callee with
     | .builtin .recover=>some (t,id,o,os,b)
     | _=>none
   | _,_,_=>none
 | _=>none
theorem vF {ac:AC} {t id:Nat} {o:Oper} {os:List Oper} {b:AC} (h:AAl ac=some (t,id,o,os,b)):ac=.seq (.region id (o::os)) b∧o.dst=some t∧(∃ c,o.op=.call c∧c.callee=.builtin .recover)∧o.guard=none:=by
 unfold AAl at h
 split at h
 ·rename_i id' o' os' b'
  split at h
  ·rename_i t' c' hd hop hg
   split at h
   ·rename_i hcal
    simp only [Option.some.injEq,Prod.mk.injEq] at h
    obtain ⟨rfl,rfl,rfl,rfl,rfl⟩:=h
    exact ⟨rfl,hd,⟨c',hop,hcal⟩,hg⟩
   ·cases h
  ·cases h
 ·cases h
def zW (P:Program) (E:BP) (fn:Func) (h:Nat→Option QY) (kd:Nat→VT) (caps:List Value) (rv:Option Value) (σ:AHeap) (K:AHeap→Prop):Prop :=
 match AAl (GT h (fn.body.getD .skip) 0).1 with
 | some (t,_,o,os,b)=>cond (Nat.beq caps.length (fn.params.size+fn.nfree) && fn.results.toList.isEmpty) (yB P E (o::os) (fun _ _=>False) os none (qH P E kd (fun _ _=>False) b (fun _ σ=>K σ) (fun _ _ _=>False) (fun _ σ=>K σ)) (HC (F0 (List.range (fn.params.size+fn.nfree)) caps) (some t) (rv.getD .nilIface)) σ) False
 | none=>False
def kq (K:AHeap→Prop):RK:=fun r σ=>match r with
 | .ret _=>K σ
 | .pan _=>False
@[simp] theorem AEq (K:AHeap→Prop) (v:Value) (σ:AHeap):kq K (.ret v) σ=K σ:=rfl
theorem vM {P:Program} {o:Oper} {a:Act} {next next':Act→World→Prop} {Q Q':Exit→Act→World→Prop} {r:Result Next} (hn:∀ a w,next a w→next' a w) (hq:∀ e a w,Q e a w→Q' e a w) (h:o.upon P a next Q r):o.upon P a next' Q' r:=by
 unfold Oper.upon at h ⊢
 split at h
 ·exact hn _ _ h
 ·exact hn _ _ h
 ·exact hn _ _ h
 ·refine Calls.mono h fun e w' he=>?_
  cases e with
  | returned v=>exact hn _ _ he
  | panicked c=>exact hq _ _ _ he
  | outgrown=>obtain ⟨a,w,h⟩:=he; exact ⟨a,w,hq _ _ _ h⟩
 ·exact Rows.mono h fun v w'=>hn _ _
 ·exact hq _ _ _ h
 ·exact h.elim
theorem U6 {P:Program} {ops:Array Oper} {Q:Exit→Act→World→Prop} {Q':Exit→Act→List Frame→World→Prop} {cs:List Frame} (hQ:∀ a w,¬ Q .outgrown a w) (hq:∀ e a w,Q e a w→Q' e a cs w) :
 ∀ (l:List Nat) (a:Act) (w:World),wpOps P ops Q l a w→wpOpsS P ops Q' l a cs w
 | [],a,w,h=>hq _ _ _ h
 | i::rest,a,w,h=>by
   unfold wpOps at h
   unfold wpOpsS
   cases ho:ops[i]? with
   | none=>rw [ho] at h; exact U6 hQ hq rest a w h
   | some o =>
     rw [ho] at h
     simp only at h ⊢
     split
     ·rename_i hw
      rw [if_pos hw] at h
      rcases h with h | ⟨_,a2,w2,h⟩
      ·unfold Oper.wp at h
       split
       ·rename_i w' hr
        rw [hr] at h
        exact h.elim
       ·exact vM (fun a w h=>U6 hQ hq rest a w h) (fun e a w h=>hq e a w h) h
      ·exact absurd h (hQ a2 w2)
     ·rename_i hw
      rw [if_neg hw] at h
      exact U6 hQ hq rest _ w h
theorem mG {P:Program} {o:Oper} {c:Call} {ev:Operand→Value} {w:World} (ho:o.op=.call c) (hc:c.callee=.builtin .recover):(execOp ev o).run P w=.ok .recover w:=by
 have:o={ o with op:=.call c }:=by rw [← ho]
 rw [this]
 simp [execOp,resolve,hc,invoke,builtin]
theorem Dv.of {P:Program} (hm:P.follows .mixedOrders=true) {g:FuncId} {fn:Func} (hf:P.funcs[g]?=some fn) (h:Nat→Option QY) (kd:Nat→VT) (hc:WI fn h=true) {caps:List Value} {rv:Option Value} {σ:AHeap} {K:AHeap→Prop}
 (hx:zW P (Ev P) fn h kd caps rv σ K):Dv P g caps rv σ K:=by
 intro B w0 ρ w args' hr ha
 unfold WI at hc
 simp only [Bool.and_eq_true,Bool.not_eq_true'] at hc
 obtain ⟨⟨⟨h1,h2⟩,h3⟩,h4⟩:=hc
 obtain ⟨c,hcb⟩:=Option.isSome_iff_exists.1 h1
 rw [hcb] at h2
 simp only [Option.getD_some] at h2
 refine ⟨fn,hf,h4,by simp [hcb],fun u u' hu=>?_⟩
 unfold zW at hx
 rw [hcb] at hx
 simp only [Option.getD_some] at hx
 cases hrec:AAl (GT h c 0).1 with
 | none=>rw [hrec] at hx; exact hx.elim
 | some q =>
   obtain ⟨t,id,o,os,b⟩:=q
   rw [hrec] at hx
   simp only at hx
   obtain ⟨hac,hdst,⟨cl,hop,hcal⟩,hgd⟩:=vF hrec
   cases hlen:(Nat.beq caps.length (fn.params.size+fn.nfree) && fn.results.toList.isEmpty) with
   | false=>rw [hlen] at hx; exact hx.elim
   | true =>
   rw [hlen] at hx
   simp only [cond_true] at hx
   rw [Bool.and_eq_true] at hlen
   have hlen1:=Nat.eq_of_beq_eq_true hlen.1
   have hres:fn.results.toList=[]:=by simpa using hlen.2
   have hce:c=Code.seq (Code.region id (o::os).toArray false) b.erase:=by
    rw [← XW h c 0,hac]; rfl
   rw [hac] at h2
   simp only [AC.wf,Bool.and_eq_true] at h2
   let C:Cx:=⟨fn.ntmps,[],[],fun _=>undef⟩
   have hstart:FR C ρ (F0 (List.range (fn.params.size+fn.nfree)) caps) { tmps:=args'.toArray++Array.replicate (fn.ntmps - args'.toArray.size) undef,defers:=[] }:=FR.start ha hlen1 (Nat.le_of_ble_eq_true h3)
   -- the recovered value,and who stands beneath
   refine callsD_of_wpS hf hcb fun c₀ cs hcm=>?_
   let R:Ending→FrameMode→World→Prop:=fun e u2 w'=>(∃ v,e=.returned v)∧u2=u'∧∃ ρ' σ',K σ'∧D5 ρ ρ'∧B7 B w0 ρ' σ' w'
   let Fin:Act→World→Prop:=fun a w2=>a.defers=[]∧∃ v,(results fn a.tmps).run P w2=.ok v w2∧∃ ρ' σ',K σ'∧D5 ρ ρ'∧B7 B w0 ρ' σ' w2
   let Q2:Exit→Act→World→Prop:=fun e a w2=>match e with
    | .normal=>Fin a w2
    | .ret=>Fin a w2
    | _=>False
   let Q1:Exit→Act→World→Prop:=fun e a w2=>match e with
    | .normal=>b.erase.wp P Q2 a w2
    | .ret=>Fin a w2
    | _=>False
   have hdo:C.ok t:=RX (List.all_eq_true.1 h2.1 o (by simp)) t hdst
   have main:∀ rvm,VR ρ (rv.getD .nilIface) rvm→wpOps P (o::os).toArray Q1 (List.range' 1 os.length) (Act.put { tmps:=args'.toArray++Array.replicate (fn.ntmps - args'.toArray.size) undef,defers:=[] } (some t) rvm) w:=by
    intro rvm hvr
    have hend:KS B w0 C ρ (fun _ σ=>K σ) Fin:=fun ρ2 fr2 σ2 a2 w2 e2 hf2 hr2 hk2=>by
     refine ⟨hf2.kp.defers,?_⟩
     obtain ⟨v,hv,_⟩:=U8 (fn:=fn) (res:=[]) (Q:=fun _ _=>True) (fr:=fr2) hres hr2 (fun x hx=>by simp at hx) (by trivial)
     exact ⟨v,hv,ρ2,σ2,hk2,e2,hr2⟩
    refine dZ (C:=C) (all:=o::os) os 1 none rfl (fun o' ho'=>List.all_eq_true.1 h2.1 o' (by simp [ho'])) ρ _ σ _ w ?_ ?_ (hstart.put hvr (fun d hd=>by cases hd; exact hdo)) hr trivial (j8 (kp':=fun _ _=>False) (fun _ _ h=>h) (fun fr σ h=>tW (P:=P) kd (kp':=fun _ _=>False) (fun _ _ h=>h) b (qn':=fun _ σ=>K σ) (qe':=fun _ _ _=>False) (qr':=fun _ σ=>K σ) (fun _ _ h=>h) (fun _ _ _ h=>h) (fun _ _ h=>h) fr σ h) os none _ σ hx)
    ·intro ρ2 fr2 σ2 a2 w2 e2 hf2 hr2 hx2
     exact UV hm b (C:=C) h2.2 _ _ _ Q2 ρ2 fr2 σ2 a2 w2 (hend.mono e2) (fun i ρ3 fr3 σ3 a3 w3 _ _ _ hx3=>hx3.elim) (hend.mono e2) (fun ρ3 v v' σ3 a3 w3 _ _ _ _ hx3=>hx3.elim) hf2 hr2 hx2
    ·exact fun ρ3 v v' σ3 a3 w3 _ _ _ _ hx3=>hx3.elim
   have fin:∀ rvm,VR ρ (rv.getD .nilIface) rvm→wpOpsS P (o::os).toArray (Exit.thenS (b.erase.wpS P (bodyPostS P fn c₀ cs R)) (bodyPostS P fn c₀ cs R)) (List.range' 1 os.length) (Act.put { tmps:=args'.toArray++Array.replicate (fn.ntmps - args'.toArray.size) undef,defers:=[] } (some t) rvm) ({ c₀ with mode:=u' }::cs) w:=by
    intro rvm hvr
    have hF:∀ a2 w2,Fin a2 w2→a2.defers=[]∧∃ u2,({ c₀ with mode:=u' }::cs:List Frame)={ c₀ with mode:=u2 }::cs∧∃ v,(results fn a2.tmps).run P w2=.ok v w2∧R (.returned v) u2 w2:=by
     rintro a2 w2 ⟨g1,v,g2,g3⟩
     exact ⟨g1,u',rfl,v,g2,⟨v,rfl⟩,rfl,g3⟩
    refine U6 (Q:=Q1) (fun a w h=>h) ?_ _ _ _ (main rvm hvr)
    intro e a2 w2 hq
    cases e with
    | normal =>
      refine wpS_of_wp (wp_mono hq fun e2 a3 w3 hq2=>?_)
      cases e2 with
      | normal=>exact hF a3 w3 hq2
      | ret=>exact hF a3 w3 hq2
      | _=>exact hq2.elim
    | ret=>exact hF a2 w2 hq
    | _=>exact hq.elim
   rw [hce]
   refine wpS_seq (wpS_region ?_)
   have hrange:List.range (o::os).toArray.size=0::List.range' 1 os.length:=by
    simp [List.range_eq_range',List.range'_succ]
   rw [hrange]
   unfold wpOpsS
   have h0:(o::os).toArray[0]?=some o:=by simp
   rw [h0]
   simp only
   have hw:Region.wanted o (yielded (o::os).toArray (Act.tmps { tmps:=args'.toArray++Array.replicate (fn.ntmps - args'.toArray.size) undef,defers:=[] }))=true:=by simp [Region.wanted,hgd]
   rw [if_pos hw,mG hop hcal]
   simp only
   rw [hdst]
   cases rv with
   | none =>
     simp only at hu
     obtain ⟨rfl,rfl⟩:=hu
     have hrd:recoverD (c₀::cs)=none:=by simp [recoverD,hcm]
     rw [hrd]
     have hc0:({ c₀ with mode:=.returning }:Frame)=c₀:=by rw [← hcm]
     have:=fin .nilIface .nilIface
     rw [hc0] at this
     exact this
   | some v =>
     simp only at hu
     obtain ⟨v',hv,rfl,rfl⟩:=hu
     have hrd:recoverD (c₀::cs)=some (v',{ c₀ with mode:=.panicking [{ v:=v',recovered:=true }] }::cs):=by simp [recoverD,hcm]
     rw [hrd]
     exact fin v' hv
def nK:AC→Option (Nat×FuncId×Array Operand×Nat×Oper×Oper)
 | .region id [o1,o2]=>match o1.dst,o1.op,o1.guard,o2.dst,o2.op,o2.guard with
   | some t,.makeFunc (.func g) first caps,none,none,.defer c,none=>match c.callee with
     | .value (.tmp t')=>cond (Nat.beq t t' && first.toList.isEmpty && c.args.toList.isEmpty) (some (t,g,caps,id,o1,o2)) none
     | _=>none
   | _,_,_,_,_,_=>none
 | _=>none
theorem rU {ac:AC} {t id:Nat} {g:FuncId} {caps:Array Operand} {o1 o2:Oper} (h:nK ac=some (t,g,caps,id,o1,o2)):ac=.region id [o1,o2]∧o1.dst=some t∧(∃ first,o1.op=.makeFunc (.func g) first caps∧first=#[])∧o1.guard=none∧o2.dst=none∧(∃ c,o2.op=.defer c∧c.callee=.value (.tmp t)∧c.args=#[])∧o2.guard=none:=by
 unfold nK at h
 split at h
 ·rename_i id' o1' o2'
  split at h
  ·rename_i t1 g1 first1 caps1 c1 h1 h2 h3 h4 h5 h6
   split at h
   ·rename_i t' hcal
    cases hb:(Nat.beq t1 t' && first1.toList.isEmpty && c1.args.toList.isEmpty) with
    | false=>rw [hb] at h; cases h
    | true =>
      rw [hb] at h
      simp only [cond_true,Option.some.injEq,Prod.mk.injEq] at h
      obtain ⟨rfl,rfl,rfl,rfl,rfl,rfl⟩:=h
      simp only [Bool.and_eq_true] at hb
      have e1:=Nat.eq_of_beq_eq_true hb.1.1
      subst e1
      exact ⟨rfl,h1,⟨first1,h2,by simpa using hb.1.2⟩,h3,h4,⟨c1,h5,hcal,by simpa using hb.2⟩,h6⟩
   ·cases h
  ·cases h
 ·cases h
def qd (P:Program) (g:FuncId) (cs:List Value) (K:AHeap→Prop):RK:=fun r σ=>Dv P g cs (match r with
 | .ret _=>none
 | .pan v=>some v) σ K
def zH (P:Program) (E:BP) (kd:Nat→VT) (res:List ResultVar) (Q:RK):AC→FK
 | .seq a b=>match nK a with
   | some (t,g,caps,_,_,_)=>fun fr σ=>qH P E kd (fun v σ=>qd P g (caps.toList.map (P5 fr)) (fun σ'=>YJ P res Q (HC fr (some t) (.func (.func g) #[] (caps.toList.map (P5 fr)).toArray)) σ') (.pan v) σ) b
    (fun _ σ=>qd P g (caps.toList.map (P5 fr)) (fun σ'=>YJ P res Q (HC fr (some t) (.func (.func g) #[] (caps.toList.map (P5 fr)).toArray)) σ') (.ret (.tuple #[])) σ) (fun _ _ _=>False)
    (fun _ σ=>qd P g (caps.toList.map (P5 fr)) (fun σ'=>YJ P res Q (HC fr (some t) (.func (.func g) #[] (caps.toList.map (P5 fr)).toArray)) σ') (.ret (.tuple #[])) σ) (HC fr (some t) (.func (.func g) #[] (caps.toList.map (P5 fr)).toArray)) σ
   | none=>qH P E kd (fun v σ=>Q (.pan v) σ) a (zH P E kd res Q b) (fun _ _ _=>False) (YJ P res Q)
 | _=>fun _ _=>False
def ZM (res:List ResultVar):List Nat:=res.map fun | .tmp t=>t | .cell a _=>a
def lT (N:Nat) (L:List Nat):AC→Bool
 | .seq a b=>match nK a with
   | some _=>b.wf N L
   | none=>lT N L b
 | _=>false
def xfnD (P:Program) (E:BP) (fn:Func) (h:Nat→Option QY) (kd:Nat→VT) (args:List Value) (σ:AHeap) (Q:RK):Prop :=
 cond (Nat.beq args.length (fn.params.size+fn.nfree)) (zH P E kd fn.results.toList Q (GT h (fn.body.getD .skip) 0).1 (F0 (List.range (fn.params.size+fn.nfree)) args) σ) False
def rT (fn:Func) (h:Nat→Option QY):Bool:=WI fn h && lT fn.ntmps (ZM fn.results.toList) (GT h (fn.body.getD .skip) 0).1
theorem rE {P:Program} (hm:P.follows .mixedOrders=true) {B:Nat} {w0:World} {fn:Func} {ρ0:List RB} {kd:Nat→VT} {Q:RK}:∀ (c:AC),c.wf fn.ntmps []=true→lT fn.ntmps (ZM fn.results.toList) c=true→∀ ρ fr σ a w,D5 ρ0 ρ→FR ⟨fn.ntmps,[],[],fun _=>undef⟩ ρ fr a→B7 B w0 ρ σ w →
 zH P (Ev P) kd fn.results.toList Q c fr σ→c.erase.wp P (bodyPostD P fn fun e w'=>∃ r ρ' σ',Q r σ'∧xO ρ' r e∧D5 ρ0 ρ'∧B7 B w0 ρ' σ' w') a w:=by
 intro c
 induction c with
 | seq x y _ ihy =>
   intro hwf htl ρ fr σ a w e0 hf hr hx
   simp only [AC.wf,Bool.and_eq_true] at hwf
   unfold zH at hx
   unfold lT at htl
   let C:Cx:=⟨fn.ntmps,[],[],fun _=>undef⟩
   cases hd:nK x with
   | none =>
     rw [hd] at hx htl
     refine wp_seq (UV hm x (C:=C) hwf.1 (zH P (Ev P) kd fn.results.toList Q y) (fun _ _ _=>False) (YJ P fn.results.toList Q) _ ρ fr σ a w ?_ (fun i ρ2 fr2 σ2 a2 w2 _ _ _ hx2=>hx2.elim) ?_ (kp:=fun v σ=>Q (.pan v) σ) ?_ hf hr ?_)
     ·intro ρ2 fr2 σ2 a2 w2 e2 hf2 hr2 hx2
      exact ihy hwf.2 htl ρ2 fr2 σ2 a2 w2 (e0.trans e2) hf2 hr2 hx2
     ·intro ρ2 fr2 σ2 a2 w2 e2 hf2 hr2 hx2
      show Leaves P fn a2.tmps _ a2.defers .returning w2
      have hdf:a2.defers=[]:=hf2.kp.defers
      rw [hdf]
      obtain ⟨v,h3,r,h4,h5⟩:=U8 rfl hr2 (fun x _=>by cases x<;>exact hf2.val _) hx2
      exact ⟨v,h3,r,ρ2,σ2,h4,h5,e0.trans e2,hr2⟩
     ·intro ρ2 v v' σ2 a2 w2 e2 hk h2 hv hx2
      show Leaves P fn a2.tmps _ a2.defers _ w2
      have hdf:a2.defers=[]:=hk.defers
      rw [hdf]
      exact ⟨.pan v,ρ2,σ2,hx2,⟨v',rfl,hv⟩,e0.trans e2,h2⟩
     ·exact tW kd (fun _ _ h=>h) x (fun _ _ h=>h) (fun _ _ _ h=>h) (fun _ _ h=>h) _ _ hx
   | some q =>
     obtain ⟨t,g,caps,id,o1,o2⟩:=q
     rw [hd] at hx htl
     simp only at hx htl
     obtain ⟨hxa,d1,⟨first,d2,d2'⟩,d3,d4,⟨cl,d5,d6,d7⟩,d8⟩:=rU hd
     subst d2'
     rw [hxa] at hwf ⊢
     have hcok:C.ok t:=RX (List.all_eq_true.1 hwf.1 o1 (by simp)) t d1
     refine wp_seq (wp_region ?_)
     show wpOps P #[o1,o2] _ [0,1] a w
     unfold wpOps
     have g0:(#[o1,o2]:Array Oper)[0]?=some o1:=rfl
     rw [g0]
     simp only
     rw [if_pos (by simp [Region.wanted,d3])]
     refine .inl (WU (C:=C) (kp:=fun _ _=>False) (K:=fun v σ'=>v=.func (.func g) #[] (caps.toList.map (P5 fr)).toArray∧σ'=σ) (fun x _=>hf.ev x) hr (by simp [NF,d2]) ?_ (fun ρ3 v v' σ3 a3 w3 _ _ _ _ hx3=>hx3.elim) hf.kp)
     rintro v σ1 ρ1 v' w1 ⟨rfl,rfl⟩ e1 hr1 hv1
     rw [d1]
     have hf1:FR C ρ1 (HC fr (some t) (.func (.func g) #[] (caps.toList.map (P5 fr)).toArray)) (a.put (some t) v'):=(hf.mono e1).put hv1 (fun d hd=>by cases hd; exact hcok)
     unfold wpOps
     have g1:(#[o1,o2]:Array Oper)[1]?=some o2:=rfl
     rw [g1]
     simp only
     rw [if_pos (by simp [Region.wanted,d8])]
     refine .inl ?_
     have hvt:=hf1.val t
     have hft:BW (HC fr (some t) (.func (.func g) #[] (caps.toList.map (P5 fr)).toArray)) t=.func (.func g) #[] (caps.toList.map (P5 fr)).toArray:=by simp only [HC,G8,if_pos]
     rw [hft] at hvt
     generalize hfa:(a.put (some t) v').tmps.getD t undef=fa at hvt
     cases hvt with
     | func fn0 f1 f' c1 c' h1 h2 h3 h4 =>
       have hf'0:f'=#[]:=Array.eq_empty_of_size_eq_zero (by simpa using h1.symm)
       subst hf'0
       have hcaps:LR ρ1 (caps.toList.map (P5 fr)) c'.toList:=by
        have:=LR.of_arr h2 h4
        simpa using this
       unfold Oper.wp
       have hexec:(execOp (a.put (some t) v').eval o2).run P w1=.ok (.defer { target:=.fn (.func g) c',args:=#[] }) w1:=by
        have:o2={ o2 with op:=.defer cl }:=by rw [← d5]
        rw [this]
        have hev:(a.put (some t) v').eval (.tmp t)=.func (.func g) #[] c':=hfa
        simp [execOp,resolve,d6,d7,Deferred.ofValue,hev]
       rw [hexec,Oper.upon_defer,d4]
       unfold wpOps
       show y.erase.wp P _ { (a.put (some t) v') with defers:={ target:=.fn (.func g) c',args:=#[] }::(a.put (some t) v').defers } w1
       have hdf:(a.put (some t) v').defers=[]:=hf1.kp.defers
       rw [hdf]
       let d:Deferred:={ target:=.fn (.func g) c',args:=#[] }
       let a2:Act:={ (a.put (some t) v') with defers:=[d] }
       let C2:Cx:=⟨fn.ntmps,[d],ZM fn.results.toList,fun t=>a2.tmps.getD t undef⟩
       have hf2:FR C2 ρ1 (HC fr (some t) (.func (.func g) #[] (caps.toList.map (P5 fr)).toArray)) a2:=⟨hf1.val,rfl,hf1.kp.size,fun t _=>rfl⟩
       -- the end
       have hend:∀ (rv:Option Value) (u:FrameMode) (u':FrameMode) (ρ3:List RB) (σ3:AHeap) (a3:Act) (w3:World),D5 ρ1 ρ3→EU C2 a3→B7 B w0 ρ3 σ3 w3 →
        (match rv with
         | none=>u=.returning∧u'=.returning
         | some v=>∃ v',VR ρ3 v v'∧u=.panicking [{ v:=v',recovered:=false }]∧u'=.panicking [{ v:=v',recovered:=true }]) →
        Dv P g (caps.toList.map (P5 fr)) rv σ3 (fun σ'=>YJ P fn.results.toList Q (HC fr (some t) (.func (.func g) #[] (caps.toList.map (P5 fr)).toArray)) σ') →
        Leaves P fn a3.tmps (fun e w'=>∃ r ρ' σ',Q r σ'∧xO ρ' r e∧D5 ρ0 ρ'∧B7 B w0 ρ' σ' w') a3.defers u w3:=by
        intro rv u u' ρ3 σ3 a3 w3 e3 hk3 hr3 hu hdv
        have hdf3:a3.defers=[d]:=hk3.defers
        rw [hdf3]
        obtain ⟨fg,q1,q2,q3,q4⟩:=hdv B w0 ρ3 w3 c'.toList hr3 (hcaps.mono e3)
        have hinv:(invoke (.fn (.func g) c') #[]).run P w3=.ok (.enter g c'.toList.toArray) w3:=by
         have:invoke (.fn (.func g) c') #[]=callFunc g (#[]++c'):=rfl
         rw [this]
         simpa using RV (args:=c') q1 q2 q3 (w:=w3)
        have hset:settle u'=.returning:=by
         cases rv with
         | none=>obtain ⟨_,rfl⟩:=hu; rfl
         | some v=>obtain ⟨v',_,_,rfl⟩:=hu; rfl
        have hur:u≠.run:=by
         cases rv with
         | none=>obtain ⟨rfl,_⟩:=hu; simp
         | some v=>obtain ⟨v',_,rfl,_⟩:=hu; simp
        refine leaves_cons hur hinv ((q4 u u' hu).mono ?_)
        rintro e u2 w4 ⟨⟨vr,rfl⟩,rfl,ρ4,σ4,hK,e4,hr4⟩
        simp only
        rw [hset]
        obtain ⟨v,h5,r,h6,h7⟩:=U8 (fn:=fn) rfl hr4 (fr:=HC fr (some t) (.func (.func g) #[] (caps.toList.map (P5 fr)).toArray)) (tmps:=a3.tmps) (fun x hx=>by
         have key:∀ s,s∈ZM fn.results.toList→VR ρ4 (BW (HC fr (some t) (.func (.func g) #[] (caps.toList.map (P5 fr)).toArray)) s) (a3.tmps.getD s undef):=by
          intro s hs
          rw [hk3.keep s hs]
          exact (hf2.val s).mono (e3.trans e4)
         cases x with
         | tmp s=>exact key s (List.mem_map.2 ⟨.tmp s,hx,rfl⟩)
         | cell s ty=>exact key s (List.mem_map.2 ⟨.cell s ty,hx,rfl⟩)) hK
        exact ⟨v,h5,r,ρ4,σ4,h6,h7,((e0.trans e1).trans e3).trans e4,hr4⟩
       refine UV hm y (C:=C2) htl _ _ _ _ ρ1 _ σ1 a2 w1 ?_ (fun i ρ2 fr2 σ2 a2 w2 _ _ _ hx2=>hx2.elim) ?_ ?_ hf2 hr1 (tW kd (fun _ _ h=>h) y (fun _ _ h=>h) (fun _ _ _ h=>h) (fun _ _ h=>h) _ _ hx)
       ·intro ρ3 fr3 σ3 a3 w3 e3 hf3 hr3 hx3
        exact hend none .returning .returning ρ3 σ3 a3 w3 e3 hf3.kp hr3 ⟨rfl,rfl⟩ hx3
       ·intro ρ3 fr3 σ3 a3 w3 e3 hf3 hr3 hx3
        exact hend none .returning .returning ρ3 σ3 a3 w3 e3 hf3.kp hr3 ⟨rfl,rfl⟩ hx3
       ·intro ρ3 v v' σ3 a3 w3 e3 hk3 hr3 hv3 hx3
        exact hend (some v) _ _ ρ3 σ3 a3 w3 e3 hk3 hr3 ⟨v',hv3,rfl,rfl⟩ hx3
 | _=>intro _ _ ρ fr σ a w _ _ _ hx; exact hx.elim
theorem Ev.xfnD {P:Program} (hm:P.follows .mixedOrders=true) {f:FuncId} {fn:Func} (hf:P.funcs[f]?=some fn) (h:Nat→Option QY) (kd:Nat→VT) (hc:rT fn h=true) {args:List Value} {σ:AHeap} {Q:RK} (hx:Go.Ax.xfnD P (Ev P) fn h kd args σ Q):Ev P f args σ Q:=by
 unfold rT WI at hc
 simp only [Bool.and_eq_true,Bool.not_eq_true'] at hc
 obtain ⟨⟨⟨⟨h1,h2⟩,h3⟩,h4⟩,h5⟩:=hc
 obtain ⟨c,hcb⟩:=Option.isSome_iff_exists.1 h1
 rw [hcb] at h2 h5
 simp only [Option.getD_some] at h2 h5
 unfold Go.Ax.xfnD at hx
 rw [hcb] at hx
 simp only [Option.getD_some] at hx
 cases hlen:Nat.beq args.length (fn.params.size+fn.nfree) with
 | false=>rw [hlen] at hx; exact hx.elim
 | true =>
   rw [hlen] at hx
   simp only [cond_true] at hx
   have hlen:=Nat.eq_of_beq_eq_true hlen
   intro B w0 ρ w args' hr ha
   refine ⟨fn,hf,h4,.inl ⟨by simp [hcb],?_⟩⟩
   refine calls_of_wp_defers hf hcb ?_
   have hstart:=FR.start ha hlen (Nat.le_of_ble_eq_true h3)
   have:=rE hm (ρ0:=ρ) (B:=B) (w0:=w0) (kd:=kd) (Q:=Q) (GT h c 0).1 h2 h5 ρ _ σ _ w (D5.refl _) hstart hr hx
   rw [XW] at this
   exact this
end Go.Ax
namespace Go.Ax.C
open Go.Proofs
noncomputable abbrev P:Program:=Tryz.prog
theorem ADf:∃ e:BP,e=Ev P:=⟨_,rfl⟩
noncomputable def E:BP:=Classical.choose ADf
theorem gU:E=Ev P:=Classical.choose_spec ADf
theorem mixed:P.follows .mixedOrders=true:=Tryz.checked.mixed
theorem BT {f:FuncId} {fn:Func} (hf:P.funcs[f]?=some fn) (h:Nat→Option QY) (kd:Nat→VT) (hc:WI fn h=true) {args:List Value} {σ:AHeap} {Q:RK} (hx:xfn P E fn h kd args σ Q):E f args σ Q:=by
 rw [gU] at hx ⊢
 exact Ev.xfn mixed hf h kd hc hx
theorem ABo {f:FuncId} {fn:Func} (hf:P.funcs[f]?=some fn) (h:Nat→Option QY) (kd:Nat→VT) (hc:rT fn h=true) {args:List Value} {σ:AHeap} {Q:RK} (hx:xfnD P E fn h kd args σ Q):E f args σ Q:=by
 rw [gU] at hx ⊢
 exact Ev.xfnD mixed hf h kd hc hx
theorem ABt {g:FuncId} {fn:Func} (hf:P.funcs[g]?=some fn) (h:Nat→Option QY) (kd:Nat→VT) (hc:WI fn h=true) {caps:List Value} {rv:Option Value} {σ:AHeap} {K:AHeap→Prop} (hx:zW P E fn h kd caps rv σ K):Dv P g caps rv σ K:=by
 rw [gU] at hx
 exact Dv.of mixed hf h kd hc hx
end Go.Ax.C
namespace Go.Ax
abbrev CU:FuncId:=99
abbrev FT:FuncId:=66
abbrev EB:FuncId:=62
abbrev EH:FuncId:=120
abbrev DU:FuncId:=121
abbrev D9:FuncId:=122
abbrev IG:FuncId:=159
abbrev OY:FuncId:=60
abbrev M6:FuncId:=214
abbrev LC:FuncId:=215
abbrev MX:FuncId:=222
abbrev KX:FuncId:=223
abbrev KR:FuncId:=216
abbrev f4:FuncId:=163
abbrev U9:FuncId:=124
abbrev SA:FuncId:=187
abbrev E0:FuncId:=119
abbrev M3:FuncId:=158
abbrev KY:FuncId:=125
abbrev JV:FuncId:=185
abbrev HW:FuncId:=191
abbrev LH:FuncId:=190
abbrev HN:FuncId:=164
abbrev SD:FuncId:=58
abbrev XU:FuncId:=143
abbrev I4:FuncId:=144
abbrev J3:FuncId:=100
abbrev JQ:FuncId:=142
abbrev J6:FuncId:=71
abbrev N6:FuncId:=177
abbrev HF:FuncId:=174
abbrev ON:FuncId:=175
abbrev EZ:FuncId:=128
abbrev K3:FuncId:=217
abbrev JS:FuncId:=218
abbrev LL:FuncId:=220
abbrev JX:FuncId:=221
abbrev JK:FuncId:=219
abbrev WV:FuncId:=161
abbrev TD:FuncId:=176
abbrev KT:FuncId:=129
abbrev I9:FuncId:=160
abbrev GK:FuncId:=165
abbrev K2:FuncId:=186
abbrev NL:FuncId:=81
abbrev TX:FuncId:=141
abbrev ML:FuncId:=75
abbrev LU:FuncId:=78
abbrev LG:FuncId:=133
abbrev OQ:FuncId:=140
abbrev OE:FuncId:=172
abbrev OD:FuncId:=173
abbrev LM:FuncId:=83
abbrev LK:FuncId:=137
abbrev K9:FuncId:=131
abbrev PP:FuncId:=166
abbrev NM:FuncId:=136
abbrev MY:FuncId:=170
abbrev MW:FuncId:=171
abbrev FI:FuncId:=132
abbrev GQ:FuncId:=130
abbrev RD:FuncId:=135
abbrev NE:FuncId:=15
abbrev NB:FuncId:=7
abbrev PV:FuncId:=14
abbrev RY:FuncId:=69
abbrev XP:FuncId:=64
abbrev TN:FuncId:=68
abbrev CF:FuncId:=127
abbrev JE:FuncId:=126
abbrev HY:FuncId:=123
abbrev LY:FuncId:=162
abbrev XD:FuncId:=59
abbrev ED:FuncId:=23
abbrev EW:FuncId:=31
abbrev HM:FuncId:=22
abbrev DI:FuncId:=29
abbrev GI:FuncId:=38
abbrev J1:FuncId:=21
abbrev FB:FuncId:=30
abbrev IE:FuncId:=86
abbrev QI:FuncId:=87
abbrev QD:FuncId:=88
abbrev CT:FuncId:=70
abbrev GW:FuncId:=89
abbrev CA:FuncId:=167
abbrev C7:FuncId:=189
abbrev C5:FuncId:=138
abbrev GL:FuncId:=193
abbrev B8:FuncId:=134
abbrev BS:FuncId:=192
abbrev IV:FuncId:=168
abbrev HZ:FuncId:=188
abbrev EN:FuncId:=169
abbrev R6:FuncId:=67
abbrev RF:FuncId:=65
abbrev IN:FuncId:=24
abbrev DO:FuncId:=72
abbrev IR:FuncId:=26
abbrev dY:FuncId:=28
abbrev PO:FuncId:=27
abbrev C0:FuncId:=82
abbrev FD:FuncId:=18
abbrev FG:FuncId:=19
abbrev B9:FuncId:=17
abbrev EK:FuncId:=25
abbrev CZ:FuncId:=63
abbrev OR:FuncId:=74
abbrev CH:FuncId:=85
abbrev MG:FuncId:=73
abbrev MU:FuncId:=84
abbrev SH:FuncId:=139
abbrev CJ:FuncId:=77
abbrev EV:FuncId:=76
abbrev ID:FuncId:=80
abbrev LW:FuncId:=79
abbrev T9:TypeId:=31
abbrev AE:TypeId:=24
abbrev CG:TypeId:=4
abbrev AU:TypeId:=229
abbrev DY:TypeId:=233
abbrev ER:TypeId:=224
abbrev EQ:TypeId:=278
abbrev EM:TypeId:=244
abbrev y8:TypeId:=20
abbrev DN:TypeId:=3
abbrev BI:TypeId:=35
abbrev A9:TypeId:=225
abbrev G9:TypeId:=240
abbrev AK:TypeId:=230
abbrev BD:TypeId:=272
abbrev LQ:TypeId:=130
abbrev C9:TypeId:=246
abbrev BL:TypeId:=153
abbrev TY:TypeId:=22
abbrev WX:TypeId:=69
abbrev DW:TypeId:=148
abbrev IB:TypeId:=248
abbrev AA:TypeId:=161
abbrev AZ:TypeId:=159
abbrev AL:TypeId:=25
abbrev AI:TypeId:=5
end Go.Ax
