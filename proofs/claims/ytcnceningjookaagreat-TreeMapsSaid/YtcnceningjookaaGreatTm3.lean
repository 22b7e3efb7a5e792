/- Texts of one proof,joined. No statement of the seat is proved here. -/
import Derived.Test.YtcnceningjookaaGreatTm2
import Derived.Deep.Slices
import Derived.ChangeArms
import Derived.ChangeStays
import Derived.ReadAgain
import GoSem.ClaimJoined
import Derived.Recover
import Derived.Test.YtcnceningjookaaGreatProg
import Derived.Test.YtcnceningjookaaGreatChecked
set_option linter.unusedVariables false
set_option linter.unusedSimpArgs false
set_option linter.unnecessarySimpa false
set_option linter.constructorNameAsVariable false
namespace Go.Ax
open Go.RowKit
section
variable (P:Program)
def WX (t:TypeId):VT :=
 match P.underlying t with
 | some (.int k)=>.i k
 | some .bool=>.b
 | some .string=>.s
 | _=>.v
def AFZ (t:TypeId):Option (List VT) :=
 match P.types[t]? with
 | some i=>match i.desc with
   | .tuple ts=>some (ts.toList.map (WX P))
   | .invalid=>none
   | _=>some [WX P t]
 | none=>none
def rtK (t:TypeId) (K:WK):WK :=
 match AFZ P t with
 | some l=>rt l K
 | none=>K
def uX:Nat→TypeId→Option (List VT)
 | 0,_=>none
 | n+1,t=>match P.underlying t with
   | some (.struct fs)=>fs.toList.foldr (fun f l=>match uX n f.type,l with
     | some a,some b=>some (a++b)
     | _,_=>none) (some [])
   | some (.array _ _)=>none
   | some _=>some [WX P t]
   | none=>none
def ABh:BinOp→Bool
 | .eql | .neq | .lss | .leq | .gtr | .geq=>true
 | _=>false
def AEH (op:BinOp) (t:TypeId) (x y:Value) (K:Value→Prop):Prop :=
 match P.underlying t with
 | some (.struct _)=>eN .b (ZY P t op x y) K
 | some (.array _ _)=>eN .b (ZY P t op x y) K
 | d=>cond (ABh op) (eN .b (BF d op x y) K) (eN (WX P t) (BF d op x y) K)
def AD4 (t:TypeId) (x:Value) (σ:AHeap) (K:Value→Prop):Prop :=
 match P.underlying t with
 | some (.slice _)=>eN (.i .i64) (BH x) K
 | some .string=>eN (.i .i64) (m9 x) K
 | some (.map _ _)=>eN (.i .i64) (tR x σ) K
 | _=>False
def uJ (t:TypeId) (x:Value) (lo hi mx:Option Value) (K:Value→Prop):Prop :=
 match P.underlying t with
 | some .string=>match mx with
   | none=>eN .s (RI x lo hi) K
   | some _=>False
 | some (.slice e)=>match P.info? e with
   | some i=>om (A7 i.size x lo hi mx) K
   | none=>False
 | some (.array n e)=>match P.info? e with
   | some i=>om (J8 n i.size x lo hi mx) K
   | none=>False
 | some (.pointer arr)=>match P.underlying arr with
   | some (.array n e)=>match P.info? e with
     | some i=>om (J8 n i.size x lo hi mx) K
     | none=>False
   | _=>False
 | _=>False
def zT (t:TypeId) (x i:Value) (K:Value→Prop):Prop :=
 match P.underlying t with
 | some (.slice e)=>match P.info? e with
   | some j=>om (AE j.size x i) K
   | none=>False
 | some (.array n e)=>match P.info? e with
   | some j=>om (M4 n j.size x i) K
   | none=>False
 | _=>False
def AAZ (s d:TypeId) (x:Value) (σ:AHeap) (K:Value→Prop):Prop :=
 match P.underlying s,P.underlying d with
 | some (.int _),some (.int k)=>eN (.i k) (wJ k x) K
 | _,_=>eN (WX P d) (fL P s d x σ) K
def sU (t:TypeId) (f:Nat) (x:Value) (K:Value→Prop):Prop :=
 match P.underlying t with
 | some (.struct fs)=>match fs[f]? with
   | some fd=>match eR P fd.type with
     | some (g,n)=>eN (WX P fd.type) (tP g n fd.offset x) K
     | none=>False
   | none=>False
 | _=>False
def AD9 (t:TypeId) (x i:Value) (K:Value→Prop):Prop :=
 match P.underlying t with
 | some (.array len e)=>match P.info? e with
   | some j=>match eR P e with
     | some (g,n)=>eN (WX P e) (sY g n len j.size x i) K
     | none=>False
   | none=>False
 | some .string=>eN (.i .u8) (uB x i) K
 | _=>False
def uT (t:TypeId) (BW:List (Nat×Value)) (K:Value→Prop):Prop :=
 match CK P t with
 | some z=>match P.underlying t with
   | some (.struct fs)=>match NB P fs.toList with
     | some pl=>gO (pl[·]?) z.cells.toList BW fun l=>K (.agg l.toArray)
     | none=>False
   | some (.array _ e)=>match P.info? e with
     | some i=>gO (fun k=>some (k*i.size,i.size)) z.cells.toList BW fun l=>K (.agg l.toArray)
     | none=>False
   | _=>False
 | none=>False
def nM (t:TypeId) (len:Nat) (BW:List (Nat×Value)) (σ:AHeap) (K:WK):Prop :=
 match DH P t with
 | some (e,z,_)=>match len with
   | 0=>match BW with
     | []=>K (.slice (some ⟨ZB,0,some 0⟩) 0 0) σ
     | _=>False
   | _=>match CK P e with
     | some zv=>cond (Nat.ble (len*z) 16777216 && Nat.blt 0 z) (gO (fun k=>some (k*z,z)) (reps len zv.cells.toList) BW fun l=>BE σ (.cells l e false) fun b σ=>K (.slice (some ⟨b,0,none⟩) len len) σ) False
     | none=>False
 | none=>False
def fX (b:Builtin) (ts:List TypeId) (args:List Value) (σ:AHeap) (K:WK):Prop :=
 match b,ts,args with
 | .len,[t],[x]=>AD4 P t x σ fun v=>K v σ
 | .min,[t,_],[x,y]=>eN (WX P t) (kS x y) fun v=>K v σ
 | .max,[t,_],[x,y]=>eN (WX P t) (lR x y) fun v=>K v σ
 | .cap,[t],[x]=>match P.underlying t with
   | some (.slice _)=>eN (.i .i64) (oX x) fun v=>K v σ
   | _=>False
 | _,_,_=>KL P b ts args σ K
def AAW (t:TypeId) (a:Value) (σ:AHeap) (K:Value→Prop):Prop :=
 match eR P t with
 | some (true,n)=>match uX P 6 t with
   | some l=>cond (Nat.beq l.length n && Nat.blt 0 n && Nat.blt n 24) (ldC σ a 0 l fun vs=>K (.agg vs.toArray)) (om (AF true n a σ) K)
   | none=>om (AF true n a σ) K
 | some (false,n)=>eN (WX P t) (AF false n a σ) K
 | none=>False
def QX (x:Value) (i:Nat):Option Value :=
 match x with
 | .tuple vs=>match vs.toList with
   | a::b::l=>(a::b::l)[i]?
   | _=>CY x i
 | _=>CY x i
def ADC (E:BP) (ev:Operand→Value) (o:Oper) (σ:AHeap) (K kp:WK):Prop :=
 match o.op with
 | .pick c a b=>wB (ev c) fun t=>K (pk (WX P o.type) t (ev a) (ev b)) σ
 | .box e x=>match eR P e with
   | some (g,n)=>cond (Nat.beq n 1 && !g) (cond (ev x).oneCell' (BE σ (.cells [ev x] e false) fun b σ=>K (.pointer (some ⟨b,0,none⟩)) σ) False)
     (cond (DQ (ev x)) (BE σ (.cells (ev x).cells.toList e false) fun b σ=>K (.pointer (some ⟨b,0,none⟩)) σ) False)
   | none=>False
 | .build t ps=>uT P t (ps.toList.map fun p=>(p.1,ev p.2)) fun v=>K v σ
 | .buildSlice t n ps=>nM P t n (ps.toList.map fun p=>(p.1,ev p.2)) σ K
 | .load t a=>AAW P t (ev a) σ fun v=>K v σ
 | .nilCheck x=>om (B5 (ev x)) fun v=>K v σ
 | .binOp op t x y _=>AEH P op t (ev x) (ev y) fun v=>K v σ
 | .unOp op t x=>eN (WX P t) (sB op (ev x)) fun v=>K v σ
 | .convert s d x=>AAZ P s d (ev x) σ fun v=>K v σ
 | .makeInterface t x=>om (KT P t (ev x)) fun v=>K v σ
 | .slice t x lo hi mx=>uJ P t (ev x) (lo.map ev) (hi.map ev) (mx.map ev) fun v=>K v σ
 | .fieldAddr t x f=>match NQ P t f with
   | some off=>om (AA off (ev x)) fun v=>K v σ
   | none=>False
 | .field t x f=>sU P t f (ev x) fun v=>K v σ
 | .indexAddr t x i=>zT P t (ev x) (ev i) fun v=>K v σ
 | .index t x i=>AD9 P t (ev x) (ev i) fun v=>K v σ
 | .extract x i=>eN (WX P o.type) (QX (ev x) i) fun v=>K v σ
 | .lookup t x i ok=>cond ok (om (EL P t (ev x) (ev i) ok σ) fun v=>K v σ) (eN (WX P o.type) (EL P t (ev x) (ev i) ok σ) fun v=>K v σ)
 | .entry it=>om (VF (ev it) σ) fun v=>K v σ
 | .typeAssert x _ t ok=>cond ok (om (H8 P t ok (ev x)) fun v=>K v σ) (eN (WX P t) (H8 P t ok (ev x)) fun v=>K v σ)
 | .call c=>match c.callee with
   | .builtin b=>fX P b c.argTypes.toList (c.args.toList.map ev) σ K
   | .value f=>wF (ev f) fun g first captured=>E g (first++c.args.toList.map ev++captured) σ (RP (rtK P o.type K) kp)
   | .invoke r name=>pu (BX P (ev r) name σ) fun r=>E r.1 (r.2::c.args.toList.map ev) σ (RP (rtK P o.type K) kp)
 | _=>OP P E ev o σ K kp
end
section
variable {P:Program} {σ:AHeap} {K K':Value→Prop}
theorem ACs {t:TypeId} {K:WK} {v:Value} {σ:AHeap} (h:rtK P t K v σ):K v σ:=by
 unfold rtK at h
 cases hr:AFZ P t with
 | none=>rw [hr] at h; exact h
 | some l=>rw [hr] at h; exact AEa h
theorem E2 {α:Type} {o:Option α} {K K':α→Prop} (hk:∀ v,K v→K' v) (h:pu o K):pu o K' :=
 let ⟨v,h1,h2⟩:=h; ⟨v,h1,hk v h2⟩
theorem ABz (x:Value) (i:Nat):QX x i=CY x i:=by
 unfold QX
 split
 ·rename_i vs
  split
  ·rename_i a b l h
   simp only [CY,h]
  ·rfl
 ·rfl
theorem ADt {op:BinOp} {t:TypeId} {x y:Value} (hk:∀ v,K v→K' v) (h:AEH P op t x y K):AA8 P op t x y K':=by
 unfold AEH at h
 unfold AA8
 have hd:∀ d,cond (ABh op) (eN .b (BF d op x y) K) (eN (WX P t) (BF d op x y) K)→pu (BF d op x y) K':=fun d h=>by
  cases hc:ABh op<;>rw [hc] at h<;>exact HR hk h
 cases hu:P.underlying t with
 | none=>rw [hu] at h; exact hd _ h
 | some d=>cases d<;>(rw [hu] at h; first | exact hd _ h | exact HR hk h)
theorem ADp {t:TypeId} {x:Value} (hk:∀ v,K v→K' v) (h:AD4 P t x σ K):xQ P t x σ K':=by
 unfold AD4 at h
 unfold xQ
 cases hu:P.underlying t with
 | none=>rw [hu] at h; exact h.elim
 | some d=>cases d<;>(rw [hu] at h; first | exact h.elim | exact HR hk h)
theorem zX {t:TypeId} {x:Value} {lo hi mx:Option Value} (hk:∀ v,K v→K' v) (h:uJ P t x lo hi mx K):jD P t x lo hi mx K':=by
 unfold uJ at h
 unfold jD
 cases hu:P.underlying t with
 | none=>rw [hu] at h; exact h.elim
 | some d =>
   rw [hu] at h
   cases d with
   | string=>cases mx<;>first | exact h.elim | exact HR hk h
   | slice e =>
     simp only at h ⊢
     cases he:P.info? e with
     | none=>rw [he] at h; exact h.elim
     | some i=>rw [he] at h; exact P4 hk h
   | array n e =>
     simp only at h ⊢
     cases he:P.info? e with
     | none=>rw [he] at h; exact h.elim
     | some i=>rw [he] at h; exact P4 hk h
   | pointer p =>
     simp only at h ⊢
     cases hp:P.underlying p with
     | none=>rw [hp] at h; exact h.elim
     | some d =>
       rw [hp] at h
       cases d with
       | array n e =>
         simp only at h ⊢
         cases he:P.info? e with
         | none=>rw [he] at h; exact h.elim
         | some i=>rw [he] at h; exact P4 hk h
       | _=>exact h.elim
   | _=>exact h.elim
theorem AB9 {t:TypeId} {x i:Value} (hk:∀ v,K v→K' v) (h:zT P t x i K):qC P t x i K':=by
 unfold zT at h
 unfold qC
 cases hu:P.underlying t with
 | none=>rw [hu] at h; exact h.elim
 | some d =>
   rw [hu] at h
   cases d with
   | slice e =>
     simp only at h ⊢
     cases he:P.info? e with
     | none=>rw [he] at h; exact h.elim
     | some i=>rw [he] at h; exact P4 hk h
   | array n e =>
     simp only at h ⊢
     cases he:P.info? e with
     | none=>rw [he] at h; exact h.elim
     | some i=>rw [he] at h; exact P4 hk h
   | _=>exact h.elim
theorem AC4 {s d:TypeId} {x:Value} (hk:∀ v,K v→K' v) (h:AAZ P s d x σ K):qG P s d x σ K':=by
 unfold AAZ at h
 unfold qG
 cases hu:P.underlying s with
 | none=>rw [hu] at h; exact HR hk h
 | some a =>
   rw [hu] at h
   cases hv:P.underlying d with
   | none=>rw [hv] at h; cases a<;>exact HR hk h
   | some b=>rw [hv] at h; cases a<;>cases b<;>exact HR hk h
theorem ABZ {t:TypeId} {f:Nat} {x:Value} (hk:∀ v,K v→K' v) (h:sU P t f x K):iW P t f x K':=by
 unfold sU at h
 unfold iW
 cases hu:P.underlying t with
 | none=>rw [hu] at h; exact h.elim
 | some d =>
   rw [hu] at h
   cases d<;>simp only at h ⊢<;>first | exact h.elim | skip
   rename_i fs
   cases hf:fs[f]? with
   | none=>rw [hf] at h; exact h.elim
   | some fd =>
     rw [hf] at h
     simp only at h ⊢
     cases hs:eR P fd.type with
     | none=>rw [hs] at h; exact h.elim
     | some g=>rw [hs] at h; exact HR hk h
theorem AEW {t:TypeId} {x i:Value} (hk:∀ v,K v→K' v) (h:AD9 P t x i K):AAA P t x i K':=by
 unfold AD9 at h
 unfold AAA
 cases hu:P.underlying t with
 | none=>rw [hu] at h; exact h.elim
 | some d =>
   rw [hu] at h
   cases d<;>simp only at h ⊢<;>first | exact h.elim | exact HR hk h | skip
   rename_i len e
   cases hi:P.info? e with
   | none=>rw [hi] at h; exact h.elim
   | some j =>
     rw [hi] at h
     simp only at h ⊢
     cases hs:eR P e with
     | none=>rw [hs] at h; exact h.elim
     | some g=>rw [hs] at h; exact HR hk h
theorem ABN {t:TypeId} {BW:List (Nat×Value)} (hk:∀ v,K v→K' v) (h:uT P t BW K):iS P t BW K':=by
 unfold uT at h
 unfold iS
 cases hz:CK P t with
 | none=>rw [hz] at h; exact h.elim
 | some z =>
   rw [hz] at h
   simp only at h ⊢
   cases hu:P.underlying t with
   | none=>rw [hu] at h; exact h.elim
   | some d =>
     rw [hu] at h
     cases d<;>simp only at h ⊢<;>first | exact h.elim | skip
     ·rename_i n e
      cases hi:P.info? e with
      | none=>rw [hi] at h; exact h.elim
      | some i =>
        rw [hi] at h
        obtain ⟨l,h1,h2⟩:=NH h
        exact ⟨.agg l.toArray,by simp only [sI,h1,Option.map_some],hk _ h2⟩
     ·rename_i fs
      cases hp:NB P fs.toList with
      | none=>rw [hp] at h; exact h.elim
      | some pl =>
        rw [hp] at h
        obtain ⟨l,h1,h2⟩:=NH h
        exact ⟨.agg l.toArray,by simp only [XZ,h1,Option.map_some],hk _ h2⟩
theorem xN {t:TypeId} {n:Nat} {ps:List (Nat×Value)} {K K':WK} (hk:∀ v σ,K v σ→K' v σ) (h:nM P t n ps σ K):aR P t n ps σ K':=by
 unfold nM at h
 unfold aR
 cases he:DH P t with
 | none=>rw [he] at h; exact h.elim
 | some p =>
   obtain ⟨e,z,by'⟩:=p
   rw [he] at h
   simp only at h ⊢
   cases n with
   | zero =>
     cases ps with
     | nil=>exact hk _ _ h
     | cons p ps=>exact h.elim
   | succ n =>
     simp only at h ⊢
     cases hz:CK P e with
     | none=>rw [hz] at h; exact h.elim
     | some zv =>
       rw [hz] at h
       simp only at h ⊢
       cases hc:(Nat.ble ((n+1)*z) 16777216 && Nat.blt 0 z) with
       | false=>rw [hc] at h; exact h.elim
       | true =>
         rw [hc] at h
         obtain ⟨l,h1,h2⟩:=NH h
         exact ⟨(.slice (some ⟨σ.size,0,none⟩) (n+1) (n+1),σ.push (.cells l e false)),by simp only [X3,hc,cond_true,h1,Option.map_some],hk _ _ h2⟩
theorem jM {b:Builtin} {ts:List TypeId} {args:List Value} {K K':WK} (hk:∀ v σ,K v σ→K' v σ) (h:KL P b ts args σ K):KL P b ts args σ K':=by
 unfold KL at h ⊢
 split at h
 ·rename_i t u s x
  cases he:DH P t with
  | none=>rw [he] at h; exact h.elim
  | some p =>
    obtain ⟨e,z,by'⟩:=p
    rw [he] at h
    simp only at h ⊢
    cases hz:CK P e with
    | none=>rw [hz] at h; exact h.elim
    | some zv =>
      rw [hz] at h
      simp only at h ⊢
      cases hn:Q4 P u<;>rw [hn] at h<;>simp only [cond_true,cond_false] at h ⊢
      ·cases hi:dN P u<;>rw [hi] at h<;>simp only [cond_true,cond_false] at h ⊢
       exact E2 (fun r=>hk _ _) h
      ·exact E2 (fun r=>hk _ _) h
 ·rename_i t _ d x
  cases he:DH P t with
  | none=>rw [he] at h; exact h.elim
  | some p =>
    obtain ⟨e,z,by'⟩:=p
    rw [he] at h
    exact E2 (fun r=>hk _ _) h
 ·rename_i t x
  unfold xQ at h ⊢
  cases hu:P.underlying t with
  | none=>rw [hu] at h; exact h.elim
  | some d=>cases d<;>(rw [hu] at h; first | exact h.elim | exact E2 (fun v=>hk _ _) h)
 ·exact E2 (fun r=>hk _ _) h
 ·exact E2 (fun r=>hk _ _) h
 ·exact E2 (fun r=>hk _ _) h
 ·rename_i t x
  cases hu:P.underlying t with
  | none=>rw [hu] at h; exact h.elim
  | some d=>cases d<;>(rw [hu] at h; first | exact h.elim | exact E2 (fun v=>hk _ _) h)
 ·rename_i t x
  cases he:DH P t with
  | none=>rw [he] at h; exact h.elim
  | some p =>
    obtain ⟨e,z,by'⟩:=p
    rw [he] at h
    simp only at h ⊢
    cases hz:CK P e with
    | none=>rw [hz] at h; exact h.elim
    | some zv=>rw [hz] at h; exact E2 (fun r=>hk _ _) h
 ·exact h.elim
theorem uD {b:Builtin} {ts:List TypeId} {args:List Value} {K K':WK} (hk:∀ v σ,K v σ→K' v σ) (h:fX P b ts args σ K):KL P b ts args σ K':=by
 unfold fX at h
 split at h
 ·exact ADp (fun v=>hk v σ) h
 ·exact HR (fun v=>hk v σ) h
 ·exact HR (fun v=>hk v σ) h
 ·rename_i t x
  unfold KL
  cases hu:P.underlying t with
  | none=>rw [hu] at h; exact h.elim
  | some d=>cases d<;>(rw [hu] at h; first | exact h.elim | (simp only [hu]; exact HR (fun v=>hk v σ) h))
 ·exact jM hk h
theorem ADE {t:TypeId} {a:Value} (hk:∀ v,K v→K' v) (h:AAW P t a σ K):match eR P t with
 | some (g,n)=>pu (AF g n a σ) K'
 | none=>False:=by
 unfold AAW at h
 cases hs:eR P t with
 | none=>rw [hs] at h; exact h.elim
 | some g =>
   obtain ⟨g,n⟩:=g
   rw [hs] at h
   cases g with
   | false=>exact HR hk h
   | true =>
     simp only at h ⊢
     cases hf:uX P 6 t with
     | none=>rw [hf] at h; exact P4 hk h
     | some l =>
       rw [hf] at h
       simp only at h
       cases hc:(Nat.beq l.length n && Nat.blt 0 n && Nat.blt n 24) with
       | false=>rw [hc] at h; exact P4 hk h
       | true =>
         rw [hc] at h
         simp only [Bool.and_eq_true] at hc
         have hl:=Nat.eq_of_beq_eq_true hc.1.1
         have hp:0<n:=by simpa using hc.1.2
         obtain ⟨vs,h1,h2⟩:=yV h (fun e=>by subst e; simp at hl; omega)
         rw [hl] at h1
         exact ⟨_,h1,hk _ h2⟩
def aW (E:BP):Prop:=∀ f a σ (Q Q':RK),(∀ r σ,Q r σ→Q' r σ)→E f a σ Q→E f a σ Q'
theorem nP {E:BP} (hE:aW E) {ev:Operand→Value} {o:Oper} {K K' kp kp':WK} (hk:∀ v σ,K v σ→K' v σ) (hkp:∀ v σ,kp v σ→kp' v σ) (h:ADC P E ev o σ K kp):OP P E ev o σ K' kp':=by
 have hrp:∀ t r σ,RP (rtK P t K) kp r σ→RP K' kp' r σ:=fun t r σ h=>by
  cases r with
  | ret v=>exact hk _ _ (ACs h)
  | pan v=>exact hkp _ _ h
 have hw:=fun (K:WK) v (h:K v σ)=>h
 obtain ⟨dst,op,type,pos,after,guard⟩:=o
 cases op<;>simp only [ADC,OP] at h ⊢<;>try (first | exact hk _ _ h | exact h.elim)
 case pick c a b =>
  unfold wB at h ⊢
  split at h
  ·rw [AFh] at h; exact hk _ _ h
  ·exact h.elim
 case alloc e =>
  cases hz:CK P e with
  | none=>rw [hz] at h; exact h.elim
  | some z=>rw [hz] at h; exact hk _ _ h
 case box e x =>
  cases hs:eR P e with
  | none=>rw [hs] at h; exact h.elim
  | some g =>
    obtain ⟨g,n⟩:=g
    rw [hs] at h
    simp only at h
    cases hn:(Nat.beq n 1 && !g) with
    | true =>
      rw [hn] at h
      simp only [cond_true] at h
      cases ho:(ev x).oneCell' with
      | false=>rw [ho] at h; exact h.elim
      | true =>
        rw [ho] at h
        obtain ⟨h1,h2⟩:=kT ho
        rw [h1,h2]
        exact hk _ _ h
    | false =>
      rw [hn] at h
      simp only [cond_false] at h
      cases hl:DQ (ev x) with
      | false=>rw [hl] at h; exact h.elim
      | true=>rw [hl] at h; exact hk _ _ h
 case build t ps=>exact ABN (fun v=>hk v σ) h
 case buildSlice t n ps=>exact xN hk h
 case load t a=>exact ADE (fun v=>hk v σ) h
 case store t a x =>
  cases hs:eR P t with
  | none=>rw [hs] at h; exact h.elim
  | some g=>rw [hs] at h; exact E2 (fun v=>hk _ v) h
 case nilCheck x=>exact P4 (fun v=>hk v σ) h
 case binOp op t x y ty=>exact ADt (fun v=>hk v σ) h
 case unOp op t x=>exact HR (fun v=>hk v σ) h
 case convert s d x=>exact AC4 (fun v=>hk v σ) h
 case makeInterface t x=>exact P4 (fun v=>hk v σ) h
 case makeSlice t l c =>
  cases he:DH P t with
  | none=>rw [he] at h; exact h.elim
  | some p =>
    obtain ⟨e,z,by'⟩:=p
    rw [he] at h
    simp only at h ⊢
    cases hz:CK P e with
    | none=>rw [hz] at h; exact h.elim
    | some zv=>rw [hz] at h; exact E2 (fun r=>hk _ _) h
 case slice t x lo hi mx=>exact zX (fun v=>hk v σ) h
 case fieldAddr t x f =>
  cases ho:NQ P t f with
  | none=>rw [ho] at h; exact h.elim
  | some off=>rw [ho] at h; exact P4 (fun v=>hk v σ) h
 case field t x f=>exact ABZ (fun v=>hk v σ) h
 case indexAddr t x i=>exact AB9 (fun v=>hk v σ) h
 case index t x i=>exact AEW (fun v=>hk v σ) h
 case extract x i=>rw [ABz] at h; exact HR (fun v=>hk v σ) h
 case makeMap t r=>exact E2 (fun r=>hk _ _) h
 case lookup t x i ok=>cases ok<;>first | exact P4 (fun v=>hk v σ) h | exact HR (fun v=>hk v σ) h
 case mapEntry t m k=>exact E2 (fun r=>hk _ _) h
 case entryStore t m s x=>exact E2 (fun v=>hk _ v) h
 case mapUpdate t m k x=>exact E2 (fun v=>hk _ v) h
 case range t x=>exact E2 (fun r=>hk _ _) h
 case next it str=>cases str<;>first | exact E2 (fun r=>hk _ _) h | exact E2 (fun L hL r hr=>hk _ _ (hL r hr)) h
 case entry it=>exact P4 (fun v=>hk v σ) h
 case typeAssert x xt t ok=>cases ok<;>first | exact P4 (fun v=>hk v σ) h | exact HR (fun v=>hk v σ) h
 case call c =>
  cases hc:c.callee with
  | builtin b=>rw [hc] at h; exact uD hk h
  | value f =>
    rw [hc] at h
    simp only at h ⊢
    unfold wF at h ⊢
    split at h
    ·exact hE _ _ _ _ _ (hrp type) h
    ·exact h.elim
  | invoke r name =>
    rw [hc] at h
    exact E2 (fun p h=>hE _ _ _ _ _ (hrp type) h) h
 case panic x =>
  unfold ACb at h ⊢
  split at h
  ·exact hkp _ _ h
  ·exact h.elim
end
end Go.Ax
namespace Go.Ax
open Go.RowKit
def NS:List VT→Type
 | []=>AHeap→Prop
 | .i _::L=>Int→NS L
 | .b::L=>Bool→NS L
 | .s::L=>ByteArray→NS L
 | .v::L=>Value→NS L
def NS.at:(L:List VT)→NS L→List Value→AHeap→Prop
 | [],p,[],σ=>p σ
 | .i k::L,p,v::vs,σ=>tI k (fun n=>NS.at L (p n) vs σ) v
 | .b::L,p,v::vs,σ=>tB (fun b=>NS.at L (p b) vs σ) v
 | .s::L,p,v::vs,σ=>tS (fun s=>NS.at L (p s) vs σ) v
 | .v::L,p,v::vs,σ=>NS.at L (p v) vs σ
 | [],_,_::_,_=>False
 | _::_,_,[],_=>False
def eH:(L:List VT)→(List Value→Prop)→Prop
 | [],p=>p []
 | .i k::L,p=>∀ n,eH L fun vs=>p (.int k n::vs)
 | .b::L,p=>∀ b,eH L fun vs=>p (.bool b::vs)
 | .s::L,p=>∀ s,eH L fun vs=>p (.string s::vs)
 | .v::L,p=>∀ v,eH L fun vs=>p (v::vs)
def VOk:List VT→List Value→Prop
 | [],[]=>True
 | t::L,v::vs=>ty t (fun _=>True) v∧VOk L vs
 | _,_=>False
theorem mU {t:VT} {K:Value→Prop} {v:Value} (h:ty t K v):ty t (fun _=>True) v:=ACC (fun _ _=>trivial) h
theorem NS.ok:∀ (L:List VT) (p:NS L) (vs:List Value) (σ:AHeap),NS.at L p vs σ→VOk L vs
 | [],p,[],σ,_=>trivial
 | .i k::L,p,v::vs,σ,h=>by
   have h:ty (.i k) (fun v=>match v with | .int _ n=>NS.at L (p n) vs σ | _=>False) v:=h
   refine ⟨mU h,?_⟩
   have:=KJ h
   split at this
   ·exact NS.ok L _ vs σ this
   ·exact this.elim
 | .b::L,p,v::vs,σ,h=>by
   have h:ty .b (fun v=>match v with | .bool n=>NS.at L (p n) vs σ | _=>False) v:=h
   refine ⟨mU h,?_⟩
   have:=KJ h
   split at this
   ·exact NS.ok L _ vs σ this
   ·exact this.elim
 | .s::L,p,v::vs,σ,h=>by
   have h:ty .s (fun v=>match v with | .string n=>NS.at L (p n) vs σ | _=>False) v:=h
   refine ⟨mU h,?_⟩
   have:=KJ h
   split at this
   ·exact NS.ok L _ vs σ this
   ·exact this.elim
 | .v::L,p,v::vs,σ,h=>⟨trivial,NS.ok L (p v) vs σ h⟩
 | [],_,_::_,_,h=>h.elim
 | .i _::_,_,[],_,h=>h.elim
 | .b::_,_,[],_,h=>h.elim
 | .s::_,_,[],_,h=>h.elim
 | .v::_,_,[],_,h=>h.elim
theorem eH.at:∀ (L:List VT) (p:List Value→Prop),eH L p→∀ vs,VOk L vs→p vs
 | [],p,h,[],_=>h
 | [],_,_,_::_,h=>h.elim
 | .i k::L,p,h,v::vs,⟨h1,h2⟩=>by
   simp only [ty,tI] at h1
   split at h1
   ·rename_i j n
    cases hd:decide (j=k) with
    | true=>have:=of_decide_eq_true hd; subst this; exact eH.at L (fun vs=>p (.int j n::vs)) (h n) vs h2
    | false=>rw [hd] at h1; exact h1.elim
   ·exact h1.elim
 | .b::L,p,h,v::vs,⟨h1,h2⟩=>by
   simp only [ty,tB] at h1
   split at h1
   ·exact eH.at L _ (h _) vs h2
   ·exact h1.elim
 | .s::L,p,h,v::vs,⟨h1,h2⟩=>by
   simp only [ty,tS] at h1
   split at h1
   ·exact eH.at L _ (h _) vs h2
   ·exact h1.elim
 | .v::L,p,h,v::vs,⟨_,h2⟩=>eH.at L (fun vs=>p (v::vs)) (h v) vs h2
 | _::_,_,_,[],h=>h.elim
theorem kJ.of:∀ (L:List Nat) (p:List Value→Prop),(∀ vs,vs.length=L.length→p vs)→kJ L p
 | [],p,h=>h [] rfl
 | _::L,p,h=>fun v=>kJ.of L (fun vs=>p (v::vs)) fun vs hl=>h (v::vs) (by simp [hl])
def eO.of:(L:List Nat)→(List Value→AHeap→Prop)→eO L
 | [],p=>p []
 | _::L,p=>fun v=>eO.of L fun vs=>p (v::vs)
theorem eO.at_of:∀ (L:List Nat) (p:List Value→AHeap→Prop) (vs:List Value) (σ:AHeap),vs.length=L.length→(eO.at L (eO.of L p) vs σ↔p vs σ)
 | [],p,[],σ,_=>Iff.rfl
 | _::L,p,v::vs,σ,h=>eO.at_of L (fun vs=>p (v::vs)) vs σ (by simpa using h)
 | [],_,_::_,_,h=>by simp at h
 | _::_,_,[],_,h=>by simp at h
section
variable (P:Program) (E:BP)
def AET (o:Oper) (k:FK) (kp:WK):FK:=fun fr σ=>ADC P E (R9 fr) o σ (fun v σ'=>k (H6 fr o.dst v) σ') kp
def ABF (all:List Oper) (kp:WK):List Oper→GM→FK→FK
 | [],_,kn=>kn
 | o::os,md,kn=>J7 all o md (fun md=>AET P E o (ABF all kp os md kn) kp) fun md fr σ=>ABF all kp os md kn (H6 fr o.dst C7) σ
def xre (all:List Oper):List Nat→FK→FK
 | [],k=>k
 | q::qs,k=>fun fr σ=>match all[q]? with
   | none=>False
   | some o=>J7 all o none (fun _ fr σ=>match o.dst with
     | some d=>wnx o (ADC P (fun _ _ _ _=>False) (R9 fr) o σ (fun v _=>AX v (B4 fr d)=true∧xre all qs k fr σ) noP)
     | none=>False) (fun _=>xre all qs k) fr σ
def rY (all:List Oper) (kp:WK):List (Nat×List Nat)→GM→FK→FK
 | [],_,kn=>kn
 | (i,chk)::os,md,kn=>fun fr σ=>match all[i]? with
   | none=>False
   | some o=>J7 all o md (fun md=>AET P E o (xre P all chk (rY all kp os (lQ chk md) kn)) kp) (fun md fr σ=>rY all kp os md kn (H6 fr o.dst C7) σ) fr σ
def xdt (all:List Oper) (kp:WK):DT→GM→FK→FK
 | .nil,_,kn=>kn
 | .step i chk t,md,kn=>fun fr σ=>match all[i]? with
   | none=>False
   | some o=>J7 all o md (fun md=>AET P E o (xre P all chk (xdt all kp t (lQ chk md) kn)) kp) (fun md fr σ=>xdt all kp t md kn (H6 fr o.dst C7) σ) fr σ
 | .alt x y,md,kn=>fun fr σ=>xdt all kp x md kn fr σ∧xdt all kp y md kn fr σ
def uR (kd:Nat→VT) (kp:WK):AC→FK→(Nat→FK)→FK→FK
 | .skip,kn,_,_=>kn
 | .region _ ops,kn,_,_=>ABF P E ops kp ops none kn
 | .dregion _ ops ord,kn,_,_=>rY P E ops kp ord none kn
 | .dtree _ ops t,kn,_,_=>xdt P E ops kp t none kn
 | .seq a b,kn,ke,kr=>uR kd kp a (uR kd kp b kn ke kr) ke kr
 | .cond c a b,kn,ke,kr=>fun fr σ=>wC (R9 fr c) (uR kd kp a kn ke kr fr σ) (uR kd kp b kn ke kr fr σ)
 | .block id b,kn,ke,kr=>uR kd kp b kn (fun i fr σ=>cond (Nat.beq i id) (kn fr σ) (ke i fr σ)) kr
 | .loop R L Lx b,_,ke,kr=>fun fr σ=>∃ I:Nat→NS (L.map kd),(∃ m,NS.at (L.map kd) (I m) (IU L fr) σ)∧∀ m,eH (L.map kd) fun vs=>∀ σ,NS.at (L.map kd) (I m) vs σ→uR kd kp b (fun fr σ=>∃ m'<m,NS.at (L.map kd) (I m') (IU L fr) σ) (fun i fr σ=>ke i (GO Lx (IU Lx fr)) σ) (fun fr σ=>kr (GO Lx (IU Lx fr)) σ) (zH R fr (GO L vs)) σ
 | .exit i,_,ke,_=>ke i
 | .ret,_,_,kr=>kr
 | .other _,_,_,_=>fun _ _=>False
 | .scope b,kn,ke,kr=>uR kd kp b kn ke kr
 | .label _,kn,_,_=>kn
 | .join L b,kn,ke,kr=>uR kd kp b (fun fr σ=>kn (GO L (IU L fr)) σ) (fun i fr σ=>ke i (GO L (IU L fr)) σ) (fun fr σ=>kr (GO L (IU L fr)) σ)
end
section
variable {P:Program} {kp kp':WK}
theorem P5 {all:List Oper} {o:Oper} {md:GM} {y n y' n':GM→FK} {fr:Fr} {σ:AHeap} (hy:∀ md fr,y md fr σ→y' md fr σ) (hn:∀ md fr,n md fr σ→n' md fr σ) (h:J7 all o md y n fr σ):J7 all o md y' n' fr σ:=by
 unfold J7 at h ⊢
 cases hg:o.guard with
 | none=>rw [hg] at h; exact hy _ _ h
 | some p =>
   obtain ⟨j,want⟩:=p
   rw [hg] at h
   simp only at h ⊢
   cases hm:yB md j want with
   | some b=>cases b<;>(rw [hm] at h; first | exact hy _ _ h | exact hn _ _ h)
   | none =>
     rw [hm] at h
     simp only at h ⊢
     cases ht:(all[j]?).bind (·.dst) with
     | none=>rw [ht] at h; exact h.elim
     | some t =>
       rw [ht] at h
       simp only at h ⊢
       unfold wG at h ⊢
       split at h
       ·cases want<;>first | exact hy _ _ h | exact hn _ _ h
       ·cases want<;>first | exact hy _ _ h | exact hn _ _ h
       ·exact ⟨h.1,hn _ _ h.2⟩
theorem aW.ev:aW (Ev P):=fun _ _ _ _ _ hq h=>h.mono hq
theorem aW.no:aW (fun _ _ _ _=>False):=fun _ _ _ _ _ _ h=>h
theorem nL (hkp:∀ v σ,kp v σ→kp' v σ) {all:List Oper} {k k':FK} (hk:∀ fr σ,k fr σ→k' fr σ):∀ (os:List Oper) (md:GM) (fr:Fr) (σ:AHeap),ABF P (Ev P) all kp os md k fr σ→yL P (Ev P) all kp' os md k' fr σ
 | [],_,fr,σ,h=>hk _ _ h
 | o::os,md,fr,σ,h=>P5 (fun md fr h=>nP aW.ev (fun v σ h=>nL hkp hk os md _ σ h) hkp h) (fun md fr h=>nL hkp hk os md _ σ h) h
theorem vW {all:List Oper} {k k':FK} (hk:∀ fr σ,k fr σ→k' fr σ):∀ (qs:List Nat) (fr:Fr) (σ:AHeap),xre P all qs k fr σ→zM P all qs k' fr σ
 | [],fr,σ,h=>hk _ _ h
 | q::qs,fr,σ,h=>by
   simp only [xre] at h
   simp only [zM]
   cases ho:all[q]? with
   | none=>rw [ho] at h; exact h.elim
   | some o =>
     rw [ho] at h
     refine P5 (fun _ fr h=>?_) (fun _ fr h=>vW hk qs fr σ h) h
     cases hd:o.dst with
     | none=>rw [hd] at h; exact h.elim
     | some d =>
       rw [hd] at h
       simp only at h ⊢
       have hn:∀ it,o.op≠.next it false:=fun it hi=>by simp only [wnx,hi] at h
       have hp:∀ x,o.op≠.panic x:=fun x hi=>by simp only [wnx,hi] at h
       have hw:∀ p:Prop,wnx o p=p:=fun p=>by
        unfold wnx
        split
        ·rename_i it hi; exact absurd hi (hn it)
        ·rename_i x hi; exact absurd hi (hp x)
        ·rfl
       rw [hw] at h ⊢
       exact nP aW.no (fun v σ' ⟨h1,h2⟩=>⟨h1,vW hk qs fr σ h2⟩) (fun _ _ h=>h) h
theorem oM (hkp:∀ v σ,kp v σ→kp' v σ) {all:List Oper} {k k':FK} (hk:∀ fr σ,k fr σ→k' fr σ):∀ (os:List (Nat×List Nat)) (md:GM) (fr:Fr) (σ:AHeap),rY P (Ev P) all kp os md k fr σ→dO P (Ev P) all kp' os md k' fr σ
 | [],_,fr,σ,h=>hk _ _ h
 | (i,chk)::os,md,fr,σ,h=>by
   simp only [rY] at h
   simp only [dO]
   cases ho:all[i]? with
   | none=>rw [ho] at h; exact h.elim
   | some o =>
     rw [ho] at h
     exact P5 (fun md fr h=>nP aW.ev (fun v σ h=>vW (fun fr σ h=>oM hkp hk os _ fr σ h) chk _ σ h) hkp h) (fun md fr h=>oM hkp hk os md _ σ h) h
theorem rU (hkp:∀ v σ,kp v σ→kp' v σ) {all:List Oper} {k k':FK} (hk:∀ fr σ,k fr σ→k' fr σ):∀ (t:DT) (md:GM) (fr:Fr) (σ:AHeap),xdt P (Ev P) all kp t md k fr σ→wdt P (Ev P) all kp' t md k' fr σ
 | .nil,_,fr,σ,h=>hk _ _ h
 | .alt x y,md,fr,σ,h=>⟨rU hkp hk x md fr σ h.1,rU hkp hk y md fr σ h.2⟩
 | .step i chk t,md,fr,σ,h=>by
   simp only [xdt] at h
   simp only [wdt]
   cases ho:all[i]? with
   | none=>rw [ho] at h; exact h.elim
   | some o =>
     rw [ho] at h
     exact P5 (fun md fr h=>nP aW.ev (fun v σ h=>vW (fun fr σ h=>rU hkp hk t _ fr σ h) chk _ σ h) hkp h) (fun md fr h=>rU hkp hk t md _ σ h) h
theorem wD (kd:Nat→VT) (hkp:∀ v σ,kp v σ→kp' v σ):∀ (c:AC) {qn qn':FK} {qe qe':Nat→FK} {qr qr':FK},(∀ fr σ,qn fr σ→qn' fr σ)→(∀ i fr σ,qe i fr σ→qe' i fr σ)→(∀ fr σ,qr fr σ→qr' fr σ)→∀ fr σ,uR P (Ev P) kd kp c qn qe qr fr σ→oT P (Ev P) kp' c qn' qe' qr' fr σ:=by
 intro c
 induction c with
 | skip=>intro _ _ _ _ _ _ hn he hr fr σ h; exact hn _ _ h
 | region id ops=>intro _ _ _ _ _ _ hn he hr fr σ h; exact nL hkp hn ops none fr σ h
 | dregion id ops ord=>intro _ _ _ _ _ _ hn he hr fr σ h; exact oM hkp hn ord none fr σ h
 | dtree id ops t=>intro _ _ _ _ _ _ hn he hr fr σ h; exact rU hkp hn t none fr σ h
 | seq a b iha ihb=>intro _ _ _ _ _ _ hn he hr fr σ h; exact iha (ihb hn he hr) he hr fr σ h
 | cond c a b iha ihb =>
   intro _ _ _ _ _ _ hn he hr fr σ h
   simp only [uR,oT,wC] at h ⊢
   split at h
   ·exact iha hn he hr _ _ h
   ·exact ihb hn he hr _ _ h
   ·exact h.elim
 | block id b ih =>
   intro qn qn' qe qe' qr qr' hn he hr fr σ h
   refine ih (qe:=fun i fr σ=>cond (Nat.beq i id) (qn fr σ) (qe i fr σ)) hn (fun i fr σ h=>?_) hr fr σ h
   cases hb:Nat.beq i id with
   | true=>rw [hb] at h; exact hn _ _ h
   | false=>rw [hb] at h; exact he i _ _ h
 | exit i=>intro _ _ _ _ _ _ hn he hr fr σ h; exact he i _ _ h
 | ret=>intro _ _ _ _ _ _ hn he hr fr σ h; exact hr _ _ h
 | label l=>intro _ _ _ _ _ _ hn he hr fr σ h; exact hn _ _ h
 | scope b ih=>intro _ _ _ _ _ _ hn he hr fr σ h; exact ih hn he hr fr σ h
 | other c=>intro _ _ _ _ _ _ hn he hr fr σ h; exact h.elim
 | join L b ih =>
   intro _ _ _ _ _ _ hn he hr fr σ h
   exact ih (fun fr σ h=>hn _ _ h) (fun i fr σ h=>he i _ _ h) (fun fr σ h=>hr _ _ h) fr σ h
 | loop R L Lx b ih =>
   intro qn qn' qe qe' qr qr' hn he hr fr σ h
   simp only [uR] at h
   simp only [oT]
   obtain ⟨I,⟨m0,h0⟩,hI⟩:=h
   have hlen:∀ fr:Fr,(IU L fr).length=L.length:=fun fr=>by simp [IU]
   refine ⟨fun m=>eO.of L (NS.at (L.map kd) (I m)),⟨m0,(eO.at_of L _ _ _ (hlen fr)).2 h0⟩,fun m=>kJ.of L _ fun vs hl σ hv=>?_⟩
   have hv':=(eO.at_of L _ vs σ hl).1 hv
   have hb:=eH.at _ _ (hI m) vs (NS.ok _ _ _ _ hv') σ hv'
   refine ih (fun fr σ h=>?_) (fun i fr σ h=>he i _ _ h) (fun fr σ h=>hr _ _ h) _ _ hb
   obtain ⟨m',h1,h2⟩:=h
   exact ⟨m',h1,(eO.at_of L _ _ _ (hlen fr)).2 h2⟩
end
def xfn (P:Program) (E:BP) (fn:Func) (h:Nat→Option RY) (kd:Nat→VT) (args:List Value) (σ:AHeap) (Q:RK):Prop :=
 cond (Nat.beq args.length (fn.params.size+fn.nfree)) (uR P E kd (fun v σ=>Q (.pan v) σ) (HO h (fn.body.getD .skip) 0).1 (aJ P fn.results.toList Q) (fun _ _ _=>False) (aJ P fn.results.toList Q) (GO (List.range (fn.params.size+fn.nfree)) args) σ) False
theorem Ev.xfn {P:Program} (hm:P.follows .mixedOrders=true) {f:FuncId} {fn:Func} (hf:P.funcs[f]?=some fn) (h:Nat→Option RY) (kd:Nat→VT) (hc:XP fn h=true) {args:List Value} {σ:AHeap} {Q:RK} (hx:Go.Ax.xfn P (Ev P) fn h kd args σ Q):Ev P f args σ Q:=by
 refine Ev.fn hm hf h hc ?_
 unfold Go.Ax.xfn at hx
 unfold Y4
 cases hb:Nat.beq args.length (fn.params.size+fn.nfree) with
 | false=>rw [hb] at hx; exact hx.elim
 | true =>
   rw [hb] at hx
   exact wD kd (fun _ _ h=>h) _ (fun _ _ h=>h) (fun _ _ _ h=>h) (fun _ _ h=>h) _ _ hx
end Go.Ax
namespace Go.Ax
open Go.RowKit
abbrev RE:=Nat→Option (Bool×C9)
def RE.emp:RE:=fun _=>none
def J (x y z:Option (Bool×C9)):Prop:=(x=none∧z=y)∨(y=none∧z=x)∨(∃ o,x=some (false,o)∧y=some (false,o)∧z=some (false,o))
theorem J.assoc {x y xy c r:Option (Bool×C9)} (h:J x y xy) (k:J xy c r):∃ yc,J y c yc∧J x yc r:=by
 rcases h with ⟨rfl,rfl⟩ | ⟨rfl,rfl⟩ | ⟨o,rfl,rfl,rfl⟩
 ·exact ⟨r,k,.inl ⟨rfl,rfl⟩⟩
 ·exact ⟨c,.inl ⟨rfl,rfl⟩,k⟩
 ·rcases k with ⟨hx,_⟩ | ⟨rfl,rfl⟩ | ⟨o',hx,rfl,rfl⟩
  ·cases hx
  ·exact ⟨some (false,o),.inr (.inl ⟨rfl,rfl⟩),.inr (.inr ⟨o,rfl,rfl,rfl⟩)⟩
  ·cases hx
   exact ⟨some (false,o),.inr (.inr ⟨o,rfl,rfl,rfl⟩),.inr (.inr ⟨o,rfl,rfl,rfl⟩)⟩
def RE.Join (a b r:RE):Prop:=∀ i,J (a i) (b i) (r i)
def RE.Of (r:RE) (σ:AHeap):Prop:=∀ i q o,r i=some (q,o)→σ.get i=some o∧i<σ.size
abbrev AK:=RE→Prop
def sep (A B:AK):AK:=fun r=>∃ a b,RE.Join a b r∧A a∧B b
def emp:AK:=fun r=>r=RE.emp
def HZ (p:Prop):AK:=fun r=>r=RE.emp∧p
def ex {α:Sort _} (A:α→AK):AK:=fun r=>∃ x,A x r
def pt (b:Nat) (o:C9):AK:=fun r=>r=fun i=>if i=b then some (true,o) else none
def ro (b:Nat) (o:C9):AK:=fun r=>r=fun i=>if i=b then some (false,o) else none
theorem RE.Join.comm {a b r:RE} (h:RE.Join a b r):RE.Join b a r:=fun i=>by
 rcases h i with ⟨x,y⟩ | ⟨x,y⟩ | ⟨o,x,y,z⟩
 ·exact .inr (.inl ⟨x,y⟩)
 ·exact .inl ⟨x,y⟩
 ·exact .inr (.inr ⟨o,y,x,z⟩)
theorem RE.Join.emp_left (r:RE):RE.Join RE.emp r r:=fun _=>.inl ⟨rfl,rfl⟩
theorem RE.Join.emp_eq {b r:RE} (h:RE.Join RE.emp b r):r=b:=by
 funext i
 rcases h i with ⟨_,y⟩ | ⟨x,y⟩ | ⟨o,x,_⟩
 ·exact y
 ·rw [y,x]; rfl
 ·cases x
theorem RE.Join.assoc {a b ab c r:RE} (h:RE.Join a b ab) (k:RE.Join ab c r):∃ bc,RE.Join b c bc∧RE.Join a bc r :=
 ⟨fun i=>Classical.choose ((h i).assoc (k i)),fun i=>(Classical.choose_spec ((h i).assoc (k i))).1,fun i=>(Classical.choose_spec ((h i).assoc (k i))).2⟩
theorem PJ (A B:AK):sep A B=sep B A:=by
 funext r; apply propext
 exact ⟨fun ⟨a,b,h,x,y⟩=>⟨b,a,h.comm,y,x⟩,fun ⟨a,b,h,x,y⟩=>⟨b,a,h.comm,y,x⟩⟩
theorem EO (A B C:AK):sep (sep A B) C=sep A (sep B C):=by
 funext r; apply propext
 constructor
 ·rintro ⟨ab,c,h,⟨a,b,k,x,y⟩,z⟩
  obtain ⟨bc,h1,h2⟩:=k.assoc h
  exact ⟨a,bc,h2,x,b,c,h1,y,z⟩
 ·rintro ⟨a,bc,h,x,b,c,k,y,z⟩
  obtain ⟨ba,h1,h2⟩:=k.comm.assoc h.comm
  exact ⟨ba,c,h2.comm,⟨a,b,h1.comm,x,y⟩,z⟩
theorem M9 (A:AK):sep emp A=A:=by
 funext r; apply propext
 constructor
 ·rintro ⟨a,b,h,rfl,y⟩; rw [h.emp_eq]; exact y
 ·intro h; exact ⟨_,r,RE.Join.emp_left r,rfl,h⟩
def AY:List AK→AK
 | []=>emp
 | A::l=>sep A (AY l)
theorem NJ (l m:List AK):AY (l++m)=sep (AY l) (AY m):=by
 induction l with
 | nil=>simp [AY,M9]
 | cons A l ih=>simp [AY,ih,EO]
theorem zE {l m:List AK} (h:l.Perm m):AY l=AY m:=by
 induction h with
 | nil=>rfl
 | cons x _ ih=>simp [AY,ih]
 | swap x y l=>simp only [AY]; rw [← EO,PJ y x,EO]
 | trans _ _ ih1 ih2=>rw [ih1,ih2]
def H (l:List AK) (σ:AHeap):Prop:=∃ r,RE.Of r σ∧AY l r
theorem RE.Of.left {a b r:RE} {σ:AHeap} (h:RE.Of r σ) (j:RE.Join a b r):RE.Of a σ:=fun i q o ha=>by
 rcases j i with ⟨x,y⟩ | ⟨x,y⟩ | ⟨o',x,y,z⟩
 ·rw [x] at ha; cases ha
 ·exact h i q o (by rw [y,ha])
 ·rw [x] at ha; cases ha; exact h i _ _ z
theorem H.perm {l m:List AK} {σ:AHeap} (h:H l σ) (p:l.Perm m):H m σ:=by
 obtain ⟨r,h1,h2⟩:=h; exact ⟨r,h1,by rw [← zE p]; exact h2⟩
theorem H.left {l m:List AK} {σ:AHeap} (h:H (l++m) σ):H l σ:=by
 obtain ⟨r,h1,h2⟩:=h
 rw [NJ] at h2
 obtain ⟨a,b,j,x,y⟩:=h2
 exact ⟨a,h1.left j,x⟩
theorem H.nil (σ:AHeap):H [] σ:=⟨RE.emp,(fun i q o h=>by simp [RE.emp] at h),rfl⟩
theorem H.tail {A:AK} {l:List AK} {σ:AHeap} (h:H (A::l) σ):H l σ:=(h.perm (by simpa using List.perm_append_comm (l₁:=[A]) (l₂:=l)):H (l++[A]) σ).left
theorem H.second {A B:AK} {l:List AK} {σ:AHeap} (h:H (A::B::l) σ):H (A::l) σ :=
 (h.perm (List.Perm.cons A (by simpa using List.perm_append_comm (l₁:=[B]) (l₂:=l))):H ((A::l)++[B]) σ).left
def dD (l:List AK) (is:List Nat):List AK:=is.map fun i=>l.getD i emp
theorem LY:∀ (l:List AK) (i:Nat),AY l=sep (l.getD i emp) (AY (l.set i emp))
 | [],i=>by simp [AY,M9]
 | A::l,0=>by simp [AY,M9]
 | A::l,i+1=>by
   simp only [AY,List.getD_cons_succ,List.set_cons_succ]
   rw [LY l i,← EO,PJ A,EO]
theorem UN (l:List AK) (i:Nat) (B:AK) (h:i<l.length):AY (l.set i B)=sep B (AY (l.set i emp)):=by
 rw [LY _ i,List.set_set]
 simp [List.getD,h]
theorem i9 {l:List AK}:∀ (is:List Nat),is.Nodup→∃ K,AY l=sep (AY (dD l is)) K
 | [],_=>⟨AY l,by simp [dD,AY,M9]⟩
 | i::is,hn=>by
   rw [List.nodup_cons] at hn
   obtain ⟨K,hK⟩:=i9 (l:=l.set i emp) is hn.2
   refine ⟨K,?_⟩
   rw [LY l i,hK]
   have hp:dD (l.set i emp) is=dD l is:=by
    unfold dD
    apply List.map_congr_left
    intro x hx
    have hx':i≠x:=fun e=>hn.1 (e▸hx)
    simp [List.getD,List.getElem?_set,hx']
   rw [hp]
   show _=sep (sep _ _) _
   rw [EO]
   rfl
theorem H.pick {l:List AK} {σ:AHeap} (h:H l σ) (is:List Nat) (hn:is.Nodup):H (dD l is) σ:=by
 obtain ⟨K,hK⟩:=i9 (l:=l) is hn
 obtain ⟨r,h1,h2⟩:=h
 rw [hK] at h2
 obtain ⟨a,b,j,x,y⟩:=h2
 exact ⟨a,h1.left j,x⟩
theorem H.front {l:List AK} {σ:AHeap} {A:AK} (h:H l σ) (i:Nat) (hi:l[i]?=some A):H (A::l.set i emp) σ:=by
 obtain ⟨r,h1,h2⟩:=h
 rw [LY l i] at h2
 simp only [List.getD,hi,Option.getD_some] at h2
 exact ⟨r,h1,h2⟩
theorem H.back {l:List AK} {σ:AHeap} {A B:AK} (i:Nat) (hi:l[i]?=some A) (h:H (B::l.set i emp) σ):H (l.set i B) σ:=by
 have hlt:=(List.getElem?_eq_some_iff.1 hi).1
 obtain ⟨r,h1,h2⟩:=h
 exact ⟨r,h1,by rw [UN l i B hlt]; exact h2⟩
theorem A8 {l m:List AK} {σ:AHeap}:H (AY l::m) σ↔H (l++m) σ:=by
 unfold H; simp only [AY,NJ]
theorem JM {α:Sort _} {A:α→AK} {m:List AK} {σ:AHeap}:H (ex A::m) σ↔∃ x,H (A x::m) σ:=by
 constructor
 ·rintro ⟨r,h,a,b,j,⟨x,hx⟩,hb⟩; exact ⟨x,r,h,a,b,j,hx,hb⟩
 ·rintro ⟨x,r,h,a,b,j,hx,hb⟩; exact ⟨r,h,a,b,j,⟨x,hx⟩,hb⟩
theorem BK {p:Prop} {m:List AK} {σ:AHeap}:H (HZ p::m) σ↔p∧H m σ:=by
 constructor
 ·rintro ⟨r,h,a,b,j,⟨rfl,hp⟩,hb⟩; exact ⟨hp,r,h,by rw [j.emp_eq]; exact hb⟩
 ·rintro ⟨hp,r,h,hb⟩; exact ⟨r,h,_,r,RE.Join.emp_left r,⟨rfl,hp⟩,hb⟩
theorem AAJ {m:List AK} {σ:AHeap}:H (emp::m) σ↔H m σ:=by
 unfold H; simp only [AY,M9]
theorem BB {A B:AK} {m:List AK} {σ:AHeap}:H (sep A B::m) σ↔H (A::B::m) σ:=by
 unfold H; simp only [AY,EO]
theorem H.snoc {A:AK} {l:List AK} {σ:AHeap} (h:H (A::l) σ):H (l++[A]) σ:=h.perm (by simpa using List.perm_append_comm (l₁:=[A]) (l₂:=l))
theorem H.unsnoc {A:AK} {l:List AK} {σ:AHeap} (h:H (l++[A]) σ):H (A::l) σ:=h.perm (List.perm_append_comm (l₁:=l) (l₂:=[A]))
theorem H.get0 {b:Nat} {o:C9} {l:List AK} {σ:AHeap} (h:H (pt b o::l) σ):σ.get b=some o∧b<σ.size:=by
 obtain ⟨r,h,a,c,j,rfl,hc⟩:=h
 exact (h.left j) b true o (by simp)
theorem H.rget0 {b:Nat} {o:C9} {l:List AK} {σ:AHeap} (h:H (ro b o::l) σ):σ.get b=some o∧b<σ.size:=by
 obtain ⟨r,h,a,c,j,rfl,hc⟩:=h
 exact (h.left j) b false o (by simp)
theorem H.get {l:List AK} {σ:AHeap} (h:H l σ) (i:Nat) {b:Nat} {o:C9} (hi:l[i]?=some (pt b o)):σ.get b=some o:=(h.front i hi).get0.1
theorem H.set0 {b:Nat} {o:C9} {l:List AK} {σ:AHeap} (h:H (pt b o::l) σ) (o':C9):H (pt b o'::l) (σ.set b o'):=by
 obtain ⟨r,h,a,c,j,rfl,hc⟩:=h
 refine ⟨fun i=>if i=b then some (true,o') else r i,?_,fun i=>if i=b then some (true,o') else none,c,?_,rfl,hc⟩
 ·intro i q x hx
  simp only at hx
  rw [AHeap.get_set]
  split at hx
  ·rename_i e; subst e; cases hx
   exact ⟨by simp,((h.left j) i true o (by simp)).2⟩
  ·rename_i e
   rw [if_neg e]; exact h i q x hx
 ·intro i
  have hj:=j i
  by_cases e:i=b
  ·subst e
   simp only [if_pos]
   simp only [if_pos] at hj
   rcases hj with ⟨x,_⟩ | ⟨x,_⟩ | ⟨_,x,_⟩
   ·cases x
   ·exact .inr (.inl ⟨x,rfl⟩)
   ·cases x
  ·simp only [if_neg e] at hj ⊢
   exact hj
theorem H.set {l:List AK} {σ:AHeap} (h:H l σ) (i:Nat) {b:Nat} {o:C9} (hi:l[i]?=some (pt b o)) (o':C9):H (l.set i (pt b o')) (σ.set b o'):=H.back i hi ((h.front i hi).set0 o')
theorem H.push {l:List AK} {σ:AHeap} (h:H l σ) (o:C9):H (l++[pt σ.size o]) (σ.push o):=by
 refine H.snoc ?_
 obtain ⟨r,h,hl⟩:=h
 have hfree:r σ.size=none:=by
  cases hr:r σ.size with
  | none=>rfl
  | some x=>obtain ⟨q,y⟩:=x; have:=(h _ q y hr).2; omega
 refine ⟨fun i=>if i=σ.size then some (true,o) else r i,?_,fun i=>if i=σ.size then some (true,o) else none,r,?_,rfl,hl⟩
 ·intro i q x hx
  simp only at hx
  rw [AHeap.get_push]
  split at hx
  ·rename_i e; subst e; cases hx; exact ⟨by simp,by simp⟩
  ·rename_i e; rw [if_neg e]; exact ⟨(h i q x hx).1,by have:=(h i q x hx).2; simp; omega⟩
 ·intro i
  by_cases e:i=σ.size
  ·subst e; simp [hfree]; exact .inr (.inl ⟨rfl,rfl⟩)
  ·simp [e]; exact .inl ⟨rfl,rfl⟩
theorem H.freeze0 {b:Nat} {o:C9} {l:List AK} {σ:AHeap} (h:H (pt b o::l) σ):H (ro b o::l) σ:=by
 obtain ⟨r,h,a,c,j,rfl,hc⟩:=h
 refine ⟨fun i=>if i=b then some (false,o) else r i,?_,fun i=>if i=b then some (false,o) else none,c,?_,rfl,hc⟩
 ·intro i q x hx
  simp only at hx
  split at hx
  ·rename_i e; subst e; cases hx; exact (h.left j) i true o (by simp)
  ·exact h i q x hx
 ·intro i
  have hj:=j i
  by_cases e:i=b
  ·subst e
   simp only [if_pos]
   simp only [if_pos] at hj
   rcases hj with ⟨x,_⟩ | ⟨x,_⟩ | ⟨_,x,_⟩
   ·cases x
   ·exact .inr (.inl ⟨x,rfl⟩)
   ·cases x
  ·simp only [if_neg e] at hj ⊢
   exact hj
theorem H.freeze {l:List AK} {σ:AHeap} (h:H l σ) (i:Nat) {b:Nat} {o:C9} (hi:l[i]?=some (pt b o)):H (l.set i (ro b o)) σ:=H.back i hi (h.front i hi).freeze0
theorem ADr (b:Nat) (o:C9):sep (ro b o) (ro b o)=ro b o:=by
 funext r; apply propext
 constructor
 ·rintro ⟨a,c,j,rfl,rfl⟩
  funext i
  rcases j i with ⟨x,y⟩ | ⟨x,y⟩ | ⟨o',x,y,z⟩
  ·exact y
  ·exact y
  ·simp only at x z
   split at x
   ·cases x; rename_i e; rw [z,if_pos e]
   ·cases x
 ·rintro rfl
  refine ⟨_,_,fun i=>?_,rfl,rfl⟩
  by_cases e:i=b
  ·exact .inr (.inr ⟨o,by simp [e],by simp [e],by simp [e]⟩)
  ·exact .inl ⟨by simp [e],rfl⟩
def Y5 (A:AK):Prop:=∀ r,A r→sep A A r
theorem Y5.ro (b:Nat) (o:C9):Y5 (ro b o):=fun r h=>by rw [ADr]; exact h
theorem Y5.pure (p:Prop):Y5 (HZ p):=by
 rintro r ⟨rfl,hp⟩; exact ⟨_,_,RE.Join.emp_left _,⟨rfl,hp⟩,⟨rfl,hp⟩⟩
theorem Y5.emp:Y5 emp:=fun r h=>by rw [M9]; exact h
theorem Y5.ex {α:Sort _} {A:α→AK} (h:∀ x,Y5 (A x)):Y5 (ex A):=by
 rintro r ⟨x,hx⟩
 obtain ⟨a,b,j,ha,hb⟩:=h x r hx
 exact ⟨a,b,j,⟨x,ha⟩,⟨x,hb⟩⟩
theorem Y5.sep {A B:AK} (h:Y5 A) (k:Y5 B):Y5 (sep A B):=by
 rintro r ⟨a,b,j,ha,hb⟩
 have e:Ax.sep (Ax.sep A B) (Ax.sep A B)=Ax.sep (Ax.sep A A) (Ax.sep B B):=by
  rw [EO,← EO B A B,PJ B A,EO A B B,← EO]
 rw [e]
 exact ⟨a,b,j,h a ha,k b hb⟩
theorem Y5.star:∀ {l:List AK},(∀ A∈l,Y5 A)→Y5 (AY l)
 | [],_=>Y5.emp
 | A::l,h=>Y5.sep (h A (by simp)) (Y5.star fun B hB=>h B (by simp [hB]))
theorem H.dup0 {l:List AK} {σ:AHeap} {A:AK} (h:H (A::l) σ) (hd:Y5 A):H (A::A::l) σ:=by
 rw [← BB]
 obtain ⟨r,h,a,b,j,x,y⟩:=h
 exact ⟨r,h,a,b,j,hd a x,y⟩
theorem H.dup {l:List AK} {σ:AHeap} (h:H l σ) (i:Nat) {A:AK} (hi:l[i]?=some A) (hd:Y5 A):H (l++[A]) σ:=by
 have h1:=h.front i hi
 have h2:H (A::A::l.set i emp) σ:=h1.dup0 hd
 have hlt:=(List.getElem?_eq_some_iff.1 hi).1
 have hs:l.set i A=l:=by
  apply List.ext_getElem?
  intro j
  rw [List.getElem?_set]
  split
  ·rename_i e; subst e; exact hi.symm
  ·rfl
 obtain ⟨r,g1,g2⟩:=h2
 refine H.snoc ⟨r,g1,?_⟩
 have:AY (A::l)=sep A (sep A (AY (l.set i emp))):=by
  show sep A (AY l)=_
  conv=>lhs; rw [← hs]
  rw [UN l i A hlt]
 rw [this]; exact g2
theorem H.ne2 {l:List AK} {σ:AHeap} {b c:Nat} {o p:C9} (h:H (pt b o::pt c p::l) σ):b≠c:=by
 rintro rfl
 obtain ⟨r,h,a,d,j,rfl,a2,d2,j2,rfl,hd⟩:=h
 have h2:d b≠none:=by
  rcases j2 b with ⟨x,y⟩ | ⟨x,y⟩ | ⟨_,_,_,z⟩
  ·simp at x
  ·rw [y]; simp
  ·rw [z]; simp
 rcases j b with ⟨x,_⟩ | ⟨x,_⟩ | ⟨_,x,_⟩
 ·simp at x
 ·exact h2 x
 ·simp at x
end Go.Ax
namespace Go.Ax
open Go.RowKit
@[congr] theorem AFs {α:Type} {o o':Option α} {k:α→Prop} (h:o=o'):pu o k=pu o' k:=by rw [h]
@[congr] theorem AFV {v v':Value} {a b:Prop} (h:v=v'):wC v a b=wC v' a b:=by rw [h]
@[congr] theorem AF5 {v v':Value} {k:Bool→Prop} (h:v=v'):wB v k=wB v' k:=by rw [h]
@[congr] theorem AFF {v v':Value} {a b c:Prop} (h:v=v'):wG v a b c=wG v' a b c:=by rw [h]
@[congr] theorem AFb {v v':Value} {k:FuncId→List Value→List Value→Prop} (h:v=v'):wF v k=wF v' k:=by rw [h]
@[congr] theorem AEM {σ σ':AHeap} {o o':C9} {k:Nat→AHeap→Prop} (h:σ=σ') (g:o=o'):BE σ o k=BE σ' o' k:=by rw [h,g]
@[congr] theorem AFH {P:Program} {f:FuncId} {a a':List Value} {σ σ':AHeap} {Q:RK} (h:a=a') (g:σ=σ'):Ev P f a σ Q=Ev P f a' σ' Q:=by rw [h,g]
@[simp] theorem A5 {α:Type} (v:α) (k:α→Prop):pu (some v) k=k v:=propext ⟨fun ⟨_,h,hk⟩=>by cases h; exact hk,fun h=>⟨v,rfl,h⟩⟩
@[simp] theorem AGV {α:Type} (k:α→Prop):pu none k=False:=propext ⟨(fun ⟨_,h,_⟩=>by cases h),False.elim⟩
@[simp] theorem AGN (a b:Prop):wC (.bool true) a b=a:=rfl
@[simp] theorem pJ (a b:Prop):wC (.bool false) a b=b:=rfl
@[simp] theorem AB7 (a b c:Prop):wG (.bool true) a b c=a:=rfl
@[simp] theorem ABj (a b c:Prop):wG (.bool false) a b c=b:=rfl
@[simp] theorem AGS (b:Bool) (k:Bool→Prop):wB (.bool b) k=k b:=rfl
@[simp] theorem AGL (g:FuncId) (a c:Array Value) (k:FuncId→List Value→List Value→Prop):wF (.func (.func g) a c) k=k g a.toList c.toList:=rfl
theorem AEc {b:Bool} {x y:Prop} (h1:b=true→x) (h2:b=false→y):wC (.bool b) x y:=by cases b; exact h2 rfl; exact h1 rfl
theorem VH {p:Prop} [Decidable p] {x y:Prop} (h1:p→x) (h2:¬ p→y):wC (.bool (decide p)) x y:=AEc (fun h=>h1 (by simpa using h)) fun h=>h2 (by simpa using h)
theorem AEU {b:Bool} {x y z:Prop} (h1:b=true→x) (h2:b=false→y):wG (.bool b) x y z:=by cases b; exact h2 rfl; exact h1 rfl
theorem nF {p:Prop} [Decidable p] {x y z:Prop} (h1:p→x) (h2:¬ p→y):wG (.bool (decide p)) x y z:=AEU (fun h=>h1 (by simpa using h)) fun h=>h2 (by simpa using h)
def one (v:Value):Bool:=v.oneCell'
section
variable (n:Int) (n2 c:Nat) (x y:Array Value) (v:Value)
@[simp] theorem AEv (b:Bool):DQ (.bool b)=true:=rfl
@[simp] theorem AFW (b:Bool):one (.bool b)=true:=rfl
@[simp] theorem AD0 (b:Bool):Value.cells (.bool b)=#[.bool b]:=rfl
@[simp] theorem AFk (k:IntKind):DQ (.int k n)=true:=rfl
@[simp] theorem AGZ (k:IntKind):one (.int k n)=true:=rfl
@[simp] theorem AE3 (k:IntKind):Value.cells (.int k n)=#[.int k n]:=rfl
@[simp] theorem ADR (s:ByteArray):DQ (.string s)=true:=rfl
@[simp] theorem AEV (s:ByteArray):one (.string s)=true:=rfl
@[simp] theorem ACl (s:ByteArray):Value.cells (.string s)=#[.string s]:=rfl
@[simp] theorem ACN (a:Option Addr):DQ (.pointer a)=true:=rfl
@[simp] theorem ADa (a:Option Addr):one (.pointer a)=true:=rfl
@[simp] theorem ABt (a:Option Addr):Value.cells (.pointer a)=#[.pointer a]:=rfl
@[simp] theorem AED (a:Option Addr):DQ (.slice a n2 c)=true:=rfl
@[simp] theorem AEu (a:Option Addr):one (.slice a n2 c)=true:=rfl
@[simp] theorem ADP (a:Option Addr):Value.cells (.slice a n2 c)=#[.slice a n2 c]:=rfl
@[simp] theorem AFR (r:Option Nat):DQ (.map r)=true:=rfl
@[simp] theorem AGK (r:Option Nat):one (.map r)=true:=rfl
@[simp] theorem AEn (r:Option Nat):Value.cells (.map r)=#[.map r]:=rfl
@[simp] theorem AEq (f:Fn):DQ (.func f x y)=true:=rfl
@[simp] theorem AFM (f:Fn):one (.func f x y)=true:=rfl
@[simp] theorem AEL (f:Fn):Value.cells (.func f x y)=#[.func f x y]:=rfl
@[simp] theorem AB2:DQ (.nilFunc)=true:=rfl
@[simp] theorem ADX:one (.nilFunc)=true:=rfl
@[simp] theorem ABw:Value.cells (.nilFunc)=#[.nilFunc]:=rfl
@[simp] theorem ABs:DQ (.nilIface)=true:=rfl
@[simp] theorem AC2:one (.nilIface)=true:=rfl
@[simp] theorem ABC:Value.cells (.nilIface)=#[.nilIface]:=rfl
@[simp] theorem AEJ (t:TypeId):DQ (.iface t v)=true:=rfl
@[simp] theorem AEy (t:TypeId):one (.iface t v)=true:=rfl
@[simp] theorem ADM (t:TypeId):Value.cells (.iface t v)=#[.iface t v]:=rfl
@[simp] theorem AFQ:DQ (.agg x)=true:=rfl
@[simp] theorem AEr:Value.cells (.agg x)=x:=rfl
end
section
variable (d:Option TypeDesc) (k:IntKind) (a b:Int)
@[simp] theorem vB:BF d .add (.int k a) (.int k b)=some (.int k (k.wrap (a+b))):=by simp [BF,UI]
@[simp] theorem ADD:BF d .sub (.int k a) (.int k b)=some (.int k (k.wrap (a - b))):=by simp [BF,UI]
@[simp] theorem ACi:BF d .mul (.int k a) (.int k b)=some (.int k (k.wrap (a*b))):=by simp [BF,UI]
@[simp] theorem AGX:BF d .quo (.int k a) (.int k b)=if b=0 then none else some (.int k (k.wrap (a.tdiv b))):=by simp [BF,UI]
@[simp] theorem ACd:BF d .rem (.int k a) (.int k b)=if b=0 then none else some (.int k (a.tmod b)):=by simp [BF,UI]
@[simp] theorem AGJ:BF d .and (.int k a) (.int k b)=some (.int k (k.wrap (BitVec.ofInt k.bits a &&& BitVec.ofInt k.bits b).toNat)):=by simp [BF,UI]
@[simp] theorem AGj:BF d .or (.int k a) (.int k b)=some (.int k (k.wrap (BitVec.ofInt k.bits a ||| BitVec.ofInt k.bits b).toNat)):=by simp [BF,UI]
@[simp] theorem AGT:BF d .xor (.int k a) (.int k b)=some (.int k (k.wrap (BitVec.ofInt k.bits a ^^^ BitVec.ofInt k.bits b).toNat)):=by simp [BF,UI]
@[simp] theorem AGG:BF d .eql (.int k a) (.int k b)=some (.bool (decide (a=b))):=by
  simp only [BF,if_true,UI]
  rw [show (a == b)=decide (a=b) from by by_cases h:a=b<;>simp [h]]
@[simp] theorem wO:BF d .neq (.int k a) (.int k b)=some (.bool (decide (a≠b))):=by
  simp only [BF,if_true,UI,bne,decide_not]
  rw [show (a == b)=decide (a=b) from by by_cases h:a=b<;>simp [h]]
@[simp] theorem ACh:BF d .lss (.int k a) (.int k b)=some (.bool (decide (a<b))):=by simp [BF,UI]
@[simp] theorem AGM:BF d .leq (.int k a) (.int k b)=some (.bool (decide (a≤b))):=by simp [BF,UI]
@[simp] theorem AGQ:BF d .gtr (.int k a) (.int k b)=some (.bool (decide (b<a))):=by simp [BF,UI]
@[simp] theorem AGI:BF d .geq (.int k a) (.int k b)=some (.bool (decide (b≤a))):=by simp [BF,UI]
end
@[simp] theorem AGW (a b:Bool):BF (some .bool) .eql (.bool a) (.bool b)=some (.bool (a == b)):=rfl
@[simp] theorem AGH (a b:Bool):BF (some .bool) .neq (.bool a) (.bool b)=some (.bool (!(a == b))):=rfl
@[simp] theorem AGD (t:TypeId) (b:Option Addr):BF (some (.pointer t)) .eql (.pointer none) (.pointer b)=some (.bool b.isNone):=rfl
@[simp] theorem UY (t:TypeId) (a:Addr):BF (some (.pointer t)) .eql (.pointer (some a)) (.pointer none)=some (.bool false):=rfl
@[simp] theorem AFl (t:TypeId) (b:Option Addr):BF (some (.pointer t)) .neq (.pointer none) (.pointer b)=some (.bool !b.isNone):=rfl
@[simp] theorem AF0 (t:TypeId) (a:Addr):BF (some (.pointer t)) .neq (.pointer (some a)) (.pointer none)=some (.bool true):=rfl
@[simp] theorem AFE (t:TypeId) (l c:Nat) (b:Option Addr) (m d:Nat):BF (some (.slice t)) .eql (.slice none l c) (.slice b m d)=some (.bool b.isNone):=rfl
@[simp] theorem AFf (t:TypeId) (a:Addr) (l c m d:Nat):BF (some (.slice t)) .eql (.slice (some a) l c) (.slice none m d)=some (.bool false):=rfl
@[simp] theorem AFr (t:TypeId) (l c:Nat) (b:Option Addr) (m d:Nat):BF (some (.slice t)) .neq (.slice none l c) (.slice b m d)=some (.bool !b.isNone):=rfl
@[simp] theorem AFt (t:TypeId) (a:Addr) (l c m d:Nat):BF (some (.slice t)) .neq (.slice (some a) l c) (.slice none m d)=some (.bool true):=rfl
@[simp] theorem AAM (b:Bool):sB .not (.bool b)=some (.bool !b):=rfl
@[simp] theorem AG3 (k:IntKind) (n:Int):sB .neg (.int k n)=some (.int k (k.wrap (0 - n))):=rfl
@[simp] theorem AFn (k k':IntKind) (n:Int):wJ k (.int k' n)=some (.int k (k.wrap n)):=rfl
@[simp] theorem min2 (k k':IntKind) (a b:Int):kS (.int k a) (.int k' b)=some (.int k (if b<a then b else a)):=rfl
@[simp] theorem max2 (k k':IntKind) (a b:Int):lR (.int k a) (.int k' b)=some (.int k (if b > a then b else a)):=rfl
@[simp] theorem PI (a:Option Addr) (n c:Nat):BH (.slice a n c)=some (.int .i64 n):=rfl
@[simp] theorem ABv (s:ByteArray):m9 (.string s)=some (.int .i64 s.size):=rfl
theorem wrap_i64 {n:Int} (h : -9223372036854775808≤n∧n<9223372036854775808):IntKind.i64.wrap n=n:=by
 simp [IntKind.wrap,IntKind.bits,IntKind.signed]; omega
theorem ACr {n:Int} (h:0≤n∧n<256):IntKind.u8.wrap n=n:=by
 simp [IntKind.wrap,IntKind.bits,IntKind.signed]; omega
theorem aD {n:Int} (h:0≤n∧n<18446744073709551616):IntKind.u64.wrap n=n:=by
 simp [IntKind.wrap,IntKind.bits,IntKind.signed]; omega
@[simp] theorem ED (a:Addr):B5 (.pointer (some a))=some (.pointer (some a)):=rfl
@[simp] theorem AFU (f:FuncId) (p q:Array Value):B5 (.func (.func f) p q)=some (.func (.func f) p q):=rfl
@[simp] theorem AO (off:Nat) (b o:Nat):AA off (.pointer (some ⟨b,o,none⟩))=some (.pointer (some ⟨b,o+off,none⟩)):=by
  simp only [AA,Addr.add]
  split
  ·rename_i h; subst h; rfl
  ·rfl
theorem FF (b o n:Nat):(⟨b,o,none⟩:Addr).add n=⟨b,o+n,none⟩:=by
 simp only [Addr.add]
 split
 ·rename_i h; subst h; rfl
 ·rfl
theorem S6 {z b o l c:Nat} {k:IntKind} {i:Int} (h:0≤i∧i<l):AE z (.slice (some ⟨b,o,none⟩) l c) (.int k i)=some (.pointer (some ⟨b,o+i.toNat*z,none⟩)):=by
 simp only [AE,if_pos h,FF]
@[simp] theorem AE8 (a b:Value):CY (.tuple #[a,b]) 0=some a:=by simp [CY]
@[simp] theorem AFv (a b:Value):CY (.tuple #[a,b]) 1=some b:=by simp [CY]
@[simp] theorem AEj (a b c:Value):CY (.tuple #[a,b,c]) 0=some a:=by simp [CY]
@[simp] theorem AEo (a b c:Value):CY (.tuple #[a,b,c]) 1=some b:=by simp [CY]
@[simp] theorem AEt (a b c:Value):CY (.tuple #[a,b,c]) 2=some c:=by simp [CY]
theorem MR {σ:AHeap} {b:Nat} {c:List Value} {e:TypeId} {opn:Bool} (h:σ.get b=some (.cells c e opn)):σ.row b=some c:=by simp [AHeap.row,h]
theorem uO {σ:AHeap} {b:Nat} {c:List Value} {e:TypeId} (h:σ.get b=some (.ro c e)):σ.row b=some c:=by simp [AHeap.row,h]
theorem BO {σ:AHeap} {b o n:Nat} {c:List Value} (h:σ.row b=some c):AF false n (.pointer (some ⟨b,o,none⟩)) σ=c[o]?:=by simp [AF,h]
theorem VU {σ:AHeap} {b o n:Nat} {c:List Value} (h:σ.row b=some c) (hl:o+n≤c.length):AF true n (.pointer (some ⟨b,o,none⟩)) σ=some (.agg ((c.drop o).take n).toArray):=by
 cases n with
 | zero=>simp [AF,oQ]
 | succ n =>
   have hb:Nat.ble (o+(n+1)) c.length=true:=Nat.ble_eq_true_of_le hl
   simp [AF,oQ,h,hb]
theorem H.row {l:List AK} {σ:AHeap} (h:H l σ) (i:Nat) {b:Nat} {c:List Value} {e:TypeId} {opn:Bool} (hi:l[i]?=some (pt b (.cells c e opn))):σ.row b=some c:=MR (h.get i hi)
theorem UC {l:List AK} {σ:AHeap} {o:C9} {k:Nat→AHeap→Prop} (h:H l σ) (hk:∀ b σ',H (l++[pt b o]) σ'→k b σ'):BE σ o k:=hk _ _ (h.push o)
theorem ABf {v:Value} (h:one v=true):DQ v=true∧v.cells=#[v]:=by cases v<;>simp_all [one,DQ,Value.oneCell',Value.cells]
theorem jA (c:List Value) (o:Nat) (v:Value) (h:o<c.length):splice c o [v]=c.set o v:=by
 apply List.ext_getElem?
 intro j
 simp only [splice,List.getElem?_set]
 rcases Nat.lt_trichotomy j o with g | g | g
 ·rw [if_neg (by omega),List.append_assoc,List.getElem?_append_left (by simp; omega),List.getElem?_take,if_pos g]
 ·subst g
  rw [if_pos rfl,if_pos h,List.append_assoc,List.getElem?_append_right (by simp; omega)]
  simp [Nat.min_eq_left (Nat.le_of_lt h)]
 ·rw [if_neg (by omega),List.getElem?_append_right (by simp; omega)]
  simp
  congr 1; omega
theorem FU {l:List AK} {σ:AHeap} (h:H l σ) (i:Nat) {b o:Nat} {c:List Value} {e:TypeId} {opn:Bool} {v:Value} {k:AHeap→Prop} (hi:l[i]?=some (pt b (.cells c e opn))) (hv:one v=true) (ho:o<c.length)
 (hk:∀ σ',H (l.set i (pt b (.cells (c.set o v) e opn))) σ'→k σ'):pu (AP 1 (.pointer (some ⟨b,o,none⟩)) v σ) k:=by
 obtain ⟨h1,h2⟩:=ABf hv
 have hb:Nat.ble (o+1) c.length=true:=Nat.ble_eq_true_of_le ho
 have he:AP 1 (.pointer (some ⟨b,o,none⟩)) v σ=some (σ.set b (.cells (c.set o v) e opn)):=by
  have hv':v.oneCell'=true:=hv
  simp [AP,h1,h2,PL,h.get i hi,hb,jA c o v ho,hv']
 rw [he,A5]
 exact hk _ (h.set i hi _)
theorem VJ {l:List AK} {σ:AHeap} (h:H l σ) (i:Nat) {b o n:Nat} {c vs:List Value} {e:TypeId} {opn:Bool} {k:AHeap→Prop} (hi:l[i]?=some (pt b (.cells c e opn))) (hn:vs.length=n) (hpos:0<n) (hv:vs.all one=true) (ho:o+n≤c.length)
 (hk:∀ σ',H (l.set i (pt b (.cells (splice c o vs) e opn))) σ'→k σ'):pu (AP n (.pointer (some ⟨b,o,none⟩)) (.agg vs.toArray) σ) k:=by
 have hb:Nat.ble (o+vs.length) c.length=true:=Nat.ble_eq_true_of_le (by omega)
 have he:AP n (.pointer (some ⟨b,o,none⟩)) (.agg vs.toArray) σ=some (σ.set b (.cells (splice c o vs) e opn)):=by
  have hs:(Nat.beq vs.length n)=true:=by rw [hn]; exact Nat.beq_refl n
  simp only [AP,DQ,Value.cells,List.size_toArray,hs,Bool.true_and,cond_true]
  cases vs with
  | nil=>simp at hn; omega
  | cons v vs =>
    simp only [PL,h.get i hi]
    have hv':((v::vs).all Value.oneCell' && Nat.ble (o+(v::vs).length) c.length)=true:=by
     rw [hb,Bool.and_true]; exact hv
    rw [hv']; rfl
 rw [he,A5]
 exact hk _ (h.set i hi _)
def by8 (b:UInt8):Value:=.int .u8 (b.toNat:Int)
def bv (l:List UInt8):List Value:=l.map by8
@[simp] theorem yI (l:List UInt8):(bv l).length=l.length:=by simp [bv]
@[simp] theorem xR (l m:List UInt8):bv (l++m)=bv l++bv m:=by simp [bv]
@[simp] theorem mT (l:List UInt8) (n:Nat):(bv l).take n=bv (l.take n):=by simp [bv]
@[simp] theorem ACt (l:List UInt8) (n:Nat):(bv l).drop n=bv (l.drop n):=by simp [bv]
@[simp] theorem AGb:bv []=[]:=rfl
@[simp] theorem AGO (b:UInt8) (l:List UInt8):bv (b::l)=by8 b::bv l:=rfl
theorem AD8 (l:List UInt8) (i:Nat):(bv l)[i]?=l[i]?.map by8:=by simp [bv]
theorem uK (l:List UInt8):(bv l).all one=true:=by simp [bv,by8,one,Value.oneCell']
theorem yR (l m:List UInt8) (o:Nat):splice (bv l) o (bv m)=bv (l.take o++m++l.drop (o+m.length)):=by simp [splice]
@[simp] theorem AGa (a b:Nat):Nat.ble a b=decide (a≤b):=by
  rw [Bool.eq_iff_iff]; simp
@[simp] theorem AGR (a b:Nat):Nat.beq a b=decide (a=b):=by
  rw [Bool.eq_iff_iff]; simp
@[simp] theorem AGE (a b:Nat):Nat.blt a b=decide (a<b):=by
  rw [Bool.eq_iff_iff]; simp [Nat.blt]; omega
attribute [simp] XZ sI QS
end Go.Ax
namespace Go.Ax
open Go.RowKit
theorem H.map0 {A B:AK} {l:List AK} {σ:AHeap} (h:H (A::l) σ) (k:∀ r,A r→B r):H (B::l) σ:=by
 obtain ⟨r,h,a,b,j,x,y⟩:=h; exact ⟨r,h,a,b,j,k a x,y⟩
def HF (z n c:Nat):Prop:=n≤BU c∧(c<A4∨c / A4=z)
theorem HF.exact {z n:Nat} (h:n<A4):HF z n n:=⟨by rw [C6 h]; exact Nat.le_refl _,.inl h⟩
theorem HF.open' {z n:Nat} (h:n<A4):HF z n (A4*z+n):=by
 refine ⟨?_,.inr ?_⟩
 ·unfold BU; rw [Nat.mul_add_mod,Nat.mod_eq_of_lt h]; exact Nat.le_refl _
 ·rw [Nat.mul_add_div (by unfold A4; omega),Nat.div_eq_of_lt h,Nat.add_zero]
theorem DG {k:IntKind} {i:Int} {y:Nat} (h:0≤i∧i≤y):bnd (.int k i) y=some i.toNat:=by simp only [bnd,if_pos h]
theorem lL {c l:Nat} (h:l≤BU c):BU (c - l)=BU c - l∧(A4≤c→(c - l) / A4=c / A4∧A4≤c - l):=by
 unfold BU at *; unfold A4 at *; omega
theorem zB {z b o n c:Nat} {lo hi:Int} {k k':IntKind} (hc:HF z n c) (h:0≤lo∧lo<hi∧hi≤n) :
 ∃ c',A7 z (.slice (some ⟨b,o,none⟩) n c) (some (.int k lo)) (some (.int k' hi)) none=some (.slice (some ⟨b,o+lo.toNat*z,none⟩) (hi.toNat - lo.toNat) c')∧HF z (hi.toNat - lo.toNat) c':=by
 obtain ⟨h1,h2⟩:=hc
 have hks:=lL (c:=c) (l:=lo.toNat) (by omega)
 refine ⟨c - lo.toNat,?_,?_,?_⟩
 ·simp only [A7,J2]
  rw [DG (y:=BU c) (by omega)]
  simp only [Option.bind_some]
  rw [DG (by omega)]
  simp only [Option.bind_some]
  rcases Nat.lt_or_ge c A4 with hlt | hge
  ·have:=C6 hlt
   rw [if_pos hlt,if_pos (by omega),if_neg (by omega)]
   simp [FF]
  ·have:¬ c<A4:=by omega
   rw [if_neg this,if_pos ⟨by omega,h2.resolve_left this⟩]
   simp [FF]
 ·omega
 ·rcases h2 with h2 | h2
  ·left; omega
  ·rcases Nat.lt_or_ge c A4 with hlt | hge
   ·left; omega
   ·right; rw [(hks.2 hge).1]; exact h2
theorem O6 {z b o n c:Nat} {lo:Int} {k:IntKind} (hc:HF z n c) (h:0≤lo∧lo<n) :
 ∃ c',A7 z (.slice (some ⟨b,o,none⟩) n c) (some (.int k lo)) none none=some (.slice (some ⟨b,o+lo.toNat*z,none⟩) (n - lo.toNat) c')∧HF z (n - lo.toNat) c':=by
 obtain ⟨h1,h2⟩:=hc
 have hks:=lL (c:=c) (l:=lo.toNat) (by omega)
 refine ⟨c - lo.toNat,?_,?_,?_⟩
 ·simp only [A7,J2]
  simp only [Option.bind_some]
  rw [DG (by omega)]
  simp only [Option.bind_some]
  rcases Nat.lt_or_ge c A4 with hlt | hge
  ·have:=C6 hlt
   rw [if_pos hlt,if_pos (by omega),if_neg (by omega)]
   simp [FF]
  ·have:¬ c<A4:=by omega
   rw [if_neg this,if_pos ⟨by omega,h2.resolve_left this⟩]
   simp [FF]
 ·omega
 ·rcases h2 with h2 | h2
  ·left; omega
  ·rcases Nat.lt_or_ge c A4 with hlt | hge
   ·left; omega
   ·right; rw [(hks.2 hge).1]; exact h2
theorem AAf {z b o n c:Nat} {hi:Int} {k:IntKind} (hc:HF z n c) (hn:0<n) (h:0≤hi∧hi≤n) :
 ∃ c',A7 z (.slice (some ⟨b,o,none⟩) n c) none (some (.int k hi)) none=some (.slice (some ⟨b,o,none⟩) hi.toNat c')∧HF z hi.toNat c':=by
 obtain ⟨h1,h2⟩:=hc
 refine ⟨c,?_,by omega,h2⟩
 simp only [A7,J2]
 rw [DG (y:=BU c) (by omega)]
 simp only [Option.bind_some]
 rcases Nat.lt_or_ge c A4 with hlt | hge
 ·have:=C6 hlt
  rw [if_pos hlt,if_pos (by omega),if_neg (by omega)]
  simp [FF]
 ·have:¬ c<A4:=by omega
  rw [if_neg this,if_pos ⟨by omega,h2.resolve_left this⟩]
  simp [FF]
theorem vU {z b o n c:Nat} {lo hi mx:Int} {k k' k'':IntKind} (hc:HF z n c) (h:0≤lo∧lo≤hi∧hi≤mx∧mx≤n∧lo<mx) :
 A7 z (.slice (some ⟨b,o,none⟩) n c) (some (.int k lo)) (some (.int k' hi)) (some (.int k'' mx))=some (.slice (some ⟨b,o+lo.toNat*z,none⟩) (hi.toNat - lo.toNat) (mx.toNat - lo.toNat)):=by
 obtain ⟨h1,h2⟩:=hc
 simp only [A7,J2]
 rw [DG (y:=BU c) (by omega)]
 simp only [Option.bind_some]
 rw [DG (by omega)]
 simp only [Option.bind_some]
 rw [DG (by omega)]
 simp only [Option.bind_some]
 rw [if_neg (by omega)]
 simp [FF]
theorem FO {σ:AHeap} {z b o n cap:Nat} {c:List Value} (h:σ.row b=some c) (hn:o+n*z≤c.length):D5 z (.slice (some ⟨b,o,none⟩) n cap) σ=some (n,(c.drop o).take (n*z)):=by
 simp only [D5]
 cases hz:n*z with
 | zero=>simp [oQ]
 | succ m =>
   have hb:o+(m+1)≤c.length:=by omega
   simp [oQ,h,hb]
theorem ACX (σ:AHeap) (z c:Nat):D5 z (.slice none 0 c) σ=some (0,[]):=rfl
theorem aM (σ:AHeap) (z c:Nat) (a:Addr):D5 z (.slice (some a) 0 c) σ=some (0,[]):=by simp [D5,oQ]
def AU (e z:Nat) (v:Value) (n:Nat) (xs:List Value):AK:=fun r =>
 (r=RE.emp∧n=0∧xs=[]∧(v=.slice none 0 0∨v=.slice (some ⟨ZB,0,some 0⟩) 0 0)) ∨
 (∃ b c opn rest,pt b (.cells (xs++rest) e opn) r∧xs.length=n*z∧rest.length=(BU c - n)*z∧v=.slice (some ⟨b,0,none⟩) n c∧n≤BU c∧((opn=true∧A4≤c∧c / A4=z)∨c<A4))
theorem FT {e z n:Nat} {v:Value} {xs:List Value} {l:List AK} {σ:AHeap}:H (AU e z v n xs::l) σ ↔
 ((n=0∧xs=[]∧(v=.slice none 0 0∨v=.slice (some ⟨ZB,0,some 0⟩) 0 0))∧H l σ) ∨
 (∃ b c opn rest,H (pt b (.cells (xs++rest) e opn)::l) σ∧xs.length=n*z∧rest.length=(BU c - n)*z∧v=.slice (some ⟨b,0,none⟩) n c∧n≤BU c∧((opn=true∧A4≤c∧c / A4=z)∨c<A4)):=by
 constructor
 ·rintro ⟨r,h,a,k,j,x | ⟨b,c,opn,rest,x,y⟩,hk⟩
  ·obtain ⟨rfl,x⟩:=x
   exact .inl ⟨x,r,h,by rw [j.emp_eq]; exact hk⟩
  ·exact .inr ⟨b,c,opn,rest,⟨r,h,a,k,j,x,hk⟩,y⟩
 ·rintro (⟨x,r,h,hk⟩ | ⟨b,c,opn,rest,⟨r,h,a,k,j,x,hk⟩,y⟩)
  ·exact ⟨r,h,_,r,RE.Join.emp_left r,.inl ⟨rfl,x⟩,hk⟩
  ·exact ⟨r,h,a,k,j,.inr ⟨b,c,opn,rest,x,y⟩,hk⟩
theorem H.own_nil {l:List AK} {σ:AHeap} (h:H l σ) (e z:Nat):H (l++[AU e z (.slice none 0 0) 0 []]) σ:=H.snoc (FT.2 (.inl ⟨⟨rfl,rfl,.inl rfl⟩,h⟩))
theorem H.own_zb {l:List AK} {σ:AHeap} (h:H l σ) (e z:Nat):H (l++[AU e z (.slice (some ⟨ZB,0,some 0⟩) 0 0) 0 []]) σ:=H.snoc (FT.2 (.inl ⟨⟨rfl,rfl,.inr rfl⟩,h⟩))
theorem H.own_src {l:List AK} {σ:AHeap} (h:H l σ) (i:Nat) {e z n:Nat} {v:Value} {xs:List Value} (hi:l[i]?=some (AU e z v n xs)) :
 D5 z v σ=some (n,xs)∧xs.length=n*z∧∃ a c,v=.slice a n c:=by
 rcases FT.1 (h.front i hi) with ⟨⟨rfl,rfl,rfl | rfl⟩,h⟩ | ⟨b,c,opn,rest,h,hx,hr,rfl,hn,ho⟩
 ·exact ⟨rfl,by simp,_,_,rfl⟩
 ·exact ⟨aM _ _ _ _,by simp,_,_,rfl⟩
 ·refine ⟨?_,hx,_,_,rfl⟩
  rw [FO (MR h.get0.1) (by simp; omega)]
  simp [← hx]
theorem ZR {l:List AK} {σ:AHeap} {b o:Nat} {c ys:List Value} {e:TypeId} {opn:Bool} (h:H (pt b (.cells c e opn)::l) σ) (hv:ys.all one=true) (ho:o+ys.length≤c.length) :
 ∃ σ',PL ⟨b,o,none⟩ ys σ=some σ'∧H (pt b (.cells (splice c o ys) e opn)::l) σ':=by
 cases ys with
 | nil=>exact ⟨σ,rfl,by simpa [splice] using h⟩
 | cons y ys =>
   refine ⟨_,?_,h.set0 _⟩
   simp only [PL,h.get0.1]
   have hv':((y::ys).all Value.oneCell' && Nat.ble (o+(y::ys).length) c.length)=true:=by
    rw [Nat.ble_eq_true_of_le ho,Bool.and_true]; exact hv
   rw [hv']; rfl
theorem IV (xs rest ys:List Value) (o:Nat) (h:o=xs.length) (hr:ys.length≤rest.length):splice (xs++rest) o ys=xs++ys++rest.drop ys.length:=by
 subst h
 simp [splice,List.drop_append]
theorem DR {l:List AK} {σ:AHeap} (h:H l σ) (i:Nat) {e z by' n m:Nat} {v x:Value} {xs ys:List Value} {k:Value×AHeap→Prop} (hi:l[i]?=some (AU e z v n xs)) (hs:D5 z x σ=some (m,ys)) (hz:0<z)
 (hb:(n+m)*by'≤140737488355328∧n+m≤140737488355328) (hone:ys.all one=true) (hk:∀ v' σ',H (l.set i (AU e z v' (n+m) (xs++ys))) σ'→k (v',σ')):pu (BZ e z by' v x σ) k:=by
 have hlen:ys.length=m*z:=cH hs
 have hN:n+m<A4:=by unfold A4; omega
 -- a new block in its place
 have new:∀ (a:Option Addr) (c:Nat) (σ2:AHeap),v=.slice a n c→¬ n+m≤BU c→XJ z a n σ=some xs→xs.length=n*z→H (l.set i emp) σ2→σ2.size=σ.size→(G5 e z by' v m ys σ=some (.slice (some ⟨σ.size,0,none⟩) (n+m) (A4*z+(n+m)),σ2.push (.cells (xs++ys) e true)))→pu (BZ e z by' v x σ) k:=by
  intro a c σ2 hv hc hold hxl h2 hsz he
  unfold BZ
  rw [hs]
  simp only [Option.bind_some,he,A5]
  refine hk _ _ (H.back i hi ?_)
  have:=(h2.push (.cells (xs++ys) e true)).unsnoc
  rw [hsz] at this
  refine FT.2 (.inr ⟨_,_,true,[],by simpa using this,by simp [hlen,hxl,Nat.add_mul],?_,rfl,?_,.inl ⟨rfl,?_,?_⟩⟩)
  ·have:BU (A4*z+(n+m))=n+m:=by unfold BU; rw [Nat.mul_add_mod,Nat.mod_eq_of_lt hN]
   rw [this]; simp
  ·exact (HF.open' (z:=z) hN).1
  ·have:A4*1≤A4*z:=Nat.mul_le_mul_left _ hz
   omega
  ·exact (HF.open' (z:=z) hN).2.resolve_left (by have:A4*1≤A4*z:=Nat.mul_le_mul_left _ hz
                                                 omega)
 have hf:=h.front i hi
 rcases FT.1 hf with ⟨⟨rfl,rfl,hv⟩,h2⟩ | ⟨b,c,opn,rest,h2,hx,hr,rfl,hn,ho⟩
 ·rcases Nat.eq_zero_or_pos m with rfl | hm
  ·have hys:ys=[]:=List.length_eq_zero_iff.1 (by simpa using hlen)
   subst hys
   have he:BZ e z by' v x σ=some (v,σ):=by
    unfold BZ; rw [hs]
    rcases hv with rfl | rfl<;>simp [G5,BU,PL]
   rw [he,A5]
   refine hk _ _ (H.back i hi (FT.2 (.inl ⟨⟨rfl,rfl,hv⟩,h2⟩)))
  ·rcases hv with rfl | rfl
   ·refine new none 0 σ rfl (by simp [BU]; omega) rfl (by simp) h2 rfl ?_
    simp only [G5]
    rw [if_neg (by simp [BU]; omega),if_pos ⟨by omega,by omega,hz⟩]
    simp [XJ,A4]
   ·refine new (some ⟨ZB,0,some 0⟩) 0 σ rfl (by simp [BU]; omega) (by simp [XJ,oQ]) (by simp) h2 rfl ?_
    simp only [G5]
    rw [if_neg (by simp [BU]; omega),if_pos ⟨by omega,by omega,hz⟩]
    simp [XJ,A4,oQ]
 ·by_cases hroom:n+m≤BU c
  ·obtain ⟨σ',hp,h3⟩:=ZR (o:=n*z) (ys:=ys) h2 hone (by
    rw [List.length_append,hx,hr,hlen]
    have:n*z+(BU c - n)*z=BU c*z:=by rw [← Nat.add_mul]; congr 1; omega
    have h4:(n+m)*z≤BU c*z:=Nat.mul_le_mul_right _ hroom
    rw [Nat.add_mul] at h4; omega)
   have he:BZ e z by' (.slice (some ⟨b,0,none⟩) n c) x σ=some (.slice (some ⟨b,0,none⟩) (n+m) c,σ'):=by
    unfold BZ; rw [hs]
    simp only [Option.bind_some,G5]
    rw [if_pos hroom,FF,Nat.zero_add,hp]; rfl
   rw [he,A5]
   have hfit:ys.length≤rest.length:=by rw [hlen,hr]; exact Nat.mul_le_mul_right _ (by omega)
   rw [IV xs rest ys (n*z) hx.symm hfit] at h3
   refine hk _ _ (H.back i hi (FT.2 (.inr ⟨b,c,opn,rest.drop ys.length,h3,?_,?_,rfl,hroom,ho⟩)))
   ·rw [List.length_append,hx,hlen,Nat.add_mul]
   ·rw [List.length_drop,hr,hlen,← Nat.sub_mul]; congr 1; omega
  ·have hold:XJ z (some ⟨b,0,none⟩) n σ=some xs:=by
    simp only [XJ]
    have:=(h.own_src i hi).1
    simp only [D5,Option.map_eq_some_iff] at this
    obtain ⟨l0,h1,h4⟩:=this
    rw [h1]; cases h4; rfl
   rcases ho with ⟨rfl,hc1,hc2⟩ | hc
   ·refine new (some ⟨b,0,none⟩) c (σ.set b .dead) rfl hroom hold hx (h2.set0 .dead).tail rfl ?_
    simp only [G5]
    rw [if_neg hroom,if_pos ⟨by omega,by omega,hz⟩,hold]
    simp only [Option.bind_some]
    rw [if_neg (by omega),h2.get0.1]
    simp only
    rw [if_pos ⟨trivial,hc2,hone,trivial⟩]
   ·refine new (some ⟨b,0,none⟩) c σ rfl hroom hold hx h2.tail rfl ?_
    simp only [G5]
    rw [if_neg hroom,if_pos ⟨by omega,by omega,hz⟩,hold]
    simp only [Option.bind_some]
    rw [if_pos hc]
theorem WL {l:List AK} {σ:AHeap} (h:H l σ) (i:Nat) {z b o dl dc xl xc m:Nat} {xb:Option Addr} {c ys:List Value} {e:TypeId} {opn:Bool} {k:Value×AHeap→Prop} (hi:l[i]?=some (pt b (.cells c e opn)))
 (hs:D5 z (.slice xb (Nat.min xl dl) xc) σ=some (m,ys)) (hone:ys.all one=true) (hl:o+ys.length≤c.length)
 (hk:∀ σ',H (l.set i (pt b (.cells (splice c o ys) e opn))) σ'→k (.int .i64 m,σ')):pu (LM z (.slice (some ⟨b,o,none⟩) dl dc) (.slice xb xl xc) σ) k:=by
 obtain ⟨σ',hp,h3⟩:=ZR (h.front i hi) hone hl
 have he:LM z (.slice (some ⟨b,o,none⟩) dl dc) (.slice xb xl xc) σ=some (.int .i64 m,σ'):=by
  simp only [LM,hs,Option.bind_some,hp,Option.map_some]
 rw [he,A5]
 exact hk _ (H.back i hi h3)
theorem PD (n:Nat) (v:Value):reps n [v]=List.replicate n v:=by
 induction n with
 | zero=>rfl
 | succ n ih=>simp [reps,ih,List.replicate_succ]
theorem QO {l:List AK} {σ:AHeap} (h:H l σ) {e by':Nat} {zc:List Value} {n c:Int} {k1 k2:IntKind} {k:Value×AHeap→Prop} (hn:0≤n∧n≤c∧c*by'≤140737488355328∧c≤140737488355328)
 (hk:∀ b σ',H (l++[pt b (.cells (reps c.toNat zc) e false)]) σ'→k (.slice (some ⟨b,0,none⟩) n.toNat c.toNat,σ')):pu (PC e by' zc (.int k1 n) (.int k2 c) σ) k:=by
 have he:PC e by' zc (.int k1 n) (.int k2 c) σ=some (.slice (some ⟨σ.size,0,none⟩) n.toNat c.toNat,σ.push (.cells (reps c.toNat zc) e false)):=by
  simp only [PC,if_pos hn]
 rw [he,A5]
 exact hk _ _ (h.push _)
theorem kW {l:List AK} {σ:AHeap} (h:H l σ) {e z len:Nat} {zc cs:List Value} {BW:List (Nat×Value)} {k:Value×AHeap→Prop} (hc:(Nat.ble (len*z) 16777216 && Nat.blt 0 z)=true)
 (hf:QS (fun k=>some (k*z,z)) (reps len zc) BW=some cs)
 (hk:∀ b σ',H (l++[pt b (.cells cs e false)]) σ'→k (.slice (some ⟨b,0,none⟩) len len,σ')):pu (X3 e z len zc BW σ) k:=by
 have he:X3 e z len zc BW σ=some (.slice (some ⟨σ.size,0,none⟩) len len,σ.push (.cells cs e false)):=by
  simp only [X3,hc,hf,cond_true,Option.map_some]
 rw [he,A5]
 exact hk _ _ (h.push _)
theorem H.own_form {l:List AK} {σ:AHeap} (h:H l σ) (i:Nat) {e z n:Nat} {v:Value} {xs:List Value} (hi:l[i]?=some (AU e z v n xs)) (hn:0<n) :
 ∃ b c,v=.slice (some ⟨b,0,none⟩) n c∧HF z n c∧∃ rest,σ.row b=some (xs++rest):=by
 rcases FT.1 (h.front i hi) with ⟨⟨rfl,rfl,rfl | rfl⟩,h⟩ | ⟨b,c,opn,rest,h,hx,hr,rfl,hn,ho⟩
 ·omega
 ·omega
 ·exact ⟨b,c,rfl,⟨hn,by rcases ho with ⟨_,_,x⟩ | x; exact .inr x; exact .inl x⟩,rest,MR h.get0.1⟩
theorem bP (xs rest:List Value) (a z:Nat) (h:a+z≤xs.length):((xs++rest).drop a).take z=(xs.drop a).take z:=by
 rw [List.drop_append_of_le_length (by omega),List.take_append_of_le_length (by simp; omega)]
theorem H.own_elem {l:List AK} {σ:AHeap} (h:H l σ) (i:Nat) {e z n:Nat} {v:Value} {xs:List Value} (hi:l[i]?=some (AU e z v n xs)) {k:Nat} (hk:k<n) :
 ∃ b,(∀ kd,AE z v (.int kd k)=some (.pointer (some ⟨b,k*z,none⟩)))∧AF true z (.pointer (some ⟨b,k*z,none⟩)) σ=some (.agg ((xs.drop (k*z)).take z).toArray)∧∀ m j,j<z→AF false m (.pointer (some ⟨b,k*z+j,none⟩)) σ=xs[k*z+j]?:=by
 obtain ⟨b,c,rfl,hc,rest,hrow⟩:=h.own_form i hi (by omega)
 have hx:=(h.own_src i hi).2.1
 have hkz:k*z+z≤n*z:=by rw [← Nat.succ_mul]; exact Nat.mul_le_mul_right _ hk
 refine ⟨b,fun kd=>?_,?_,fun m j hj=>?_⟩
 ·rw [S6 (by omega)]; simp
 ·rw [VU hrow (by simp; omega),bP _ _ _ _ (by omega)]
 ·rw [BO hrow,List.getElem?_append_left (by omega)]
theorem QT (xs rest ys:List Value) (o:Nat) (h:o+ys.length≤xs.length):splice (xs++rest) o ys=splice xs o ys++rest:=by
 unfold splice
 rw [List.take_append_of_le_length (by omega),List.drop_append_of_le_length (by omega)]
 simp
theorem rD {l:List AK} {σ:AHeap} (h:H l σ) (i:Nat) {e z n b o c dl dc xl xc m:Nat} {xb:Option Addr} {xs ys:List Value} {k:Value×AHeap→Prop} (hi:l[i]?=some (AU e z (.slice (some ⟨b,0,none⟩) n c) n xs)) (hn:0<n)
 (hs:D5 z (.slice xb (Nat.min xl dl) xc) σ=some (m,ys)) (hone:ys.all one=true) (hl:o+ys.length≤xs.length)
 (hk:∀ σ',H (l.set i (AU e z (.slice (some ⟨b,0,none⟩) n c) n (splice xs o ys))) σ'→k (.int .i64 m,σ')):pu (LM z (.slice (some ⟨b,o,none⟩) dl dc) (.slice xb xl xc) σ) k:=by
 rcases FT.1 (h.front i hi) with ⟨⟨rfl,rfl,_⟩,h⟩ | ⟨b',c',opn,rest,h1,hx,hr,hv,hn,ho⟩
 ·omega
 ·cases hv
  obtain ⟨σ',hp,h3⟩:=ZR (o:=o) h1 hone (by simp; omega)
  have he:LM z (.slice (some ⟨b,o,none⟩) dl dc) (.slice xb xl xc) σ=some (.int .i64 m,σ'):=by
   simp only [LM,hs,Option.bind_some,hp,Option.map_some]
  rw [he,A5]
  rw [QT _ _ _ _ hl] at h3
  exact hk _ (H.back i hi (FT.2 (.inr ⟨b,c,opn,rest,h3,by rw [JN _ _ _ hl]; exact hx,hr,rfl,hn,ho⟩)))
theorem KA {l:List AK} {σ:AHeap} (h:H l σ) (i:Nat) {e z n b o c:Nat} {w:Value} {xs:List Value} {k:AHeap→Prop} (hi:l[i]?=some (AU e z (.slice (some ⟨b,0,none⟩) n c) n xs)) (hn:0<n) (hw:one w=true) (ho:o<xs.length)
 (hk:∀ σ',H (l.set i (AU e z (.slice (some ⟨b,0,none⟩) n c) n (xs.set o w))) σ'→k σ'):pu (AP 1 (.pointer (some ⟨b,o,none⟩)) w σ) k:=by
 rcases FT.1 (h.front i hi) with ⟨⟨rfl,rfl,_⟩,h⟩ | ⟨b',c',opn,rest,h1,hx,hr,hv,hn,ho2⟩
 ·omega
 ·cases hv
  refine FU h1 0 rfl hw (by simp; omega) ?_
  intro σ' h3
  simp only [List.set_cons_zero] at h3
  rw [List.set_append_left _ _ ho] at h3
  exact hk _ (H.back i hi (FT.2 (.inr ⟨b,c,opn,rest,h3,by simpa using hx,hr,rfl,hn,ho2⟩)))
def jI (v:Value) (x:List UInt8):AK:=ex fun p:Nat×Nat×Nat×List Value×Nat×Bool =>
 sep (HZ (v=.slice (some ⟨p.1,p.2.1,none⟩) x.length p.2.2.1∧HF 1 x.length p.2.2.1∧(p.2.2.2.1.drop p.2.1).take x.length=bv x∧p.2.1+x.length≤p.2.2.2.1.length)) (ro p.1 (.cells p.2.2.2.1 p.2.2.2.2.1 p.2.2.2.2.2))
theorem H.rob0 {v:Value} {x:List UInt8} {l:List AK} {σ:AHeap} (h:H (jI v x::l) σ) :
 ∃ b o cap c,v=.slice (some ⟨b,o,none⟩) x.length cap∧HF 1 x.length cap∧σ.row b=some c∧(c.drop o).take x.length=bv x∧o+x.length≤c.length:=by
 obtain ⟨p,h⟩:=JM.1 h
 rw [BB] at h
 obtain ⟨⟨h1,h2,h3,h4⟩,h⟩:=BK.1 h
 exact ⟨_,_,_,_,h1,h2,MR h.rget0.1,h3,h4⟩
theorem vM {σ:AHeap} {b o cap n:Nat} {c:List Value} {x:List UInt8} (hr:σ.row b=some c) (hx:(c.drop o).take x.length=bv x) (hl:o+x.length≤c.length) (hn:n≤x.length) :
 D5 1 (.slice (some ⟨b,o,none⟩) n cap) σ=some (n,bv (x.take n)):=by
 rw [FO hr (by omega),Nat.mul_one,← mT,← hx,List.take_take,Nat.min_eq_left hn]
theorem H.rob {l:List AK} {σ:AHeap} (h:H l σ) (i:Nat) {v:Value} {x:List UInt8} (hi:l[i]?=some (jI v x)) :
 ∃ b o cap c,v=.slice (some ⟨b,o,none⟩) x.length cap∧HF 1 x.length cap∧σ.row b=some c∧(c.drop o).take x.length=bv x∧o+x.length≤c.length:=(h.front i hi).rob0
theorem AFy {l:List AK} {σ:AHeap}:H [AY l] σ↔H l σ:=by rw [A8,List.append_nil]
theorem AA4 {l m:List AK} {σ:AHeap}:H (l++m) σ↔H (AY l::m) σ:=A8.symm
theorem H.out {l:List AK} {σ:AHeap} {A:AK} (h:H l σ) (i:Nat) (hi:l[i]?=some A):H [A,AY (l.set i emp)] σ:=by
 have:=h.front i hi
 exact (A8.2 (by simpa using this:H ([A]++l.set i emp) σ):H (AY [A]::l.set i emp) σ) |> fun _=>by
  have h2:H (A::l.set i emp) σ:=this
  obtain ⟨r,h3,a,b,j,x,y⟩:=h2
  exact ⟨r,h3,a,b,j,x,by simp only [AY]; rw [PJ,M9]; exact y⟩
theorem H.in' {l:List AK} {σ:AHeap} {A B:AK} (i:Nat) (hi:l[i]?=some A) (h:H [B,AY (l.set i emp)] σ):H (l.set i B) σ:=by
 refine H.back i hi ?_
 obtain ⟨r,h3,a,b,j,x,y⟩:=h
 refine ⟨r,h3,a,b,j,x,?_⟩
 simp only [AY] at y
 rw [PJ,M9] at y
 exact y
theorem H.to_own {l:List AK} {σ:AHeap} (h:H l σ) (i:Nat) {b e z n:Nat} {xs:List Value} {opn:Bool} (hi:l[i]?=some (pt b (.cells xs e opn))) (hx:xs.length=n*z) (hn:n<A4) :
 H (l.set i (AU e z (.slice (some ⟨b,0,none⟩) n n) n xs)) σ:=by
 refine H.back i hi (FT.2 (.inr ⟨b,n,opn,[],by simpa using h.front i hi,hx,?_,rfl,?_,.inr hn⟩))
 ·rw [C6 hn]; simp
 ·rw [C6 hn]; exact Nat.le_refl _
theorem H.emp_end {l:List AK} {σ:AHeap} (h:H l σ):H (l++[emp]) σ:=H.snoc (AAJ.2 h)
structure Rd (σ:AHeap) (v:Value) (x:List UInt8):Prop where
 src:D5 1 v σ=some (x.length,bv x)
 form:∃ a c,v=.slice a x.length c
 elem:∀ (k:Nat) (b:UInt8),x[k]?=some b→∃ p,(∀ kd,AE 1 v (.int kd k)=some (.pointer (some p)))∧AF false 1 (.pointer (some p)) σ=some (by8 b)
theorem Rd.nil (σ:AHeap) (c:Nat):Rd σ (.slice none 0 c) []:=⟨rfl,⟨none,c,rfl⟩,fun k b h=>by simp at h⟩
theorem AA1 {σ:AHeap} {b o cap:Nat} {c:List Value} {x:List UInt8} (hr:σ.row b=some c) (hx:(c.drop o).take x.length=bv x) (hl:o+x.length≤c.length):Rd σ (.slice (some ⟨b,o,none⟩) x.length cap) x:=by
 refine ⟨?_,⟨_,_,rfl⟩,fun k y hk=>?_⟩
 ·rw [vM hr hx hl (Nat.le_refl _),List.take_length]
 ·have hlt:=(List.getElem?_eq_some_iff.1 hk).1
  refine ⟨⟨b,o+k,none⟩,fun kd=>by rw [S6 (by omega)]; simp,?_⟩
  rw [BO hr]
  have:((c.drop o).take x.length)[k]?=(bv x)[k]?:=by rw [hx]
  rw [List.getElem?_take,if_pos hlt,List.getElem?_drop,AD8,hk] at this
  exact this
theorem H.rob_rd {l:List AK} {σ:AHeap} (h:H l σ) (i:Nat) {v:Value} {x:List UInt8} (hi:l[i]?=some (jI v x)):Rd σ v x:=by
 obtain ⟨b,o,cap,c,rfl,hc,hr,hx,hl⟩:=h.rob i hi
 exact AA1 hr hx hl
theorem H.beside {l m:List AK} {σ:AHeap} (h:H l σ) (i:Nat) (hi:l[i]?=some (AY m)):H m σ:=by
 have:=h.front i hi
 rw [A8] at this
 exact this.left
theorem nQ {l:List AK} {σ:AHeap} {b o cap:Nat} {x:List UInt8} {c:List Value} {e:Nat} {opn:Bool} (hcap:HF 1 x.length cap) (hx:(c.drop o).take x.length=bv x) (hl:o+x.length≤c.length) (h:H (ro b (.cells c e opn)::l) σ) :
 H (jI (.slice (some ⟨b,o,none⟩) x.length cap) x::l) σ:=JM.2 ⟨(b,o,cap,c,e,opn),by rw [BB]; exact BK.2 ⟨⟨rfl,hcap,hx,hl⟩,h⟩⟩
end Go.Ax
namespace Go.Ax
open Go.RowKit Go.Deep
theorem CF.pushRo {B:Nat} {w0:World} {ρ:List RB} {σ:AHeap} {w:World} (h:CF B w0 ρ σ w) {b off:Nat} {c:List Value} {c':Array Value} {e:TypeId} {fz:Nat×Nat} (hb:w.heap[b]?=some (.cells c' e fz)) (hB:b<B) (ho:off+c.length≤c'.size)
 (hl:LR ρ c ((c'.toList.drop off).take c.length)) :
 CF B w0 (ρ++[⟨b,off,c'.size⟩]) (σ.push (.ro c e)) w∧EJ ρ (ρ++[⟨b,off,c'.size⟩])∧(ρ++[(⟨b,off,c'.size⟩:RB)])[σ.size]?=some ⟨b,off,c'.size⟩:=by
 have hext:=EJ.append ρ [⟨b,off,c'.size⟩]
 have hnew:(ρ++[(⟨b,off,c'.size⟩:RB)])[σ.size]?=some ⟨b,off,c'.size⟩:=by rw [← h.len]; simp
 have old:∀ {a:Nat} {q:C9} {r:RB},σ.get a=some q→(ρ++[(⟨b,off,c'.size⟩:RB)])[a]?=some r→ρ[a]?=some r:=by
  intro a q r y z
  obtain ⟨r0,y',_⟩:=h.obj a q y
  rw [hext _ _ y'] at z; cases z; exact y'
 refine ⟨⟨by simp [h.len],fun i q hi=>?_,fun i j oi oj ri rj hi hj wi wj ri' rj' e=>?_,h.below,h.base⟩,hext,hnew⟩
 ·rw [AHeap.get_push] at hi
  split at hi
  ·rename_i e1; subst e1; cases hi
   exact ⟨_,hnew,⟨c',fz,hb,rfl,ho,hl.mono hext⟩,(fun x=>by cases x),fun _ _=>hB⟩
  ·obtain ⟨r,x1,x2,x3,x4⟩:=h.obj i q hi
   exact ⟨r,hext _ _ x1,x2.mono hext rfl,x3,x4⟩
 ·rw [AHeap.get_push] at hi hj
  split at hi
  ·cases hi; cases wi
  ·split at hj
   ·cases hj; cases wj
   ·exact h.inj i j oi oj ri rj hi hj wi wj (old hi ri') (old hj rj') e
theorem H.pushRo {l:List AK} {σ:AHeap} (h:H l σ) (o:C9):H (ro σ.size o::l) (σ.push o):=(h.push o).unsnoc.freeze0
def yW {M:Type} (A:List Value→M→AK):List (List Value)→List M→AK
 | c::cs,m::ms=>sep (A c m) (yW A cs ms)
 | _,_=>emp
theorem yW.snoc {M:Type} {A:List Value→M→AK}:∀ (cs:List (List Value)) (ms:List M) (c:List Value) (m:M),cs.length=ms.length→yW A (cs++[c]) (ms++[m])=sep (A c m) (yW A cs ms)
 | [],[],c,m,_=>rfl
 | [],_::_,c,m,h=>by simp at h
 | _::_,[],c,m,h=>by simp at h
 | x::cs,y::ms,c,m,h=>by
   simp only [List.cons_append,yW,yW.snoc cs ms c m (by simpa using h)]
   rw [← EO,PJ (A x y),EO]
theorem AFG {M:Type} {A:List Value→M→AK}:∀ {cs:List (List Value)} {ms:List M} {l:List AK} {σ:AHeap} {k:Nat} {c:List Value} {m:M},H (yW A cs ms::l) σ→cs[k]?=some c→ms[k]?=some m→H (A c m::l) σ
 | [],_,l,σ,k,c,m,h,hc,hm=>by simp at hc
 | _::_,[],l,σ,k,c,m,h,hc,hm=>by simp at hm
 | x::cs,y::ms,l,σ,0,c,m,h,hc,hm=>by
   simp at hc hm; subst hc; subst hm
   simp only [yW,BB] at h
   exact h.second
 | x::cs,y::ms,l,σ,k+1,c,m,h,hc,hm=>by
   simp at hc hm
   simp only [yW,BB] at h
   exact AFG h.tail hc hm
def dY {M:Type} (z by':Nat) (A:List Value→M→AK) (v:Value) (L:List M):AK:=fun r =>
 (r=RE.emp∧L=[]∧(v=.slice none 0 0∨v=.slice (some ⟨ZB,0,some 0⟩) 0 0)) ∨
 (∃ (id cap e:Nat) (css:List (List Value)),sep (ro id (.ro css.flatten e)) (yW A css L) r∧v=.slice (some ⟨id,0,none⟩) L.length cap∧L.length≤cap∧cap<A4∧css.length=L.length∧(∀ c∈css,c.length=z)∧L.length*by'≤reachBytes)
theorem cC {M:Type} {z by':Nat} {A:List Value→M→AK} {v:Value} {L:List M} {l:List AK} {σ:AHeap}:H (dY z by' A v L::l) σ ↔
 ((L=[]∧(v=.slice none 0 0∨v=.slice (some ⟨ZB,0,some 0⟩) 0 0))∧H l σ) ∨
 (∃ (id cap e:Nat) (css:List (List Value)),H (ro id (.ro css.flatten e)::yW A css L::l) σ∧v=.slice (some ⟨id,0,none⟩) L.length cap∧L.length≤cap∧cap<A4∧css.length=L.length∧(∀ c∈css,c.length=z)∧L.length*by'≤reachBytes):=by
 constructor
 ·rintro ⟨r,h,a,k,j,x | ⟨id,cap,e,css,x,y⟩,hk⟩
  ·obtain ⟨rfl,x⟩:=x
   exact .inl ⟨x,r,h,by rw [j.emp_eq]; exact hk⟩
  ·exact .inr ⟨id,cap,e,css,by rw [← BB]; exact ⟨r,h,a,k,j,x,hk⟩,y⟩
 ·rintro (⟨x,r,h,hk⟩ | ⟨id,cap,e,css,hh,y⟩)
  ·exact ⟨r,h,_,r,RE.Join.emp_left r,.inl ⟨rfl,x⟩,hk⟩
  ·rw [← BB] at hh
   obtain ⟨r,h,a,k,j,x,hk⟩:=hh
   exact ⟨r,h,a,k,j,.inr ⟨id,cap,e,css,x,y⟩,hk⟩
theorem OS {z:Nat}:∀ {css:List (List Value)} {k:Nat} {c:List Value},(∀ c∈css,c.length=z)→css[k]?=some c→(css.flatten.drop (k*z)).take z=c
 | [],k,c,_,h=>by simp at h
 | x::css,0,c,h,hk=>by
   simp at hk; subst hk
   simp [h x (by simp)]
 | x::css,k+1,c,h,hk=>by
   simp at hk
   have hx:=h x (by simp)
   rw [List.flatten_cons,show (k+1)*z=x.length+k*z by rw [hx,Nat.succ_mul]; omega,List.drop_append,List.drop_of_length_le (by omega),List.nil_append]
   have:x.length+k*z - x.length=k*z:=by omega
   rw [this]
   exact OS (fun c hc=>h c (by simp [hc])) hk
theorem NR {z:Nat}:∀ {css:List (List Value)},(∀ c∈css,c.length=z)→css.flatten.length=css.length*z
 | [],_=>by simp
 | x::css,h=>by
   rw [List.flatten_cons,List.length_append,h x (by simp),NR fun c hc=>h c (by simp [hc]),List.length_cons,Nat.succ_mul]; omega
theorem H.rows_form {M:Type} {z by':Nat} {A:List Value→M→AK} {v:Value} {L:List M} {l:List AK} {σ:AHeap} (h:H l σ) (i:Nat) (hi:l[i]?=some (dY z by' A v L)):∃ a c,v=.slice a L.length c:=by
 rcases cC.1 (h.front i hi) with ⟨⟨rfl,rfl | rfl⟩,_⟩ | ⟨id,cap,e,css,_,rfl,_⟩
 ·exact ⟨_,_,rfl⟩
 ·exact ⟨_,_,rfl⟩
 ·exact ⟨_,_,rfl⟩
theorem H.rows_elem {M:Type} {z by':Nat} {A:List Value→M→AK} {v:Value} {L:List M} {l:List AK} {σ:AHeap} (h:H l σ) (i:Nat) (hi:l[i]?=some (dY z by' A v L)) {k:Nat} {m:M} (hk:L[k]?=some m) :
 ∃ b cs,(∀ kd,AE z v (.int kd k)=some (.pointer (some ⟨b,k*z,none⟩)))∧AF true z (.pointer (some ⟨b,k*z,none⟩)) σ=some (.agg cs.toArray)∧(∀ m j,j<z→AF false m (.pointer (some ⟨b,k*z+j,none⟩)) σ=cs[j]?)∧cs.length=z∧H (A cs m::l.set i emp) σ:=by
 have hlt:=(List.getElem?_eq_some_iff.1 hk).1
 rcases cC.1 (h.front i hi) with ⟨⟨rfl,_⟩,_⟩ | ⟨id,cap,e,css,h1,rfl,h2,h3,h4,h5,h6⟩
 ·simp at hk
 ·have hc:=List.getElem?_eq_getElem (show k<css.length by omega)
  have hrow:=uO h1.rget0.1
  have hfl:=NR h5
  have hkz:k*z+z≤css.flatten.length:=by rw [hfl,← Nat.succ_mul]; exact Nat.mul_le_mul_right _ (by omega)
  refine ⟨id,css[k],fun kd=>?_,?_,fun m j hj=>?_,h5 _ (List.getElem_mem _),AFG h1.tail hc hk⟩
  ·rw [S6 (by omega)]; simp
  ·rw [VU hrow hkz,OS h5 hc]
  ·rw [BO hrow]
   have:=congrArg (·[j]?) (OS h5 hc)
   simp only [List.getElem?_take,if_pos hj,List.getElem?_drop] at this
   exact this
section
variable (P:Program)
def IW (t:TypeId) {M:Type} (A:List Value→M→AK):Prop :=
 ∀ ⦃H':Type⦄ ⦃enc:TypeId×Value→H'⦄ ⦃W:World⦄ ⦃base:Nat⦄ ⦃held:Bool⦄ ⦃n:Nat⦄ ⦃cs:List Value⦄ ⦃x:DataW H'×List MemPlace⦄ ⦃ρ:List RB⦄ ⦃σ:AHeap⦄,CF W.heap.size W ρ σ W→DataW.trod enc P W base (fun _=>true) held n t cs=some x→(∀ w∈x.1.weights P t,w≤reachBytes)→∃ ρ' σ' cs' m,EJ ρ ρ'∧CF W.heap.size W ρ' σ' W∧LR ρ' cs' cs∧cs'.length=P.cellsOf t∧∀ l,H l σ→H (A cs' m::l) σ'
variable {P}
theorem IW.int {t:TypeId} {k:IntKind} (ht:P.underlying t=some (.int k)) (hc:P.cellsOf t=1):IW P t (M:=Int) fun cs n=>HZ (cs=[.int k n]∧(Lit.int k n).wf=true):=by
 intro H' enc W base held n cs x ρ σ hr h _
 obtain ⟨m,rfl,rfl,hw⟩:=DataW.trod_int ht h
 exact ⟨ρ,σ,[.int k m],m,EJ.refl _,hr,LR.cons (.int _ _) (LR.nil _),by simp [hc],fun l hl=>BK.2 ⟨⟨rfl,hw⟩,hl⟩⟩
theorem IW.slice {t e:TypeId} {M:Type} {A:List Value→M→AK} (ht:P.underlying t=some (.slice e)) (hc:P.cellsOf t=1) (hz:0<P.cellsOf e) (hE:IW P e A) :
 IW P t (M:=List M) fun cs L=>ex fun v=>sep (HZ (cs=[v])) (dY (P.cellsOf e) (P.bytesOf e) A v L):=by
 intro H' enc W base held fuel cs x ρ σ hr h hw
 rcases open_slice ht h with ⟨rfl,rfl⟩ | ⟨a,len,cap,m,n,D,Pl,rfl,hb,hl,hm,hmm,rfl,hx⟩
 ·refine ⟨ρ,σ,[.slice none 0 0],[],EJ.refl _,hr,LR.cons (.nilslice _ _ (by unfold A4; omega)) (LR.nil _),by simp [hc],fun l hl=>JM.2 ⟨.slice none 0 0,?_⟩⟩
  rw [BB]
  exact BK.2 ⟨rfl,cC.2 (.inl ⟨⟨rfl,.inl rfl⟩,hl⟩)⟩
 ·simp only [if_true] at hmm
  subst hmm
  rcases Nat.eq_zero_or_pos m with rfl | hpos
  ·have hl0:len=0:=by omega
   subst hl0
   refine ⟨ρ,σ,[.slice (some ⟨ZB,0,some 0⟩) 0 0],[],EJ.refl _,hr,LR.cons (.zslice _ _) (LR.nil _),by simp [hc],fun l hl=>JM.2 ⟨.slice (some ⟨ZB,0,some 0⟩) 0 0,?_⟩⟩
   rw [BB]
   exact BK.2 ⟨rfl,cC.2 (.inl ⟨⟨rfl,.inr rfl⟩,hl⟩)⟩
  ·-- the block
   obtain ⟨cs0,hcells0,_⟩:=hx 0 hpos
   obtain ⟨_,hlen0,hcell0⟩:=World.cells?_some hcells0
   have hc00:=hcell0 0 hz
   have hsome:∃ c' e' fz,W.heap[a.block]?=some (.cells c' e' fz)∧a.spot=none:=by
    have h1:W.cell? a=cs0[0]?:=by simpa [Addr.add] using hc00
    have h2:cs0[0]?=some (cs0[0]'(by omega)):=by simp
    rw [h2] at h1
    unfold World.cell? at h1
    split at h1
    ·rename_i c' e' fz hh
     split at h1
     ·cases h1
     ·rename_i hs
      exact ⟨c',e',fz,hh,by simpa using hs⟩
    ·cases h1
   obtain ⟨c',e',fz,hblk,hsp⟩:=hsome
   have hBlk:a.block<W.heap.size:=(Array.getElem?_eq_some_iff.1 hblk).1
   -- the elements,one by one
   have key:∀ j,j≤len→∃ (ρ':List RB) (σ':AHeap) (css:List (List Value)) (L:List M),EJ ρ ρ'∧CF W.heap.size W ρ' σ' W∧css.length=j∧L.length=j∧(∀ c∈css,c.length=P.cellsOf e)∧LR ρ' css.flatten ((c'.toList.drop a.off).take (j*P.cellsOf e))∧(a.off+j*P.cellsOf e≤c'.size∨j=0)∧∀ l,H l σ→H (yW A css L::l) σ':=by
    intro j
    induction j with
    | zero=>intro _; exact ⟨ρ,σ,[],[],EJ.refl _,hr,rfl,rfl,by simp,by simpa using LR.nil _,.inr rfl,fun l hl=>AAJ.2 hl⟩
    | succ j ih =>
      intro hj
      obtain ⟨ρ1,σ1,css,L,x1,x2,x3,x4,x5,x6,x7,x8⟩:=ih (by omega)
      obtain ⟨cs',hcells,htrod⟩:=hx j (by omega)
      obtain ⟨_,hlen,hcell⟩:=World.cells?_some hcells
      obtain ⟨ρ2,σ2,cs2,m2,y1,y2,y3,y4,y5⟩:=hE x2 htrod (by
       intro w hwm
       refine hw w ?_
       unfold DataW.weights
       rw [ht]
       simp only [List.mem_cons,List.mem_append]
       right; left
       have hmem:∀ (l:List (DataW H')) (d:DataW H'),d∈l→∀ w∈d.weights P e,w∈DataW.weightsAll P e l:=by
        intro l d hd w hw
        induction l with
        | nil=>simp at hd
        | cons z l ih =>
          unfold DataW.weightsAll
          rcases List.mem_cons.1 hd with rfl | hd
          ·exact List.mem_append_left _ hw
          ·exact List.mem_append_right _ (ih hd)
       exact hmem _ (D j) (List.mem_map.2 ⟨j,List.mem_range.2 (by omega),rfl⟩) w hwm)
      -- the cells as they stand in the block
      have hcs:∀ i,i<P.cellsOf e→c'[a.off+j*P.cellsOf e+i]?=cs'[i]?:=by
       intro i hi
       have:=hcell i hi
       rw [show (a.add (j*P.cellsOf e)).add i=⟨a.block,a.off+j*P.cellsOf e+i,none⟩ by
        rw [show a=⟨a.block,a.off,none⟩ by cases a; simp at hsp; simp [hsp],FF,FF]] at this
       simpa [World.cell?,hblk] using this
      have hfit:a.off+(j+1)*P.cellsOf e≤c'.size:=by
       have h1:=hcs (P.cellsOf e - 1) (by omega)
       have h2:cs'[P.cellsOf e - 1]?≠none:=by simp; omega
       rw [← h1] at h2
       have h3:a.off+j*P.cellsOf e+(P.cellsOf e - 1)<c'.size:=by
        rcases Nat.lt_or_ge (a.off+j*P.cellsOf e+(P.cellsOf e - 1)) c'.size with q | q
        ·exact q
        ·exact absurd (Array.getElem?_eq_none q) h2
       rw [Nat.succ_mul]; omega
      refine ⟨ρ2,σ2,css++[cs2],L++[m2],x1.trans y1,y2,by simp [x3],by simp [x4],?_,?_,.inl hfit,?_⟩
      ·intro c hcm
       rcases List.mem_append.1 hcm with q | q
       ·exact x5 c q
       ·simp at q; subst q; exact y4
      ·have hsplit:(c'.toList.drop a.off).take ((j+1)*P.cellsOf e)=(c'.toList.drop a.off).take (j*P.cellsOf e)++cs':=by
        rw [Nat.succ_mul,List.take_add]
        congr 1
        rw [List.drop_drop]
        apply List.ext_getElem?
        intro i
        rw [List.getElem?_take]
        split
        ·rename_i hi
         rw [List.getElem?_drop]
         have:=hcs i hi
         simpa using this
        ·rename_i hi
         exact (List.getElem?_eq_none (by omega)).symm
       rw [hsplit,List.flatten_append]
       exact (x6.mono y1).append (by simpa using y3)
      ·intro l hl
       rw [yW.snoc _ _ _ _ (by omega),BB]
       exact y5 _ (x8 l hl)
   obtain ⟨ρ1,σ1,css,L,x1,x2,x3,x4,x5,x6,x7,x8⟩:=key len (Nat.le_refl _)
   have hfl:=NR x5
   have hfit:a.off+css.flatten.length≤c'.size:=by
    rw [hfl,x3]
    rcases x7 with q | q
    ·exact q
    ·subst q
     have h1:c'[a.off]?≠none:=by
      have h1:W.cell? a=cs0[0]?:=by simpa [Addr.add] using hc00
      have h2:cs0[0]?=some (cs0[0]'(by omega)):=by simp
      rw [h2] at h1
      simp [World.cell?,hblk,hsp] at h1
      rw [h1]; simp
     have h3:a.off<c'.size:=by
      rcases Nat.lt_or_ge a.off c'.size with q | q
      ·exact q
      ·exact absurd (Array.getElem?_eq_none q) h1
     omega
   obtain ⟨z1,z2,z3⟩:=x2.pushRo hblk hBlk hfit (by rw [hfl,x3]; exact x6)
   refine ⟨_,_,[.slice (some ⟨σ1.size,0,none⟩) len m],L,x1.trans z2,z1,?_,by simp [hc],fun l hl=>JM.2 ⟨.slice (some ⟨σ1.size,0,none⟩) len m,?_⟩⟩
   ·refine LR.cons ?_ (LR.nil _)
    have hcap:m<A4:=by unfold A4; unfold maxLen at hm; omega
    have:=VR.slice σ1.size 0 len m m _ z3 (by unfold Y9; rw [if_pos hcap])
    have ha:a=⟨a.block,a.off,none⟩:=by cases a; simp at hsp; simp [hsp]
    rw [ha]
    simpa using this
   ·rw [BB]
    refine BK.2 ⟨rfl,cC.2 (.inr ⟨σ1.size,m,e',css,(x8 l hl).pushRo _,by rw [x4],by omega,by unfold A4; unfold maxLen at hm; omega,by omega,x5,?_⟩)⟩
    rw [x4]
    have hwm:=hw ((len+(m - len))*P.bytesOf e) (by
     unfold DataW.weights
     rw [ht]
     simp)
    have:len*P.bytesOf e≤(len+(m - len))*P.bytesOf e:=Nat.mul_le_mul_right _ (by omega)
    omega
def jN (P:Program) (l:List Field) (o tot:Nat) {M:Type} (A:List Value→M→AK):Prop :=
 ∀ ⦃H':Type⦄ ⦃enc:TypeId×Value→H'⦄ ⦃W:World⦄ ⦃base:Nat⦄ ⦃held:Bool⦄ ⦃n:Nat⦄ ⦃cs:List Value⦄ ⦃xs:List (DataW H'×List MemPlace)⦄ ⦃ρ:List RB⦄ ⦃σ:AHeap⦄,CF W.heap.size W ρ σ W→xs.length=l.length→(∀ (i:Nat) (f:Field),l[i]?=some f→DataW.trod enc P W base (fun _=>true) held n f.type ((cs.drop f.offset).take (P.cellsOf f.type))=xs[i]?)→(∀ w∈DataW.weightsEach P (l.map (·.type)) (xs.map (·.1)),w≤reachBytes)→∃ ρ' σ' cs' m,EJ ρ ρ'∧CF W.heap.size W ρ' σ' W∧LR ρ' cs' ((cs.drop o).take tot)∧cs'.length=tot∧∀ l,H l σ→H (A cs' m::l) σ'
theorem jN.nil {P:Program} (o:Nat):jN P [] o 0 (M:=Unit) fun cs _=>HZ (cs=[]):=by
 intro H' enc W base held n cs xs ρ σ hr _ _ _
 exact ⟨ρ,σ,[],(),EJ.refl _,hr,by simpa using LR.nil _,rfl,fun l hl=>BK.2 ⟨rfl,hl⟩⟩
theorem jN.cons {P:Program} {f:Field} {l:List Field} {o tot z:Nat} {M N:Type} {A:List Value→M→AK} {B:List Value→N→AK} (ho:f.offset=o) (hz:P.cellsOf f.type=z) (hT:IW P f.type A) (hF:jN P l (o+z) tot B) :
 jN P (f::l) o (z+tot) (M:=M×N) fun cs m=>ex fun p:List Value×List Value=>sep (HZ (cs=p.1++p.2∧p.1.length=z)) (sep (A p.1 m.1) (B p.2 m.2)):=by
 intro H' enc W base held n cs xs ρ σ hr hlen hx hw
 subst hz
 cases xs with
 | nil=>simp at hlen
 | cons x xs =>
   have h0:=hx 0 f rfl
   simp only [List.getElem?_cons_zero] at h0
   simp only [List.map_cons,DataW.weightsEach,List.mem_append] at hw
   obtain ⟨ρ1,σ1,c1,m1,x1,x2,x3,x4,x5⟩:=hT hr h0 (fun w hm=>hw w (.inl hm))
   obtain ⟨ρ2,σ2,c2,m2,y1,y2,y3,y4,y5⟩:=hF x2 (by simpa using hlen) (fun i g hg=>by simpa using hx (i+1) g (by simpa using hg)) (fun w hm=>hw w (.inr hm))
   refine ⟨ρ2,σ2,c1++c2,(m1,m2),x1.trans y1,y2,?_,by simp [x4,y4],fun l hl=>JM.2 ⟨(c1,c2),?_⟩⟩
   ·rw [List.take_add]
    refine LR.append ?_ ?_
    ·rw [← ho]; exact x3.mono y1
    ·rw [List.drop_drop]; exact y3
   ·rw [BB]
    refine BK.2 ⟨⟨rfl,x4⟩,?_⟩
    rw [BB]
    have:=y5 _ (x5 l hl)
    exact this.perm (List.Perm.swap _ _ _)
theorem IW.struct {P:Program} {t:TypeId} {fs:Array Field} {tot:Nat} {M:Type} {A:List Value→M→AK} (ht:P.underlying t=some (.struct fs)) (hc:P.cellsOf t=tot) (hF:jN P fs.toList 0 tot A):IW P t A:=by
 intro H' enc W base held n cs x ρ σ hr h hw
 obtain ⟨xs,n',rfl,rfl,hlen,hxl,hx⟩:=DataW.trod_struct ht h
 obtain ⟨ρ1,σ1,c1,m1,x1,x2,x3,x4,x5⟩:=hF hr (by simpa using hxl) (fun i f hf=>hx i f (by simpa using hf)) (by
  intro w hm
  refine hw w ?_
  unfold DataW.weights
  rw [ht]
  exact hm)
 refine ⟨ρ1,σ1,c1,m1,x1,x2,?_,by rw [hc,x4],x5⟩
 have:(cs.drop 0).take tot=cs:=by rw [List.drop_zero,List.take_of_length_le (by omega)]
 rwa [this] at x3
theorem IW.imp {P:Program} {t:TypeId} {M N:Type} {A:List Value→M→AK} {B:List Value→N→AK} (g:M→N) (h:IW P t A) (hi:∀ cs m l σ,H (A cs m::l) σ→H (B cs (g m)::l) σ):IW P t B:=by
 intro H' enc W base held n cs x ρ σ hr h1 h2
 obtain ⟨ρ1,σ1,c1,m1,x1,x2,x3,x4,x5⟩:=h hr h1 h2
 exact ⟨ρ1,σ1,c1,g m1,x1,x2,x3,x4,fun l hl=>hi _ _ _ _ (x5 l hl)⟩
theorem CF.start (W:World):CF W.heap.size W [] ⟨0,.leaf⟩ W:=CF.empty W
theorem XT {P:Program} {H':Type} {enc:TypeId×Value→H'} {W W':World} (hl:laidOutB P=true) (hm:mapsRowed P=true) (hz:((List.range P.types.size).all fun t=>match P.underlying t with | some (.slice e)=>decide (0<P.cellsOf e) | _=>true)=true)
 (hb:Below W.heap.size W W') {sp:Nat→Bool}:∀ {ts:List TypeId} {vs:List Value} {ds:List (DataW H')} {ps:List MemPlace},(∀ t∈ts,t<P.types.size)→DataW.TrodAll enc P W 0 (fun _=>true) true ts vs ds ps→(∀ p∈ps,sp p.block=true)→DataW.TrodAll enc P W' 0 sp true ts vs ds ps
 | [],[],[],ps,_,h,_=>h
 | t::ts,v::vs,d::ds,ps,ht,⟨p,q,⟨n,h1⟩,h2,e⟩,hs=>by
   refine ⟨p,q,⟨n,?_⟩,XT hl hm hz hb (fun u hu=>ht u (List.mem_cons_of_mem _ hu)) h2 (fun x hx=>hs x (by rw [e]; exact List.mem_append_right _ hx)),e⟩
   exact DataW.trod_stays (kids_rows hl hm) (fun ht hu=>slices_full_of P hz _ _ ht hu) (fun h=>by cases h) (ht t (List.mem_cons_self)) h1
    (fun x hx=>hb.same (DataW.trod_lt n t _ _ h1 x hx)) (fun x hx=>hs x (by rw [e]; exact List.mem_append_left _ hx))
end
end Go.Ax
namespace Go.Ax
open Go.RowKit
def hl (l:List (Nat×RY)) (k:Nat):Option RY:=l.lookup k
def il:Nat→Nat→List (Nat×List Nat)
 | _,0=>[]
 | a,n+1=>(a,[])::il (a+1) n
def L (b o:Nat) (σ:AHeap):Option Value:=AF false 1 (.pointer (some ⟨b,o,none⟩)) σ
def A2 (k:IntKind) (o:Option Value) (K:Int→Prop):Prop:=om o (tI k K)
def DF (o:Option Value) (K:Bool→Prop):Prop:=om o (tB K)
def If (c:Bool) (A B:Prop):Prop :=
 match c with
 | true=>A
 | false=>B
def Bi (e:Int) (K:Int→Prop):Prop:=K e
def On (v:Value) (p:Prop):Prop:=cond v.oneCell' p False
def FC (n:Int):Int:=IntKind.i64.wrap n
def HW (n:Int):Int:=IntKind.u64.wrap n
def aX (n:Int):Int:=IntKind.u32.wrap n
def wu8 (n:Int):Int:=IntKind.u8.wrap n
def St (b o:Nat) (v:Value) (σ:AHeap) (K:AHeap→Prop):Prop:=pu (AP 1 (.pointer (some ⟨b,o,none⟩)) v σ) K
def pQ (Q:RK):WK:=fun v σ=>Q (.pan v) σ
def cI (Q:RK) (k:IntKind) (K:Int→AHeap→Prop):RK:=RP (fun v σ=>tI k (fun n=>K n σ) v) (pQ Q)
def cB (Q:RK) (K:Bool→AHeap→Prop):RK:=RP (fun v σ=>tB (fun n=>K n σ) v) (pQ Q)
def cV (Q:RK) (K:WK):RK:=RP K (pQ Q)
def c0 (Q:RK) (K:AHeap→Prop):RK:=RP (r0 K) (pQ Q)
def c2 (Q:RK) (K:Value→Value→AHeap→Prop):RK:=RP (r2 K) (pQ Q)
def c3 (Q:RK) (K:Value→Value→Value→AHeap→Prop):RK:=RP (r3 K) (pQ Q)
def c4 (Q:RK) (K:Value→Value→Value→Value→AHeap→Prop):RK:=RP (r4 K) (pQ Q)
section
variable {Q:RK} {σ:AHeap}
@[simp] theorem A9 (k:IntKind) (K:Int→AHeap→Prop) (n:Int):cI Q k K (.ret (.int k n)) σ=K n σ:=by simp [cI,RP,tI]
@[simp] theorem AHC (k:IntKind) (K:Int→AHeap→Prop) (v:Value):cI Q k K (.pan v) σ=Q (.pan v) σ:=rfl
@[simp] theorem GY (K:Bool→AHeap→Prop) (n:Bool):cB Q K (.ret (.bool n)) σ=K n σ:=rfl
@[simp] theorem AGc (K:Bool→AHeap→Prop) (v:Value):cB Q K (.pan v) σ=Q (.pan v) σ:=rfl
@[simp] theorem CC (K:WK) (v:Value):cV Q K (.ret v) σ=K v σ:=rfl
@[simp] theorem ABJ (K:WK) (v:Value):cV Q K (.pan v) σ=Q (.pan v) σ:=rfl
@[simp] theorem CD (K:AHeap→Prop):c0 Q K (.ret (.tuple #[])) σ=K σ:=rfl
@[simp] theorem ET (K:AHeap→Prop) (v:Value):c0 Q K (.pan v) σ=Q (.pan v) σ:=rfl
@[simp] theorem BS (K:Value→Value→AHeap→Prop) (a b:Value):c2 Q K (.ret (.tuple #[a,b])) σ=K a b σ:=rfl
@[simp] theorem AG0 (K:Value→Value→AHeap→Prop) (v:Value):c2 Q K (.pan v) σ=Q (.pan v) σ:=rfl
@[simp] theorem MQ (K:Value→Value→Value→AHeap→Prop) (a b c:Value):c3 Q K (.ret (.tuple #[a,b,c])) σ=K a b c σ:=rfl
@[simp] theorem AHB (K:Value→Value→Value→AHeap→Prop) (v:Value):c3 Q K (.pan v) σ=Q (.pan v) σ:=rfl
@[simp] theorem cM (K:Value→Value→Value→Value→AHeap→Prop) (a b c d:Value):c4 Q K (.ret (.tuple #[a,b,c,d])) σ=K a b c d σ:=rfl
@[simp] theorem AGz (K:Value→Value→Value→Value→AHeap→Prop) (v:Value):c4 Q K (.pan v) σ=Q (.pan v) σ:=rfl
@[simp] theorem AD (v:Value) (K:Value→Prop):om (some v) K=K v:=rfl
@[simp] theorem AH (k:IntKind) (n:Int) (K:Int→Prop):A2 k (some (.int k n)) K=K n:=by simp [A2,tI]
@[simp] theorem BR (b:Bool) (K:Bool→Prop):DF (some (.bool b)) K=K b:=rfl
@[simp] theorem AT (k:IntKind) (n:Int) (K:Int→Prop):tI k K (.int k n)=K n:=by simp [tI]
@[simp] theorem C8 (b:Bool) (K:Bool→Prop):tB K (.bool b)=K b:=rfl
@[simp] theorem AEm (s:ByteArray) (K:ByteArray→Prop):tS K (.string s)=K s:=rfl
@[simp] theorem lK (a b:Value):QX (.tuple #[a,b]) 0=some a:=rfl
@[simp] theorem iU (a b:Value):QX (.tuple #[a,b]) 1=some b:=rfl
@[simp] theorem AGY (A B:Prop):If true A B=A:=rfl
@[simp] theorem AGB (A B:Prop):If false A B=B:=rfl
@[congr] theorem AFD {c d:Bool} {A B:Prop} (h:c=d):If c A B=If d A B:=by rw [h]
@[congr] theorem AFi {o p:Option Value} {K:Value→Prop} (h:o=p):om o K=om p K:=by rw [h]
@[congr] theorem AEk {k:IntKind} {o p:Option Value} {K:Int→Prop} (h:o=p):A2 k o K=A2 k p K:=by rw [h]
@[congr] theorem AEw {o p:Option Value} {K:Bool→Prop} (h:o=p):DF o K=DF p K:=by rw [h]
@[congr] theorem AE4 {e d:Int} {K:Int→Prop} (h:e=d):Bi e K=Bi d K:=by rw [h]
@[congr] theorem AFB {k:IntKind} {v u:Value} {K:Int→Prop} (h:v=u):tI k K v=tI k K u:=by rw [h]
@[congr] theorem AFq {v u:Value} {K:Bool→Prop} (h:v=u):tB K v=tB K u:=by rw [h]
@[congr] theorem AFC {v u:Value} {p:Prop} (h:v=u):On v p=On u p:=by rw [h]
@[congr] theorem AF7 {b o:Nat} {v u:Value} {σ:AHeap} {K:AHeap→Prop} (h:v=u):St b o v σ K=St b o u σ K:=by rw [h]
theorem E5 {v:Value} {p:Prop} (h:one v=true) (k:p):On v p:=by
 have h:v.oneCell'=true:=h
 unfold On; rw [h]; exact k
theorem AS {p:Prop} [Decidable p] {A B:Prop} (h1:p→A) (h2:¬ p→B):If (decide p) A B:=by
 by_cases h:p
 ·rw [decide_eq_true h]; exact h1 h
 ·rw [decide_eq_false h]; exact h2 h
theorem CA {p:Prop} [Decidable p] {A B:Prop} (h1:¬ p→A) (h2:p→B):If (!decide p) A B:=by
 by_cases h:p
 ·rw [decide_eq_true h]; exact h2 h
 ·rw [decide_eq_false h]; exact h1 h
theorem cN {c:Bool} {A B:Prop} (h1:c=true→A) (h2:c=false→B):If c A B:=by cases c; exact h2 rfl; exact h1 rfl
theorem G8 {c:Bool} {A B:Prop} (h:c=true) (k:A):If c A B:=by rw [h]; exact k
theorem B7 {c:Bool} {A B:Prop} (h:c=false) (k:B):If c A B:=by rw [h]; exact k
theorem bi {e m:Int} {K:Int→Prop} (h:e=m) (k:K m):Bi e K:=by rw [h]; exact k
theorem sV {n:Int} (h : -9223372036854775808≤n∧n<9223372036854775808):FC n=n:=wrap_i64 h
theorem ACw {n:Int} (h:0≤n∧n<18446744073709551616):HW n=n:=aD h
theorem AD1 {n:Int} (h:0≤n∧n<256):wu8 n=n:=ACr h
theorem E1 {e:Int} {K:Int→Prop} (m:Int) (h:e=m∧-9223372036854775808≤m∧m<9223372036854775808) (k:K m):Bi (FC e) K:=by
 rw [h.1,sV h.2]; exact k
theorem PQ {e:Int} {K:Int→Prop} (m:Int) (h:e=m∧0≤m∧m<18446744073709551616) (k:K m):Bi (HW e) K:=by
 rw [h.1,ACw h.2]; exact k
theorem bu8 {e:Int} {K:Int→Prop} (m:Int) (h:e=m∧0≤m∧m<256) (k:K m):Bi (wu8 e) K:=by
 rw [h.1,AD1 h.2]; exact k
end
class m6 (l:List Value) (i:Nat) (v:outParam Value):Prop where
 eq:l[i]?=some v
instance (v:Value) (l:List Value):m6 (v::l) 0 v:=⟨rfl⟩
instance (v w:Value) (l:List Value) (i:Nat) [h:m6 l i v]:m6 (w::l) (i+1) v:=⟨by simpa using h.eq⟩
class ACF (l:List Value) (i:Nat) (v:Value) (l':outParam (List Value)):Prop where
 eq:l.set i v=l'
 lt:i<l.length
instance (u v:Value) (l:List Value):ACF (u::l) 0 v (v::l):=⟨rfl,by simp⟩
instance (u v:Value) (l l':List Value) (i:Nat) [h:ACF l i v l']:ACF (u::l) (i+1) v (u::l'):=⟨by simp [h.eq],by simpa using h.lt⟩
class AtB (l:List AK) (b:Nat) (A:outParam AK) (r:outParam (List AK)):Prop where
 perm:l.Perm (A::r)
instance (b:Nat) (o:C9) (l:List AK):AtB (pt b o::l) b (pt b o) l:=⟨.refl _⟩
instance (b:Nat) (o:C9) (l:List AK):AtB (ro b o::l) b (ro b o) l:=⟨.refl _⟩
instance (priority:=100) (A B:AK) (l r:List AK) (b:Nat) [h:AtB l b A r]:AtB (B::l) b A (B::r):=⟨(h.perm.cons B).trans (.swap _ _ _)⟩
class sA (l:List AK) (v:Value) (A:outParam AK) (r:outParam (List AK)):Prop where
 perm:l.Perm (A::r)
instance (e z n:Nat) (v:Value) (xs:List Value) (l:List AK):sA (AU e z v n xs::l) v (AU e z v n xs) l:=⟨.refl _⟩
instance (v:Value) (x:List UInt8) (l:List AK):sA (jI v x::l) v (jI v x) l:=⟨.refl _⟩
instance {M:Type} (z y:Nat) (A:List Value→M→AK) (v:Value) (x:List M) (l:List AK):sA (dY z y A v x::l) v (dY z y A v x) l:=⟨.refl _⟩
instance (priority:=100) (A B:AK) (l r:List AK) (v:Value) [h:sA l v A r]:sA (B::l) v A (B::r):=⟨(h.perm.cons B).trans (.swap _ _ _)⟩
class Fnd (l:List AK) (A:AK) (r:outParam (List AK)):Prop where
 perm:l.Perm (A::r)
instance (A:AK) (l:List AK):Fnd (A::l) A l:=⟨.refl _⟩
instance (priority:=100) (A B:AK) (l r:List AK) [h:Fnd l A r]:Fnd (B::l) A (B::r):=⟨(h.perm.cons B).trans (.swap _ _ _)⟩
section
variable {l r:List AK} {σ:AHeap}
theorem H.atv (v:Value) {A:AK} (h:H l σ) [k:sA l v A r]:H (A::r) σ:=h.perm k.perm
theorem H.atb (b:Nat) {A:AK} (h:H l σ) [k:AtB l b A r]:H (A::r) σ:=h.perm k.perm
theorem H.fnd (A:AK) (h:H l σ) [k:Fnd l A r]:H (A::r) σ:=h.perm k.perm
class sC (l:List AK) (b:Nat) (c:outParam (List Value)):Prop where
 row:∀ σ,H l σ→σ.row b=some c
instance (b:Nat) (c:List Value) (e:TypeId) (q:Bool) (l:List AK):sC (pt b (.cells c e q)::l) b c:=⟨fun _ h=>MR h.get0.1⟩
instance (b:Nat) (c:List Value) (e:TypeId) (q:Bool) (l:List AK):sC (ro b (.cells c e q)::l) b c:=⟨fun _ h=>MR h.rget0.1⟩
instance (b:Nat) (c:List Value) (e:TypeId) (l:List AK):sC (ro b (.ro c e)::l) b c:=⟨fun _ h=>uO h.rget0.1⟩
instance (priority:=100) (A:AK) (b:Nat) (c:List Value) (l:List AK) [k:sC l b c]:sC (A::l) b c:=⟨fun σ h=>k.row σ h.tail⟩
theorem t4 {b o:Nat} {c:List Value} {v:Value} (h:H l σ) [k:sC l b c] [g:m6 c o v]:L b o σ=some v:=by
 unfold L
 rw [BO (k.row σ h),g.eq]
theorem st {b o:Nat} {c c':List Value} {e:TypeId} {q:Bool} {v:Value} {K:AHeap→Prop} (h:H l σ) [f:AtB l b (pt b (.cells c e q)) r] [g:ACF c o v c'] (hv:one v=true) (k:∀ σ',H (pt b (.cells c' e q)::r) σ'→K σ'):St b o v σ K:=by
 unfold St
 refine FU (h.perm f.perm) 0 rfl hv g.lt fun σ' h'=>k σ' ?_
 rw [g.eq] at h'
 exact h'
theorem nw {o:C9} {K:Nat→AHeap→Prop} (h:H l σ) (k:∀ b σ',H (pt b o::l) σ'→K b σ'):BE σ o K:=UC h fun b σ' h'=>k b σ' h'.unsnoc
end
end Go.Ax
namespace Go.Ax
open Go.RowKit
def Dv (P:Program) (g:FuncId) (caps:List Value) (rv:Option Value) (σ:AHeap) (K:AHeap→Prop):Prop :=
 ∀ B w0 ρ w args',CF B w0 ρ σ w→LR ρ caps args'→∃ fn,P.funcs[g]?=some fn∧(fn.name == "runtime.NumGoroutine")=false∧fn.body.isNone=false∧∀ u u',(match rv with
     | none=>u=.returning∧u'=.returning
     | some v=>∃ v',VR ρ v v'∧u=.panicking [{ v:=v',recovered:=false }]∧u'=.panicking [{ v:=v',recovered:=true }])→CallsD P g args'.toArray u w fun e u2 w'=>(∃ v,e=.returned v)∧u2=u'∧∃ ρ' σ',K σ'∧EJ ρ ρ'∧CF B w0 ρ' σ' w'
def AC5:AC→Option (Nat×Nat×Oper×List Oper×AC)
 | .seq (.region id (o::os)) b=>match o.dst,o.op,o.guard with
   | some t,.call c,none=>match c.callee with
     | .builtin .recover=>some (t,id,o,os,b)
     | _=>none
   | _,_,_=>none
 | _=>none
theorem xY {ac:AC} {t id:Nat} {o:Oper} {os:List Oper} {b:AC} (h:AC5 ac=some (t,id,o,os,b)):ac=.seq (.region id (o::os)) b∧o.dst=some t∧(∃ c,o.op=.call c∧c.callee=.builtin .recover)∧o.guard=none:=by
 unfold AC5 at h
 split at h
 ·rename_i id' o' os' b'
  split at h
  ·rename_i t' c' hd hop hg
   split at h
   ·rename_i hcal
    simp only [Option.some.injEq,Prod.mk.injEq] at h
    obtain ⟨rfl,rfl,rfl,rfl,rfl⟩:=h
    exact ⟨rfl,hd,⟨c',hop,hcal⟩,hg⟩
   ·cases h
  ·cases h
 ·cases h
def AAK (P:Program) (E:BP) (fn:Func) (h:Nat→Option RY) (kd:Nat→VT) (caps:List Value) (rv:Option Value) (σ:AHeap) (K:AHeap→Prop):Prop :=
 match AC5 (HO h (fn.body.getD .skip) 0).1 with
 | some (t,_,o,os,b)=>cond (Nat.beq caps.length (fn.params.size+fn.nfree) && fn.results.toList.isEmpty) (ABF P E (o::os) (fun _ _=>False) os none (uR P E kd (fun _ _=>False) b (fun _ σ=>K σ) (fun _ _ _=>False) (fun _ σ=>K σ)) (H6 (GO (List.range (fn.params.size+fn.nfree)) caps) (some t) (rv.getD .nilIface)) σ) False
 | none=>False
def kq (K:AHeap→Prop):RK:=fun r σ=>match r with
 | .ret _=>K σ
 | .pan _=>False
@[simp] theorem AG8 (K:AHeap→Prop) (v:Value) (σ:AHeap):kq K (.ret v) σ=K σ:=rfl
theorem yG {P:Program} {o:Oper} {a:Act} {next next':Act→World→Prop} {Q Q':Exit→Act→World→Prop} {r:Result Next} (hn:∀ a w,next a w→next' a w) (hq:∀ e a w,Q e a w→Q' e a w) (h:o.upon P a next Q r):o.upon P a next' Q' r:=by
 unfold Oper.upon at h ⊢
 split at h
 ·exact hn _ _ h
 ·exact hn _ _ h
 ·exact hn _ _ h
 ·refine Calls.mono h fun e w' he=>?_
  cases e with
  | returned v=>exact hn _ _ he
  | panicked c=>exact hq _ _ _ he
  | outgrown=>obtain ⟨a,w,h⟩:=he; exact ⟨a,w,hq _ _ _ h⟩
 ·exact Rows.mono h fun v w'=>hn _ _
 ·exact hq _ _ _ h
 ·exact h.elim
theorem WG {P:Program} {ops:Array Oper} {Q:Exit→Act→World→Prop} {Q':Exit→Act→List Frame→World→Prop} {cs:List Frame} (hQ:∀ a w,¬ Q .outgrown a w) (hq:∀ e a w,Q e a w→Q' e a cs w) :
 ∀ (l:List Nat) (a:Act) (w:World),wpOps P ops Q l a w→wpOpsS P ops Q' l a cs w
 | [],a,w,h=>hq _ _ _ h
 | i::rest,a,w,h=>by
   unfold wpOps at h
   unfold wpOpsS
   cases ho:ops[i]? with
   | none=>rw [ho] at h; exact WG hQ hq rest a w h
   | some o =>
     rw [ho] at h
     simp only at h ⊢
     split
     ·rename_i hw
      rw [if_pos hw] at h
      rcases h with h | ⟨_,a2,w2,h⟩
      ·unfold Oper.wp at h
       split
       ·rename_i w' hr
        rw [hr] at h
        exact h.elim
       ·exact yG (fun a w h=>WG hQ hq rest a w h) (fun e a w h=>hq e a w h) h
      ·exact absurd h (hQ a2 w2)
     ·rename_i hw
      rw [if_neg hw] at h
      exact WG hQ hq rest _ w h
theorem nW {P:Program} {o:Oper} {c:Call} {ev:Operand→Value} {w:World} (ho:o.op=.call c) (hc:c.callee=.builtin .recover):(execOp ev o).run P w=.ok .recover w:=by
 have:o={ o with op:=.call c }:=by rw [← ho]
 rw [this]
 simp [execOp,resolve,hc,invoke,builtin]
theorem Dv.of {P:Program} (hm:P.follows .mixedOrders=true) {g:FuncId} {fn:Func} (hf:P.funcs[g]?=some fn) (h:Nat→Option RY) (kd:Nat→VT) (hc:XP fn h=true) {caps:List Value} {rv:Option Value} {σ:AHeap} {K:AHeap→Prop}
 (hx:AAK P (Ev P) fn h kd caps rv σ K):Dv P g caps rv σ K:=by
 intro B w0 ρ w args' hr ha
 unfold XP at hc
 simp only [Bool.and_eq_true,Bool.not_eq_true'] at hc
 obtain ⟨⟨⟨h1,h2⟩,h3⟩,h4⟩:=hc
 obtain ⟨c,hcb⟩:=Option.isSome_iff_exists.1 h1
 rw [hcb] at h2
 simp only [Option.getD_some] at h2
 refine ⟨fn,hf,h4,by simp [hcb],fun u u' hu=>?_⟩
 unfold AAK at hx
 rw [hcb] at hx
 simp only [Option.getD_some] at hx
 cases hrec:AC5 (HO h c 0).1 with
 | none=>rw [hrec] at hx; exact hx.elim
 | some q =>
   obtain ⟨t,id,o,os,b⟩:=q
   rw [hrec] at hx
   simp only at hx
   obtain ⟨hac,hdst,⟨cl,hop,hcal⟩,hgd⟩:=xY hrec
   cases hlen:(Nat.beq caps.length (fn.params.size+fn.nfree) && fn.results.toList.isEmpty) with
   | false=>rw [hlen] at hx; exact hx.elim
   | true =>
   rw [hlen] at hx
   simp only [cond_true] at hx
   rw [Bool.and_eq_true] at hlen
   have hlen1:=Nat.eq_of_beq_eq_true hlen.1
   have hres:fn.results.toList=[]:=by simpa using hlen.2
   have hce:c=Code.seq (Code.region id (o::os).toArray false) b.erase:=by
    rw [← YA h c 0,hac]; rfl
   rw [hac] at h2
   simp only [AC.wf,Bool.and_eq_true] at h2
   let C:Cx:=⟨fn.ntmps,[],[],fun _=>undef⟩
   have hstart:FR C ρ (GO (List.range (fn.params.size+fn.nfree)) caps) { tmps:=args'.toArray++Array.replicate (fn.ntmps - args'.toArray.size) undef,defers:=[] }:=FR.start ha hlen1 (Nat.le_of_ble_eq_true h3)
   -- the recovered value,and who stands beneath
   refine callsD_of_wpS hf hcb fun c₀ cs hcm=>?_
   let R:Ending→FrameMode→World→Prop:=fun e u2 w'=>(∃ v,e=.returned v)∧u2=u'∧∃ ρ' σ',K σ'∧EJ ρ ρ'∧CF B w0 ρ' σ' w'
   let Fin:Act→World→Prop:=fun a w2=>a.defers=[]∧∃ v,(results fn a.tmps).run P w2=.ok v w2∧∃ ρ' σ',K σ'∧EJ ρ ρ'∧CF B w0 ρ' σ' w2
   let Q2:Exit→Act→World→Prop:=fun e a w2=>match e with
    | .normal=>Fin a w2
    | .ret=>Fin a w2
    | _=>False
   let Q1:Exit→Act→World→Prop:=fun e a w2=>match e with
    | .normal=>b.erase.wp P Q2 a w2
    | .ret=>Fin a w2
    | _=>False
   have hdo:C.ok t:=SQ (List.all_eq_true.1 h2.1 o (by simp)) t hdst
   have main:∀ rvm,VR ρ (rv.getD .nilIface) rvm→wpOps P (o::os).toArray Q1 (List.range' 1 os.length) (Act.put { tmps:=args'.toArray++Array.replicate (fn.ntmps - args'.toArray.size) undef,defers:=[] } (some t) rvm) w:=by
    intro rvm hvr
    have hend:KS B w0 C ρ (fun _ σ=>K σ) Fin:=fun ρ2 fr2 σ2 a2 w2 e2 hf2 hr2 hk2=>by
     refine ⟨hf2.kp.defers,?_⟩
     obtain ⟨v,hv,_⟩:=V7 (fn:=fn) (res:=[]) (Q:=fun _ _=>True) (fr:=fr2) hres hr2 (fun x hx=>by simp at hx) (by trivial)
     exact ⟨v,hv,ρ2,σ2,hk2,e2,hr2⟩
    refine fI (C:=C) (all:=o::os) os 1 none rfl (fun o' ho'=>List.all_eq_true.1 h2.1 o' (by simp [ho'])) ρ _ σ _ w ?_ ?_ (hstart.put hvr (fun d hd=>by cases hd; exact hdo)) hr trivial (nL (kp':=fun _ _=>False) (fun _ _ h=>h) (fun fr σ h=>wD (P:=P) kd (kp':=fun _ _=>False) (fun _ _ h=>h) b (qn':=fun _ σ=>K σ) (qe':=fun _ _ _=>False) (qr':=fun _ σ=>K σ) (fun _ _ h=>h) (fun _ _ _ h=>h) (fun _ _ h=>h) fr σ h) os none _ σ hx)
    ·intro ρ2 fr2 σ2 a2 w2 e2 hf2 hr2 hx2
     exact V9 hm b (C:=C) h2.2 _ _ _ Q2 ρ2 fr2 σ2 a2 w2 (hend.mono e2) (fun i ρ3 fr3 σ3 a3 w3 _ _ _ hx3=>hx3.elim) (hend.mono e2) (fun ρ3 v v' σ3 a3 w3 _ _ _ _ hx3=>hx3.elim) hf2 hr2 hx2
    ·exact fun ρ3 v v' σ3 a3 w3 _ _ _ _ hx3=>hx3.elim
   have fin:∀ rvm,VR ρ (rv.getD .nilIface) rvm→wpOpsS P (o::os).toArray (Exit.thenS (b.erase.wpS P (bodyPostS P fn c₀ cs R)) (bodyPostS P fn c₀ cs R)) (List.range' 1 os.length) (Act.put { tmps:=args'.toArray++Array.replicate (fn.ntmps - args'.toArray.size) undef,defers:=[] } (some t) rvm) ({ c₀ with mode:=u' }::cs) w:=by
    intro rvm hvr
    have hF:∀ a2 w2,Fin a2 w2→a2.defers=[]∧∃ u2,({ c₀ with mode:=u' }::cs:List Frame)={ c₀ with mode:=u2 }::cs∧∃ v,(results fn a2.tmps).run P w2=.ok v w2∧R (.returned v) u2 w2:=by
     rintro a2 w2 ⟨g1,v,g2,g3⟩
     exact ⟨g1,u',rfl,v,g2,⟨v,rfl⟩,rfl,g3⟩
    refine WG (Q:=Q1) (fun a w h=>h) ?_ _ _ _ (main rvm hvr)
    intro e a2 w2 hq
    cases e with
    | normal =>
      refine wpS_of_wp (wp_mono hq fun e2 a3 w3 hq2=>?_)
      cases e2 with
      | normal=>exact hF a3 w3 hq2
      | ret=>exact hF a3 w3 hq2
      | _=>exact hq2.elim
    | ret=>exact hF a2 w2 hq
    | _=>exact hq.elim
   rw [hce]
   refine wpS_seq (wpS_region ?_)
   have hrange:List.range (o::os).toArray.size=0::List.range' 1 os.length:=by
    simp [List.range_eq_range',List.range'_succ]
   rw [hrange]
   unfold wpOpsS
   have h0:(o::os).toArray[0]?=some o:=by simp
   rw [h0]
   simp only
   have hw:Region.wanted o (yielded (o::os).toArray (Act.tmps { tmps:=args'.toArray++Array.replicate (fn.ntmps - args'.toArray.size) undef,defers:=[] }))=true:=by simp [Region.wanted,hgd]
   rw [if_pos hw,nW hop hcal]
   simp only
   rw [hdst]
   cases rv with
   | none =>
     simp only at hu
     obtain ⟨rfl,rfl⟩:=hu
     have hrd:recoverD (c₀::cs)=none:=by simp [recoverD,hcm]
     rw [hrd]
     have hc0:({ c₀ with mode:=.returning }:Frame)=c₀:=by rw [← hcm]
     have:=fin .nilIface .nilIface
     rw [hc0] at this
     exact this
   | some v =>
     simp only at hu
     obtain ⟨v',hv,rfl,rfl⟩:=hu
     have hrd:recoverD (c₀::cs)=some (v',{ c₀ with mode:=.panicking [{ v:=v',recovered:=true }] }::cs):=by simp [recoverD,hcm]
     rw [hrd]
     exact fin v' hv
def p5:AC→Option (Nat×FuncId×Array Operand×Nat×Oper×Oper)
 | .region id [o1,o2]=>match o1.dst,o1.op,o1.guard,o2.dst,o2.op,o2.guard with
   | some t,.makeFunc (.func g) first caps,none,none,.defer c,none=>match c.callee with
     | .value (.tmp t')=>cond (Nat.beq t t' && first.toList.isEmpty && c.args.toList.isEmpty) (some (t,g,caps,id,o1,o2)) none
     | _=>none
   | _,_,_,_,_,_=>none
 | _=>none
theorem s8 {ac:AC} {t id:Nat} {g:FuncId} {caps:Array Operand} {o1 o2:Oper} (h:p5 ac=some (t,g,caps,id,o1,o2)):ac=.region id [o1,o2]∧o1.dst=some t∧(∃ first,o1.op=.makeFunc (.func g) first caps∧first=#[])∧o1.guard=none∧o2.dst=none∧(∃ c,o2.op=.defer c∧c.callee=.value (.tmp t)∧c.args=#[])∧o2.guard=none:=by
 unfold p5 at h
 split at h
 ·rename_i id' o1' o2'
  split at h
  ·rename_i t1 g1 first1 caps1 c1 h1 h2 h3 h4 h5 h6
   split at h
   ·rename_i t' hcal
    cases hb:(Nat.beq t1 t' && first1.toList.isEmpty && c1.args.toList.isEmpty) with
    | false=>rw [hb] at h; cases h
    | true =>
      rw [hb] at h
      simp only [cond_true,Option.some.injEq,Prod.mk.injEq] at h
      obtain ⟨rfl,rfl,rfl,rfl,rfl,rfl⟩:=h
      simp only [Bool.and_eq_true] at hb
      have e1:=Nat.eq_of_beq_eq_true hb.1.1
      subst e1
      exact ⟨rfl,h1,⟨first1,h2,by simpa using hb.1.2⟩,h3,h4,⟨c1,h5,hcal,by simpa using hb.2⟩,h6⟩
   ·cases h
  ·cases h
 ·cases h
def qd (P:Program) (g:FuncId) (cs:List Value) (K:AHeap→Prop):RK:=fun r σ=>Dv P g cs (match r with
 | .ret _=>none
 | .pan v=>some v) σ K
def ABe (P:Program) (E:BP) (kd:Nat→VT) (res:List ResultVar) (Q:RK):AC→FK
 | .seq a b=>match p5 a with
   | some (t,g,caps,_,_,_)=>fun fr σ=>uR P E kd (fun v σ=>qd P g (caps.toList.map (R9 fr)) (fun σ'=>aJ P res Q (H6 fr (some t) (.func (.func g) #[] (caps.toList.map (R9 fr)).toArray)) σ') (.pan v) σ) b
    (fun _ σ=>qd P g (caps.toList.map (R9 fr)) (fun σ'=>aJ P res Q (H6 fr (some t) (.func (.func g) #[] (caps.toList.map (R9 fr)).toArray)) σ') (.ret (.tuple #[])) σ) (fun _ _ _=>False)
    (fun _ σ=>qd P g (caps.toList.map (R9 fr)) (fun σ'=>aJ P res Q (H6 fr (some t) (.func (.func g) #[] (caps.toList.map (R9 fr)).toArray)) σ') (.ret (.tuple #[])) σ) (H6 fr (some t) (.func (.func g) #[] (caps.toList.map (R9 fr)).toArray)) σ
   | none=>uR P E kd (fun v σ=>Q (.pan v) σ) a (ABe P E kd res Q b) (fun _ _ _=>False) (aJ P res Q)
 | _=>fun _ _=>False
def aN (res:List ResultVar):List Nat:=res.map fun | .tmp t=>t | .cell a _=>a
def mR (N:Nat) (L:List Nat):AC→Bool
 | .seq a b=>match p5 a with
   | some _=>b.wf N L
   | none=>mR N L b
 | _=>false
def xfnD (P:Program) (E:BP) (fn:Func) (h:Nat→Option RY) (kd:Nat→VT) (args:List Value) (σ:AHeap) (Q:RK):Prop :=
 cond (Nat.beq args.length (fn.params.size+fn.nfree)) (ABe P E kd fn.results.toList Q (HO h (fn.body.getD .skip) 0).1 (GO (List.range (fn.params.size+fn.nfree)) args) σ) False
def tT (fn:Func) (h:Nat→Option RY):Bool:=XP fn h && mR fn.ntmps (aN fn.results.toList) (HO h (fn.body.getD .skip) 0).1
theorem sT {P:Program} (hm:P.follows .mixedOrders=true) {B:Nat} {w0:World} {fn:Func} {ρ0:List RB} {kd:Nat→VT} {Q:RK}:∀ (c:AC),c.wf fn.ntmps []=true→mR fn.ntmps (aN fn.results.toList) c=true→∀ ρ fr σ a w,EJ ρ0 ρ→FR ⟨fn.ntmps,[],[],fun _=>undef⟩ ρ fr a→CF B w0 ρ σ w→ABe P (Ev P) kd fn.results.toList Q c fr σ→c.erase.wp P (bodyPostD P fn fun e w'=>∃ r ρ' σ',Q r σ'∧AAu ρ' r e∧EJ ρ0 ρ'∧CF B w0 ρ' σ' w') a w:=by
 intro c
 induction c with
 | seq x y _ ihy =>
   intro hwf htl ρ fr σ a w e0 hf hr hx
   simp only [AC.wf,Bool.and_eq_true] at hwf
   unfold ABe at hx
   unfold mR at htl
   let C:Cx:=⟨fn.ntmps,[],[],fun _=>undef⟩
   cases hd:p5 x with
   | none =>
     rw [hd] at hx htl
     refine wp_seq (V9 hm x (C:=C) hwf.1 (ABe P (Ev P) kd fn.results.toList Q y) (fun _ _ _=>False) (aJ P fn.results.toList Q) _ ρ fr σ a w ?_ (fun i ρ2 fr2 σ2 a2 w2 _ _ _ hx2=>hx2.elim) ?_ (kp:=fun v σ=>Q (.pan v) σ) ?_ hf hr ?_)
     ·intro ρ2 fr2 σ2 a2 w2 e2 hf2 hr2 hx2
      exact ihy hwf.2 htl ρ2 fr2 σ2 a2 w2 (e0.trans e2) hf2 hr2 hx2
     ·intro ρ2 fr2 σ2 a2 w2 e2 hf2 hr2 hx2
      show Leaves P fn a2.tmps _ a2.defers .returning w2
      have hdf:a2.defers=[]:=hf2.kp.defers
      rw [hdf]
      obtain ⟨v,h3,r,h4,h5⟩:=V7 rfl hr2 (fun x _=>by cases x<;>exact hf2.val _) hx2
      exact ⟨v,h3,r,ρ2,σ2,h4,h5,e0.trans e2,hr2⟩
     ·intro ρ2 v v' σ2 a2 w2 e2 hk h2 hv hx2
      show Leaves P fn a2.tmps _ a2.defers _ w2
      have hdf:a2.defers=[]:=hk.defers
      rw [hdf]
      exact ⟨.pan v,ρ2,σ2,hx2,⟨v',rfl,hv⟩,e0.trans e2,h2⟩
     ·exact wD kd (fun _ _ h=>h) x (fun _ _ h=>h) (fun _ _ _ h=>h) (fun _ _ h=>h) _ _ hx
   | some q =>
     obtain ⟨t,g,caps,id,o1,o2⟩:=q
     rw [hd] at hx htl
     simp only at hx htl
     obtain ⟨hxa,d1,⟨first,d2,d2'⟩,d3,d4,⟨cl,d5,d6,d7⟩,d8⟩:=s8 hd
     subst d2'
     rw [hxa] at hwf ⊢
     have hcok:C.ok t:=SQ (List.all_eq_true.1 hwf.1 o1 (by simp)) t d1
     refine wp_seq (wp_region ?_)
     show wpOps P #[o1,o2] _ [0,1] a w
     unfold wpOps
     have g0:(#[o1,o2]:Array Oper)[0]?=some o1:=rfl
     rw [g0]
     simp only
     rw [if_pos (by simp [Region.wanted,d3])]
     refine .inl (X8 (C:=C) (kp:=fun _ _=>False) (K:=fun v σ'=>v=.func (.func g) #[] (caps.toList.map (R9 fr)).toArray∧σ'=σ) (fun x _=>hf.ev x) hr (by simp [OP,d2]) ?_ (fun ρ3 v v' σ3 a3 w3 _ _ _ _ hx3=>hx3.elim) hf.kp)
     rintro v σ1 ρ1 v' w1 ⟨rfl,rfl⟩ e1 hr1 hv1
     rw [d1]
     have hf1:FR C ρ1 (H6 fr (some t) (.func (.func g) #[] (caps.toList.map (R9 fr)).toArray)) (a.put (some t) v'):=(hf.mono e1).put hv1 (fun d hd=>by cases hd; exact hcok)
     unfold wpOps
     have g1:(#[o1,o2]:Array Oper)[1]?=some o2:=rfl
     rw [g1]
     simp only
     rw [if_pos (by simp [Region.wanted,d8])]
     refine .inl ?_
     have hvt:=hf1.val t
     have hft:B4 (H6 fr (some t) (.func (.func g) #[] (caps.toList.map (R9 fr)).toArray)) t=.func (.func g) #[] (caps.toList.map (R9 fr)).toArray:=by simp only [H6,H1,if_pos]
     rw [hft] at hvt
     generalize hfa:(a.put (some t) v').tmps.getD t undef=fa at hvt
     cases hvt with
     | func fn0 f1 f' c1 c' h1 h2 h3 h4 =>
       have hf'0:f'=#[]:=Array.eq_empty_of_size_eq_zero (by simpa using h1.symm)
       subst hf'0
       have hcaps:LR ρ1 (caps.toList.map (R9 fr)) c'.toList:=by
        have:=LR.of_arr h2 h4
        simpa using this
       unfold Oper.wp
       have hexec:(execOp (a.put (some t) v').eval o2).run P w1=.ok (.defer { target:=.fn (.func g) c',args:=#[] }) w1:=by
        have:o2={ o2 with op:=.defer cl }:=by rw [← d5]
        rw [this]
        have hev:(a.put (some t) v').eval (.tmp t)=.func (.func g) #[] c':=hfa
        simp [execOp,resolve,d6,d7,Deferred.ofValue,hev]
       rw [hexec,Oper.upon_defer,d4]
       unfold wpOps
       show y.erase.wp P _ { (a.put (some t) v') with defers:={ target:=.fn (.func g) c',args:=#[] }::(a.put (some t) v').defers } w1
       have hdf:(a.put (some t) v').defers=[]:=hf1.kp.defers
       rw [hdf]
       let d:Deferred:={ target:=.fn (.func g) c',args:=#[] }
       let a2:Act:={ (a.put (some t) v') with defers:=[d] }
       let C2:Cx:=⟨fn.ntmps,[d],aN fn.results.toList,fun t=>a2.tmps.getD t undef⟩
       have hf2:FR C2 ρ1 (H6 fr (some t) (.func (.func g) #[] (caps.toList.map (R9 fr)).toArray)) a2:=⟨hf1.val,rfl,hf1.kp.size,fun t _=>rfl⟩
       -- the end
       have hend:∀ (rv:Option Value) (u:FrameMode) (u':FrameMode) (ρ3:List RB) (σ3:AHeap) (a3:Act) (w3:World),EJ ρ1 ρ3→E7 C2 a3→CF B w0 ρ3 σ3 w3→(match rv with
        | none=>u=.returning∧u'=.returning
        | some v=>∃ v',VR ρ3 v v'∧u=.panicking [{ v:=v',recovered:=false }]∧u'=.panicking [{ v:=v',recovered:=true }])→Dv P g (caps.toList.map (R9 fr)) rv σ3 (fun σ'=>aJ P fn.results.toList Q (H6 fr (some t) (.func (.func g) #[] (caps.toList.map (R9 fr)).toArray)) σ')→Leaves P fn a3.tmps (fun e w'=>∃ r ρ' σ',Q r σ'∧AAu ρ' r e∧EJ ρ0 ρ'∧CF B w0 ρ' σ' w') a3.defers u w3:=by
        intro rv u u' ρ3 σ3 a3 w3 e3 hk3 hr3 hu hdv
        have hdf3:a3.defers=[d]:=hk3.defers
        rw [hdf3]
        obtain ⟨fg,q1,q2,q3,q4⟩:=hdv B w0 ρ3 w3 c'.toList hr3 (hcaps.mono e3)
        have hinv:(invoke (.fn (.func g) c') #[]).run P w3=.ok (.enter g c'.toList.toArray) w3:=by
         have:invoke (.fn (.func g) c') #[]=callFunc g (#[]++c'):=rfl
         rw [this]
         simpa using S1 (args:=c') q1 q2 q3 (w:=w3)
        have hset:settle u'=.returning:=by
         cases rv with
         | none=>obtain ⟨_,rfl⟩:=hu; rfl
         | some v=>obtain ⟨v',_,_,rfl⟩:=hu; rfl
        have hur:u≠.run:=by
         cases rv with
         | none=>obtain ⟨rfl,_⟩:=hu; simp
         | some v=>obtain ⟨v',_,rfl,_⟩:=hu; simp
        refine leaves_cons hur hinv ((q4 u u' hu).mono ?_)
        rintro e u2 w4 ⟨⟨vr,rfl⟩,rfl,ρ4,σ4,hK,e4,hr4⟩
        simp only
        rw [hset]
        obtain ⟨v,h5,r,h6,h7⟩:=V7 (fn:=fn) rfl hr4 (fr:=H6 fr (some t) (.func (.func g) #[] (caps.toList.map (R9 fr)).toArray)) (tmps:=a3.tmps) (fun x hx=>by
         have key:∀ s,s∈aN fn.results.toList→VR ρ4 (B4 (H6 fr (some t) (.func (.func g) #[] (caps.toList.map (R9 fr)).toArray)) s) (a3.tmps.getD s undef):=by
          intro s hs
          rw [hk3.keep s hs]
          exact (hf2.val s).mono (e3.trans e4)
         cases x with
         | tmp s=>exact key s (List.mem_map.2 ⟨.tmp s,hx,rfl⟩)
         | cell s ty=>exact key s (List.mem_map.2 ⟨.cell s ty,hx,rfl⟩)) hK
        exact ⟨v,h5,r,ρ4,σ4,h6,h7,((e0.trans e1).trans e3).trans e4,hr4⟩
       refine V9 hm y (C:=C2) htl _ _ _ _ ρ1 _ σ1 a2 w1 ?_ (fun i ρ2 fr2 σ2 a2 w2 _ _ _ hx2=>hx2.elim) ?_ ?_ hf2 hr1 (wD kd (fun _ _ h=>h) y (fun _ _ h=>h) (fun _ _ _ h=>h) (fun _ _ h=>h) _ _ hx)
       ·intro ρ3 fr3 σ3 a3 w3 e3 hf3 hr3 hx3
        exact hend none .returning .returning ρ3 σ3 a3 w3 e3 hf3.kp hr3 ⟨rfl,rfl⟩ hx3
       ·intro ρ3 fr3 σ3 a3 w3 e3 hf3 hr3 hx3
        exact hend none .returning .returning ρ3 σ3 a3 w3 e3 hf3.kp hr3 ⟨rfl,rfl⟩ hx3
       ·intro ρ3 v v' σ3 a3 w3 e3 hk3 hr3 hv3 hx3
        exact hend (some v) _ _ ρ3 σ3 a3 w3 e3 hk3 hr3 ⟨v',hv3,rfl,rfl⟩ hx3
 | _=>intro _ _ ρ fr σ a w _ _ _ hx; exact hx.elim
theorem Ev.xfnD {P:Program} (hm:P.follows .mixedOrders=true) {f:FuncId} {fn:Func} (hf:P.funcs[f]?=some fn) (h:Nat→Option RY) (kd:Nat→VT) (hc:tT fn h=true) {args:List Value} {σ:AHeap} {Q:RK} (hx:Go.Ax.xfnD P (Ev P) fn h kd args σ Q):Ev P f args σ Q:=by
 unfold tT XP at hc
 simp only [Bool.and_eq_true,Bool.not_eq_true'] at hc
 obtain ⟨⟨⟨⟨h1,h2⟩,h3⟩,h4⟩,h5⟩:=hc
 obtain ⟨c,hcb⟩:=Option.isSome_iff_exists.1 h1
 rw [hcb] at h2 h5
 simp only [Option.getD_some] at h2 h5
 unfold Go.Ax.xfnD at hx
 rw [hcb] at hx
 simp only [Option.getD_some] at hx
 cases hlen:Nat.beq args.length (fn.params.size+fn.nfree) with
 | false=>rw [hlen] at hx; exact hx.elim
 | true =>
   rw [hlen] at hx
   simp only [cond_true] at hx
   have hlen:=Nat.eq_of_beq_eq_true hlen
   intro B w0 ρ w args' hr ha
   refine ⟨fn,hf,h4,.inl ⟨by simp [hcb],?_⟩⟩
   refine calls_of_wp_defers hf hcb ?_
   have hstart:=FR.start ha hlen (Nat.le_of_ble_eq_true h3)
   have:=sT hm (ρ0:=ρ) (B:=B) (w0:=w0) (kd:=kd) (Q:=Q) (HO h c 0).1 h2 h5 ρ _ σ _ w (EJ.refl _) hstart hr hx
   rw [YA] at this
   exact this
end Go.Ax
namespace Go.Ax.C
open Go.Proofs
noncomputable abbrev P:Program:=Tryz.prog
theorem AFT:∃ e:BP,e=Ev P:=⟨_,rfl⟩
noncomputable def E:BP:=Classical.choose AFT
theorem j6:E=Ev P:=Classical.choose_spec AFT
theorem mixed:P.follows .mixedOrders=true:=Tryz.checked.mixed
theorem B0 {f:FuncId} {fn:Func} (hf:P.funcs[f]?=some fn) (h:Nat→Option RY) (kd:Nat→VT) (hc:XP fn h=true) {args:List Value} {σ:AHeap} {Q:RK} (hx:xfn P E fn h kd args σ Q):E f args σ Q:=by
 rw [j6] at hx ⊢
 exact Ev.xfn mixed hf h kd hc hx
theorem ADJ {f:FuncId} {fn:Func} (hf:P.funcs[f]?=some fn) (h:Nat→Option RY) (kd:Nat→VT) (hc:tT fn h=true) {args:List Value} {σ:AHeap} {Q:RK} (hx:xfnD P E fn h kd args σ Q):E f args σ Q:=by
 rw [j6] at hx ⊢
 exact Ev.xfnD mixed hf h kd hc hx
theorem ADT {g:FuncId} {fn:Func} (hf:P.funcs[g]?=some fn) (h:Nat→Option RY) (kd:Nat→VT) (hc:XP fn h=true) {caps:List Value} {rv:Option Value} {σ:AHeap} {K:AHeap→Prop} (hx:AAK P E fn h kd caps rv σ K):Dv P g caps rv σ K:=by
 rw [j6] at hx
 exact Dv.of mixed hf h kd hc hx
end Go.Ax.C
namespace Go.Ax
abbrev C5:FuncId:=99
abbrev F2:FuncId:=66
abbrev ER:FuncId:=62
abbrev EW:FuncId:=120
abbrev EA:FuncId:=121
abbrev EM:FuncId:=122
abbrev JI:FuncId:=159
abbrev QH:FuncId:=60
abbrev NZ:FuncId:=214
abbrev L8:FuncId:=215
abbrev N9:FuncId:=222
abbrev LS:FuncId:=223
abbrev MB:FuncId:=216
abbrev iT:FuncId:=163
abbrev WA:FuncId:=124
abbrev SX:FuncId:=187
abbrev FM:FuncId:=119
abbrev OC:FuncId:=158
abbrev ML:FuncId:=125
abbrev KF:FuncId:=185
abbrev IN:FuncId:=191
abbrev MH:FuncId:=190
abbrev IK:FuncId:=164
abbrev TI:FuncId:=58
abbrev YE:FuncId:=143
abbrev J1:FuncId:=144
abbrev K6:FuncId:=142
abbrev LF:FuncId:=71
abbrev PF:FuncId:=177
abbrev IC:FuncId:=174
abbrev QR:FuncId:=175
abbrev HQ:FuncId:=128
abbrev MA:FuncId:=217
abbrev LK:FuncId:=218
abbrev LT:FuncId:=220
abbrev KU:FuncId:=221
abbrev K3:FuncId:=219
abbrev YF:FuncId:=161
abbrev V2:FuncId:=176
abbrev MM:FuncId:=129
abbrev KB:FuncId:=160
abbrev HD:FuncId:=165
abbrev LZ:FuncId:=186
abbrev OR:FuncId:=81
abbrev U2:FuncId:=141
abbrev NK:FuncId:=75
abbrev M6:FuncId:=78
abbrev MC:FuncId:=133
abbrev QE:FuncId:=140
abbrev PH:FuncId:=172
abbrev PA:FuncId:=173
abbrev MX:FuncId:=83
abbrev LU:FuncId:=137
abbrev L4:FuncId:=131
abbrev Q0:FuncId:=166
abbrev OU:FuncId:=136
abbrev N5:FuncId:=170
abbrev N0:FuncId:=171
abbrev F5:FuncId:=132
abbrev HL:FuncId:=130
abbrev SW:FuncId:=135
abbrev OK:FuncId:=15
abbrev VP:FuncId:=32
abbrev R4:FuncId:=5
abbrev QZ:FuncId:=14
abbrev GG:FuncId:=90
abbrev S4:FuncId:=69
abbrev X2:FuncId:=64
abbrev UH:FuncId:=68
abbrev CR:FuncId:=127
abbrev J9:FuncId:=126
abbrev I1:FuncId:=123
abbrev M3:FuncId:=162
abbrev X9:FuncId:=59
abbrev EQ:FuncId:=23
abbrev HJ:FuncId:=31
abbrev EN:FuncId:=22
abbrev DY:FuncId:=29
abbrev KQ:FuncId:=21
abbrev EU:FuncId:=30
abbrev JD:FuncId:=86
abbrev SG:FuncId:=87
abbrev RT:FuncId:=88
abbrev DW:FuncId:=70
abbrev HI:FuncId:=89
abbrev CL:FuncId:=167
abbrev DO:FuncId:=189
abbrev DN:FuncId:=138
abbrev HE:FuncId:=193
abbrev CI:FuncId:=134
abbrev BY:FuncId:=192
abbrev JP:FuncId:=168
abbrev I4:FuncId:=188
abbrev E6:FuncId:=169
abbrev TB:FuncId:=67
abbrev TA:FuncId:=65
abbrev JS:FuncId:=24
abbrev D9:FuncId:=72
abbrev H3:FuncId:=26
abbrev gV:FuncId:=28
abbrev Q6:FuncId:=27
abbrev DD:FuncId:=82
abbrev EP:FuncId:=18
abbrev GB:FuncId:=19
abbrev CH:FuncId:=17
abbrev EZ:FuncId:=25
abbrev DB:FuncId:=63
abbrev PZ:FuncId:=74
abbrev CP:FuncId:=85
abbrev NO:FuncId:=73
abbrev N8:FuncId:=84
abbrev TW:FuncId:=139
abbrev CW:FuncId:=77
abbrev FJ:FuncId:=76
abbrev I8:FuncId:=80
abbrev MZ:FuncId:=79
abbrev U1:TypeId:=31
abbrev AG:TypeId:=24
abbrev CQ:TypeId:=4
abbrev AZ:TypeId:=229
abbrev EC:TypeId:=233
abbrev E8:TypeId:=224
abbrev E9:TypeId:=278
abbrev E3:TypeId:=244
abbrev AA0:TypeId:=20
abbrev BQ:TypeId:=3
abbrev BJ:TypeId:=59
abbrev AM:TypeId:=35
abbrev BD:TypeId:=225
abbrev AI:TypeId:=56
abbrev H5:TypeId:=240
abbrev AN:TypeId:=230
abbrev BG:TypeId:=272
abbrev MU:TypeId:=130
abbrev DP:TypeId:=246
abbrev BT:TypeId:=153
abbrev UG:TypeId:=22
abbrev Y0:TypeId:=69
abbrev EE:TypeId:=148
abbrev JA:TypeId:=248
abbrev AB:TypeId:=161
abbrev A6:TypeId:=159
abbrev AJ:TypeId:=25
abbrev AL:TypeId:=5
end Go.Ax
set_option linter.unusedVariables false
set_option maxRecDepth 100000
namespace Go.Ax.C
open Go.Proofs
def XU (E:BP) (Q:RK) (x0:Int) (σ:AHeap):Prop :=
 If (decide (1≤x0)) (
 Q (.ret (.bool (decide (x0≤8)))) σ) (
 Q (.ret (.bool false)) σ)
theorem jZ {Q:RK} {x0:Int} {σ:AHeap} (h:XU E Q x0 σ):E M3 [(.int .i64 x0)] σ Q :=
 B0 Tryz.func162 (fun _=>none) (fun _=>.v) (by kernel_rfl) (Eq.mpr (by kernel_rfl) h)
def V3 (N1:Value→Int→AHeap→Prop) (E:BP) (Q:RK) (n26:Int) (v19:Value) (n20:Int) (τ27:AHeap):Prop :=
 If (decide (0≤n20)) (
 Bi (FC (8*n20)) fun n37 =>
 Bi (HW (n37)) fun n38 =>
 A2 .u64 (BF (some (.int .u64)) .shr (.int .u64 n26) (.int .u64 n38)) fun n39 =>
 Bi (wu8 (n39)) fun n40 =>
 BE τ27 (.cells [(.int .u8 n40)] AL false) fun b41 τ42 =>
 pu (BZ AL 1 1 v19 (.slice (some ⟨b41,0,none⟩) 1 1) τ42) fun r43 =>
 Bi (FC (n20 - 1)) fun n46 =>
 N1 r43.1 n46 r43.2) (
 Q (.ret v19) τ27)
def cY (E:BP) (Q:RK) (x0:Value) (x1 x2:Int) (σ:AHeap):Prop :=
 E C5 [x0] σ (cV Q fun v4 τ3 =>
 E M3 [(.int .i64 x2)] τ3 (cB Q fun c9 τ8 =>
 If (!c9) (
 Q (.ret v4) τ8) (
 Bi (FC (x2 - 1)) fun n17 =>
 ∃ I50:Nat→Value→Int→AHeap→Prop,(∃ m,I50 m v4 n17 τ8)∧∀ m (v19:Value) (n20:Int) (σ':AHeap),I50 m v19 n20 σ'→(V3 (fun v19 n20 σ'=>∃ m',m'<m∧I50 m' v19 n20 σ') E Q x1 v19 n20 σ'))))
theorem p6 {Q:RK} {x0:Value} {x1 x2:Int} {σ:AHeap} (h:cY E Q x0 x1 x2 σ):E I1 [x0,(.int .u64 x1),(.int .i64 x2)] σ Q :=
 B0 Tryz.func123 (hl [(2,.loopr [1] [7,8] [7] [7,8])]) (fun | 8=>(.i .i64) | _=>.v) (by kernel_rfl) (Eq.mpr (by kernel_rfl) h)
def UB (N1:Int→Int→AHeap→Prop) (E:BP) (Q:RK) (v30:Value) (n32 n27 n28:Int) (τ33:AHeap):Prop :=
 If (decide (n28<n32)) (
 om (AE 1 v30 (.int .i64 n28)) fun v41 =>
 A2 .u8 (AF false 1 v41 τ33) fun n42 =>
 A2 .u64 (BF (some (.int .u64)) .shl (.int .u64 n27) (.int .u64 8)) fun n47 =>
 Bi (HW (n42)) fun n49 =>
 Bi (HW ((BitVec.ofInt 64 n47 ||| BitVec.ofInt 64 n49).toNat)) fun n50 =>
 Bi (FC (n28+1)) fun n54 =>
 N1 n50 n54 τ33) (
 Q (.ret (.tuple #[(.int .u64 n27),(.int .i64 0)])) τ33)
def cZ (E:BP) (Q:RK) (x0:Value) (x1:Int) (σ:AHeap):Prop :=
 E M3 [(.int .i64 x1)] σ (cB Q fun c4 τ3 =>
 If (!c4) (
 Q (.ret (.tuple #[(.int .u64 0),(.int .i64 1)])) τ3) (
 A2 .i64 (BH x0) fun n11 =>
 If (decide (n11<x1)) (
 Q (.ret (.tuple #[(.int .u64 0),(.int .i64 4)])) τ3) (
 om (A7 1 x0 none (some (.int .i64 x1)) none) fun v24 =>
 A2 .i64 (BH v24) fun n25 =>
 ∃ I58:Nat→Int→Int→AHeap→Prop,(∃ m,I58 m 0 0 τ3)∧∀ m (n27:Int) (n28:Int) (σ':AHeap),I58 m n27 n28 σ'→(UB (fun n27 n28 σ'=>∃ m',m'<m∧I58 m' n27 n28 σ') E Q v24 n25 n27 n28 σ'))))
theorem pX {Q:RK} {x0:Value} {x1:Int} {σ:AHeap} (h:cZ E Q x0 x1 σ):E J9 [x0,(.int .i64 x1)] σ Q :=
 B0 Tryz.func126 (hl [(3,.loopr [18,19] [6,20] [6] [6,20])]) (fun | 6=>(.i .u64) | 20=>(.i .i64) | _=>.v) (by kernel_rfl) (Eq.mpr (by kernel_rfl) h)
def TJ (N1:Int→Int→AHeap→Prop) (E:BP) (Q:RK) (n3 n4:Int) (τ5:AHeap):Prop :=
 If (decide (n4<8)) (
 A2 .u32 (BF (some (.int .u32)) .shr (.int .u32 n3) (.int .u64 1)) fun n11 =>
 Bi (aX ((BitVec.ofInt 32 n3 &&& BitVec.ofInt 32 1).toNat)) fun n12 =>
 Bi (aX (0 - n12)) fun n13 =>
 Bi (aX ((BitVec.ofInt 32 2197175160 &&& BitVec.ofInt 32 n13).toNat)) fun n14 =>
 Bi (aX ((BitVec.ofInt 32 n11 ^^^ BitVec.ofInt 32 n14).toNat)) fun n15 =>
 Bi (FC (n4+1)) fun n20 =>
 N1 n15 n20 τ5) (
 Q (.ret (.int .u32 n3)) τ5)
def ZM (E:BP) (Q:RK) (x0:Int) (σ:AHeap):Prop :=
 ∃ I24:Nat→Int→Int→AHeap→Prop,(∃ m,I24 m x0 0 σ)∧∀ m (n3:Int) (n4:Int) (σ':AHeap),I24 m n3 n4 σ'→(TJ (fun n3 n4 σ'=>∃ m',m'<m∧I24 m' n3 n4 σ') E Q  n3 n4 σ')
theorem mV {Q:RK} {x0:Int} {σ:AHeap} (h:ZM E Q x0 σ):E SX [(.int .u32 x0)] σ Q :=
 B0 Tryz.func187 (hl [(1,.loopr [] [0,3] [0] [0,3])]) (fun | 0=>(.i .u32) | 3=>(.i .i64) | _=>.v) (by kernel_rfl) (Eq.mpr (by kernel_rfl) h)
def XK (N1:Int→Int→AHeap→Prop) (E:BP) (Q:RK) (v12:Value) (n14 n9 n10:Int) (τ15:AHeap):Prop :=
 If (decide (n10<n14)) (
 om (AE 1 v12 (.int .i64 n10)) fun v23 =>
 A2 .u8 (AF false 1 v23 τ15) fun n24 =>
 Bi (aX (n24)) fun n30 =>
 Bi (aX ((BitVec.ofInt 32 n9 ^^^ BitVec.ofInt 32 n30).toNat)) fun n31 =>
 E SX [(.int .u32 n31)] τ15 (cI Q .u32 fun n33 τ32 =>
 Bi (FC (n10+1)) fun n37 =>
 N1 n33 n37 τ32)) (
 A2 .u32 (sB .xor (.int .u32 n9)) fun n41 =>
 Q (.ret (.int .u32 n41)) τ15)
def iX (E:BP) (Q:RK) (x0:Int) (x1:Value) (σ:AHeap):Prop :=
 A2 .u32 (sB .xor (.int .u32 x0)) fun n3 =>
 A2 .i64 (BH x1) fun n7 =>
 ∃ I42:Nat→Int→Int→AHeap→Prop,(∃ m,I42 m n3 0 σ)∧∀ m (n9:Int) (n10:Int) (σ':AHeap),I42 m n9 n10 σ'→(XK (fun n9 n10 σ'=>∃ m',m'<m∧I42 m' n9 n10 σ') E Q x1 n7 n9 n10 σ')
theorem tD {Q:RK} {x0:Int} {x1:Value} {σ:AHeap} (h:iX E Q x0 x1 σ):E iT [(.int .u32 x0),x1] σ Q :=
 B0 Tryz.func163 (hl [(1,.loopr [10,11] [5,12] [5] [5,12])]) (fun | 5=>(.i .u32) | 12=>(.i .i64) | _=>.v) (by kernel_rfl) (Eq.mpr (by kernel_rfl) h)
def lD (E:BP) (Q:RK) (x0:Value) (σ:AHeap):Prop :=
 E iT [(.int .u32 0),x0] σ (cI Q .u32 fun n4 τ3 =>
 Q (.ret (.int .u32 n4)) τ3)
theorem yS {Q:RK} {x0:Value} {σ:AHeap} (h:lD E Q x0 σ):E WA [x0] σ Q :=
 B0 Tryz.func124 (fun _=>none) (fun _=>.v) (by kernel_rfl) (Eq.mpr (by kernel_rfl) h)
def ZI (E:BP) (Q:RK) (x0:Value) (x1 x2:Int) (σ:AHeap):Prop :=
 A2 .i64 (BH x0) fun n3 =>
 If (decide (240<n3)) (
 Q (.ret (.tuple #[(.slice none 0 0),(.int .i64 3)])) σ) (
 pu (PC AL 1 [(.int .u8 0)] (.int .i64 240) (.int .i64 256) σ) fun r7 =>
 pu (LM 1 r7.1 x0 r7.2) fun r13 =>
 Bi (HW (x1)) fun n21 =>
 E I1 [r7.1,(.int .u64 n21),(.int .i64 8)] r13.2 (cV Q fun v23 τ22 =>
 Bi (HW (x2)) fun n32 =>
 E I1 [v23,(.int .u64 n32),(.int .i64 4)] τ22 (cV Q fun v34 τ33 =>
 E WA [v34] τ33 (cI Q .u32 fun n38 τ37 =>
 Bi (HW (n38)) fun n39 =>
 E I1 [v34,(.int .u64 n39),(.int .i64 4)] τ37 (cV Q fun v41 τ40 =>
 Q (.ret (.tuple #[v41,(.int .i64 0)])) τ40)))))
theorem mQ {Q:RK} {x0:Value} {x1 x2:Int} {σ:AHeap} (h:ZI E Q x0 x1 x2 σ):E TA [x0,(.int .i64 x1),(.int .u8 x2)] σ Q :=
 B0 Tryz.func65 (fun _=>none) (fun _=>.v) (by kernel_rfl) (Eq.mpr (by kernel_rfl) h)
def ZG (E:BP) (Q:RK) (x0:Value) (x1 x2:Int) (σ:AHeap):Prop :=
 A2 .i64 (BH x0) fun n3 =>
 If (decide (n3<256)) (
 Q (.ret (.tuple #[(.slice none 0 0),(.int .i64 4)])) σ) (
 A2 .i64 (BH x0) fun n7 =>
 If (decide (256<n7)) (
 Q (.ret (.tuple #[(.slice none 0 0),(.int .i64 3)])) σ) (
 om (A7 1 x0 (some (.int .i64 252)) none none) fun v13 =>
 E J9 [v13,(.int .i64 4)] σ (c2 Q fun v15 v17 τ14 =>
 tI .u64 (fun n16 =>
 tI .i64 (fun n18 =>
 om (A7 1 x0 (some (.int .i64 240)) none none) fun v21 =>
 E J9 [v21,(.int .i64 8)] τ14 (c2 Q fun v23 v25 τ22 =>
 tI .u64 (fun n24 =>
 tI .i64 (fun n26 =>
 om (A7 1 x0 (some (.int .i64 248)) none none) fun v29 =>
 E J9 [v29,(.int .i64 4)] τ22 (c2 Q fun v31 v33 τ30 =>
 tI .u64 (fun n32 =>
 tI .i64 (fun n34 =>
 om (A7 1 x0 none (some (.int .i64 252)) none) fun v40 =>
 E WA [v40] τ30 (cI Q .u32 fun n42 τ41 =>
 Bi (HW (n42)) fun n43 =>
 If (!decide (n16=n43)) (
 Q (.ret (.tuple #[(.slice none 0 0),(.int .i64 20)])) τ41) (
 Bi (HW (x1)) fun n57 =>
 If (!decide (n24=n57)) (
 Q (.ret (.tuple #[(.slice none 0 0),(.int .i64 21)])) τ41) (
 Bi (HW (x2)) fun n72 =>
 If (!decide (n32=n72)) (
 Q (.ret (.tuple #[(.slice none 0 0),(.int .i64 22)])) τ41) (
 om (A7 1 x0 none (some (.int .i64 240)) (some (.int .i64 240))) fun v80 =>
 E C5 [v80] τ41 (cV Q fun v82 τ81 =>
 Q (.ret (.tuple #[v82,(.int .i64 0)])) τ81)))))) v33) v31)) v25) v23)) v17) v15)))
theorem mZ {Q:RK} {x0:Value} {x1 x2:Int} {σ:AHeap} (h:ZG E Q x0 x1 x2 σ):E TB [x0,(.int .i64 x1),(.int .u8 x2)] σ Q :=
 B0 Tryz.func67 (fun _=>none) (fun _=>.v) (by kernel_rfl) (Eq.mpr (by kernel_rfl) h)
def H2 (N1:Int→AHeap→Prop) (E:BP) (Q:RK) (c43:Bool) (n45:Int) (τ42:AHeap):Prop :=
 If c43 (
 Q (.ret (.bool false)) τ42) (
 Bi (FC (n45+1)) fun n48 =>
 N1 n48 τ42)
def XH (N1:Int→AHeap→Prop) (E:BP) (Q:RK) (b17:Nat) (v19:Value) (n21 n15:Int) (τ22:AHeap):Prop :=
 If (decide (n15<n21)) (
 om (AE 1 v19 (.int .i64 n15)) fun v30 =>
 A2 .u64 (AF false 1 v30 τ22) fun n31 =>
 If (decide (0<n15)) (
 om (L b17 1 τ22) fun v38 =>
 Bi (FC (n15 - 1)) fun n39 =>
 om (AE 1 v38 (.int .i64 n39)) fun v40 =>
 A2 .u64 (AF false 1 v40 τ22) fun n41 =>
 If (decide (n31≤n41)) (
 (H2 N1 E Q true n15 τ22)) (
 om (L b17 2 τ22) fun v49 =>
 om (AE 1 v49 (.int .i64 n15)) fun v50 =>
 A2 .u64 (AF false 1 v50 τ22) fun n51 =>
 (H2 N1 E Q (decide (n51=0)) n15 τ22))) (
 om (L b17 2 τ22) fun v52 =>
 om (AE 1 v52 (.int .i64 n15)) fun v53 =>
 A2 .u64 (AF false 1 v53 τ22) fun n54 =>
 (H2 N1 E Q (decide (n54=0)) n15 τ22))) (
 Q (.ret (.bool true)) τ22)
def H4 (E:BP) (Q:RK) (c8:Bool) (b10:Nat) (τ7:AHeap):Prop :=
 If c8 (
 Q (.ret (.bool false)) τ7) (
 om (L b10 1 τ7) fun v12 =>
 A2 .i64 (BH v12) fun n13 =>
 ∃ I56:Nat→Int→AHeap→Prop,(∃ m,I56 m 0 τ7)∧∀ m (n15:Int) (σ':AHeap),I56 m n15 σ'→(XH (fun n15 σ'=>∃ m',m'<m∧I56 m' n15 σ') E Q b10 v12 n13 n15 σ'))
def gR (E:BP) (Q:RK) (x0_0:Bool) (x0_1 x0_2:Value) (σ:AHeap):Prop :=
 BE σ (.cells [(.bool x0_0),x0_1,x0_2] AG false) fun b1 τ2 =>
 om (L b1 1 τ2) fun v5 =>
 A2 .i64 (BH v5) fun n6 =>
 If (decide (n6<1)) (
 (H4 E Q true b1 τ2)) (
 om (L b1 1 τ2) fun v58 =>
 A2 .i64 (BH v58) fun n59 =>
 If (decide (8<n59)) (
 (H4 E Q true b1 τ2)) (
 om (L b1 2 τ2) fun v60 =>
 A2 .i64 (BH v60) fun n61 =>
 om (L b1 1 τ2) fun v62 =>
 A2 .i64 (BH v62) fun n63 =>
 (H4 E Q (!decide (n61=n63)) b1 τ2)))
theorem uU {Q:RK} {x0_0:Bool} {x0_1 x0_2:Value} {σ:AHeap} (h:gR E Q x0_0 x0_1 x0_2 σ):E S4 [(.agg #[(.bool x0_0),x0_1,x0_2])] σ Q :=
 B0 Tryz.func69 (hl [(2,.loopr [1,25,26] [27] [2] [2,27])]) (fun | 27=>(.i .i64) | _=>.v) (by kernel_rfl) (Eq.mpr (by kernel_rfl) h)
def XG (N1:Value→Int→AHeap→Prop) (E:BP) (Q:RK) (b38:Nat) (v40:Value) (n42:Int) (v35:Value) (n36:Int) (τ43:AHeap):Prop :=
 If (decide (n36<n42)) (
 om (AE 1 v40 (.int .i64 n36)) fun v51 =>
 A2 .u64 (AF false 1 v51 τ43) fun n52 =>
 om (L b38 2 τ43) fun v61 =>
 om (AE 1 v61 (.int .i64 n36)) fun v63 =>
 A2 .u64 (AF false 1 v63 τ43) fun n64 =>
 E I1 [v35,(.int .u64 n52),(.int .i64 8)] τ43 (cV Q fun v66 τ65 =>
 om (L b38 2 τ65) fun v67 =>
 AX v67 v61=true∧A2 .u64 (AF false 1 v63 τ65) fun n68 =>
 AX (.int .u64 n68) (.int .u64 n64)=true∧E I1 [v66,(.int .u64 n64),(.int .i64 8)] τ65 (cV Q fun v70 τ69 =>
 Bi (FC (n36+1)) fun n74 =>
 N1 v70 n74 τ69))) (
 Q (.ret (.tuple #[v35,(.int .i64 0)])) τ43)
def MY (E:BP) (Q:RK) (b31:Nat) (v79:Value) (τ29:AHeap):Prop :=
 om (L b31 1 τ29) fun v32 =>
 A2 .i64 (BH v32) fun n33 =>
 ∃ I78:Nat→Value→Int→AHeap→Prop,(∃ m,I78 m v79 0 τ29)∧∀ m (v35:Value) (n36:Int) (σ':AHeap),I78 m v35 n36 σ'→(XG (fun v35 n36 σ'=>∃ m',m'<m∧I78 m' v35 n36 σ') E Q b31 v32 n33 v35 n36 σ')
def iM (E:BP) (Q:RK) (x0_0:Bool) (x0_1 x0_2:Value) (σ:AHeap):Prop :=
 BE σ (.cells [(.bool x0_0),x0_1,x0_2] AG false) fun b1 τ2 =>
 DF (L b1 0 τ2) fun c5 =>
 om (L b1 1 τ2) fun v6 =>
 om (L b1 2 τ2) fun v7 =>
 E S4 [(.agg #[(.bool c5),v6,v7])] τ2 (cB Q fun c9 τ8 =>
 If (!c9) (
 Q (.ret (.tuple #[(.slice none 0 0),(.int .i64 1)])) τ8) (
 om (L b1 1 τ8) fun v15 =>
 A2 .i64 (BH v15) fun n16 =>
 Bi (wu8 (n16)) fun n17 =>
 BE τ8 (.cells [(.int .u8 0),(.int .u8 n17)] AL false) fun b18 τ19 =>
 DF (L b1 0 τ19) fun c22 =>
 If c22 (
 om (AE 1 (.slice (some ⟨b18,0,none⟩) 2 2) (.int .i64 0)) fun v27 =>
 pu (AP 1 v27 (.int .u8 1) τ19) fun τ28 =>
 (MY E Q b1 (.slice (some ⟨b18,0,none⟩) 2 2) τ28)) (
 (MY E Q b1 (.slice (some ⟨b18,0,none⟩) 2 2) τ19))))
theorem tJ {Q:RK} {x0_0:Bool} {x0_1 x0_2:Value} {σ:AHeap} (h:iM E Q x0_0 x0_1 x0_2 σ):E X2 [(.agg #[(.bool x0_0),x0_1,x0_2])] σ Q :=
 B0 Tryz.func64 (hl [(3,.loopr [1,20,21] [4,22] [4] [4,22]),(6,.ord ([(0,[]),(1,[])]++il 3 5++[(2,[4,7]),(8,[]),(9,[])]))]) (fun | 22=>(.i .i64) | _=>.v) (by kernel_rfl) (Eq.mpr (by kernel_rfl) h)
def GW (E:BP) (Q:RK) (n21 n23:Int) (τ18:AHeap):Prop :=
 Q (.ret (.tuple #[(.int .u64 n21),(.int .i64 n23)])) τ18
def NI (E:BP) (Q:RK) (x0:Nat) (σ:AHeap):Prop :=
 om (L x0 0 σ) fun v3 =>
 E J9 [v3,(.int .i64 8)] σ (c2 Q fun v5 v7 τ4 =>
 tI .u64 (fun n6 =>
 tI .i64 (fun n8 =>
 If (decide (n8=0)) (
 om (L x0 0 τ4) fun v15 =>
 om (A7 1 v15 (some (.int .i64 8)) none none) fun v16 =>
 St x0 0 v16 τ4 fun τ17 =>
 (GW E Q n6 n8 τ17)) (
 (GW E Q n6 n8 τ4))) v7) v5)
theorem U0 {Q:RK} {x0:Nat} {σ:AHeap} (h:NI E Q x0 σ):E CR [(.pointer (some ⟨x0,0,none⟩))] σ Q :=
 B0 Tryz.func127 (fun _=>none) (fun _=>.v) (by kernel_rfl) (Eq.mpr (by kernel_rfl) h)
def HX (N1:Int→AHeap→Prop) (E:BP) (Q:RK) (n224:Int) (b227 b228 b230:Nat) (τ222:AHeap):Prop :=
 Bi (FC (n224+1)) fun n225 =>
 N1 n225 τ222
def FV (N1:Int→AHeap→Prop) (E:BP) (Q:RK) (c140:Bool) (b142 b144 b146:Nat) (n148:Int) (v154:Value) (n199:Int) (τ139:AHeap):Prop :=
 If c140 (
 pu (AP 3 (.pointer (some ⟨b142,0,none⟩)) (.agg #[(.bool false),(.slice none 0 0),(.slice none 0 0)]) τ139) fun τ143 =>
 pu (AF true 3 (.pointer (some ⟨b142,0,none⟩)) τ143) fun v149 =>
 Q (.ret (.tuple #[v149,(.int .i64 5)])) τ143) (
 wF v154 fun g253 a254 c255 =>
 E g253 (a254++[]++c255) τ139 (c2 Q fun v157 v159 τ156 =>
 tI .u64 (fun n158 =>
 tI .i64 (fun n160 =>
 If (!decide (n160=0)) (
 pu (AP 3 (.pointer (some ⟨b142,0,none⟩)) (.agg #[(.bool false),(.slice none 0 0),(.slice none 0 0)]) τ156) fun τ169 =>
 pu (AF true 3 (.pointer (some ⟨b142,0,none⟩)) τ169) fun v179 =>
 Q (.ret (.tuple #[v179,(.int .i64 n160)])) τ169) (
 If (decide (n158=0)) (
 pu (AP 3 (.pointer (some ⟨b142,0,none⟩)) (.agg #[(.bool false),(.slice none 0 0),(.slice none 0 0)]) τ156) fun τ188 =>
 pu (AF true 3 (.pointer (some ⟨b142,0,none⟩)) τ188) fun v195 =>
 Q (.ret (.tuple #[v195,(.int .i64 5)])) τ188) (
 om (L b144 1 τ156) fun v198 =>
 om (L b144 2 τ156) fun v206 =>
 (
 BE τ156 (.cells [(.int .u64 n199)] AJ false) fun b209 τ210 =>
 om (L b144 1 τ210) fun v211 =>
 AX v211 v198=true∧om (L b144 2 τ210) fun v212 =>
 AX v212 v206=true∧(
 pu (BZ AJ 1 8 v198 (.slice (some ⟨b209,0,none⟩) 1 1) τ210) fun r213 =>
 om (L b144 2 r213.2) fun v214 =>
 AX v214 v206=true∧BE r213.2 (.cells [(.int .u64 n158)] AJ false) fun b215 τ216 =>
 om (L b144 1 τ216) fun v217 =>
 AX v217 v198=true∧om (L b144 2 τ216) fun v218 =>
 AX v218 v206=true∧pu (BZ AJ 1 8 v206 (.slice (some ⟨b215,0,none⟩) 1 1) τ216) fun r219 =>
 St b144 1 r213.1 r219.2 fun τ220 =>
 St b144 2 r219.1 τ220 fun τ221 =>
 (HX N1 E Q n148 b142 b144 b146 τ221))∧(
 BE τ210 (.cells [(.int .u64 n158)] AJ false) fun b231 τ232 =>
 om (L b144 1 τ232) fun v233 =>
 AX v233 v198=true∧om (L b144 2 τ232) fun v234 =>
 AX v234 v206=true∧pu (BZ AJ 1 8 v198 (.slice (some ⟨b209,0,none⟩) 1 1) τ232) fun r235 =>
 om (L b144 2 r235.2) fun v236 =>
 AX v236 v206=true∧pu (BZ AJ 1 8 v206 (.slice (some ⟨b231,0,none⟩) 1 1) r235.2) fun r237 =>
 St b144 1 r235.1 r237.2 fun τ238 =>
 St b144 2 r237.1 τ238 fun τ239 =>
 (HX N1 E Q n148 b142 b144 b146 τ239)))∧(
 BE τ156 (.cells [(.int .u64 n158)] AJ false) fun b240 τ241 =>
 om (L b144 1 τ241) fun v242 =>
 AX v242 v198=true∧om (L b144 2 τ241) fun v243 =>
 AX v243 v206=true∧BE τ241 (.cells [(.int .u64 n199)] AJ false) fun b244 τ245 =>
 om (L b144 1 τ245) fun v246 =>
 AX v246 v198=true∧om (L b144 2 τ245) fun v247 =>
 AX v247 v206=true∧pu (BZ AJ 1 8 v198 (.slice (some ⟨b244,0,none⟩) 1 1) τ245) fun r248 =>
 om (L b144 2 r248.2) fun v249 =>
 AX v249 v206=true∧pu (BZ AJ 1 8 v206 (.slice (some ⟨b240,0,none⟩) 1 1) r248.2) fun r250 =>
 St b144 1 r248.1 r250.2 fun τ251 =>
 St b144 2 r250.1 τ251 fun τ252 =>
 (HX N1 E Q n148 b142 b144 b146 τ252))))) v159) v157))
def VS (N2:Int→AHeap→Prop) (E:BP) (Q:RK) (b267 b270:Nat) (v272:Value) (n274 n264:Int) (τ275:AHeap):Prop :=
 If (decide (n264<n274)) (
 om (AE 1 v272 (.int .i64 n264)) fun v283 =>
 A2 .u8 (AF false 1 v283 τ275) fun n284 =>
 If (!decide (n284=0)) (
 pu (AP 3 (.pointer (some ⟨b267,0,none⟩)) (.agg #[(.bool false),(.slice none 0 0),(.slice none 0 0)]) τ275) fun τ293 =>
 pu (AF true 3 (.pointer (some ⟨b267,0,none⟩)) τ293) fun v300 =>
 Q (.ret (.tuple #[v300,(.int .i64 5)])) τ293) (
 Bi (FC (n264+1)) fun n303 =>
 N2 n303 τ275)) (
 DF (L b270 0 τ275) fun c308 =>
 om (L b270 1 τ275) fun v309 =>
 om (L b270 2 τ275) fun v310 =>
 pu (AP 3 (.pointer (some ⟨b267,0,none⟩)) (.agg #[(.bool c308),v309,v310]) τ275) fun τ312 =>
 pu (AF true 3 (.pointer (some ⟨b267,0,none⟩)) τ312) fun v313 =>
 Q (.ret (.tuple #[v313,(.int .i64 0)])) τ312)
def VE (N1:Int→AHeap→Prop) (E:BP) (Q:RK) (b72 b77 b80:Nat) (v83:Value) (n85 n66:Int) (τ86:AHeap):Prop :=
 If (decide (n66<n85)) (
 wF v83 fun g256 a257 c258 =>
 E g256 (a257++[]++c258) τ86 (c2 Q fun v97 v99 τ96 =>
 tI .u64 (fun n98 =>
 tI .i64 (fun n100 =>
 If (!decide (n100=0)) (
 pu (AP 3 (.pointer (some ⟨b72,0,none⟩)) (.agg #[(.bool false),(.slice none 0 0),(.slice none 0 0)]) τ96) fun τ111 =>
 pu (AF true 3 (.pointer (some ⟨b72,0,none⟩)) τ111) fun v125 =>
 Q (.ret (.tuple #[v125,(.int .i64 n100)])) τ111) (
 If (decide (0<n66)) (
 om (L b77 1 τ96) fun v135 =>
 Bi (FC (n66 - 1)) fun n136 =>
 om (AE 1 v135 (.int .i64 n136)) fun v137 =>
 A2 .u64 (AF false 1 v137 τ96) fun n138 =>
 (FV N1 E Q (decide (n98≤n138)) b72 b77 b80 n66 v83 n98 τ96)) (
 (FV N1 E Q false b72 b77 b80 n66 v83 n98 τ96)))) v99) v97)) (
 om (L b80 0 τ86) fun v261 =>
 A2 .i64 (BH v261) fun n262 =>
 ∃ I314:Nat→Int→AHeap→Prop,(∃ m,I314 m 0 τ86)∧∀ m (n264:Int) (σ':AHeap),I314 m n264 σ'→(VS (fun n264 σ'=>∃ m',m'<m∧I314 m' n264 σ') E Q b72 b77 v261 n262 n264 σ'))
def IQ (E:BP) (Q:RK) (c39:Bool) (b41:Nat) (v45:Value) (τ38:AHeap):Prop :=
 If c39 (
 pu (AP 3 (.pointer (some ⟨b41,0,none⟩)) (.agg #[(.bool false),(.slice none 0 0),(.slice none 0 0)]) τ38) fun τ42 =>
 pu (AF true 3 (.pointer (some ⟨b41,0,none⟩)) τ42) fun v43 =>
 Q (.ret (.tuple #[v43,(.int .i64 5)])) τ42) (
 om (AE 1 v45 (.int .i64 0)) fun v47 =>
 A2 .u8 (AF false 1 v47 τ38) fun n48 =>
 BE τ38 (.cells [(.bool false),(.slice none 0 0),(.slice none 0 0)] AG false) fun b49 τ50 =>
 pu (AP 3 (.pointer (some ⟨b49,0,none⟩)) (.agg #[(.bool (decide (n48=1))),(.slice none 0 0),(.slice none 0 0)]) τ50) fun τ51 =>
 om (A7 1 v45 (some (.int .i64 2)) none none) fun v54 =>
 On v54 (
 BE τ51 (.cells [v54] H5 false) fun b55 τ56 =>
 om (AE 1 v45 (.int .i64 1)) fun v62 =>
 A2 .u8 (AF false 1 v62 τ56) fun n63 =>
 Bi (FC (n63)) fun n64 =>
 ∃ I316:Nat→Int→AHeap→Prop,(∃ m,I316 m 0 τ56)∧∀ m (n66:Int) (σ':AHeap),I316 m n66 σ'→(VE (fun n66 σ'=>∃ m',m'<m∧I316 m' n66 σ') E Q b41 b49 b55 (.func (.func CR) #[(.pointer (some ⟨b55,0,none⟩))] #[]) n64 n66 σ')))
def dU (E:BP) (Q:RK) (x0:Value) (σ:AHeap):Prop :=
 BE σ (.cells [(.bool false),(.slice none 0 0),(.slice none 0 0)] AG false) fun b1 τ2 =>
 A2 .i64 (BH x0) fun n5 =>
 If (decide (n5<1)) (
 pu (AP 3 (.pointer (some ⟨b1,0,none⟩)) (.agg #[(.bool false),(.slice none 0 0),(.slice none 0 0)]) τ2) fun τ10 =>
 pu (AF true 3 (.pointer (some ⟨b1,0,none⟩)) τ10) fun v11 =>
 Q (.ret (.tuple #[v11,(.int .i64 4)])) τ10) (
 om (AE 1 x0 (.int .i64 0)) fun v15 =>
 A2 .u8 (AF false 1 v15 τ2) fun n16 =>
 If (decide (1<n16)) (
 pu (AP 3 (.pointer (some ⟨b1,0,none⟩)) (.agg #[(.bool false),(.slice none 0 0),(.slice none 0 0)]) τ2) fun τ21 =>
 pu (AF true 3 (.pointer (some ⟨b1,0,none⟩)) τ21) fun v22 =>
 Q (.ret (.tuple #[v22,(.int .i64 5)])) τ21) (
 A2 .i64 (BH x0) fun n26 =>
 If (decide (n26<2)) (
 pu (AP 3 (.pointer (some ⟨b1,0,none⟩)) (.agg #[(.bool false),(.slice none 0 0),(.slice none 0 0)]) τ2) fun τ31 =>
 pu (AF true 3 (.pointer (some ⟨b1,0,none⟩)) τ31) fun v32 =>
 Q (.ret (.tuple #[v32,(.int .i64 4)])) τ31) (
 om (AE 1 x0 (.int .i64 1)) fun v36 =>
 A2 .u8 (AF false 1 v36 τ2) fun n37 =>
 If (decide (n37<1)) (
 (IQ E Q true b1 x0 τ2)) (
 om (AE 1 x0 (.int .i64 1)) fun v318 =>
 A2 .u8 (AF false 1 v318 τ2) fun n319 =>
 (IQ E Q (decide (8<n319)) b1 x0 τ2)))))
theorem pZ {Q:RK} {x0:Value} {σ:AHeap} (h:dU E Q x0 σ):E UH [x0] σ Q :=
 B0 Tryz.func68 (hl [(5,.loopr [2,4,5,6,51] [52] [2,3,4,5] [2,3,4,5,52]),(12,.tree (.step 0 [] (.step 1 [] (.step 2 [] (.step 5 [] (.step 6 [] (.step 7 [] (.alt (.step 3 [1,6] (.alt (.step 4 [6] (.step 10 [] (.step 8 [1,6] (.step 9 [] (.step 11 [] (.step 12 [] (.step 13 [] .nil))))))) (.step 8 [1,6] (.step 4 [6] (.step 10 [] (.step 9 [] (.step 11 [] (.step 12 [] (.step 13 [] .nil))))))))) (.step 8 [1,6] (.step 3 [1,6] (.step 4 [6] (.step 10 [] (.step 9 [] (.step 11 [] (.step 12 [] (.step 13 [] .nil)))))))))))))))),(14,.loopr [2,4,105,106] [107] [2,3,4] [2,3,4,107])]) (fun | 52=>(.i .i64) | 107=>(.i .i64) | _=>.v) (by kernel_rfl) (Eq.mpr (by kernel_rfl) h)
def ZC (E:BP) (Q:RK) (x0_0:Bool) (x0_1 x0_2:Value) (σ:AHeap):Prop :=
 BE σ (.cells [(.bool x0_0),x0_1,x0_2] AG false) fun b1 τ2 =>
 om (L b1 1 τ2) fun v5 =>
 A2 .i64 (BH v5) fun n6 =>
 om (L b1 2 τ2) fun v7 =>
 A2 .i64 (BH v7) fun n8 =>
 Q (.ret (.int .i64 (if n8<n6 then n8 else n6))) τ2
theorem mH {Q:RK} {x0_0:Bool} {x0_1 x0_2:Value} {σ:AHeap} (h:ZC E Q x0_0 x0_1 x0_2 σ):E HL [(.agg #[(.bool x0_0),x0_1,x0_2])] σ Q :=
 B0 Tryz.func130 (fun _=>none) (fun _=>.v) (by kernel_rfl) (Eq.mpr (by kernel_rfl) h)
def cW (E:BP) (Q:RK) (x0_0:Bool) (x0_1 x0_2 x1:Value) (σ:AHeap):Prop :=
 BE σ (.cells [(.bool x0_0),x0_1,x0_2] AG false) fun b1 τ2 =>
 BE τ2 (.cells [(.bool false),(.slice none 0 0),(.slice none 0 0)] AG false) fun b3 τ4 =>
 DF (L b1 0 τ4) fun c7 =>
 om (L b1 1 τ4) fun v8 =>
 om (L b1 2 τ4) fun v9 =>
 E HL [(.agg #[(.bool c7),v8,v9])] τ4 (cI Q .i64 fun n11 τ10 =>
 DF (L b1 0 τ10) fun c14 =>
 om (L b1 1 τ10) fun v17 =>
 om (A7 1 v17 none (some (.int .i64 n11)) (some (.int .i64 n11))) fun v19 =>
 om (L b1 2 τ10) fun v20 =>
 om (A7 1 v20 none (some (.int .i64 n11)) (some (.int .i64 n11))) fun v21 =>
 E CL [v19] τ10 (cV Q fun v23 τ22 =>
 DF (L b1 0 τ22) fun c24 =>
 AX (.bool c24) (.bool c14)=true∧om (L b1 2 τ22) fun v25 =>
 AX v25 v20=true∧wF x1 fun g43 a44 c45 =>
 E g43 (a44++[v23,(.bool true)]++c45) τ22 (cV Q fun v27 τ26 =>
 DF (L b1 0 τ26) fun c28 =>
 AX (.bool c28) (.bool c14)=true∧om (L b1 2 τ26) fun v29 =>
 AX v29 v20=true∧E CL [v21] τ26 (cV Q fun v31 τ30 =>
 DF (L b1 0 τ30) fun c32 =>
 AX (.bool c32) (.bool c14)=true∧wF x1 fun g40 a41 c42 =>
 E g40 (a41++[v31,(.bool false)]++c42) τ30 (cV Q fun v34 τ33 =>
 DF (L b1 0 τ33) fun c35 =>
 AX (.bool c35) (.bool c14)=true∧On v27 (
 On v34 (
 pu (AP 3 (.pointer (some ⟨b3,0,none⟩)) (.agg #[(.bool c14),v27,v34]) τ33) fun τ38 =>
 pu (AF true 3 (.pointer (some ⟨b3,0,none⟩)) τ38) fun v39 =>
 Q (.ret v39) τ38)))))))
theorem qZ {Q:RK} {x0_0:Bool} {x0_1 x0_2 x1:Value} {σ:AHeap} (h:cW E Q x0_0 x0_1 x0_2 x1 σ):E F5 [(.agg #[(.bool x0_0),x0_1,x0_2]),x1] σ Q :=
 B0 Tryz.func132 (hl [(0,.ord (il 0 8++il 10 6++[(8,[1,12]),(9,[1,12]),(16,[1]),(17,[1]),(18,[]),(19,[])]))]) (fun _=>.v) (by kernel_rfl) (Eq.mpr (by kernel_rfl) h)
def gS (E:BP) (Q:RK) (x0:Bool) (x1 x2:Int) (σ:AHeap):Prop :=
 If x0 (
 Q (.ret (.int .u64 x1)) σ) (
 Q (.ret (.int .u64 x2)) σ)
theorem tW {Q:RK} {x0:Bool} {x1 x2:Int} {σ:AHeap} (h:gS E Q x0 x1 x2 σ):E SW [(.bool x0),(.int .u64 x1),(.int .u64 x2)] σ Q :=
 B0 Tryz.func135 (fun _=>none) (fun _=>.v) (by kernel_rfl) (Eq.mpr (by kernel_rfl) h)
def VX (N1:Int→AHeap→Prop) (E:BP) (Q:RK) (n17:Int) (b20:Nat) (n22 n24 n13:Int) (τ25:AHeap):Prop :=
 If (decide (n13<n24)) (
 om (L b20 1 τ25) fun v35 =>
 om (AE 1 v35 (.int .i64 n13)) fun v37 =>
 A2 .u64 (AF false 1 v37 τ25) fun n38 =>
 If (decide (n17≤n38)) (
 om (L b20 1 τ25) fun v46 =>
 om (AE 1 v46 (.int .i64 n13)) fun v47 =>
 A2 .u64 (AF false 1 v47 τ25) fun n48 =>
 Q (.ret (.tuple #[(.int .i64 n13),(.bool (decide (n48=n17)))])) τ25) (
 Bi (FC (n13+1)) fun n58 =>
 N1 n58 τ25)) (
 Q (.ret (.tuple #[(.int .i64 n22),(.bool false)])) τ25)
def dG (E:BP) (Q:RK) (x0_0:Bool) (x0_1 x0_2:Value) (x1:Int) (σ:AHeap):Prop :=
 BE σ (.cells [(.bool x0_0),x0_1,x0_2] AG false) fun b1 τ2 =>
 DF (L b1 0 τ2) fun c5 =>
 om (L b1 1 τ2) fun v6 =>
 om (L b1 2 τ2) fun v7 =>
 E HL [(.agg #[(.bool c5),v6,v7])] τ2 (cI Q .i64 fun n9 τ8 =>
 ∃ I62:Nat→Int→AHeap→Prop,(∃ m,I62 m 0 τ8)∧∀ m (n13:Int) (σ':AHeap),I62 m n13 σ'→(VX (fun n13 σ'=>∃ m',m'<m∧I62 m' n13 σ') E Q x1 b1 n9 n9 n13 σ'))
theorem qR {Q:RK} {x0_0:Bool} {x0_1 x0_2:Value} {x1:Int} {σ:AHeap} (h:dG E Q x0_0 x0_1 x0_2 x1 σ):E NK [(.agg #[(.bool x0_0),x0_1,x0_2]),(.int .u64 x1)] σ Q :=
 B0 Tryz.func75 (hl [(1,.loopr [1,2,6,10] [11] [4,5,6] [4,5,6,11]),(5,.ord (il 0 10))]) (fun | 11=>(.i .i64) | _=>.v) (by kernel_rfl) (Eq.mpr (by kernel_rfl) h)
def JX (E:BP) (Q:RK) (n49:Int) (τ48:AHeap):Prop :=
 Q (.ret (.int .i64 n49)) τ48
def TR (N1:Int→Int→AHeap→Prop) (E:BP) (Q:RK) (n18:Int) (b20:Nat) (n22 n13 n14:Int) (τ23:AHeap):Prop :=
 If (decide (n14<n22)) (
 om (L b20 1 τ23) fun v33 =>
 om (AE 1 v33 (.int .i64 n14)) fun v35 =>
 A2 .u64 (AF false 1 v35 τ23) fun n36 =>
 If (decide (n18<n36)) (
 (JX E Q n13 τ23)) (
 Bi (FC (n14+1)) fun n56 =>
 N1 n14 n56 τ23)) (
 (JX E Q n13 τ23))
def aO (E:BP) (Q:RK) (x0_0:Bool) (x0_1 x0_2:Value) (x1:Int) (σ:AHeap):Prop :=
 BE σ (.cells [(.bool x0_0),x0_1,x0_2] AG false) fun b1 τ2 =>
 DF (L b1 0 τ2) fun c7 =>
 om (L b1 1 τ2) fun v8 =>
 om (L b1 2 τ2) fun v9 =>
 E HL [(.agg #[(.bool c7),v8,v9])] τ2 (cI Q .i64 fun n11 τ10 =>
 ∃ I58:Nat→Int→Int→AHeap→Prop,(∃ m,I58 m 0 0 τ10)∧∀ m (n13:Int) (n14:Int) (σ':AHeap),I58 m n13 n14 σ'→(TR (fun n13 n14 σ'=>∃ m',m'<m∧I58 m' n13 n14 σ') E Q x1 b1 n11 n13 n14 σ'))
theorem mF {Q:RK} {x0_0:Bool} {x0_1 x0_2:Value} {x1:Int} {σ:AHeap} (h:aO E Q x0_0 x0_1 x0_2 x1 σ):E OR [(.agg #[(.bool x0_0),x0_1,x0_2]),(.int .u64 x1)] σ Q :=
 B0 Tryz.func81 (hl [(1,.loopr [1,2,8] [5,9] [5] [5,9])]) (fun | 5=>(.i .i64) | 9=>(.i .i64) | _=>.v) (by kernel_rfl) (Eq.mpr (by kernel_rfl) h)
def XI (E:BP) (Q:RK) (x0_0:Bool) (x0_1 x0_2:Value) (x1 x2 x3:Int) (σ:AHeap):Prop :=
 BE σ (.cells [(.bool x0_0),x0_1,x0_2] AG false) fun b1 τ2 =>
 BE τ2 (.cells [(.int .i64 x1)] BQ false) fun b3 τ4 =>
 BE τ4 (.cells [(.int .u64 x2)] AJ false) fun b5 τ6 =>
 BE τ6 (.cells [(.int .u64 x3)] AJ false) fun b7 τ8 =>
 BE τ8 (.cells [(.bool false),(.slice none 0 0),(.slice none 0 0)] AG false) fun b9 τ10 =>
 A2 .i64 (L b3 0 τ10) fun n13 =>
 DF (L b1 0 τ10) fun c15 =>
 om (L b1 1 τ10) fun v16 =>
 om (L b1 2 τ10) fun v17 =>
 E HL [(.agg #[(.bool c15),v16,v17])] τ10 (cI Q .i64 fun n19 τ18 =>
 A2 .i64 (L b3 0 τ18) fun n20 =>
 AX (.int .i64 n20) (.int .i64 n13)=true∧St b3 0 (.int .i64 (if n19<(if 0 > n13 then 0 else n13) then n19 else (if 0 > n13 then 0 else n13))) τ18 fun τ21 =>
 DF (L b1 0 τ21) fun c24 =>
 om (L b1 1 τ21) fun v25 =>
 om (L b1 2 τ21) fun v26 =>
 E F5 [(.agg #[(.bool c24),v25,v26]),(.func (.func MC) #[] #[(.pointer (some ⟨b3,0,none⟩)),(.pointer (some ⟨b5,0,none⟩)),(.pointer (some ⟨b7,0,none⟩))])] τ21 (cV Q fun v33 τ32 =>
 pu (AP 3 (.pointer (some ⟨b9,0,none⟩)) v33 τ32) fun τ36 =>
 pu (AF true 3 (.pointer (some ⟨b9,0,none⟩)) τ36) fun v37 =>
 Q (.ret v37) τ36))
theorem j1 {Q:RK} {x0_0:Bool} {x0_1 x0_2:Value} {x1 x2 x3:Int} {σ:AHeap} (h:XI E Q x0_0 x0_1 x0_2 x1 x2 x3 σ):E M6 [(.agg #[(.bool x0_0),x0_1,x0_2]),(.int .i64 x1),(.int .u64 x2),(.int .u64 x3)] σ Q :=
 B0 Tryz.func78 (hl [(0,.ord ([(0,[]),(1,[]),(2,[]),(3,[0]),(4,[]),(5,[])]))]) (fun _=>.v) (by kernel_rfl) (Eq.mpr (by kernel_rfl) h)
def SJ (E:BP) (Q:RK) (x0:Value) (x1:Bool) (x2 x3 x4:Nat) (σ:AHeap):Prop :=
 A2 .i64 (L x2 0 σ) fun n4 =>
 A2 .u64 (L x3 0 σ) fun n7 =>
 A2 .u64 (L x4 0 σ) fun n9 =>
 E SW [(.bool x1),(.int .u64 n7),(.int .u64 n9)] σ (cI Q .u64 fun n11 τ10 =>
 A2 .i64 (L x2 0 τ10) fun n12 =>
 AX (.int .i64 n12) (.int .i64 n4)=true∧BE τ10 (.cells [(.int .u64 n11)] AJ false) fun b13 τ14 =>
 A2 .i64 (L x2 0 τ14) fun n15 =>
 AX (.int .i64 n15) (.int .i64 n4)=true∧E CI [x0,(.int .i64 n4),(.slice (some ⟨b13,0,none⟩) 1 1)] τ14 (cV Q fun v17 τ16 =>
 Q (.ret v17) τ16))
theorem bT {Q:RK} {x0:Value} {x1:Bool} {x2 x3 x4:Nat} {σ:AHeap} (h:SJ E Q x0 x1 x2 x3 x4 σ):E MC [x0,(.bool x1),(.pointer (some ⟨x2,0,none⟩)),(.pointer (some ⟨x3,0,none⟩)),(.pointer (some ⟨x4,0,none⟩))] σ Q :=
 B0 Tryz.func133 (hl [(0,.ord (il 0 5++[(5,[1]),(6,[1]),(7,[]),(8,[])]))]) (fun _=>.v) (by kernel_rfl) (Eq.mpr (by kernel_rfl) h)
def fZ (E:BP) (Q:RK) (x0_0:Bool) (x0_1 x0_2:Value) (x1 x2 x3:Int) (σ:AHeap):Prop :=
 BE σ (.cells [(.bool x0_0),x0_1,x0_2] AG false) fun b1 τ2 =>
 BE τ2 (.cells [(.int .i64 x1)] BQ false) fun b3 τ4 =>
 BE τ4 (.cells [(.int .u64 x2)] AJ false) fun b5 τ6 =>
 BE τ6 (.cells [(.int .u64 x3)] AJ false) fun b7 τ8 =>
 BE τ8 (.cells [(.bool false),(.slice none 0 0),(.slice none 0 0)] AG false) fun b9 τ10 =>
 DF (L b1 0 τ10) fun c13 =>
 om (L b1 1 τ10) fun v14 =>
 om (L b1 2 τ10) fun v15 =>
 E F5 [(.agg #[(.bool c13),v14,v15]),(.func (.func Q0) #[] #[(.pointer (some ⟨b3,0,none⟩)),(.pointer (some ⟨b5,0,none⟩)),(.pointer (some ⟨b7,0,none⟩))])] τ10 (cV Q fun v20 τ19 =>
 pu (AP 3 (.pointer (some ⟨b9,0,none⟩)) v20 τ19) fun τ22 =>
 pu (AF true 3 (.pointer (some ⟨b9,0,none⟩)) τ22) fun v23 =>
 Q (.ret v23) τ22)
theorem t8 {Q:RK} {x0_0:Bool} {x0_1 x0_2:Value} {x1 x2 x3:Int} {σ:AHeap} (h:fZ E Q x0_0 x0_1 x0_2 x1 x2 x3 σ):E L4 [(.agg #[(.bool x0_0),x0_1,x0_2]),(.int .i64 x1),(.int .u64 x2),(.int .u64 x3)] σ Q :=
 B0 Tryz.func131 (fun _=>none) (fun _=>.v) (by kernel_rfl) (Eq.mpr (by kernel_rfl) h)
def MS (E:BP) (Q:RK) (v26:Value) (τ25:AHeap):Prop :=
 Q (.ret v26) τ25
def ME (E:BP) (Q:RK) (c8:Bool) (v9:Value) (b10:Nat) (c13:Bool) (b15 b18:Nat) (τ7:AHeap):Prop :=
 If c8 (
 A2 .i64 (L b10 0 τ7) fun n11 =>
 A2 .u64 (L b15 0 τ7) fun n16 =>
 A2 .u64 (L b18 0 τ7) fun n19 =>
 E SW [(.bool c13),(.int .u64 n16),(.int .u64 n19)] τ7 (cI Q .u64 fun n21 τ20 =>
 A2 .i64 (L b10 0 τ20) fun n22 =>
 AX (.int .i64 n22) (.int .i64 n11)=true∧om (AE 1 v9 (.int .i64 n11)) fun v23 =>
 pu (AP 1 v23 (.int .u64 n21) τ20) fun τ24 =>
 (MS E Q v9 τ24))) (
 (MS E Q v9 τ7))
def XC (E:BP) (Q:RK) (x0:Value) (x1:Bool) (x2 x3 x4:Nat) (σ:AHeap):Prop :=
 A2 .i64 (L x2 0 σ) fun n3 =>
 If (decide (0≤n3)) (
 A2 .i64 (L x2 0 σ) fun n4 =>
 A2 .i64 (BH x0) fun n6 =>
 (ME E Q (decide (n4<n6)) x0 x2 x1 x3 x4 σ)) (
 (ME E Q false x0 x2 x1 x3 x4 σ))
theorem jO {Q:RK} {x0:Value} {x1:Bool} {x2 x3 x4:Nat} {σ:AHeap} (h:XC E Q x0 x1 x2 x3 x4 σ):E Q0 [x0,(.bool x1),(.pointer (some ⟨x2,0,none⟩)),(.pointer (some ⟨x3,0,none⟩)),(.pointer (some ⟨x4,0,none⟩))] σ Q :=
 B0 Tryz.func166 (hl [(1,.ord (il 0 5++[(5,[1]),(6,[]),(7,[])]))]) (fun _=>.v) (by kernel_rfl) (Eq.mpr (by kernel_rfl) h)
def XO (E:BP) (Q:RK) (x0_0:Bool) (x0_1 x0_2:Value) (x1:Int) (σ:AHeap):Prop :=
 BE σ (.cells [(.bool x0_0),x0_1,x0_2] AG false) fun b1 τ2 =>
 BE τ2 (.cells [(.int .i64 x1)] BQ false) fun b3 τ4 =>
 BE τ4 (.cells [(.bool false),(.slice none 0 0),(.slice none 0 0)] AG false) fun b5 τ6 =>
 DF (L b1 0 τ6) fun c9 =>
 om (L b1 1 τ6) fun v10 =>
 om (L b1 2 τ6) fun v11 =>
 E F5 [(.agg #[(.bool c9),v10,v11]),(.func (.func LU) #[] #[(.pointer (some ⟨b3,0,none⟩))])] τ6 (cV Q fun v14 τ13 =>
 pu (AP 3 (.pointer (some ⟨b5,0,none⟩)) v14 τ13) fun τ16 =>
 pu (AF true 3 (.pointer (some ⟨b5,0,none⟩)) τ16) fun v17 =>
 Q (.ret v17) τ16)
theorem jR {Q:RK} {x0_0:Bool} {x0_1 x0_2:Value} {x1:Int} {σ:AHeap} (h:XO E Q x0_0 x0_1 x0_2 x1 σ):E MX [(.agg #[(.bool x0_0),x0_1,x0_2]),(.int .i64 x1)] σ Q :=
 B0 Tryz.func83 (fun _=>none) (fun _=>.v) (by kernel_rfl) (Eq.mpr (by kernel_rfl) h)
def JL (E:BP) (Q:RK) (c5:Bool) (v7:Value) (b10:Nat) (τ4:AHeap):Prop :=
 If c5 (
 Q (.ret v7) τ4) (
 A2 .i64 (L b10 0 τ4) fun n12 =>
 A2 .i64 (L b10 0 τ4) fun n13 =>
 Bi (FC (n13+1)) fun n14 =>
 E DN [v7,(.int .i64 n12),(.int .i64 n14)] τ4 (cV Q fun v16 τ15 =>
 Q (.ret v16) τ15))
def RG (E:BP) (Q:RK) (x0:Value) (x1:Bool) (x2:Nat) (σ:AHeap):Prop :=
 A2 .i64 (L x2 0 σ) fun n3 =>
 If (decide (n3<0)) (
 (JL E Q true x0 x2 σ)) (
 A2 .i64 (L x2 0 σ) fun n17 =>
 A2 .i64 (BH x0) fun n18 =>
 (JL E Q (decide (n18≤n17)) x0 x2 σ))
theorem bJ {Q:RK} {x0:Value} {x1:Bool} {x2:Nat} {σ:AHeap} (h:RG E Q x0 x1 x2 σ):E LU [x0,(.bool x1),(.pointer (some ⟨x2,0,none⟩))] σ Q :=
 B0 Tryz.func137 (fun _=>none) (fun _=>.v) (by kernel_rfl) (Eq.mpr (by kernel_rfl) h)
def aS (E:BP) (Q:RK) (x0_0:Bool) (x0_1 x0_2:Value) (σ:AHeap):Prop :=
 BE σ (.cells [(.bool x0_0),x0_1,x0_2] AG false) fun b1 τ2 =>
 BE τ2 (.cells [(.bool false),(.slice none 0 0),(.slice none 0 0)] AG false) fun b3 τ4 =>
 BE τ4 (.cells [(.bool false),(.slice none 0 0),(.slice none 0 0)] AG false) fun b5 τ6 =>
 DF (L b1 0 τ6) fun c9 =>
 om (L b1 1 τ6) fun v10 =>
 om (L b1 2 τ6) fun v11 =>
 E HL [(.agg #[(.bool c9),v10,v11])] τ6 (cI Q .i64 fun n13 τ12 =>
 Bi (FC (n13+1)) fun n14 =>
 Bi (FC (Int.tdiv n14 2)) fun n15 =>
 BE τ12 (.cells [(.int .i64 0)] BQ false) fun b16 τ17 =>
 St b16 0 (.int .i64 n15) τ17 fun τ18 =>
 DF (L b1 0 τ18) fun c21 =>
 om (L b1 1 τ18) fun v22 =>
 om (L b1 2 τ18) fun v23 =>
 E F5 [(.agg #[(.bool c21),v22,v23]),(.func (.func N5) #[] #[(.pointer (some ⟨b16,0,none⟩))])] τ18 (cV Q fun v26 τ25 =>
 BE τ25 (.cells [(.bool false),(.slice none 0 0),(.slice none 0 0)] AG false) fun b27 τ28 =>
 pu (AP 3 (.pointer (some ⟨b27,0,none⟩)) v26 τ28) fun τ29 =>
 DF (L b1 0 τ29) fun c32 =>
 om (L b1 1 τ29) fun v33 =>
 om (L b1 2 τ29) fun v34 =>
 E F5 [(.agg #[(.bool c32),v33,v34]),(.func (.func N0) #[] #[(.pointer (some ⟨b16,0,none⟩))])] τ29 (cV Q fun v37 τ36 =>
 BE τ36 (.cells [(.bool false),(.slice none 0 0),(.slice none 0 0)] AG false) fun b38 τ39 =>
 pu (AP 3 (.pointer (some ⟨b38,0,none⟩)) v37 τ39) fun τ40 =>
 DF (L b27 0 τ40) fun c44 =>
 om (L b27 1 τ40) fun v45 =>
 om (L b27 2 τ40) fun v46 =>
 DF (L b38 0 τ40) fun c48 =>
 om (L b38 1 τ40) fun v49 =>
 om (L b38 2 τ40) fun v50 =>
 pu (AP 3 (.pointer (some ⟨b3,0,none⟩)) (.agg #[(.bool c44),v45,v46]) τ40) fun τ55 =>
 DF (L b38 0 τ55) fun c56 =>
 om (L b38 1 τ55) fun v57 =>
 om (L b38 2 τ55) fun v58 =>
 AX (.agg #[(.bool c56),v57,v58]) (.agg #[(.bool c48),v49,v50])=true∧pu (AP 3 (.pointer (some ⟨b5,0,none⟩)) (.agg #[(.bool c48),v49,v50]) τ55) fun τ63 =>
 pu (AF true 3 (.pointer (some ⟨b3,0,none⟩)) τ63) fun v64 =>
 pu (AF true 3 (.pointer (some ⟨b5,0,none⟩)) τ63) fun v65 =>
 Q (.ret (.tuple #[v64,v65])) τ63)))
theorem oD {Q:RK} {x0_0:Bool} {x0_1 x0_2:Value} {σ:AHeap} (h:aS E Q x0_0 x0_1 x0_2 σ):E OU [(.agg #[(.bool x0_0),x0_1,x0_2])] σ Q :=
 B0 Tryz.func136 (hl [(0,.ord ([(0,[]),(1,[]),(2,[1]),(3,[])]))]) (fun _=>.v) (by kernel_rfl) (Eq.mpr (by kernel_rfl) h)
def TQ (E:BP) (Q:RK) (x0:Value) (x1:Bool) (x2:Nat) (σ:AHeap):Prop :=
 A2 .i64 (L x2 0 σ) fun n4 =>
 A2 .i64 (L x2 0 σ) fun n5 =>
 om (A7 1 x0 none (some (.int .i64 n4)) (some (.int .i64 n5))) fun v6 =>
 Q (.ret v6) σ
theorem eL {Q:RK} {x0:Value} {x1:Bool} {x2:Nat} {σ:AHeap} (h:TQ E Q x0 x1 x2 σ):E N5 [x0,(.bool x1),(.pointer (some ⟨x2,0,none⟩))] σ Q :=
 B0 Tryz.func170 (fun _=>none) (fun _=>.v) (by kernel_rfl) (Eq.mpr (by kernel_rfl) h)
def TT (E:BP) (Q:RK) (x0:Value) (x1:Bool) (x2:Nat) (σ:AHeap):Prop :=
 A2 .i64 (L x2 0 σ) fun n4 =>
 om (A7 1 x0 (some (.int .i64 n4)) none none) fun v5 =>
 Q (.ret v5) σ
theorem eA {Q:RK} {x0:Value} {x1:Bool} {x2:Nat} {σ:AHeap} (h:TT E Q x0 x1 x2 σ):E N0 [x0,(.bool x1),(.pointer (some ⟨x2,0,none⟩))] σ Q :=
 B0 Tryz.func171 (fun _=>none) (fun _=>.v) (by kernel_rfl) (Eq.mpr (by kernel_rfl) h)
def dT (E:BP) (Q:RK) (x0_0:Bool) (x0_1 x0_2:Value) (x1_0:Bool) (x1_1 x1_2:Value) (σ:AHeap):Prop :=
 BE σ (.cells [(.bool x0_0),x0_1,x0_2] AG false) fun b1 τ2 =>
 BE τ2 (.cells [(.bool x1_0),x1_1,x1_2] AG false) fun b3 τ4 =>
 BE τ4 (.cells [(.bool false),(.slice none 0 0),(.slice none 0 0)] AG false) fun b5 τ6 =>
 DF (L b3 0 τ6) fun c9 =>
 om (L b3 1 τ6) fun v10 =>
 om (L b3 2 τ6) fun v11 =>
 E F5 [(.agg #[(.bool c9),v10,v11]),(.func (.func PH) #[] #[])] τ6 (cV Q fun v13 τ12 =>
 BE τ12 (.cells [(.bool false),(.slice none 0 0),(.slice none 0 0)] AG false) fun b14 τ15 =>
 pu (AP 3 (.pointer (some ⟨b14,0,none⟩)) v13 τ15) fun τ16 =>
 DF (L b1 0 τ16) fun c20 =>
 om (L b1 1 τ16) fun v21 =>
 om (L b1 2 τ16) fun v22 =>
 E F5 [(.agg #[(.bool c20),v21,v22]),(.func (.func PA) #[] #[(.pointer (some ⟨b14,0,none⟩))])] τ16 (cV Q fun v25 τ24 =>
 pu (AP 3 (.pointer (some ⟨b5,0,none⟩)) v25 τ24) fun τ28 =>
 pu (AF true 3 (.pointer (some ⟨b5,0,none⟩)) τ28) fun v29 =>
 Q (.ret v29) τ28))
theorem rR {Q:RK} {x0_0:Bool} {x0_1 x0_2:Value} {x1_0:Bool} {x1_1 x1_2:Value} {σ:AHeap} (h:dT E Q x0_0 x0_1 x0_2 x1_0 x1_1 x1_2 σ):E QE [(.agg #[(.bool x0_0),x0_1,x0_2]),(.agg #[(.bool x1_0),x1_1,x1_2])] σ Q :=
 B0 Tryz.func140 (fun _=>none) (fun _=>.v) (by kernel_rfl) (Eq.mpr (by kernel_rfl) h)
def UF (E:BP) (Q:RK) (x0:Value) (x1:Bool) (σ:AHeap):Prop :=
 Q (.ret x0) σ
theorem f7 {Q:RK} {x0:Value} {x1:Bool} {σ:AHeap} (h:UF E Q x0 x1 σ):E PH [x0,(.bool x1)] σ Q :=
 B0 Tryz.func172 (fun _=>none) (fun _=>.v) (by kernel_rfl) (Eq.mpr (by kernel_rfl) h)
def UO (E:BP) (Q:RK) (x0:Value) (x1:Bool) (x2:Nat) (σ:AHeap):Prop :=
 If x1 (
 om (L x2 1 σ) fun v9 =>
 pu (BZ AJ 1 8 x0 v9 σ) fun r10 =>
 Q (.ret r10.1) r10.2) (
 om (L x2 2 σ) fun v14 =>
 pu (BZ AJ 1 8 x0 v14 σ) fun r15 =>
 Q (.ret r15.1) r15.2)
theorem iF {Q:RK} {x0:Value} {x1:Bool} {x2:Nat} {σ:AHeap} (h:UO E Q x0 x1 x2 σ):E PA [x0,(.bool x1),(.pointer (some ⟨x2,0,none⟩))] σ Q :=
 B0 Tryz.func173 (fun _=>none) (fun _=>.v) (by kernel_rfl) (Eq.mpr (by kernel_rfl) h)
def dH (E:BP) (Q:RK) (x0_0:Bool) (x0_1 x0_2:Value) (x1_0:Bool) (x1_1 x1_2:Value) (σ:AHeap):Prop :=
 BE σ (.cells [(.bool x0_0),x0_1,x0_2] AG false) fun b1 τ2 =>
 BE τ2 (.cells [(.bool x1_0),x1_1,x1_2] AG false) fun b3 τ4 =>
 BE τ4 (.cells [(.bool false),(.slice none 0 0),(.slice none 0 0)] AG false) fun b5 τ6 =>
 BE τ6 (.cells [(.bool false),(.slice none 0 0),(.slice none 0 0)] AG false) fun b7 τ8 =>
 DF (L b1 0 τ8) fun c11 =>
 om (L b1 1 τ8) fun v12 =>
 om (L b1 2 τ8) fun v13 =>
 DF (L b3 0 τ8) fun c15 =>
 om (L b3 1 τ8) fun v16 =>
 om (L b3 2 τ8) fun v17 =>
 E QE [(.agg #[(.bool c11),v12,v13]),(.agg #[(.bool c15),v16,v17])] τ8 (cV Q fun v19 τ18 =>
 E OU [v19] τ18 (c2 Q fun v21 v22 τ20 =>
 pu (AP 3 (.pointer (some ⟨b5,0,none⟩)) v21 τ20) fun τ24 =>
 pu (AP 3 (.pointer (some ⟨b7,0,none⟩)) v22 τ24) fun τ26 =>
 pu (AF true 3 (.pointer (some ⟨b5,0,none⟩)) τ26) fun v27 =>
 pu (AF true 3 (.pointer (some ⟨b7,0,none⟩)) τ26) fun v28 =>
 Q (.ret (.tuple #[v27,v28])) τ26))
theorem qJ {Q:RK} {x0_0:Bool} {x0_1 x0_2:Value} {x1_0:Bool} {x1_1 x1_2:Value} {σ:AHeap} (h:dH E Q x0_0 x0_1 x0_2 x1_0 x1_1 x1_2 σ):E U2 [(.agg #[(.bool x0_0),x0_1,x0_2]),(.agg #[(.bool x1_0),x1_1,x1_2])] σ Q :=
 B0 Tryz.func141 (fun _=>none) (fun _=>.v) (by kernel_rfl) (Eq.mpr (by kernel_rfl) h)
def DV (E:BP) (Q:RK) (x0:Value) (x1:Int) (x2:Value) (σ:AHeap):Prop :=
 om (A7 1 x0 (some (.int .i64 x1)) none none) fun v4 =>
 A2 .i64 (BH x2) fun n8 =>
 If (decide (n8=0)) (
 Q (.ret x0) σ) (
 A2 .i64 (BH x0) fun n18 =>
 If (decide (x1=n18)) (
 pu (BZ AJ 1 8 x0 x2 σ) fun r35 =>
 Q (.ret r35.1) r35.2) (
 Bi (FC (n18+n8)) fun n44 =>
 A2 .i64 (oX x0) fun n46 =>
 If (decide (n46<n44)) (
 om (A7 1 x0 none (some (.int .i64 x1)) none) fun v53 =>
 Bi (FC (n18+n8)) fun n56 =>
 Bi (FC (n56 - x1)) fun n57 =>
 pu (O0 AJ 1 8 [(.int .u64 0)] v53 (.int .i64 n57) σ) fun r58 =>
 om (A7 1 r58.1 (some (.int .i64 x1)) none none) fun v62 =>
 pu (LM 1 v62 x2 r58.2) fun r66 =>
 Bi (FC (x1+n8)) fun n72 =>
 om (A7 1 r58.1 (some (.int .i64 n72)) none none) fun v73 =>
 om (A7 1 x0 (some (.int .i64 x1)) none none) fun v76 =>
 pu (LM 1 v73 v76 r66.2) fun r77 =>
 Q (.ret r58.1) r77.2) (
 Bi (FC (n18+n8)) fun n84 =>
 om (A7 1 x0 none (some (.int .i64 n84)) none) fun v85 =>
 Bi (FC (x1+n8)) fun n93 =>
 om (A7 1 v85 (some (.int .i64 n93)) none none) fun v94 =>
 E JP [x2,v94] σ (cB Q fun c96 τ95 =>
 If (!c96) (
 Bi (FC (x1+n8)) fun n102 =>
 om (A7 1 v85 (some (.int .i64 n102)) none none) fun v103 =>
 om (A7 1 v85 (some (.int .i64 x1)) none none) fun v104 =>
 pu (LM 1 v103 v104 τ95) fun r105 =>
 om (A7 1 v85 (some (.int .i64 x1)) none none) fun v109 =>
 pu (LM 1 v109 x2 r105.2) fun r112 =>
 Q (.ret v85) r112.2) (
 om (A7 1 v85 (some (.int .i64 n18)) none none) fun v120 =>
 pu (LM 1 v120 x2 τ95) fun r122 =>
 om (A7 1 v85 (some (.int .i64 x1)) none none) fun v127 =>
 E E6 [v127,(.int .i64 n8)] r122.2 (c0 Q fun τ130 =>
 Q (.ret v85) τ130))))))
theorem F9 {Q:RK} {x0:Value} {x1:Int} {x2:Value} {σ:AHeap} (h:DV E Q x0 x1 x2 σ):E CI [x0,(.int .i64 x1),x2] σ Q :=
 B0 Tryz.func134 (hl [(3,.ord (il 0 9)),(5,.ord (il 0 9))]) (fun _=>.v) (by kernel_rfl) (Eq.mpr (by kernel_rfl) h)
def GC (E:BP) (Q:RK) (x0:Value) (x1 x2:Int) (σ:AHeap):Prop :=
 A2 .i64 (BH x0) fun n5 =>
 om (A7 1 x0 (some (.int .i64 x1)) (some (.int .i64 x2)) (some (.int .i64 n5))) fun v6 =>
 If (decide (x1=x2)) (
 Q (.ret x0) σ) (
 A2 .i64 (BH x0) fun n16 =>
 om (A7 1 x0 none (some (.int .i64 x1)) none) fun v22 =>
 om (A7 1 x0 (some (.int .i64 x2)) none none) fun v26 =>
 pu (BZ AJ 1 8 v22 v26 σ) fun r27 =>
 A2 .i64 (BH r27.1) fun n30 =>
 om (A7 1 r27.1 (some (.int .i64 n30)) (some (.int .i64 n16)) none) fun v33 =>
 pu (cA [(.int .u64 0)] v33 r27.2) fun τ34 =>
 Q (.ret r27.1) τ34)
theorem LC {Q:RK} {x0:Value} {x1 x2:Int} {σ:AHeap} (h:GC E Q x0 x1 x2 σ):E DN [x0,(.int .i64 x1),(.int .i64 x2)] σ Q :=
 B0 Tryz.func138 (hl [(1,.ord (il 0 8))]) (fun _=>.v) (by kernel_rfl) (Eq.mpr (by kernel_rfl) h)
def GL (E:BP) (Q:RK) (x0:Value) (σ:AHeap):Prop :=
 DF (BF (some (.slice AJ)) .eql x0 (.slice none 0 0)) fun c3 =>
 If c3 (
 Q (.ret (.slice none 0 0)) σ) (
 pu (BZ AJ 1 8 (.slice (some ⟨ZB,0,some 0⟩) 0 0) x0 σ) fun r9 =>
 Q (.ret r9.1) r9.2)
theorem LL {Q:RK} {x0:Value} {σ:AHeap} (h:GL E Q x0 σ):E CL [x0] σ Q :=
 B0 Tryz.func167 (fun _=>none) (fun _=>.v) (by kernel_rfl) (Eq.mpr (by kernel_rfl) h)
def IE (E:BP) (Q:RK) (x0:Value) (x1:Int) (σ:AHeap):Prop :=
 A2 .i64 (BH x0) fun n1 =>
 Bi (FC (n1 - x1)) fun n2 =>
 E I4 [x0,(.int .i64 n2)] σ (c0 Q fun τ3 =>
 Q (.ret (.tuple #[])) τ3)
theorem ON {Q:RK} {x0:Value} {x1:Int} {σ:AHeap} (h:IE E Q x0 x1 σ):E E6 [x0,(.int .i64 x1)] σ Q :=
 B0 Tryz.func169 (fun _=>none) (fun _=>.v) (by kernel_rfl) (Eq.mpr (by kernel_rfl) h)
def IY (E:BP) (Q:RK) (x0:Value) (x1:Int) (σ:AHeap):Prop :=
 om (A7 1 x0 none (some (.int .i64 x1)) none) fun v1 =>
 E BY [v1] σ (c0 Q fun τ2 =>
 om (A7 1 x0 (some (.int .i64 x1)) none none) fun v6 =>
 E BY [v6] τ2 (c0 Q fun τ7 =>
 E BY [x0] τ7 (c0 Q fun τ10 =>
 Q (.ret (.tuple #[])) τ10)))
theorem OZ {Q:RK} {x0:Value} {x1:Int} {σ:AHeap} (h:IY E Q x0 x1 σ):E I4 [x0,(.int .i64 x1)] σ Q :=
 B0 Tryz.func188 (fun _=>none) (fun _=>.v) (by kernel_rfl) (Eq.mpr (by kernel_rfl) h)
def EY (N1:Int→Int→AHeap→Prop) (E:BP) (Q:RK) (v7:Value) (n4 n5:Int) (τ8:AHeap):Prop :=
 If (decide (n4<n5)) (
 om (AE 1 v7 (.int .i64 n5)) fun v18 =>
 A2 .u64 (AF false 1 v18 τ8) fun n19 =>
 om (AE 1 v7 (.int .i64 n4)) fun v20 =>
 A2 .u64 (AF false 1 v20 τ8) fun n21 =>
 om (AE 1 v7 (.int .i64 n4)) fun v22 =>
 pu (AP 1 v22 (.int .u64 n19) τ8) fun τ23 =>
 om (AE 1 v7 (.int .i64 n5)) fun v24 =>
 pu (AP 1 v24 (.int .u64 n21) τ23) fun τ25 =>
 Bi (FC (n4+1)) fun n28 =>
 Bi (FC (n5 - 1)) fun n30 =>
 N1 n28 n30 τ25) (
 Q (.ret (.tuple #[])) τ8)
def FS (E:BP) (Q:RK) (x0:Value) (σ:AHeap):Prop :=
 A2 .i64 (BH x0) fun n1 =>
 Bi (FC (n1 - 1)) fun n2 =>
 ∃ I31:Nat→Int→Int→AHeap→Prop,(∃ m,I31 m 0 n2 σ)∧∀ m (n4:Int) (n5:Int) (σ':AHeap),I31 m n4 n5 σ'→(EY (fun n4 n5 σ'=>∃ m',m'<m∧I31 m' n4 n5 σ') E Q x0 n4 n5 σ')
theorem KD {Q:RK} {x0:Value} {σ:AHeap} (h:FS E Q x0 σ):E BY [x0] σ Q :=
 B0 Tryz.func192 (hl [(1,.loopr [0] [2,3] [] [2,3]),(4,.ord (il 0 16))]) (fun | 2=>(.i .i64) | 3=>(.i .i64) | _=>.v) (by kernel_rfl) (Eq.mpr (by kernel_rfl) h)
end Go.Ax.C
namespace Go.Ax
def RQ (Q:WK):RK:=RP Q noP
end Go.Ax
namespace Go.Ax.O
open Go.Proofs
noncomputable abbrev P:Program:=C.P
noncomputable def E (f:FuncId) (a:List Value) (σ:AHeap) (Q:WK):Prop:=C.E f a σ (RP Q noP)
theorem AEC {f:FuncId} {args:List Value} {σ:AHeap} {Q Q':RK} (h:C.E f args σ Q) (hq:∀ r σ',Q r σ'→Q' r σ'):C.E f args σ Q':=by
 rw [C.j6] at h ⊢
 exact h.mono hq
@[congr] theorem AGP {f:FuncId} {a a':List Value} {σ σ':AHeap} {Q:WK} (h:a=a') (g:σ=σ'):E f a σ Q=E f a' σ' Q:=by rw [h,g]
theorem NF {f:FuncId} {fn:Func} (hf:P.funcs[f]?=some fn) (h:Nat→Option RY) (hc:XP fn h=true) {args:List Value} {σ:AHeap} {Q:WK} (hx:Y4 P C.E fn h args σ (RQ Q)):E f args σ Q:=by
 unfold E
 rw [C.j6] at hx ⊢
 exact Ev.fn C.mixed hf h hc hx
theorem up {f:FuncId} {args:List Value} {σ:AHeap} {Q:RK} (h:E f args σ fun v τ=>Q (.ret v) τ):C.E f args σ Q :=
 AEC h fun r σ' hr=>by
  cases r with
  | ret v=>exact hr
  | pan v=>exact hr.elim
theorem down {f:FuncId} {args:List Value} {σ:AHeap} {Q:WK} (h:C.E f args σ (RP Q noP)):E f args σ Q:=h
end Go.Ax.O
