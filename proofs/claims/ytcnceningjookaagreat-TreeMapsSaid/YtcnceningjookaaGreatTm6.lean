/- Texts of one proof,joined. No statement of the seat is proved here. -/
import Derived.Test.YtcnceningjookaaGreatTm5
set_option linter.unusedVariables false
set_option linter.unusedSimpArgs false
set_option linter.unnecessarySimpa false
set_option linter.constructorNameAsVariable false
set_option maxRecDepth 100000
namespace Go.Ax.C
open Go.Proofs Go.RowKit
variable {l r m:List AK} {σ:AHeap} {Q:RK}
abbrev n8 (xs:List Nat):List Value:=xs.map fun n=>.int .u8 (n:Nat)
theorem xA {xs:List Nat} (h:∀ x∈xs,x<256):n8 xs=bv (xs.map UInt8.ofNat):=by
 unfold n8 bv
 rw [List.map_map]
 apply List.map_congr_left
 intro x hx
 have:=h x hx
 simp only [Function.comp,by8,UInt8.toNat_ofNat']
 rw [Nat.mod_eq_of_lt (by omega)]
@[simp] theorem AGq (xs:List Nat):(n8 xs).length=xs.length:=by simp [n8]
theorem AEi (xs:List Nat):(n8 xs).all one=true:=by
 simp only [n8,List.all_map,List.all_eq_true]
 intro x _; rfl
def UA (now was:List Nat):List Bool:=List.zipWith (fun a b=>a == 0 && b == 0) now was
def PU (now was:List Nat):List Bool:=List.zipWith (fun a b=>a != 0 && b == 0) now was
structure oO (now was:List Nat):Prop where
 lo:1≤now.length
 hi:now.length≤1024
 eq:was.length=now.length
 now8:∀ x∈now,x<256
 was8:∀ x∈was,x<256
theorem oH {now was:List Nat} (h:was.length=now.length):(UA now was).length=now.length:=by simp [UA,h]
theorem eW {now was:List Nat} (h:was.length=now.length):(PU now was).length=now.length:=by simp [PU,h]
theorem WR {now was:List Nat} {a x y:Nat} (h1:now[a]?=some x) (h2:was[a]?=some y):(UA now was)[a]?=some (x == 0 && y == 0):=by simp [UA,List.getElem?_zipWith,h1,h2]
theorem e7 {now was:List Nat} {a x y:Nat} (h1:now[a]?=some x) (h2:was[a]?=some y):(PU now was)[a]?=some (x != 0 && y == 0):=by simp [PU,List.getElem?_zipWith,h1,h2]
theorem mX {α β γ:Type} (f:α→β→γ):∀ (xs:List α) (ys:List β) (a:Nat) (x:α) (y:β),ys[a]?=some y→List.zipWith f (xs.set a x) ys=(List.zipWith f xs ys).set a (f x y)
 | [],ys,a,x,y,_=>by simp
 | _::_,[],a,x,y,h=>by simp at h
 | u::xs,v::ys,0,x,y,h=>by simp at h; subst h; rfl
 | u::xs,v::ys,a+1,x,y,h=>by simp at h; simp [mX f xs ys a x y h]
theorem fB {now was:List Nat} {a x y:Nat} (h:was[a]?=some y):UA (now.set a x) was=(UA now was).set a (x == 0 && y == 0):=mX _ _ _ _ _ _ h
theorem eU {now was:List Nat} {a x y:Nat} (h:was[a]?=some y):PU (now.set a x) was=(PU now was).set a (x != 0 && y == 0):=mX _ _ _ _ _ _ h
theorem set_self {α:Type} {xs:List α} {a:Nat} {x:α} (h:xs[a]?=some x):xs.set a x=xs:=by
 apply List.ext_getElem?
 intro i
 rw [List.getElem?_set]
 split
 ·rename_i e; subst e
  rw [if_pos (List.getElem?_eq_some_iff.1 h).1,h]
 ·rfl
theorem oO.set {now was:List Nat} {a x:Nat} (h:oO now was) (hx:x<256):oO (now.set a x) was :=
 ⟨by simpa using h.lo,by simpa using h.hi,by simpa using h.eq,fun y hy=>by rcases List.mem_or_eq_of_mem_set hy with h1 | h1; exact h.now8 y h1; omega,h.was8⟩
theorem oO.at {now was:List Nat} {a:Nat} (h:oO now was) (ha:a<now.length):∃ x y,now[a]?=some x∧was[a]?=some y∧x<256∧y<256:=by
 have h1:=List.getElem?_eq_getElem ha
 have h2:=List.getElem?_eq_getElem (show a<was.length by rw [h.eq]; exact ha)
 exact ⟨_,_,h1,h2,h.now8 _ (List.getElem_mem _),h.was8 _ (List.getElem_mem _)⟩
abbrev RfL (rb:Nat) (nv wv fv:Value) (sb:Nat) (now was:List Nat) (l:List AK):List AK :=
 pt rb (.cells [nv,wv,fv,.pointer (some ⟨sb,0,none⟩)] BT false)::AU AL 1 nv now.length (n8 now)::AU AL 1 wv was.length (n8 was)::AU CQ 1 fv (PU now was).length ((PU now was).map .bool)::fE sb (UA now was)::l
def YC (rb:Nat) (now was:List Nat):AK:=ex fun p:Value×Value×Value×Nat=>sep (HZ (oO now was)) (AY (RfL rb p.1 p.2.1 p.2.2.1 p.2.2.2 now was []))
theorem XA {rb:Nat} {now was:List Nat}:H (YC rb now was::l) σ↔∃ nv wv fv sb,oO now was∧H (RfL rb nv wv fv sb now was l) σ:=by
 unfold YC
 rw [JM]
 constructor
 ·rintro ⟨⟨a,b,c,d⟩,h⟩
  rw [BB,BK,A8] at h
  exact ⟨a,b,c,d,h.1,h.2⟩
 ·rintro ⟨a,b,c,d,h1,h2⟩
  refine ⟨⟨a,b,c,d⟩,?_⟩
  rw [BB,BK,A8]
  exact ⟨h1,h2⟩
theorem AAc {rb:Nat} {now was:List Nat} (h:H (YC rb now was::l) σ):oO now was:=by
 obtain ⟨_,_,_,_,h1,_⟩:=XA.1 h; exact h1
theorem fM {rb:Nat} {now was:List Nat} (h:H (YC rb now was::l) σ) (hQ:Q (.ret (.bool true)) σ):E DW [.pointer (some ⟨rb,0,none⟩)] σ Q:=by
 apply aE; unfold PY
 obtain ⟨nv,wv,fv,sb,h1,h2⟩:=XA.1 h
 have:=h1.lo
 rw [LV h2,IB h2.tail,AH,decide_eq_true (by omega)]
 exact hQ
theorem AEO {rb:Nat} {now was:List Nat} (h:H (YC rb now was::l) σ)
 (hno:(∀ a:Nat,(UA now was)[a]?≠some true)→∀ σ',H (YC rb now was::l) σ'→Q (.ret (.tuple #[.int .i64 0,.int .i64 8])) σ')
 (hyes:∀ (a:Nat) σ',now[a]?=some 0→was[a]?=some 0→(∀ b<a,(UA now was)[b]?≠some true)→H (YC rb (now.set a 1) was::l) σ'→Q (.ret (.tuple #[.int .i64 a,.int .i64 0])) σ') :
 E EQ [.pointer (some ⟨rb,0,none⟩)] σ Q:=by
 apply Z3; unfold P6
 refine fM h ?_
 rw [GY]
 refine B7 rfl ?_
 obtain ⟨nv,wv,fv,sb,h1,h2⟩:=XA.1 h
 have hfl:=oH h1.eq
 have:=h1.hi
 rw [LV h2]
 have h3:H (fE sb (UA now was)::pt rb (.cells [nv,wv,fv,.pointer (some ⟨sb,0,none⟩)] BT false)::AU AL 1 nv now.length (n8 now)::AU AL 1 wv was.length (n8 was)::AU CQ 1 fv (PU now was).length ((PU now was).map .bool)::l) σ:=h2.re
 refine AEd h3 (by omega) ?_ ?_
 ·intro hn σ1 h4
  rw [BS,AT,AT]
  refine CA (fun _=>?_) fun g=>absurd g (by decide)
  exact hno hn σ1 (XA.2 ⟨nv,wv,fv,sb,h1,h4.re⟩)
 ·intro a σ1 ha hb h4
  have hal:a<now.length:=by rw [← hfl]; exact (List.getElem?_eq_some_iff.1 ha).1
  obtain ⟨x,y,hx,hy,_,_⟩:=h1.at hal
  rw [WR hx hy] at ha
  simp at ha
  obtain ⟨rfl,rfl⟩:=ha
  rw [BS,AT,AT]
  refine CA (fun g=>absurd rfl g) fun _=>?_
  rw [LV h4,LV h4]
  have h5:H (AU AL 1 nv now.length (n8 now)::fE sb ((UA now was).set a false)::pt rb (.cells [nv,wv,fv,.pointer (some ⟨sb,0,none⟩)] BT false)::AU AL 1 wv was.length (n8 was)::AU CQ 1 fv (PU now was).length ((PU now was).map .bool)::l) σ1:=h4.re
  refine zV (f:=fun n:Nat=>Value.int .u8 (n:Nat)) (y:=1) h5 rfl hal ?_
  intro σ2 h6
  have h7:H (AU CQ 1 fv (PU now was).length ((PU now was).map .bool)::AU AL 1 nv (now.set a 1).length (n8 (now.set a 1))::fE sb ((UA now was).set a false)::pt rb (.cells [nv,wv,fv,.pointer (some ⟨sb,0,none⟩)] BT false)::AU AL 1 wv was.length (n8 was)::l) σ2:=h6.re
  refine zV (f:=Value.bool) (y:=true) h7 rfl (by rw [eW h1.eq]; exact hal) ?_
  intro σ3 h8
  refine hyes a σ3 hx hy hb (XA.2 ⟨nv,wv,fv,sb,h1.set (by omega),?_⟩)
  have e1:UA (now.set a 1) was=(UA now was).set a false:=by rw [fB hy]; rfl
  have e2:PU (now.set a 1) was=(PU now was).set a true:=by rw [eU hy]; rfl
  unfold RfL
  rw [e1,e2]
  exact h8.re
theorem ADU {rb a x:Nat} {now was:List Nat} {g:FuncId} (h:H (YC rb now was::l) σ) (ha:now[a]?=some x) (h0:x=0→Q (.ret (.int .i64 6)) σ)
 (hg:x≠0→E g [.pointer (some ⟨rb,0,none⟩),.int .i64 a] σ (cI Q .i64 fun n τ=>Q (.ret (.int .i64 n)) τ)) :
 E JD [.pointer (some ⟨rb,0,none⟩),.int .i64 a,.func (.func g) #[] #[]] σ Q:=by
 apply cP; unfold SH
 refine fM h ?_
 rw [GY]
 refine B7 rfl ?_
 have hal:=(List.getElem?_eq_some_iff.1 ha).1
 obtain ⟨nv,wv,fv,sb,h1,h2⟩:=XA.1 h
 refine AS (fun g=>absurd g (by omega)) fun _=>?_
 rw [LV h2,IB h2.tail,AH]
 unfold JJ
 refine B7 (by simp; omega) ?_
 obtain ⟨b,ia,la⟩:=zO (f:=fun n:Nat=>Value.int .u8 (n:Nat)) h2.tail ha
 rw [LV h2,ia,AD,la,AH]
 refine AS (fun g=>h0 (by omega)) fun g=>?_
 exact hg (by omega)
theorem AG4 {rb a x:Nat} {now was:List Nat} (h:H (YC rb now was::l) σ) (ha:now[a]?=some x) (h0:x=0→Q (.ret (.int .i64 6)) σ) (hf:x=255→Q (.ret (.int .i64 8)) σ)
 (hQ:x≠0→x<255→∀ σ',H (YC rb (now.set a (x+1)) was::l) σ'→Q (.ret (.int .i64 0)) σ'):E EU [.pointer (some ⟨rb,0,none⟩),.int .i64 a] σ Q:=by
 apply eD; unfold TV
 refine ADU h ha (fun e=>?_) fun hx=>?_
 ·rw [A9]; exact h0 e
 apply bW; unfold R6
 have hal:=(List.getElem?_eq_some_iff.1 ha).1
 obtain ⟨nv,wv,fv,sb,h1,h2⟩:=XA.1 h
 obtain ⟨b,ia,la⟩:=zO (f:=fun n:Nat=>Value.int .u8 (n:Nat)) h2.tail ha
 obtain ⟨x',y,hx',hy,hx8,_⟩:=h1.at hal
 rw [ha] at hx'; cases hx'
 rw [LV h2,ia,AD,la,AH]
 refine AS (fun g=>?_) fun g=>?_
 ·rw [A9,A9]; exact hf (by omega)
 rw [LV h2,ia,AD,la,AH]
 refine bu8 ((x+1:Nat):Int) (by omega) ?_
 rw [← ia .i64]
 have h3:H (AU AL 1 nv now.length (n8 now)::pt rb (.cells [nv,wv,fv,.pointer (some ⟨sb,0,none⟩)] BT false)::AU AL 1 wv was.length (n8 was)::AU CQ 1 fv (PU now was).length ((PU now was).map .bool)::fE sb (UA now was)::l) σ:=h2.re
 refine zV (f:=fun n:Nat=>Value.int .u8 (n:Nat)) (y:=x+1) h3 rfl hal ?_
 intro σ2 h4
 rw [A9,A9]
 refine hQ hx (by omega) σ2 (XA.2 ⟨nv,wv,fv,sb,h1.set (by omega),?_⟩)
 have e1:UA (now.set a (x+1)) was=UA now was:=by
  rw [fB hy]
  apply set_self
  rw [WR ha hy]
  cases x with
  | zero=>exact absurd rfl hx
  | succ x=>simp
 have e2:PU (now.set a (x+1)) was=PU now was:=by
  rw [eU hy]
  apply set_self
  rw [e7 ha hy]
  cases x with
  | zero=>exact absurd rfl hx
  | succ x=>simp
 unfold RfL
 rw [e1,e2]
 exact h4.re
theorem AG7 {rb a x:Nat} {now was:List Nat} (h:H (YC rb now was::l) σ) (ha:now[a]?=some x) (h0:x=0→Q (.ret (.tuple #[.bool false,.int .i64 6])) σ)
 (hQ:x≠0→∀ σ',H (YC rb (now.set a (x - 1)) was::l) σ'→Q (.ret (.tuple #[.bool (decide (x=1)),.int .i64 0])) σ'):E DY [.pointer (some ⟨rb,0,none⟩),.int .i64 a] σ Q:=by
 apply eS; unfold TU
 have hal:=(List.getElem?_eq_some_iff.1 ha).1
 refine ADU h ha (fun e=>?_) fun hx=>?_
 ·rw [A9]
  refine AS (fun g=>absurd g (by decide)) fun _=>?_
  exact h0 e
 -- behind
 have fin:∀ σ',H (YC rb (now.set a (x - 1)) was::l) σ'→cI (cI Q .i64 fun n5 τ4=>If (decide (n5=0)) (om (L rb 0 τ4) fun v9=>om (AE 1 v9 (.int .i64 a)) fun v11=>A2 .u8 (AF false 1 v11 τ4) fun n12=>Q (.ret (.tuple #[(.bool (decide (n12=0))),(.int .i64 n5)])) τ4) (Q (.ret (.tuple #[(.bool false),(.int .i64 n5)])) τ4)) .i64
  (fun n τ=>cI Q .i64 (fun n5 τ4=>If (decide (n5=0)) (om (L rb 0 τ4) fun v9=>om (AE 1 v9 (.int .i64 a)) fun v11=>A2 .u8 (AF false 1 v11 τ4) fun n12=>Q (.ret (.tuple #[(.bool (decide (n12=0))),(.int .i64 n5)])) τ4) (Q (.ret (.tuple #[(.bool false),(.int .i64 n5)])) τ4)) (.ret (.int .i64 n)) τ) (.ret (.int .i64 0)) σ':=by
  intro σ' h'
  rw [A9,A9]
  refine G8 rfl ?_
  obtain ⟨nv,wv,fv,sb,h1,h2⟩:=XA.1 h'
  have ha':(now.set a (x - 1))[a]?=some (x - 1):=by rw [List.getElem?_set,if_pos rfl,if_pos hal]
  obtain ⟨b,ia,la⟩:=zO (f:=fun n:Nat=>Value.int .u8 (n:Nat)) h2.tail ha'
  rw [LV h2,ia,AD,la,AH]
  have:decide (((x - 1:Nat):Int)=0)=decide (x=1):=by by_cases e:x=1<;>simp [e]; omega
  rw [this]
  exact hQ hx σ' h'
 apply bU; unfold RL
 obtain ⟨nv,wv,fv,sb,h1,h2⟩:=XA.1 h
 obtain ⟨b,ia,la⟩:=zO (f:=fun n:Nat=>Value.int .u8 (n:Nat)) h2.tail ha
 obtain ⟨x',y,hx',hy,hx8,_⟩:=h1.at hal
 rw [ha] at hx'; cases hx'
 rw [LV h2,ia,AD,la,AH]
 refine bu8 ((x - 1:Nat):Int) (by omega) ?_
 rw [← ia .i64]
 have h3:H (AU AL 1 nv now.length (n8 now)::pt rb (.cells [nv,wv,fv,.pointer (some ⟨sb,0,none⟩)] BT false)::AU AL 1 wv was.length (n8 was)::AU CQ 1 fv (PU now was).length ((PU now was).map .bool)::fE sb (UA now was)::l) σ:=h2.re
 refine zV (f:=fun n:Nat=>Value.int .u8 (n:Nat)) (y:=x - 1) h3 rfl hal ?_
 intro σ2 h4
 have h4:H (AU AL 1 nv (now.set a (x - 1)).length (n8 (now.set a (x - 1)))::pt rb (.cells [nv,wv,fv,.pointer (some ⟨sb,0,none⟩)] BT false)::AU AL 1 wv was.length (n8 was)::AU CQ 1 fv (PU now was).length ((PU now was).map .bool)::fE sb (UA now was)::l) σ2:=h4
 have ha':(now.set a (x - 1))[a]?=some (x - 1):=by rw [List.getElem?_set,if_pos rfl,if_pos hal]
 obtain ⟨b2,ia2,la2⟩:=zO (f:=fun n:Nat=>Value.int .u8 (n:Nat)) h4 ha'
 rw [LV h4,ia2,AD,la2,AH]
 have same:∀ τ,(x - 1≠0∨y≠0)→H (AU AL 1 nv (now.set a (x - 1)).length (n8 (now.set a (x - 1)))::pt rb (.cells [nv,wv,fv,.pointer (some ⟨sb,0,none⟩)] BT false)::AU AL 1 wv was.length (n8 was)::AU CQ 1 fv (PU now was).length ((PU now was).map .bool)::fE sb (UA now was)::l) τ→H (YC rb (now.set a (x - 1)) was::l) τ:=by
  intro τ hor ht
  have e1:UA (now.set a (x - 1)) was=UA now was:=by
   rw [fB hy]
   apply set_self
   rw [WR ha hy]
   have:(x == 0)=false:=by simpa using hx
   rw [this]
   rcases hor with hor | hor
   ·have:(x - 1 == 0)=false:=by simpa using hor
    rw [this]
   ·have:(y == 0)=false:=by simpa using hor
    rw [this]; simp
  have e2:PU (now.set a (x - 1)) was=PU now was:=by
   rw [eU hy]
   apply set_self
   rw [e7 ha hy]
   have h0:(x != 0)=true:=by simpa using hx
   rw [h0]
   rcases hor with hor | hor
   ·have:(x - 1 != 0)=true:=by simpa using hor
    rw [this]
   ·have:(y == 0)=false:=by simpa using hor
    rw [this]; simp
  refine XA.2 ⟨nv,wv,fv,sb,h1.set (by omega),?_⟩
  unfold RfL
  rw [e1,e2]
  exact ht.re
 refine AS (fun g=>?_) fun g=>?_
 ·have hx1:x=1:=by omega
  subst hx1
  have h5:H (AU CQ 1 fv (PU now was).length ((PU now was).map .bool)::AU AL 1 nv (now.set a (1 - 1)).length (n8 (now.set a (1 - 1)))::pt rb (.cells [nv,wv,fv,.pointer (some ⟨sb,0,none⟩)] BT false)::AU AL 1 wv was.length (n8 was)::fE sb (UA now was)::l) σ2:=h4.re
  have hfr:=e7 ha hy
  obtain ⟨b3,ia3,la3⟩:=zO h5 hfr
  rw [LV h4,ia3,AD,la3,BR]
  unfold GR
  refine cN (fun g2=>?_) fun g2=>?_
  ·have hy0:y=0:=by simpa using g2
   subst hy0
   rw [LV h4]
   refine zV (f:=Value.bool) (y:=false) h5 rfl (by rw [eW h1.eq]; exact hal) ?_
   intro σ3 h6
   rw [LV h6]
   have h7:H (fE sb (UA now was)::AU CQ 1 fv ((PU now was).set a false).length (((PU now was).set a false).map .bool)::AU AL 1 nv (now.set a (1 - 1)).length (n8 (now.set a (1 - 1)))::pt rb (.cells [nv,wv,fv,.pointer (some ⟨sb,0,none⟩)] BT false)::AU AL 1 wv was.length (n8 was)::l) σ3:=h6.re
   have:=h1.hi
   refine AEK h7 (by rw [WR ha hy]; rfl) (by rw [oH h1.eq]; omega) ?_
   intro σ4 h8
   rw [A9]
   unfold E0
   refine fin σ4 (XA.2 ⟨nv,wv,fv,sb,h1.set (by omega),?_⟩)
   have e1:UA (now.set a (1 - 1)) was=(UA now was).set a true:=by rw [fB hy]; rfl
   have e2:PU (now.set a (1 - 1)) was=(PU now was).set a false:=by rw [eU hy]; rfl
   unfold RfL
   rw [e1,e2]
   exact h8.re
  ·unfold E0
   exact fin σ2 (same σ2 (.inr (by simpa using g2)) h4)
 ·unfold GR
  refine B7 rfl ?_
  unfold E0
  exact fin σ2 (same σ2 (.inl (by omega)) h4)
theorem oE {rb a x:Nat} {now was:List Nat} (h:H (YC rb now was::l) σ) (ha:now[a]?=some x) (hQ:Q (.ret (.int .i64 x)) σ):E EN [.pointer (some ⟨rb,0,none⟩),.int .i64 a] σ Q:=by
 apply aY; unfold P2
 refine fM h ?_
 rw [GY]
 refine B7 rfl ?_
 have hal:=(List.getElem?_eq_some_iff.1 ha).1
 obtain ⟨nv,wv,fv,sb,h1,h2⟩:=XA.1 h
 refine AS (fun g=>absurd g (by omega)) fun _=>?_
 rw [LV h2,IB h2.tail,AH]
 unfold F7
 refine B7 (by simp; omega) ?_
 obtain ⟨b,ia,la⟩:=zO (f:=fun n:Nat=>Value.int .u8 (n:Nat)) h2.tail ha
 rw [LV h2,ia,AD,la,AH]
 have:=h1.now8 x (List.mem_of_getElem? ha)
 refine E1 (x:Int) (by omega) ?_
 exact hQ
theorem AEQ {rb a x y:Nat} {now was:List Nat} (h:H (YC rb now was::l) σ) (ha:now[a]?=some x) (hy:was[a]?=some y) (hQ:Q (.ret (.bool (x != 0 && y == 0))) σ):E KQ [.pointer (some ⟨rb,0,none⟩),.int .i64 a] σ Q:=by
 apply Y7; unfold QQ
 refine fM h ?_
 rw [GY]
 refine G8 rfl ?_
 have hal:=(List.getElem?_eq_some_iff.1 ha).1
 obtain ⟨nv,wv,fv,sb,h1,h2⟩:=XA.1 h
 refine AS (fun _=>?_) fun g=>absurd (by omega) g
 rw [LV h2,IB h2.tail,AH]
 refine AS (fun _=>?_) fun g=>absurd (by omega) g
 have h3:H (AU CQ 1 fv (PU now was).length ((PU now was).map .bool)::l) σ:=h2.re
 obtain ⟨b,ia,la⟩:=zO h3 (e7 ha hy)
 rw [LV h2,ia,AD,la,BR]
 exact hQ
end Go.Ax.C
set_option maxRecDepth 100000
namespace Go.Ax.C
open Go.Proofs Go.RowKit
variable {l r m:List AK} {σ:AHeap} {Q:RK}
theorem vD {rb:Nat} {nv wv fv spv:Value} {now ws:List Nat} (h:H (pt rb (.cells [nv,wv,fv,spv] BT false)::AU AL 1 nv now.length (n8 now)::AU AL 1 wv ws.length (n8 ws)::l) σ) (hw:ws.length=now.length) (hlo:1≤now.length) (hhi:now.length≤1024) (h8:∀ x∈now,x<256)
 (hQ:∀ σ',H (YC rb now now::l) σ'→Q (.ret (.tuple #[])) σ'):E HI [.pointer (some ⟨rb,0,none⟩)] σ Q:=by
 apply YB; unfold PB
 rw [LV h,LV h]
 obtain ⟨b1,c1,rfl,_,_⟩:=h.own_form 1 rfl (by omega)
 obtain ⟨b2,c2,rfl,_,_⟩:=h.own_form 2 rfl (by omega)
 have hs:=(h.own_src 1 rfl).1
 have hs':D5 1 (.slice (some ⟨b1,0,none⟩) (Nat.min now.length ws.length) c1) σ=some (now.length,n8 now):=by
  rw [show Nat.min now.length ws.length=now.length by rw [hw]; exact Nat.min_self _]; exact hs
 refine rD h 2 rfl (by omega) hs' (AEi _) (by simp; omega) ?_
 intro σ1 h1
 have e0:splice (n8 ws) 0 (n8 now)=n8 now:=by
  unfold splice
  rw [List.take_zero,List.nil_append,List.drop_of_length_le (by simp; omega),List.append_nil]
 rw [e0] at h1
 have h1:H (pt rb (.cells [.slice (some ⟨b1,0,none⟩) now.length c1,.slice (some ⟨b2,0,none⟩) ws.length c2,fv,spv] BT false)::AU AL 1 (.slice (some ⟨b1,0,none⟩) now.length c1) now.length (n8 now)::AU AL 1 (.slice (some ⟨b2,0,none⟩) ws.length c2) now.length (n8 now)::l) σ1:=by rw [← hw]; rw [← hw] at h1; exact h1
 rw [LV h1,PI,AH]
 refine QO h1 (by omega) ?_
 intro fb σ2 h2
 have e0:reps ((now.length:Int).toNat) [.bool false]=(PU now now).map .bool:=by
  rw [PD]
  have:PU now now=List.replicate now.length false:=by
   unfold PU
   apply List.ext_getElem?
   intro i
   rw [List.getElem?_zipWith,List.getElem?_replicate]
   cases hi:now[i]? with
   | none=>have:=List.getElem?_eq_none_iff.1 hi; simp; omega
   | some x =>
     have:=(List.getElem?_eq_some_iff.1 hi).1
     simp [this]
  simp [this]
 have h2:=(h2.unsnoc.to_own (n:=now.length) (z:=1) 0 rfl (by rw [e0]; simp [eW]) (by unfold A4; omega))
 rw [e0] at h2
 simp only [Int.toNat_natCast]
 have h2:H (AU CQ 1 (.slice (some ⟨fb,0,none⟩) now.length now.length) (PU now now).length ((PU now now).map .bool)::pt rb (.cells [.slice (some ⟨b1,0,none⟩) now.length c1,.slice (some ⟨b2,0,none⟩) ws.length c2,fv,spv] BT false)::AU AL 1 (.slice (some ⟨b1,0,none⟩) now.length c1) now.length (n8 now)::AU AL 1 (.slice (some ⟨b2,0,none⟩) ws.length c2) now.length (n8 now)::l) σ2:=by rw [eW rfl]; exact h2
 refine st h2 rfl ?_
 intro σ3 h3
 rw [LV h3,PI,AH]
 refine AFL h3 hhi ?_
 intro sb σ4 h4
 rw [BS,AT]
 refine st h4 rfl ?_
 intro σ5 h5
 rw [LV h5,PI,AH]
 refine ⟨fun m i τ=>∃ (k:Nat) (is:List Bool),i=k∧m=now.length - k∧k≤now.length∧is.length=now.length∧(∀ j,k≤j→j<now.length→is[j]?=some true)∧(∀ j<k,is[j]?=(UA now now)[j]?)∧H (pt rb (.cells [.slice (some ⟨b1,0,none⟩) now.length c1,.slice (some ⟨b2,0,none⟩) now.length c2,.slice (some ⟨fb,0,none⟩) now.length now.length,.pointer (some ⟨sb,0,none⟩)] BT false)::fE sb is::AU CQ 1 (.slice (some ⟨fb,0,none⟩) now.length now.length) (PU now now).length ((PU now now).map .bool)::AU AL 1 (.slice (some ⟨b1,0,none⟩) now.length c1) now.length (n8 now)::AU AL 1 (.slice (some ⟨b2,0,none⟩) now.length c2) now.length (n8 now)::l) τ,
  ⟨_,0,List.replicate now.length true,rfl,rfl,by omega,by simp,fun j _ hj=>by simp [List.getElem?_replicate,hj],fun j hj=>by omega,by rw [← hw]; rw [← hw] at h5; exact h5⟩,?_⟩
 clear h h1 h2 h3 h4 h5 hs hs'
 rintro m _ τ ⟨k,is,rfl,hm,hk,hil,hge,hlt,h⟩
 unfold LO
 have hge':∀ j,k+1≤j→j<now.length→is[j]?=some true:=fun j hj hj2=>hge j (by omega) hj2
 refine AS (fun g=>?_) fun g=>?_
 ·have hkl:k<now.length:=by omega
  have hx:=List.getElem?_eq_getElem hkl
  have hh:H (AU AL 1 (.slice (some ⟨b1,0,none⟩) now.length c1) now.length (n8 now)::l) τ:=h.re
  obtain ⟨b,ia,la⟩:=zO (f:=fun n:Nat=>Value.int .u8 (n:Nat)) hh hx
  rw [ia,AD,la,AH]
  have hfk:(UA now now)[k]?=some (now[k] == 0):=by rw [WR hx hx]; simp
  refine AS (fun g2=>?_) fun g2=>?_
  ·rw [LV h]
   have h6:H (fE sb is::pt rb (.cells [.slice (some ⟨b1,0,none⟩) now.length c1,.slice (some ⟨b2,0,none⟩) now.length c2,.slice (some ⟨fb,0,none⟩) now.length now.length,.pointer (some ⟨sb,0,none⟩)] BT false)::AU CQ 1 (.slice (some ⟨fb,0,none⟩) now.length now.length) (PU now now).length ((PU now now).map .bool)::AU AL 1 (.slice (some ⟨b1,0,none⟩) now.length c1) now.length (n8 now)::AU AL 1 (.slice (some ⟨b2,0,none⟩) now.length c2) now.length (n8 now)::l) τ:=h.re
   refine ACY h6 (hge k (Nat.le_refl _) hkl) (by omega) ?_
   intro σ7 h7
   rw [A9]
   unfold FN
   refine E1 ((k+1:Nat):Int) (by omega) ?_
   refine ⟨now.length - (k+1),by omega,k+1,is.set k false,rfl,rfl,by omega,by simpa using hil,fun j hj hj2=>?_,fun j hj=>?_,h7.re⟩
   ·rw [List.getElem?_set,if_neg (by omega)]; exact hge' j hj hj2
   ·rw [List.getElem?_set]
    by_cases e:k=j
    ·subst e
     rw [if_pos rfl,if_pos (by omega),hfk]
     have:¬ now[k]=0:=by omega
     simp [this]
    ·rw [if_neg e]; exact hlt j (by omega)
  ·unfold FN
   refine E1 ((k+1:Nat):Int) (by omega) ?_
   refine ⟨now.length - (k+1),by omega,k+1,is,rfl,rfl,by omega,hil,hge',fun j hj=>?_,h⟩
   by_cases e:k=j
   ·subst e
    rw [hge k (Nat.le_refl _) hkl,hfk]
    have:now[k]=0:=by omega
    simp [this]
   ·exact hlt j (by omega)
 ·have hkn:k=now.length:=by omega
  have his:is=UA now now:=by
   apply List.ext_getElem?
   intro j
   by_cases hj:j<k
   ·exact hlt j hj
   ·rw [List.getElem?_eq_none (by omega),List.getElem?_eq_none (by rw [oH rfl]; omega)]
  subst his
  exact hQ τ (XA.2 ⟨.slice (some ⟨b1,0,none⟩) now.length c1,.slice (some ⟨b2,0,none⟩) now.length c2,.slice (some ⟨fb,0,none⟩) now.length now.length,sb,⟨hlo,hhi,rfl,h8,h8⟩,h.re⟩)
theorem ACS {rb:Nat} {now was:List Nat} (h:H (YC rb now was::l) σ) (hQ:∀ σ',H (YC rb now now::l) σ'→Q (.ret (.int .i64 0)) σ'):E HJ [.pointer (some ⟨rb,0,none⟩)] σ Q:=by
 apply XY; unfold PN
 refine fM h ?_
 rw [GY]
 refine B7 rfl ?_
 obtain ⟨nv,wv,fv,sb,h1,h2⟩:=XA.1 h
 have h3:H (pt rb (.cells [nv,wv,fv,.pointer (some ⟨sb,0,none⟩)] BT false)::AU AL 1 nv now.length (n8 now)::AU AL 1 wv was.length (n8 was)::l) σ:=h2.re
 refine vD h3 h1.eq h1.lo h1.hi h1.now8 ?_
 intro σ1 h4
 rw [CD]
 exact hQ σ1 h4
theorem AGi {v:Value} {now:List Nat} (h:H (AU AL 1 v now.length (n8 now)::l) σ) (hlo:1≤now.length) (hhi:now.length≤1024) (h8:∀ x∈now,x<256)
 (hQ:∀ rb σ',H (YC rb now now::AU AL 1 v now.length (n8 now)::l) σ'→Q (.ret (.tuple #[.pointer (some ⟨rb,0,none⟩),.int .i64 0])) σ'):E X9 [v] σ Q:=by
 apply sR; unfold gU
 rw [IB h,AH]
 refine AS (fun g=>absurd g (by omega)) fun _=>?_
 rw [AH]
 unfold Q7
 refine B7 (by simp; omega) ?_
 rw [IB h,AH]
 obtain ⟨hs,_,a,c,hv⟩:=h.own_src 0 rfl
 subst hv
 rw [xA h8] at hs
 have fin:∀ (w:Value) (mb:Nat) (τ:AHeap) (K:RK),(∀ rb σ',H (YC rb now now::AU AL 1 (.slice a now.length c) now.length (n8 now)::l) σ'→K (.ret (.tuple #[.pointer (some ⟨rb,0,none⟩),.int .i64 0])) σ')→H (pt mb (.cells (reps ((now.length:Int).toNat) [.int .u8 0]) AL false)::AU AL 1 w now.length (n8 now)::AU AL 1 (.slice a now.length c) now.length (n8 now)::l) τ→On w (On (.slice (some ⟨mb,0,none⟩) ((now.length:Int).toNat) ((now.length:Int).toNat)) (BE τ (.cells [w,.slice (some ⟨mb,0,none⟩) ((now.length:Int).toNat) ((now.length:Int).toNat),.slice none 0 0,.pointer none] BT false) fun b14 τ15=>M5 E K b14 τ15)):=by
  intro w mb τ K hK ht
  refine E5 (O.SY ht (i:=1) rfl) (E5 rfl ?_)
  have e0:reps ((now.length:Int).toNat) [.int .u8 0]=n8 (List.replicate now.length 0):=by rw [PD]; simp
  rw [e0] at ht
  have ht:=ht.to_own (n:=now.length) (z:=1) 0 rfl (by simp) (by unfold A4; omega)
  simp only [Int.toNat_natCast]
  have ht:H (AU AL 1 (.slice (some ⟨mb,0,none⟩) now.length now.length) now.length (n8 (List.replicate now.length 0))::AU AL 1 w now.length (n8 now)::AU AL 1 (.slice a now.length c) now.length (n8 now)::l) τ:=ht
  refine nw ht ?_
  intro rb τ1 h1
  unfold M5
  have h2:H (pt rb (.cells [w,.slice (some ⟨mb,0,none⟩) now.length now.length,.slice none 0 0,.pointer none] BT false)::AU AL 1 w now.length (n8 now)::AU AL 1 (.slice (some ⟨mb,0,none⟩) now.length now.length) (List.replicate now.length 0).length (n8 (List.replicate now.length 0))::AU AL 1 (.slice a now.length c) now.length (n8 now)::l) τ1:=by
   have e:(List.replicate now.length 0).length=now.length:=List.length_replicate
   rw [e]
   exact h1.re
  refine vD h2 (by simp) hlo hhi h8 ?_
  intro σ3 h3
  rw [CD]
  exact hK rb σ3 h3
 constructor
 ·refine O.up (O.NE h hs (by omega) ?_)
  intro w σ1 h1
  rw [← xA h8] at h1
  have h1:=h1.unsnoc
  rw [CC,AH,CE]
  refine QO h1 (by omega) ?_
  intro mb σ2 h2
  exact fin w mb σ2 Q hQ h2.unsnoc
 ·refine QO h (by omega) ?_
  intro mb σ1 h1
  have h1:=h1.unsnoc
  refine O.up (O.NE (bs:=now.map UInt8.ofNat) h1 ?_ (by omega) ?_)
  ·have:=(h1.own_src 1 rfl).1
   rw [xA h8] at this
   exact this
  intro w σ2 h2
  rw [← xA h8] at h2
  have h2:=h2.unsnoc
  rw [CC,AH,CE]
  exact fin w mb σ2 Q hQ (h2.perm (.swap _ _ _))
end Go.Ax.C
set_option linter.unusedVariables false
set_option maxRecDepth 100000
namespace Go.Ax.C
open Go.Proofs
def fV (E:BP) (Q:RK) (x0 x1:Nat) (σ:AHeap):Prop :=
 If false (
 Q (.ret (.pointer none)) σ) (
 BE σ (.cells [(.pointer (some ⟨x0,0,none⟩)),(.pointer (some ⟨x1,0,none⟩))] EE false) fun b11 τ12 =>
 Q (.ret (.pointer (some ⟨b11,0,none⟩))) τ12)
theorem t5 {Q:RK} {x0 x1:Nat} {σ:AHeap} (h:fV E Q x0 x1 σ):E gV [(.pointer (some ⟨x0,0,none⟩)),(.pointer (some ⟨x1,0,none⟩))] σ Q :=
 B0 Tryz.func28 (fun _=>none) (fun _=>.v) (by kernel_rfl) (Eq.mpr (by kernel_rfl) h)
def H7 (E:BP) (Q:RK) (c6:Bool) (n8:Int) (τ5:AHeap):Prop :=
 If c6 (
 Q (.ret (.int .i64 2)) τ5) (
 If (decide (2147483647<n8)) (
 Q (.ret (.int .i64 1)) τ5) (
 Q (.ret (.int .i64 0)) τ5))
def PM (E:BP) (Q:RK) (x0:Nat) (x1:Int) (σ:AHeap):Prop :=
 om (L x0 0 σ) fun v3 =>
 DF (BF (some (.pointer BT)) .eql v3 (.pointer none)) fun c4 =>
 If c4 (
 (H7 E Q true x1 σ)) (
 om (L x0 1 σ) fun v12 =>
 DF (BF (some (.pointer AZ)) .eql v12 (.pointer none)) fun c13 =>
 (H7 E Q c13 x1 σ))
theorem YH {Q:RK} {x0:Nat} {x1:Int} {σ:AHeap} (h:PM E Q x0 x1 σ):E DB [(.pointer (some ⟨x0,0,none⟩)),(.int .u64 x1)] σ Q :=
 B0 Tryz.func63 (fun _=>none) (fun _=>.v) (by kernel_rfl) (Eq.mpr (by kernel_rfl) h)
def P7 (E:BP) (Q:RK) (x0:Nat) (x1:Int) (σ:AHeap):Prop :=
 BE σ (.cells [(.bool false),(.slice none 0 0),(.slice none 0 0)] AG false) fun b1 τ2 =>
 E DB [(.pointer (some ⟨x0,0,none⟩)),(.int .u64 x1)] τ2 (cI Q .i64 fun n7 τ6 =>
 If (!decide (n7=0)) (
 pu (AP 3 (.pointer (some ⟨b1,0,none⟩)) (.agg #[(.bool false),(.slice none 0 0),(.slice none 0 0)]) τ6) fun τ16 =>
 pu (AF true 3 (.pointer (some ⟨b1,0,none⟩)) τ16) fun v17 =>
 Q (.ret (.tuple #[v17,(.int .i64 n7)])) τ16) (
 om (L x0 1 τ6) fun v22 =>
 Bi (FC (x1)) fun n26 =>
 E F2 [v22,(.int .i64 n26)] τ6 (c2 Q fun v28 v29 τ27 =>
 tI .i64 (fun n30 =>
 If (!decide (n30=0)) (
 pu (AP 3 (.pointer (some ⟨b1,0,none⟩)) (.agg #[(.bool false),(.slice none 0 0),(.slice none 0 0)]) τ27) fun τ39 =>
 pu (AF true 3 (.pointer (some ⟨b1,0,none⟩)) τ39) fun v40 =>
 Q (.ret (.tuple #[v40,(.int .i64 n30)])) τ39) (
 Bi (FC (x1)) fun n48 =>
 E TB [v28,(.int .i64 n48),(.int .u8 1)] τ27 (c2 Q fun v50 v51 τ49 =>
 tI .i64 (fun n52 =>
 If (!decide (n52=0)) (
 pu (AP 3 (.pointer (some ⟨b1,0,none⟩)) (.agg #[(.bool false),(.slice none 0 0),(.slice none 0 0)]) τ49) fun τ61 =>
 pu (AF true 3 (.pointer (some ⟨b1,0,none⟩)) τ61) fun v62 =>
 Q (.ret (.tuple #[v62,(.int .i64 n52)])) τ61) (
 E UH [v50] τ49 (c2 Q fun v68 v69 τ67 =>
 tI .i64 (fun n70 =>
 pu (AP 3 (.pointer (some ⟨b1,0,none⟩)) v68 τ67) fun τ72 =>
 pu (AF true 3 (.pointer (some ⟨b1,0,none⟩)) τ72) fun v73 =>
 Q (.ret (.tuple #[v73,(.int .i64 n70)])) τ72) v69))) v51))) v29)))
theorem ZP {Q:RK} {x0:Nat} {x1:Int} {σ:AHeap} (h:P7 E Q x0 x1 σ):E EP [(.pointer (some ⟨x0,0,none⟩)),(.int .u64 x1)] σ Q :=
 B0 Tryz.func18 (fun _=>none) (fun _=>.v) (by kernel_rfl) (Eq.mpr (by kernel_rfl) h)
def QN (E:BP) (Q:RK) (x0:Nat) (x1:Int) (x2_0:Bool) (x2_1 x2_2:Value) (σ:AHeap):Prop :=
 BE σ (.cells [(.bool x2_0),x2_1,x2_2] AG false) fun b1 τ2 =>
 E DB [(.pointer (some ⟨x0,0,none⟩)),(.int .u64 x1)] τ2 (cI Q .i64 fun n7 τ6 =>
 If (!decide (n7=0)) (
 Q (.ret (.int .i64 n7)) τ6) (
 DF (L b1 0 τ6) fun c18 =>
 om (L b1 1 τ6) fun v19 =>
 om (L b1 2 τ6) fun v20 =>
 E X2 [(.agg #[(.bool c18),v19,v20])] τ6 (c2 Q fun v22 v23 τ21 =>
 tI .i64 (fun n24 =>
 If (!decide (n24=0)) (
 Q (.ret (.int .i64 n24)) τ21) (
 Bi (FC (x1)) fun n40 =>
 E TA [v22,(.int .i64 n40),(.int .u8 1)] τ21 (c2 Q fun v42 v43 τ41 =>
 tI .i64 (fun n44 =>
 If (!decide (n44=0)) (
 Q (.ret (.int .i64 n44)) τ41) (
 om (L x0 1 τ41) fun v60 =>
 Bi (FC (x1)) fun n64 =>
 E ER [v60,(.int .i64 n64),v42] τ41 (cI Q .i64 fun n69 τ68 =>
 Q (.ret (.int .i64 n69)) τ68))) v43))) v23)))
theorem ZH {Q:RK} {x0:Nat} {x1:Int} {x2_0:Bool} {x2_1 x2_2:Value} {σ:AHeap} (h:QN E Q x0 x1 x2_0 x2_1 x2_2 σ):E CH [(.pointer (some ⟨x0,0,none⟩)),(.int .u64 x1),(.agg #[(.bool x2_0),x2_1,x2_2])] σ Q :=
 B0 Tryz.func17 (fun _=>none) (fun _=>.v) (by kernel_rfl) (Eq.mpr (by kernel_rfl) h)
def QB (E:BP) (Q:RK) (x0:Nat) (x1_0:Bool) (x1_1 x1_2:Value) (σ:AHeap):Prop :=
 BE σ (.cells [(.bool x1_0),x1_1,x1_2] AG false) fun b1 τ2 =>
 E DB [(.pointer (some ⟨x0,0,none⟩)),(.int .u64 0)] τ2 (cI Q .i64 fun n6 τ5 =>
 If (!decide (n6=0)) (
 Q (.ret (.tuple #[(.int .u64 0),(.int .i64 n6)])) τ5) (
 DF (L b1 0 τ5) fun c17 =>
 om (L b1 1 τ5) fun v18 =>
 om (L b1 2 τ5) fun v19 =>
 E S4 [(.agg #[(.bool c17),v18,v19])] τ5 (cB Q fun c21 τ20 =>
 If (!c21) (
 Q (.ret (.tuple #[(.int .u64 0),(.int .i64 1)])) τ20) (
 om (L x0 0 τ20) fun v30 =>
 E EQ [v30] τ20 (c2 Q fun v32 v34 τ31 =>
 tI .i64 (fun n33 =>
 tI .i64 (fun n35 =>
 If (!decide (n35=0)) (
 Q (.ret (.tuple #[(.int .u64 0),(.int .i64 n35)])) τ31) (
 Bi (HW (n33)) fun n48 =>
 DF (L b1 0 τ31) fun c54 =>
 om (L b1 1 τ31) fun v55 =>
 om (L b1 2 τ31) fun v56 =>
 E CH [(.pointer (some ⟨x0,0,none⟩)),(.int .u64 n48),(.agg #[(.bool c54),v55,v56])] τ31 (cI Q .i64 fun n58 τ57 =>
 If (!decide (n58=0)) (
 Q (.ret (.tuple #[(.int .u64 0),(.int .i64 n58)])) τ57) (
 Bi (HW (n33)) fun n68 =>
 Q (.ret (.tuple #[(.int .u64 n68),(.int .i64 0)])) τ57)))) v34) v32)))))
theorem ZU {Q:RK} {x0:Nat} {x1_0:Bool} {x1_1 x1_2:Value} {σ:AHeap} (h:QB E Q x0 x1_0 x1_1 x1_2 σ):E GB [(.pointer (some ⟨x0,0,none⟩)),(.agg #[(.bool x1_0),x1_1,x1_2])] σ Q :=
 B0 Tryz.func19 (fun _=>none) (fun _=>.v) (by kernel_rfl) (Eq.mpr (by kernel_rfl) h)
def ES (E:BP) (Q:RK) (b181:Nat) (n183:Int) (b194:Nat) (n203:Int) (b208:Nat) (τ180:AHeap):Prop :=
 om (L b181 0 τ180) fun v182 =>
 E DY [v182,(.int .i64 n183)] τ180 (c2 Q fun v185 v187 τ184 =>
 tB (fun c186 =>
 tI .i64 (fun n188 =>
 If (!decide (n188=0)) (
 pu (AP 3 (.pointer (some ⟨b194,0,none⟩)) (.agg #[(.bool false),(.slice none 0 0),(.slice none 0 0)]) τ184) fun τ197 =>
 pu (AF true 3 (.pointer (some ⟨b194,0,none⟩)) τ197) fun v198 =>
 Q (.ret (.tuple #[(.int .u64 0),v198,(.int .i64 n188)])) τ197) (
 Bi (HW (n203)) fun n207 =>
 DF (L b208 0 τ184) fun c212 =>
 om (L b208 1 τ184) fun v213 =>
 om (L b208 2 τ184) fun v214 =>
 E CH [(.pointer (some ⟨b181,0,none⟩)),(.int .u64 n207),(.agg #[(.bool c212),v213,v214])] τ184 (cI Q .i64 fun n216 τ215 =>
 If (!decide (n216=0)) (
 pu (AP 3 (.pointer (some ⟨b194,0,none⟩)) (.agg #[(.bool false),(.slice none 0 0),(.slice none 0 0)]) τ215) fun τ225 =>
 pu (AF true 3 (.pointer (some ⟨b194,0,none⟩)) τ225) fun v226 =>
 Q (.ret (.tuple #[(.int .u64 0),v226,(.int .i64 n216)])) τ225) (
 Bi (HW (n203)) fun n231 =>
 DF (L b208 0 τ215) fun c235 =>
 om (L b208 1 τ215) fun v236 =>
 om (L b208 2 τ215) fun v237 =>
 pu (AP 3 (.pointer (some ⟨b194,0,none⟩)) (.agg #[(.bool c235),v236,v237]) τ215) fun τ239 =>
 pu (AF true 3 (.pointer (some ⟨b194,0,none⟩)) τ239) fun v240 =>
 Q (.ret (.tuple #[(.int .u64 n231),v240,(.int .i64 0)])) τ239)))) v187) v185)
def K1 (N1:Int→AHeap→Prop) (E:BP) (Q:RK) (b101 b105 b107:Nat) (n110 n116:Int) (v118:Value) (n120 n98:Int) (τ121:AHeap):Prop :=
 If (decide (n98<n120)) (
 om (AE 1 v118 (.int .i64 n98)) fun v129 =>
 A2 .u64 (AF false 1 v129 τ121) fun n130 =>
 om (L b101 0 τ121) fun v135 =>
 Bi (FC (n130)) fun n137 =>
 E EU [v135,(.int .i64 n137)] τ121 (cI Q .i64 fun n139 τ138 =>
 If (!decide (n139=0)) (
 pu (AP 3 (.pointer (some ⟨b105,0,none⟩)) (.agg #[(.bool false),(.slice none 0 0),(.slice none 0 0)]) τ138) fun τ150 =>
 pu (AF true 3 (.pointer (some ⟨b105,0,none⟩)) τ150) fun v171 =>
 Q (.ret (.tuple #[(.int .u64 0),v171,(.int .i64 n139)])) τ150) (
 Bi (FC (n98+1)) fun n174 =>
 N1 n174 τ138))) (
 (ES E Q b101 n110 b105 n116 b107 τ121))
def DX (E:BP) (Q:RK) (c41:Bool) (n43:Int) (b48 b54 b58:Nat) (n81:Int) (τ40:AHeap):Prop :=
 If c41 (
 DF (L b48 0 τ40) fun c49 =>
 om (L b48 1 τ40) fun v50 =>
 om (L b48 2 τ40) fun v51 =>
 pu (AP 3 (.pointer (some ⟨b54,0,none⟩)) (.agg #[(.bool c49),v50,v51]) τ40) fun τ55 =>
 pu (AF true 3 (.pointer (some ⟨b54,0,none⟩)) τ55) fun v56 =>
 Q (.ret (.tuple #[(.int .u64 n43),v56,(.int .i64 0)])) τ55) (
 om (L b58 0 τ40) fun v60 =>
 E EQ [v60] τ40 (c2 Q fun v62 v64 τ61 =>
 tI .i64 (fun n63 =>
 tI .i64 (fun n65 =>
 If (!decide (n65=0)) (
 pu (AP 3 (.pointer (some ⟨b54,0,none⟩)) (.agg #[(.bool false),(.slice none 0 0),(.slice none 0 0)]) τ61) fun τ74 =>
 pu (AF true 3 (.pointer (some ⟨b54,0,none⟩)) τ74) fun v75 =>
 Q (.ret (.tuple #[(.int .u64 0),v75,(.int .i64 n65)])) τ74) (
 om (L b58 0 τ61) fun v80 =>
 E EN [v80,(.int .i64 n81)] τ61 (cI Q .i64 fun n87 τ86 =>
 If (decide (1<n87)) (
 om (L b48 2 τ86) fun v95 =>
 A2 .i64 (BH v95) fun n96 =>
 ∃ I241:Nat→Int→AHeap→Prop,(∃ m,I241 m 0 τ86)∧∀ m (n98:Int) (σ':AHeap),I241 m n98 σ'→(K1 (fun n98 σ'=>∃ m',m'<m∧I241 m' n98 σ') E Q b58 b54 b48 n81 n63 v95 n96 n98 σ')) (
 (ES E Q b58 n81 b54 n63 b48 τ86))))) v64) v62))
def OF (E:BP) (Q:RK) (x0:Nat) (x1:Int) (σ:AHeap):Prop :=
 BE σ (.cells [(.bool false),(.slice none 0 0),(.slice none 0 0)] AG false) fun b1 τ2 =>
 E EP [(.pointer (some ⟨x0,0,none⟩)),(.int .u64 x1)] τ2 (c2 Q fun v7 v8 τ6 =>
 tI .i64 (fun n9 =>
 BE τ6 (.cells [(.bool false),(.slice none 0 0),(.slice none 0 0)] AG false) fun b10 τ11 =>
 pu (AP 3 (.pointer (some ⟨b10,0,none⟩)) v7 τ11) fun τ12 =>
 If (!decide (n9=0)) (
 pu (AP 3 (.pointer (some ⟨b1,0,none⟩)) (.agg #[(.bool false),(.slice none 0 0),(.slice none 0 0)]) τ12) fun τ21 =>
 pu (AF true 3 (.pointer (some ⟨b1,0,none⟩)) τ21) fun v22 =>
 Q (.ret (.tuple #[(.int .u64 0),v22,(.int .i64 n9)])) τ21) (
 Bi (FC (x1)) fun n27 =>
 om (L x0 0 τ12) fun v33 =>
 E KQ [v33,(.int .i64 n27)] τ12 (cB Q fun c36 τ35 =>
 If c36 (
 om (L x0 0 τ35) fun v37 =>
 E EN [v37,(.int .i64 n27)] τ35 (cI Q .i64 fun n39 τ38 =>
 (DX E Q (decide (n39=1)) x1 b10 b1 x0 n27 τ38))) (
 (DX E Q false x1 b10 b1 x0 n27 τ35))))) v8)
theorem W4 {Q:RK} {x0:Nat} {x1:Int} {σ:AHeap} (h:OF E Q x0 x1 σ):E EZ [(.pointer (some ⟨x0,0,none⟩)),(.int .u64 x1)] σ Q :=
 B0 Tryz.func25 (hl [(2,.ord (il 0 5)),(6,.loopr [0,5,7,9,10,66,67] [68] [0,4,5,6,7,9,10] [0,4,5,6,7,9,10,68]),(12,.ord (il 0 6))]) (fun | 68=>(.i .i64) | _=>.v) (by kernel_rfl) (Eq.mpr (by kernel_rfl) h)
def V1 (E:BP) (Q:RK) (x0:Int) (σ:AHeap):Prop :=
 If (!decide (x0=0)) (
 Q (.pan (.iface JA (.agg #[(.int .i64 x0)]))) σ) (
 Q (.ret (.tuple #[])) σ)
theorem cX {Q:RK} {x0:Int} {σ:AHeap} (h:V1 E Q x0 σ):E CP [(.int .i64 x0)] σ Q :=
 B0 Tryz.func85 (fun _=>none) (fun _=>.v) (by kernel_rfl) (Eq.mpr (by kernel_rfl) h)
def UT (E:BP) (Q:RK) (x0:Value) (σ:AHeap):Prop :=
 DF (BF (P.underlying AA0) .eql x0 .nilIface) fun c3 =>
 If c3 (
 Q (.ret (.int .i64 0)) σ) (
 om (H8 P JA true x0) fun v9 =>
 om (QX v9 0) fun v10 =>
 DF (QX v9 1) fun c11 =>
 BE σ (.cells [(.int .i64 0)] JA false) fun b12 τ13 =>
 St b12 0 v10 τ13 fun τ14 =>
 If (!c11) (
 ACb x0 τ14 (pQ Q)) (
 A2 .i64 (L b12 0 τ14) fun n25 =>
 Q (.ret (.int .i64 n25)) τ14))
theorem dI {Q:RK} {x0:Value} {σ:AHeap} (h:UT E Q x0 σ):E NO [x0] σ Q :=
 B0 Tryz.func73 (fun _=>none) (fun _=>.v) (by kernel_rfl) (Eq.mpr (by kernel_rfl) h)
def SO (N1:Int→Int→AHeap→Prop) (E:BP) (Q:RK) (b24:Nat) (n31 n17 n18:Int) (τ32:AHeap):Prop :=
 If (!decide (n17=0)) (
 If (decide (n18=12)) (
 Q (.ret (.tuple #[(.int .u64 0),(.bool false),(.int .i64 23)])) τ32) (
 E EP [(.pointer (some ⟨b24,0,none⟩)),(.int .u64 n17)] τ32 (c2 Q fun v51 v52 τ50 =>
 tI .i64 (fun n53 =>
 BE τ50 (.cells [(.bool false),(.slice none 0 0),(.slice none 0 0)] AG false) fun b54 τ55 =>
 pu (AP 3 (.pointer (some ⟨b54,0,none⟩)) v51 τ55) fun τ56 =>
 If (!decide (n53=0)) (
 Q (.ret (.tuple #[(.int .u64 0),(.bool false),(.int .i64 n53)])) τ56) (
 DF (L b54 0 τ56) fun c71 =>
 If c71 (
 DF (L b54 0 τ56) fun c75 =>
 om (L b54 1 τ56) fun v76 =>
 om (L b54 2 τ56) fun v77 =>
 E NK [(.agg #[(.bool c75),v76,v77]),(.int .u64 n31)] τ56 (c2 Q fun v87 v89 τ86 =>
 tI .i64 (fun n88 =>
 tB (fun c90 =>
 If (!c90) (
 Q (.ret (.tuple #[(.int .u64 0),(.bool false),(.int .i64 0)])) τ86) (
 om (L b54 2 τ86) fun v107 =>
 om (AE 1 v107 (.int .i64 n88)) fun v111 =>
 A2 .u64 (AF false 1 v111 τ86) fun n112 =>
 Q (.ret (.tuple #[(.int .u64 n112),(.bool true),(.int .i64 0)])) τ86)) v89) v87)) (
 om (L b54 2 τ56) fun v117 =>
 DF (L b54 0 τ56) fun c118 =>
 om (L b54 1 τ56) fun v119 =>
 om (L b54 2 τ56) fun v120 =>
 E OR [(.agg #[(.bool c118),v119,v120]),(.int .u64 n31)] τ56 (cI Q .i64 fun n123 τ122 =>
 om (L b54 2 τ122) fun v124 =>
 AX v124 v117=true∧om (AE 1 v117 (.int .i64 n123)) fun v125 =>
 A2 .u64 (AF false 1 v125 τ122) fun n126 =>
 Bi (FC (n18+1)) fun n130 =>
 N1 n126 n130 τ122)))) v52))) (
 Q (.ret (.tuple #[(.int .u64 0),(.bool false),(.int .i64 0)])) τ32)
def XR (E:BP) (Q:RK) (x0:Nat) (x1 x2:Int) (σ:AHeap):Prop :=
 E DB [(.pointer (some ⟨x0,0,none⟩)),(.int .u64 0)] σ (cI Q .i64 fun n4 τ3 =>
 If (!decide (n4=0)) (
 Q (.ret (.tuple #[(.int .u64 0),(.bool false),(.int .i64 n4)])) τ3) (
 ∃ I133:Nat→Int→Int→AHeap→Prop,(∃ m,I133 m x1 0 τ3)∧∀ m (n17:Int) (n18:Int) (σ':AHeap),I133 m n17 n18 σ'→(SO (fun n17 n18 σ'=>∃ m',m'<m∧I133 m' n17 n18 σ') E Q x0 x2 n17 n18 σ')))
theorem kL {Q:RK} {x0:Nat} {x1 x2:Int} {σ:AHeap} (h:XR E Q x0 x1 x2 σ):E H3 [(.pointer (some ⟨x0,0,none⟩)),(.int .u64 x1),(.int .u64 x2)] σ Q :=
 B0 Tryz.func26 (hl [(2,.loopr [0,2] [10,11] [6,7,8] [6,7,8,10,11]),(9,.ord (il 0 4++[(4,[1]),(5,[]),(6,[]),(7,[])]))]) (fun | 10=>(.i .u64) | 11=>(.i .i64) | _=>.v) (by kernel_rfl) (Eq.mpr (by kernel_rfl) h)
def HT (N1:Int→AHeap→Prop) (E:BP) (Q:RK) (b160:Nat) (n162 n171:Int) (τ159:AHeap):Prop :=
 om (L b160 1 τ159) fun v161 =>
 om (AE 5 v161 (.int .i64 n162)) fun v163 =>
 om (AA 1 v163) fun v164 =>
 om (AA 0 v164) fun v165 =>
 DF (AF false 1 v165 τ159) fun c166 =>
 om (AA 1 v164) fun v167 =>
 om (AF false 1 v167 τ159) fun v168 =>
 om (AA 2 v164) fun v169 =>
 om (AF false 1 v169 τ159) fun v170 =>
 E OR [(.agg #[(.bool c166),v168,v170]),(.int .u64 n171)] τ159 (cI Q .i64 fun n173 τ172 =>
 om (L b160 1 τ172) fun v176 =>
 om (AE 5 v176 (.int .i64 n162)) fun v179 =>
 om (AA 4 v179) fun v180 =>
 pu (AP 1 v180 (.int .i64 n173) τ172) fun τ181 =>
 om (L b160 1 τ181) fun v184 =>
 om (AE 5 v184 (.int .i64 n162)) fun v186 =>
 om (AA 1 v186) fun v187 =>
 om (AA 2 v187) fun v188 =>
 om (AF false 1 v188 τ181) fun v189 =>
 om (AE 1 v189 (.int .i64 n173)) fun v191 =>
 A2 .u64 (AF false 1 v191 τ181) fun n192 =>
 N1 n192 τ181)
def HY (N1:Int→AHeap→Prop) (E:BP) (Q:RK) (c148:Bool) (b150:Nat) (n152 n153:Int) (b154:Nat) (τ147:AHeap):Prop :=
 If c148 (
 om (L b154 2 τ147) fun v155 =>
 om (AE 1 v155 (.int .i64 0)) fun v156 =>
 A2 .u64 (AF false 1 v156 τ147) fun n157 =>
 E FJ [(.pointer (some ⟨b150,0,none⟩)),(.int .i64 n152),(.int .i64 0),(.int .u64 n153),(.int .u64 n157)] τ147 (c0 Q fun τ158 =>
 (HT N1 E Q b150 n152 n153 τ158))) (
 (HT N1 E Q b150 n152 n153 τ147))
def JZ (N1:Int→AHeap→Prop) (E:BP) (Q:RK) (b86:Nat) (n88:Int) (b93:Nat) (n110:Int) (c125:Bool) (n136:Int) (τ85:AHeap):Prop :=
 om (L b86 1 τ85) fun v87 =>
 DF (L b93 0 τ85) fun c94 =>
 om (L b93 1 τ85) fun v95 =>
 om (L b93 2 τ85) fun v96 =>
 BE τ85 (.cells [(.int .u64 n88),(.bool c94),v95,v96,(.int .i64 0)] AB false) fun b97 τ98 =>
 om (L b86 1 τ98) fun v99 =>
 AX v99 v87=true∧pu (BZ AB 5 72 v87 (.slice (some ⟨b97,0,none⟩) 1 1) τ98) fun r100 =>
 St b86 1 r100.1 r100.2 fun τ101 =>
 DF (L b93 0 τ101) fun c104 =>
 If c104 (
 Q (.ret (.pointer (some ⟨b86,0,none⟩))) τ101) (
 om (L b86 1 τ101) fun v115 =>
 A2 .i64 (BH v115) fun n116 =>
 Bi (FC (n116 - 1)) fun n117 =>
 If c125 (
 om (L b93 1 τ101) fun v144 =>
 om (AE 1 v144 (.int .i64 0)) fun v145 =>
 A2 .u64 (AF false 1 v145 τ101) fun n146 =>
 (HY N1 E Q (decide (n136<n146)) b86 n117 n136 b93 τ101)) (
 (HY N1 E Q false b86 n117 n136 b93 τ101)))
def K4 (N1:Int→AHeap→Prop) (E:BP) (Q:RK) (c64:Bool) (b66:Nat) (n67 n83:Int) (b92:Nat) (n109:Int) (c124:Bool) (n135:Int) (τ63:AHeap):Prop :=
 If c64 (
 om (L b66 1 τ63) fun v68 =>
 om (AE 5 v68 (.int .i64 n67)) fun v69 =>
 om (AA 4 v69) fun v70 =>
 A2 .i64 (AF false 1 v70 τ63) fun n71 =>
 om (L b66 1 τ63) fun v72 =>
 om (AE 5 v72 (.int .i64 n67)) fun v73 =>
 om (AA 1 v73) fun v74 =>
 om (AA 1 v74) fun v75 =>
 om (AF false 1 v75 τ63) fun v76 =>
 om (L b66 1 τ63) fun v77 =>
 om (AE 5 v77 (.int .i64 n67)) fun v78 =>
 om (AA 4 v78) fun v79 =>
 A2 .i64 (AF false 1 v79 τ63) fun n80 =>
 om (AE 1 v76 (.int .i64 n80)) fun v81 =>
 A2 .u64 (AF false 1 v81 τ63) fun n82 =>
 E FJ [(.pointer (some ⟨b66,0,none⟩)),(.int .i64 n67),(.int .i64 n71),(.int .u64 n82),(.int .u64 n83)] τ63 (c0 Q fun τ84 =>
 (JZ N1 E Q b66 n83 b92 n109 c124 n135 τ84))) (
 (JZ N1 E Q b66 n83 b92 n109 c124 n135 τ63))
def O9 (N1:Int→AHeap→Prop) (E:BP) (Q:RK) (b32:Nat) (n34:Int) (b49:Nat) (c120:Bool) (n131:Int) (τ30:AHeap):Prop :=
 E EZ [(.pointer (some ⟨b32,0,none⟩)),(.int .u64 n34)] τ30 (c3 Q fun v36 v38 v39 τ35 =>
 tI .u64 (fun n37 =>
 tI .i64 (fun n40 =>
 BE τ35 (.cells [(.bool false),(.slice none 0 0),(.slice none 0 0)] AG false) fun b41 τ42 =>
 pu (AP 3 (.pointer (some ⟨b41,0,none⟩)) v38 τ42) fun τ43 =>
 E CP [(.int .i64 n40)] τ43 (c0 Q fun τ46 =>
 om (L b49 1 τ46) fun v52 =>
 A2 .i64 (BH v52) fun n53 =>
 Bi (FC (n53 - 1)) fun n54 =>
 If (decide (0≤n54)) (
 (K4 N1 E Q (!decide (n37=n34)) b49 n54 n37 b41 n34 c120 n131 τ46)) (
 (K4 N1 E Q false b49 n54 n37 b41 n34 c120 n131 τ46)))) v39) v36)
def VB (N1:Int→AHeap→Prop) (E:BP) (Q:RK) (b12:Nat) (n16:Int) (c20:Bool) (b23:Nat) (n9:Int) (τ24:AHeap):Prop :=
 om (L b23 1 τ24) fun v25 =>
 A2 .i64 (BH v25) fun n26 =>
 If (decide (n26=12)) (
 E CP [(.int .i64 23)] τ24 (c0 Q fun τ29 =>
 (O9 N1 E Q b12 n9 b23 c20 n16 τ29))) (
 (O9 N1 E Q b12 n9 b23 c20 n16 τ24))
def dL (E:BP) (Q:RK) (x0:Nat) (x1 x2:Int) (x3:Bool) (σ:AHeap):Prop :=
 BE σ (.cells [(.pointer (some ⟨x0,0,none⟩)),(.slice none 0 0)] A6 false) fun b3 τ4 =>
 ∃ I193:Nat→Int→AHeap→Prop,(∃ m,I193 m x1 τ4)∧∀ m (n9:Int) (σ':AHeap),I193 m n9 σ'→(VB (fun n9 σ'=>∃ m',m'<m∧I193 m' n9 σ') E Q x0 x2 x3 b3 n9 σ')
theorem rP {Q:RK} {x0:Nat} {x1 x2:Int} {x3:Bool} {σ:AHeap} (h:dL E Q x0 x1 x2 x3 σ):E PZ [(.pointer (some ⟨x0,0,none⟩)),(.int .u64 x1),(.int .u64 x2),(.bool x3)] σ Q :=
 B0 Tryz.func74 (hl [(1,.loopr [0,2,3,9] [10] [8] [8,10]),(5,.ord (il 0 31)),(6,.ord (il 0 8++[(8,[4])]++il 9 4))]) (fun | 10=>(.i .u64) | _=>.v) (by kernel_rfl) (Eq.mpr (by kernel_rfl) h)
def VK (E:BP) (Q:RK) (x0:Nat) (x1 x2 x3 x4:Int) (σ:AHeap):Prop :=
 om (L x0 1 σ) fun v1 =>
 om (AE 5 v1 (.int .i64 x1)) fun v2 =>
 om (AA 1 v2) fun v3 =>
 om (AA 0 v3) fun v4 =>
 DF (AF false 1 v4 σ) fun c5 =>
 om (AA 1 v3) fun v6 =>
 om (AF false 1 v6 σ) fun v7 =>
 om (AA 2 v3) fun v8 =>
 om (AF false 1 v8 σ) fun v9 =>
 E L4 [(.agg #[(.bool c5),v7,v9]),(.int .i64 x2),(.int .u64 x3),(.int .u64 x4)] σ (cV Q fun v11 τ10 =>
 E CW [(.pointer (some ⟨x0,0,none⟩)),(.int .i64 x1),v11] τ10 (c0 Q fun τ12 =>
 Q (.ret (.tuple #[])) τ12))
theorem gJ {Q:RK} {x0:Nat} {x1 x2 x3 x4:Int} {σ:AHeap} (h:VK E Q x0 x1 x2 x3 x4 σ):E FJ [(.pointer (some ⟨x0,0,none⟩)),(.int .i64 x1),(.int .i64 x2),(.int .u64 x3),(.int .u64 x4)] σ Q :=
 B0 Tryz.func76 (fun _=>none) (fun _=>.v) (by kernel_rfl) (Eq.mpr (by kernel_rfl) h)
def FI (E:BP) (Q:RK) (c21:Bool) (b23:Nat) (n27:Int) (b31:Nat) (τ20:AHeap):Prop :=
 If c21 (
 om (L b23 0 τ20) fun v24 =>
 om (L b23 1 τ20) fun v25 =>
 om (AE 5 v25 (.int .i64 n27)) fun v28 =>
 om (AA 0 v28) fun v29 =>
 A2 .u64 (AF false 1 v29 τ20) fun n30 =>
 DF (L b31 0 τ20) fun c32 =>
 om (L b31 1 τ20) fun v33 =>
 om (L b31 2 τ20) fun v34 =>
 E CH [v24,(.int .u64 n30),(.agg #[(.bool c32),v33,v34])] τ20 (cI Q .i64 fun n36 τ35 =>
 E CP [(.int .i64 n36)] τ35 (c0 Q fun τ37 =>
 Q (.ret (.tuple #[])) τ37))) (
 Q (.ret (.tuple #[])) τ20)
def TN (E:BP) (Q:RK) (x0:Nat) (x1:Int) (x2_0:Bool) (x2_1 x2_2:Value) (σ:AHeap):Prop :=
 BE σ (.cells [(.bool x2_0),x2_1,x2_2] AG false) fun b1 τ2 =>
 om (L x0 1 τ2) fun v5 =>
 DF (L b1 0 τ2) fun c8 =>
 om (L b1 1 τ2) fun v9 =>
 om (L b1 2 τ2) fun v10 =>
 om (AE 5 v5 (.int .i64 x1)) fun v11 =>
 om (AA 1 v11) fun v12 =>
 pu (AP 3 v12 (.agg #[(.bool c8),v9,v10]) τ2) fun τ13 =>
 om (L b1 1 τ13) fun v16 =>
 A2 .i64 (BH v16) fun n17 =>
 If (decide (0<n17)) (
 om (L b1 1 τ13) fun v18 =>
 A2 .i64 (BH v18) fun n19 =>
 (FI E Q (decide (n19≤8)) x0 x1 b1 τ13)) (
 (FI E Q false x0 x1 b1 τ13))
theorem eJ {Q:RK} {x0:Nat} {x1:Int} {x2_0:Bool} {x2_1 x2_2:Value} {σ:AHeap} (h:TN E Q x0 x1 x2_0 x2_1 x2_2 σ):E CW [(.pointer (some ⟨x0,0,none⟩)),(.int .i64 x1),(.agg #[(.bool x2_0),x2_1,x2_2])] σ Q :=
 B0 Tryz.func77 (hl [(0,.ord (il 0 9)),(2,.ord (il 0 15))]) (fun _=>.v) (by kernel_rfl) (Eq.mpr (by kernel_rfl) h)
def RX (N1:Int→AHeap→Prop) (E:BP) (Q:RK) (v7:Value) (n5:Int) (τ8:AHeap):Prop :=
 If (decide (0≤n5)) (
 wF v7 fun g20 a21 c22 =>
 E g20 (a21++[(.int .i64 n5)]++c22) τ8 (c0 Q fun τ16 =>
 Bi (FC (n5 - 1)) fun n19 =>
 N1 n19 τ16)) (
 Q (.ret (.tuple #[])) τ8)
def XD (E:BP) (Q:RK) (x0:Nat) (x1:Value) (σ:AHeap):Prop :=
 om (L x0 1 σ) fun v1 =>
 A2 .i64 (BH v1) fun n2 =>
 Bi (FC (n2 - 1)) fun n3 =>
 ∃ I23:Nat→Int→AHeap→Prop,(∃ m,I23 m n3 σ)∧∀ m (n5:Int) (σ':AHeap),I23 m n5 σ'→(RX (fun n5 σ'=>∃ m',m'<m∧I23 m' n5 σ') E Q x1 n5 σ')
theorem j7 {Q:RK} {x0:Nat} {x1:Value} {σ:AHeap} (h:XD E Q x0 x1 σ):E MZ [(.pointer (some ⟨x0,0,none⟩)),x1] σ Q :=
 B0 Tryz.func79 (hl [(1,.loopr [1] [4] [] [4])]) (fun | 4=>(.i .i64) | _=>.v) (by kernel_rfl) (Eq.mpr (by kernel_rfl) h)
def BN (E:BP) (Q:RK) (b157 b159:Nat) (τ155:AHeap):Prop :=
 om (L b157 0 τ155) fun v158 =>
 DF (L b159 0 τ155) fun c160 =>
 om (L b159 1 τ155) fun v161 =>
 om (L b159 2 τ155) fun v162 =>
 E GB [v158,(.agg #[(.bool c160),v161,v162])] τ155 (c2 Q fun v164 v166 τ163 =>
 tI .u64 (fun n165 =>
 tI .i64 (fun n167 =>
 E CP [(.int .i64 n167)] τ163 (c0 Q fun τ170 =>
 DF (L b159 0 τ170) fun c178 =>
 om (L b159 1 τ170) fun v179 =>
 om (L b159 2 τ170) fun v180 =>
 om (L b157 1 τ170) fun v181 =>
 BE τ170 (.cells [(.int .u64 n165),(.bool c178),v179,v180,(.int .i64 0)] AB false) fun b182 τ183 =>
 om (L b157 1 τ183) fun v184 =>
 AX v184 v181=true∧pu (BZ AB 5 72 (.slice (some ⟨b182,0,none⟩) 1 1) v181 τ183) fun r185 =>
 St b157 1 r185.1 r185.2 fun τ186 =>
 Q (.ret (.tuple #[])) τ186)) v166) v164)
def RS (E:BP) (Q:RK) (x0:Nat) (x1:Int) (σ:AHeap):Prop :=
 om (L x0 1 σ) fun v1 =>
 om (AE 5 v1 (.int .i64 x1)) fun v2 =>
 om (AA 0 v2) fun v3 =>
 A2 .u64 (AF false 1 v3 σ) fun n4 =>
 om (AA 1 v2) fun v5 =>
 DF (AF false 1 v5 σ) fun c6 =>
 om (AA 2 v2) fun v7 =>
 om (AF false 1 v7 σ) fun v8 =>
 om (AA 3 v2) fun v9 =>
 om (AF false 1 v9 σ) fun v10 =>
 om (AA 4 v2) fun v11 =>
 A2 .i64 (AF false 1 v11 σ) fun n12 =>
 BE σ (.cells [(.int .u64 0),(.bool false),(.slice none 0 0),(.slice none 0 0),(.int .i64 0)] AB false) fun b13 τ14 =>
 pu (AP 5 (.pointer (some ⟨b13,0,none⟩)) (.agg #[(.int .u64 n4),(.bool c6),v8,v10,(.int .i64 n12)]) τ14) fun τ15 =>
 om (L b13 2 τ15) fun v18 =>
 A2 .i64 (BH v18) fun n19 =>
 If (decide (n19≤8)) (
 Q (.ret (.tuple #[])) τ15) (
 DF (L b13 1 τ15) fun c25 =>
 om (L b13 2 τ15) fun v26 =>
 om (L b13 3 τ15) fun v27 =>
 E OU [(.agg #[(.bool c25),v26,v27])] τ15 (c2 Q fun v29 v30 τ28 =>
 BE τ28 (.cells [(.bool false),(.slice none 0 0),(.slice none 0 0)] AG false) fun b31 τ32 =>
 BE τ32 (.cells [(.bool false),(.slice none 0 0),(.slice none 0 0)] AG false) fun b33 τ34 =>
 pu (AP 3 (.pointer (some ⟨b31,0,none⟩)) v29 τ34) fun τ35 =>
 pu (AP 3 (.pointer (some ⟨b33,0,none⟩)) v30 τ35) fun τ36 =>
 DF (L b31 0 τ36) fun c47 =>
 om (L b31 1 τ36) fun v48 =>
 om (L b31 2 τ36) fun v49 =>
 E CW [(.pointer (some ⟨x0,0,none⟩)),(.int .i64 x1),(.agg #[(.bool c47),v48,v49])] τ36 (c0 Q fun τ50 =>
 om (L x0 0 τ50) fun v53 =>
 DF (L b33 0 τ50) fun c56 =>
 om (L b33 1 τ50) fun v57 =>
 om (L b33 2 τ50) fun v58 =>
 E GB [v53,(.agg #[(.bool c56),v57,v58])] τ50 (c2 Q fun v60 v62 τ59 =>
 tI .u64 (fun n61 =>
 tI .i64 (fun n63 =>
 E CP [(.int .i64 n63)] τ59 (c0 Q fun τ66 =>
 If (decide (0<x1)) (
 om (L x0 1 τ66) fun v76 =>
 Bi (FC (x1 - 1)) fun n78 =>
 om (AE 5 v76 (.int .i64 n78)) fun v79 =>
 om (AA 0 v79) fun v80 =>
 A2 .u64 (AF false 1 v80 τ66) fun n81 =>
 om (AA 1 v79) fun v82 =>
 DF (AF false 1 v82 τ66) fun c83 =>
 om (AA 2 v79) fun v84 =>
 om (AF false 1 v84 τ66) fun v85 =>
 om (AA 3 v79) fun v86 =>
 om (AF false 1 v86 τ66) fun v87 =>
 om (AA 4 v79) fun v88 =>
 A2 .i64 (AF false 1 v88 τ66) fun n89 =>
 BE τ66 (.cells [(.int .u64 0),(.bool false),(.slice none 0 0),(.slice none 0 0),(.int .i64 0)] AB false) fun b90 τ91 =>
 pu (AP 5 (.pointer (some ⟨b90,0,none⟩)) (.agg #[(.int .u64 n81),(.bool c83),v85,v87,(.int .i64 n89)]) τ91) fun τ92 =>
 Bi (FC (x1 - 1)) fun n96 =>
 DF (L b90 1 τ92) fun c98 =>
 om (L b90 2 τ92) fun v99 =>
 om (L b90 3 τ92) fun v100 =>
 A2 .i64 (L b90 4 τ92) fun n101 =>
 Bi (FC (n101+1)) fun n102 =>
 om (L b33 1 τ92) fun v107 =>
 om (AE 1 v107 (.int .i64 0)) fun v108 =>
 A2 .u64 (AF false 1 v108 τ92) fun n109 =>
 E M6 [(.agg #[(.bool c98),v99,v100]),(.int .i64 n102),(.int .u64 n109),(.int .u64 n61)] τ92 (cV Q fun v115 τ114 =>
 E CW [(.pointer (some ⟨x0,0,none⟩)),(.int .i64 n96),v115] τ114 (c0 Q fun τ116 =>
 Q (.ret (.tuple #[])) τ116))) (
 om (L b31 1 τ66) fun v123 =>
 om (AE 1 v123 (.int .i64 0)) fun v124 =>
 A2 .u64 (AF false 1 v124 τ66) fun n125 =>
 om (L b33 1 τ66) fun v127 =>
 om (AE 1 v127 (.int .i64 0)) fun v128 =>
 A2 .u64 (AF false 1 v128 τ66) fun n129 =>
 A2 .u64 (L b13 0 τ66) fun n136 =>
 (
 BE τ66 (.cells [(.int .u64 n125),(.int .u64 n129)] AJ false) fun b138 τ139 =>
 A2 .u64 (L b13 0 τ139) fun n140 =>
 AX (.int .u64 n140) (.int .u64 n136)=true∧(
 BE τ139 (.cells [(.int .u64 n136),(.int .u64 n61)] AJ false) fun b141 τ142 =>
 om (L b31 1 τ142) fun v143 =>
 AX v143 v123=true∧A2 .u64 (AF false 1 v124 τ142) fun n144 =>
 AX (.int .u64 n144) (.int .u64 n125)=true∧om (L b33 1 τ142) fun v145 =>
 AX v145 v127=true∧A2 .u64 (AF false 1 v128 τ142) fun n146 =>
 AX (.int .u64 n146) (.int .u64 n129)=true∧On (.slice (some ⟨b138,0,none⟩) 2 2) (
 On (.slice (some ⟨b141,0,none⟩) 2 2) (
 BE τ142 (.cells [(.bool false),(.slice none 0 0),(.slice none 0 0)] AG false) fun b147 τ148 =>
 om (L b31 1 τ148) fun v149 =>
 AX v149 v123=true∧A2 .u64 (AF false 1 v124 τ148) fun n150 =>
 AX (.int .u64 n150) (.int .u64 n125)=true∧om (L b33 1 τ148) fun v151 =>
 AX v151 v127=true∧A2 .u64 (AF false 1 v128 τ148) fun n152 =>
 AX (.int .u64 n152) (.int .u64 n129)=true∧A2 .u64 (L b13 0 τ148) fun n153 =>
 AX (.int .u64 n153) (.int .u64 n136)=true∧pu (AP 3 (.pointer (some ⟨b147,0,none⟩)) (.agg #[(.bool false),(.slice (some ⟨b138,0,none⟩) 2 2),(.slice (some ⟨b141,0,none⟩) 2 2)]) τ148) fun τ154 =>
 (BN E Q x0 b147 τ154))))∧(
 BE τ139 (.cells [(.bool false),(.slice none 0 0),(.slice none 0 0)] AG false) fun b187 τ188 =>
 om (L b31 1 τ188) fun v189 =>
 AX v189 v123=true∧A2 .u64 (AF false 1 v124 τ188) fun n190 =>
 AX (.int .u64 n190) (.int .u64 n125)=true∧om (L b33 1 τ188) fun v191 =>
 AX v191 v127=true∧A2 .u64 (AF false 1 v128 τ188) fun n192 =>
 AX (.int .u64 n192) (.int .u64 n129)=true∧A2 .u64 (L b13 0 τ188) fun n193 =>
 AX (.int .u64 n193) (.int .u64 n136)=true∧BE τ188 (.cells [(.int .u64 n136),(.int .u64 n61)] AJ false) fun b194 τ195 =>
 om (L b31 1 τ195) fun v196 =>
 AX v196 v123=true∧A2 .u64 (AF false 1 v124 τ195) fun n197 =>
 AX (.int .u64 n197) (.int .u64 n125)=true∧om (L b33 1 τ195) fun v198 =>
 AX v198 v127=true∧A2 .u64 (AF false 1 v128 τ195) fun n199 =>
 AX (.int .u64 n199) (.int .u64 n129)=true∧On (.slice (some ⟨b138,0,none⟩) 2 2) (
 On (.slice (some ⟨b194,0,none⟩) 2 2) (
 pu (AP 3 (.pointer (some ⟨b187,0,none⟩)) (.agg #[(.bool false),(.slice (some ⟨b138,0,none⟩) 2 2),(.slice (some ⟨b194,0,none⟩) 2 2)]) τ195) fun τ200 =>
 (BN E Q x0 b187 τ200)))))∧(
 (
 BE τ66 (.cells [(.int .u64 n136),(.int .u64 n61)] AJ false) fun b201 τ202 =>
 om (L b31 1 τ202) fun v203 =>
 AX v203 v123=true∧A2 .u64 (AF false 1 v124 τ202) fun n204 =>
 AX (.int .u64 n204) (.int .u64 n125)=true∧om (L b33 1 τ202) fun v205 =>
 AX v205 v127=true∧A2 .u64 (AF false 1 v128 τ202) fun n206 =>
 AX (.int .u64 n206) (.int .u64 n129)=true∧(
 BE τ202 (.cells [(.int .u64 n125),(.int .u64 n129)] AJ false) fun b207 τ208 =>
 A2 .u64 (L b13 0 τ208) fun n209 =>
 AX (.int .u64 n209) (.int .u64 n136)=true∧On (.slice (some ⟨b207,0,none⟩) 2 2) (
 On (.slice (some ⟨b201,0,none⟩) 2 2) (
 BE τ208 (.cells [(.bool false),(.slice none 0 0),(.slice none 0 0)] AG false) fun b210 τ211 =>
 om (L b31 1 τ211) fun v212 =>
 AX v212 v123=true∧A2 .u64 (AF false 1 v124 τ211) fun n213 =>
 AX (.int .u64 n213) (.int .u64 n125)=true∧om (L b33 1 τ211) fun v214 =>
 AX v214 v127=true∧A2 .u64 (AF false 1 v128 τ211) fun n215 =>
 AX (.int .u64 n215) (.int .u64 n129)=true∧A2 .u64 (L b13 0 τ211) fun n216 =>
 AX (.int .u64 n216) (.int .u64 n136)=true∧pu (AP 3 (.pointer (some ⟨b210,0,none⟩)) (.agg #[(.bool false),(.slice (some ⟨b207,0,none⟩) 2 2),(.slice (some ⟨b201,0,none⟩) 2 2)]) τ211) fun τ217 =>
 (BN E Q x0 b210 τ217))))∧(
 BE τ202 (.cells [(.bool false),(.slice none 0 0),(.slice none 0 0)] AG false) fun b218 τ219 =>
 om (L b31 1 τ219) fun v220 =>
 AX v220 v123=true∧A2 .u64 (AF false 1 v124 τ219) fun n221 =>
 AX (.int .u64 n221) (.int .u64 n125)=true∧om (L b33 1 τ219) fun v222 =>
 AX v222 v127=true∧A2 .u64 (AF false 1 v128 τ219) fun n223 =>
 AX (.int .u64 n223) (.int .u64 n129)=true∧A2 .u64 (L b13 0 τ219) fun n224 =>
 AX (.int .u64 n224) (.int .u64 n136)=true∧BE τ219 (.cells [(.int .u64 n125),(.int .u64 n129)] AJ false) fun b225 τ226 =>
 A2 .u64 (L b13 0 τ226) fun n227 =>
 AX (.int .u64 n227) (.int .u64 n136)=true∧On (.slice (some ⟨b225,0,none⟩) 2 2) (
 On (.slice (some ⟨b201,0,none⟩) 2 2) (
 pu (AP 3 (.pointer (some ⟨b218,0,none⟩)) (.agg #[(.bool false),(.slice (some ⟨b225,0,none⟩) 2 2),(.slice (some ⟨b201,0,none⟩) 2 2)]) τ226) fun τ228 =>
 (BN E Q x0 b218 τ228)))))∧(
 BE τ66 (.cells [(.bool false),(.slice none 0 0),(.slice none 0 0)] AG false) fun b229 τ230 =>
 om (L b31 1 τ230) fun v231 =>
 AX v231 v123=true∧A2 .u64 (AF false 1 v124 τ230) fun n232 =>
 AX (.int .u64 n232) (.int .u64 n125)=true∧om (L b33 1 τ230) fun v233 =>
 AX v233 v127=true∧A2 .u64 (AF false 1 v128 τ230) fun n234 =>
 AX (.int .u64 n234) (.int .u64 n129)=true∧A2 .u64 (L b13 0 τ230) fun n235 =>
 AX (.int .u64 n235) (.int .u64 n136)=true∧(
 BE τ230 (.cells [(.int .u64 n125),(.int .u64 n129)] AJ false) fun b236 τ237 =>
 A2 .u64 (L b13 0 τ237) fun n238 =>
 AX (.int .u64 n238) (.int .u64 n136)=true∧BE τ237 (.cells [(.int .u64 n136),(.int .u64 n61)] AJ false) fun b239 τ240 =>
 om (L b31 1 τ240) fun v241 =>
 AX v241 v123=true∧A2 .u64 (AF false 1 v124 τ240) fun n242 =>
 AX (.int .u64 n242) (.int .u64 n125)=true∧om (L b33 1 τ240) fun v243 =>
 AX v243 v127=true∧A2 .u64 (AF false 1 v128 τ240) fun n244 =>
 AX (.int .u64 n244) (.int .u64 n129)=true∧On (.slice (some ⟨b236,0,none⟩) 2 2) (
 On (.slice (some ⟨b239,0,none⟩) 2 2) (
 pu (AP 3 (.pointer (some ⟨b229,0,none⟩)) (.agg #[(.bool false),(.slice (some ⟨b236,0,none⟩) 2 2),(.slice (some ⟨b239,0,none⟩) 2 2)]) τ240) fun τ245 =>
 (BN E Q x0 b229 τ245))))∧(
 BE τ230 (.cells [(.int .u64 n136),(.int .u64 n61)] AJ false) fun b246 τ247 =>
 om (L b31 1 τ247) fun v248 =>
 AX v248 v123=true∧A2 .u64 (AF false 1 v124 τ247) fun n249 =>
 AX (.int .u64 n249) (.int .u64 n125)=true∧om (L b33 1 τ247) fun v250 =>
 AX v250 v127=true∧A2 .u64 (AF false 1 v128 τ247) fun n251 =>
 AX (.int .u64 n251) (.int .u64 n129)=true∧BE τ247 (.cells [(.int .u64 n125),(.int .u64 n129)] AJ false) fun b252 τ253 =>
 A2 .u64 (L b13 0 τ253) fun n254 =>
 AX (.int .u64 n254) (.int .u64 n136)=true∧On (.slice (some ⟨b252,0,none⟩) 2 2) (
 On (.slice (some ⟨b246,0,none⟩) 2 2) (
 pu (AP 3 (.pointer (some ⟨b229,0,none⟩)) (.agg #[(.bool false),(.slice (some ⟨b252,0,none⟩) 2 2),(.slice (some ⟨b246,0,none⟩) 2 2)]) τ253) fun τ255 =>
 (BN E Q x0 b229 τ255))))))))) v62) v60))))
theorem bK {Q:RK} {x0:Nat} {x1:Int} {σ:AHeap} (h:RS E Q x0 x1 σ):E I8 [(.pointer (some ⟨x0,0,none⟩)),(.int .i64 x1)] σ Q :=
 B0 Tryz.func80 (hl [(1,.ord (il 0 11)),(3,.ord (il 0 15)),(4,.tree (.step 0 [] (.step 1 [] (.step 2 [] (.step 3 [] (.step 4 [] (.step 5 [] (.step 6 [] (.step 7 [] (.step 9 [] (.step 10 [] (.step 11 [] (.alt (.step 8 [10] (.alt (.step 12 [1,3,5,7] (.step 13 [] (.step 14 [1,3,5,7,10] (.step 15 [] .nil)))) (.step 14 [1,3,5,7,10] (.step 12 [1,3,5,7] (.step 13 [] (.step 15 [] .nil)))))) (.alt (.step 12 [1,3,5,7] (.alt (.step 8 [10] (.step 13 [] (.step 14 [1,3,5,7,10] (.step 15 [] .nil)))) (.step 14 [1,3,5,7,10] (.step 8 [10] (.step 13 [] (.step 15 [] .nil)))))) (.step 14 [1,3,5,7,10] (.alt (.step 8 [10] (.step 12 [1,3,5,7] (.step 13 [] (.step 15 [] .nil)))) (.step 12 [1,3,5,7] (.step 8 [10] (.step 13 [] (.step 15 [] .nil)))))))))))))))))))),(5,.ord (il 0 11)),(6,.ord (il 0 4++il 5 4++[(4,[8])]++il 9 4))]) (fun _=>.v) (by kernel_rfl) (Eq.mpr (by kernel_rfl) h)
def IA (E:BP) (Q:RK) (v217:Value) (b228:Nat) (c233:Bool) (b242 b254 b264:Nat) (τ216:AHeap):Prop :=
 E MZ [v217,(.func (.func I8) #[v217] #[])] τ216 (c0 Q fun τ218 =>
 om (B5 v217) fun v221 =>
 om (AA 1 v221) fun v222 =>
 om (AF false 1 v222 τ218) fun v223 =>
 om (AE 5 v223 (.int .i64 0)) fun v224 =>
 om (AA 0 v224) fun v225 =>
 A2 .u64 (AF false 1 v225 τ218) fun n226 =>
 A2 .u64 (L b228 0 τ218) fun n230 =>
 St b242 0 (.int .u64 n226) τ218 fun τ244 =>
 A2 .u64 (L b228 0 τ244) fun n245 =>
 AX (.int .u64 n245) (.int .u64 n230)=true∧St b228 0 (.int .u64 n230) τ244 fun τ246 =>
 St b254 0 (.bool c233) τ246 fun τ256 =>
 St b264 0 (.int .i64 0) τ256 fun τ266 =>
 Q (.ret (.tuple #[])) τ266)
def RZ (E:BP) (Q:RK) (n78:Int) (b86:Nat) (n94 n100:Int) (b109 b112 b122 b127:Nat) (τ71:AHeap):Prop :=
 If (decide (n78=0)) (
 BE τ71 (.cells [(.int .u64 n94)] AJ false) fun b96 τ97 =>
 BE τ97 (.cells [(.int .u64 n100)] AJ false) fun b102 τ103 =>
 On (.slice (some ⟨b96,0,none⟩) 1 1) (
 On (.slice (some ⟨b102,0,none⟩) 1 1) (
 E GB [(.pointer (some ⟨b86,0,none⟩)),(.agg #[(.bool true),(.slice (some ⟨b96,0,none⟩) 1 1),(.slice (some ⟨b102,0,none⟩) 1 1)])] τ103 (c2 Q fun v105 v107 τ104 =>
 tI .u64 (fun n106 =>
 tI .i64 (fun n108 =>
 St b109 0 (.int .u64 n106) τ104 fun τ111 =>
 St b112 0 (.int .i64 n108) τ111 fun τ114 =>
 A2 .u64 (L b109 0 τ114) fun n117 =>
 A2 .i64 (L b112 0 τ114) fun n119 =>
 St b109 0 (.int .u64 n117) τ114 fun τ120 =>
 A2 .i64 (L b112 0 τ120) fun n121 =>
 AX (.int .i64 n121) (.int .i64 n119)=true∧St b122 0 (.int .u64 0) τ120 fun τ125 =>
 A2 .i64 (L b112 0 τ125) fun n126 =>
 AX (.int .i64 n126) (.int .i64 n119)=true∧St b127 0 (.bool false) τ125 fun τ130 =>
 A2 .i64 (L b112 0 τ130) fun n131 =>
 AX (.int .i64 n131) (.int .i64 n119)=true∧St b112 0 (.int .i64 n119) τ130 fun τ132 =>
 Q (.ret (.tuple #[])) τ132) v107) v105)))) (
 E PZ [(.pointer (some ⟨b86,0,none⟩)),(.int .u64 n78),(.int .u64 n94),(.bool true)] τ71 (cV Q fun v139 τ138 =>
 om (B5 v139) fun v142 =>
 om (AA 1 v142) fun v143 =>
 om (AF false 1 v143 τ138) fun v144 =>
 A2 .i64 (BH v144) fun n145 =>
 Bi (FC (n145 - 1)) fun n146 =>
 om (B5 v139) fun v149 =>
 om (AA 1 v149) fun v150 =>
 om (AF false 1 v150 τ138) fun v151 =>
 om (AE 5 v151 (.int .i64 n146)) fun v153 =>
 om (AA 1 v153) fun v154 =>
 om (AA 0 v154) fun v155 =>
 DF (AF false 1 v155 τ138) fun c156 =>
 om (AA 1 v154) fun v157 =>
 om (AF false 1 v157 τ138) fun v158 =>
 om (AA 2 v154) fun v159 =>
 om (AF false 1 v159 τ138) fun v160 =>
 BE τ138 (.cells [(.bool false),(.slice none 0 0),(.slice none 0 0)] AG false) fun b161 τ162 =>
 pu (AP 3 (.pointer (some ⟨b161,0,none⟩)) (.agg #[(.bool c156),v158,v160]) τ162) fun τ163 =>
 DF (L b161 0 τ163) fun c166 =>
 om (L b161 1 τ163) fun v167 =>
 om (L b161 2 τ163) fun v168 =>
 E NK [(.agg #[(.bool c166),v167,v168]),(.int .u64 n94)] τ163 (c2 Q fun v173 v175 τ172 =>
 tI .i64 (fun n174 =>
 tB (fun c176 =>
 If c176 (
 om (L b161 2 τ172) fun v183 =>
 om (AE 1 v183 (.int .i64 n174)) fun v186 =>
 A2 .u64 (AF false 1 v186 τ172) fun n187 =>
 St b122 0 (.int .u64 n187) τ172 fun τ194 =>
 E FJ [v139,(.int .i64 n146),(.int .i64 n174),(.int .u64 n94),(.int .u64 n100)] τ194 (c0 Q fun τ215 =>
 (IA E Q v139 b122 c176 b109 b127 b112 τ215))) (
 DF (L b161 0 τ172) fun c267 =>
 om (L b161 1 τ172) fun v268 =>
 om (L b161 2 τ172) fun v269 =>
 E M6 [(.agg #[(.bool c267),v268,v269]),(.int .i64 n174),(.int .u64 n94),(.int .u64 n100)] τ172 (cV Q fun v271 τ270 =>
 E CW [v139,(.int .i64 n146),v271] τ270 (c0 Q fun τ272 =>
 (IA E Q v139 b122 c176 b109 b127 b112 τ272))))) v175) v173)))
def XQ (E:BP) (Q:RK) (x0:Nat) (x1 x2 x3:Int) (σ:AHeap):Prop :=
 BE σ (.cells [(.int .u64 0)] AJ false) fun b1 τ2 =>
 BE τ2 (.cells [(.int .u64 0)] AJ false) fun b3 τ4 =>
 BE τ4 (.cells [(.bool false)] CQ false) fun b5 τ6 =>
 BE τ6 (.cells [(.int .i64 0)] U1 false) fun b7 τ8 =>
 E DB [(.pointer (some ⟨x0,0,none⟩)),(.int .u64 0)] τ8 (cI Q .i64 fun n12 τ11 =>
 If (!decide (n12=0)) (
 St b1 0 (.int .u64 0) τ11 fun τ21 =>
 St b3 0 (.int .u64 0) τ21 fun τ25 =>
 St b5 0 (.bool false) τ25 fun τ29 =>
 St b7 0 (.int .i64 n12) τ29 fun τ33 =>
 pu (AF false 1 (.pointer (some ⟨b1,0,none⟩)) τ33) fun v34 =>
 pu (AF false 1 (.pointer (some ⟨b3,0,none⟩)) τ33) fun v35 =>
 pu (AF false 1 (.pointer (some ⟨b5,0,none⟩)) τ33) fun v36 =>
 pu (AF false 1 (.pointer (some ⟨b7,0,none⟩)) τ33) fun v37 =>
 Q (.ret (.tuple #[v34,v35,v36,v37])) τ33) (
 If (decide (x3=0)) (
 St b1 0 (.int .u64 0) τ11 fun τ47 =>
 St b3 0 (.int .u64 0) τ47 fun τ50 =>
 St b5 0 (.bool false) τ50 fun τ53 =>
 St b7 0 (.int .i64 1) τ53 fun τ56 =>
 pu (AF false 1 (.pointer (some ⟨b1,0,none⟩)) τ56) fun v57 =>
 pu (AF false 1 (.pointer (some ⟨b3,0,none⟩)) τ56) fun v58 =>
 pu (AF false 1 (.pointer (some ⟨b5,0,none⟩)) τ56) fun v59 =>
 pu (AF false 1 (.pointer (some ⟨b7,0,none⟩)) τ56) fun v60 =>
 Q (.ret (.tuple #[v57,v58,v59,v60])) τ56) (
 (RZ E (qd P D9 [(.pointer (some ⟨b1,0,none⟩)),(.pointer (some ⟨b3,0,none⟩)),(.pointer (some ⟨b5,0,none⟩)),(.pointer (some ⟨b7,0,none⟩))] fun τ66 =>
 pu (AF false 1 (.pointer (some ⟨b1,0,none⟩)) τ66) fun v67 =>
 pu (AF false 1 (.pointer (some ⟨b3,0,none⟩)) τ66) fun v68 =>
 pu (AF false 1 (.pointer (some ⟨b5,0,none⟩)) τ66) fun v69 =>
 pu (AF false 1 (.pointer (some ⟨b7,0,none⟩)) τ66) fun v70 =>
 Q (.ret (.tuple #[v67,v68,v69,v70])) τ66) x1 x0 x2 x3 b1 b7 b3 b5 τ11))))
theorem kE {Q:RK} {x0:Nat} {x1 x2 x3:Int} {σ:AHeap} (h:XQ E Q x0 x1 x2 x3 σ):E JS [(.pointer (some ⟨x0,0,none⟩)),(.int .u64 x1),(.int .u64 x2),(.int .u64 x3)] σ Q :=
 ADJ Tryz.func24 (hl [(3,.ord ([(0,[]),(1,[]),(2,[1]),(3,[1]),(4,[1]),(5,[])])),(5,.ord (il 0 9++[(9,[7]),(10,[]),(11,[]),(12,[])]))]) (fun _=>.v) (by kernel_rfl) (Eq.mpr (by kernel_rfl) h)
def I9 (E:BP) (Q:RK) (x0 x1 x2 x3:Nat) (rv:Option Value) (σ:AHeap):Prop :=
 E NO [(rv.getD .nilIface)] σ (cI Q .i64 fun n2 τ1 =>
 If (!decide (n2=0)) (
 St x0 0 (.int .u64 0) τ1 fun τ7 =>
 St x1 0 (.int .u64 0) τ7 fun τ9 =>
 St x2 0 (.bool false) τ9 fun τ11 =>
 St x3 0 (.int .i64 n2) τ11 fun τ13 =>
 Q (.ret (.tuple #[])) τ13) (
 Q (.ret (.tuple #[])) τ1))
theorem cK (E:BP) (K:AHeap→Prop) (x0 x1 x2 x3:Nat) (rv:Option Value) (σ:AHeap):AAK P E Tryz.f72 (fun _=>none) (fun _=>.v) [(.pointer (some ⟨x0,0,none⟩)),(.pointer (some ⟨x1,0,none⟩)),(.pointer (some ⟨x2,0,none⟩)),(.pointer (some ⟨x3,0,none⟩))] rv σ K=I9 E (kq K) x0 x1 x2 x3 rv σ:=by kernel_rfl
theorem R5 {K:AHeap→Prop} {x0 x1 x2 x3:Nat} {rv:Option Value} {σ:AHeap} (h:I9 E (kq K) x0 x1 x2 x3 rv σ):Dv P D9 [(.pointer (some ⟨x0,0,none⟩)),(.pointer (some ⟨x1,0,none⟩)),(.pointer (some ⟨x2,0,none⟩)),(.pointer (some ⟨x3,0,none⟩))] rv σ K :=
 ADT Tryz.func72 _ _ (by kernel_rfl) (Eq.mpr (cK E K x0 x1 x2 x3 rv σ) h)
def GQ (E:BP) (Q:RK) (b281 b284 b308:Nat) (n352:Int) (b363:Nat) (n373 n394:Int) (τ280:AHeap):Prop :=
 om (L b281 2 τ280) fun v282 =>
 A2 .i64 (BH v282) fun n283 =>
 om (L b284 2 τ280) fun v285 =>
 A2 .i64 (BH v285) fun n286 =>
 Bi (FC (n283+n286)) fun n287 =>
 If (decide (n287≤8)) (
 DF (L b281 1 τ280) fun c291 =>
 om (L b281 2 τ280) fun v292 =>
 om (L b281 3 τ280) fun v293 =>
 DF (L b284 1 τ280) fun c295 =>
 om (L b284 2 τ280) fun v296 =>
 om (L b284 3 τ280) fun v297 =>
 E QE [(.agg #[(.bool c291),v292,v293]),(.agg #[(.bool c295),v296,v297])] τ280 (cV Q fun v299 τ298 =>
 BE τ298 (.cells [(.bool false),(.slice none 0 0),(.slice none 0 0)] AG false) fun b300 τ301 =>
 pu (AP 3 (.pointer (some ⟨b300,0,none⟩)) v299 τ301) fun τ302 =>
 om (L b308 0 τ302) fun v311 =>
 A2 .u64 (L b281 0 τ302) fun n313 =>
 DF (L b300 0 τ302) fun c315 =>
 om (L b300 1 τ302) fun v316 =>
 om (L b300 2 τ302) fun v317 =>
 E CH [v311,(.int .u64 n313),(.agg #[(.bool c315),v316,v317])] τ302 (cI Q .i64 fun n319 τ318 =>
 E CP [(.int .i64 n319)] τ318 (c0 Q fun τ320 =>
 om (L b308 0 τ320) fun v323 =>
 om (B5 v323) fun v324 =>
 om (AA 0 v324) fun v325 =>
 om (AF false 1 v325 τ320) fun v326 =>
 A2 .u64 (L b284 0 τ320) fun n329 =>
 Bi (FC (n329)) fun n330 =>
 E DY [v326,(.int .i64 n330)] τ320 (c2 Q fun v332 v334 τ331 =>
 tB (fun c333 =>
 tI .i64 (fun n335 =>
 E CP [(.int .i64 n335)] τ331 (c0 Q fun τ338 =>
 Bi (FC (n352 - 1)) fun n358 =>
 DF (L b363 1 τ338) fun c369 =>
 om (L b363 2 τ338) fun v370 =>
 om (L b363 3 τ338) fun v371 =>
 om (L b300 1 τ338) fun v382 =>
 om (AE 1 v382 (.int .i64 0)) fun v383 =>
 A2 .u64 (AF false 1 v383 τ338) fun n384 =>
 A2 .u64 (L b281 0 τ338) fun n388 =>
 E L4 [(.agg #[(.bool c369),v370,v371]),(.int .i64 n373),(.int .u64 n384),(.int .u64 n388)] τ338 (cV Q fun v401 τ400 =>
 E MX [v401,(.int .i64 n394)] τ400 (cV Q fun v403 τ402 =>
 E CW [(.pointer (some ⟨b308,0,none⟩)),(.int .i64 n358),v403] τ402 (c0 Q fun τ404 =>
 Q (.ret (.tuple #[])) τ404))))) v334) v332))))) (
 DF (L b281 1 τ280) fun c407 =>
 om (L b281 2 τ280) fun v408 =>
 om (L b281 3 τ280) fun v409 =>
 DF (L b284 1 τ280) fun c411 =>
 om (L b284 2 τ280) fun v412 =>
 om (L b284 3 τ280) fun v413 =>
 E U2 [(.agg #[(.bool c407),v408,v409]),(.agg #[(.bool c411),v412,v413])] τ280 (c2 Q fun v415 v416 τ414 =>
 BE τ414 (.cells [(.bool false),(.slice none 0 0),(.slice none 0 0)] AG false) fun b417 τ418 =>
 BE τ418 (.cells [(.bool false),(.slice none 0 0),(.slice none 0 0)] AG false) fun b419 τ420 =>
 pu (AP 3 (.pointer (some ⟨b417,0,none⟩)) v415 τ420) fun τ421 =>
 pu (AP 3 (.pointer (some ⟨b419,0,none⟩)) v416 τ421) fun τ422 =>
 om (L b308 0 τ422) fun v426 =>
 A2 .u64 (L b281 0 τ422) fun n428 =>
 DF (L b417 0 τ422) fun c430 =>
 om (L b417 1 τ422) fun v431 =>
 om (L b417 2 τ422) fun v432 =>
 E CH [v426,(.int .u64 n428),(.agg #[(.bool c430),v431,v432])] τ422 (cI Q .i64 fun n434 τ433 =>
 E CP [(.int .i64 n434)] τ433 (c0 Q fun τ435 =>
 om (L b308 0 τ435) fun v438 =>
 A2 .u64 (L b284 0 τ435) fun n441 =>
 DF (L b419 0 τ435) fun c444 =>
 om (L b419 1 τ435) fun v445 =>
 om (L b419 2 τ435) fun v446 =>
 E CH [v438,(.int .u64 n441),(.agg #[(.bool c444),v445,v446])] τ435 (cI Q .i64 fun n448 τ447 =>
 E CP [(.int .i64 n448)] τ447 (c0 Q fun τ449 =>
 Bi (FC (n352 - 1)) fun n456 =>
 DF (L b363 1 τ449) fun c461 =>
 om (L b363 2 τ449) fun v462 =>
 om (L b363 3 τ449) fun v463 =>
 om (L b417 1 τ449) fun v470 =>
 om (AE 1 v470 (.int .i64 0)) fun v471 =>
 A2 .u64 (AF false 1 v471 τ449) fun n472 =>
 A2 .u64 (L b281 0 τ449) fun n475 =>
 om (L b419 1 τ449) fun v481 =>
 om (AE 1 v481 (.int .i64 0)) fun v482 =>
 A2 .u64 (AF false 1 v482 τ449) fun n483 =>
 A2 .u64 (L b284 0 τ449) fun n485 =>
 E L4 [(.agg #[(.bool c461),v462,v463]),(.int .i64 n373),(.int .u64 n472),(.int .u64 n475)] τ449 (cV Q fun v487 τ486 =>
 om (L b419 1 τ486) fun v488 =>
 AX v488 v481=true∧A2 .u64 (AF false 1 v482 τ486) fun n489 =>
 AX (.int .u64 n489) (.int .u64 n483)=true∧A2 .u64 (L b284 0 τ486) fun n490 =>
 AX (.int .u64 n490) (.int .u64 n485)=true∧E L4 [v487,(.int .i64 n394),(.int .u64 n483),(.int .u64 n485)] τ486 (cV Q fun v492 τ491 =>
 E CW [(.pointer (some ⟨b308,0,none⟩)),(.int .i64 n456),v492] τ491 (c0 Q fun τ493 =>
 Q (.ret (.tuple #[])) τ493)))))))))
def GS (E:BP) (Q:RK) (n257 n261:Int) (b264 b271 b306:Nat) (n350:Int) (b361:Nat) (n392:Int) (τ254:AHeap):Prop :=
 If (decide (n257=n261)) (
 A2 .u64 (L b264 0 τ254) fun n266 =>
 DF (L b264 1 τ254) fun c267 =>
 om (L b264 2 τ254) fun v268 =>
 om (L b264 3 τ254) fun v269 =>
 A2 .i64 (L b264 4 τ254) fun n270 =>
 A2 .u64 (L b271 0 τ254) fun n273 =>
 DF (L b271 1 τ254) fun c274 =>
 om (L b271 2 τ254) fun v275 =>
 om (L b271 3 τ254) fun v276 =>
 A2 .i64 (L b271 4 τ254) fun n277 =>
 pu (AP 5 (.pointer (some ⟨b271,0,none⟩)) (.agg #[(.int .u64 n266),(.bool c267),v268,v269,(.int .i64 n270)]) τ254) fun τ278 =>
 pu (AP 5 (.pointer (some ⟨b264,0,none⟩)) (.agg #[(.int .u64 n273),(.bool c274),v275,v276,(.int .i64 n277)]) τ278) fun τ279 =>
 (GQ E Q b271 b264 b306 n350 b361 n261 n392 τ279)) (
 (GQ E Q b271 b264 b306 n350 b361 n261 n392 τ254))
def CZ (E:BP) (Q:RK) (n207:Int) (b218:Nat) (n224:Int) (b226:Nat) (n255 n259:Int) (b304:Nat) (n348:Int) (b359:Nat) (n390:Int) (τ206:AHeap):Prop :=
 E CP [(.int .i64 n207)] τ206 (c0 Q fun τ208 =>
 A2 .u64 (L b218 0 τ208) fun n220 =>
 DF (L b218 1 τ208) fun c221 =>
 om (L b218 2 τ208) fun v222 =>
 om (L b218 3 τ208) fun v223 =>
 DF (L b226 0 τ208) fun c228 =>
 om (L b226 1 τ208) fun v229 =>
 om (L b226 2 τ208) fun v230 =>
 (
 BE τ208 (.cells [(.int .u64 0),(.bool false),(.slice none 0 0),(.slice none 0 0),(.int .i64 0)] AB false) fun b231 τ232 =>
 A2 .u64 (L b218 0 τ232) fun n233 =>
 AX (.int .u64 n233) (.int .u64 n220)=true∧DF (L b218 1 τ232) fun c234 =>
 om (L b218 2 τ232) fun v235 =>
 om (L b218 3 τ232) fun v236 =>
 AX (.agg #[(.bool c234),v235,v236]) (.agg #[(.bool c221),v222,v223])=true∧DF (L b226 0 τ232) fun c237 =>
 om (L b226 1 τ232) fun v238 =>
 om (L b226 2 τ232) fun v239 =>
 AX (.agg #[(.bool c237),v238,v239]) (.agg #[(.bool c228),v229,v230])=true∧BE τ232 (.cells [(.int .u64 0),(.bool false),(.slice none 0 0),(.slice none 0 0),(.int .i64 0)] AB false) fun b240 τ241 =>
 A2 .u64 (L b218 0 τ241) fun n242 =>
 AX (.int .u64 n242) (.int .u64 n220)=true∧DF (L b218 1 τ241) fun c243 =>
 om (L b218 2 τ241) fun v244 =>
 om (L b218 3 τ241) fun v245 =>
 AX (.agg #[(.bool c243),v244,v245]) (.agg #[(.bool c221),v222,v223])=true∧DF (L b226 0 τ241) fun c246 =>
 om (L b226 1 τ241) fun v247 =>
 om (L b226 2 τ241) fun v248 =>
 AX (.agg #[(.bool c246),v247,v248]) (.agg #[(.bool c228),v229,v230])=true∧pu (AP 5 (.pointer (some ⟨b231,0,none⟩)) (.agg #[(.int .u64 n220),(.bool c221),v222,v223,(.int .i64 0)]) τ241) fun τ249 =>
 DF (L b226 0 τ249) fun c250 =>
 om (L b226 1 τ249) fun v251 =>
 om (L b226 2 τ249) fun v252 =>
 AX (.agg #[(.bool c250),v251,v252]) (.agg #[(.bool c228),v229,v230])=true∧pu (AP 5 (.pointer (some ⟨b240,0,none⟩)) (.agg #[(.int .u64 n224),(.bool c228),v229,v230,(.int .i64 0)]) τ249) fun τ253 =>
 (GS E Q n255 n259 b240 b231 b304 n348 b359 n390 τ253))∧(
 BE τ208 (.cells [(.int .u64 0),(.bool false),(.slice none 0 0),(.slice none 0 0),(.int .i64 0)] AB false) fun b494 τ495 =>
 A2 .u64 (L b218 0 τ495) fun n496 =>
 AX (.int .u64 n496) (.int .u64 n220)=true∧DF (L b218 1 τ495) fun c497 =>
 om (L b218 2 τ495) fun v498 =>
 om (L b218 3 τ495) fun v499 =>
 AX (.agg #[(.bool c497),v498,v499]) (.agg #[(.bool c221),v222,v223])=true∧DF (L b226 0 τ495) fun c500 =>
 om (L b226 1 τ495) fun v501 =>
 om (L b226 2 τ495) fun v502 =>
 AX (.agg #[(.bool c500),v501,v502]) (.agg #[(.bool c228),v229,v230])=true∧BE τ495 (.cells [(.int .u64 0),(.bool false),(.slice none 0 0),(.slice none 0 0),(.int .i64 0)] AB false) fun b503 τ504 =>
 A2 .u64 (L b218 0 τ504) fun n505 =>
 AX (.int .u64 n505) (.int .u64 n220)=true∧DF (L b218 1 τ504) fun c506 =>
 om (L b218 2 τ504) fun v507 =>
 om (L b218 3 τ504) fun v508 =>
 AX (.agg #[(.bool c506),v507,v508]) (.agg #[(.bool c221),v222,v223])=true∧DF (L b226 0 τ504) fun c509 =>
 om (L b226 1 τ504) fun v510 =>
 om (L b226 2 τ504) fun v511 =>
 AX (.agg #[(.bool c509),v510,v511]) (.agg #[(.bool c228),v229,v230])=true∧pu (AP 5 (.pointer (some ⟨b503,0,none⟩)) (.agg #[(.int .u64 n220),(.bool c221),v222,v223,(.int .i64 0)]) τ504) fun τ512 =>
 DF (L b226 0 τ512) fun c513 =>
 om (L b226 1 τ512) fun v514 =>
 om (L b226 2 τ512) fun v515 =>
 AX (.agg #[(.bool c513),v514,v515]) (.agg #[(.bool c228),v229,v230])=true∧pu (AP 5 (.pointer (some ⟨b494,0,none⟩)) (.agg #[(.int .u64 n224),(.bool c228),v229,v230,(.int .i64 0)]) τ512) fun τ516 =>
 (GS E Q n255 n259 b494 b503 b304 n348 b359 n390 τ516)))
def EX (E:BP) (Q:RK) (b170:Nat) (n171 n177:Int) (b181 b215:Nat) (n345:Int) (τ166:AHeap):Prop :=
 E TW [(.pointer (some ⟨b170,0,none⟩)),(.int .i64 n171)] τ166 (cI Q .i64 fun n173 τ172 =>
 E CP [(.int .i64 n173)] τ172 (c0 Q fun τ174 =>
 Bi (FC (n171+n177)) fun n179 =>
 A2 .i64 (L b181 4 τ174) fun n183 =>
 Bi (FC (n179 - n183)) fun n184 =>
 om (L b170 0 τ174) fun v188 =>
 om (L b181 3 τ174) fun v190 =>
 om (AE 1 v190 (.int .i64 n184)) fun v192 =>
 A2 .u64 (AF false 1 v192 τ174) fun n193 =>
 (
 E EZ [v188,(.int .u64 n193)] τ174 (c3 Q fun v195 v197 v198 τ194 =>
 tI .u64 (fun n196 =>
 tI .i64 (fun n199 =>
 BE τ194 (.cells [(.bool false),(.slice none 0 0),(.slice none 0 0)] AG false) fun b200 τ201 =>
 om (L b170 0 τ201) fun v202 =>
 AX v202 v188=true∧om (L b181 3 τ201) fun v203 =>
 AX v203 v190=true∧A2 .u64 (AF false 1 v192 τ201) fun n204 =>
 AX (.int .u64 n204) (.int .u64 n193)=true∧pu (AP 3 (.pointer (some ⟨b200,0,none⟩)) v197 τ201) fun τ205 =>
 (CZ E Q n199 b215 n196 b200 n184 n171 b170 n345 b181 n177 τ205)) v198) v195))∧(
 BE τ174 (.cells [(.bool false),(.slice none 0 0),(.slice none 0 0)] AG false) fun b517 τ518 =>
 om (L b170 0 τ518) fun v519 =>
 AX v519 v188=true∧om (L b181 3 τ518) fun v520 =>
 AX v520 v190=true∧A2 .u64 (AF false 1 v192 τ518) fun n521 =>
 AX (.int .u64 n521) (.int .u64 n193)=true∧E EZ [v188,(.int .u64 n193)] τ518 (c3 Q fun v523 v525 v526 τ522 =>
 tI .u64 (fun n524 =>
 tI .i64 (fun n527 =>
 pu (AP 3 (.pointer (some ⟨b517,0,none⟩)) v525 τ522) fun τ528 =>
 (CZ E Q n527 b215 n524 b517 n184 n171 b170 n345 b181 n177 τ528)) v526) v523))))
def FG (E:BP) (Q:RK) (b122 b128:Nat) (n132:Int) (b147:Nat) (τ121:AHeap):Prop :=
 om (L b122 2 τ121) fun v123 =>
 A2 .i64 (BH v123) fun n124 =>
 If (decide (4≤n124)) (
 Q (.ret (.tuple #[])) τ121) (
 om (L b128 1 τ121) fun v131 =>
 Bi (FC (n132 - 1)) fun n135 =>
 om (AE 5 v131 (.int .i64 n135)) fun v136 =>
 om (AA 0 v136) fun v137 =>
 A2 .u64 (AF false 1 v137 τ121) fun n138 =>
 om (AA 1 v136) fun v139 =>
 DF (AF false 1 v139 τ121) fun c140 =>
 om (AA 2 v136) fun v141 =>
 om (AF false 1 v141 τ121) fun v142 =>
 om (AA 3 v136) fun v143 =>
 om (AF false 1 v143 τ121) fun v144 =>
 om (AA 4 v136) fun v145 =>
 A2 .i64 (AF false 1 v145 τ121) fun n146 =>
 pu (AP 5 (.pointer (some ⟨b147,0,none⟩)) (.agg #[(.int .u64 n138),(.bool c140),v142,v144,(.int .i64 n146)]) τ121) fun τ150 =>
 A2 .i64 (L b147 4 τ150) fun n153 =>
 A2 .i64 (L b147 4 τ150) fun n154 =>
 Bi (FC (n154+1)) fun n155 =>
 om (L b147 2 τ150) fun v159 =>
 A2 .i64 (BH v159) fun n160 =>
 If (decide (n155=n160)) (
 Bi (FC (n153 - 1)) fun n165 =>
 (EX E Q b128 n165 n153 b147 b122 n132 τ150)) (
 (EX E Q b128 n153 n155 b147 b122 n132 τ150)))
def FH (E:BP) (Q:RK) (c107:Bool) (b109:Nat) (n111:Int) (b113 b115:Nat) (τ106:AHeap):Prop :=
 If c107 (
 Bi (FC (n111 - 1)) fun n112 =>
 A2 .i64 (L b113 4 τ106) fun n114 =>
 om (L b115 2 τ106) fun v116 =>
 om (AE 1 v116 (.int .i64 0)) fun v117 =>
 A2 .u64 (AF false 1 v117 τ106) fun n118 =>
 A2 .u64 (L b115 0 τ106) fun n119 =>
 E FJ [(.pointer (some ⟨b109,0,none⟩)),(.int .i64 n112),(.int .i64 n114),(.int .u64 n118),(.int .u64 n119)] τ106 (c0 Q fun τ120 =>
 (FG E Q b115 b109 n111 b113 τ120))) (
 (FG E Q b115 b109 n111 b113 τ106))
def HH (E:BP) (Q:RK) (b95 b98 b108:Nat) (n110:Int) (τ94:AHeap):Prop :=
 om (L b95 2 τ94) fun v96 =>
 A2 .i64 (BH v96) fun n97 =>
 If (decide (0<n97)) (
 om (L b98 2 τ94) fun v99 =>
 A2 .i64 (L b98 4 τ94) fun n100 =>
 om (AE 1 v99 (.int .i64 n100)) fun v101 =>
 A2 .u64 (AF false 1 v101 τ94) fun n102 =>
 om (L b95 2 τ94) fun v103 =>
 om (AE 1 v103 (.int .i64 0)) fun v104 =>
 A2 .u64 (AF false 1 v104 τ94) fun n105 =>
 (FH E Q (!decide (n102=n105)) b108 n110 b98 b95 τ94)) (
 (FH E Q false b108 n110 b98 b95 τ94))
def TX (E:BP) (Q:RK) (x0:Nat) (x1:Int) (σ:AHeap):Prop :=
 If (decide (x1=0)) (
 Q (.ret (.tuple #[])) σ) (
 om (L x0 1 σ) fun v6 =>
 om (AE 5 v6 (.int .i64 x1)) fun v9 =>
 om (AA 0 v9) fun v10 =>
 A2 .u64 (AF false 1 v10 σ) fun n11 =>
 om (AA 1 v9) fun v12 =>
 DF (AF false 1 v12 σ) fun c13 =>
 om (AA 2 v9) fun v14 =>
 om (AF false 1 v14 σ) fun v15 =>
 om (AA 3 v9) fun v16 =>
 om (AF false 1 v16 σ) fun v17 =>
 om (AA 4 v9) fun v18 =>
 A2 .i64 (AF false 1 v18 σ) fun n19 =>
 om (L x0 1 σ) fun v20 =>
 Bi (FC (x1 - 1)) fun n21 =>
 om (AE 5 v20 (.int .i64 n21)) fun v22 =>
 om (AA 0 v22) fun v23 =>
 A2 .u64 (AF false 1 v23 σ) fun n24 =>
 om (AA 1 v22) fun v25 =>
 DF (AF false 1 v25 σ) fun c26 =>
 om (AA 2 v22) fun v27 =>
 om (AF false 1 v27 σ) fun v28 =>
 om (AA 3 v22) fun v29 =>
 om (AF false 1 v29 σ) fun v30 =>
 om (AA 4 v22) fun v31 =>
 A2 .i64 (AF false 1 v31 σ) fun n32 =>
 (
 BE σ (.cells [(.int .u64 0),(.bool false),(.slice none 0 0),(.slice none 0 0),(.int .i64 0)] AB false) fun b33 τ34 =>
 om (L x0 1 τ34) fun v35 =>
 AX v35 v6=true∧om (AA 0 v9) fun v36 =>
 A2 .u64 (AF false 1 v36 τ34) fun n37 =>
 om (AA 1 v9) fun v38 =>
 DF (AF false 1 v38 τ34) fun c39 =>
 om (AA 2 v9) fun v40 =>
 om (AF false 1 v40 τ34) fun v41 =>
 om (AA 3 v9) fun v42 =>
 om (AF false 1 v42 τ34) fun v43 =>
 om (AA 4 v9) fun v44 =>
 A2 .i64 (AF false 1 v44 τ34) fun n45 =>
 AX (.agg #[(.int .u64 n37),(.bool c39),v41,v43,(.int .i64 n45)]) (.agg #[(.int .u64 n11),(.bool c13),v15,v17,(.int .i64 n19)])=true∧om (L x0 1 τ34) fun v46 =>
 AX v46 v20=true∧om (AA 0 v22) fun v47 =>
 A2 .u64 (AF false 1 v47 τ34) fun n48 =>
 om (AA 1 v22) fun v49 =>
 DF (AF false 1 v49 τ34) fun c50 =>
 om (AA 2 v22) fun v51 =>
 om (AF false 1 v51 τ34) fun v52 =>
 om (AA 3 v22) fun v53 =>
 om (AF false 1 v53 τ34) fun v54 =>
 om (AA 4 v22) fun v55 =>
 A2 .i64 (AF false 1 v55 τ34) fun n56 =>
 AX (.agg #[(.int .u64 n48),(.bool c50),v52,v54,(.int .i64 n56)]) (.agg #[(.int .u64 n24),(.bool c26),v28,v30,(.int .i64 n32)])=true∧BE τ34 (.cells [(.int .u64 0),(.bool false),(.slice none 0 0),(.slice none 0 0),(.int .i64 0)] AB false) fun b57 τ58 =>
 om (L x0 1 τ58) fun v59 =>
 AX v59 v6=true∧om (AA 0 v9) fun v60 =>
 A2 .u64 (AF false 1 v60 τ58) fun n61 =>
 om (AA 1 v9) fun v62 =>
 DF (AF false 1 v62 τ58) fun c63 =>
 om (AA 2 v9) fun v64 =>
 om (AF false 1 v64 τ58) fun v65 =>
 om (AA 3 v9) fun v66 =>
 om (AF false 1 v66 τ58) fun v67 =>
 om (AA 4 v9) fun v68 =>
 A2 .i64 (AF false 1 v68 τ58) fun n69 =>
 AX (.agg #[(.int .u64 n61),(.bool c63),v65,v67,(.int .i64 n69)]) (.agg #[(.int .u64 n11),(.bool c13),v15,v17,(.int .i64 n19)])=true∧om (L x0 1 τ58) fun v70 =>
 AX v70 v20=true∧om (AA 0 v22) fun v71 =>
 A2 .u64 (AF false 1 v71 τ58) fun n72 =>
 om (AA 1 v22) fun v73 =>
 DF (AF false 1 v73 τ58) fun c74 =>
 om (AA 2 v22) fun v75 =>
 om (AF false 1 v75 τ58) fun v76 =>
 om (AA 3 v22) fun v77 =>
 om (AF false 1 v77 τ58) fun v78 =>
 om (AA 4 v22) fun v79 =>
 A2 .i64 (AF false 1 v79 τ58) fun n80 =>
 AX (.agg #[(.int .u64 n72),(.bool c74),v76,v78,(.int .i64 n80)]) (.agg #[(.int .u64 n24),(.bool c26),v28,v30,(.int .i64 n32)])=true∧pu (AP 5 (.pointer (some ⟨b33,0,none⟩)) (.agg #[(.int .u64 n11),(.bool c13),v15,v17,(.int .i64 n19)]) τ58) fun τ81 =>
 om (L x0 1 τ81) fun v82 =>
 AX v82 v20=true∧om (AA 0 v22) fun v83 =>
 A2 .u64 (AF false 1 v83 τ81) fun n84 =>
 om (AA 1 v22) fun v85 =>
 DF (AF false 1 v85 τ81) fun c86 =>
 om (AA 2 v22) fun v87 =>
 om (AF false 1 v87 τ81) fun v88 =>
 om (AA 3 v22) fun v89 =>
 om (AF false 1 v89 τ81) fun v90 =>
 om (AA 4 v22) fun v91 =>
 A2 .i64 (AF false 1 v91 τ81) fun n92 =>
 AX (.agg #[(.int .u64 n84),(.bool c86),v88,v90,(.int .i64 n92)]) (.agg #[(.int .u64 n24),(.bool c26),v28,v30,(.int .i64 n32)])=true∧pu (AP 5 (.pointer (some ⟨b57,0,none⟩)) (.agg #[(.int .u64 n24),(.bool c26),v28,v30,(.int .i64 n32)]) τ81) fun τ93 =>
 (HH E Q b33 b57 x0 x1 τ93))∧(
 BE σ (.cells [(.int .u64 0),(.bool false),(.slice none 0 0),(.slice none 0 0),(.int .i64 0)] AB false) fun b530 τ531 =>
 om (L x0 1 τ531) fun v532 =>
 AX v532 v6=true∧om (AA 0 v9) fun v533 =>
 A2 .u64 (AF false 1 v533 τ531) fun n534 =>
 om (AA 1 v9) fun v535 =>
 DF (AF false 1 v535 τ531) fun c536 =>
 om (AA 2 v9) fun v537 =>
 om (AF false 1 v537 τ531) fun v538 =>
 om (AA 3 v9) fun v539 =>
 om (AF false 1 v539 τ531) fun v540 =>
 om (AA 4 v9) fun v541 =>
 A2 .i64 (AF false 1 v541 τ531) fun n542 =>
 AX (.agg #[(.int .u64 n534),(.bool c536),v538,v540,(.int .i64 n542)]) (.agg #[(.int .u64 n11),(.bool c13),v15,v17,(.int .i64 n19)])=true∧om (L x0 1 τ531) fun v543 =>
 AX v543 v20=true∧om (AA 0 v22) fun v544 =>
 A2 .u64 (AF false 1 v544 τ531) fun n545 =>
 om (AA 1 v22) fun v546 =>
 DF (AF false 1 v546 τ531) fun c547 =>
 om (AA 2 v22) fun v548 =>
 om (AF false 1 v548 τ531) fun v549 =>
 om (AA 3 v22) fun v550 =>
 om (AF false 1 v550 τ531) fun v551 =>
 om (AA 4 v22) fun v552 =>
 A2 .i64 (AF false 1 v552 τ531) fun n553 =>
 AX (.agg #[(.int .u64 n545),(.bool c547),v549,v551,(.int .i64 n553)]) (.agg #[(.int .u64 n24),(.bool c26),v28,v30,(.int .i64 n32)])=true∧BE τ531 (.cells [(.int .u64 0),(.bool false),(.slice none 0 0),(.slice none 0 0),(.int .i64 0)] AB false) fun b554 τ555 =>
 om (L x0 1 τ555) fun v556 =>
 AX v556 v6=true∧om (AA 0 v9) fun v557 =>
 A2 .u64 (AF false 1 v557 τ555) fun n558 =>
 om (AA 1 v9) fun v559 =>
 DF (AF false 1 v559 τ555) fun c560 =>
 om (AA 2 v9) fun v561 =>
 om (AF false 1 v561 τ555) fun v562 =>
 om (AA 3 v9) fun v563 =>
 om (AF false 1 v563 τ555) fun v564 =>
 om (AA 4 v9) fun v565 =>
 A2 .i64 (AF false 1 v565 τ555) fun n566 =>
 AX (.agg #[(.int .u64 n558),(.bool c560),v562,v564,(.int .i64 n566)]) (.agg #[(.int .u64 n11),(.bool c13),v15,v17,(.int .i64 n19)])=true∧om (L x0 1 τ555) fun v567 =>
 AX v567 v20=true∧om (AA 0 v22) fun v568 =>
 A2 .u64 (AF false 1 v568 τ555) fun n569 =>
 om (AA 1 v22) fun v570 =>
 DF (AF false 1 v570 τ555) fun c571 =>
 om (AA 2 v22) fun v572 =>
 om (AF false 1 v572 τ555) fun v573 =>
 om (AA 3 v22) fun v574 =>
 om (AF false 1 v574 τ555) fun v575 =>
 om (AA 4 v22) fun v576 =>
 A2 .i64 (AF false 1 v576 τ555) fun n577 =>
 AX (.agg #[(.int .u64 n569),(.bool c571),v573,v575,(.int .i64 n577)]) (.agg #[(.int .u64 n24),(.bool c26),v28,v30,(.int .i64 n32)])=true∧pu (AP 5 (.pointer (some ⟨b554,0,none⟩)) (.agg #[(.int .u64 n11),(.bool c13),v15,v17,(.int .i64 n19)]) τ555) fun τ578 =>
 om (L x0 1 τ578) fun v579 =>
 AX v579 v20=true∧om (AA 0 v22) fun v580 =>
 A2 .u64 (AF false 1 v580 τ578) fun n581 =>
 om (AA 1 v22) fun v582 =>
 DF (AF false 1 v582 τ578) fun c583 =>
 om (AA 2 v22) fun v584 =>
 om (AF false 1 v584 τ578) fun v585 =>
 om (AA 3 v22) fun v586 =>
 om (AF false 1 v586 τ578) fun v587 =>
 om (AA 4 v22) fun v588 =>
 A2 .i64 (AF false 1 v588 τ578) fun n589 =>
 AX (.agg #[(.int .u64 n581),(.bool c583),v585,v587,(.int .i64 n589)]) (.agg #[(.int .u64 n24),(.bool c26),v28,v30,(.int .i64 n32)])=true∧pu (AP 5 (.pointer (some ⟨b530,0,none⟩)) (.agg #[(.int .u64 n24),(.bool c26),v28,v30,(.int .i64 n32)]) τ578) fun τ590 =>
 (HH E Q b554 b530 x0 x1 τ590)))
theorem eB {Q:RK} {x0:Nat} {x1:Int} {σ:AHeap} (h:TX E Q x0 x1 σ):E N8 [(.pointer (some ⟨x0,0,none⟩)),(.int .i64 x1)] σ Q :=
 B0 Tryz.func84 (hl [(1,.tree (.step 0 [] (.step 1 [] (.step 2 [] (.step 3 [] (.step 4 [] (.step 5 [] (.step 6 [] (.step 7 [] (.step 8 [] (.step 9 [] (.step 10 [] (.step 11 [] (.step 12 [] (.step 13 [] (.step 14 [] (.alt (.step 15 [3,6,10,14] (.step 16 [3,6,10,14] (.step 17 [10,14] (.step 18 [] .nil)))) (.step 16 [3,6,10,14] (.step 15 [3,6,10,14] (.step 17 [10,14] (.step 18 [] .nil))))))))))))))))))))),(2,.ord (il 0 20)),(4,.ord (il 0 13)),(6,.ord (il 0 7)),(8,.tree (.step 0 [] (.step 1 [] (.step 2 [] (.step 3 [] (.step 4 [] (.step 5 [] (.step 6 [] (.step 7 [] (.step 8 [] (.step 9 [] (.alt (.step 10 [] (.step 11 [] (.step 12 [] (.step 13 [] (.step 14 [] (.step 15 [3,6,9] (.step 16 [] (.step 17 [] (.step 18 [] .nil))))))))) (.step 15 [3,6,9] (.step 10 [] (.step 11 [] (.step 12 [] (.step 13 [] (.step 14 [] (.step 16 [] (.step 17 [] (.step 18 [] .nil))))))))))))))))))))),(9,.tree (.step 0 [] (.step 1 [] (.step 2 [] (.step 3 [] (.step 4 [] (.step 5 [] (.step 6 [] (.step 7 [] (.alt (.step 8 [1,3,6] (.step 9 [1,3,6] (.step 10 [6] (.step 11 [] .nil)))) (.step 9 [1,3,6] (.step 8 [1,3,6] (.step 10 [6] (.step 11 [] .nil)))))))))))))),(12,.ord (il 0 9)),(13,.ord (il 0 16)),(14,.ord (il 0 12++[(13,[]),(12,[]),(14,[]),(15,[])])),(15,.ord (il 0 9)),(16,.ord (il 0 9)),(17,.ord (il 0 12++il 13 7++[(12,[15,17,19]),(20,[]),(21,[])]))]) (fun _=>.v) (by kernel_rfl) (Eq.mpr (by kernel_rfl) h)
def NX (E:BP) (Q:RK) (x0:Nat) (x1:Int) (σ:AHeap):Prop :=
 If (decide (x1<0)) (
 Q (.ret (.int .i64 23)) σ) (
 Q (.ret (.int .i64 0)) σ)
theorem TY {Q:RK} {x0:Nat} {x1:Int} {σ:AHeap} (h:NX E Q x0 x1 σ):E TW [(.pointer (some ⟨x0,0,none⟩)),(.int .i64 x1)] σ Q :=
 B0 Tryz.func139 (fun _=>none) (fun _=>.v) (by kernel_rfl) (Eq.mpr (by kernel_rfl) h)
def IH (E:BP) (Q:RK) (b231 b246 b264 b279:Nat) (τ228:AHeap):Prop :=
 A2 .u64 (L b231 0 τ228) fun n232 =>
 A2 .u64 (L b246 0 τ228) fun n247 =>
 St b231 0 (.int .u64 n232) τ228 fun τ248 =>
 A2 .u64 (L b246 0 τ248) fun n249 =>
 AX (.int .u64 n249) (.int .u64 n247)=true∧St b246 0 (.int .u64 n247) τ248 fun τ250 =>
 St b264 0 (.bool true) τ250 fun τ265 =>
 St b279 0 (.int .i64 0) τ265 fun τ280 =>
 Q (.ret (.tuple #[])) τ280
def ID (E:BP) (Q:RK) (b215 b217 b229 b244 b262 b277:Nat) (τ204:AHeap):Prop :=
 om (L b215 0 τ204) fun v216 =>
 A2 .u64 (L b217 0 τ204) fun n218 =>
 Bi (FC (n218)) fun n219 =>
 E DY [v216,(.int .i64 n219)] τ204 (c2 Q fun v221 v223 τ220 =>
 tB (fun c222 =>
 tI .i64 (fun n224 =>
 E CP [(.int .i64 n224)] τ220 (c0 Q fun τ227 =>
 (IH E Q b229 b244 b262 b277 τ227))) v223) v221)
def DK (E:BP) (Q:RK) (c186:Bool) (b188 b191 b212 b241 b259 b274:Nat) (τ185:AHeap):Prop :=
 If c186 (
 St b188 0 (.int .u64 0) τ185 fun τ189 =>
 om (L b191 2 τ189) fun v193 =>
 A2 .i64 (BH v193) fun n194 =>
 If (decide (n194=1)) (
 om (L b191 3 τ189) fun v198 =>
 om (AE 1 v198 (.int .i64 0)) fun v199 =>
 A2 .u64 (AF false 1 v199 τ189) fun n200 =>
 St b188 0 (.int .u64 n200) τ189 fun τ203 =>
 (ID E Q b212 b191 b188 b241 b259 b274 τ203)) (
 (ID E Q b212 b191 b188 b241 b259 b274 τ189))) (
 (IH E Q b188 b241 b259 b274 τ185))
def RW (E:BP) (Q:RK) (b91:Nat) (n93 n99:Int) (b173 b233 b251 b266:Nat) (τ85:AHeap):Prop :=
 E PZ [(.pointer (some ⟨b91,0,none⟩)),(.int .u64 n93),(.int .u64 n99),(.bool false)] τ85 (cV Q fun v101 τ100 =>
 om (B5 v101) fun v104 =>
 om (AA 1 v104) fun v105 =>
 om (AF false 1 v105 τ100) fun v106 =>
 A2 .i64 (BH v106) fun n107 =>
 Bi (FC (n107 - 1)) fun n108 =>
 om (B5 v101) fun v111 =>
 om (AA 1 v111) fun v112 =>
 om (AF false 1 v112 τ100) fun v113 =>
 om (AE 5 v113 (.int .i64 n108)) fun v115 =>
 om (AA 1 v115) fun v116 =>
 om (AA 0 v116) fun v117 =>
 DF (AF false 1 v117 τ100) fun c118 =>
 om (AA 1 v116) fun v119 =>
 om (AF false 1 v119 τ100) fun v120 =>
 om (AA 2 v116) fun v121 =>
 om (AF false 1 v121 τ100) fun v122 =>
 E NK [(.agg #[(.bool c118),v120,v122]),(.int .u64 n99)] τ100 (c2 Q fun v126 v128 τ125 =>
 tI .i64 (fun n127 =>
 tB (fun c129 =>
 om (B5 v101) fun v133 =>
 om (AA 1 v133) fun v134 =>
 om (AF false 1 v134 τ125) fun v135 =>
 om (AE 5 v135 (.int .i64 n108)) fun v136 =>
 om (AA 1 v136) fun v137 =>
 om (AA 0 v137) fun v138 =>
 DF (AF false 1 v138 τ125) fun c139 =>
 om (AA 1 v137) fun v140 =>
 om (AF false 1 v140 τ125) fun v141 =>
 om (AA 2 v137) fun v142 =>
 om (AF false 1 v142 τ125) fun v143 =>
 E MX [(.agg #[(.bool c139),v141,v143]),(.int .i64 n127)] τ125 (cV Q fun v146 τ145 =>
 E CW [v101,(.int .i64 n108),v146] τ145 (c0 Q fun τ147 =>
 E MZ [v101,(.func (.func N8) #[v101] #[])] τ147 (c0 Q fun τ150 =>
 om (B5 v101) fun v153 =>
 om (AA 1 v153) fun v154 =>
 om (AF false 1 v154 τ150) fun v155 =>
 om (AE 5 v155 (.int .i64 0)) fun v156 =>
 om (AA 0 v156) fun v157 =>
 A2 .u64 (AF false 1 v157 τ150) fun n158 =>
 om (AA 1 v156) fun v159 =>
 DF (AF false 1 v159 τ150) fun c160 =>
 om (AA 2 v156) fun v161 =>
 om (AF false 1 v161 τ150) fun v162 =>
 om (AA 3 v156) fun v163 =>
 om (AF false 1 v163 τ150) fun v164 =>
 om (AA 4 v156) fun v165 =>
 A2 .i64 (AF false 1 v165 τ150) fun n166 =>
 BE τ150 (.cells [(.int .u64 0),(.bool false),(.slice none 0 0),(.slice none 0 0),(.int .i64 0)] AB false) fun b167 τ168 =>
 pu (AP 5 (.pointer (some ⟨b167,0,none⟩)) (.agg #[(.int .u64 n158),(.bool c160),v162,v164,(.int .i64 n166)]) τ168) fun τ169 =>
 A2 .u64 (L b167 0 τ169) fun n172 =>
 St b173 0 (.int .u64 n172) τ169 fun τ180 =>
 om (L b167 2 τ180) fun v183 =>
 A2 .i64 (BH v183) fun n184 =>
 If (decide (n184=0)) (
 isSkip C7=true∧(DK E Q true b173 b167 b91 b233 b251 b266 τ180)) (
 DF (L b167 1 τ180) fun c281 =>
 If (!c281) (
 om (L b167 2 τ180) fun v282 =>
 A2 .i64 (BH v282) fun n283 =>
 (DK E Q (decide (n283=1)) b173 b167 b91 b233 b251 b266 τ180)) (
 (DK E Q false b173 b167 b91 b233 b251 b266 τ180))))))) v128) v126))
def XF (E:BP) (Q:RK) (x0:Nat) (x1 x2:Int) (σ:AHeap):Prop :=
 BE σ (.cells [(.int .u64 0)] AJ false) fun b1 τ2 =>
 BE τ2 (.cells [(.int .u64 0)] AJ false) fun b3 τ4 =>
 BE τ4 (.cells [(.bool false)] CQ false) fun b5 τ6 =>
 BE τ6 (.cells [(.int .i64 0)] U1 false) fun b7 τ8 =>
 E H3 [(.pointer (some ⟨x0,0,none⟩)),(.int .u64 x1),(.int .u64 x2)] τ8 (c3 Q fun v14 v16 v18 τ13 =>
 tI .u64 (fun n15 =>
 tB (fun c17 =>
 tI .i64 (fun n19 =>
 St b3 0 (.int .u64 n15) τ13 fun τ21 =>
 St b5 0 (.bool c17) τ21 fun τ23 =>
 St b7 0 (.int .i64 n19) τ23 fun τ25 =>
 A2 .i64 (L b7 0 τ25) fun n28 =>
 If (!decide (n28=0)) (
 A2 .i64 (L b7 0 τ25) fun n32 =>
 St b1 0 (.int .u64 0) τ25 fun τ36 =>
 A2 .i64 (L b7 0 τ36) fun n37 =>
 AX (.int .i64 n37) (.int .i64 n32)=true∧St b3 0 (.int .u64 0) τ36 fun τ40 =>
 A2 .i64 (L b7 0 τ40) fun n41 =>
 AX (.int .i64 n41) (.int .i64 n32)=true∧St b5 0 (.bool false) τ40 fun τ44 =>
 A2 .i64 (L b7 0 τ44) fun n45 =>
 AX (.int .i64 n45) (.int .i64 n32)=true∧St b7 0 (.int .i64 n32) τ44 fun τ46 =>
 pu (AF false 1 (.pointer (some ⟨b1,0,none⟩)) τ46) fun v47 =>
 pu (AF false 1 (.pointer (some ⟨b3,0,none⟩)) τ46) fun v48 =>
 pu (AF false 1 (.pointer (some ⟨b5,0,none⟩)) τ46) fun v49 =>
 pu (AF false 1 (.pointer (some ⟨b7,0,none⟩)) τ46) fun v50 =>
 Q (.ret (.tuple #[v47,v48,v49,v50])) τ46) (
 DF (L b5 0 τ25) fun c53 =>
 If (!c53) (
 St b1 0 (.int .u64 x1) τ25 fun τ62 =>
 St b3 0 (.int .u64 0) τ62 fun τ65 =>
 St b5 0 (.bool false) τ65 fun τ67 =>
 St b7 0 (.int .i64 0) τ67 fun τ70 =>
 pu (AF false 1 (.pointer (some ⟨b1,0,none⟩)) τ70) fun v71 =>
 pu (AF false 1 (.pointer (some ⟨b3,0,none⟩)) τ70) fun v72 =>
 pu (AF false 1 (.pointer (some ⟨b5,0,none⟩)) τ70) fun v73 =>
 pu (AF false 1 (.pointer (some ⟨b7,0,none⟩)) τ70) fun v74 =>
 Q (.ret (.tuple #[v71,v72,v73,v74])) τ70) (
 (RW E (qd P DD [(.pointer (some ⟨b1,0,none⟩)),(.pointer (some ⟨b3,0,none⟩)),(.pointer (some ⟨b5,0,none⟩)),(.pointer (some ⟨b7,0,none⟩))] fun τ80 =>
 pu (AF false 1 (.pointer (some ⟨b1,0,none⟩)) τ80) fun v81 =>
 pu (AF false 1 (.pointer (some ⟨b3,0,none⟩)) τ80) fun v82 =>
 pu (AF false 1 (.pointer (some ⟨b5,0,none⟩)) τ80) fun v83 =>
 pu (AF false 1 (.pointer (some ⟨b7,0,none⟩)) τ80) fun v84 =>
 Q (.ret (.tuple #[v81,v82,v83,v84])) τ80) x0 x1 x2 b1 b3 b5 b7 τ25)))) v18) v16) v14)
theorem j5 {Q:RK} {x0:Nat} {x1 x2:Int} {σ:AHeap} (h:XF E Q x0 x1 x2 σ):E Q6 [(.pointer (some ⟨x0,0,none⟩)),(.int .u64 x1),(.int .u64 x2)] σ Q :=
 ADJ Tryz.func27 (hl [(1,.ord ([(0,[]),(1,[0]),(2,[0]),(3,[0]),(4,[])])),(5,.ord (il 0 13)),(6,.ord ([(0,[]),(1,[]),(2,[1]),(3,[]),(4,[]),(5,[])]))]) (fun _=>.v) (by kernel_rfl) (Eq.mpr (by kernel_rfl) h)
def JB (E:BP) (Q:RK) (x0 x1 x2 x3:Nat) (rv:Option Value) (σ:AHeap):Prop :=
 E NO [(rv.getD .nilIface)] σ (cI Q .i64 fun n2 τ1 =>
 If (!decide (n2=0)) (
 St x0 0 (.int .u64 0) τ1 fun τ7 =>
 St x1 0 (.int .u64 0) τ7 fun τ9 =>
 St x2 0 (.bool false) τ9 fun τ11 =>
 St x3 0 (.int .i64 n2) τ11 fun τ13 =>
 Q (.ret (.tuple #[])) τ13) (
 Q (.ret (.tuple #[])) τ1))
theorem cE (E:BP) (K:AHeap→Prop) (x0 x1 x2 x3:Nat) (rv:Option Value) (σ:AHeap):AAK P E Tryz.f82 (fun _=>none) (fun _=>.v) [(.pointer (some ⟨x0,0,none⟩)),(.pointer (some ⟨x1,0,none⟩)),(.pointer (some ⟨x2,0,none⟩)),(.pointer (some ⟨x3,0,none⟩))] rv σ K=JB E (kq K) x0 x1 x2 x3 rv σ:=by kernel_rfl
theorem RF {K:AHeap→Prop} {x0 x1 x2 x3:Nat} {rv:Option Value} {σ:AHeap} (h:JB E (kq K) x0 x1 x2 x3 rv σ):Dv P DD [(.pointer (some ⟨x0,0,none⟩)),(.pointer (some ⟨x1,0,none⟩)),(.pointer (some ⟨x2,0,none⟩)),(.pointer (some ⟨x3,0,none⟩))] rv σ K :=
 ADT Tryz.func82 _ _ (by kernel_rfl) (Eq.mpr (cE E K x0 x1 x2 x3 rv σ) h)
def MN (E:BP) (Q:RK) (c59:Bool) (v62 v65:Value) (τ58:AHeap):Prop :=
 If c59 (
 Q (.ret (.pointer none)) τ58) (
 On v62 (
 On v65 (
 BE τ58 (.cells [v62,v65] AM false) fun b67 τ68 =>
 Q (.ret (.pointer (some ⟨b67,0,none⟩))) τ68)))
def NY (E:BP) (Q:RK) (c28:Bool) (v34:Value) (n41:Int) (v49:Value) (τ27:AHeap):Prop :=
 If c28 (
 Q (.ret (.pointer none)) τ27) (
 E QH [v34,(.int .i64 n41)] τ27 (c2 Q fun v44 v45 τ43 =>
 tI .i64 (fun n46 =>
 E gV [v49,v44] τ43 (cV Q fun v54 τ53 =>
 If (!decide (n46=0)) (
 (MN E Q true v49 v54 τ53)) (
 DF (BF (some (.pointer EE)) .eql v54 (.pointer none)) fun c69 =>
 (MN E Q c69 v49 v54 τ53)))) v45))
def aF (E:BP) (Q:RK) (x0 x1:Int) (σ:AHeap):Prop :=
 E TI [(.int .i64 x0)] σ (c2 Q fun v4 v5 τ3 =>
 tI .i64 (fun n6 =>
 pu (PC AL 1 [(.int .u8 0)] (.int .i64 x0) (.int .i64 x0) τ3) fun r9 =>
 om (AE 1 r9.1 (.int .i64 0)) fun v12 =>
 pu (AP 1 v12 (.int .u8 1) r9.2) fun τ13 =>
 om (AE 1 r9.1 (.int .i64 1)) fun v14 =>
 pu (AP 1 v14 (.int .u8 1) τ13) fun τ15 =>
 E X9 [r9.1] τ15 (c2 Q fun v19 v20 τ18 =>
 tI .i64 (fun n21 =>
 If (!decide (n6=0)) (
 (NY E Q true v4 x1 v19 τ18)) (
 (NY E Q (!decide (n21=0)) v4 x1 v19 τ18))) v20)) v5)
theorem nD {Q:RK} {x0 x1:Int} {σ:AHeap} (h:aF E Q x0 x1 σ):E OK [(.int .i64 x0),(.int .i64 x1)] σ Q :=
 B0 Tryz.func15 (fun _=>none) (fun _=>.v) (by kernel_rfl) (Eq.mpr (by kernel_rfl) h)
def D7 (E:BP) (Q:RK) (c27:Bool) (v30:Value) (n36:Int) (τ26:AHeap):Prop :=
 If c27 (
 Q (.ret (.bool false)) τ26) (
 om (B5 v30) fun v32 =>
 om (AA 1 v32) fun v33 =>
 om (AF false 1 v33 τ26) fun v34 =>
 E JS [v34,(.int .u64 n36),(.int .u64 5),(.int .u64 1)] τ26 (c4 Q fun v39 v41 v43 v45 τ38 =>
 tI .u64 (fun n40 =>
 tI .u64 (fun n42 =>
 tB (fun c44 =>
 tI .i64 (fun n46 =>
 om (B5 v30) fun v49 =>
 om (AA 1 v49) fun v50 =>
 om (AF false 1 v50 τ38) fun v51 =>
 E H3 [v51,(.int .u64 n36),(.int .u64 5)] τ38 (c3 Q fun v54 v56 v58 τ53 =>
 tI .u64 (fun n55 =>
 tB (fun c57 =>
 tI .i64 (fun n59 =>
 om (B5 v30) fun v62 =>
 om (AA 1 v62) fun v63 =>
 om (AF false 1 v63 τ53) fun v64 =>
 E H3 [v64,(.int .u64 n40),(.int .u64 6)] τ53 (c3 Q fun v68 v70 v72 τ67 =>
 tI .u64 (fun n69 =>
 tB (fun c71 =>
 tI .i64 (fun n73 =>
 If (decide (n46=0)) (
 If c44 (
 If (decide (n42=1)) (
 If (!decide (n40=n36)) (
 If (decide (n59=0)) (
 If (decide (n55=1)) (
 If c57 (
 If (decide (n73=0)) (
 Q (.ret (.bool (!c71))) τ67) (
 Q (.ret (.bool false)) τ67)) (
 Q (.ret (.bool false)) τ67)) (
 Q (.ret (.bool false)) τ67)) (
 Q (.ret (.bool false)) τ67)) (
 Q (.ret (.bool false)) τ67)) (
 Q (.ret (.bool false)) τ67)) (
 Q (.ret (.bool false)) τ67)) (
 Q (.ret (.bool false)) τ67)) v72) v70) v68)) v58) v56) v54)) v45) v43) v41) v39))
def XN (E:BP) (Q:RK) (σ:AHeap):Prop :=
 E OK [(.int .i64 40),(.int .i64 4)] σ (cV Q fun v3 τ2 =>
 DF (BF (some (.pointer AM)) .eql v3 (.pointer none)) fun c6 =>
 If c6 (
 Q (.ret (.bool false)) τ2) (
 om (B5 v3) fun v12 =>
 om (AA 1 v12) fun v13 =>
 om (AF false 1 v13 τ2) fun v14 =>
 E JS [v14,(.int .u64 0),(.int .u64 5),(.int .u64 1)] τ2 (c4 Q fun v16 v18 v20 v22 τ15 =>
 tI .u64 (fun n17 =>
 tI .u64 (fun n19 =>
 tB (fun c21 =>
 tI .i64 (fun n23 =>
 If (!decide (n23=0)) (
 (D7 E Q true v3 n17 τ15)) (
 If c21 (
 (D7 E Q true v3 n17 τ15)) (
 If (!decide (n19=0)) (
 (D7 E Q true v3 n17 τ15)) (
 If (decide (n17=0)) (
 (D7 E Q true v3 n17 τ15)) (
 om (B5 v3) fun v97 =>
 om (AA 0 v97) fun v98 =>
 om (AF false 1 v98 τ15) fun v99 =>
 Bi (FC (n17)) fun n100 =>
 E EU [v99,(.int .i64 n100)] τ15 (cI Q .i64 fun n102 τ101 =>
 If (!decide (n102=0)) (
 (D7 E Q true v3 n17 τ101)) (
 om (B5 v3) fun v103 =>
 om (AA 0 v103) fun v104 =>
 om (AF false 1 v104 τ101) fun v105 =>
 E EU [v105,(.int .i64 1)] τ101 (cI Q .i64 fun n107 τ106 =>
 (D7 E Q (!decide (n107=0)) v3 n17 τ106))))))))) v22) v20) v18) v16)))
theorem j3 {Q:RK} {σ:AHeap} (h:XN E Q σ):E QZ [] σ Q :=
 B0 Tryz.func14 (fun _=>none) (fun _=>.v) (by kernel_rfl) (Eq.mpr (by kernel_rfl) h)
end Go.Ax.C
set_option maxRecDepth 100000
namespace Go.Ax.C
open Go.Proofs Go.RowKit
open O (CacheA Disk It DPlain)
variable {l r r2 m:List AK} {σ:AHeap} {Q:RK}
theorem rX {v dv:Value} {K n a:Nat} {C:O.CM} {D:DM} {Q:WK} (h:H (CacheA v dv K C::Disk dv D::l) σ) (hD:DPlain D n) (ha:n≤a) (hQ:Q (.int .i64 6) σ):O.E EW [v,.int .i64 a] σ Q:=by
 have h':=ABa.1 h
 obtain ⟨cb,mb,now,rowv,R,M,rfl,hc,hM,hnow,h1⟩:=O.LW h'
 have h1:=O.OQ.1 h1
 obtain ⟨db,hdb⟩:=O.gY h1 4 rfl
 have hlen:=hD.ok.len
 have hn2:=hD.ok.hi
 apply O.LJ; unfold O.GU
 have c0:=BO (n:=1) (o:=0) (h1.row 0 rfl)
 simp [c0]
 rw [hdb]
 simp
 unfold O.DL
 simp [c0]
 refine O.AAO h1 4 rfl ?_
 rw [hD.off]
 have hna:¬ (a:Int)<0:=by omega
 simp [hna,c0]
 refine O.WJ h1 4 rfl (by omega) ?_
 have:D.last.length / 256=n:=by omega
 rw [this]
 unfold O.DU
 simpa [ha] using hQ
theorem yP {v dv w:Value} {K n a:Nat} {C:O.CM} {D:DM} (h:H l σ) [k1:sA l v (CacheA v dv K C) r] [k2:sA r dv (Disk dv D) r2] (hD:DPlain D n) (ha:n≤a) (hQ:Q (.ret (.int .i64 6)) σ):E ER [v,.int .i64 a,w] σ Q:=by
 have h1:=(h.atv v).perm (k2.perm.cons _)
 refine O.up ?_
 apply O.IP; unfold O.F1
 refine rX h1 hD ha ?_
 simp
 exact hQ
theorem dW {b:Nat} {q:Bool} {c:List Value} {e:TypeId} {lf:Bool} {x y:Value} {K:Value→AHeap→Prop} (h:H l σ) [f:AtB l b (pt b (.cells c e q)) r] (hc:c.length=3) (hx:one x=true) (hy:one y=true) (hK:∀ σ',H r σ'→K (.agg #[.bool lf,x,y]) σ') :
 pu (AP 3 (.pointer (some ⟨b,0,none⟩)) (.agg #[.bool lf,x,y]) σ) fun τ=>pu (AF true 3 (.pointer (some ⟨b,0,none⟩)) τ) fun v=>K v τ :=
 AB4 (h.atb b) hc hx hy hK
inductive Bk where
 | raw (x:List UInt8)
 | nd (n:Nd)
structure TS where
 now:List Nat
 was:List Nat
 g:Nat→Bk
def Nd.fits (n:Nd):Prop:=1≤n.keys.length∧n.keys.length≤8
def rG (a:Nat) (b:Bk) (x:List UInt8):Prop :=
 match b with
 | .raw y=>x=y
 | .nd n=>n.fits→n.May∧n.small∧x=KC n.form a 1
structure AF2 (T:TS) (K:Nat) (C:O.CM) (D:DM) (M:Nat):Prop where
 inv:iZ C D T.now.length
 fly:D.fly.length≤4*M
 k:K≤2*M
 bk:∀ a<T.now.length,rG a (T.g a) (DA C D a)
abbrev StL (sb rb cb:Nat) (dv:Value) (K:Nat) (C:O.CM) (D:DM) (T:TS) (l:List AK):List AK :=
 pt sb (.cells [.pointer (some ⟨rb,0,none⟩),.pointer (some ⟨cb,0,none⟩)] EE false)::YC rb T.now T.was::CacheA (.pointer (some ⟨cb,0,none⟩)) dv K C::Disk dv D::l
def A3 (sb rb:Nat) (T:TS) (M:Nat):AK:=ex fun p:(Nat×Value×Nat)×O.CM×DM=>sep (HZ (AF2 T p.1.2.2 p.2.1 p.2.2 M)) (AY (StL sb rb p.1.1 p.1.2.1 p.1.2.2 p.2.1 p.2.2 T []))
theorem PV {sb rb:Nat} {T:TS} {M:Nat}:H (A3 sb rb T M::l) σ↔∃ cb dv K C D,AF2 T K C D M∧H (StL sb rb cb dv K C D T l) σ:=by
 unfold A3
 rw [JM]
 constructor
 ·rintro ⟨⟨⟨a,b,c⟩,d,e⟩,h⟩
  rw [BB,BK,A8] at h
  exact ⟨a,b,c,d,e,h.1,h.2⟩
 ·rintro ⟨a,b,c,d,e,h1,h2⟩
  refine ⟨⟨⟨a,b,c⟩,d,e⟩,?_⟩
  rw [BB,BK,A8]
  exact ⟨h1,h2⟩
theorem B8 {sb rb:Nat} {T:TS} {M N:Nat} (hM:M≤N) (h:H (A3 sb rb T M::l) σ):H (A3 sb rb T N::l) σ:=by
 obtain ⟨cb,dv,K,C,D,h1,h2⟩:=PV.1 h
 exact PV.2 ⟨cb,dv,K,C,D,⟨h1.inv,by have:=h1.fly; omega,by have:=h1.k; omega,h1.bk⟩,h2⟩
theorem jB {sb rb:Nat} {T:TS} {M:Nat} {a:Int} (h:H (A3 sb rb T M::l) σ) (hQ:Q (.ret (.int .i64 (if 2147483647<a then 1 else 0))) σ):E DB [.pointer (some ⟨sb,0,none⟩),.int .u64 a] σ Q:=by
 obtain ⟨cb,dv,K,C,D,h1,h2⟩:=PV.1 h
 apply YH; unfold PM
 rw [LV h2,UY,BR]
 refine B7 rfl ?_
 rw [LV h2,UY,BR]
 unfold H7
 refine B7 rfl ?_
 refine AS (fun g=>?_) fun g=>?_
 ·rw [if_pos g] at hQ; exact hQ
 ·rw [if_neg g] at hQ; exact hQ
theorem ADg {sb rb a:Nat} {T:TS} {M:Nat} (h:H (A3 sb rb T M::l) σ) (hM:M≤100000000000) (ha:a<T.now.length)
 (hno:∀ (x:List UInt8) (e:Int) σ',rG a (T.g a) x→x.length=256→e≠0→(RO x a 1=0→ABR (x.take 240))→(RO x a 1≠0→e=RO x a 1)→H (A3 sb rb T (M+1)::l) σ'→Q (.ret (.tuple #[cD,.int .i64 e])) σ')
 (hyes:∀ (x:List UInt8) (n:Nd) kv vv σ',rG a (T.g a) x→n.May→n.small→RO x a 1=0→x.take 240=DI n.form→H (AQ kv n.keys::AQ vv n.vals::A3 sb rb T (M+1)::l) σ'→Q (.ret (.tuple #[.agg #[.bool n.leaf,kv,vv],.int .i64 0])) σ') :
 E EP [.pointer (some ⟨sb,0,none⟩),.int .u64 a] σ Q:=by
 apply ZP; unfold P7
 refine nw h ?_
 intro b1 σ1 h1
 have hN:=(AAc (PV.1 h).choose_spec.choose_spec.choose_spec.choose_spec.choose_spec.2.tail).hi
 refine jB (h1.perm (.swap _ _ _)) ?_
 rw [if_neg (by omega),A9]
 refine CA (fun g=>absurd rfl g) fun _=>?_
 obtain ⟨cb,dv,K,C,D,hok,h2⟩:=PV.1 (h1.perm (.swap _ _ _))
 rw [LV h2]
 refine E1 (a:Int) (by omega) ?_
 have hf:=hok.fly
 have hk:=hok.k
 refine AG5 h2 hok.inv ha (by omega) (by omega) ?_
 intro w σ2 C' D' hI' hn' hc' hf' _ _ h3
 have hbk:rG a (T.g a) (DA C D a):=hok.bk a ha
 have hxl:(DA C D a).length=256:=oW hok.inv ha
 have hst:∀ {m:List AK} {τ:AHeap},H (CacheA (.pointer (some ⟨cb,0,none⟩)) dv (K+2) C'::Disk dv D'::pt sb (.cells [.pointer (some ⟨rb,0,none⟩),.pointer (some ⟨cb,0,none⟩)] EE false)::YC rb T.now T.was::m) τ→H (A3 sb rb T (M+1)::m) τ:=by
  intro m τ ht
  refine PV.2 ⟨cb,dv,K+2,C',D',⟨hI',by omega,by omega,fun x hx=>by rw [hc' x hx]; exact hok.bk x hx⟩,ht.re⟩
 rw [BS,AT]
 refine CA (fun g=>absurd rfl g) fun _=>?_
 refine E1 (a:Int) (by omega) ?_
 have h3:H (AU AL 1 w 256 (bv (DA C D a))::CacheA (.pointer (some ⟨cb,0,none⟩)) dv (K+2) C'::Disk dv D'::pt sb (.cells [.pointer (some ⟨rb,0,none⟩),.pointer (some ⟨cb,0,none⟩)] EE false)::YC rb T.now T.was::pt b1 (.cells [.bool false,.slice none 0 0,.slice none 0 0] AG false)::l) σ2:=h3.re
 refine AFa (kind:=1) h3 (fun τ ht=>WB ht) hxl (by omega) (by omega) ?_ ?_
 ·intro ho σ3 h4
  rw [BS,AT]
  refine CA (fun _=>?_) fun g=>absurd g (by omega)
  refine dW (K:=fun v τ=>Q (.ret (.tuple #[v,.int .i64 (RO (DA C D a) a 1:Nat)])) τ) h4 rfl rfl rfl ?_
  intro σ4 h5
  exact hno (DA C D a) (RO (DA C D a) a 1:Nat) σ4 hbk hxl (by omega) (fun e=>absurd e ho) (fun _=>rfl) (hst h5.tail)
 ·intro ho w2 σ3 h4
  rw [BS,AT]
  refine CA (fun g=>absurd rfl g) fun _=>?_
  refine AFu h4 (fun τ ht=>WB ht) (by simp; omega) ?_ ?_
  ·intro e he hnf σ4 h5
   rw [BS,AT]
   refine dW (K:=fun v τ=>Q (.ret (.tuple #[v,.int .i64 e])) τ) h5 rfl rfl rfl ?_
   intro σ5 h6
   exact hno _ e σ5 hbk hxl he (fun _=>hnf) (fun g=>absurd ho g) (hst h6.tail.tail)
  ·intro n kv vv σ4 hm hs hx h5
   rw [BS,AT]
   obtain ⟨a1,c1,hkv⟩:=AW h5
   obtain ⟨a2,c2,hvv⟩:=AW h5.tail
   refine dW (K:=fun v τ=>Q (.ret (.tuple #[v,.int .i64 0])) τ) h5 rfl (by rw [hkv]; rfl) (by rw [hvv]; rfl) ?_
   intro σ5 h6
   refine hyes _ n kv vv σ5 hbk hm hs ho hx ?_
   have h7:H (CacheA (.pointer (some ⟨cb,0,none⟩)) dv (K+2) C'::Disk dv D'::pt sb (.cells [.pointer (some ⟨rb,0,none⟩),.pointer (some ⟨cb,0,none⟩)] EE false)::YC rb T.now T.was::AQ kv n.keys::AQ vv n.vals::l) σ5:=h6.re
   exact (hst h7).re
theorem AAr {sb rb a:Nat} {T:TS} {M:Nat} {n:Nd} (h:H (A3 sb rb T M::l) σ) (hM:M≤100000000000) (ha:a<T.now.length) (hg:T.g a=.nd n) (hf:n.fits)
 (hQ:∀ kv vv σ',n.May→n.small→H (AQ kv n.keys::AQ vv n.vals::A3 sb rb T (M+1)::l) σ'→Q (.ret (.tuple #[.agg #[.bool n.leaf,kv,vv],.int .i64 0])) σ') :
 E EP [.pointer (some ⟨sb,0,none⟩),.int .u64 a] σ Q:=by
 have hN:=(AAc (PV.1 h).choose_spec.choose_spec.choose_spec.choose_spec.choose_spec.2.tail).hi
 have key:∀ x,rG a (T.g a) x→n.May∧n.small∧RO x a 1=0∧x.take 240=DI n.form:=by
  intro x hx
  rw [hg] at hx
  obtain ⟨h1,h2,rfl⟩:=hx hf
  have hl:=i7 n h1.1.2.2
  have:=h1.1.2.1
  obtain ⟨e1,e2⟩:=xZ (p:=n.form) (a:=a) (kind:=1) (by omega) (by omega) (by omega)
  exact ⟨h1,h2,e1,e2⟩
 refine ADg h hM ha ?_ ?_
 ·intro x e σ' hx _ _ hnf _ _
  obtain ⟨h1,h2,h3,h4⟩:=key x hx
  exact absurd h4 (hnf h3 n h1 h2)
 ·intro x p kv vv σ' hx hm hs _ he h1
  obtain ⟨h2,h3,_,h5⟩:=key x hx
  have:=ABM hm h2 hs h3 (he.symm.trans h5)
  subst this
  exact hQ kv vv σ' hm hs h1
end Go.Ax.C
set_option maxRecDepth 100000
namespace Go.Ax.C
open Go.Proofs Go.RowKit
open O (CacheA Disk It DPlain)
variable {l r r2 m:List AK} {σ:AHeap} {Q:RK}
inductive R (α:Type) where
 | ok (a:α) (T:TS)
 | err (e:Nat) (T:TS)
 | stuck
def R.bind {α β:Type} (r:R α) (k:α→TS→R β):R β :=
 match r with
 | .ok a T=>k a T
 | .err e T=>.err e T
 | .stuck=>.stuck
@[simp] theorem R.bind_ok {α β:Type} (a:α) (T:TS) (k:α→TS→R β):(R.ok a T).bind k=k a T:=rfl
@[simp] theorem R.bind_err {α β:Type} (e:Nat) (T:TS) (k:α→TS→R β):(R.err e T:R α).bind k=.err e T:=rfl
@[simp] theorem R.bind_stuck {α β:Type} (k:α→TS→R β):(R.stuck:R α).bind k=.stuck:=rfl
instance (n:Nd):Decidable n.fits:=by unfold Nd.fits; exact inferInstance
def TS.put (T:TS) (a:Nat) (n:Nd):TS:={ T with g:=fun x=>if x=a then .nd n else T.g x }
def TS.node (T:TS) (a:Nat):Option Nd :=
 match T.g a with
 | .nd n=>if n.fits then some n else none
 | .raw _=>none
def XL (now was:List Nat):Option Nat:=(UA now was).findIdx? id
def TS.alloc (T:TS):R Nat :=
 match XL T.now T.was with
 | none=>.err 8 T
 | some a=>.ok a { T with now:=T.now.set a 1 }
def TS.inc (T:TS) (a:Nat):R Unit :=
 match T.now[a]? with
 | none=>.stuck
 | some x=>if x=0 then .err 6 T else if x=255 then .err 8 T else .ok () { T with now:=T.now.set a (x+1) }
def TS.dec (T:TS) (a:Nat):R Bool :=
 match T.now[a]? with
 | none=>.stuck
 | some x=>if x=0 then .err 6 T else .ok (decide (x=1)) { T with now:=T.now.set a (x - 1) }
def incs:List Nat→TS→R Unit
 | [],T=>.ok () T
 | v::vs,T=>(T.inc v).bind fun _ T=>incs vs T
def TS.make (T:TS) (n:Nd):R Nat:=if n.May then T.alloc.bind fun a T=>.ok a (T.put a n) else .err 1 T
def TS.shadow (T:TS) (a:Nat):R (Nat×Nd) :=
 match T.node a,T.now[a]?,T.was[a]? with
 | some n,some x,some y =>
   if x=1∧y=0 then .ok (a,n) T
   else if x=0 then .stuck
   else T.alloc.bind fun CB T=>(if 1<x then incs n.vals T else .ok () T).bind fun _ T=>(T.dec a).bind fun _ T=>.ok (CB,n) (T.put CB n)
 | _,_,_=>.stuck
theorem lC {T:TS} {a:Nat} {n:Nd} (h:T.node a=some n):T.g a=.nd n∧n.fits:=by
 unfold TS.node at h
 split at h
 ·rename_i p hp
  split at h
  ·rename_i hf; cases h; exact ⟨hp,hf⟩
  ·cases h
 ·cases h
theorem sJ {now was:List Nat} (h:∀ a:Nat,(UA now was)[a]?≠some true):XL now was=none:=by
 unfold XL
 rw [List.findIdx?_eq_none_iff]
 intro x hx
 obtain ⟨i,hi,rfl⟩:=List.getElem_of_mem hx
 have:=h i
 rw [List.getElem?_eq_getElem hi] at this
 simpa using this
theorem uE {now was:List Nat} {a:Nat} (ha:(UA now was)[a]?=some true) (h:∀ b<a,(UA now was)[b]?≠some true):XL now was=some a:=by
 unfold XL
 rw [List.findIdx?_eq_some_iff_getElem]
 obtain ⟨hl,he⟩:=List.getElem?_eq_some_iff.1 ha
 refine ⟨hl,he,fun j hj=>?_⟩
 have:=h j hj
 rw [List.getElem?_eq_getElem (by omega)] at this
 simpa using this
theorem kY {sb rb:Nat} {T:TS} {M:Nat} (h:H (A3 sb rb T M::l) σ):oO T.now T.was:=by
 obtain ⟨_,_,_,_,_,_,h2⟩:=PV.1 h
 exact AAc h2.tail
theorem ADj {T:TS} {a x:Nat} {n:Nd} {c:Nat→List UInt8} (h:rG x (T.g x) (c x)) (hn:n.May→n.fits→n.small) (hm:n.fits→n.May):rG x ((T.put a n).g x) (if x=a then KC n.form a 1 else c x):=by
 unfold TS.put
 simp only
 by_cases e:x=a
 ·subst e
  rw [if_pos rfl,if_pos rfl]
  intro hf
  exact ⟨hm hf,hn (hm hf) hf,rfl⟩
 ·rw [if_neg e,if_neg e]; exact h
theorem w9 {sb rb a:Nat} {T:TS} {M:Nat} {n:Nd} {kv vv:Value} (h:H (A3 sb rb T M::l) σ) (hM:M≤100000000000) (hn:MV l kv vv n) (hs:n.small) (hk9:n.keys.length<9223372036854775808) (hv9:n.vals.length<9223372036854775808)
 (hno:2147483647<a∨¬ n.May→∀ σ',H (A3 sb rb T M::l) σ'→Q (.ret (.int .i64 1)) σ')
 (hnone:a≤2147483647→n.May→T.now.length≤a→∀ σ',H (A3 sb rb T M::l) σ'→Q (.ret (.int .i64 6)) σ')
 (hyes:n.May→a<T.now.length→∀ σ',H (A3 sb rb (T.put a n) (M+1)::l) σ'→Q (.ret (.int .i64 0)) σ') :
 E CH [.pointer (some ⟨sb,0,none⟩),.int .u64 a,.agg #[.bool n.leaf,kv,vv]] σ Q:=by
 apply ZH; unfold QN
 refine nw h ?_
 intro b1 σ1 h1
 refine jB (h1.perm (.swap _ _ _)) ?_
 rw [A9]
 by_cases hb:(2147483647:Int)<(a:Int)
 ·rw [if_pos hb]
  refine CA (fun _=>?_) fun g=>absurd g (by omega)
  exact hno (.inl (by omega)) σ1 h1.tail
 rw [if_neg hb]
 refine CA (fun g=>absurd rfl g) fun _=>?_
 rw [LB h1,LV h1,LV h1]
 refine AGu (l:=pt b1 (.cells [.bool n.leaf,kv,vv] AG false)::A3 sb rb T M::l) h1 ((hn.cons).cons) hk9 hv9 ?_ ?_
 ·intro hm σ2 h2
  rw [BS,AT]
  refine CA (fun _=>?_) fun g=>absurd g (by decide)
  exact hno (.inr hm) σ2 h2.tail
 ·intro hm w σ2 h2
  rw [BS,AT]
  refine CA (fun g=>absurd rfl g) fun _=>?_
  refine E1 (a:Int) (by omega) ?_
  have hfl:=i7 n hm.1.2.2
  have:=hm.1.2.1
  refine AE9 (kind:=1) h2 (fun τ ht=>vR ht) (by omega) (by omega) (by omega) ?_
  intro w2 σ3 h3
  rw [BS,AT]
  refine CA (fun g=>absurd rfl g) fun _=>?_
  have h3:H (A3 sb rb T M::AU AL 1 w2 256 (bv (KC n.form a 1))::jI w n.form::pt b1 (.cells [.bool n.leaf,kv,vv] AG false)::l) σ3:=h3.re
  obtain ⟨cb,dv,K,C,D,hok,h4⟩:=PV.1 h3
  rw [LV h4]
  refine E1 (a:Int) (by omega) ?_
  have hf:=hok.fly
  have hk:=hok.k
  by_cases ha:a<T.now.length
  ·refine AG6 h4 hok.inv ha (zK (by omega)) (by omega) (by omega) ?_
   intro σ5 C' D' hI' hn' hc' hf' _ _ _ h5
   rw [A9]
   refine hyes hm ha σ5 ?_
   have h6:H (StL sb rb cb dv (K+2) C' D' T l) σ5:=h5.re
   refine PV.2 ⟨cb,dv,K+2,C',D',⟨hI',by omega,by omega,fun x hx=>?_⟩,h6⟩
   have e:DA C' D' x=if x=a then KC n.form a 1 else DA C D x:=hc' x hx
   rw [e]
   exact ADj (c:=DA C D) (hok.bk x hx) (fun _ _=>hs) (fun _=>hm)
  ·refine yP h4 hok.inv.dp (by omega) ?_
   rw [A9]
   exact hnone (by omega) hm (by omega) σ3 (h3.re:H (A3 sb rb T M::l) σ3)
theorem oR {sb rb:Nat} {T:TS} {M:Nat} (h:H (A3 sb rb T M::l) σ) {v:Value} (hv:v=.pointer (some ⟨rb,0,none⟩))
 (hno:T.alloc=.err 8 T→∀ σ',H (A3 sb rb T M::l) σ'→Q (.ret (.tuple #[.int .i64 0,.int .i64 8])) σ')
 (hyes:∀ (a:Nat) σ',T.alloc=.ok a { T with now:=T.now.set a 1 }→T.now[a]?=some 0→T.was[a]?=some 0→H (A3 sb rb { T with now:=T.now.set a 1 } M::l) σ'→Q (.ret (.tuple #[.int .i64 a,.int .i64 0])) σ') :
 E EQ [v] σ Q:=by
 subst hv
 obtain ⟨cb,dv,K,C,D,hok,h2⟩:=PV.1 h
 have h3:H (YC rb T.now T.was::pt sb (.cells [.pointer (some ⟨rb,0,none⟩),.pointer (some ⟨cb,0,none⟩)] EE false)::CacheA (.pointer (some ⟨cb,0,none⟩)) dv K C::Disk dv D::l) σ:=h2.re
 refine AEO h3 ?_ ?_
 ·intro hn σ1 h4
  exact hno (by unfold TS.alloc; rw [sJ hn]) σ1 (PV.2 ⟨cb,dv,K,C,D,hok,h4.re⟩)
 ·intro a σ1 ha hw hb h4
  refine hyes a σ1 (by unfold TS.alloc; rw [uE (by rw [WR ha hw]; rfl) hb]) ha hw (PV.2 ⟨cb,dv,K,C,D,⟨by simpa using hok.inv,hok.fly,hok.k,fun x hx=>hok.bk x (by simpa using hx)⟩,h4.re⟩)
theorem mP {sb rb:Nat} {T:TS} {M:Nat} (h:H (A3 sb rb T M::l) σ):∃ l0,H (YC rb T.now T.was::l0) σ∧∀ now' σ',now'.length=T.now.length→H (YC rb now' T.was::l0) σ'→H (A3 sb rb { T with now:=now' } M::l) σ':=by
 obtain ⟨cb,dv,K,C,D,hok,h2⟩:=PV.1 h
 refine ⟨pt sb (.cells [.pointer (some ⟨rb,0,none⟩),.pointer (some ⟨cb,0,none⟩)] EE false)::CacheA (.pointer (some ⟨cb,0,none⟩)) dv K C::Disk dv D::l,h2.re,fun now' σ' hl h3=>?_⟩
 exact PV.2 ⟨cb,dv,K,C,D,⟨by simp only [hl]; exact hok.inv,hok.fly,hok.k,fun x hx=>hok.bk x (by simpa [hl] using hx)⟩,h3.re⟩
theorem wH {sb rb a:Nat} {T:TS} {M:Nat} (h:H (A3 sb rb T M::l) σ) {v:Value} (hv:v=.pointer (some ⟨rb,0,none⟩)) (hst:T.inc a≠.stuck)
 (hno:∀ (e:Nat) σ',e≠0→T.inc a=.err e T→H (A3 sb rb T M::l) σ'→Q (.ret (.int .i64 e)) σ')
 (hyes:∀ T' σ',T.inc a=.ok () T'→H (A3 sb rb T' M::l) σ'→Q (.ret (.int .i64 0)) σ') :
 E EU [v,.int .i64 a] σ Q:=by
 subst hv
 obtain ⟨l0,h1,h2⟩:=mP h
 unfold TS.inc at hst hno hyes
 cases hx:T.now[a]? with
 | none=>rw [hx] at hst; exact absurd rfl hst
 | some x =>
   rw [hx] at hno hyes
   simp only at hno hyes
   refine AG4 h1 hx (fun e=>hno 6 σ (by decide) (by rw [if_pos e]) h) (fun e=>hno 8 σ (by decide) (by rw [if_neg (by omega),if_pos e]) h) fun h0 h255 σ' h3=>?_
   exact hyes _ σ' (by rw [if_neg h0,if_neg (by omega)]) (h2 _ σ' (by simp) h3)
theorem rF {sb rb a:Nat} {T:TS} {M:Nat} (h:H (A3 sb rb T M::l) σ) {v:Value} (hv:v=.pointer (some ⟨rb,0,none⟩)) (hst:T.dec a≠.stuck)
 (hno:∀ (e:Nat) σ',e≠0→T.dec a=.err e T→H (A3 sb rb T M::l) σ'→Q (.ret (.tuple #[.bool false,.int .i64 e])) σ')
 (hyes:∀ b T' σ',T.dec a=.ok b T'→H (A3 sb rb T' M::l) σ'→Q (.ret (.tuple #[.bool b,.int .i64 0])) σ') :
 E DY [v,.int .i64 a] σ Q:=by
 subst hv
 obtain ⟨l0,h1,h2⟩:=mP h
 unfold TS.dec at hst hno hyes
 cases hx:T.now[a]? with
 | none=>rw [hx] at hst; exact absurd rfl hst
 | some x =>
   rw [hx] at hno hyes
   simp only at hno hyes
   refine AG7 h1 hx (fun e=>hno 6 σ (by decide) (by rw [if_pos e]) h) fun h0 σ' h3=>?_
   exact hyes _ _ σ' (by rw [if_neg h0]) (h2 _ σ' (by simp) h3)
theorem ABc {sb rb:Nat} {T:TS} {M:Nat} {n:Nd} {kv vv:Value} (h:H (A3 sb rb T M::l) σ) (hM:M≤100000000000) (hn:MV l kv vv n) (hs:n.small) (hk9:n.keys.length<9223372036854775808) (hv9:n.vals.length<9223372036854775808)
 (hno:∀ (e:Nat) σ',e≠0→T.make n=.err e T→H (A3 sb rb T M::l) σ'→Q (.ret (.tuple #[.int .u64 0,.int .i64 e])) σ')
 (hyes:∀ (a:Nat) T' σ',T.make n=.ok a T'→H (A3 sb rb T' (M+1)::l) σ'→Q (.ret (.tuple #[.int .u64 a,.int .i64 0])) σ') :
 E GB [.pointer (some ⟨sb,0,none⟩),.agg #[.bool n.leaf,kv,vv]] σ Q:=by
 apply ZU; unfold QB
 refine nw h ?_
 intro b1 σ1 h1
 refine jB (h1.perm (.swap _ _ _)) ?_
 rw [A9,if_neg (by omega)]
 refine CA (fun g=>absurd rfl g) fun _=>?_
 rw [LB h1,LV h1,LV h1]
 refine AGA h1 ((hn.cons).cons) hk9 hv9 ?_
 intro σ2 h2
 rw [GY]
 unfold TS.make at hno hyes
 by_cases hm:n.May
 ·rw [if_pos hm] at hno hyes
  rw [decide_eq_true hm]
  refine B7 rfl ?_
  have h2:H (A3 sb rb T M::pt b1 (.cells [.bool n.leaf,kv,vv] AG false)::l) σ2:=h2.re
  obtain ⟨cb,dv,K,C,D,hok,h3⟩:=PV.1 h2
  rw [LV h3]
  refine oR h2 rfl ?_ ?_
  ·intro ha σ3 h4
   rw [BS,AT,AT]
   refine CA (fun _=>?_) fun g=>absurd g (by decide)
   refine hno 8 σ3 (by decide) (by rw [ha]; rfl) (h4.re:H (A3 sb rb T M::l) σ3)
  ·intro a σ3 ha hx hy h4
   rw [BS,AT,AT]
   refine CA (fun g=>absurd rfl g) fun _=>?_
   have hal:=(List.getElem?_eq_some_iff.1 hx).1
   have:=(kY h).hi
   refine PQ (a:Int) (by omega) ?_
   rw [LB h4,LV h4,LV h4]
   refine w9 h4 hM hn.cons hs hk9 hv9 (fun g=>?_) (fun _ _ g=>?_) ?_
   ·rcases g with g | g
    ·omega
    ·exact absurd hm g
   ·simp at g; omega
   ·intro _ _ σ4 h5
    rw [A9]
    refine CA (fun g=>absurd rfl g) fun _=>?_
    refine PQ (a:Int) (by omega) ?_
    exact hyes a _ σ4 (by rw [ha]; rfl) (h5.re:H (A3 sb rb _ (M+1)::l) σ4)
 ·rw [if_neg hm] at hno
  rw [decide_eq_false hm]
  refine G8 rfl ?_
  exact hno 1 σ2 (by decide) rfl (h2.re:H (A3 sb rb T M::l) σ2)
end Go.Ax.C
set_option maxRecDepth 100000
namespace Go.Ax.C
open Go.Proofs Go.RowKit
variable {l r r2 m:List AK} {σ:AHeap} {Q:RK}
theorem DS {v:Value} {xs:List Nat} (h:Us σ v xs) {k x:Nat} (hk:xs[k]?=some x):∃ p,AE 1 v (.int .i64 k)=some (.pointer (some p))∧AF false 1 (.pointer (some p)) σ=some (.int .u64 x):=by
 obtain ⟨p,h1,h2⟩:=M7 h hk
 exact ⟨p,h1 _,h2 _⟩
theorem ADu {T T':TS} {a:Nat} (h:T.inc a=.ok () T'):a<T.now.length∧T'.now.length=T.now.length∧T'.was=T.was∧T'.g=T.g:=by
 unfold TS.inc at h
 split at h
 ·cases h
 ·rename_i x hx
  split at h
  ·cases h
  ·split at h
   ·cases h
   ·cases h; exact ⟨(List.getElem?_eq_some_iff.1 hx).1,by simp,rfl,rfl⟩
theorem AD3 {T:TS} {a:Nat} (h:T.inc a≠.stuck):a<T.now.length:=by
 unfold TS.inc at h
 split at h
 ·exact absurd rfl h
 ·rename_i x hx; exact (List.getElem?_eq_some_iff.1 hx).1
theorem ABg (T:TS):incs [] T=.ok () T:=rfl
theorem xL (v:Nat) (vs:List Nat) (T:TS):incs (v::vs) T=(T.inc v).bind fun _ T=>incs vs T:=rfl
theorem nE {sb rb a:Nat} {T:TS} {M:Nat} (h:H (A3 sb rb T M::l) σ) (hM:M≤99999999999) (hst:T.shadow a≠.stuck)
 (hno:∀ (e:Nat) T' σ',e≠0→T.shadow a=.err e T'→H (A3 sb rb T' (M+2)::l) σ'→Q (.ret (.tuple #[.int .u64 0,cD,.int .i64 e])) σ')
 (hyes:∀ (CB:Nat) n T' kv vv σ',T.shadow a=.ok (CB,n) T'→n.May→n.small→CB<T.now.length→H (AQ kv n.keys::AQ vv n.vals::A3 sb rb T' (M+2)::l) σ'→Q (.ret (.tuple #[.int .u64 CB,.agg #[.bool n.leaf,kv,vv],.int .i64 0])) σ') :
 E EZ [.pointer (some ⟨sb,0,none⟩),.int .u64 a] σ Q:=by
 have hN:=kY h
 unfold TS.shadow at hst hno hyes
 cases hnd:T.node a with
 | none=>rw [hnd] at hst; exact absurd rfl hst
 | some n =>
 cases hx:T.now[a]? with
 | none=>rw [hnd,hx] at hst; exact absurd rfl hst
 | some x =>
 cases hy:T.was[a]? with
 | none=>rw [hnd,hx,hy] at hst; exact absurd rfl hst
 | some y =>
 simp only [hnd,hx,hy] at hst hno hyes
 obtain ⟨hg,hf⟩:=lC hnd
 have ha:=(List.getElem?_eq_some_iff.1 hx).1
 have hx8:=hN.now8 x (List.mem_of_getElem? hx)
 have hhi:=hN.hi
 apply W4; unfold OF
 refine nw h ?_
 intro b1 σ1 h1
 refine AAr (h1.perm (.swap _ _ _)) (by omega) ha hg hf ?_
 intro kv vv σ2 hm hs h2
 have hkf:=(⟨hm.1.1,hm.1.2.1⟩:1≤n.keys.length∧n.keys.length≤8)
 have hvl:=hm.1.2.2
 obtain ⟨a1,c1,hkv⟩:=AW h2
 obtain ⟨a2,c2,hvv⟩:=AW h2.tail
 have ok1:one kv=true:=by rw [hkv]; rfl
 have ok2:one vv=true:=by rw [hvv]; rfl
 rw [BS,AT]
 refine nw h2 ?_
 intro b10 σ3 h3
 refine bH h3 rfl ok1 ok2 ?_
 intro σ4 h4
 refine CA (fun g=>absurd rfl g) fun _=>?_
 refine E1 (a:Int) (by omega) ?_
 have h4:H (A3 sb rb T (M+1)::pt b10 (.cells [.bool n.leaf,kv,vv] AG false)::pt b1 (.cells [.bool false,.slice none 0 0,.slice none 0 0] AG false)::AQ kv n.keys::AQ vv n.vals::l) σ4:=h4.re
 -- the nodes' memory,whatever comes
 have hns:MV (pt b10 (.cells [.bool n.leaf,kv,vv] AG false)::pt b1 (.cells [.bool false,.slice none 0 0,.slice none 0 0] AG false)::AQ kv n.keys::AQ vv n.vals::l) kv vv n:=MV.two.cons.cons
 have cold:∀ {τ:AHeap} {T1:TS} {N:Nat},H (A3 sb rb T1 N::l) τ→True:=fun _=>trivial
 -- the shelf's pointers
 have DJ:∀ {τ:AHeap} {T1:TS} {N:Nat} {l1:List AK},H (A3 sb rb T1 N::l1) τ→L sb 0 τ=some (.pointer (some ⟨rb,0,none⟩)):=by
  intro τ T1 N l1 ht
  obtain ⟨cb,dv,K,C,D,_,h6⟩:=PV.1 ht
  exact t4 h6
 rw [DJ h4,AD]
 obtain ⟨l0,h5,h5'⟩:=mP h4
 refine AEQ h5 hx hy ?_
 rw [GY]
 -- to the end,with whatever the counts are
 have k19:∀ (CB:Nat) (T2:TS) (τ:AHeap),CB<T.now.length→T2.now.length=T.now.length→T2.was=T.was→T2.g=T.g→(T2.dec a).bind (fun _ T3=>R.ok (CB,n) (T3.put CB n))≠.stuck→(∀ (e:Nat) T' σ',e≠0→(T2.dec a).bind (fun _ T3=>R.ok (CB,n) (T3.put CB n))=.err e T'→H (A3 sb rb T' (M+2)::l) σ'→Q (.ret (.tuple #[.int .u64 0,cD,.int .i64 e])) σ')→(∀ own' n' T' kv vv σ',(T2.dec a).bind (fun _ T3=>R.ok (CB,n) (T3.put CB n))=.ok (own',n') T'→n'.May→n'.small→own'<T.now.length→H (AQ kv n'.keys::AQ vv n'.vals::A3 sb rb T' (M+2)::l) σ'→Q (.ret (.tuple #[.int .u64 own',.agg #[.bool n'.leaf,kv,vv],.int .i64 0])) σ')→H (A3 sb rb T2 (M+1)::pt b10 (.cells [.bool n.leaf,kv,vv] AG false)::pt b1 (.cells [.bool false,.slice none 0 0,.slice none 0 0] AG false)::AQ kv n.keys::AQ vv n.vals::l) τ→ES E Q sb a b1 CB b10 τ:=by
  intro CB T2 τ hown hl2 hw2 hg2 hst2 hno2 hyes2 ht
  unfold ES
  rw [DJ ht,AD]
  have hds:T2.dec a≠.stuck:=fun e=>hst2 (by rw [e]; rfl)
  refine rF ht rfl hds ?_ ?_
  ·intro e τ1 he hde h6
   rw [BS,C8,AT]
   refine CA (fun _=>?_) fun g=>absurd g (by omega)
   refine dW (K:=fun v τ=>Q (.ret (.tuple #[.int .u64 0,v,.int .i64 e])) τ) h6 rfl rfl rfl ?_
   intro τ2 h7
   exact hno2 e T2 τ2 he (by rw [hde]; rfl) (B8 (by omega) (h7.re:H (A3 sb rb T2 (M+1)::l) τ2))
  ·intro b T3 τ1 hde h6
   rw [BS,C8,AT]
   refine CA (fun g=>absurd rfl g) fun _=>?_
   refine PQ (CB:Int) (by omega) ?_
   rw [LB h6,LV h6,LV h6]
   have hl3:T3.now.length=T.now.length:=by
    unfold TS.dec at hde
    split at hde
    ·cases hde
    ·split at hde
     ·cases hde
     ·cases hde; simpa using hl2
   refine w9 h6 (by omega) hns hs (by omega) (by omega) (fun g=>?_) (fun _ _ g=>?_) ?_
   ·rcases g with g | g
    ·omega
    ·exact absurd hm g
   ·omega
   ·intro _ _ τ2 h7
    rw [A9]
    refine CA (fun g=>absurd rfl g) fun _=>?_
    refine PQ (CB:Int) (by omega) ?_
    rw [LB h7,LV h7,LV h7]
    refine dW (K:=fun v τ=>Q (.ret (.tuple #[.int .u64 CB,v,.int .i64 0])) τ) h7 rfl ok1 ok2 ?_
    intro τ3 h8
    exact hyes2 CB n _ kv vv τ3 (by rw [hde]; rfl) hm hs hown (h8.re:H (AQ kv n.keys::AQ vv n.vals::A3 sb rb (T3.put CB n) (M+2)::l) τ3)
 by_cases hfr:x=1∧y=0
 ·rw [if_pos hfr] at hyes
  obtain ⟨rfl,rfl⟩:=hfr
  refine G8 rfl ?_
  rw [DJ h4,AD]
  refine oE h5 hx ?_
  rw [A9]
  unfold DX
  refine G8 rfl ?_
  rw [LB h4,LV h4,LV h4]
  refine dW (K:=fun v τ=>Q (.ret (.tuple #[.int .u64 a,v,.int .i64 0])) τ) h4 rfl ok1 ok2 ?_
  intro σ5 h6
  have h7:=B8 (N:=M+2) (by omega) (h6.re:H (A3 sb rb T (M+1)::AQ kv n.keys::AQ vv n.vals::l) σ5)
  exact hyes a n T kv vv σ5 rfl hm hs ha h7.re
 rw [if_neg hfr] at hst hno hyes
 by_cases hx0:x=0
 ·rw [if_pos hx0] at hst; exact absurd rfl hst
 rw [if_neg hx0] at hst hno hyes
 have k6:DX E Q false a b10 b1 sb a σ4:=by
  unfold DX
  refine B7 rfl ?_
  rw [DJ h4,AD]
  refine oR h4 rfl ?_ ?_
  ·intro hal σ5 h6
   rw [BS,AT,AT]
   refine CA (fun _=>?_) fun g=>absurd g (by decide)
   refine dW (K:=fun v τ=>Q (.ret (.tuple #[.int .u64 0,v,.int .i64 8])) τ) h6 rfl rfl rfl ?_
   intro σ6 h7
   exact hno 8 T σ6 (by decide) (by rw [hal]; rfl) (B8 (by omega) (h7.re:H (A3 sb rb T (M+1)::l) σ6))
  ·intro CB σ5 hal hox hoy h6
   have hol:=(List.getElem?_eq_some_iff.1 hox).1
   have hne:CB≠a:=fun e=>by subst e; rw [hx] at hox; cases hox; exact hx0 rfl
   rw [hal] at hst hno hyes
   simp only [R.bind_ok] at hst hno hyes
   rw [BS,AT,AT]
   refine CA (fun g=>absurd rfl g) fun _=>?_
   rw [DJ h6,AD]
   obtain ⟨l1,h7,_⟩:=mP h6
   have hx':(T.now.set CB 1)[a]?=some x:=by rw [List.getElem?_set,if_neg hne]; exact hx
   refine oE h7 hx' ?_
   rw [A9]
   refine AS (fun g=>?_) fun g=>?_
   ·rw [if_pos (by omega)] at hst hno hyes
    have hus:=(hns σ5 h6.tail).2
    rw [LV h6,MG hus,AH]
    refine ⟨fun m i τ=>∃ (k:Nat) (T1:TS),i=k∧m=n.vals.length - k∧k≤n.vals.length∧T1.now.length=T.now.length∧T1.was=T.was∧T1.g=T.g∧incs n.vals { T with now:=T.now.set CB 1 }=incs (n.vals.drop k) T1∧H (A3 sb rb T1 (M+1)::pt b10 (.cells [.bool n.leaf,kv,vv] AG false)::pt b1 (.cells [.bool false,.slice none 0 0,.slice none 0 0] AG false)::AQ kv n.keys::AQ vv n.vals::l) τ,
     ⟨_,0,{ T with now:=T.now.set CB 1 },rfl,rfl,by omega,by simp,rfl,rfl,by simp,h6⟩,?_⟩
    rintro m _ τ ⟨k,T1,rfl,hmk,hk,hl1,hw1,hg1,hin,ht⟩
    unfold K1
    refine AS (fun g2=>?_) fun g2=>?_
    ·have hkl:k<n.vals.length:=by omega
     have hv:=List.getElem?_eq_getElem hkl
     obtain ⟨p,ia,la⟩:=DS (hns τ ht.tail).2 hv
     rw [ia,AD,la,AH,DJ ht,AD]
     have hd:n.vals.drop k=n.vals[k]::n.vals.drop (k+1):=List.drop_eq_getElem_cons hkl
     rw [hd,xL] at hin
     rw [hin] at hst hno hyes
     have his:T1.inc n.vals[k]≠.stuck:=fun e=>hst (by rw [e]; rfl)
     have hvlt:=AD3 his
     refine E1 ((n.vals[k]:Nat):Int) (by omega) ?_
     refine wH ht rfl his ?_ ?_
     ·intro e τ1 he hie h8
      rw [A9]
      refine CA (fun _=>?_) fun g=>absurd g (by omega)
      refine dW (K:=fun v τ=>Q (.ret (.tuple #[.int .u64 0,v,.int .i64 e])) τ) h8 rfl rfl rfl ?_
      intro τ2 h9
      exact hno e T1 τ2 he (by rw [hie]; rfl) (B8 (by omega) (h9.re:H (A3 sb rb T1 (M+1)::l) τ2))
     ·intro T2 τ1 hie h8
      rw [A9]
      refine CA (fun g=>absurd rfl g) fun _=>?_
      refine E1 ((k+1:Nat):Int) (by omega) ?_
      have hk2:=ADu hie
      refine ⟨n.vals.length - (k+1),by omega,k+1,T2,rfl,rfl,by omega,by omega,by rw [hk2.2.2.1,hw1],by rw [hk2.2.2.2,hg1],?_,h8⟩
      rw [hin,hie]; rfl
    ·have hkn:k=n.vals.length:=by omega
     subst hkn
     rw [List.drop_length,ABg] at hin
     rw [hin] at hst hno hyes
     exact k19 CB T1 τ hol hl1 hw1 hg1 hst (fun e T' σ' he h=>hno e T' σ' he h) (fun o' n' T' kv vv σ' h=>hyes o' n' T' kv vv σ' h) ht
   ·rw [if_neg (by omega)] at hst hno hyes
    exact k19 CB { T with now:=T.now.set CB 1 } σ5 hol (by simp) rfl rfl hst (fun e T' σ' he h=>hno e T' σ' he h) (fun o' n' T' kv vv σ' h=>hyes o' n' T' kv vv σ' h) h6
 refine cN (fun g=>?_) fun g=>?_
 ·rw [DJ h4,AD]
  refine oE h5 hx ?_
  rw [A9]
  have:decide ((x:Int)=1)=false:=decide_eq_false (fun e=>hfr ⟨by omega,by simpa using (Bool.and_eq_true_iff.1 g).2⟩)
  rw [this]
  exact k6
 ·exact k6
end Go.Ax.C
set_option maxRecDepth 100000
namespace Go.Ax.C
open Go.Proofs Go.RowKit
variable {l r r2 m:List AK} {σ:AHeap} {Q:RK}
theorem qS {z:Nat} {css:List (List Value)} {k j:Nat} {c:List Value} (hz:∀ c∈css,c.length=z) (hk:css[k]?=some c) (hj:j<z):css.flatten[k*z+j]?=c[j]?:=by
 have:=congrArg (·[j]?) (OS hz hk)
 simp only [List.getElem?_take,if_pos hj,List.getElem?_drop] at this
 exact this
theorem US {z:Nat}:∀ {css:List (List Value)} {k j:Nat} {c vs:List Value},(∀ c∈css,c.length=z)→css[k]?=some c→j+vs.length≤z→splice css.flatten (k*z+j) vs=(css.set k (splice c j vs)).flatten
 | [],k,j,c,vs,_,h,_=>by simp at h
 | x::css,0,j,c,vs,hz,hk,hj=>by
   simp at hk; subst hk
   have hx:=hz x (by simp)
   simp only [List.flatten_cons,List.set_cons_zero,Nat.zero_mul,Nat.zero_add]
   rw [QT _ _ _ _ (by omega)]
 | x::css,k+1,j,c,vs,hz,hk,hj=>by
   simp at hk
   have hx:=hz x (by simp)
   have ih:=US (k:=k) (j:=j) (c:=c) (vs:=vs) (fun c hc=>hz c (by simp [hc])) hk hj
   simp only [List.flatten_cons,List.set_cons_succ]
   rw [← ih,show (k+1)*z+j=x.length+(k*z+j) by rw [hx,Nat.succ_mul]; omega]
   unfold splice
   rw [List.take_append,List.drop_append,List.take_of_length_le (by omega),List.drop_of_length_le (by omega)]
   simp only [Nat.add_sub_cancel_left,List.nil_append,List.append_assoc]
   rw [show x.length+(k*z+j)+vs.length - x.length=k*z+j+vs.length by omega]
theorem sO {l:List AK} {σ:AHeap} (h:H l σ) (i:Nat) {e z n b o c k0:Nat} {vs xs:List Value} {k:AHeap→Prop} (hi:l[i]?=some (AU e z (.slice (some ⟨b,0,none⟩) n c) n xs)) (hn:0<n) (hl:vs.length=k0) (hp:0<k0) (hw:vs.all one=true) (ho:o+k0≤xs.length)
 (hk:∀ σ',H (l.set i (AU e z (.slice (some ⟨b,0,none⟩) n c) n (splice xs o vs))) σ'→k σ'):pu (AP k0 (.pointer (some ⟨b,o,none⟩)) (.agg vs.toArray) σ) k:=by
 rcases FT.1 (h.front i hi) with ⟨⟨rfl,rfl,_⟩,h⟩ | ⟨b',c',opn,rest,h1,hx,hr,hv,hn,ho2⟩
 ·omega
 ·cases hv
  refine VJ h1 0 rfl hl hp hw (by simp; omega) ?_
  intro σ' h3
  simp only [List.set_cons_zero] at h3
  rw [QT _ _ _ _ (by omega)] at h3
  exact hk _ (H.back i hi (FT.2 (.inr ⟨b,c,opn,rest,h3,by rw [JN _ _ _ (by omega)]; exact hx,hr,rfl,hn,ho2⟩)))
structure Sp where
 at':Nat
 n:Nd
 nx:Nat
 kv:Value
 vv:Value
def JG (s:Sp):List Value:=[.int .u64 s.at',.bool s.n.leaf,s.kv,s.vv,.int .i64 s.nx]
theorem Z5 {L:List Sp}:∀ c∈L.map JG,c.length=5:=by
 intro c hc
 obtain ⟨s,_,rfl⟩:=List.mem_map.1 hc
 rfl
def AER (L:List Sp):List AK:=L.flatMap fun s=>[AQ s.kv s.n.keys,AQ s.vv s.n.vals]
def B2 (L:List Sp):AK:=AY (AER L)
theorem B2.dup (L:List Sp):Y5 (B2 L):=Y5.star fun A hA=>by
 obtain ⟨s,_,hs⟩:=List.mem_flatMap.1 hA
 simp at hs
 rcases hs with rfl | rfl
 ·exact AQ.dup _ _
 ·exact AQ.dup _ _
theorem QJ (L K:List Sp):B2 (L++K)=sep (B2 L) (B2 K):=by
 unfold B2 AER
 rw [List.flatMap_append,NJ]
theorem aB (s:Sp):H (B2 [s]::l) σ↔H (AQ s.kv s.n.keys::AQ s.vv s.n.vals::l) σ:=by
 unfold B2 AER
 rw [A8]; rfl
theorem H9 {L:List Sp} {s:Sp} (h:H (B2 L::l) σ) (hs:s∈L):H (AQ s.kv s.n.keys::AQ s.vv s.n.vals::B2 L::l) σ:=by
 have h2:H (B2 L::B2 L::l) σ:=h.dup0 (B2.dup L)
 obtain ⟨A,B,e⟩:=List.append_of_mem hs
 have key:∀ X,H (B2 (A++([s]++B))::X::l) σ→H (B2 [s]::X::l) σ:=by
  intro X hX
  rw [QJ,QJ,BB] at hX
  have h3:=hX.tail
  rw [BB] at h3
  exact h3.second
 have h3:=key (B2 L) (by rw [show A++([s]++B)=L by rw [e]; rfl]; exact h2)
 exact (aB s).1 h3
theorem u7 {L:List Sp} {k:Nat} {s:Sp} (h:H (B2 L::B2 [s]::l) σ) (hk:k<L.length):H (B2 (L.set k s)::l) σ:=by
 have e:L.set k s=L.take k++([s]++L.drop (k+1)):=by rw [List.set_eq_take_append_cons_drop,if_pos hk]; rfl
 rw [e,QJ,QJ,BB]
 have e2:L=L.take k++([L[k]]++L.drop (k+1)):=by
  conv=>lhs; rw [← List.take_append_drop k L,List.drop_eq_getElem_cons hk]
  rfl
 have h1:H (sep (B2 (L.take k)) (sep (B2 [L[k]]) (B2 (L.drop (k+1))))::B2 [s]::l) σ:=by
  rw [← QJ,← QJ,← e2]; exact h
 rw [BB] at h1
 have h2:H (sep (B2 [L[k]]) (B2 (L.drop (k+1)))::B2 (L.take k)::B2 [s]::l) σ:=h1.perm (.swap _ _ _)
 rw [BB] at h2
 have h3:H (B2 (L.drop (k+1))::B2 (L.take k)::B2 [s]::l) σ:=h2.tail
 have h4:H (B2 (L.take k)::B2 [s]::B2 (L.drop (k+1))::l) σ:=h3.perm ((List.Perm.swap _ _ _).trans ((List.Perm.swap _ _ _).cons _))
 have h5:H (sep (B2 [s]) (B2 (L.drop (k+1)))::B2 (L.take k)::l) σ:=by
  rw [BB]
  exact h4.perm ((List.Perm.swap _ _ _).trans ((List.Perm.swap _ _ _).cons _))
 exact h5.perm (.swap _ _ _)
structure TO (s:Sp):Prop where
 sm:s.n.small
 eq:s.n.vals.length=s.n.keys.length
 le:s.n.keys.length≤400
 at8:s.at'<2147483648
 nx:s.nx<1000
 o1:one s.kv=true
 o2:one s.vv=true
abbrev eY (wb sb:Nat) (wv:Value) (L:List Sp) (l:List AK):List AK :=
 pt wb (.cells [.pointer (some ⟨sb,0,none⟩),wv] A6 false)::AU AB 5 wv L.length (L.map JG).flatten::B2 L::l
def DZ (wb sb:Nat) (L:List Sp):AK:=ex fun wv:Value=>sep (HZ (∀ s∈L,TO s)) (AY (eY wb sb wv L []))
theorem IL {wb sb:Nat} {L:List Sp}:H (DZ wb sb L::l) σ↔∃ wv,(∀ s∈L,TO s)∧H (eY wb sb wv L l) σ:=by
 unfold DZ
 rw [JM]
 constructor
 ·rintro ⟨wv,h⟩
  rw [BB,BK,A8] at h
  exact ⟨wv,h.1,h.2⟩
 ·rintro ⟨wv,h1,h2⟩
  refine ⟨wv,?_⟩
  rw [BB,BK,A8]
  exact ⟨h1,h2⟩
theorem NG {wb sb k:Nat} {wv:Value} {L:List Sp} {s:Sp} (h:H (eY wb sb wv L l) σ) (hk:L[k]?=some s) :
 ∃ b c,wv=.slice (some ⟨b,0,none⟩) L.length c∧(∀ kd,AE 5 wv (.int kd (k:Nat))=some (.pointer (some ⟨b,k*5,none⟩)))∧(∀ m,AF false m (.pointer (some ⟨b,k*5,none⟩)) σ=some (.int .u64 s.at'))∧(∀ m,AF false m (.pointer (some ⟨b,k*5+1,none⟩)) σ=some (.bool s.n.leaf))∧(∀ m,AF false m (.pointer (some ⟨b,k*5+2,none⟩)) σ=some s.kv)∧(∀ m,AF false m (.pointer (some ⟨b,k*5+3,none⟩)) σ=some s.vv)∧(∀ m,AF false m (.pointer (some ⟨b,k*5+4,none⟩)) σ=some (.int .i64 s.nx)):=by
 have hkl:=(List.getElem?_eq_some_iff.1 hk).1
 obtain ⟨b,e1,e2,e3⟩:=h.own_elem 1 rfl hkl
 obtain ⟨b',c,hwv,_⟩:=h.own_form 1 rfl (by omega)
 have hbb:b'=b:=by
  have:=e1 .i64
  rw [hwv,S6 (by omega)] at this
  simp at this; exact this
 subst hbb
 have hc:(L.map JG)[k]?=some (JG s):=by rw [List.getElem?_map,hk]; rfl
 have g:∀ j,j<5→(L.map JG).flatten[k*5+j]?=(JG s)[j]?:=fun j hj=>qS Z5 hc hj
 refine ⟨b',c,hwv,e1,fun m=>?_,fun m=>?_,fun m=>?_,fun m=>?_,fun m=>?_⟩
 ·have:=e3 m 0 (by omega); rw [g 0 (by omega)] at this; exact this
 ·have:=e3 m 1 (by omega); rw [g 1 (by omega)] at this; exact this
 ·have:=e3 m 2 (by omega); rw [g 2 (by omega)] at this; exact this
 ·have:=e3 m 3 (by omega); rw [g 3 (by omega)] at this; exact this
 ·have:=e3 m 4 (by omega); rw [g 4 (by omega)] at this; exact this
theorem cO {wb sb:Nat} {wv:Value} {L:List Sp} (h:H (eY wb sb wv L l) σ):BH wv=some (.int .i64 L.length):=IB h.tail
def flt (e:Nat):Value:=.iface JA (.agg #[.int .i64 e])
theorem VZ (hQ:Q (.ret (.tuple #[])) σ):E CP [.int .i64 0] σ Q:=by
 apply cX; unfold V1
 exact hQ
theorem TM {e:Nat} (he:e≠0) (hQ:Q (.pan (flt e)) σ):E CP [.int .i64 e] σ Q:=by
 apply cX; unfold V1
 refine CA (fun _=>hQ) fun g=>absurd g (by omega)
def lS (T:TS) (a:Nat) (n:Nd):R Unit:=if n.fits then if n.May then if a<T.now.length then .ok () (T.put a n) else .stuck else .err 1 T else .ok () T
theorem AB8 {T T':TS} {a:Nat} {n:Nd} (h:lS T a n=.ok () T'):T'.now=T.now∧T'.was=T.was:=by
 unfold lS at h
 split at h
 ·split at h
  ·split at h
   ·cases h; exact ⟨rfl,rfl⟩
   ·cases h
  ·cases h
 ·cases h; exact ⟨rfl,rfl⟩
theorem ADW {wb sb rb k:Nat} {T:TS} {M:Nat} {L:List Sp} {s:Sp} {n:Nd} {kv vv:Value} (h:H (DZ wb sb L::A3 sb rb T M::AQ kv n.keys::AQ vv n.vals::l) σ) (hM:M≤100000000000) (hk:L[k]?=some s)
 (hs:n.small) (he:n.vals.length=n.keys.length) (hl:n.keys.length≤400) (hst:lS T s.at' n≠.stuck)
 (hno:∀ e σ',e≠0→lS T s.at' n=.err e T→H (A3 sb rb T (M+1)::l) σ'→Q (.pan (flt e)) σ')
 (hyes:∀ T' σ',lS T s.at' n=.ok () T'→H (DZ wb sb (L.set k { s with n:=n,kv:=kv,vv:=vv })::A3 sb rb T' (M+1)::l) σ'→Q (.ret (.tuple #[])) σ') :
 E CW [.pointer (some ⟨wb,0,none⟩),.int .i64 k,.agg #[.bool n.leaf,kv,vv]] σ Q:=by
 apply eJ; unfold TN
 refine nw h ?_
 intro b1 σ1 h1
 obtain ⟨wv,hok,h2⟩:=IL.1 (h1.perm (.swap _ _ _))
 have hkl:=(List.getElem?_eq_some_iff.1 hk).1
 have hso:=hok s (List.mem_of_getElem? hk)
 obtain ⟨ak,ck,hkv⟩:=AW (h2.re:H (AQ kv n.keys::l) σ1)
 obtain ⟨av,cv,hvv⟩:=AW (h2.re:H (AQ vv n.vals::l) σ1)
 have ok1:one kv=true:=by rw [hkv]; rfl
 have ok2:one vv=true:=by rw [hvv]; rfl
 obtain ⟨b,c,hwv,e1,_⟩:=NG h2 hk
 rw [LV h2,LB h2,LV h2,LV h2,e1,AD,AO,AD]
 subst hwv
 have hb5:k*5+5≤(L.map JG).flatten.length:=by
  rw [NR Z5,List.length_map,← Nat.succ_mul]
  exact Nat.mul_le_mul_right _ hkl
 refine sO (vs:=[.bool n.leaf,kv,vv]) h2 1 rfl (by omega) rfl (by omega) (by simp only [List.all_cons,ok1,ok2,List.all_nil]; rfl) (by omega) ?_
 intro σ2 h3
 have ec:splice (L.map JG).flatten (k*5+1) [.bool n.leaf,kv,vv]=((L.set k { s with n:=n,kv:=kv,vv:=vv }).map JG).flatten:=by
  rw [US Z5 (c:=JG s) (by rw [List.getElem?_map,hk]; rfl) (by simp),List.map_set]
  rfl
 rw [ec] at h3
 have h3:H (pt wb (.cells [.pointer (some ⟨sb,0,none⟩),.slice (some ⟨b,0,none⟩) L.length c] A6 false)::AU AB 5 (.slice (some ⟨b,0,none⟩) L.length c) L.length ((L.set k { s with n:=n,kv:=kv,vv:=vv }).map JG).flatten::B2 L::pt b1 (.cells [.bool n.leaf,kv,vv] AG false)::A3 sb rb T M::AQ kv n.keys::AQ vv n.vals::l) σ2:=h3
 have hsl:(L.set k { s with n:=n,kv:=kv,vv:=vv }).length=L.length:=by simp
 -- the way with the node in its place
 have hwy:H (DZ wb sb (L.set k { s with n:=n,kv:=kv,vv:=vv })::A3 sb rb T M::pt b1 (.cells [.bool n.leaf,kv,vv] AG false)::AQ kv n.keys::AQ vv n.vals::l) σ2:=by
  refine IL.2 ⟨.slice (some ⟨b,0,none⟩) L.length c,fun x hx=>?_,?_⟩
  ·rcases List.mem_or_eq_of_mem_set hx with h | h
   ·exact hok x h
   ·subst h; exact ⟨hs,he,hl,hso.at8,hso.nx,ok1,ok2⟩
  ·unfold eY
   rw [hsl]
   have h4:H (B2 L::pt wb (.cells [.pointer (some ⟨sb,0,none⟩),.slice (some ⟨b,0,none⟩) L.length c] A6 false)::AU AB 5 (.slice (some ⟨b,0,none⟩) L.length c) L.length ((L.set k { s with n:=n,kv:=kv,vv:=vv }).map JG).flatten::pt b1 (.cells [.bool n.leaf,kv,vv] AG false)::A3 sb rb T M::AQ kv n.keys::AQ vv n.vals::l) σ2:=h3.re
   have h5:H (AQ kv n.keys::AQ vv n.vals::B2 L::pt wb (.cells [.pointer (some ⟨sb,0,none⟩),.slice (some ⟨b,0,none⟩) L.length c] A6 false)::AU AB 5 (.slice (some ⟨b,0,none⟩) L.length c) L.length ((L.set k { s with n:=n,kv:=kv,vv:=vv }).map JG).flatten::pt b1 (.cells [.bool n.leaf,kv,vv] AG false)::A3 sb rb T M::AQ kv n.keys::AQ vv n.vals::l) σ2:=by
    have q1:H (AQ kv n.keys::_) σ2:=h4.fnd (AQ kv n.keys)
    have q2:=aI q1
    have q3:H (AQ vv n.vals::_) σ2:=q2.fnd (AQ vv n.vals)
    have q4:=aI q3
    exact q4.re
   have h6:H (B2 L::B2 [{ s with n:=n,kv:=kv,vv:=vv }]::pt wb (.cells [.pointer (some ⟨sb,0,none⟩),.slice (some ⟨b,0,none⟩) L.length c] A6 false)::AU AB 5 (.slice (some ⟨b,0,none⟩) L.length c) L.length ((L.set k { s with n:=n,kv:=kv,vv:=vv }).map JG).flatten::pt b1 (.cells [.bool n.leaf,kv,vv] AG false)::A3 sb rb T M::AQ kv n.keys::AQ vv n.vals::l) σ2 :=
    ((aB { s with n:=n,kv:=kv,vv:=vv }).2 h5).perm (.swap _ _ _)
   exact (u7 h6 hkl).re
 have hdrop:∀ {τ:AHeap} {T1:TS} {N:Nat},H (DZ wb sb (L.set k { s with n:=n,kv:=kv,vv:=vv })::A3 sb rb T1 N::pt b1 (.cells [.bool n.leaf,kv,vv] AG false)::AQ kv n.keys::AQ vv n.vals::l) τ→H (DZ wb sb (L.set k { s with n:=n,kv:=kv,vv:=vv })::A3 sb rb T1 N::l) τ:=fun ht=>ht.re
 have hlv:BH kv=some (.int .i64 n.keys.length):=by rw [hkv]; rfl
 unfold lS at hst hno hyes
 have h3':H (pt b1 (.cells [.bool n.leaf,kv,vv] AG false)::l) σ2:=hwy.re
 rw [LV h3',hlv,AH]
 have skip:¬ n.fits→Q (.ret (.tuple #[])) σ2:=fun hf=>by
  rw [if_neg hf] at hyes
  refine hyes T σ2 rfl ?_
  have q:H (A3 sb rb T M::DZ wb sb (L.set k { s with n:=n,kv:=kv,vv:=vv })::l) σ2:=hwy.re
  exact (B8 (by omega) q).perm (.swap _ _ _)
 have k3:FI E Q (decide ((n.keys.length:Int)≤8)) wb k b1 σ2∨n.keys.length=0:=by
  by_cases h0:n.keys.length=0
  ·exact .inr h0
  left
  unfold FI
  refine AS (fun g=>?_) fun g=>skip (fun hf=>g (by have:=hf.2; omega))
  have hf:n.fits:=⟨by omega,by omega⟩
  rw [if_pos hf] at hst hno hyes
  obtain ⟨wv,hok',h5⟩:=IL.1 hwy
  obtain ⟨b2,c2,hwv2,f1,f2,_⟩:=NG h5 (k:=k) (s:={ s with n:=n,kv:=kv,vv:=vv }) (by rw [List.getElem?_set,if_pos rfl,if_pos hkl])
  rw [LV h5,LV h5,f1,AD,AO,Nat.add_zero,AD,f2,AH,LB h5,LV h5,LV h5]
  have hwy':H (A3 sb rb T M::DZ wb sb (L.set k { s with n:=n,kv:=kv,vv:=vv })::pt b1 (.cells [.bool n.leaf,kv,vv] AG false)::AQ kv n.keys::AQ vv n.vals::l) σ2:=hwy.re
  refine w9 hwy' (by omega) (MV.two.cons.cons) hs (by omega) (by omega) ?_ ?_ ?_
  ·intro hor τ ht
   rw [A9]
   have hm:¬ n.May:=by
    rcases hor with h | h
    ·have:=hso.at8; simp only at h; omega
    ·exact h
   rw [if_neg hm] at hno
   refine TM (by decide) ?_
   exact hno 1 τ (by decide) rfl (B8 (by omega) (ht.re:H (A3 sb rb T M::l) τ))
  ·intro _ hm hge τ ht
   rw [if_pos hm,if_neg (by simpa using hge)] at hst
   exact absurd rfl hst
  ·intro hm ha τ ht
   rw [if_pos hm,if_pos ha] at hyes
   rw [A9]
   refine VZ ?_
   rw [CD]
   exact hyes _ τ rfl ht.re
 refine AS (fun g=>?_) fun g=>?_
 ·rw [LV h3',hlv,AH]
  rcases k3 with h | h
  ·exact h
  ·omega
 ·unfold FI
  exact skip (fun hf=>g (by have:=hf.1; omega))
def Nd.setN (n:Nd) (i key val:Nat):Nd:=⟨n.leaf,setF i key val true n.keys,setF i key val false n.vals⟩
theorem WH {n:Nd} {i key val:Nat} (h:n.small) (hk:key<18446744073709551616) (hv:val<18446744073709551616):(n.setN i key val).small:=by
 refine ⟨fun x hx=>?_,fun x hx=>?_⟩
 ·rcases List.mem_or_eq_of_mem_set hx with h1 | h1
  ·exact h.1 x h1
  ·simp at h1; omega
 ·rcases List.mem_or_eq_of_mem_set hx with h1 | h1
  ·exact h.2 x h1
  ·simp at h1; omega
theorem AHA {wb sb rb k i key val:Nat} {T:TS} {M:Nat} {L:List Sp} {s:Sp} (h:H (DZ wb sb L::A3 sb rb T M::l) σ) (hM:M≤100000000000) (hk:L[k]?=some s) (hi:i<s.n.keys.length) (hkey:key<18446744073709551616) (hval:val<18446744073709551616)
 (hst:lS T s.at' (s.n.setN i key val)≠.stuck)
 (hno:∀ e σ',e≠0→lS T s.at' (s.n.setN i key val)=.err e T→H (A3 sb rb T (M+1)::l) σ'→Q (.pan (flt e)) σ')
 (hyes:∀ T' kv vv σ',lS T s.at' (s.n.setN i key val)=.ok () T'→H (DZ wb sb (L.set k { s with n:=s.n.setN i key val,kv:=kv,vv:=vv })::A3 sb rb T' (M+1)::l) σ'→Q (.ret (.tuple #[])) σ') :
 E FJ [.pointer (some ⟨wb,0,none⟩),.int .i64 k,.int .i64 i,.int .u64 key,.int .u64 val] σ Q:=by
 apply gJ; unfold VK
 obtain ⟨wv,hok,h2⟩:=IL.1 h
 have hso:=hok s (List.mem_of_getElem? hk)
 obtain ⟨b,c,hwv,e1,e2,e3,e4,e5,e6⟩:=NG h2 hk
 rw [LV h2,e1,AD]
 simp only [AO,AD,Nat.add_assoc,Nat.reduceAdd,Nat.add_zero]
 rw [e3,BR,e4,AD,e5,AD]
 have h3:H (B2 L::A3 sb rb T M::pt wb (.cells [.pointer (some ⟨sb,0,none⟩),wv] A6 false)::AU AB 5 wv L.length (L.map JG).flatten::l) σ:=h2.re
 have h4:=H9 h3 (List.mem_of_getElem? hk)
 have hl:=hso.le
 refine ACU (lf:=s.n.leaf) h4 MV.two hso.eq.symm (by omega) hi ?_
 intro kv' vv' σ1 h5
 rw [CC]
 have h6:H (DZ wb sb L::A3 sb rb T M::AQ kv' (s.n.setN i key val).keys::AQ vv' (s.n.setN i key val).vals::l) σ1:=by
  refine IL.2 ⟨wv,hok,?_⟩
  have h5:H (AQ kv' (s.n.setN i key val).keys::AQ vv' (s.n.setN i key val).vals::AQ s.kv s.n.keys::AQ s.vv s.n.vals::B2 L::A3 sb rb T M::pt wb (.cells [.pointer (some ⟨sb,0,none⟩),wv] A6 false)::AU AB 5 wv L.length (L.map JG).flatten::l) σ1:=h5
  exact h5.re
 refine ADW (n:=s.n.setN i key val) h6 hM hk (WH hso.sm hkey hval) (by simp [Nd.setN,setF]; exact hso.eq) (by simp [Nd.setN,setF]; exact hl) hst ?_ ?_
 ·intro e σ' he hn ht
  rw [ET]
  exact hno e σ' he hn ht
 ·intro T' σ' hn ht
  rw [CD]
  exact hyes T' kv' vv' σ' hn ht
end Go.Ax.C
set_option maxRecDepth 100000
namespace Go.Ax.C
open Go.Proofs Go.RowKit
variable {l r r2 m:List AK} {σ:AHeap} {Q:RK}
structure Wp where
 at':Nat
 n:Nd
 nx:Nat
def Sp.w (s:Sp):Wp:=⟨s.at',s.n,s.nx⟩
def QI (P:List Wp) (k i key val:Nat) (T:TS):R (List Wp) :=
 match P[k]? with
 | none=>.stuck
 | some s=>if i<s.n.keys.length then (lS T s.at' (s.n.setN i key val)).bind fun _ T=>.ok (P.set k { s with n:=s.n.setN i key val }) T else .stuck
def nN (P:List Wp) (a CB:Nat) (T:TS):R (List Wp) :=
 match P[P.length - 1]? with
 | none=>.ok P T
 | some s=>if CB=a then .ok P T else match s.n.keys[s.nx]? with
   | none=>.stuck
   | some key=>QI P (P.length - 1) s.nx key CB T
def uN (lower:Bool) (key:Nat) (P:List Wp) (n:Nd) (T:TS):R (List Wp) :=
 match n.keys[0]?,n.vals[0]? with
 | some k0,some v0=>if lower=true∧key<k0 then QI P (P.length - 1) 0 key v0 T else .ok P T
 | _,_=>.stuck
def kZ (key:Nat) (P:List Wp) (go:List Wp→Nat→TS→R (List Wp)) (T:TS):R (List Wp) :=
 match P[P.length - 1]? with
 | none=>.stuck
 | some s=>match s.n.vals[CU s.n.keys key]? with
   | none=>.stuck
   | some v=>go (P.set (P.length - 1) { s with nx:=CU s.n.keys key }) v T
def HG (lower:Bool) (key:Nat):Nat→List Wp→Nat→TS→R (List Wp)
 | 0,_,_,T=>.err 23 T
 | f+1,P,a,T=>(T.shadow a).bind fun q T=>(nN P a q.1 T).bind fun P T =>
    if q.2.leaf then .ok (P++[⟨q.1,q.2,0⟩]) T
    else (uN lower key (P++[⟨q.1,q.2,0⟩]) q.2 T).bind fun P T=>kZ key P (HG lower key f) T
theorem wU {wb sb rb k i key val:Nat} {T:TS} {M:Nat} {L:List Sp} (h:H (DZ wb sb L::A3 sb rb T M::l) σ) (hM:M≤100000000000) (hkey:key<18446744073709551616) (hval:val<18446744073709551616)
 (hst:QI (L.map Sp.w) k i key val T≠.stuck)
 (hno:∀ e T' σ',e≠0→QI (L.map Sp.w) k i key val T=.err e T'→H (A3 sb rb T' (M+1)::l) σ'→Q (.pan (flt e)) σ')
 (hyes:∀ T' L' σ',L'.length=L.length→QI (L.map Sp.w) k i key val T=.ok (L'.map Sp.w) T'→H (DZ wb sb L'::A3 sb rb T' (M+1)::l) σ'→Q (.ret (.tuple #[])) σ') :
 E FJ [.pointer (some ⟨wb,0,none⟩),.int .i64 k,.int .i64 i,.int .u64 key,.int .u64 val] σ Q:=by
 unfold QI at hst hno hyes
 cases hk:L[k]? with
 | none=>rw [List.getElem?_map,hk] at hst; exact absurd rfl hst
 | some s =>
   rw [List.getElem?_map,hk] at hst hno hyes
   simp only [Option.map_some] at hst hno hyes
   have hw:s.w=⟨s.at',s.n,s.nx⟩:=rfl
   rw [hw] at hst hno hyes
   simp only at hst hno hyes
   by_cases hi:i<s.n.keys.length
   ·rw [if_pos hi] at hst hno hyes
    refine AHA h hM hk hi hkey hval (fun e=>hst (by rw [e]; rfl)) ?_ ?_
    ·intro e σ' he hn ht
     exact hno e T σ' he (by rw [hn]; rfl) ht
    ·intro T' kv vv σ' hn ht
     refine hyes T' _ σ' (by simp) ?_ ht
     rw [hn,List.map_set]; rfl
   ·rw [if_neg hi] at hst; exact absurd rfl hst
theorem AB1 {wb sb sb2:Nat} {wv:Value} {L:List Sp} {s:Sp} {K:Value×AHeap→Prop} (h:H (pt sb2 (.cells (JG s) AB false)::eY wb sb wv L (AQ s.kv s.n.keys::AQ s.vv s.n.vals::l)) σ) (hok:∀ s∈L,TO s) (hs:TO s) (hL:L.length≤1000)
 (hK:∀ w σ',one w=true→(∀ τ,H (pt wb (.cells [.pointer (some ⟨sb,0,none⟩),w] A6 false)::AU AB 5 w (L.length+1) ((L++[s]).map JG).flatten::B2 (L++[s])::l) τ→H (DZ wb sb (L++[s])::l) τ)→H (pt wb (.cells [.pointer (some ⟨sb,0,none⟩),wv] A6 false)::AU AB 5 w (L.length+1) ((L++[s]).map JG).flatten::B2 (L++[s])::l) σ'→K (w,σ')) :
 pu (BZ AB 5 72 wv (.slice (some ⟨sb2,0,none⟩) 1 1) σ) K:=by
 have ht:D5 5 (.slice (some ⟨sb2,0,none⟩) 1 1) σ=some (1,JG s):=by
  rw [FO (h.row 0 rfl) (by simp [JG])]; rfl
 refine DR h 2 rfl ht (by omega) (by omega) (by simp only [JG,List.all_cons,hs.o1,hs.o2,List.all_nil]; rfl) ?_
 intro w σ1 h1
 have ho:=O.SY h1 (i:=2) rfl
 have h2:H (pt sb2 (.cells (JG s) AB false)::pt wb (.cells [.pointer (some ⟨sb,0,none⟩),wv] A6 false)::AU AB 5 w (L.length+1) ((L.map JG).flatten++JG s)::B2 L::AQ s.kv s.n.keys::AQ s.vv s.n.vals::l) σ1:=h1
 have e:(L.map JG).flatten++JG s=((L++[s]).map JG).flatten:=by simp
 rw [e] at h2
 refine hK w σ1 ho (fun τ ht=>IL.2 ⟨w,fun x hx=>?_,?_⟩) ?_
 ·rcases List.mem_append.1 hx with h | h
  ·exact hok x h
  ·simp at h; subst h; exact hs
 ·unfold eY
  rw [List.length_append]
  exact ht
 ·have h3:H (AQ s.kv s.n.keys::AQ s.vv s.n.vals::B2 L::pt wb (.cells [.pointer (some ⟨sb,0,none⟩),wv] A6 false)::AU AB 5 w (L.length+1) ((L++[s]).map JG).flatten::l) σ1:=h2.re
  have h4:=(aB s).2 h3
  have h5:H (sep (B2 L) (B2 [s])::pt wb (.cells [.pointer (some ⟨sb,0,none⟩),wv] A6 false)::AU AB 5 w (L.length+1) ((L++[s]).map JG).flatten::l) σ1:=by
   rw [BB]; exact h4.perm (.swap _ _ _)
  rw [← QJ] at h5
  exact h5.re
theorem vC {sb rb:Nat} {T:TS} {M:Nat} (h:H (A3 sb rb T M::l) σ):L sb 0 σ=some (.pointer (some ⟨rb,0,none⟩)):=by
 obtain ⟨cb,dv,K,C,D,_,h6⟩:=PV.1 h
 exact t4 h6
theorem AAR {N1:Int→AHeap→Prop} {wb sb rb key:Nat} {T:TS} {M:Nat} {L:List Sp} {s:Sp} {go:List Wp→Nat→TS→R (List Wp)} (h:H (DZ wb sb L::A3 sb rb T M::l) σ) (hs:L[L.length - 1]?=some s) (hkey:key<18446744073709551616)
 (hst:kZ key (L.map Sp.w) go T≠.stuck)
 (hN:∀ v L' σ',L'.length=L.length→kZ key (L.map Sp.w) go T=go (L'.map Sp.w) v T→v<18446744073709551616→H (DZ wb sb L'::A3 sb rb T M::l) σ'→N1 v σ') :
 HT N1 E Q wb ((L.length - 1:Nat):Int) key σ:=by
 unfold HT
 obtain ⟨wv,hok,h2⟩:=IL.1 h
 have hso:=hok s (List.mem_of_getElem? hs)
 have hLl:=(List.getElem?_eq_some_iff.1 hs).1
 obtain ⟨b,c,hwv,e1,e2,e3,e4,e5,e6⟩:=NG h2 hs
 rw [LV h2,e1,AD]
 simp only [AO,AD,Nat.add_assoc,Nat.reduceAdd,Nat.add_zero]
 rw [e3,BR,e4,AD,e5,AD]
 have h3:H (B2 L::A3 sb rb T M::pt wb (.cells [.pointer (some ⟨sb,0,none⟩),wv] A6 false)::AU AB 5 wv L.length (L.map JG).flatten::l) σ:=h2.re
 have h4:=H9 h3 (List.mem_of_getElem? hs)
 have hl:=hso.le
 refine zU (lf:=s.n.leaf) h4 MV.two hso.eq.symm (by omega) ?_
 intro σ1 h5
 rw [A9]
 have h6:H (pt wb (.cells [.pointer (some ⟨sb,0,none⟩),wv] A6 false)::AU AB 5 wv L.length (L.map JG).flatten::B2 L::A3 sb rb T M::l) σ1:=h5.re
 rw [LV h6,e1,AD]
 simp only [AO,AD,Nat.add_assoc,Nat.reduceAdd,Nat.add_zero]
 subst hwv
 have hb5:(L.length - 1)*5+4<(L.map JG).flatten.length:=by
  rw [NR Z5,List.length_map]
  omega
 refine KA h6 1 rfl (by omega) rfl hb5 ?_
 intro σ2 h7
 unfold kZ at hst hN
 have hPs:(L.map Sp.w)[(L.map Sp.w).length - 1]?=some s.w:=by rw [List.length_map,List.getElem?_map,hs]; rfl
 rw [hPs] at hst hN
 simp only at hst hN
 have hw:s.w=⟨s.at',s.n,s.nx⟩:=rfl
 rw [hw] at hst hN
 simp only at hst hN
 cases hv:s.n.vals[CU s.n.keys key]? with
 | none=>rw [hv] at hst; exact absurd rfl hst
 | some v =>
 rw [hv] at hN
 simp only at hN
 have hcl:=(List.getElem?_eq_some_iff.1 hv).1
 have hs1:(L.map JG)[L.length - 1]?=some (JG s):=by rw [List.getElem?_map,hs]; rfl
 have ec:(L.map JG).flatten.set ((L.length - 1)*5+4) (.int .i64 (CU s.n.keys key:Nat))=((L.set (L.length - 1) { s with nx:=CU s.n.keys key }).map JG).flatten:=by
  rw [← jA _ _ _ hb5,US Z5 (c:=JG s) hs1 (by simp),List.map_set]
  rfl
 rw [ec] at h7
 have h8:H (eY wb sb (.slice (some ⟨b,0,none⟩) L.length c) (L.set (L.length - 1) { s with nx:=CU s.n.keys key }) (B2 L::A3 sb rb T M::l)) σ2:=by
  have q0:H (pt wb (.cells [.pointer (some ⟨sb,0,none⟩),.slice (some ⟨b,0,none⟩) L.length c] A6 false)::AU AB 5 (.slice (some ⟨b,0,none⟩) L.length c) L.length ((L.set (L.length - 1) { s with nx:=CU s.n.keys key }).map JG).flatten::B2 L::A3 sb rb T M::l) σ2:=h7
  have q:H (B2 L::pt wb (.cells [.pointer (some ⟨sb,0,none⟩),.slice (some ⟨b,0,none⟩) L.length c] A6 false)::AU AB 5 (.slice (some ⟨b,0,none⟩) L.length c) L.length ((L.set (L.length - 1) { s with nx:=CU s.n.keys key }).map JG).flatten::A3 sb rb T M::l) σ2:=q0.re
  have q2:=H9 q (List.mem_of_getElem? hs)
  have q3:H (B2 [{ s with nx:=CU s.n.keys key }]::B2 L::_) σ2:=(aB { s with nx:=CU s.n.keys key }).2 q2
  have q4:=q3.dup 1 rfl (B2.dup L)
  have q5:H (B2 L::B2 [{ s with nx:=CU s.n.keys key }]::B2 L::pt wb (.cells [.pointer (some ⟨sb,0,none⟩),.slice (some ⟨b,0,none⟩) L.length c] A6 false)::AU AB 5 (.slice (some ⟨b,0,none⟩) L.length c) L.length ((L.set (L.length - 1) { s with nx:=CU s.n.keys key }).map JG).flatten::A3 sb rb T M::l) σ2:=by
   have:=q4.unsnoc
   exact this.re
  have q6:=u7 q5 (by omega:L.length - 1<L.length)
  unfold eY
  rw [List.length_set]
  exact q6.re
 have hsn:(L.set (L.length - 1) { s with nx:=CU s.n.keys key })[L.length - 1]?=some { s with nx:=CU s.n.keys key }:=by rw [List.getElem?_set,if_pos rfl,if_pos (by omega)]
 obtain ⟨b2,c2,hwv2,g1,g2,g3,g4,g5,g6⟩:=NG h8 hsn
 rw [LV h8,g1,AD]
 simp only [AO,AD,Nat.add_assoc,Nat.reduceAdd,Nat.add_zero]
 rw [g5,AD]
 have h9:H (B2 L::l) σ2:=h8.re
 have hus:=(MV.two (l:=B2 L::l) (n:=s.n) σ2 (H9 h9 (List.mem_of_getElem? hs))).2
 obtain ⟨p,ia,la⟩:=DS hus hv
 rw [ia,AD,la,AH]
 refine hN v (L.set (L.length - 1) { s with nx:=CU s.n.keys key }) σ2 (by simp) ?_ (hso.sm.2 v (List.mem_of_getElem? hv)) ?_
 ·rw [List.map_set,List.length_map]; rfl
 ·refine IL.2 ⟨.slice (some ⟨b,0,none⟩) L.length c,fun x hx=>?_,h8.re⟩
  rcases List.mem_or_eq_of_mem_set hx with h | h
  ·exact hok x h
  ·subst h
   have:=hso.eq
   exact ⟨hso.sm,hso.eq,hso.le,hso.at8,show CU s.n.keys key<1000 by omega,hso.o1,hso.o2⟩
set_option maxHeartbeats 1000000 in
theorem ADV {sb rb root key:Nat} {lower:Bool} {T:TS} {M:Nat} (h:H (A3 sb rb T M::l) σ) (hM:M≤90000000000) (hroot:root<18446744073709551616) (hkey:key<18446744073709551616) (hst:HG lower key 12 [] root T≠.stuck)
 (hno:∀ e T' σ',e≠0→HG lower key 12 [] root T=.err e T'→H (A3 sb rb T' (M+60)::l) σ'→Q (.pan (flt e)) σ')
 (hyes:∀ wb L T' σ',HG lower key 12 [] root T=.ok (L.map Sp.w) T'→L.length≤12→H (DZ wb sb L::A3 sb rb T' (M+60)::l) σ'→Q (.ret (.pointer (some ⟨wb,0,none⟩))) σ') :
 E PZ [.pointer (some ⟨sb,0,none⟩),.int .u64 root,.int .u64 key,.bool lower] σ Q:=by
 apply rP; unfold dL
 refine nw h ?_
 intro wb σ1 h1
 have h2:=(h1.own_nil AB 5).unsnoc
 have h3:H (DZ wb sb []::A3 sb rb T M::l) σ1:=by
  refine IL.2 ⟨.slice none 0 0,by simp,?_⟩
  have h4:H (B2 []::AU AB 5 (.slice none 0 0) 0 []::pt wb (.cells [.pointer (some ⟨sb,0,none⟩),.slice none 0 0] A6 false)::A3 sb rb T M::l) σ1:=AAJ.2 h2
  have h5:H (pt wb (.cells [.pointer (some ⟨sb,0,none⟩),.slice none 0 0] A6 false)::AU AB 5 (.slice none 0 0) 0 []::B2 []::A3 sb rb T M::l) σ1:=h4.re
  exact h5
 refine ⟨fun m i τ=>∃ (a:Nat) (L:List Sp) (T1:TS),i=a∧a<18446744073709551616∧m=12 - L.length∧L.length≤12∧HG lower key 12 [] root T=HG lower key (12 - L.length) (L.map Sp.w) a T1∧H (DZ wb sb L::A3 sb rb T1 (M+4*L.length)::l) τ,
  ⟨_,root,[],T,rfl,hroot,rfl,by simp,rfl,h3⟩,?_⟩
 clear h h1 h2 h3
 rintro m _ τ ⟨a,L,T1,rfl,ha64,hm,hL,hdn,h⟩
 unfold VB
 obtain ⟨wv,hok,h2⟩:=IL.1 h
 rw [LV h2,cO h2,AH]
 refine AS (fun g=>?_) fun g=>?_
 ·have:12 - L.length=0:=by omega
  rw [this] at hdn
  have hd:HG lower key 12 [] root T=.err 23 T1:=hdn
  refine TM (e:=23) (by decide) ?_
  rw [ET]
  have h4:H (A3 sb rb T1 (M+4*L.length)::l) τ:=h.tail
  exact hno 23 T1 τ (by decide) hd (B8 (by omega) h4)
 obtain ⟨f,hf⟩:∃ f,12 - L.length=f+1:=⟨11 - L.length,by omega⟩
 rw [hf] at hdn
 have hdn2:HG lower key (f+1) (L.map Sp.w) a T1=(T1.shadow a).bind fun q T=>(nN (L.map Sp.w) a q.1 T).bind fun P T =>
  if q.2.leaf then .ok (P++[⟨q.1,q.2,0⟩]) T
  else (uN lower key (P++[⟨q.1,q.2,0⟩]) q.2 T).bind fun P T=>kZ key P (HG lower key f) T:=rfl
 rw [hdn2] at hdn
 clear hdn2
 unfold O9
 have h4:H (A3 sb rb T1 (M+4*L.length)::DZ wb sb L::l) τ:=h.perm (.swap _ _ _)
 refine nE h4 (by omega) (fun e=>hst (by rw [hdn,e]; rfl)) ?_ ?_
 ·intro e T2 τ1 he hsh h5
  rw [MQ,AT,AT]
  refine nw h5 ?_
  intro b41 τ2 h6
  refine bH h6 rfl rfl rfl ?_
  intro τ3 h7
  refine TM he ?_
  rw [ET]
  have h8:H (A3 sb rb T2 (M+4*L.length+2)::l) τ3:=h7.re
  exact hno e T2 τ3 he (by rw [hdn,hsh]; rfl) (B8 (by omega) h8)
 intro CB n T2 kv vv τ1 hsh hmay hsm hown h5
 rw [hsh] at hdn
 simp only [R.bind_ok] at hdn
 have hln:=hmay.1
 obtain ⟨a1,c1,hkv⟩:=AW h5
 obtain ⟨a2,c2,hvv⟩:=AW h5.tail
 have ok1:one kv=true:=by rw [hkv]; rfl
 have ok2:one vv=true:=by rw [hvv]; rfl
 rw [MQ,AT,AT]
 refine nw h5 ?_
 intro b41 τ2 h6
 refine bH h6 rfl ok1 ok2 ?_
 intro τ3 h7
 refine VZ ?_
 rw [CD]
 have hN:=kY h4
 have hhi:=hN.hi
 have h7:H (DZ wb sb L::A3 sb rb T2 (M+4*L.length+2)::pt b41 (.cells [.bool n.leaf,kv,vv] AG false)::AQ kv n.keys::AQ vv n.vals::l) τ3:=h7.re
 obtain ⟨wv3,hok3,h8⟩:=IL.1 h7
 rw [LV h8,cO h8,AH]
 refine E1 ((L.length:Int) - 1) (by omega) ?_
 -- behind the link
 have k10:∀ (L3:List Sp) (T3:TS) (τ:AHeap),L3.length=L.length→nN (L.map Sp.w) a CB T2=.ok (L3.map Sp.w) T3→H (DZ wb sb L3::A3 sb rb T3 (M+4*L.length+3)::pt b41 (.cells [.bool n.leaf,kv,vv] AG false)::AQ kv n.keys::AQ vv n.vals::l) τ→JZ (fun n9 σ'=>∃ m',m'<m∧∃ (a:Nat) (L:List Sp) (T1:TS),n9=a∧a<18446744073709551616∧m'=12 - L.length∧L.length≤12∧HG lower key 12 [] root T=HG lower key (12 - L.length) (L.map Sp.w) a T1∧H (DZ wb sb L::A3 sb rb T1 (M+4*L.length)::l) σ') E Q wb CB b41 a lower key τ:=by
  intro L3 T3 τ hl3 hlnk ht
  rw [hlnk] at hdn
  simp only [R.bind_ok] at hdn
  unfold JZ
  obtain ⟨wv,hok,h2⟩:=IL.1 ht
  rw [LV h2,LB h2,LV h2,LV h2]
  refine nw h2 ?_
  intro b97 τ1 h3
  obtain ⟨_,_,wa,wc,hwv⟩:=h3.own_src 2 rfl
  rw [LV h3]
  have:AX wv wv=true:=by rw [hwv]; simp [AX,xE,aQ]
  refine ⟨this,?_⟩
  have hs:TO ⟨CB,n,0,kv,vv⟩:=⟨hsm,hln.2.2,(show n.keys.length≤400 by omega),(show CB<2147483648 by omega),(show 0<1000 by omega),ok1,ok2⟩
  have h3:H (pt b97 (.cells (JG ⟨CB,n,0,kv,vv⟩) AB false)::eY wb sb wv L3 (AQ kv n.keys::AQ vv n.vals::A3 sb rb T3 (M+4*L.length+3)::pt b41 (.cells [.bool n.leaf,kv,vv] AG false)::AQ kv n.keys::AQ vv n.vals::l)) τ1:=by
   have q:H (AQ kv n.keys::_) τ1:=h3.fnd (AQ kv n.keys)
   have q2:=aI q
   have q3:H (AQ vv n.vals::_) τ1:=q2.fnd (AQ vv n.vals)
   have q4:=aI q3
   have q5:H (pt b97 (.cells [.int .u64 (CB:Nat),.bool n.leaf,kv,vv,.int .i64 0] AB false)::eY wb sb wv L3 (AQ kv n.keys::AQ vv n.vals::A3 sb rb T3 (M+4*L.length+3)::pt b41 (.cells [.bool n.leaf,kv,vv] AG false)::AQ kv n.keys::AQ vv n.vals::l)) τ1:=q4.re
   exact q5
  refine AB1 h3 hok hs (by omega) ?_
  intro w τ2 how hin h4
  refine st h4 how ?_
  intro τ3 h5
  have h6:=hin τ3 h5
  have hmap:L3.map Sp.w++[(⟨CB,n,0⟩:Wp)]=(L3++[(⟨CB,n,0,kv,vv⟩:Sp)]).map Sp.w:=by simp [Sp.w]
  rw [hmap] at hdn
  have hb:H (pt b41 (.cells [.bool n.leaf,kv,vv] AG false)::AQ kv n.keys::AQ vv n.vals::l) τ3:=h6.re
  rw [LB hb]
  have hlen4:(L3++[(⟨CB,n,0,kv,vv⟩:Sp)]).length=L.length+1:=by simp [hl3]
  refine cN (fun gl=>?_) fun gl=>?_
  ·rw [if_pos gl] at hdn
   have h7:H (A3 sb rb T3 (M+4*L.length+3)::DZ wb sb (L3++[⟨CB,n,0,kv,vv⟩])::l) τ3:=h6.re
   exact hyes wb _ T3 τ3 hdn (by omega) ((B8 (N:=M+60) (by omega) h7).perm (.swap _ _ _))
  rw [if_neg (by simp [gl])] at hdn
  obtain ⟨wv5,hok5,h7⟩:=IL.1 h6
  rw [LV h7,cO h7,AH]
  refine E1 ((((L3++[(⟨CB,n,0,kv,vv⟩:Sp)]).length - 1:Nat)):Int) (by omega) ?_
  -- behind the lower key
  have k16:∀ (L5:List Sp) (T5:TS) (τ:AHeap),L5.length=L.length+1→uN lower key ((L3++[(⟨CB,n,0,kv,vv⟩:Sp)]).map Sp.w) n T3=.ok (L5.map Sp.w) T5→H (DZ wb sb L5::A3 sb rb T5 (M+4*L.length+4)::l) τ→HT (fun n9 σ'=>∃ m',m'<m∧∃ (a:Nat) (L:List Sp) (T1:TS),n9=a∧a<18446744073709551616∧m'=12 - L.length∧L.length≤12∧HG lower key 12 [] root T=HG lower key (12 - L.length) (L.map Sp.w) a T1∧H (DZ wb sb L::A3 sb rb T1 (M+4*L.length)::l) σ') E Q wb (((L3++[(⟨CB,n,0,kv,vv⟩:Sp)]).length - 1:Nat):Int) key τ:=by
   intro L5 T5 τ hl5 hlow ht
   rw [hlow] at hdn
   simp only [R.bind_ok] at hdn
   obtain ⟨s5,hs5⟩:∃ s,L5[L5.length - 1]?=some s:=⟨_,List.getElem?_eq_getElem (by omega)⟩
   rw [hlen4,← hl5]
   refine AAR (go:=HG lower key f) ht hs5 hkey (fun e=>hst (by rw [hdn,e])) ?_
   intro v L6 τ6 hl6 hnx hv ht6
   rw [hnx] at hdn
   refine ⟨12 - L6.length,by omega,v,L6,T5,rfl,hv,rfl,by omega,?_,?_⟩
   ·rw [hdn,show 12 - L6.length=f by omega]
   ·have:M+4*L6.length=M+4*L.length+4:=by omega
    rw [this]; exact ht6
  have hk0:∃ k0 v0,n.keys[0]?=some k0∧n.vals[0]?=some v0:=⟨_,_,List.getElem?_eq_getElem (by omega),List.getElem?_eq_getElem (by omega)⟩
  obtain ⟨k0,v0,hk0,hv0⟩:=hk0
  have hlo:uN lower key ((L3++[(⟨CB,n,0,kv,vv⟩:Sp)]).map Sp.w) n T3=if lower=true∧key<k0 then QI ((L3++[(⟨CB,n,0,kv,vv⟩:Sp)]).map Sp.w) (((L3++[(⟨CB,n,0,kv,vv⟩:Sp)]).map Sp.w).length - 1) 0 key v0 T3 else .ok ((L3++[(⟨CB,n,0,kv,vv⟩:Sp)]).map Sp.w) T3:=by
   unfold uN; rw [hk0,hv0]
  have hdrop:H (A3 sb rb T3 (M+4*L.length+3)::DZ wb sb (L3++[⟨CB,n,0,kv,vv⟩])::l) τ3:=h6.re
  have k15f:(¬ (lower=true∧key<k0))→HY (fun n9 σ'=>∃ m',m'<m∧∃ (a:Nat) (L:List Sp) (T1:TS),n9=a∧a<18446744073709551616∧m'=12 - L.length∧L.length≤12∧HG lower key 12 [] root T=HG lower key (12 - L.length) (L.map Sp.w) a T1∧H (DZ wb sb L::A3 sb rb T1 (M+4*L.length)::l) σ') E Q false wb (((L3++[(⟨CB,n,0,kv,vv⟩:Sp)]).length - 1:Nat):Int) key b41 τ3:=by
   intro hc
   unfold HY
   refine B7 rfl ?_
   exact k16 _ T3 τ3 hlen4 (by rw [hlo,if_neg hc]) ((B8 (N:=M+4*L.length+4) (by omega) hdrop).perm (.swap _ _ _))
  refine cN (fun gw=>?_) fun gw=>?_
  ·have husk:=MV.two (l:=l) τ3 hb.tail
   obtain ⟨p,ia,la⟩:=DS husk.1 hk0
   rw [LV hb,show (0:Int)=((0:Nat):Int) from rfl,ia,AD,la,AH]
   by_cases hlt:key<k0
   ·have e:decide ((key:Int)<(k0:Int))=true:=by simp; omega
    rw [e]
    unfold HY
    refine G8 rfl ?_
    obtain ⟨p2,ia2,la2⟩:=DS husk.2 hv0
    rw [LV hb,show (0:Int)=((0:Nat):Int) from rfl,ia2,AD,la2,AH]
    rw [if_pos ⟨gw,hlt⟩] at hlo
    rw [List.length_map] at hlo
    refine wU h6 (by omega) hkey (hsm.2 v0 (List.mem_of_getElem? hv0)) (fun e=>hst (by rw [hdn,hlo,e]; rfl)) ?_ ?_
    ·intro e T4 τ4 he hse h9
     rw [ET]
     have h10:H (A3 sb rb T4 (M+4*L.length+3+1)::l) τ4:=h9.re
     exact hno e T4 τ4 he (by rw [hdn,hlo,hse]; rfl) (B8 (by omega) h10)
    ·intro T4 L5 τ4 hl5 hse h9
     rw [CD]
     exact k16 L5 T4 τ4 (by omega) (by rw [hlo,hse]) h9.re
   ·have e:decide ((key:Int)<(k0:Int))=false:=by simp; omega
    rw [e]
    exact k15f (fun h=>hlt h.2)
  ·exact k15f (fun h=>by rw [gw] at h; exact absurd h.1 (by decide))
 by_cases hL0:L.length=0
 ·refine AS (fun g=>absurd g (by omega)) fun _=>?_
  unfold K4
  refine B7 rfl ?_
  have hnil:L=[]:=List.length_eq_zero_iff.1 hL0
  subst hnil
  have h9:H (A3 sb rb T2 (M+4*([]:List Sp).length+2)::DZ wb sb []::pt b41 (.cells [.bool n.leaf,kv,vv] AG false)::AQ kv n.keys::AQ vv n.vals::l) τ3:=h7.re
  exact k10 [] T2 τ3 rfl rfl ((B8 (N:=M+4*([]:List Sp).length+3) (by omega) h9).perm (.swap _ _ _))
 refine AS (fun _=>?_) fun g=>absurd (by omega) g
 obtain ⟨s,hs⟩:∃ s,L[L.length - 1]?=some s:=⟨_,List.getElem?_eq_getElem (by omega)⟩
 have hlk:nN (L.map Sp.w) a CB T2=if CB=a then .ok (L.map Sp.w) T2 else match s.n.keys[s.nx]? with
  | none=>.stuck
  | some key=>QI (L.map Sp.w) (L.length - 1) s.nx key CB T2:=by
  unfold nN
  rw [List.length_map,List.getElem?_map,hs]; rfl
 unfold K4
 rw [show ((L.length:Int) - 1)=((L.length - 1:Nat):Int) by omega]
 by_cases hoa:CB=a
 ·rw [if_pos hoa] at hlk
  refine B7 (by simp [hoa]) ?_
  have h9:H (A3 sb rb T2 (M+4*L.length+2)::DZ wb sb L::pt b41 (.cells [.bool n.leaf,kv,vv] AG false)::AQ kv n.keys::AQ vv n.vals::l) τ3:=h7.re
  exact k10 L T2 τ3 rfl hlk ((B8 (N:=M+4*L.length+3) (by omega) h9).perm (.swap _ _ _))
 rw [if_neg hoa] at hlk
 refine G8 (by simp; omega) ?_
 obtain ⟨b,c,hwv,e1,e2,e3,e4,e5,e6⟩:=NG h8 hs
 rw [LV h8,e1,AD]
 simp only [AO,AD,Nat.add_assoc,Nat.reduceAdd,Nat.add_zero]
 rw [e6,AH,LV h8,e1,AD]
 simp only [AO,AD,Nat.add_assoc,Nat.reduceAdd,Nat.add_zero]
 rw [e4,AD,LV h8,e1,AD]
 simp only [AO,AD,Nat.add_assoc,Nat.reduceAdd,Nat.add_zero]
 rw [e6,AH]
 cases hkx:s.n.keys[s.nx]? with
 | none =>
   rw [hkx] at hlk
   exact absurd (by rw [hdn,hlk]; rfl) hst
 | some kx =>
 rw [hkx] at hlk
 simp only at hlk
 have hso:=hok3 s (List.mem_of_getElem? hs)
 have h9:H (B2 L::l) τ3:=h8.re
 obtain ⟨p,ia,la⟩:=DS (MV.two (l:=B2 L::l) (n:=s.n) τ3 (H9 h9 (List.mem_of_getElem? hs))).1 hkx
 rw [ia,AD,la,AH]
 refine wU h7 (by omega) (hso.sm.1 kx (List.mem_of_getElem? hkx)) (by omega) (fun e=>hst (by rw [hdn,hlk,e]; rfl)) ?_ ?_
 ·intro e T4 τ4 he hse h9
  rw [ET]
  have h10:H (A3 sb rb T4 (M+4*L.length+2+1)::l) τ4:=h9.re
  exact hno e T4 τ4 he (by rw [hdn,hlk,hse]; rfl) (B8 (by omega) h10)
 ·intro T4 L5 τ4 hl5 hse h9
  rw [CD]
  exact k10 L5 T4 τ4 hl5 (by rw [hlk,hse]) h9
end Go.Ax.C
set_option maxRecDepth 100000
namespace Go.Ax.C
open Go.Proofs Go.RowKit
variable {l r r2 m:List AK} {σ:AHeap} {Q:RK}
theorem ADS (hQ:Q (.ret (.int .i64 0)) σ):E NO [.nilIface] σ Q:=by
 apply dI; unfold UT
 have e:BF (P.underlying AA0) .eql .nilIface .nilIface=some (.bool true):=by kernel_rfl
 rw [e,BR]
 exact hQ
theorem ADZ {e:Nat} (h:H l σ) (hQ:∀ σ',H l σ'→Q (.ret (.int .i64 e)) σ'):E NO [flt e] σ Q:=by
 apply dI; unfold UT
 have e1:BF (P.underlying AA0) .eql (flt e) .nilIface=some (.bool false):=by unfold flt; kernel_rfl
 have e2:H8 P JA true (flt e)=some (.tuple #[.agg #[.int .i64 e],.bool true]):=by unfold flt; kernel_rfl
 rw [e1,BR]
 refine B7 rfl ?_
 rw [e2,AD,lK,AD,iU,BR]
 refine nw h ?_
 intro b σ1 h1
 unfold St
 refine VJ (vs:=[.int .i64 (e:Nat)]) h1 0 rfl rfl (by omega) rfl (by simp) ?_
 intro σ2 h2
 have h3:H (pt b (.cells [.int .i64 (e:Nat)] JA false)::l) σ2:=h2
 refine B7 rfl ?_
 rw [LI h3]
 exact hQ σ2 h3.tail
def TS.ld (T:TS) (a:Nat):Option Nd:=if a<T.now.length then T.node a else none
theorem ACu {T:TS} {a:Nat} {n:Nd} (h:T.ld a=some n):a<T.now.length∧T.g a=.nd n∧n.fits:=by
 unfold TS.ld at h
 split at h
 ·rename_i ha; exact ⟨ha,lC h⟩
 ·cases h
def C3 (key:Nat):Nat→Nat→TS→R (Nat×Bool)
 | 0,a,T=>if a=0 then .ok (0,false) T else .err 23 T
 | f+1,a,T=>if a=0 then .ok (0,false) T else match T.ld a with
   | none=>.stuck
   | some n =>
     if n.leaf then if n.keys[BA n.keys key]?=some key then match n.vals[BA n.keys key]? with
      | some v=>.ok (v,true) T
      | none=>.stuck else .ok (0,false) T
     else match n.vals[CU n.keys key]? with
      | some v=>C3 key f v T
      | none=>.stuck
theorem l7 {key:Nat}:∀ {f a:Nat} {T T':TS} {v:Nat×Bool},C3 key f a T=.ok v T'→T'=T
 | 0,a,T,T',v,h=>by
   unfold C3 at h
   split at h
   ·cases h; rfl
   ·cases h
 | f+1,a,T,T',v,h=>by
   unfold C3 at h
   split at h
   ·cases h; rfl
   ·split at h
    ·cases h
    ·split at h
     ·split at h
      ·split at h
       ·cases h; rfl
       ·cases h
      ·cases h; rfl
     ·split at h
      ·exact l7 h
      ·cases h
theorem fG {sb rb root key:Nat} {T:TS} {M:Nat} (h:H (A3 sb rb T M::l) σ) (hM:M≤90000000000) (hroot:root<18446744073709551616) (hst:C3 key 12 root T≠.stuck)
 (hno:∀ e T' σ',e≠0→C3 key 12 root T=.err e T'→H (A3 sb rb T (M+12)::l) σ'→Q (.ret (.tuple #[.int .u64 0,.bool false,.int .i64 e])) σ')
 (hyes:∀ v b T' σ',C3 key 12 root T=.ok (v,b) T'→H (A3 sb rb T (M+12)::l) σ'→Q (.ret (.tuple #[.int .u64 v,.bool b,.int .i64 0])) σ') :
 E H3 [.pointer (some ⟨sb,0,none⟩),.int .u64 root,.int .u64 key] σ Q:=by
 apply kL; unfold XR
 refine jB h ?_
 rw [if_neg (by omega),A9]
 refine CA (fun g=>absurd rfl g) fun _=>?_
 refine ⟨fun m i d τ=>∃ (a k:Nat),i=a∧d=k∧m=12 - k∧a<18446744073709551616∧k≤12∧C3 key 12 root T=C3 key (12 - k) a T∧H (A3 sb rb T (M+k)::l) τ,⟨_,root,0,rfl,rfl,rfl,hroot,by omega,rfl,h⟩,?_⟩
 clear h
 rintro m _ _ τ ⟨a,k,rfl,rfl,hm,ha,hk,hl,h⟩
 unfold SO
 have hz:∀ f,C3 key f 0 T=.ok (0,false) T:=fun f=>by cases f<;>rfl
 refine CA (fun g=>?_) fun g=>?_
 ·refine AS (fun g2=>?_) fun g2=>?_
  ·have:k=12:=by omega
   subst this
   have e:C3 key 12 root T=.err 23 T:=by
    rw [hl]; show (if a=0 then _ else _)=_; rw [if_neg (by omega)]
   exact hno 23 T τ (by decide) e h
  ·obtain ⟨f,hf⟩:∃ f,12 - k=f+1:=⟨11 - k,by omega⟩
   rw [hf] at hl
   have hl2:C3 key (f+1) a T=if a=0 then .ok (0,false) T else match T.ld a with
    | none=>.stuck
    | some n =>
      if n.leaf then if n.keys[BA n.keys key]?=some key then match n.vals[BA n.keys key]? with
       | some v=>.ok (v,true) T
       | none=>.stuck else .ok (0,false) T
      else match n.vals[CU n.keys key]? with
       | some v=>C3 key f v T
       | none=>.stuck:=rfl
   rw [hl2,if_neg (by omega)] at hl
   clear hl2
   cases hn:T.ld a with
   | none=>rw [hn] at hl; exact absurd hl hst
   | some n =>
   rw [hn] at hl
   simp only at hl
   obtain ⟨hal,hg,hfit⟩:=ACu hn
   refine AAr h (by omega) hal hg hfit ?_
   intro kv vv τ1 hmay hsm h1
   have hln:=hmay.1
   obtain ⟨a1,c1,hkv⟩:=AW h1
   obtain ⟨a2,c2,hvv⟩:=AW h1.tail
   rw [BS,AT]
   refine nw h1 ?_
   intro b54 τ2 h2
   refine bH h2 rfl (by rw [hkv]; rfl) (by rw [hvv]; rfl) ?_
   intro τ3 h3
   refine CA (fun g=>absurd rfl g) fun _=>?_
   have hns:MV (pt b54 (.cells [.bool n.leaf,kv,vv] AG false)::AQ kv n.keys::AQ vv n.vals::A3 sb rb T (M+k+1)::l) kv vv n:=MV.two.cons
   have fin:∀ {τ:AHeap},H (pt b54 (.cells [.bool n.leaf,kv,vv] AG false)::AQ kv n.keys::AQ vv n.vals::A3 sb rb T (M+k+1)::l) τ→H (A3 sb rb T (M+12)::l) τ:=fun ht=>B8 (by omega) ht.tail.tail.tail
   rw [LB h3]
   refine cN (fun gl=>?_) fun gl=>?_
   ·rw [if_pos gl] at hl
    rw [LB h3,LV h3,LV h3]
    refine AA3 h3 hns hln.2.2.symm (by omega) ?_
    intro τ4 h4
    rw [BS,AT,C8]
    refine CA (p:=n.keys[BA n.keys key]?=some key) (fun gk=>?_) fun gk=>?_
    ·rw [if_neg gk] at hl
     exact hyes 0 false T τ4 hl (fin h4)
    ·rw [if_pos gk] at hl
     cases hv:n.vals[BA n.keys key]? with
     | none=>rw [hv] at hl; exact absurd hl hst
     | some v =>
       rw [hv] at hl
       obtain ⟨p,ia,la⟩:=DS (hns τ4 h4).2 hv
       rw [LV h4,ia,AD,la,AH]
       exact hyes v true T τ4 hl (fin h4)
   ·rw [if_neg (by simp [gl])] at hl
    rw [LV h3,LB h3,LV h3,LV h3]
    refine zU h3 hns hln.2.2.symm (by omega) ?_
    intro τ4 h4
    rw [A9,LV h4]
    refine ⟨by rw [hvv]; simp [AX,xE,aQ],?_⟩
    cases hv:n.vals[CU n.keys key]? with
    | none=>rw [hv] at hl; exact absurd hl hst
    | some v =>
      rw [hv] at hl
      obtain ⟨p,ia,la⟩:=DS (hns τ4 h4).2 hv
      rw [ia,AD,la,AH]
      refine E1 ((k+1:Nat):Int) (by omega) ?_
      refine ⟨12 - (k+1),by omega,v,k+1,rfl,rfl,rfl,hsm.2 v (List.mem_of_getElem? hv),by omega,?_,h4.tail.tail.tail⟩
      rw [hl,show 12 - (k+1)=f by omega]
 ·have:a=0:=by omega
  subst this
  exact hyes 0 false T τ (by rw [hl,hz]) (B8 (by omega) h)
end Go.Ax.C
set_option maxRecDepth 100000
namespace Go.Ax.C
open Go.Proofs Go.RowKit
variable {l r r2 m:List AK} {σ:AHeap} {Q:RK}
theorem AE5 {v:Value} {xs:List Nat} (h:H l σ) [k:Fnd l (AQ v xs) r]:H (AQ v xs::l) σ :=
 (aI (h.fnd (AQ v xs))).perm ((k.perm.symm).cons _)
theorem mk2 {b x y:Nat} (h:H (pt b (.cells [.int .u64 x,.int .u64 y] AJ false)::l) σ):H (AQ (.slice (some ⟨b,0,none⟩) 2 2) [x,y]::l) σ :=
 KY (n:=2) (h.to_own (n:=2) (z:=1) 0 rfl rfl (by unfold A4; omega))
theorem mk1 {b x:Nat} (h:H (pt b (.cells [.int .u64 x] AJ false)::l) σ):H (AQ (.slice (some ⟨b,0,none⟩) 1 1) [x]::l) σ :=
 KY (n:=1) (h.to_own (n:=1) (z:=1) 0 rfl rfl (by unfold A4; omega))
theorem kP {v:Value} {xs:List Nat} {k x:Nat} {p:Addr} (h:Us σ v xs) (hk:xs[k]?=some x) (ia:AE 1 v (.int .i64 k)=some (.pointer (some p))):AF false 1 (.pointer (some p)) σ=some (.int .u64 x):=by
 obtain ⟨q,h1,h2⟩:=DS h hk
 rw [ia] at h1
 cases h1
 exact h2
theorem UV {v:Value} {p:Prop} (h:∃ a n c,v=.slice a n c):(AX v v=true∧p)=p:=by
 obtain ⟨a,n,c,rfl⟩:=h
 exact LX
def Nd.insN (n:Nd) (i key val:Nat):Nd:=⟨n.leaf,SA i key val true n.keys,SA i key val false n.vals⟩
def Nd.lo (n:Nd):Nd:=⟨n.leaf,n.keys.take (EB n),n.vals.take (EB n)⟩
def Nd.hi (n:Nd):Nd:=⟨n.leaf,n.keys.drop (EB n),n.vals.drop (EB n)⟩
theorem lJ {n:Nd} {i key val:Nat} (h:n.small) (hk:key<18446744073709551616) (hv:val<18446744073709551616):(n.insN i key val).small:=by
 refine ⟨fun x hx=>?_,fun x hx=>?_⟩
 ·simp only [Nd.insN,SA,if_true,List.mem_append,List.mem_cons] at hx
  rcases hx with h1 | h1 | h1
  ·exact h.1 x (List.mem_of_mem_take h1)
  ·omega
  ·exact h.1 x (List.mem_of_mem_drop h1)
 ·simp only [Nd.insN,SA,Bool.false_eq_true,if_false,List.mem_append,List.mem_cons] at hx
  rcases hx with h1 | h1 | h1
  ·exact h.2 x (List.mem_of_mem_take h1)
  ·omega
  ·exact h.2 x (List.mem_of_mem_drop h1)
theorem wP {n:Nd} {i key val:Nat} (h:n.vals.length=n.keys.length) (hi:i≤n.keys.length):(n.insN i key val).keys.length=n.keys.length+1∧(n.insN i key val).vals.length=(n.insN i key val).keys.length:=by
 simp [Nd.insN,SA]; omega
theorem pA {n:Nd} (h:n.small):n.lo.small:=⟨fun x hx=>h.1 x (List.mem_of_mem_take hx),fun x hx=>h.2 x (List.mem_of_mem_take hx)⟩
theorem p4 {n:Nd} (h:n.small):n.hi.small:=⟨fun x hx=>h.1 x (List.mem_of_mem_drop hx),fun x hx=>h.2 x (List.mem_of_mem_drop hx)⟩
def D6 (P:List Wp) (k:Nat) (n:Nd) (T:TS):R (List Wp) :=
 match P[k]? with
 | none=>.stuck
 | some s=>(lS T s.at' n).bind fun _ T=>.ok (P.set k { s with n:=n }) T
theorem bX {wb sb rb k:Nat} {T:TS} {M:Nat} {L:List Sp} {n:Nd} {kv vv:Value} (h:H (DZ wb sb L::A3 sb rb T M::AQ kv n.keys::AQ vv n.vals::l) σ) (hM:M≤100000000000)
 (hs:n.small) (he:n.vals.length=n.keys.length) (hl:n.keys.length≤400) (hst:D6 (L.map Sp.w) k n T≠.stuck)
 (hno:∀ e T' σ',e≠0→D6 (L.map Sp.w) k n T=.err e T'→H (A3 sb rb T' (M+1)::l) σ'→Q (.pan (flt e)) σ')
 (hyes:∀ T' L' σ',L'.length=L.length→D6 (L.map Sp.w) k n T=.ok (L'.map Sp.w) T'→H (DZ wb sb L'::A3 sb rb T' (M+1)::l) σ'→Q (.ret (.tuple #[])) σ') :
 E CW [.pointer (some ⟨wb,0,none⟩),.int .i64 k,.agg #[.bool n.leaf,kv,vv]] σ Q:=by
 unfold D6 at hst hno hyes
 cases hk:L[k]? with
 | none=>rw [List.getElem?_map,hk] at hst; exact absurd rfl hst
 | some s =>
   rw [List.getElem?_map,hk] at hst hno hyes
   simp only [Option.map_some] at hst hno hyes
   have hw:s.w=⟨s.at',s.n,s.nx⟩:=rfl
   rw [hw] at hst hno hyes
   simp only at hst hno hyes
   refine ADW h hM hk hs he hl (fun e=>hst (by rw [e]; rfl)) ?_ ?_
   ·intro e σ' he hn ht
    exact hno e T σ' he (by rw [hn]; rfl) ht
   ·intro T' σ' hn ht
    refine hyes T' (L.set k { s with n:=n,kv:=kv,vv:=vv }) σ' (by simp) ?_ ht
    rw [hn,List.map_set]; rfl
def HP (P:List Wp) (k:Nat) (T:TS):R (List Wp) :=
 match P[k]? with
 | none=>.stuck
 | some x =>
   if x.n.keys.length≤8 then .ok P T
   else (D6 P k x.n.lo T).bind fun P T=>(T.make x.n.hi).bind fun a T=>match x.n.lo.keys[0]?,x.n.hi.keys[0]? with
    | some a0,some b0 =>
      if 0<k then match P[k - 1]? with
       | none=>.stuck
       | some up=>if up.nx+1≤up.n.keys.length∧up.n.keys.length<400 then D6 P (k - 1) (up.n.insN (up.nx+1) b0 a) T else .stuck
      else (T.make ⟨false,[a0,b0],[x.at',a]⟩).bind fun top T=>.ok (⟨top,⟨false,[a0,b0],[x.at',a]⟩,0⟩::P) T
    | _,_=>.stuck
theorem wN {T T':TS} {n:Nd} {a:Nat} (h:T.make n=.ok a T'):a<T.now.length∧T'.now.length=T.now.length∧T'.was=T.was∧n.May:=by
 unfold TS.make at h
 split at h
 ·rename_i hm
  unfold TS.alloc at h
  split at h
  ·cases h
  ·rename_i b hb
   cases h
   refine ⟨?_,by simp [TS.put],rfl,hm⟩
   unfold XL at hb
   rw [List.findIdx?_eq_some_iff_getElem] at hb
   obtain ⟨h1,_⟩:=hb
   simp [UA] at h1; omega
 ·cases h
theorem yN {wb sb rb b a0 b0 xa a:Nat} {T:TS} {M:Nat} {L:List Sp} {kv vv:Value} (h:H (pt b (.cells [.bool false,kv,vv] AG false)::AQ kv [a0,b0]::AQ vv [xa,a]::DZ wb sb L::A3 sb rb T M::l) σ) (hM:M≤100000000000) (hL:L.length≤100) (hs:(⟨false,[a0,b0],[xa,a]⟩:Nd).small)
 (hno:∀ e T' σ',e≠0→T.make ⟨false,[a0,b0],[xa,a]⟩=.err e T'→H (A3 sb rb T' (M+1)::l) σ'→Q (.pan (flt e)) σ')
 (hyes:∀ top T' kv vv σ',T.make ⟨false,[a0,b0],[xa,a]⟩=.ok top T'→H (DZ wb sb (⟨top,⟨false,[a0,b0],[xa,a]⟩,0,kv,vv⟩::L)::A3 sb rb T' (M+1)::l) σ'→Q (.ret (.tuple #[])) σ') :
 BN E Q wb b σ:=by
 unfold BN
 have h1:H (DZ wb sb L::pt b (.cells [.bool false,kv,vv] AG false)::AQ kv [a0,b0]::AQ vv [xa,a]::A3 sb rb T M::l) σ:=h.re
 obtain ⟨ak,ck,hkv⟩:=AW h.tail
 obtain ⟨av,cv,hvv⟩:=AW h.tail.tail
 have ok1:one kv=true:=by rw [hkv]; rfl
 have ok2:one vv=true:=by rw [hvv]; rfl
 obtain ⟨wv,hok,h2⟩:=IL.1 h1
 rw [LV h2,LB h2,LV h2,LV h2]
 have h3:H (A3 sb rb T M::AQ kv [a0,b0]::AQ vv [xa,a]::pt b (.cells [.bool false,kv,vv] AG false)::DZ wb sb L::l) σ:=h.re
 have hrf:=(kY h3).hi
 refine ABc (n:=⟨false,[a0,b0],[xa,a]⟩) h3 hM (MV.two (n:=⟨false,[a0,b0],[xa,a]⟩)) hs (by simp) (by simp) ?_ ?_
 ·intro e σ1 he hm h4
  rw [BS,AT,AT]
  refine TM he ?_
  rw [ET]
  have h5:H (A3 sb rb T M::l) σ1:=h4.re
  exact hno e T σ1 he hm (B8 (by omega) h5)
 ·intro top T1 σ1 hm h4
  have hlt:=wN hm
  rw [BS,AT,AT]
  refine VZ ?_
  rw [CD]
  have h5:H (DZ wb sb L::AQ kv [a0,b0]::AQ vv [xa,a]::pt b (.cells [.bool false,kv,vv] AG false)::A3 sb rb T1 (M+1)::l) σ1:=h4.re
  obtain ⟨wv1,hok1,h6⟩:=IL.1 h5
  rw [LB h6,LV h6,LV h6,LV h6]
  refine nw h6 ?_
  intro b2 σ2 h7
  rw [LV h7]
  obtain ⟨hsrc,hxl,wa,wc,hwv⟩:=h7.own_src 2 rfl
  rw [UV ⟨_,_,_,hwv⟩]
  have h8:H (AU AB 5 (.slice (some ⟨b2,0,none⟩) 1 1) 1 (JG ⟨top,⟨false,[a0,b0],[xa,a]⟩,0,kv,vv⟩)::eY wb sb wv1 L (AQ kv [a0,b0]::AQ vv [xa,a]::pt b (.cells [.bool false,kv,vv] AG false)::A3 sb rb T1 (M+1)::l)) σ2 :=
   h7.to_own (n:=1) (z:=5) 0 rfl rfl (by unfold A4; omega)
  have hsp:∀ s∈L,TO s:=hok1
  refine DR h8 0 rfl hsrc (by omega) (by omega) ?_ ?_
  ·rw [List.all_eq_true]
   intro v hv
   rw [List.mem_flatten] at hv
   obtain ⟨c,hc,hv⟩:=hv
   obtain ⟨s,hs,rfl⟩:=List.mem_map.1 hc
   have:=hsp s hs
   simp only [JG,List.mem_cons,List.not_mem_nil,or_false] at hv
   rcases hv with rfl | rfl | rfl | rfl | rfl
   ·rfl
   ·rfl
   ·exact this.o1
   ·exact this.o2
   ·rfl
  ·intro w σ3 h9
   have ho:=O.SY h9 (i:=0) rfl
   have h10:H (AU AB 5 w (1+L.length) (JG ⟨top,⟨false,[a0,b0],[xa,a]⟩,0,kv,vv⟩++(L.map JG).flatten)::pt wb (.cells [.pointer (some ⟨sb,0,none⟩),wv1] A6 false)::AU AB 5 wv1 L.length (L.map JG).flatten::B2 L::AQ kv [a0,b0]::AQ vv [xa,a]::pt b (.cells [.bool false,kv,vv] AG false)::A3 sb rb T1 (M+1)::l) σ3:=h9
   refine st h10 ho ?_
   intro σ4 h11
   refine hyes top T1 kv vv σ4 hm (IL.2 ⟨w,fun s hs'=>?_,?_⟩)
   ·rcases List.mem_cons.1 hs' with rfl | hs'
    ·exact ⟨hs,rfl,(show 2≤400 by omega),(show top<2147483648 by omega),(show 0<1000 by omega),ok1,ok2⟩
    ·exact hok1 s hs'
   ·have h12:H (AQ kv [a0,b0]::AQ vv [xa,a]::B2 L::pt wb (.cells [.pointer (some ⟨sb,0,none⟩),w] A6 false)::AU AB 5 w (1+L.length) (JG ⟨top,⟨false,[a0,b0],[xa,a]⟩,0,kv,vv⟩++(L.map JG).flatten)::A3 sb rb T1 (M+1)::l) σ4:=h11.re
    have h13:=(aB (⟨top,⟨false,[a0,b0],[xa,a]⟩,0,kv,vv⟩:Sp)).2 h12
    rw [← BB,← QJ] at h13
    have e1:(⟨top,⟨false,[a0,b0],[xa,a]⟩,0,kv,vv⟩::L:List Sp).length=1+L.length:=by simp; omega
    unfold eY
    rw [e1]
    have h14:H (B2 (⟨top,⟨false,[a0,b0],[xa,a]⟩,0,kv,vv⟩::L)::pt wb (.cells [.pointer (some ⟨sb,0,none⟩),w] A6 false)::AU AB 5 w (1+L.length) (((⟨top,⟨false,[a0,b0],[xa,a]⟩,0,kv,vv⟩::L:List Sp).map JG).flatten)::A3 sb rb T1 (M+1)::l) σ4:=h13
    exact h14.re
end Go.Ax.C
