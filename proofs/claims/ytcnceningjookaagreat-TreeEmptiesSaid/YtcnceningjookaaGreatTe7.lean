/- Texts of one proof,joined. No statement of the seat is proved here. -/
import Derived.Test.YtcnceningjookaaGreatTe6
set_option linter.unusedVariables false
set_option linter.unusedSimpArgs false
set_option linter.unnecessarySimpa false
set_option linter.constructorNameAsVariable false
set_option maxRecDepth 100000
namespace Go.Ax.C
open Go.Proofs Go.RowKit
open O (CacheA Disk It DPlain)
variable {l r r2 m:List AJ} {σ:AHeap} {Q:RK}
theorem m6 {v dv:Value} {K n a:Nat} {C:O.CM} {D:DM} {Q:WK} (h:H (CacheA v dv K C::Disk dv D::l) σ) (hD:DPlain D n) (ha:n≤a) (hQ:Q (.int .i64 6) σ):O.E EH [v,.int .i64 a] σ Q:=by
 have h':=xT.1 h
 obtain ⟨cb,mb,now,rowv,R,M,rfl,hc,hM,hnow,h1⟩:=O.K5 h'
 have h1:=O.NK.1 h1
 obtain ⟨db,hdb⟩:=O.eH h1 4 rfl
 have hlen:=hD.ok.len
 have hn2:=hD.ok.hi
 apply O.JO; unfold O.F6
 have c0:=BK (n:=1) (o:=0) (h1.row 0 rfl)
 simp [c0]
 rw [hdb]
 simp
 unfold O.DE
 simp [c0]
 refine O.yK h1 4 rfl ?_
 rw [hD.off]
 have hna:¬ (a:Int)<0:=by omega
 simp [hna,c0]
 refine O.UW h1 4 rfl (by omega) ?_
 have:D.last.length / 256=n:=by omega
 rw [this]
 unfold O.C4
 simpa [ha] using hQ
theorem uZ {v dv w:Value} {K n a:Nat} {C:O.CM} {D:DM} (h:H l σ) [k1:pH l v (CacheA v dv K C) r] [k2:pH r dv (Disk dv D) r2] (hD:DPlain D n) (ha:n≤a) (hQ:Q (.ret (.int .i64 6)) σ):E EB [v,.int .i64 a,w] σ Q:=by
 have h1:=(h.atv v).perm (k2.perm.cons _)
 refine O.up ?_
 apply O.H5; unfold O.FL
 refine m6 h1 hD ha ?_
 simp
 exact hQ
theorem bT {b:Nat} {q:Bool} {c:List Value} {e:TypeId} {lf:Bool} {x y:Value} {K:Value→AHeap→Prop} (h:H l σ) [f:AtB l b (pt b (.cells c e q)) r] (hc:c.length=3) (hx:one x=true) (hy:one y=true) (hK:∀ σ',H r σ'→K (.agg #[.bool lf,x,y]) σ') :
 pu (AN 3 (.pointer (some ⟨b,0,none⟩)) (.agg #[.bool lf,x,y]) σ) fun τ=>pu (AD true 3 (.pointer (some ⟨b,0,none⟩)) τ) fun v=>K v τ :=
 ABK (h.atb b) hc hx hy hK
inductive Bk where
 | raw (x:List UInt8)
 | nd (n:Nd)
structure TS where
 now:List Nat
 was:List Nat
 g:Nat→Bk
def Nd.fits (n:Nd):Prop:=1≤n.keys.length∧n.keys.length≤8
def mN (a:Nat) (b:Bk) (x:List UInt8):Prop :=
 match b with
 | .raw y=>x=y
 | .nd n=>n.fits→n.May∧n.small∧x=JD n.form a 1
structure ADn (T:TS) (K:Nat) (C:O.CM) (D:DM) (M:Nat):Prop where
 inv:fE C D T.now.length
 fly:D.fly.length≤4*M
 k:K≤2*M
 bk:∀ a<T.now.length,mN a (T.g a) (CW C D a)
abbrev StL (sb rb cb:Nat) (dv:Value) (K:Nat) (C:O.CM) (D:DM) (T:TS) (l:List AJ):List AJ :=
 pt sb (.cells [.pointer (some ⟨rb,0,none⟩),.pointer (some ⟨cb,0,none⟩)] DW false)::WE rb T.now T.was::CacheA (.pointer (some ⟨cb,0,none⟩)) dv K C::Disk dv D::l
def A2 (sb rb:Nat) (T:TS) (M:Nat):AJ:=ex fun p:(Nat×Value×Nat)×O.CM×DM=>sep (IU (ADn T p.1.2.2 p.2.1 p.2.2 M)) (AW (StL sb rb p.1.1 p.1.2.1 p.1.2.2 p.2.1 p.2.2 T []))
theorem OF {sb rb:Nat} {T:TS} {M:Nat}:H (A2 sb rb T M::l) σ↔∃ cb dv K C D,ADn T K C D M∧H (StL sb rb cb dv K C D T l) σ:=by
 unfold A2
 rw [KN]
 constructor
 ·rintro ⟨⟨⟨a,b,c⟩,d,e⟩,h⟩
  rw [BE,BZ,BC] at h
  exact ⟨a,b,c,d,e,h.1,h.2⟩
 ·rintro ⟨a,b,c,d,e,h1,h2⟩
  refine ⟨⟨⟨a,b,c⟩,d,e⟩,?_⟩
  rw [BE,BZ,BC]
  exact ⟨h1,h2⟩
theorem CV {sb rb:Nat} {T:TS} {M N:Nat} (hM:M≤N) (h:H (A2 sb rb T M::l) σ):H (A2 sb rb T N::l) σ:=by
 obtain ⟨cb,dv,K,C,D,h1,h2⟩:=OF.1 h
 exact OF.2 ⟨cb,dv,K,C,D,⟨h1.inv,by have:=h1.fly; omega,by have:=h1.k; omega,h1.bk⟩,h2⟩
theorem fQ {sb rb:Nat} {T:TS} {M:Nat} {a:Int} (h:H (A2 sb rb T M::l) σ) (hQ:Q (.ret (.int .i64 (if 2147483647<a then 1 else 0))) σ):E CZ [.pointer (some ⟨sb,0,none⟩),.int .u64 a] σ Q:=by
 obtain ⟨cb,dv,K,C,D,h1,h2⟩:=OF.1 h
 apply XB; unfold NU
 rw [LV h2,TM,BY]
 refine C8 rfl ?_
 rw [LV h2,TM,BY]
 unfold HD
 refine C8 rfl ?_
 refine AT (fun g=>?_) fun g=>?_
 ·rw [if_pos g] at hQ; exact hQ
 ·rw [if_neg g] at hQ; exact hQ
theorem ACY {sb rb a:Nat} {T:TS} {M:Nat} (h:H (A2 sb rb T M::l) σ) (hM:M≤100000000000) (ha:a<T.now.length)
 (hno:∀ (x:List UInt8) (e:Int) σ',mN a (T.g a) x→x.length=256→e≠0→(QX x a 1=0→zZ (x.take 240))→(QX x a 1≠0→e=QX x a 1)→H (A2 sb rb T (M+1)::l) σ'→Q (.ret (.tuple #[aH,.int .i64 e])) σ')
 (hyes:∀ (x:List UInt8) (n:Nd) kv vv σ',mN a (T.g a) x→n.May→n.small→QX x a 1=0→x.take 240=C3 n.form→H (AO kv n.keys::AO vv n.vals::A2 sb rb T (M+1)::l) σ'→Q (.ret (.tuple #[.agg #[.bool n.leaf,kv,vv],.int .i64 0])) σ') :
 E FD [.pointer (some ⟨sb,0,none⟩),.int .u64 a] σ Q:=by
 apply YC; unfold O9
 refine nw h ?_
 intro b1 σ1 h1
 have hN:=(zI (OF.1 h).choose_spec.choose_spec.choose_spec.choose_spec.choose_spec.2.tail).hi
 refine fQ (h1.perm (.swap _ _ _)) ?_
 rw [if_neg (by omega),A6]
 refine CY (fun g=>absurd rfl g) fun _=>?_
 obtain ⟨cb,dv,K,C,D,hok,h2⟩:=OF.1 (h1.perm (.swap _ _ _))
 rw [LV h2]
 refine GA (a:Int) (by omega) ?_
 have hf:=hok.fly
 have hk:=hok.k
 refine AE4 h2 hok.inv ha (by omega) (by omega) ?_
 intro w σ2 C' D' hI' hn' hc' hf' _ _ h3
 have hbk:mN a (T.g a) (CW C D a):=hok.bk a ha
 have hxl:(CW C D a).length=256:=o3 hok.inv ha
 have hst:∀ {m:List AJ} {τ:AHeap},H (CacheA (.pointer (some ⟨cb,0,none⟩)) dv (K+2) C'::Disk dv D'::pt sb (.cells [.pointer (some ⟨rb,0,none⟩),.pointer (some ⟨cb,0,none⟩)] DW false)::WE rb T.now T.was::m) τ→H (A2 sb rb T (M+1)::m) τ:=by
  intro m τ ht
  refine OF.2 ⟨cb,dv,K+2,C',D',⟨hI',by omega,by omega,fun x hx=>by rw [hc' x hx]; exact hok.bk x hx⟩,ht.re⟩
 rw [BQ,AP]
 refine CY (fun g=>absurd rfl g) fun _=>?_
 refine GA (a:Int) (by omega) ?_
 have h3:H (A5 AI 1 w 256 (bv (CW C D a))::CacheA (.pointer (some ⟨cb,0,none⟩)) dv (K+2) C'::Disk dv D'::pt sb (.cells [.pointer (some ⟨rb,0,none⟩),.pointer (some ⟨cb,0,none⟩)] DW false)::WE rb T.now T.was::pt b1 (.cells [.bool false,.slice none 0 0,.slice none 0 0] AE false)::l) σ2:=h3.re
 refine AEJ (kind:=1) h3 (fun τ ht=>VE ht) hxl (by omega) (by omega) ?_ ?_
 ·intro ho σ3 h4
  rw [BQ,AP]
  refine CY (fun _=>?_) fun g=>absurd g (by omega)
  refine bT (K:=fun v τ=>Q (.ret (.tuple #[v,.int .i64 (QX (CW C D a) a 1:Nat)])) τ) h4 rfl rfl rfl ?_
  intro σ4 h5
  exact hno (CW C D a) (QX (CW C D a) a 1:Nat) σ4 hbk hxl (by omega) (fun e=>absurd e ho) (fun _=>rfl) (hst h5.tail)
 ·intro ho w2 σ3 h4
  rw [BQ,AP]
  refine CY (fun g=>absurd rfl g) fun _=>?_
  refine ADj h4 (fun τ ht=>VE ht) (by simp; omega) ?_ ?_
  ·intro e he hnf σ4 h5
   rw [BQ,AP]
   refine bT (K:=fun v τ=>Q (.ret (.tuple #[v,.int .i64 e])) τ) h5 rfl rfl rfl ?_
   intro σ5 h6
   exact hno _ e σ5 hbk hxl he (fun _=>hnf) (fun g=>absurd ho g) (hst h6.tail.tail)
  ·intro n kv vv σ4 hm hs hx h5
   rw [BQ,AP]
   obtain ⟨a1,c1,hkv⟩:=AS h5
   obtain ⟨a2,c2,hvv⟩:=AS h5.tail
   refine bT (K:=fun v τ=>Q (.ret (.tuple #[v,.int .i64 0])) τ) h5 rfl (by rw [hkv]; rfl) (by rw [hvv]; rfl) ?_
   intro σ5 h6
   refine hyes _ n kv vv σ5 hbk hm hs ho hx ?_
   have h7:H (CacheA (.pointer (some ⟨cb,0,none⟩)) dv (K+2) C'::Disk dv D'::pt sb (.cells [.pointer (some ⟨rb,0,none⟩),.pointer (some ⟨cb,0,none⟩)] DW false)::WE rb T.now T.was::AO kv n.keys::AO vv n.vals::l) σ5:=h6.re
   exact (hst h7).re
theorem ABr {sb rb a:Nat} {T:TS} {M:Nat} {n:Nd} (h:H (A2 sb rb T M::l) σ) (hM:M≤100000000000) (ha:a<T.now.length) (hg:T.g a=.nd n) (hf:n.fits)
 (hQ:∀ kv vv σ',n.May→n.small→H (AO kv n.keys::AO vv n.vals::A2 sb rb T (M+1)::l) σ'→Q (.ret (.tuple #[.agg #[.bool n.leaf,kv,vv],.int .i64 0])) σ') :
 E FD [.pointer (some ⟨sb,0,none⟩),.int .u64 a] σ Q:=by
 have hN:=(zI (OF.1 h).choose_spec.choose_spec.choose_spec.choose_spec.choose_spec.2.tail).hi
 have key:∀ x,mN a (T.g a) x→n.May∧n.small∧QX x a 1=0∧x.take 240=C3 n.form:=by
  intro x hx
  rw [hg] at hx
  obtain ⟨h1,h2,rfl⟩:=hx hf
  have hl:=eN n h1.1.2.2
  have:=h1.1.2.1
  obtain ⟨e1,e2⟩:=t7 (p:=n.form) (a:=a) (kind:=1) (by omega) (by omega) (by omega)
  exact ⟨h1,h2,e1,e2⟩
 refine ACY h hM ha ?_ ?_
 ·intro x e σ' hx _ _ hnf _ _
  obtain ⟨h1,h2,h3,h4⟩:=key x hx
  exact absurd h4 (hnf h3 n h1 h2)
 ·intro x p kv vv σ' hx hm hs _ he h1
  obtain ⟨h2,h3,_,h5⟩:=key x hx
  have:=xC hm h2 hs h3 (he.symm.trans h5)
  subst this
  exact hQ kv vv σ' hm hs h1
end Go.Ax.C
set_option maxRecDepth 100000
namespace Go.Ax.C
open Go.Proofs Go.RowKit
open O (CacheA Disk It DPlain)
variable {l r r2 m:List AJ} {σ:AHeap} {Q:RK}
inductive R (α:Type) where
 | ok (a:α) (T:TS)
 | err (e:Nat) (T:TS)
 | stuck
def R.bind {α β:Type} (r:R α) (k:α→TS→R β):R β :=
 match r with
 | .ok a T=>k a T
 | .err e T=>.err e T
 | .stuck=>.stuck
@[simp] theorem R.bind_ok {α β:Type} (a:α) (T:TS) (k:α→TS→R β):(R.ok a T).bind k=k a T:=rfl
@[simp] theorem R.bind_err {α β:Type} (e:Nat) (T:TS) (k:α→TS→R β):(R.err e T:R α).bind k=.err e T:=rfl
@[simp] theorem R.bind_stuck {α β:Type} (k:α→TS→R β):(R.stuck:R α).bind k=.stuck:=rfl
instance (n:Nd):Decidable n.fits:=by unfold Nd.fits; exact inferInstance
def TS.put (T:TS) (a:Nat) (n:Nd):TS:={ T with g:=fun x=>if x=a then .nd n else T.g x }
def TS.node (T:TS) (a:Nat):Option Nd :=
 match T.g a with
 | .nd n=>if n.fits then some n else none
 | .raw _=>none
def SM (now was:List Nat):Option Nat:=(O4 now was).findIdx? id
def TS.alloc (T:TS):R Nat :=
 match SM T.now T.was with
 | none=>.err 8 T
 | some a=>.ok a { T with now:=T.now.set a 1 }
def TS.inc (T:TS) (a:Nat):R Unit :=
 match T.now[a]? with
 | none=>.stuck
 | some x=>if x=0 then .err 6 T else if x=255 then .err 8 T else .ok () { T with now:=T.now.set a (x+1) }
def TS.dec (T:TS) (a:Nat):R Bool :=
 match T.now[a]? with
 | none=>.stuck
 | some x=>if x=0 then .err 6 T else .ok (decide (x=1)) { T with now:=T.now.set a (x - 1) }
def incs:List Nat→TS→R Unit
 | [],T=>.ok () T
 | v::vs,T=>(T.inc v).bind fun _ T=>incs vs T
def TS.make (T:TS) (n:Nd):R Nat:=if n.May then T.alloc.bind fun a T=>.ok a (T.put a n) else .err 1 T
def TS.shadow (T:TS) (a:Nat):R (Nat×Nd) :=
 match T.node a,T.now[a]?,T.was[a]? with
 | some n,some x,some y =>
   if x=1∧y=0 then .ok (a,n) T
   else if x=0 then .stuck
   else T.alloc.bind fun B0 T=>(if 1<x then incs n.vals T else .ok () T).bind fun _ T=>(T.dec a).bind fun _ T=>.ok (B0,n) (T.put B0 n)
 | _,_,_=>.stuck
theorem jY {T:TS} {a:Nat} {n:Nd} (h:T.node a=some n):T.g a=.nd n∧n.fits:=by
 unfold TS.node at h
 split at h
 ·rename_i p hp
  split at h
  ·rename_i hf; cases h; exact ⟨hp,hf⟩
  ·cases h
 ·cases h
theorem pO {now was:List Nat} (h:∀ a:Nat,(O4 now was)[a]?≠some true):SM now was=none:=by
 unfold SM
 rw [List.findIdx?_eq_none_iff]
 intro x hx
 obtain ⟨i,hi,rfl⟩:=List.getElem_of_mem hx
 have:=h i
 rw [List.getElem?_eq_getElem hi] at this
 simpa using this
theorem pM {now was:List Nat} {a:Nat} (ha:(O4 now was)[a]?=some true) (h:∀ b<a,(O4 now was)[b]?≠some true):SM now was=some a:=by
 unfold SM
 rw [List.findIdx?_eq_some_iff_getElem]
 obtain ⟨hl,he⟩:=List.getElem?_eq_some_iff.1 ha
 refine ⟨hl,he,fun j hj=>?_⟩
 have:=h j hj
 rw [List.getElem?_eq_getElem (by omega)] at this
 simpa using this
theorem jR {sb rb:Nat} {T:TS} {M:Nat} (h:H (A2 sb rb T M::l) σ):kI T.now T.was:=by
 obtain ⟨_,_,_,_,_,_,h2⟩:=OF.1 h
 exact zI h2.tail
theorem ACc {T:TS} {a x:Nat} {n:Nd} {c:Nat→List UInt8} (h:mN x (T.g x) (c x)) (hn:n.May→n.fits→n.small) (hm:n.fits→n.May):mN x ((T.put a n).g x) (if x=a then JD n.form a 1 else c x):=by
 unfold TS.put
 simp only
 by_cases e:x=a
 ·subst e
  rw [if_pos rfl,if_pos rfl]
  intro hf
  exact ⟨hm hf,hn (hm hf) hf,rfl⟩
 ·rw [if_neg e,if_neg e]; exact h
theorem sG {sb rb a:Nat} {T:TS} {M:Nat} {n:Nd} {kv vv:Value} (h:H (A2 sb rb T M::l) σ) (hM:M≤100000000000) (hn:LX l kv vv n) (hs:n.small) (hk9:n.keys.length<9223372036854775808) (hv9:n.vals.length<9223372036854775808)
 (hno:2147483647<a∨¬ n.May→∀ σ',H (A2 sb rb T M::l) σ'→Q (.ret (.int .i64 1)) σ')
 (hnone:a≤2147483647→n.May→T.now.length≤a→∀ σ',H (A2 sb rb T M::l) σ'→Q (.ret (.int .i64 6)) σ')
 (hyes:n.May→a<T.now.length→∀ σ',H (A2 sb rb (T.put a n) (M+1)::l) σ'→Q (.ret (.int .i64 0)) σ') :
 E B9 [.pointer (some ⟨sb,0,none⟩),.int .u64 a,.agg #[.bool n.leaf,kv,vv]] σ Q:=by
 apply ZO; unfold PC
 refine nw h ?_
 intro b1 σ1 h1
 refine fQ (h1.perm (.swap _ _ _)) ?_
 rw [A6]
 by_cases hb:(2147483647:Int)<(a:Int)
 ·rw [if_pos hb]
  refine CY (fun _=>?_) fun g=>absurd g (by omega)
  exact hno (.inl (by omega)) σ1 h1.tail
 rw [if_neg hb]
 refine CY (fun g=>absurd rfl g) fun _=>?_
 rw [LB h1,LV h1,LV h1]
 refine AEx (l:=pt b1 (.cells [.bool n.leaf,kv,vv] AE false)::A2 sb rb T M::l) h1 ((hn.cons).cons) hk9 hv9 ?_ ?_
 ·intro hm σ2 h2
  rw [BQ,AP]
  refine CY (fun _=>?_) fun g=>absurd g (by decide)
  exact hno (.inr hm) σ2 h2.tail
 ·intro hm w σ2 h2
  rw [BQ,AP]
  refine CY (fun g=>absurd rfl g) fun _=>?_
  refine GA (a:Int) (by omega) ?_
  have hfl:=eN n hm.1.2.2
  have:=hm.1.2.1
  refine ADM (kind:=1) h2 (fun τ ht=>sQ ht) (by omega) (by omega) (by omega) ?_
  intro w2 σ3 h3
  rw [BQ,AP]
  refine CY (fun g=>absurd rfl g) fun _=>?_
  have h3:H (A2 sb rb T M::A5 AI 1 w2 256 (bv (JD n.form a 1))::gO w n.form::pt b1 (.cells [.bool n.leaf,kv,vv] AE false)::l) σ3:=h3.re
  obtain ⟨cb,dv,K,C,D,hok,h4⟩:=OF.1 h3
  rw [LV h4]
  refine GA (a:Int) (by omega) ?_
  have hf:=hok.fly
  have hk:=hok.k
  by_cases ha:a<T.now.length
  ·refine AEr h4 hok.inv ha (vG (by omega)) (by omega) (by omega) ?_
   intro σ5 C' D' hI' hn' hc' hf' _ _ _ h5
   rw [A6]
   refine hyes hm ha σ5 ?_
   have h6:H (StL sb rb cb dv (K+2) C' D' T l) σ5:=h5.re
   refine OF.2 ⟨cb,dv,K+2,C',D',⟨hI',by omega,by omega,fun x hx=>?_⟩,h6⟩
   have e:CW C' D' x=if x=a then JD n.form a 1 else CW C D x:=hc' x hx
   rw [e]
   exact ACc (c:=CW C D) (hok.bk x hx) (fun _ _=>hs) (fun _=>hm)
  ·refine uZ h4 hok.inv.dp (by omega) ?_
   rw [A6]
   exact hnone (by omega) hm (by omega) σ3 (h3.re:H (A2 sb rb T M::l) σ3)
theorem lC {sb rb:Nat} {T:TS} {M:Nat} (h:H (A2 sb rb T M::l) σ) {v:Value} (hv:v=.pointer (some ⟨rb,0,none⟩))
 (hno:T.alloc=.err 8 T→∀ σ',H (A2 sb rb T M::l) σ'→Q (.ret (.tuple #[.int .i64 0,.int .i64 8])) σ')
 (hyes:∀ (a:Nat) σ',T.alloc=.ok a { T with now:=T.now.set a 1 }→T.now[a]?=some 0→T.was[a]?=some 0→H (A2 sb rb { T with now:=T.now.set a 1 } M::l) σ'→Q (.ret (.tuple #[.int .i64 a,.int .i64 0])) σ') :
 E ED [v] σ Q:=by
 subst hv
 obtain ⟨cb,dv,K,C,D,hok,h2⟩:=OF.1 h
 have h3:H (WE rb T.now T.was::pt sb (.cells [.pointer (some ⟨rb,0,none⟩),.pointer (some ⟨cb,0,none⟩)] DW false)::CacheA (.pointer (some ⟨cb,0,none⟩)) dv K C::Disk dv D::l) σ:=h2.re
 refine ACP h3 ?_ ?_
 ·intro hn σ1 h4
  exact hno (by unfold TS.alloc; rw [pO hn]) σ1 (OF.2 ⟨cb,dv,K,C,D,hok,h4.re⟩)
 ·intro a σ1 ha hw hb h4
  refine hyes a σ1 (by unfold TS.alloc; rw [pM (by rw [OZ ha hw]; rfl) hb]) ha hw (OF.2 ⟨cb,dv,K,C,D,⟨by simpa using hok.inv,hok.fly,hok.k,fun x hx=>hok.bk x (by simpa using hx)⟩,h4.re⟩)
theorem lQ {sb rb:Nat} {T:TS} {M:Nat} (h:H (A2 sb rb T M::l) σ):∃ l0,H (WE rb T.now T.was::l0) σ∧∀ now' σ',now'.length=T.now.length→H (WE rb now' T.was::l0) σ'→H (A2 sb rb { T with now:=now' } M::l) σ':=by
 obtain ⟨cb,dv,K,C,D,hok,h2⟩:=OF.1 h
 refine ⟨pt sb (.cells [.pointer (some ⟨rb,0,none⟩),.pointer (some ⟨cb,0,none⟩)] DW false)::CacheA (.pointer (some ⟨cb,0,none⟩)) dv K C::Disk dv D::l,h2.re,fun now' σ' hl h3=>?_⟩
 exact OF.2 ⟨cb,dv,K,C,D,⟨by simp only [hl]; exact hok.inv,hok.fly,hok.k,fun x hx=>hok.bk x (by simpa [hl] using hx)⟩,h3.re⟩
theorem yA {sb rb a:Nat} {T:TS} {M:Nat} (h:H (A2 sb rb T M::l) σ) {v:Value} (hv:v=.pointer (some ⟨rb,0,none⟩)) (hst:T.inc a≠.stuck)
 (hno:∀ (e:Nat) σ',e≠0→T.inc a=.err e T→H (A2 sb rb T M::l) σ'→Q (.ret (.int .i64 e)) σ')
 (hyes:∀ T' σ',T.inc a=.ok () T'→H (A2 sb rb T' M::l) σ'→Q (.ret (.int .i64 0)) σ') :
 E FB [v,.int .i64 a] σ Q:=by
 subst hv
 obtain ⟨l0,h1,h2⟩:=lQ h
 unfold TS.inc at hst hno hyes
 cases hx:T.now[a]? with
 | none=>rw [hx] at hst; exact absurd rfl hst
 | some x =>
   rw [hx] at hno hyes
   simp only at hno hyes
   refine AE3 h1 hx (fun e=>hno 6 σ (by decide) (by rw [if_pos e]) h) (fun e=>hno 8 σ (by decide) (by rw [if_neg (by omega),if_pos e]) h) fun h0 h255 σ' h3=>?_
   exact hyes _ σ' (by rw [if_neg h0,if_neg (by omega)]) (h2 _ σ' (by simp) h3)
theorem oZ {sb rb a:Nat} {T:TS} {M:Nat} (h:H (A2 sb rb T M::l) σ) {v:Value} (hv:v=.pointer (some ⟨rb,0,none⟩)) (hst:T.dec a≠.stuck)
 (hno:∀ (e:Nat) σ',e≠0→T.dec a=.err e T→H (A2 sb rb T M::l) σ'→Q (.ret (.tuple #[.bool false,.int .i64 e])) σ')
 (hyes:∀ b T' σ',T.dec a=.ok b T'→H (A2 sb rb T' M::l) σ'→Q (.ret (.tuple #[.bool b,.int .i64 0])) σ') :
 E DI [v,.int .i64 a] σ Q:=by
 subst hv
 obtain ⟨l0,h1,h2⟩:=lQ h
 unfold TS.dec at hst hno hyes
 cases hx:T.now[a]? with
 | none=>rw [hx] at hst; exact absurd rfl hst
 | some x =>
   rw [hx] at hno hyes
   simp only at hno hyes
   refine AEp h1 hx (fun e=>hno 6 σ (by decide) (by rw [if_pos e]) h) fun h0 σ' h3=>?_
   exact hyes _ _ σ' (by rw [if_neg h0]) (h2 _ σ' (by simp) h3)
theorem wS {sb rb:Nat} {T:TS} {M:Nat} {n:Nd} {kv vv:Value} (h:H (A2 sb rb T M::l) σ) (hM:M≤100000000000) (hn:LX l kv vv n) (hs:n.small) (hk9:n.keys.length<9223372036854775808) (hv9:n.vals.length<9223372036854775808)
 (hno:∀ (e:Nat) σ',e≠0→T.make n=.err e T→H (A2 sb rb T M::l) σ'→Q (.ret (.tuple #[.int .u64 0,.int .i64 e])) σ')
 (hyes:∀ (a:Nat) T' σ',T.make n=.ok a T'→H (A2 sb rb T' (M+1)::l) σ'→Q (.ret (.tuple #[.int .u64 a,.int .i64 0])) σ') :
 E FG [.pointer (some ⟨sb,0,none⟩),.agg #[.bool n.leaf,kv,vv]] σ Q:=by
 apply YP; unfold PD
 refine nw h ?_
 intro b1 σ1 h1
 refine fQ (h1.perm (.swap _ _ _)) ?_
 rw [A6,if_neg (by omega)]
 refine CY (fun g=>absurd rfl g) fun _=>?_
 rw [LB h1,LV h1,LV h1]
 refine ADh h1 ((hn.cons).cons) hk9 hv9 ?_
 intro σ2 h2
 rw [E8]
 unfold TS.make at hno hyes
 by_cases hm:n.May
 ·rw [if_pos hm] at hno hyes
  rw [decide_eq_true hm]
  refine C8 rfl ?_
  have h2:H (A2 sb rb T M::pt b1 (.cells [.bool n.leaf,kv,vv] AE false)::l) σ2:=h2.re
  obtain ⟨cb,dv,K,C,D,hok,h3⟩:=OF.1 h2
  rw [LV h3]
  refine lC h2 rfl ?_ ?_
  ·intro ha σ3 h4
   rw [BQ,AP,AP]
   refine CY (fun _=>?_) fun g=>absurd g (by decide)
   refine hno 8 σ3 (by decide) (by rw [ha]; rfl) (h4.re:H (A2 sb rb T M::l) σ3)
  ·intro a σ3 ha hx hy h4
   rw [BQ,AP,AP]
   refine CY (fun g=>absurd rfl g) fun _=>?_
   have hal:=(List.getElem?_eq_some_iff.1 hx).1
   have:=(jR h).hi
   refine YG (a:Int) (by omega) ?_
   rw [LB h4,LV h4,LV h4]
   refine sG h4 hM hn.cons hs hk9 hv9 (fun g=>?_) (fun _ _ g=>?_) ?_
   ·rcases g with g | g
    ·omega
    ·exact absurd hm g
   ·simp at g; omega
   ·intro _ _ σ4 h5
    rw [A6]
    refine CY (fun g=>absurd rfl g) fun _=>?_
    refine YG (a:Int) (by omega) ?_
    exact hyes a _ σ4 (by rw [ha]; rfl) (h5.re:H (A2 sb rb _ (M+1)::l) σ4)
 ·rw [if_neg hm] at hno
  rw [decide_eq_false hm]
  refine IM rfl ?_
  exact hno 1 σ2 (by decide) rfl (h2.re:H (A2 sb rb T M::l) σ2)
end Go.Ax.C
set_option maxRecDepth 100000
namespace Go.Ax.C
open Go.Proofs Go.RowKit
variable {l r r2 m:List AJ} {σ:AHeap} {Q:RK}
theorem FY {v:Value} {xs:List Nat} (h:Us σ v xs) {k x:Nat} (hk:xs[k]?=some x):∃ p,AG 1 v (.int .i64 k)=some (.pointer (some p))∧AD false 1 (.pointer (some p)) σ=some (.int .u64 x):=by
 obtain ⟨p,h1,h2⟩:=LZ h hk
 exact ⟨p,h1 _,h2 _⟩
theorem ACf {T T':TS} {a:Nat} (h:T.inc a=.ok () T'):a<T.now.length∧T'.now.length=T.now.length∧T'.was=T.was∧T'.g=T.g:=by
 unfold TS.inc at h
 split at h
 ·cases h
 ·rename_i x hx
  split at h
  ·cases h
  ·split at h
   ·cases h
   ·cases h; exact ⟨(List.getElem?_eq_some_iff.1 hx).1,by simp,rfl,rfl⟩
theorem ACd {T:TS} {a:Nat} (h:T.inc a≠.stuck):a<T.now.length:=by
 unfold TS.inc at h
 split at h
 ·exact absurd rfl h
 ·rename_i x hx; exact (List.getElem?_eq_some_iff.1 hx).1
theorem yX (T:TS):incs [] T=.ok () T:=rfl
theorem t8 (v:Nat) (vs:List Nat) (T:TS):incs (v::vs) T=(T.inc v).bind fun _ T=>incs vs T:=rfl
theorem lK {sb rb a:Nat} {T:TS} {M:Nat} (h:H (A2 sb rb T M::l) σ) (hM:M≤99999999999) (hst:T.shadow a≠.stuck)
 (hno:∀ (e:Nat) T' σ',e≠0→T.shadow a=.err e T'→H (A2 sb rb T' (M+2)::l) σ'→Q (.ret (.tuple #[.int .u64 0,aH,.int .i64 e])) σ')
 (hyes:∀ (B0:Nat) n T' kv vv σ',T.shadow a=.ok (B0,n) T'→n.May→n.small→B0<T.now.length→H (AO kv n.keys::AO vv n.vals::A2 sb rb T' (M+2)::l) σ'→Q (.ret (.tuple #[.int .u64 B0,.agg #[.bool n.leaf,kv,vv],.int .i64 0])) σ') :
 E EK [.pointer (some ⟨sb,0,none⟩),.int .u64 a] σ Q:=by
 have hN:=jR h
 unfold TS.shadow at hst hno hyes
 cases hnd:T.node a with
 | none=>rw [hnd] at hst; exact absurd rfl hst
 | some n =>
 cases hx:T.now[a]? with
 | none=>rw [hnd,hx] at hst; exact absurd rfl hst
 | some x =>
 cases hy:T.was[a]? with
 | none=>rw [hnd,hx,hy] at hst; exact absurd rfl hst
 | some y =>
 simp only [hnd,hx,hy] at hst hno hyes
 obtain ⟨hg,hf⟩:=jY hnd
 have ha:=(List.getElem?_eq_some_iff.1 hx).1
 have hx8:=hN.now8 x (List.mem_of_getElem? hx)
 have hhi:=hN.hi
 apply VW; unfold M9
 refine nw h ?_
 intro b1 σ1 h1
 refine ABr (h1.perm (.swap _ _ _)) (by omega) ha hg hf ?_
 intro kv vv σ2 hm hs h2
 have hkf:=(⟨hm.1.1,hm.1.2.1⟩:1≤n.keys.length∧n.keys.length≤8)
 have hvl:=hm.1.2.2
 obtain ⟨a1,c1,hkv⟩:=AS h2
 obtain ⟨a2,c2,hvv⟩:=AS h2.tail
 have ok1:one kv=true:=by rw [hkv]; rfl
 have ok2:one vv=true:=by rw [hvv]; rfl
 rw [BQ,AP]
 refine nw h2 ?_
 intro b10 σ3 h3
 refine bJ h3 rfl ok1 ok2 ?_
 intro σ4 h4
 refine CY (fun g=>absurd rfl g) fun _=>?_
 refine GA (a:Int) (by omega) ?_
 have h4:H (A2 sb rb T (M+1)::pt b10 (.cells [.bool n.leaf,kv,vv] AE false)::pt b1 (.cells [.bool false,.slice none 0 0,.slice none 0 0] AE false)::AO kv n.keys::AO vv n.vals::l) σ4:=h4.re
 -- the nodes' memory,whatever comes
 have hns:LX (pt b10 (.cells [.bool n.leaf,kv,vv] AE false)::pt b1 (.cells [.bool false,.slice none 0 0,.slice none 0 0] AE false)::AO kv n.keys::AO vv n.vals::l) kv vv n:=LX.two.cons.cons
 have cold:∀ {τ:AHeap} {T1:TS} {N:Nat},H (A2 sb rb T1 N::l) τ→True:=fun _=>trivial
 -- the shelf's pointers
 have DA:∀ {τ:AHeap} {T1:TS} {N:Nat} {l1:List AJ},H (A2 sb rb T1 N::l1) τ→L sb 0 τ=some (.pointer (some ⟨rb,0,none⟩)):=by
  intro τ T1 N l1 ht
  obtain ⟨cb,dv,K,C,D,_,h6⟩:=OF.1 ht
  exact qO h6
 rw [DA h4,AF]
 obtain ⟨l0,h5,h5'⟩:=lQ h4
 refine AB5 h5 hx hy ?_
 rw [E8]
 -- to the end,with whatever the counts are
 have k19:∀ (B0:Nat) (T2:TS) (τ:AHeap),B0<T.now.length→T2.now.length=T.now.length→T2.was=T.was→T2.g=T.g→(T2.dec a).bind (fun _ T3=>R.ok (B0,n) (T3.put B0 n))≠.stuck →
  (∀ (e:Nat) T' σ',e≠0→(T2.dec a).bind (fun _ T3=>R.ok (B0,n) (T3.put B0 n))=.err e T'→H (A2 sb rb T' (M+2)::l) σ'→Q (.ret (.tuple #[.int .u64 0,aH,.int .i64 e])) σ') →
  (∀ own' n' T' kv vv σ',(T2.dec a).bind (fun _ T3=>R.ok (B0,n) (T3.put B0 n))=.ok (own',n') T'→n'.May→n'.small→own'<T.now.length→H (AO kv n'.keys::AO vv n'.vals::A2 sb rb T' (M+2)::l) σ'→Q (.ret (.tuple #[.int .u64 own',.agg #[.bool n'.leaf,kv,vv],.int .i64 0])) σ') →
  H (A2 sb rb T2 (M+1)::pt b10 (.cells [.bool n.leaf,kv,vv] AE false)::pt b1 (.cells [.bool false,.slice none 0 0,.slice none 0 0] AE false)::AO kv n.keys::AO vv n.vals::l) τ →
  EC E Q sb a b1 B0 b10 τ:=by
  intro B0 T2 τ hown hl2 hw2 hg2 hst2 hno2 hyes2 ht
  unfold EC
  rw [DA ht,AF]
  have hds:T2.dec a≠.stuck:=fun e=>hst2 (by rw [e]; rfl)
  refine oZ ht rfl hds ?_ ?_
  ·intro e τ1 he hde h6
   rw [BQ,EL,AP]
   refine CY (fun _=>?_) fun g=>absurd g (by omega)
   refine bT (K:=fun v τ=>Q (.ret (.tuple #[.int .u64 0,v,.int .i64 e])) τ) h6 rfl rfl rfl ?_
   intro τ2 h7
   exact hno2 e T2 τ2 he (by rw [hde]; rfl) (CV (by omega) (h7.re:H (A2 sb rb T2 (M+1)::l) τ2))
  ·intro b T3 τ1 hde h6
   rw [BQ,EL,AP]
   refine CY (fun g=>absurd rfl g) fun _=>?_
   refine YG (B0:Int) (by omega) ?_
   rw [LB h6,LV h6,LV h6]
   have hl3:T3.now.length=T.now.length:=by
    unfold TS.dec at hde
    split at hde
    ·cases hde
    ·split at hde
     ·cases hde
     ·cases hde; simpa using hl2
   refine sG h6 (by omega) hns hs (by omega) (by omega) (fun g=>?_) (fun _ _ g=>?_) ?_
   ·rcases g with g | g
    ·omega
    ·exact absurd hm g
   ·omega
   ·intro _ _ τ2 h7
    rw [A6]
    refine CY (fun g=>absurd rfl g) fun _=>?_
    refine YG (B0:Int) (by omega) ?_
    rw [LB h7,LV h7,LV h7]
    refine bT (K:=fun v τ=>Q (.ret (.tuple #[.int .u64 B0,v,.int .i64 0])) τ) h7 rfl ok1 ok2 ?_
    intro τ3 h8
    exact hyes2 B0 n _ kv vv τ3 (by rw [hde]; rfl) hm hs hown (h8.re:H (AO kv n.keys::AO vv n.vals::A2 sb rb (T3.put B0 n) (M+2)::l) τ3)
 by_cases hfr:x=1∧y=0
 ·rw [if_pos hfr] at hyes
  obtain ⟨rfl,rfl⟩:=hfr
  refine IM rfl ?_
  rw [DA h4,AF]
  refine rV h5 hx ?_
  rw [A6]
  unfold DH
  refine IM rfl ?_
  rw [LB h4,LV h4,LV h4]
  refine bT (K:=fun v τ=>Q (.ret (.tuple #[.int .u64 a,v,.int .i64 0])) τ) h4 rfl ok1 ok2 ?_
  intro σ5 h6
  have h7:=CV (N:=M+2) (by omega) (h6.re:H (A2 sb rb T (M+1)::AO kv n.keys::AO vv n.vals::l) σ5)
  exact hyes a n T kv vv σ5 rfl hm hs ha h7.re
 rw [if_neg hfr] at hst hno hyes
 by_cases hx0:x=0
 ·rw [if_pos hx0] at hst; exact absurd rfl hst
 rw [if_neg hx0] at hst hno hyes
 have k6:DH E Q false a b10 b1 sb a σ4:=by
  unfold DH
  refine C8 rfl ?_
  rw [DA h4,AF]
  refine lC h4 rfl ?_ ?_
  ·intro hal σ5 h6
   rw [BQ,AP,AP]
   refine CY (fun _=>?_) fun g=>absurd g (by decide)
   refine bT (K:=fun v τ=>Q (.ret (.tuple #[.int .u64 0,v,.int .i64 8])) τ) h6 rfl rfl rfl ?_
   intro σ6 h7
   exact hno 8 T σ6 (by decide) (by rw [hal]; rfl) (CV (by omega) (h7.re:H (A2 sb rb T (M+1)::l) σ6))
  ·intro B0 σ5 hal hox hoy h6
   have hol:=(List.getElem?_eq_some_iff.1 hox).1
   have hne:B0≠a:=fun e=>by subst e; rw [hx] at hox; cases hox; exact hx0 rfl
   rw [hal] at hst hno hyes
   simp only [R.bind_ok] at hst hno hyes
   rw [BQ,AP,AP]
   refine CY (fun g=>absurd rfl g) fun _=>?_
   rw [DA h6,AF]
   obtain ⟨l1,h7,_⟩:=lQ h6
   have hx':(T.now.set B0 1)[a]?=some x:=by rw [List.getElem?_set,if_neg hne]; exact hx
   refine rV h7 hx' ?_
   rw [A6]
   refine AT (fun g=>?_) fun g=>?_
   ·rw [if_pos (by omega)] at hst hno hyes
    have hus:=(hns σ5 h6.tail).2
    rw [LV h6,MV hus,AH]
    refine ⟨fun m i τ=>∃ (k:Nat) (T1:TS),i=k∧m=n.vals.length - k∧k≤n.vals.length∧T1.now.length=T.now.length∧T1.was=T.was∧T1.g=T.g∧incs n.vals { T with now:=T.now.set B0 1 }=incs (n.vals.drop k) T1 ∧
     H (A2 sb rb T1 (M+1)::pt b10 (.cells [.bool n.leaf,kv,vv] AE false)::pt b1 (.cells [.bool false,.slice none 0 0,.slice none 0 0] AE false)::AO kv n.keys::AO vv n.vals::l) τ,
     ⟨_,0,{ T with now:=T.now.set B0 1 },rfl,rfl,by omega,by simp,rfl,rfl,by simp,h6⟩,?_⟩
    rintro m _ τ ⟨k,T1,rfl,hmk,hk,hl1,hw1,hg1,hin,ht⟩
    unfold KD
    refine AT (fun g2=>?_) fun g2=>?_
    ·have hkl:k<n.vals.length:=by omega
     have hv:=List.getElem?_eq_getElem hkl
     obtain ⟨p,ia,la⟩:=FY (hns τ ht.tail).2 hv
     rw [ia,AF,la,AH,DA ht,AF]
     have hd:n.vals.drop k=n.vals[k]::n.vals.drop (k+1):=List.drop_eq_getElem_cons hkl
     rw [hd,t8] at hin
     rw [hin] at hst hno hyes
     have his:T1.inc n.vals[k]≠.stuck:=fun e=>hst (by rw [e]; rfl)
     have hvlt:=ACd his
     refine GA ((n.vals[k]:Nat):Int) (by omega) ?_
     refine yA ht rfl his ?_ ?_
     ·intro e τ1 he hie h8
      rw [A6]
      refine CY (fun _=>?_) fun g=>absurd g (by omega)
      refine bT (K:=fun v τ=>Q (.ret (.tuple #[.int .u64 0,v,.int .i64 e])) τ) h8 rfl rfl rfl ?_
      intro τ2 h9
      exact hno e T1 τ2 he (by rw [hie]; rfl) (CV (by omega) (h9.re:H (A2 sb rb T1 (M+1)::l) τ2))
     ·intro T2 τ1 hie h8
      rw [A6]
      refine CY (fun g=>absurd rfl g) fun _=>?_
      refine GA ((k+1:Nat):Int) (by omega) ?_
      have hk2:=ACf hie
      refine ⟨n.vals.length - (k+1),by omega,k+1,T2,rfl,rfl,by omega,by omega,by rw [hk2.2.2.1,hw1],by rw [hk2.2.2.2,hg1],?_,h8⟩
      rw [hin,hie]; rfl
    ·have hkn:k=n.vals.length:=by omega
     subst hkn
     rw [List.drop_length,yX] at hin
     rw [hin] at hst hno hyes
     exact k19 B0 T1 τ hol hl1 hw1 hg1 hst (fun e T' σ' he h=>hno e T' σ' he h) (fun o' n' T' kv vv σ' h=>hyes o' n' T' kv vv σ' h) ht
   ·rw [if_neg (by omega)] at hst hno hyes
    exact k19 B0 { T with now:=T.now.set B0 1 } σ5 hol (by simp) rfl rfl hst (fun e T' σ' he h=>hno e T' σ' he h) (fun o' n' T' kv vv σ' h=>hyes o' n' T' kv vv σ' h) h6
 refine iK (fun g=>?_) fun g=>?_
 ·rw [DA h4,AF]
  refine rV h5 hx ?_
  rw [A6]
  have:decide ((x:Int)=1)=false:=decide_eq_false (fun e=>hfr ⟨by omega,by simpa using (Bool.and_eq_true_iff.1 g).2⟩)
  rw [this]
  exact k6
 ·exact k6
end Go.Ax.C
set_option maxRecDepth 100000
namespace Go.Ax.C
open Go.Proofs Go.RowKit
variable {l r r2 m:List AJ} {σ:AHeap} {Q:RK}
theorem oT {z:Nat} {css:List (List Value)} {k j:Nat} {c:List Value} (hz:∀ c∈css,c.length=z) (hk:css[k]?=some c) (hj:j<z):css.flatten[k*z+j]?=c[j]?:=by
 have:=congrArg (·[j]?) (Y0 hz hk)
 simp only [List.getElem?_take,if_pos hj,List.getElem?_drop] at this
 exact this
theorem TW {z:Nat}:∀ {css:List (List Value)} {k j:Nat} {c vs:List Value},(∀ c∈css,c.length=z)→css[k]?=some c→j+vs.length≤z→splice css.flatten (k*z+j) vs=(css.set k (splice c j vs)).flatten
 | [],k,j,c,vs,_,h,_=>by simp at h
 | x::css,0,j,c,vs,hz,hk,hj=>by
   simp at hk; subst hk
   have hx:=hz x (by simp)
   simp only [List.flatten_cons,List.set_cons_zero,Nat.zero_mul,Nat.zero_add]
   rw [PL _ _ _ _ (by omega)]
 | x::css,k+1,j,c,vs,hz,hk,hj=>by
   simp at hk
   have hx:=hz x (by simp)
   have ih:=TW (k:=k) (j:=j) (c:=c) (vs:=vs) (fun c hc=>hz c (by simp [hc])) hk hj
   simp only [List.flatten_cons,List.set_cons_succ]
   rw [← ih,show (k+1)*z+j=x.length+(k*z+j) by rw [hx,Nat.succ_mul]; omega]
   unfold splice
   rw [List.take_append,List.drop_append,List.take_of_length_le (by omega),List.drop_of_length_le (by omega)]
   simp only [Nat.add_sub_cancel_left,List.nil_append,List.append_assoc]
   rw [show x.length+(k*z+j)+vs.length - x.length=k*z+j+vs.length by omega]
theorem pP {l:List AJ} {σ:AHeap} (h:H l σ) (i:Nat) {e z n b o c k0:Nat} {vs xs:List Value} {k:AHeap→Prop} (hi:l[i]?=some (A5 e z (.slice (some ⟨b,0,none⟩) n c) n xs)) (hn:0<n) (hl:vs.length=k0) (hp:0<k0) (hw:vs.all one=true) (ho:o+k0≤xs.length)
 (hk:∀ σ',H (l.set i (A5 e z (.slice (some ⟨b,0,none⟩) n c) n (splice xs o vs))) σ'→k σ'):pu (AN k0 (.pointer (some ⟨b,o,none⟩)) (.agg vs.toArray) σ) k:=by
 rcases EX.1 (h.front i hi) with ⟨⟨rfl,rfl,_⟩,h⟩ | ⟨b',c',opn,rest,h1,hx,hr,hv,hn,ho2⟩
 ·omega
 ·cases hv
  refine XM h1 0 rfl hl hp hw (by simp; omega) ?_
  intro σ' h3
  simp only [List.set_cons_zero] at h3
  rw [PL _ _ _ _ (by omega)] at h3
  exact hk _ (H.back i hi (EX.2 (.inr ⟨b,c,opn,rest,h3,by rw [IP _ _ _ (by omega)]; exact hx,hr,rfl,hn,ho2⟩)))
structure Sp where
 at':Nat
 n:Nd
 nx:Nat
 kv:Value
 vv:Value
def IF (s:Sp):List Value:=[.int .u64 s.at',.bool s.n.leaf,s.kv,s.vv,.int .i64 s.nx]
theorem YL {L:List Sp}:∀ c∈L.map IF,c.length=5:=by
 intro c hc
 obtain ⟨s,_,rfl⟩:=List.mem_map.1 hc
 rfl
def ACn (L:List Sp):List AJ:=L.flatMap fun s=>[AO s.kv s.n.keys,AO s.vv s.n.vals]
def BU (L:List Sp):AJ:=AW (ACn L)
theorem BU.dup (L:List Sp):X0 (BU L):=X0.star fun A hA=>by
 obtain ⟨s,_,hs⟩:=List.mem_flatMap.1 hA
 simp at hs
 rcases hs with rfl | rfl
 ·exact AO.dup _ _
 ·exact AO.dup _ _
theorem PI (L K:List Sp):BU (L++K)=sep (BU L) (BU K):=by
 unfold BU ACn
 rw [List.flatMap_append,MA]
theorem Y7 (s:Sp):H (BU [s]::l) σ↔H (AO s.kv s.n.keys::AO s.vv s.n.vals::l) σ:=by
 unfold BU ACn
 rw [BC]; rfl
theorem HL {L:List Sp} {s:Sp} (h:H (BU L::l) σ) (hs:s∈L):H (AO s.kv s.n.keys::AO s.vv s.n.vals::BU L::l) σ:=by
 have h2:H (BU L::BU L::l) σ:=h.dup0 (BU.dup L)
 obtain ⟨A,B,e⟩:=List.append_of_mem hs
 have key:∀ X,H (BU (A++([s]++B))::X::l) σ→H (BU [s]::X::l) σ:=by
  intro X hX
  rw [PI,PI,BE] at hX
  have h3:=hX.tail
  rw [BE] at h3
  exact h3.second
 have h3:=key (BU L) (by rw [show A++([s]++B)=L by rw [e]; rfl]; exact h2)
 exact (Y7 s).1 h3
theorem sR {L:List Sp} {k:Nat} {s:Sp} (h:H (BU L::BU [s]::l) σ) (hk:k<L.length):H (BU (L.set k s)::l) σ:=by
 have e:L.set k s=L.take k++([s]++L.drop (k+1)):=by rw [List.set_eq_take_append_cons_drop,if_pos hk]; rfl
 rw [e,PI,PI,BE]
 have e2:L=L.take k++([L[k]]++L.drop (k+1)):=by
  conv=>lhs; rw [← List.take_append_drop k L,List.drop_eq_getElem_cons hk]
  rfl
 have h1:H (sep (BU (L.take k)) (sep (BU [L[k]]) (BU (L.drop (k+1))))::BU [s]::l) σ:=by
  rw [← PI,← PI,← e2]; exact h
 rw [BE] at h1
 have h2:H (sep (BU [L[k]]) (BU (L.drop (k+1)))::BU (L.take k)::BU [s]::l) σ:=h1.perm (.swap _ _ _)
 rw [BE] at h2
 have h3:H (BU (L.drop (k+1))::BU (L.take k)::BU [s]::l) σ:=h2.tail
 have h4:H (BU (L.take k)::BU [s]::BU (L.drop (k+1))::l) σ:=h3.perm ((List.Perm.swap _ _ _).trans ((List.Perm.swap _ _ _).cons _))
 have h5:H (sep (BU [s]) (BU (L.drop (k+1)))::BU (L.take k)::l) σ:=by
  rw [BE]
  exact h4.perm ((List.Perm.swap _ _ _).trans ((List.Perm.swap _ _ _).cons _))
 exact h5.perm (.swap _ _ _)
structure SQ (s:Sp):Prop where
 sm:s.n.small
 eq:s.n.vals.length=s.n.keys.length
 le:s.n.keys.length≤400
 at8:s.at'<2147483648
 nx:s.nx<1000
 o1:one s.kv=true
 o2:one s.vv=true
abbrev dG (wb sb:Nat) (wv:Value) (L:List Sp) (l:List AJ):List AJ :=
 pt wb (.cells [.pointer (some ⟨sb,0,none⟩),wv] AZ false)::A5 AA 5 wv L.length (L.map IF).flatten::BU L::l
def DK (wb sb:Nat) (L:List Sp):AJ:=ex fun wv:Value=>sep (IU (∀ s∈L,SQ s)) (AW (dG wb sb wv L []))
theorem HS {wb sb:Nat} {L:List Sp}:H (DK wb sb L::l) σ↔∃ wv,(∀ s∈L,SQ s)∧H (dG wb sb wv L l) σ:=by
 unfold DK
 rw [KN]
 constructor
 ·rintro ⟨wv,h⟩
  rw [BE,BZ,BC] at h
  exact ⟨wv,h.1,h.2⟩
 ·rintro ⟨wv,h1,h2⟩
  refine ⟨wv,?_⟩
  rw [BE,BZ,BC]
  exact ⟨h1,h2⟩
theorem MI {wb sb k:Nat} {wv:Value} {L:List Sp} {s:Sp} (h:H (dG wb sb wv L l) σ) (hk:L[k]?=some s) :
 ∃ b c,wv=.slice (some ⟨b,0,none⟩) L.length c∧(∀ kd,AG 5 wv (.int kd (k:Nat))=some (.pointer (some ⟨b,k*5,none⟩)))∧(∀ m,AD false m (.pointer (some ⟨b,k*5,none⟩)) σ=some (.int .u64 s.at')) ∧
   (∀ m,AD false m (.pointer (some ⟨b,k*5+1,none⟩)) σ=some (.bool s.n.leaf))∧(∀ m,AD false m (.pointer (some ⟨b,k*5+2,none⟩)) σ=some s.kv) ∧
   (∀ m,AD false m (.pointer (some ⟨b,k*5+3,none⟩)) σ=some s.vv)∧(∀ m,AD false m (.pointer (some ⟨b,k*5+4,none⟩)) σ=some (.int .i64 s.nx)):=by
 have hkl:=(List.getElem?_eq_some_iff.1 hk).1
 obtain ⟨b,e1,e2,e3⟩:=h.own_elem 1 rfl hkl
 obtain ⟨b',c,hwv,_⟩:=h.own_form 1 rfl (by omega)
 have hbb:b'=b:=by
  have:=e1 .i64
  rw [hwv,TG (by omega)] at this
  simp at this; exact this
 subst hbb
 have hc:(L.map IF)[k]?=some (IF s):=by rw [List.getElem?_map,hk]; rfl
 have g:∀ j,j<5→(L.map IF).flatten[k*5+j]?=(IF s)[j]?:=fun j hj=>oT YL hc hj
 refine ⟨b',c,hwv,e1,fun m=>?_,fun m=>?_,fun m=>?_,fun m=>?_,fun m=>?_⟩
 ·have:=e3 m 0 (by omega); rw [g 0 (by omega)] at this; exact this
 ·have:=e3 m 1 (by omega); rw [g 1 (by omega)] at this; exact this
 ·have:=e3 m 2 (by omega); rw [g 2 (by omega)] at this; exact this
 ·have:=e3 m 3 (by omega); rw [g 3 (by omega)] at this; exact this
 ·have:=e3 m 4 (by omega); rw [g 4 (by omega)] at this; exact this
theorem ZY {wb sb:Nat} {wv:Value} {L:List Sp} (h:H (dG wb sb wv L l) σ):BJ wv=some (.int .i64 L.length):=HE h.tail
def flt (e:Nat):Value:=.iface IB (.agg #[.int .i64 e])
theorem UE (hQ:Q (.ret (.tuple #[])) σ):E CH [.int .i64 0] σ Q:=by
 apply bX; unfold S2
 exact hQ
theorem SS {e:Nat} (he:e≠0) (hQ:Q (.pan (flt e)) σ):E CH [.int .i64 e] σ Q:=by
 apply bX; unfold S2
 refine CY (fun _=>hQ) fun g=>absurd g (by omega)
def gP (T:TS) (a:Nat) (n:Nd):R Unit:=if n.fits then if n.May then if a<T.now.length then .ok () (T.put a n) else .stuck else .err 1 T else .ok () T
theorem AAc {T T':TS} {a:Nat} {n:Nd} (h:gP T a n=.ok () T'):T'.now=T.now∧T'.was=T.was:=by
 unfold gP at h
 split at h
 ·split at h
  ·split at h
   ·cases h; exact ⟨rfl,rfl⟩
   ·cases h
  ·cases h
 ·cases h; exact ⟨rfl,rfl⟩
theorem ABY {wb sb rb k:Nat} {T:TS} {M:Nat} {L:List Sp} {s:Sp} {n:Nd} {kv vv:Value} (h:H (DK wb sb L::A2 sb rb T M::AO kv n.keys::AO vv n.vals::l) σ) (hM:M≤100000000000) (hk:L[k]?=some s)
 (hs:n.small) (he:n.vals.length=n.keys.length) (hl:n.keys.length≤400) (hst:gP T s.at' n≠.stuck)
 (hno:∀ e σ',e≠0→gP T s.at' n=.err e T→H (A2 sb rb T (M+1)::l) σ'→Q (.pan (flt e)) σ')
 (hyes:∀ T' σ',gP T s.at' n=.ok () T'→H (DK wb sb (L.set k { s with n:=n,kv:=kv,vv:=vv })::A2 sb rb T' (M+1)::l) σ'→Q (.ret (.tuple #[])) σ') :
 E CJ [.pointer (some ⟨wb,0,none⟩),.int .i64 k,.agg #[.bool n.leaf,kv,vv]] σ Q:=by
 apply cR; unfold ST
 refine nw h ?_
 intro b1 σ1 h1
 obtain ⟨wv,hok,h2⟩:=HS.1 (h1.perm (.swap _ _ _))
 have hkl:=(List.getElem?_eq_some_iff.1 hk).1
 have hso:=hok s (List.mem_of_getElem? hk)
 obtain ⟨ak,ck,hkv⟩:=AS (h2.re:H (AO kv n.keys::l) σ1)
 obtain ⟨av,cv,hvv⟩:=AS (h2.re:H (AO vv n.vals::l) σ1)
 have ok1:one kv=true:=by rw [hkv]; rfl
 have ok2:one vv=true:=by rw [hvv]; rfl
 obtain ⟨b,c,hwv,e1,_⟩:=MI h2 hk
 rw [LV h2,LB h2,LV h2,LV h2,e1,AF,AM,AF]
 subst hwv
 have hb5:k*5+5≤(L.map IF).flatten.length:=by
  rw [O5 YL,List.length_map,← Nat.succ_mul]
  exact Nat.mul_le_mul_right _ hkl
 refine pP (vs:=[.bool n.leaf,kv,vv]) h2 1 rfl (by omega) rfl (by omega) (by simp only [List.all_cons,ok1,ok2,List.all_nil]; rfl) (by omega) ?_
 intro σ2 h3
 have ec:splice (L.map IF).flatten (k*5+1) [.bool n.leaf,kv,vv]=((L.set k { s with n:=n,kv:=kv,vv:=vv }).map IF).flatten:=by
  rw [TW YL (c:=IF s) (by rw [List.getElem?_map,hk]; rfl) (by simp),List.map_set]
  rfl
 rw [ec] at h3
 have h3:H (pt wb (.cells [.pointer (some ⟨sb,0,none⟩),.slice (some ⟨b,0,none⟩) L.length c] AZ false)::A5 AA 5 (.slice (some ⟨b,0,none⟩) L.length c) L.length ((L.set k { s with n:=n,kv:=kv,vv:=vv }).map IF).flatten::BU L::pt b1 (.cells [.bool n.leaf,kv,vv] AE false)::A2 sb rb T M::AO kv n.keys::AO vv n.vals::l) σ2:=h3
 have hsl:(L.set k { s with n:=n,kv:=kv,vv:=vv }).length=L.length:=by simp
 -- the way with the node in its place
 have hwy:H (DK wb sb (L.set k { s with n:=n,kv:=kv,vv:=vv })::A2 sb rb T M::pt b1 (.cells [.bool n.leaf,kv,vv] AE false)::AO kv n.keys::AO vv n.vals::l) σ2:=by
  refine HS.2 ⟨.slice (some ⟨b,0,none⟩) L.length c,fun x hx=>?_,?_⟩
  ·rcases List.mem_or_eq_of_mem_set hx with h | h
   ·exact hok x h
   ·subst h; exact ⟨hs,he,hl,hso.at8,hso.nx,ok1,ok2⟩
  ·unfold dG
   rw [hsl]
   have h4:H (BU L::pt wb (.cells [.pointer (some ⟨sb,0,none⟩),.slice (some ⟨b,0,none⟩) L.length c] AZ false)::A5 AA 5 (.slice (some ⟨b,0,none⟩) L.length c) L.length ((L.set k { s with n:=n,kv:=kv,vv:=vv }).map IF).flatten::pt b1 (.cells [.bool n.leaf,kv,vv] AE false)::A2 sb rb T M::AO kv n.keys::AO vv n.vals::l) σ2:=h3.re
   have h5:H (AO kv n.keys::AO vv n.vals::BU L::pt wb (.cells [.pointer (some ⟨sb,0,none⟩),.slice (some ⟨b,0,none⟩) L.length c] AZ false)::A5 AA 5 (.slice (some ⟨b,0,none⟩) L.length c) L.length ((L.set k { s with n:=n,kv:=kv,vv:=vv }).map IF).flatten::pt b1 (.cells [.bool n.leaf,kv,vv] AE false)::A2 sb rb T M::AO kv n.keys::AO vv n.vals::l) σ2:=by
    have q1:H (AO kv n.keys::_) σ2:=h4.fnd (AO kv n.keys)
    have q2:=ZN q1
    have q3:H (AO vv n.vals::_) σ2:=q2.fnd (AO vv n.vals)
    have q4:=ZN q3
    exact q4.re
   have h6:H (BU L::BU [{ s with n:=n,kv:=kv,vv:=vv }]::pt wb (.cells [.pointer (some ⟨sb,0,none⟩),.slice (some ⟨b,0,none⟩) L.length c] AZ false)::A5 AA 5 (.slice (some ⟨b,0,none⟩) L.length c) L.length ((L.set k { s with n:=n,kv:=kv,vv:=vv }).map IF).flatten::pt b1 (.cells [.bool n.leaf,kv,vv] AE false)::A2 sb rb T M::AO kv n.keys::AO vv n.vals::l) σ2 :=
    ((Y7 { s with n:=n,kv:=kv,vv:=vv }).2 h5).perm (.swap _ _ _)
   exact (sR h6 hkl).re
 have hdrop:∀ {τ:AHeap} {T1:TS} {N:Nat},H (DK wb sb (L.set k { s with n:=n,kv:=kv,vv:=vv })::A2 sb rb T1 N::pt b1 (.cells [.bool n.leaf,kv,vv] AE false)::AO kv n.keys::AO vv n.vals::l) τ→H (DK wb sb (L.set k { s with n:=n,kv:=kv,vv:=vv })::A2 sb rb T1 N::l) τ:=fun ht=>ht.re
 have hlv:BJ kv=some (.int .i64 n.keys.length):=by rw [hkv]; rfl
 unfold gP at hst hno hyes
 have h3':H (pt b1 (.cells [.bool n.leaf,kv,vv] AE false)::l) σ2:=hwy.re
 rw [LV h3',hlv,AH]
 have skip:¬ n.fits→Q (.ret (.tuple #[])) σ2:=fun hf=>by
  rw [if_neg hf] at hyes
  refine hyes T σ2 rfl ?_
  have q:H (A2 sb rb T M::DK wb sb (L.set k { s with n:=n,kv:=kv,vv:=vv })::l) σ2:=hwy.re
  exact (CV (by omega) q).perm (.swap _ _ _)
 have k3:E1 E Q (decide ((n.keys.length:Int)≤8)) wb k b1 σ2∨n.keys.length=0:=by
  by_cases h0:n.keys.length=0
  ·exact .inr h0
  left
  unfold E1
  refine AT (fun g=>?_) fun g=>skip (fun hf=>g (by have:=hf.2; omega))
  have hf:n.fits:=⟨by omega,by omega⟩
  rw [if_pos hf] at hst hno hyes
  obtain ⟨wv,hok',h5⟩:=HS.1 hwy
  obtain ⟨b2,c2,hwv2,f1,f2,_⟩:=MI h5 (k:=k) (s:={ s with n:=n,kv:=kv,vv:=vv }) (by rw [List.getElem?_set,if_pos rfl,if_pos hkl])
  rw [LV h5,LV h5,f1,AF,AM,Nat.add_zero,AF,f2,AH,LB h5,LV h5,LV h5]
  have hwy':H (A2 sb rb T M::DK wb sb (L.set k { s with n:=n,kv:=kv,vv:=vv })::pt b1 (.cells [.bool n.leaf,kv,vv] AE false)::AO kv n.keys::AO vv n.vals::l) σ2:=hwy.re
  refine sG hwy' (by omega) (LX.two.cons.cons) hs (by omega) (by omega) ?_ ?_ ?_
  ·intro hor τ ht
   rw [A6]
   have hm:¬ n.May:=by
    rcases hor with h | h
    ·have:=hso.at8; simp only at h; omega
    ·exact h
   rw [if_neg hm] at hno
   refine SS (by decide) ?_
   exact hno 1 τ (by decide) rfl (CV (by omega) (ht.re:H (A2 sb rb T M::l) τ))
  ·intro _ hm hge τ ht
   rw [if_pos hm,if_neg (by simpa using hge)] at hst
   exact absurd rfl hst
  ·intro hm ha τ ht
   rw [if_pos hm,if_pos ha] at hyes
   rw [A6]
   refine UE ?_
   rw [B5]
   exact hyes _ τ rfl ht.re
 refine AT (fun g=>?_) fun g=>?_
 ·rw [LV h3',hlv,AH]
  rcases k3 with h | h
  ·exact h
  ·omega
 ·unfold E1
  exact skip (fun hf=>g (by have:=hf.1; omega))
def Nd.setN (n:Nd) (i key val:Nat):Nd:=⟨n.leaf,setF i key val true n.keys,setF i key val false n.vals⟩
theorem VC {n:Nd} {i key val:Nat} (h:n.small) (hk:key<18446744073709551616) (hv:val<18446744073709551616):(n.setN i key val).small:=by
 refine ⟨fun x hx=>?_,fun x hx=>?_⟩
 ·rcases List.mem_or_eq_of_mem_set hx with h1 | h1
  ·exact h.1 x h1
  ·simp at h1; omega
 ·rcases List.mem_or_eq_of_mem_set hx with h1 | h1
  ·exact h.2 x h1
  ·simp at h1; omega
theorem AE6 {wb sb rb k i key val:Nat} {T:TS} {M:Nat} {L:List Sp} {s:Sp} (h:H (DK wb sb L::A2 sb rb T M::l) σ) (hM:M≤100000000000) (hk:L[k]?=some s) (hi:i<s.n.keys.length) (hkey:key<18446744073709551616) (hval:val<18446744073709551616)
 (hst:gP T s.at' (s.n.setN i key val)≠.stuck)
 (hno:∀ e σ',e≠0→gP T s.at' (s.n.setN i key val)=.err e T→H (A2 sb rb T (M+1)::l) σ'→Q (.pan (flt e)) σ')
 (hyes:∀ T' kv vv σ',gP T s.at' (s.n.setN i key val)=.ok () T'→H (DK wb sb (L.set k { s with n:=s.n.setN i key val,kv:=kv,vv:=vv })::A2 sb rb T' (M+1)::l) σ'→Q (.ret (.tuple #[])) σ') :
 E EV [.pointer (some ⟨wb,0,none⟩),.int .i64 k,.int .i64 i,.int .u64 key,.int .u64 val] σ Q:=by
 apply fX; unfold S6
 obtain ⟨wv,hok,h2⟩:=HS.1 h
 have hso:=hok s (List.mem_of_getElem? hk)
 obtain ⟨b,c,hwv,e1,e2,e3,e4,e5,e6⟩:=MI h2 hk
 rw [LV h2,e1,AF]
 simp only [AM,AF,Nat.add_assoc,Nat.reduceAdd,Nat.add_zero]
 rw [e3,BY,e4,AF,e5,AF]
 have h3:H (BU L::A2 sb rb T M::pt wb (.cells [.pointer (some ⟨sb,0,none⟩),wv] AZ false)::A5 AA 5 wv L.length (L.map IF).flatten::l) σ:=h2.re
 have h4:=HL h3 (List.mem_of_getElem? hk)
 have hl:=hso.le
 refine ABJ (lf:=s.n.leaf) h4 LX.two hso.eq.symm (by omega) hi ?_
 intro kv' vv' σ1 h5
 rw [B4]
 have h6:H (DK wb sb L::A2 sb rb T M::AO kv' (s.n.setN i key val).keys::AO vv' (s.n.setN i key val).vals::l) σ1:=by
  refine HS.2 ⟨wv,hok,?_⟩
  have h5:H (AO kv' (s.n.setN i key val).keys::AO vv' (s.n.setN i key val).vals::AO s.kv s.n.keys::AO s.vv s.n.vals::BU L::A2 sb rb T M::pt wb (.cells [.pointer (some ⟨sb,0,none⟩),wv] AZ false)::A5 AA 5 wv L.length (L.map IF).flatten::l) σ1:=h5
  exact h5.re
 refine ABY (n:=s.n.setN i key val) h6 hM hk (VC hso.sm hkey hval) (by simp [Nd.setN,setF]; exact hso.eq) (by simp [Nd.setN,setF]; exact hl) hst ?_ ?_
 ·intro e σ' he hn ht
  rw [EE]
  exact hno e σ' he hn ht
 ·intro T' σ' hn ht
  rw [B5]
  exact hyes T' kv' vv' σ' hn ht
end Go.Ax.C
set_option maxRecDepth 100000
namespace Go.Ax.C
open Go.Proofs Go.RowKit
variable {l r r2 m:List AJ} {σ:AHeap} {Q:RK}
structure Wp where
 at':Nat
 n:Nd
 nx:Nat
def Sp.w (s:Sp):Wp:=⟨s.at',s.n,s.nx⟩
def ND (P:List Wp) (k i key val:Nat) (T:TS):R (List Wp) :=
 match P[k]? with
 | none=>.stuck
 | some s=>if i<s.n.keys.length then (gP T s.at' (s.n.setN i key val)).bind fun _ T=>.ok (P.set k { s with n:=s.n.setN i key val }) T else .stuck
def fD (P:List Wp) (a B0:Nat) (T:TS):R (List Wp) :=
 match P[P.length - 1]? with
 | none=>.ok P T
 | some s=>if B0=a then .ok P T else match s.n.keys[s.nx]? with
   | none=>.stuck
   | some key=>ND P (P.length - 1) s.nx key B0 T
def lX (lower:Bool) (key:Nat) (P:List Wp) (n:Nd) (T:TS):R (List Wp) :=
 match n.keys[0]?,n.vals[0]? with
 | some k0,some v0=>if lower=true∧key<k0 then ND P (P.length - 1) 0 key v0 T else .ok P T
 | _,_=>.stuck
def fV (key:Nat) (P:List Wp) (go:List Wp→Nat→TS→R (List Wp)) (T:TS):R (List Wp) :=
 match P[P.length - 1]? with
 | none=>.stuck
 | some s=>match s.n.vals[CC s.n.keys key]? with
   | none=>.stuck
   | some v=>go (P.set (P.length - 1) { s with nx:=CC s.n.keys key }) v T
def F1 (lower:Bool) (key:Nat):Nat→List Wp→Nat→TS→R (List Wp)
 | 0,_,_,T=>.err 23 T
 | f+1,P,a,T=>(T.shadow a).bind fun q T=>(fD P a q.1 T).bind fun P T =>
    if q.2.leaf then .ok (P++[⟨q.1,q.2,0⟩]) T
    else (lX lower key (P++[⟨q.1,q.2,0⟩]) q.2 T).bind fun P T=>fV key P (F1 lower key f) T
theorem s0 {wb sb rb k i key val:Nat} {T:TS} {M:Nat} {L:List Sp} (h:H (DK wb sb L::A2 sb rb T M::l) σ) (hM:M≤100000000000) (hkey:key<18446744073709551616) (hval:val<18446744073709551616)
 (hst:ND (L.map Sp.w) k i key val T≠.stuck)
 (hno:∀ e T' σ',e≠0→ND (L.map Sp.w) k i key val T=.err e T'→H (A2 sb rb T' (M+1)::l) σ'→Q (.pan (flt e)) σ')
 (hyes:∀ T' L' σ',L'.length=L.length→ND (L.map Sp.w) k i key val T=.ok (L'.map Sp.w) T'→H (DK wb sb L'::A2 sb rb T' (M+1)::l) σ'→Q (.ret (.tuple #[])) σ') :
 E EV [.pointer (some ⟨wb,0,none⟩),.int .i64 k,.int .i64 i,.int .u64 key,.int .u64 val] σ Q:=by
 unfold ND at hst hno hyes
 cases hk:L[k]? with
 | none=>rw [List.getElem?_map,hk] at hst; exact absurd rfl hst
 | some s =>
   rw [List.getElem?_map,hk] at hst hno hyes
   simp only [Option.map_some] at hst hno hyes
   have hw:s.w=⟨s.at',s.n,s.nx⟩:=rfl
   rw [hw] at hst hno hyes
   simp only at hst hno hyes
   by_cases hi:i<s.n.keys.length
   ·rw [if_pos hi] at hst hno hyes
    refine AE6 h hM hk hi hkey hval (fun e=>hst (by rw [e]; rfl)) ?_ ?_
    ·intro e σ' he hn ht
     exact hno e T σ' he (by rw [hn]; rfl) ht
    ·intro T' kv vv σ' hn ht
     refine hyes T' _ σ' (by simp) ?_ ht
     rw [hn,List.map_set]; rfl
   ·rw [if_neg hi] at hst; exact absurd rfl hst
theorem ABG {wb sb sb2:Nat} {wv:Value} {L:List Sp} {s:Sp} {K:Value×AHeap→Prop} (h:H (pt sb2 (.cells (IF s) AA false)::dG wb sb wv L (AO s.kv s.n.keys::AO s.vv s.n.vals::l)) σ) (hok:∀ s∈L,SQ s) (hs:SQ s) (hL:L.length≤1000)
 (hK:∀ w σ',one w=true→(∀ τ,H (pt wb (.cells [.pointer (some ⟨sb,0,none⟩),w] AZ false)::A5 AA 5 w (L.length+1) ((L++[s]).map IF).flatten::BU (L++[s])::l) τ→H (DK wb sb (L++[s])::l) τ) →
  H (pt wb (.cells [.pointer (some ⟨sb,0,none⟩),wv] AZ false)::A5 AA 5 w (L.length+1) ((L++[s]).map IF).flatten::BU (L++[s])::l) σ'→K (w,σ')) :
 pu (BN AA 5 72 wv (.slice (some ⟨sb2,0,none⟩) 1 1) σ) K:=by
 have ht:DC 5 (.slice (some ⟨sb2,0,none⟩) 1 1) σ=some (1,IF s):=by
  rw [E3 (h.row 0 rfl) (by simp [IF])]; rfl
 refine DS h 2 rfl ht (by omega) (by omega) (by simp only [IF,List.all_cons,hs.o1,hs.o2,List.all_nil]; rfl) ?_
 intro w σ1 h1
 have ho:=O.RN h1 (i:=2) rfl
 have h2:H (pt sb2 (.cells (IF s) AA false)::pt wb (.cells [.pointer (some ⟨sb,0,none⟩),wv] AZ false)::A5 AA 5 w (L.length+1) ((L.map IF).flatten++IF s)::BU L::AO s.kv s.n.keys::AO s.vv s.n.vals::l) σ1:=h1
 have e:(L.map IF).flatten++IF s=((L++[s]).map IF).flatten:=by simp
 rw [e] at h2
 refine hK w σ1 ho (fun τ ht=>HS.2 ⟨w,fun x hx=>?_,?_⟩) ?_
 ·rcases List.mem_append.1 hx with h | h
  ·exact hok x h
  ·simp at h; subst h; exact hs
 ·unfold dG
  rw [List.length_append]
  exact ht
 ·have h3:H (AO s.kv s.n.keys::AO s.vv s.n.vals::BU L::pt wb (.cells [.pointer (some ⟨sb,0,none⟩),wv] AZ false)::A5 AA 5 w (L.length+1) ((L++[s]).map IF).flatten::l) σ1:=h2.re
  have h4:=(Y7 s).2 h3
  have h5:H (sep (BU L) (BU [s])::pt wb (.cells [.pointer (some ⟨sb,0,none⟩),wv] AZ false)::A5 AA 5 w (L.length+1) ((L++[s]).map IF).flatten::l) σ1:=by
   rw [BE]; exact h4.perm (.swap _ _ _)
  rw [← PI] at h5
  exact h5.re
theorem rW {sb rb:Nat} {T:TS} {M:Nat} (h:H (A2 sb rb T M::l) σ):L sb 0 σ=some (.pointer (some ⟨rb,0,none⟩)):=by
 obtain ⟨cb,dv,K,C,D,_,h6⟩:=OF.1 h
 exact qO h6
theorem zJ {N1:Int→AHeap→Prop} {wb sb rb key:Nat} {T:TS} {M:Nat} {L:List Sp} {s:Sp} {go:List Wp→Nat→TS→R (List Wp)} (h:H (DK wb sb L::A2 sb rb T M::l) σ) (hs:L[L.length - 1]?=some s) (hkey:key<18446744073709551616)
 (hst:fV key (L.map Sp.w) go T≠.stuck)
 (hN:∀ v L' σ',L'.length=L.length→fV key (L.map Sp.w) go T=go (L'.map Sp.w) v T→v<18446744073709551616→H (DK wb sb L'::A2 sb rb T M::l) σ'→N1 v σ') :
 G4 N1 E Q wb ((L.length - 1:Nat):Int) key σ:=by
 unfold G4
 obtain ⟨wv,hok,h2⟩:=HS.1 h
 have hso:=hok s (List.mem_of_getElem? hs)
 have hLl:=(List.getElem?_eq_some_iff.1 hs).1
 obtain ⟨b,c,hwv,e1,e2,e3,e4,e5,e6⟩:=MI h2 hs
 rw [LV h2,e1,AF]
 simp only [AM,AF,Nat.add_assoc,Nat.reduceAdd,Nat.add_zero]
 rw [e3,BY,e4,AF,e5,AF]
 have h3:H (BU L::A2 sb rb T M::pt wb (.cells [.pointer (some ⟨sb,0,none⟩),wv] AZ false)::A5 AA 5 wv L.length (L.map IF).flatten::l) σ:=h2.re
 have h4:=HL h3 (List.mem_of_getElem? hs)
 have hl:=hso.le
 refine w7 (lf:=s.n.leaf) h4 LX.two hso.eq.symm (by omega) ?_
 intro σ1 h5
 rw [A6]
 have h6:H (pt wb (.cells [.pointer (some ⟨sb,0,none⟩),wv] AZ false)::A5 AA 5 wv L.length (L.map IF).flatten::BU L::A2 sb rb T M::l) σ1:=h5.re
 rw [LV h6,e1,AF]
 simp only [AM,AF,Nat.add_assoc,Nat.reduceAdd,Nat.add_zero]
 subst hwv
 have hb5:(L.length - 1)*5+4<(L.map IF).flatten.length:=by
  rw [O5 YL,List.length_map]
  omega
 refine NN h6 1 rfl (by omega) rfl hb5 ?_
 intro σ2 h7
 unfold fV at hst hN
 have hPs:(L.map Sp.w)[(L.map Sp.w).length - 1]?=some s.w:=by rw [List.length_map,List.getElem?_map,hs]; rfl
 rw [hPs] at hst hN
 simp only at hst hN
 have hw:s.w=⟨s.at',s.n,s.nx⟩:=rfl
 rw [hw] at hst hN
 simp only at hst hN
 cases hv:s.n.vals[CC s.n.keys key]? with
 | none=>rw [hv] at hst; exact absurd rfl hst
 | some v =>
 rw [hv] at hN
 simp only at hN
 have hcl:=(List.getElem?_eq_some_iff.1 hv).1
 have hs1:(L.map IF)[L.length - 1]?=some (IF s):=by rw [List.getElem?_map,hs]; rfl
 have ec:(L.map IF).flatten.set ((L.length - 1)*5+4) (.int .i64 (CC s.n.keys key:Nat))=((L.set (L.length - 1) { s with nx:=CC s.n.keys key }).map IF).flatten:=by
  rw [← eG _ _ _ hb5,TW YL (c:=IF s) hs1 (by simp),List.map_set]
  rfl
 rw [ec] at h7
 have h8:H (dG wb sb (.slice (some ⟨b,0,none⟩) L.length c) (L.set (L.length - 1) { s with nx:=CC s.n.keys key }) (BU L::A2 sb rb T M::l)) σ2:=by
  have q0:H (pt wb (.cells [.pointer (some ⟨sb,0,none⟩),.slice (some ⟨b,0,none⟩) L.length c] AZ false)::A5 AA 5 (.slice (some ⟨b,0,none⟩) L.length c) L.length ((L.set (L.length - 1) { s with nx:=CC s.n.keys key }).map IF).flatten::BU L::A2 sb rb T M::l) σ2:=h7
  have q:H (BU L::pt wb (.cells [.pointer (some ⟨sb,0,none⟩),.slice (some ⟨b,0,none⟩) L.length c] AZ false)::A5 AA 5 (.slice (some ⟨b,0,none⟩) L.length c) L.length ((L.set (L.length - 1) { s with nx:=CC s.n.keys key }).map IF).flatten::A2 sb rb T M::l) σ2:=q0.re
  have q2:=HL q (List.mem_of_getElem? hs)
  have q3:H (BU [{ s with nx:=CC s.n.keys key }]::BU L::_) σ2:=(Y7 { s with nx:=CC s.n.keys key }).2 q2
  have q4:=q3.dup 1 rfl (BU.dup L)
  have q5:H (BU L::BU [{ s with nx:=CC s.n.keys key }]::BU L::pt wb (.cells [.pointer (some ⟨sb,0,none⟩),.slice (some ⟨b,0,none⟩) L.length c] AZ false)::A5 AA 5 (.slice (some ⟨b,0,none⟩) L.length c) L.length ((L.set (L.length - 1) { s with nx:=CC s.n.keys key }).map IF).flatten::A2 sb rb T M::l) σ2:=by
   have:=q4.unsnoc
   exact this.re
  have q6:=sR q5 (by omega:L.length - 1<L.length)
  unfold dG
  rw [List.length_set]
  exact q6.re
 have hsn:(L.set (L.length - 1) { s with nx:=CC s.n.keys key })[L.length - 1]?=some { s with nx:=CC s.n.keys key }:=by rw [List.getElem?_set,if_pos rfl,if_pos (by omega)]
 obtain ⟨b2,c2,hwv2,g1,g2,g3,g4,g5,g6⟩:=MI h8 hsn
 rw [LV h8,g1,AF]
 simp only [AM,AF,Nat.add_assoc,Nat.reduceAdd,Nat.add_zero]
 rw [g5,AF]
 have h9:H (BU L::l) σ2:=h8.re
 have hus:=(LX.two (l:=BU L::l) (n:=s.n) σ2 (HL h9 (List.mem_of_getElem? hs))).2
 obtain ⟨p,ia,la⟩:=FY hus hv
 rw [ia,AF,la,AH]
 refine hN v (L.set (L.length - 1) { s with nx:=CC s.n.keys key }) σ2 (by simp) ?_ (hso.sm.2 v (List.mem_of_getElem? hv)) ?_
 ·rw [List.map_set,List.length_map]; rfl
 ·refine HS.2 ⟨.slice (some ⟨b,0,none⟩) L.length c,fun x hx=>?_,h8.re⟩
  rcases List.mem_or_eq_of_mem_set hx with h | h
  ·exact hok x h
  ·subst h
   have:=hso.eq
   exact ⟨hso.sm,hso.eq,hso.le,hso.at8,show CC s.n.keys key<1000 by omega,hso.o1,hso.o2⟩
set_option maxHeartbeats 1000000 in
theorem ABb {sb rb root key:Nat} {lower:Bool} {T:TS} {M:Nat} (h:H (A2 sb rb T M::l) σ) (hM:M≤90000000000) (hroot:root<18446744073709551616) (hkey:key<18446744073709551616) (hst:F1 lower key 12 [] root T≠.stuck)
 (hno:∀ e T' σ',e≠0→F1 lower key 12 [] root T=.err e T'→H (A2 sb rb T' (M+60)::l) σ'→Q (.pan (flt e)) σ')
 (hyes:∀ wb L T' σ',F1 lower key 12 [] root T=.ok (L.map Sp.w) T'→L.length≤12→H (DK wb sb L::A2 sb rb T' (M+60)::l) σ'→Q (.ret (.pointer (some ⟨wb,0,none⟩))) σ') :
 E OR [.pointer (some ⟨sb,0,none⟩),.int .u64 root,.int .u64 key,.bool lower] σ Q:=by
 apply o6; unfold bR
 refine nw h ?_
 intro wb σ1 h1
 have h2:=(h1.own_nil AA 5).unsnoc
 have h3:H (DK wb sb []::A2 sb rb T M::l) σ1:=by
  refine HS.2 ⟨.slice none 0 0,by simp,?_⟩
  have h4:H (BU []::A5 AA 5 (.slice none 0 0) 0 []::pt wb (.cells [.pointer (some ⟨sb,0,none⟩),.slice none 0 0] AZ false)::A2 sb rb T M::l) σ1:=yY.2 h2
  have h5:H (pt wb (.cells [.pointer (some ⟨sb,0,none⟩),.slice none 0 0] AZ false)::A5 AA 5 (.slice none 0 0) 0 []::BU []::A2 sb rb T M::l) σ1:=h4.re
  exact h5
 refine ⟨fun m i τ=>∃ (a:Nat) (L:List Sp) (T1:TS),i=a∧a<18446744073709551616∧m=12 - L.length∧L.length≤12∧F1 lower key 12 [] root T=F1 lower key (12 - L.length) (L.map Sp.w) a T1∧H (DK wb sb L::A2 sb rb T1 (M+4*L.length)::l) τ,
  ⟨_,root,[],T,rfl,hroot,rfl,by simp,rfl,h3⟩,?_⟩
 clear h h1 h2 h3
 rintro m _ τ ⟨a,L,T1,rfl,ha64,hm,hL,hdn,h⟩
 unfold UM
 obtain ⟨wv,hok,h2⟩:=HS.1 h
 rw [LV h2,ZY h2,AH]
 refine AT (fun g=>?_) fun g=>?_
 ·have:12 - L.length=0:=by omega
  rw [this] at hdn
  have hd:F1 lower key 12 [] root T=.err 23 T1:=hdn
  refine SS (e:=23) (by decide) ?_
  rw [EE]
  have h4:H (A2 sb rb T1 (M+4*L.length)::l) τ:=h.tail
  exact hno 23 T1 τ (by decide) hd (CV (by omega) h4)
 obtain ⟨f,hf⟩:∃ f,12 - L.length=f+1:=⟨11 - L.length,by omega⟩
 rw [hf] at hdn
 have hdn2:F1 lower key (f+1) (L.map Sp.w) a T1=(T1.shadow a).bind fun q T=>(fD (L.map Sp.w) a q.1 T).bind fun P T =>
  if q.2.leaf then .ok (P++[⟨q.1,q.2,0⟩]) T
  else (lX lower key (P++[⟨q.1,q.2,0⟩]) q.2 T).bind fun P T=>fV key P (F1 lower key f) T:=rfl
 rw [hdn2] at hdn
 clear hdn2
 unfold NZ
 have h4:H (A2 sb rb T1 (M+4*L.length)::DK wb sb L::l) τ:=h.perm (.swap _ _ _)
 refine lK h4 (by omega) (fun e=>hst (by rw [hdn,e]; rfl)) ?_ ?_
 ·intro e T2 τ1 he hsh h5
  rw [PW,AP,AP]
  refine nw h5 ?_
  intro b41 τ2 h6
  refine bJ h6 rfl rfl rfl ?_
  intro τ3 h7
  refine SS he ?_
  rw [EE]
  have h8:H (A2 sb rb T2 (M+4*L.length+2)::l) τ3:=h7.re
  exact hno e T2 τ3 he (by rw [hdn,hsh]; rfl) (CV (by omega) h8)
 intro B0 n T2 kv vv τ1 hsh hmay hsm hown h5
 rw [hsh] at hdn
 simp only [R.bind_ok] at hdn
 have hln:=hmay.1
 obtain ⟨a1,c1,hkv⟩:=AS h5
 obtain ⟨a2,c2,hvv⟩:=AS h5.tail
 have ok1:one kv=true:=by rw [hkv]; rfl
 have ok2:one vv=true:=by rw [hvv]; rfl
 rw [PW,AP,AP]
 refine nw h5 ?_
 intro b41 τ2 h6
 refine bJ h6 rfl ok1 ok2 ?_
 intro τ3 h7
 refine UE ?_
 rw [B5]
 have hN:=jR h4
 have hhi:=hN.hi
 have h7:H (DK wb sb L::A2 sb rb T2 (M+4*L.length+2)::pt b41 (.cells [.bool n.leaf,kv,vv] AE false)::AO kv n.keys::AO vv n.vals::l) τ3:=h7.re
 obtain ⟨wv3,hok3,h8⟩:=HS.1 h7
 rw [LV h8,ZY h8,AH]
 refine GA ((L.length:Int) - 1) (by omega) ?_
 -- behind the link
 have k10:∀ (L3:List Sp) (T3:TS) (τ:AHeap),L3.length=L.length→fD (L.map Sp.w) a B0 T2=.ok (L3.map Sp.w) T3→H (DK wb sb L3::A2 sb rb T3 (M+4*L.length+3)::pt b41 (.cells [.bool n.leaf,kv,vv] AE false)::AO kv n.keys::AO vv n.vals::l) τ →
  IZ (fun n9 σ'=>∃ m',m'<m∧∃ (a:Nat) (L:List Sp) (T1:TS),n9=a∧a<18446744073709551616∧m'=12 - L.length∧L.length≤12∧F1 lower key 12 [] root T=F1 lower key (12 - L.length) (L.map Sp.w) a T1∧H (DK wb sb L::A2 sb rb T1 (M+4*L.length)::l) σ') E Q wb B0 b41 a lower key τ:=by
  intro L3 T3 τ hl3 hlnk ht
  rw [hlnk] at hdn
  simp only [R.bind_ok] at hdn
  unfold IZ
  obtain ⟨wv,hok,h2⟩:=HS.1 ht
  rw [LV h2,LB h2,LV h2,LV h2]
  refine nw h2 ?_
  intro b97 τ1 h3
  obtain ⟨_,_,wa,wc,hwv⟩:=h3.own_src 2 rfl
  rw [LV h3]
  have:AQ wv wv=true:=by rw [hwv]; simp [AQ,t3,X5]
  refine ⟨this,?_⟩
  have hs:SQ ⟨B0,n,0,kv,vv⟩:=⟨hsm,hln.2.2,(show n.keys.length≤400 by omega),(show B0<2147483648 by omega),(show 0<1000 by omega),ok1,ok2⟩
  have h3:H (pt b97 (.cells (IF ⟨B0,n,0,kv,vv⟩) AA false)::dG wb sb wv L3 (AO kv n.keys::AO vv n.vals::A2 sb rb T3 (M+4*L.length+3)::pt b41 (.cells [.bool n.leaf,kv,vv] AE false)::AO kv n.keys::AO vv n.vals::l)) τ1:=by
   have q:H (AO kv n.keys::_) τ1:=h3.fnd (AO kv n.keys)
   have q2:=ZN q
   have q3:H (AO vv n.vals::_) τ1:=q2.fnd (AO vv n.vals)
   have q4:=ZN q3
   have q5:H (pt b97 (.cells [.int .u64 (B0:Nat),.bool n.leaf,kv,vv,.int .i64 0] AA false)::dG wb sb wv L3 (AO kv n.keys::AO vv n.vals::A2 sb rb T3 (M+4*L.length+3)::pt b41 (.cells [.bool n.leaf,kv,vv] AE false)::AO kv n.keys::AO vv n.vals::l)) τ1:=q4.re
   exact q5
  refine ABG h3 hok hs (by omega) ?_
  intro w τ2 how hin h4
  refine st h4 how ?_
  intro τ3 h5
  have h6:=hin τ3 h5
  have hmap:L3.map Sp.w++[(⟨B0,n,0⟩:Wp)]=(L3++[(⟨B0,n,0,kv,vv⟩:Sp)]).map Sp.w:=by simp [Sp.w]
  rw [hmap] at hdn
  have hb:H (pt b41 (.cells [.bool n.leaf,kv,vv] AE false)::AO kv n.keys::AO vv n.vals::l) τ3:=h6.re
  rw [LB hb]
  have hlen4:(L3++[(⟨B0,n,0,kv,vv⟩:Sp)]).length=L.length+1:=by simp [hl3]
  refine iK (fun gl=>?_) fun gl=>?_
  ·rw [if_pos gl] at hdn
   have h7:H (A2 sb rb T3 (M+4*L.length+3)::DK wb sb (L3++[⟨B0,n,0,kv,vv⟩])::l) τ3:=h6.re
   exact hyes wb _ T3 τ3 hdn (by omega) ((CV (N:=M+60) (by omega) h7).perm (.swap _ _ _))
  rw [if_neg (by simp [gl])] at hdn
  obtain ⟨wv5,hok5,h7⟩:=HS.1 h6
  rw [LV h7,ZY h7,AH]
  refine GA ((((L3++[(⟨B0,n,0,kv,vv⟩:Sp)]).length - 1:Nat)):Int) (by omega) ?_
  -- behind the lower key
  have k16:∀ (L5:List Sp) (T5:TS) (τ:AHeap),L5.length=L.length+1→lX lower key ((L3++[(⟨B0,n,0,kv,vv⟩:Sp)]).map Sp.w) n T3=.ok (L5.map Sp.w) T5→H (DK wb sb L5::A2 sb rb T5 (M+4*L.length+4)::l) τ →
   G4 (fun n9 σ'=>∃ m',m'<m∧∃ (a:Nat) (L:List Sp) (T1:TS),n9=a∧a<18446744073709551616∧m'=12 - L.length∧L.length≤12∧F1 lower key 12 [] root T=F1 lower key (12 - L.length) (L.map Sp.w) a T1∧H (DK wb sb L::A2 sb rb T1 (M+4*L.length)::l) σ') E Q wb (((L3++[(⟨B0,n,0,kv,vv⟩:Sp)]).length - 1:Nat):Int) key τ:=by
   intro L5 T5 τ hl5 hlow ht
   rw [hlow] at hdn
   simp only [R.bind_ok] at hdn
   obtain ⟨s5,hs5⟩:∃ s,L5[L5.length - 1]?=some s:=⟨_,List.getElem?_eq_getElem (by omega)⟩
   rw [hlen4,← hl5]
   refine zJ (go:=F1 lower key f) ht hs5 hkey (fun e=>hst (by rw [hdn,e])) ?_
   intro v L6 τ6 hl6 hnx hv ht6
   rw [hnx] at hdn
   refine ⟨12 - L6.length,by omega,v,L6,T5,rfl,hv,rfl,by omega,?_,?_⟩
   ·rw [hdn,show 12 - L6.length=f by omega]
   ·have:M+4*L6.length=M+4*L.length+4:=by omega
    rw [this]; exact ht6
  have hk0:∃ k0 v0,n.keys[0]?=some k0∧n.vals[0]?=some v0:=⟨_,_,List.getElem?_eq_getElem (by omega),List.getElem?_eq_getElem (by omega)⟩
  obtain ⟨k0,v0,hk0,hv0⟩:=hk0
  have hlo:lX lower key ((L3++[(⟨B0,n,0,kv,vv⟩:Sp)]).map Sp.w) n T3=if lower=true∧key<k0 then ND ((L3++[(⟨B0,n,0,kv,vv⟩:Sp)]).map Sp.w) (((L3++[(⟨B0,n,0,kv,vv⟩:Sp)]).map Sp.w).length - 1) 0 key v0 T3 else .ok ((L3++[(⟨B0,n,0,kv,vv⟩:Sp)]).map Sp.w) T3:=by
   unfold lX; rw [hk0,hv0]
  have hdrop:H (A2 sb rb T3 (M+4*L.length+3)::DK wb sb (L3++[⟨B0,n,0,kv,vv⟩])::l) τ3:=h6.re
  have k15f:(¬ (lower=true∧key<k0))→G0 (fun n9 σ'=>∃ m',m'<m∧∃ (a:Nat) (L:List Sp) (T1:TS),n9=a∧a<18446744073709551616∧m'=12 - L.length∧L.length≤12∧F1 lower key 12 [] root T=F1 lower key (12 - L.length) (L.map Sp.w) a T1∧H (DK wb sb L::A2 sb rb T1 (M+4*L.length)::l) σ') E Q false wb (((L3++[(⟨B0,n,0,kv,vv⟩:Sp)]).length - 1:Nat):Int) key b41 τ3:=by
   intro hc
   unfold G0
   refine C8 rfl ?_
   exact k16 _ T3 τ3 hlen4 (by rw [hlo,if_neg hc]) ((CV (N:=M+4*L.length+4) (by omega) hdrop).perm (.swap _ _ _))
  refine iK (fun gw=>?_) fun gw=>?_
  ·have husk:=LX.two (l:=l) τ3 hb.tail
   obtain ⟨p,ia,la⟩:=FY husk.1 hk0
   rw [LV hb,show (0:Int)=((0:Nat):Int) from rfl,ia,AF,la,AH]
   by_cases hlt:key<k0
   ·have e:decide ((key:Int)<(k0:Int))=true:=by simp; omega
    rw [e]
    unfold G0
    refine IM rfl ?_
    obtain ⟨p2,ia2,la2⟩:=FY husk.2 hv0
    rw [LV hb,show (0:Int)=((0:Nat):Int) from rfl,ia2,AF,la2,AH]
    rw [if_pos ⟨gw,hlt⟩] at hlo
    rw [List.length_map] at hlo
    refine s0 h6 (by omega) hkey (hsm.2 v0 (List.mem_of_getElem? hv0)) (fun e=>hst (by rw [hdn,hlo,e]; rfl)) ?_ ?_
    ·intro e T4 τ4 he hse h9
     rw [EE]
     have h10:H (A2 sb rb T4 (M+4*L.length+3+1)::l) τ4:=h9.re
     exact hno e T4 τ4 he (by rw [hdn,hlo,hse]; rfl) (CV (by omega) h10)
    ·intro T4 L5 τ4 hl5 hse h9
     rw [B5]
     exact k16 L5 T4 τ4 (by omega) (by rw [hlo,hse]) h9.re
   ·have e:decide ((key:Int)<(k0:Int))=false:=by simp; omega
    rw [e]
    exact k15f (fun h=>hlt h.2)
  ·exact k15f (fun h=>by rw [gw] at h; exact absurd h.1 (by decide))
 by_cases hL0:L.length=0
 ·refine AT (fun g=>absurd g (by omega)) fun _=>?_
  unfold JZ
  refine C8 rfl ?_
  have hnil:L=[]:=List.length_eq_zero_iff.1 hL0
  subst hnil
  have h9:H (A2 sb rb T2 (M+4*([]:List Sp).length+2)::DK wb sb []::pt b41 (.cells [.bool n.leaf,kv,vv] AE false)::AO kv n.keys::AO vv n.vals::l) τ3:=h7.re
  exact k10 [] T2 τ3 rfl rfl ((CV (N:=M+4*([]:List Sp).length+3) (by omega) h9).perm (.swap _ _ _))
 refine AT (fun _=>?_) fun g=>absurd (by omega) g
 obtain ⟨s,hs⟩:∃ s,L[L.length - 1]?=some s:=⟨_,List.getElem?_eq_getElem (by omega)⟩
 have hlk:fD (L.map Sp.w) a B0 T2=if B0=a then .ok (L.map Sp.w) T2 else match s.n.keys[s.nx]? with
  | none=>.stuck
  | some key=>ND (L.map Sp.w) (L.length - 1) s.nx key B0 T2:=by
  unfold fD
  rw [List.length_map,List.getElem?_map,hs]; rfl
 unfold JZ
 rw [show ((L.length:Int) - 1)=((L.length - 1:Nat):Int) by omega]
 by_cases hoa:B0=a
 ·rw [if_pos hoa] at hlk
  refine C8 (by simp [hoa]) ?_
  have h9:H (A2 sb rb T2 (M+4*L.length+2)::DK wb sb L::pt b41 (.cells [.bool n.leaf,kv,vv] AE false)::AO kv n.keys::AO vv n.vals::l) τ3:=h7.re
  exact k10 L T2 τ3 rfl hlk ((CV (N:=M+4*L.length+3) (by omega) h9).perm (.swap _ _ _))
 rw [if_neg hoa] at hlk
 refine IM (by simp; omega) ?_
 obtain ⟨b,c,hwv,e1,e2,e3,e4,e5,e6⟩:=MI h8 hs
 rw [LV h8,e1,AF]
 simp only [AM,AF,Nat.add_assoc,Nat.reduceAdd,Nat.add_zero]
 rw [e6,AH,LV h8,e1,AF]
 simp only [AM,AF,Nat.add_assoc,Nat.reduceAdd,Nat.add_zero]
 rw [e4,AF,LV h8,e1,AF]
 simp only [AM,AF,Nat.add_assoc,Nat.reduceAdd,Nat.add_zero]
 rw [e6,AH]
 cases hkx:s.n.keys[s.nx]? with
 | none =>
   rw [hkx] at hlk
   exact absurd (by rw [hdn,hlk]; rfl) hst
 | some kx =>
 rw [hkx] at hlk
 simp only at hlk
 have hso:=hok3 s (List.mem_of_getElem? hs)
 have h9:H (BU L::l) τ3:=h8.re
 obtain ⟨p,ia,la⟩:=FY (LX.two (l:=BU L::l) (n:=s.n) τ3 (HL h9 (List.mem_of_getElem? hs))).1 hkx
 rw [ia,AF,la,AH]
 refine s0 h7 (by omega) (hso.sm.1 kx (List.mem_of_getElem? hkx)) (by omega) (fun e=>hst (by rw [hdn,hlk,e]; rfl)) ?_ ?_
 ·intro e T4 τ4 he hse h9
  rw [EE]
  have h10:H (A2 sb rb T4 (M+4*L.length+2+1)::l) τ4:=h9.re
  exact hno e T4 τ4 he (by rw [hdn,hlk,hse]; rfl) (CV (by omega) h10)
 ·intro T4 L5 τ4 hl5 hse h9
  rw [B5]
  exact k10 L5 T4 τ4 hl5 (by rw [hlk,hse]) h9
end Go.Ax.C
set_option maxRecDepth 100000
namespace Go.Ax.C
open Go.Proofs Go.RowKit
variable {l r r2 m:List AJ} {σ:AHeap} {Q:RK}
theorem ABe (hQ:Q (.ret (.int .i64 0)) σ):E MG [.nilIface] σ Q:=by
 apply bO; unfold TE
 have e:BA (P.underlying y8) .eql .nilIface .nilIface=some (.bool true):=by kernel_rfl
 rw [e,BY]
 exact hQ
theorem ABw {e:Nat} (h:H l σ) (hQ:∀ σ',H l σ'→Q (.ret (.int .i64 e)) σ'):E MG [flt e] σ Q:=by
 apply bO; unfold TE
 have e1:BA (P.underlying y8) .eql (flt e) .nilIface=some (.bool false):=by unfold flt; kernel_rfl
 have e2:HH P IB true (flt e)=some (.tuple #[.agg #[.int .i64 e],.bool true]):=by unfold flt; kernel_rfl
 rw [e1,BY]
 refine C8 rfl ?_
 rw [e2,AF,AD2,AF,ADF,BY]
 refine nw h ?_
 intro b σ1 h1
 unfold St
 refine XM (vs:=[.int .i64 (e:Nat)]) h1 0 rfl rfl (by omega) rfl (by simp) ?_
 intro σ2 h2
 have h3:H (pt b (.cells [.int .i64 (e:Nat)] IB false)::l) σ2:=h2
 refine C8 rfl ?_
 rw [LI h3]
 exact hQ σ2 h3.tail
def TS.ld (T:TS) (a:Nat):Option Nd:=if a<T.now.length then T.node a else none
theorem AAe {T:TS} {a:Nat} {n:Nd} (h:T.ld a=some n):a<T.now.length∧T.g a=.nd n∧n.fits:=by
 unfold TS.ld at h
 split at h
 ·rename_i ha; exact ⟨ha,jY h⟩
 ·cases h
def CB (key:Nat):Nat→Nat→TS→R (Nat×Bool)
 | 0,a,T=>if a=0 then .ok (0,false) T else .err 23 T
 | f+1,a,T=>if a=0 then .ok (0,false) T else match T.ld a with
   | none=>.stuck
   | some n =>
     if n.leaf then if n.keys[A7 n.keys key]?=some key then match n.vals[A7 n.keys key]? with
      | some v=>.ok (v,true) T
      | none=>.stuck else .ok (0,false) T
     else match n.vals[CC n.keys key]? with
      | some v=>CB key f v T
      | none=>.stuck
theorem jU {key:Nat}:∀ {f a:Nat} {T T':TS} {v:Nat×Bool},CB key f a T=.ok v T'→T'=T
 | 0,a,T,T',v,h=>by
   unfold CB at h
   split at h
   ·cases h; rfl
   ·cases h
 | f+1,a,T,T',v,h=>by
   unfold CB at h
   split at h
   ·cases h; rfl
   ·split at h
    ·cases h
    ·split at h
     ·split at h
      ·split at h
       ·cases h; rfl
       ·cases h
      ·cases h; rfl
     ·split at h
      ·exact jU h
      ·cases h
theorem kS {sb rb root key:Nat} {T:TS} {M:Nat} (h:H (A2 sb rb T M::l) σ) (hM:M≤90000000000) (hroot:root<18446744073709551616) (hst:CB key 12 root T≠.stuck)
 (hno:∀ e T' σ',e≠0→CB key 12 root T=.err e T'→H (A2 sb rb T (M+12)::l) σ'→Q (.ret (.tuple #[.int .u64 0,.bool false,.int .i64 e])) σ')
 (hyes:∀ v b T' σ',CB key 12 root T=.ok (v,b) T'→H (A2 sb rb T (M+12)::l) σ'→Q (.ret (.tuple #[.int .u64 v,.bool b,.int .i64 0])) σ') :
 E IR [.pointer (some ⟨sb,0,none⟩),.int .u64 root,.int .u64 key] σ Q:=by
 apply hZ; unfold WH
 refine fQ h ?_
 rw [if_neg (by omega),A6]
 refine CY (fun g=>absurd rfl g) fun _=>?_
 refine ⟨fun m i d τ=>∃ (a k:Nat),i=a∧d=k∧m=12 - k∧a<18446744073709551616∧k≤12∧CB key 12 root T=CB key (12 - k) a T∧H (A2 sb rb T (M+k)::l) τ,⟨_,root,0,rfl,rfl,rfl,hroot,by omega,rfl,h⟩,?_⟩
 clear h
 rintro m _ _ τ ⟨a,k,rfl,rfl,hm,ha,hk,hl,h⟩
 unfold QF
 have hz:∀ f,CB key f 0 T=.ok (0,false) T:=fun f=>by cases f<;>rfl
 refine CY (fun g=>?_) fun g=>?_
 ·refine AT (fun g2=>?_) fun g2=>?_
  ·have:k=12:=by omega
   subst this
   have e:CB key 12 root T=.err 23 T:=by
    rw [hl]; show (if a=0 then _ else _)=_; rw [if_neg (by omega)]
   exact hno 23 T τ (by decide) e h
  ·obtain ⟨f,hf⟩:∃ f,12 - k=f+1:=⟨11 - k,by omega⟩
   rw [hf] at hl
   have hl2:CB key (f+1) a T=if a=0 then .ok (0,false) T else match T.ld a with
    | none=>.stuck
    | some n =>
      if n.leaf then if n.keys[A7 n.keys key]?=some key then match n.vals[A7 n.keys key]? with
       | some v=>.ok (v,true) T
       | none=>.stuck else .ok (0,false) T
      else match n.vals[CC n.keys key]? with
       | some v=>CB key f v T
       | none=>.stuck:=rfl
   rw [hl2,if_neg (by omega)] at hl
   clear hl2
   cases hn:T.ld a with
   | none=>rw [hn] at hl; exact absurd hl hst
   | some n =>
   rw [hn] at hl
   simp only at hl
   obtain ⟨hal,hg,hfit⟩:=AAe hn
   refine ABr h (by omega) hal hg hfit ?_
   intro kv vv τ1 hmay hsm h1
   have hln:=hmay.1
   obtain ⟨a1,c1,hkv⟩:=AS h1
   obtain ⟨a2,c2,hvv⟩:=AS h1.tail
   rw [BQ,AP]
   refine nw h1 ?_
   intro b54 τ2 h2
   refine bJ h2 rfl (by rw [hkv]; rfl) (by rw [hvv]; rfl) ?_
   intro τ3 h3
   refine CY (fun g=>absurd rfl g) fun _=>?_
   have hns:LX (pt b54 (.cells [.bool n.leaf,kv,vv] AE false)::AO kv n.keys::AO vv n.vals::A2 sb rb T (M+k+1)::l) kv vv n:=LX.two.cons
   have fin:∀ {τ:AHeap},H (pt b54 (.cells [.bool n.leaf,kv,vv] AE false)::AO kv n.keys::AO vv n.vals::A2 sb rb T (M+k+1)::l) τ→H (A2 sb rb T (M+12)::l) τ:=fun ht=>CV (by omega) ht.tail.tail.tail
   rw [LB h3]
   refine iK (fun gl=>?_) fun gl=>?_
   ·rw [if_pos gl] at hl
    rw [LB h3,LV h3,LV h3]
    refine yH h3 hns hln.2.2.symm (by omega) ?_
    intro τ4 h4
    rw [BQ,AP,EL]
    refine CY (p:=n.keys[A7 n.keys key]?=some key) (fun gk=>?_) fun gk=>?_
    ·rw [if_neg gk] at hl
     exact hyes 0 false T τ4 hl (fin h4)
    ·rw [if_pos gk] at hl
     cases hv:n.vals[A7 n.keys key]? with
     | none=>rw [hv] at hl; exact absurd hl hst
     | some v =>
       rw [hv] at hl
       obtain ⟨p,ia,la⟩:=FY (hns τ4 h4).2 hv
       rw [LV h4,ia,AF,la,AH]
       exact hyes v true T τ4 hl (fin h4)
   ·rw [if_neg (by simp [gl])] at hl
    rw [LV h3,LB h3,LV h3,LV h3]
    refine w7 h3 hns hln.2.2.symm (by omega) ?_
    intro τ4 h4
    rw [A6,LV h4]
    refine ⟨by rw [hvv]; simp [AQ,t3,X5],?_⟩
    cases hv:n.vals[CC n.keys key]? with
    | none=>rw [hv] at hl; exact absurd hl hst
    | some v =>
      rw [hv] at hl
      obtain ⟨p,ia,la⟩:=FY (hns τ4 h4).2 hv
      rw [ia,AF,la,AH]
      refine GA ((k+1:Nat):Int) (by omega) ?_
      refine ⟨12 - (k+1),by omega,v,k+1,rfl,rfl,rfl,hsm.2 v (List.mem_of_getElem? hv),by omega,?_,h4.tail.tail.tail⟩
      rw [hl,show 12 - (k+1)=f by omega]
 ·have:a=0:=by omega
  subst this
  exact hyes 0 false T τ (by rw [hl,hz]) (CV (by omega) h)
end Go.Ax.C
set_option maxRecDepth 100000
namespace Go.Ax.C
open Go.Proofs Go.RowKit
variable {l r r2 m:List AJ} {σ:AHeap} {Q:RK}
theorem AEB {v:Value} {xs:List Nat} (h:H l σ) [k:Fnd l (AO v xs) r]:H (AO v xs::l) σ :=
 (ZN (h.fnd (AO v xs))).perm ((k.perm.symm).cons _)
theorem mk2 {b x y:Nat} (h:H (pt b (.cells [.int .u64 x,.int .u64 y] AL false)::l) σ):H (AO (.slice (some ⟨b,0,none⟩) 2 2) [x,y]::l) σ :=
 I1 (n:=2) (h.to_own (n:=2) (z:=1) 0 rfl rfl (by unfold AX; omega))
theorem mk1 {b x:Nat} (h:H (pt b (.cells [.int .u64 x] AL false)::l) σ):H (AO (.slice (some ⟨b,0,none⟩) 1 1) [x]::l) σ :=
 I1 (n:=1) (h.to_own (n:=1) (z:=1) 0 rfl rfl (by unfold AX; omega))
theorem jJ {v:Value} {xs:List Nat} {k x:Nat} {p:Addr} (h:Us σ v xs) (hk:xs[k]?=some x) (ia:AG 1 v (.int .i64 k)=some (.pointer (some p))):AD false 1 (.pointer (some p)) σ=some (.int .u64 x):=by
 obtain ⟨q,h1,h2⟩:=FY h hk
 rw [ia] at h1
 cases h1
 exact h2
theorem S9 {v:Value} {p:Prop} (h:∃ a n c,v=.slice a n c):(AQ v v=true∧p)=p:=by
 obtain ⟨a,n,c,rfl⟩:=h
 exact KO
def Nd.insN (n:Nd) (i key val:Nat):Nd:=⟨n.leaf,Q3 i key val true n.keys,Q3 i key val false n.vals⟩
def Nd.lo (n:Nd):Nd:=⟨n.leaf,n.keys.take (DV n),n.vals.take (DV n)⟩
def Nd.hi (n:Nd):Nd:=⟨n.leaf,n.keys.drop (DV n),n.vals.drop (DV n)⟩
theorem jP {n:Nd} {i key val:Nat} (h:n.small) (hk:key<18446744073709551616) (hv:val<18446744073709551616):(n.insN i key val).small:=by
 refine ⟨fun x hx=>?_,fun x hx=>?_⟩
 ·simp only [Nd.insN,Q3,if_true,List.mem_append,List.mem_cons] at hx
  rcases hx with h1 | h1 | h1
  ·exact h.1 x (List.mem_of_mem_take h1)
  ·omega
  ·exact h.1 x (List.mem_of_mem_drop h1)
 ·simp only [Nd.insN,Q3,Bool.false_eq_true,if_false,List.mem_append,List.mem_cons] at hx
  rcases hx with h1 | h1 | h1
  ·exact h.2 x (List.mem_of_mem_take h1)
  ·omega
  ·exact h.2 x (List.mem_of_mem_drop h1)
theorem s9 {n:Nd} {i key val:Nat} (h:n.vals.length=n.keys.length) (hi:i≤n.keys.length):(n.insN i key val).keys.length=n.keys.length+1∧(n.insN i key val).vals.length=(n.insN i key val).keys.length:=by
 simp [Nd.insN,Q3]; omega
theorem nD {n:Nd} (h:n.small):n.lo.small:=⟨fun x hx=>h.1 x (List.mem_of_mem_take hx),fun x hx=>h.2 x (List.mem_of_mem_take hx)⟩
theorem m3 {n:Nd} (h:n.small):n.hi.small:=⟨fun x hx=>h.1 x (List.mem_of_mem_drop hx),fun x hx=>h.2 x (List.mem_of_mem_drop hx)⟩
def DD (P:List Wp) (k:Nat) (n:Nd) (T:TS):R (List Wp) :=
 match P[k]? with
 | none=>.stuck
 | some s=>(gP T s.at' n).bind fun _ T=>.ok (P.set k { s with n:=n }) T
theorem aA {wb sb rb k:Nat} {T:TS} {M:Nat} {L:List Sp} {n:Nd} {kv vv:Value} (h:H (DK wb sb L::A2 sb rb T M::AO kv n.keys::AO vv n.vals::l) σ) (hM:M≤100000000000)
 (hs:n.small) (he:n.vals.length=n.keys.length) (hl:n.keys.length≤400) (hst:DD (L.map Sp.w) k n T≠.stuck)
 (hno:∀ e T' σ',e≠0→DD (L.map Sp.w) k n T=.err e T'→H (A2 sb rb T' (M+1)::l) σ'→Q (.pan (flt e)) σ')
 (hyes:∀ T' L' σ',L'.length=L.length→DD (L.map Sp.w) k n T=.ok (L'.map Sp.w) T'→H (DK wb sb L'::A2 sb rb T' (M+1)::l) σ'→Q (.ret (.tuple #[])) σ') :
 E CJ [.pointer (some ⟨wb,0,none⟩),.int .i64 k,.agg #[.bool n.leaf,kv,vv]] σ Q:=by
 unfold DD at hst hno hyes
 cases hk:L[k]? with
 | none=>rw [List.getElem?_map,hk] at hst; exact absurd rfl hst
 | some s =>
   rw [List.getElem?_map,hk] at hst hno hyes
   simp only [Option.map_some] at hst hno hyes
   have hw:s.w=⟨s.at',s.n,s.nx⟩:=rfl
   rw [hw] at hst hno hyes
   simp only at hst hno hyes
   refine ABY h hM hk hs he hl (fun e=>hst (by rw [e]; rfl)) ?_ ?_
   ·intro e σ' he hn ht
    exact hno e T σ' he (by rw [hn]; rfl) ht
   ·intro T' σ' hn ht
    refine hyes T' (L.set k { s with n:=n,kv:=kv,vv:=vv }) σ' (by simp) ?_ ht
    rw [hn,List.map_set]; rfl
def FX (P:List Wp) (k:Nat) (T:TS):R (List Wp) :=
 match P[k]? with
 | none=>.stuck
 | some x =>
   if x.n.keys.length≤8 then .ok P T
   else (DD P k x.n.lo T).bind fun P T=>(T.make x.n.hi).bind fun a T=>match x.n.lo.keys[0]?,x.n.hi.keys[0]? with
    | some a0,some b0 =>
      if 0<k then match P[k - 1]? with
       | none=>.stuck
       | some up=>if up.nx+1≤up.n.keys.length∧up.n.keys.length<400 then DD P (k - 1) (up.n.insN (up.nx+1) b0 a) T else .stuck
      else (T.make ⟨false,[a0,b0],[x.at',a]⟩).bind fun top T=>.ok (⟨top,⟨false,[a0,b0],[x.at',a]⟩,0⟩::P) T
    | _,_=>.stuck
theorem sT {T T':TS} {n:Nd} {a:Nat} (h:T.make n=.ok a T'):a<T.now.length∧T'.now.length=T.now.length∧T'.was=T.was∧n.May:=by
 unfold TS.make at h
 split at h
 ·rename_i hm
  unfold TS.alloc at h
  split at h
  ·cases h
  ·rename_i b hb
   cases h
   refine ⟨?_,by simp [TS.put],rfl,hm⟩
   unfold SM at hb
   rw [List.findIdx?_eq_some_iff_getElem] at hb
   obtain ⟨h1,_⟩:=hb
   simp [O4] at h1; omega
 ·cases h
theorem vA {wb sb rb b a0 b0 xa a:Nat} {T:TS} {M:Nat} {L:List Sp} {kv vv:Value} (h:H (pt b (.cells [.bool false,kv,vv] AE false)::AO kv [a0,b0]::AO vv [xa,a]::DK wb sb L::A2 sb rb T M::l) σ) (hM:M≤100000000000) (hL:L.length≤100) (hs:(⟨false,[a0,b0],[xa,a]⟩:Nd).small)
 (hno:∀ e T' σ',e≠0→T.make ⟨false,[a0,b0],[xa,a]⟩=.err e T'→H (A2 sb rb T' (M+1)::l) σ'→Q (.pan (flt e)) σ')
 (hyes:∀ top T' kv vv σ',T.make ⟨false,[a0,b0],[xa,a]⟩=.ok top T'→H (DK wb sb (⟨top,⟨false,[a0,b0],[xa,a]⟩,0,kv,vv⟩::L)::A2 sb rb T' (M+1)::l) σ'→Q (.ret (.tuple #[])) σ') :
 BG E Q wb b σ:=by
 unfold BG
 have h1:H (DK wb sb L::pt b (.cells [.bool false,kv,vv] AE false)::AO kv [a0,b0]::AO vv [xa,a]::A2 sb rb T M::l) σ:=h.re
 obtain ⟨ak,ck,hkv⟩:=AS h.tail
 obtain ⟨av,cv,hvv⟩:=AS h.tail.tail
 have ok1:one kv=true:=by rw [hkv]; rfl
 have ok2:one vv=true:=by rw [hvv]; rfl
 obtain ⟨wv,hok,h2⟩:=HS.1 h1
 rw [LV h2,LB h2,LV h2,LV h2]
 have h3:H (A2 sb rb T M::AO kv [a0,b0]::AO vv [xa,a]::pt b (.cells [.bool false,kv,vv] AE false)::DK wb sb L::l) σ:=h.re
 have hrf:=(jR h3).hi
 refine wS (n:=⟨false,[a0,b0],[xa,a]⟩) h3 hM (LX.two (n:=⟨false,[a0,b0],[xa,a]⟩)) hs (by simp) (by simp) ?_ ?_
 ·intro e σ1 he hm h4
  rw [BQ,AP,AP]
  refine SS he ?_
  rw [EE]
  have h5:H (A2 sb rb T M::l) σ1:=h4.re
  exact hno e T σ1 he hm (CV (by omega) h5)
 ·intro top T1 σ1 hm h4
  have hlt:=sT hm
  rw [BQ,AP,AP]
  refine UE ?_
  rw [B5]
  have h5:H (DK wb sb L::AO kv [a0,b0]::AO vv [xa,a]::pt b (.cells [.bool false,kv,vv] AE false)::A2 sb rb T1 (M+1)::l) σ1:=h4.re
  obtain ⟨wv1,hok1,h6⟩:=HS.1 h5
  rw [LB h6,LV h6,LV h6,LV h6]
  refine nw h6 ?_
  intro b2 σ2 h7
  rw [LV h7]
  obtain ⟨hsrc,hxl,wa,wc,hwv⟩:=h7.own_src 2 rfl
  rw [S9 ⟨_,_,_,hwv⟩]
  have h8:H (A5 AA 5 (.slice (some ⟨b2,0,none⟩) 1 1) 1 (IF ⟨top,⟨false,[a0,b0],[xa,a]⟩,0,kv,vv⟩)::dG wb sb wv1 L (AO kv [a0,b0]::AO vv [xa,a]::pt b (.cells [.bool false,kv,vv] AE false)::A2 sb rb T1 (M+1)::l)) σ2 :=
   h7.to_own (n:=1) (z:=5) 0 rfl rfl (by unfold AX; omega)
  have hsp:∀ s∈L,SQ s:=hok1
  refine DS h8 0 rfl hsrc (by omega) (by omega) ?_ ?_
  ·rw [List.all_eq_true]
   intro v hv
   rw [List.mem_flatten] at hv
   obtain ⟨c,hc,hv⟩:=hv
   obtain ⟨s,hs,rfl⟩:=List.mem_map.1 hc
   have:=hsp s hs
   simp only [IF,List.mem_cons,List.not_mem_nil,or_false] at hv
   rcases hv with rfl | rfl | rfl | rfl | rfl
   ·rfl
   ·rfl
   ·exact this.o1
   ·exact this.o2
   ·rfl
  ·intro w σ3 h9
   have ho:=O.RN h9 (i:=0) rfl
   have h10:H (A5 AA 5 w (1+L.length) (IF ⟨top,⟨false,[a0,b0],[xa,a]⟩,0,kv,vv⟩++(L.map IF).flatten)::pt wb (.cells [.pointer (some ⟨sb,0,none⟩),wv1] AZ false)::A5 AA 5 wv1 L.length (L.map IF).flatten::BU L::AO kv [a0,b0]::AO vv [xa,a]::pt b (.cells [.bool false,kv,vv] AE false)::A2 sb rb T1 (M+1)::l) σ3:=h9
   refine st h10 ho ?_
   intro σ4 h11
   refine hyes top T1 kv vv σ4 hm (HS.2 ⟨w,fun s hs'=>?_,?_⟩)
   ·rcases List.mem_cons.1 hs' with rfl | hs'
    ·exact ⟨hs,rfl,(show 2≤400 by omega),(show top<2147483648 by omega),(show 0<1000 by omega),ok1,ok2⟩
    ·exact hok1 s hs'
   ·have h12:H (AO kv [a0,b0]::AO vv [xa,a]::BU L::pt wb (.cells [.pointer (some ⟨sb,0,none⟩),w] AZ false)::A5 AA 5 w (1+L.length) (IF ⟨top,⟨false,[a0,b0],[xa,a]⟩,0,kv,vv⟩++(L.map IF).flatten)::A2 sb rb T1 (M+1)::l) σ4:=h11.re
    have h13:=(Y7 (⟨top,⟨false,[a0,b0],[xa,a]⟩,0,kv,vv⟩:Sp)).2 h12
    rw [← BE,← PI] at h13
    have e1:(⟨top,⟨false,[a0,b0],[xa,a]⟩,0,kv,vv⟩::L:List Sp).length=1+L.length:=by simp; omega
    unfold dG
    rw [e1]
    have h14:H (BU (⟨top,⟨false,[a0,b0],[xa,a]⟩,0,kv,vv⟩::L)::pt wb (.cells [.pointer (some ⟨sb,0,none⟩),w] AZ false)::A5 AA 5 w (1+L.length) (((⟨top,⟨false,[a0,b0],[xa,a]⟩,0,kv,vv⟩::L:List Sp).map IF).flatten)::A2 sb rb T1 (M+1)::l) σ4:=h13
    exact h14.re
end Go.Ax.C
set_option maxRecDepth 100000
namespace Go.Ax.C
open Go.Proofs Go.RowKit
variable {l r r2 m:List AJ} {σ:AHeap} {Q:RK}
theorem rN {P P':List Wp} {k:Nat} {n:Nd} {T T':TS} (h:DD P k n T=.ok P' T'):P'.length=P.length∧T'.now=T.now∧T'.was=T.was:=by
 unfold DD at h
 split at h
 ·cases h
 ·rename_i s _
  cases hs:gP T s.at' n with
  | ok u T1=>rw [hs] at h; cases h; exact ⟨by simp,AAc hs⟩
  | err e T1=>rw [hs] at h; cases h
  | stuck=>rw [hs] at h; cases h
theorem J5 {b:Nat} {q:Bool} {c vs:List Value} {e:TypeId} {K:AHeap→Prop} (h:H (pt b (.cells c e q)::l) σ) (hc:c.length=5) (hv:vs.length=5) (ho:vs.all one=true)
 (hK:∀ σ',H (pt b (.cells vs e q)::l) σ'→K σ'):pu (AN 5 (.pointer (some ⟨b,0,none⟩)) (.agg vs.toArray) σ) K:=by
 refine XM h 0 rfl hv (by omega) ho (by omega) ?_
 intro σ1 h1
 have hs:splice c 0 vs=vs:=by
  unfold splice
  rw [List.take_zero,List.nil_append,Nat.zero_add,List.drop_of_length_le (by omega),List.append_nil]
 have h2:H (pt b (.cells (splice c 0 vs) e q)::l) σ1:=h1
 rw [hs] at h2
 exact hK σ1 h2
set_option maxHeartbeats 2000000 in
theorem ACe {wb sb rb k:Nat} {T:TS} {M:Nat} {L:List Sp} (h:H (DK wb sb L::A2 sb rb T M::l) σ) (hM:M≤90000000000) (hL:L.length≤100) (hst:FX (L.map Sp.w) k T≠.stuck)
 (hno:∀ e T' σ',e≠0→FX (L.map Sp.w) k T=.err e T'→H (A2 sb rb T' (M+3)::l) σ'→Q (.pan (flt e)) σ')
 (hyes:∀ T' L' σ',L'.length≤L.length+1→(0<k→L'.length=L.length)→FX (L.map Sp.w) k T=.ok (L'.map Sp.w) T'→H (DK wb sb L'::A2 sb rb T' (M+3)::l) σ'→Q (.ret (.tuple #[])) σ') :
 E ID [.pointer (some ⟨wb,0,none⟩),.int .i64 k] σ Q:=by
 apply aU; unfold QT
 obtain ⟨wv,hok,h2⟩:=HS.1 h
 cases hk:L[k]? with
 | none=>unfold FX at hst; rw [List.getElem?_map,hk] at hst; exact absurd rfl hst
 | some x =>
 have hkl:=(List.getElem?_eq_some_iff.1 hk).1
 have hxo:=hok x (List.mem_of_getElem? hk)
 have hsp:FX (L.map Sp.w) k T=if x.n.keys.length≤8 then .ok (L.map Sp.w) T
  else (DD (L.map Sp.w) k x.n.lo T).bind fun P T=>(T.make x.n.hi).bind fun a T=>match x.n.lo.keys[0]?,x.n.hi.keys[0]? with
   | some a0,some b0 =>
     if 0<k then match P[k - 1]? with
      | none=>.stuck
      | some up=>if up.nx+1≤up.n.keys.length∧up.n.keys.length<400 then DD P (k - 1) (up.n.insN (up.nx+1) b0 a) T else .stuck
     else (T.make ⟨false,[a0,b0],[x.at',a]⟩).bind fun top T=>.ok (⟨top,⟨false,[a0,b0],[x.at',a]⟩,0⟩::P) T
   | _,_=>.stuck:=by
  unfold FX; rw [List.getElem?_map,hk]; rfl
 obtain ⟨b,c,hwv,e1,e2,e3,e4,e5,e6⟩:=MI h2 hk
 rw [LV h2,e1,AF]
 simp only [AM,AF,Nat.add_assoc,Nat.reduceAdd,Nat.add_zero]
 rw [e2,AH,e3,BY,e4,AF,e5,AF,e6,AH]
 refine nw h2 ?_
 intro b13 σ1 h3
 refine J5 (vs:=[.int .u64 (x.at':Nat),.bool x.n.leaf,x.kv,x.vv,.int .i64 (x.nx:Nat)]) h3 rfl rfl (by simp only [List.all_cons,hxo.o1,hxo.o2,List.all_nil]; rfl) ?_
 intro σ2 h4
 have h5:H (BU L::pt b13 (.cells [.int .u64 (x.at':Nat),.bool x.n.leaf,x.kv,x.vv,.int .i64 (x.nx:Nat)] AA false)::pt wb (.cells [.pointer (some ⟨sb,0,none⟩),wv] AZ false)::A5 AA 5 wv L.length (L.map IF).flatten::A2 sb rb T M::l) σ2:=h4.re
 have h6:=HL h5 (List.mem_of_getElem? hk)
 have hlx:BJ x.kv=some (.int .i64 x.n.keys.length):=by obtain ⟨a,c,hv⟩:=AS h6; rw [hv]; rfl
 rw [LV h4,hlx,AH]
 refine AT (fun g=>?_) fun g=>?_
 ·rw [if_pos (by omega)] at hsp
  refine hyes T L σ2 (by omega) (fun _=>rfl) hsp ?_
  have h7:H (pt wb (.cells [.pointer (some ⟨sb,0,none⟩),wv] AZ false)::A5 AA 5 wv L.length (L.map IF).flatten::BU L::A2 sb rb T M::l) σ2:=h4.re
  have h8:H (A2 sb rb T M::DK wb sb L::l) σ2:=(HS.2 ⟨wv,hok,h7⟩:H (DK wb sb L::A2 sb rb T M::l) σ2).perm (.swap _ _ _)
  exact (CV (N:=M+3) (by omega) h8).perm (.swap _ _ _)
 rw [if_neg (by omega)] at hsp
 rw [LB h4,LV h4,LV h4]
 have hle:=hxo.le
 refine wU (lf:=x.n.leaf) h6 LX.two hxo.eq.symm (by omega) ?_
 intro k1 v1 k2 v2 σ3 h7
 rw [BQ]
 obtain ⟨ak1,ck1,hk1⟩:=AS h7
 obtain ⟨av1,cv1,hv1⟩:=AS h7.tail
 obtain ⟨ak2,ck2,hk2⟩:=AS h7.tail.tail
 obtain ⟨av2,cv2,hv2⟩:=AS h7.tail.tail.tail
 have ok1:one k1=true:=by rw [hk1]; rfl
 have ok2:one v1=true:=by rw [hv1]; rfl
 have ok3:one k2=true:=by rw [hk2]; rfl
 have ok4:one v2=true:=by rw [hv2]; rfl
 refine nw h7 ?_
 intro b31 σ4 h8
 refine nw h8 ?_
 intro b33 σ5 h9
 refine bJ h9 rfl ok1 ok2 ?_
 intro σ6 h10
 refine bJ h10 rfl ok3 ok4 ?_
 intro σ7 h11
 have hhalf:1≤DV x.n∧DV x.n<x.n.keys.length:=by unfold DV; omega
 have hlol:x.n.lo.keys.length=DV x.n∧x.n.lo.vals.length=DV x.n:=by have:=hxo.eq; simp [Nd.lo]; omega
 have hhil:x.n.hi.keys.length=x.n.keys.length - DV x.n∧x.n.hi.vals.length=x.n.keys.length - DV x.n:=by have:=hxo.eq; simp [Nd.hi]; omega
 obtain ⟨a0,ha0⟩:∃ a0,x.n.lo.keys[0]?=some a0:=⟨_,List.getElem?_eq_getElem (by omega)⟩
 obtain ⟨b0,hb0⟩:∃ b0,x.n.hi.keys[0]?=some b0:=⟨_,List.getElem?_eq_getElem (by omega)⟩
 rw [ha0,hb0] at hsp
 simp only at hsp
 have ha64:=(nD hxo.sm).1 a0 (List.mem_of_getElem? ha0)
 have hb64:=(m3 hxo.sm).1 b0 (List.mem_of_getElem? hb0)
 -- what stays
 obtain ⟨SF,hSF⟩:∃ SF,SF=AW [pt b31 (.cells [.bool x.n.leaf,k1,v1] AE false),pt b33 (.cells [.bool x.n.leaf,k2,v2] AE false),pt b13 (.cells [.int .u64 (x.at':Nat),.bool x.n.leaf,x.kv,x.vv,.int .i64 (x.nx:Nat)] AA false),AO k1 x.n.lo.keys,AO k2 x.n.hi.keys]:=⟨_,rfl⟩
 have hfr:∀ {τ:AHeap} {A:List AJ},H (SF::A) τ→H (pt b31 (.cells [.bool x.n.leaf,k1,v1] AE false)::pt b33 (.cells [.bool x.n.leaf,k2,v2] AE false)::pt b13 (.cells [.int .u64 (x.at':Nat),.bool x.n.leaf,x.kv,x.vv,.int .i64 (x.nx:Nat)] AA false)::AO k1 x.n.lo.keys::AO k2 x.n.hi.keys::[]) τ:=fun {τ A} ht=>by
  rw [hSF,BC] at ht
  exact ht.left
 have h12:H (DK wb sb L::A2 sb rb T M::SF::AO k1 x.n.lo.keys::AO v1 x.n.lo.vals::AO k2 x.n.hi.keys::AO v2 x.n.hi.vals::l) σ7:=by
  have q:H (pt b33 (.cells [.bool x.n.leaf,k2,v2] AE false)::pt b31 (.cells [.bool x.n.leaf,k1,v1] AE false)::AO k1 x.n.lo.keys::AO v1 x.n.lo.vals::AO k2 x.n.hi.keys::AO v2 x.n.hi.vals::AO x.kv x.n.keys::AO x.vv x.n.vals::BU L::pt b13 (.cells [.int .u64 (x.at':Nat),.bool x.n.leaf,x.kv,x.vv,.int .i64 (x.nx:Nat)] AA false)::pt wb (.cells [.pointer (some ⟨sb,0,none⟩),wv] AZ false)::A5 AA 5 wv L.length (L.map IF).flatten::A2 sb rb T M::l) σ7:=h11
  have q1:=AEB (v:=k2) (xs:=x.n.hi.keys) (AEB (v:=k1) (xs:=x.n.lo.keys) q)
  have q2:H (pt b31 (.cells [.bool x.n.leaf,k1,v1] AE false)::pt b33 (.cells [.bool x.n.leaf,k2,v2] AE false)::pt b13 (.cells [.int .u64 (x.at':Nat),.bool x.n.leaf,x.kv,x.vv,.int .i64 (x.nx:Nat)] AA false)::AO k1 x.n.lo.keys::AO k2 x.n.hi.keys::pt wb (.cells [.pointer (some ⟨sb,0,none⟩),wv] AZ false)::A5 AA 5 wv L.length (L.map IF).flatten::BU L::A2 sb rb T M::AO k1 x.n.lo.keys::AO v1 x.n.lo.vals::AO k2 x.n.hi.keys::AO v2 x.n.hi.vals::l) σ7:=q1.re
  have q3:H (SF::pt wb (.cells [.pointer (some ⟨sb,0,none⟩),wv] AZ false)::A5 AA 5 wv L.length (L.map IF).flatten::BU L::A2 sb rb T M::AO k1 x.n.lo.keys::AO v1 x.n.lo.vals::AO k2 x.n.hi.keys::AO v2 x.n.hi.vals::l) σ7:=by
   rw [hSF,BC]; exact q2
  exact HS.2 ⟨wv,hok,q3.re⟩
 have f12:=hfr (h12.fnd SF)
 rw [LB f12,LV f12,LV f12]
 have h13:H (DK wb sb L::A2 sb rb T M::AO k1 x.n.lo.keys::AO v1 x.n.lo.vals::SF::AO k2 x.n.hi.keys::AO v2 x.n.hi.vals::l) σ7:=h12.re
 refine aA (n:=x.n.lo) h13 (by omega) (nD hxo.sm) (by omega) (by omega) (fun e=>hst (by rw [hsp,e]; rfl)) ?_ ?_
 ·intro e T1 τ1 he hsv h14
  rw [EE]
  have h15:H (A2 sb rb T1 (M+1)::l) τ1:=h14.re
  exact hno e T1 τ1 he (by rw [hsp,hsv]; rfl) (CV (by omega) h15)
 intro T1 L1 τ1 hl1 hsv h14
 have hsl:=rN hsv
 rw [hsv] at hsp
 simp only [R.bind_ok] at hsp
 rw [B5]
 obtain ⟨wv1,hok1,h15⟩:=HS.1 h14
 have f14:=hfr (h14.fnd SF)
 rw [LV h15,LB f14,LV f14,LV f14]
 have h16:H (A2 sb rb T1 (M+1)::AO k2 x.n.hi.keys::AO v2 x.n.hi.vals::DK wb sb L1::SF::l) τ1:=h14.re
 have hN1:=(jR h16).hi
 refine wS (n:=x.n.hi) h16 (by omega) LX.two (m3 hxo.sm) (by omega) (by omega) ?_ ?_
 ·intro e τ2 he hmk h17
  rw [BQ,AP,AP]
  refine SS he ?_
  rw [EE]
  have h19:H (A2 sb rb T1 (M+1)::l) τ2:=h17.re
  exact hno e T1 τ2 he (by rw [hsp,hmk]; rfl) (CV (by omega) h19)
 intro a T2 τ2 hmk h17
 have hmlt:=sT hmk
 rw [hmk] at hsp
 simp only [R.bind_ok] at hsp
 rw [BQ,AP,AP]
 refine UE ?_
 rw [B5]
 have h18:H (DK wb sb L1::A2 sb rb T2 (M+2)::SF::l) τ2:=by
  have q:H (A2 sb rb T2 (M+2)::AO k2 x.n.hi.keys::AO v2 x.n.hi.vals::DK wb sb L1::SF::l) τ2:=h17
  exact q.re
 have f18:=hfr (h18.fnd SF)
 have hP1:∀ j:Nat,(L1.map Sp.w)[j]?=(L1[j]?).map Sp.w:=fun j=>List.getElem?_map
 refine AT (fun g0=>?_) fun g0=>?_
 ·rw [if_pos (by omega)] at hsp
  obtain ⟨up,V0⟩:∃ up,L1[k - 1]?=some up:=⟨_,List.getElem?_eq_getElem (by omega)⟩
  rw [hP1,V0] at hsp
  obtain ⟨wv2,hok2,h19⟩:=HS.1 h18
  have huo:=hok2 up (List.mem_of_getElem? V0)
  obtain ⟨b',c',hwv',u1,u2,u3,u4,u5,u6⟩:=MI h19 V0
  rw [LV h19]
  refine GA ((k - 1:Nat):Int) (by omega) ?_
  rw [u1,AF]
  simp only [AM,AF,Nat.add_assoc,Nat.reduceAdd,Nat.add_zero]
  rw [u2,AH,u3,BY,u4,AF,u5,AF,u6,AH]
  refine nw h19 ?_
  intro b90 σ8 h20
  refine J5 (vs:=[.int .u64 (up.at':Nat),.bool up.n.leaf,up.kv,up.vv,.int .i64 (up.nx:Nat)]) h20 rfl rfl (by simp only [List.all_cons,huo.o1,huo.o2,List.all_nil]; rfl) ?_
  intro σ9 h21
  refine GA ((k - 1:Nat):Int) (by omega) ?_
  rw [LB h21,LV h21,LV h21,LI h21]
  have:=huo.nx
  refine GA ((up.nx+1:Nat):Int) (by omega) ?_
  have f21:=hfr (h21.fnd SF)
  rw [LV f21]
  have husb:=DF (f21.fnd (AO k2 x.n.hi.keys))
  obtain ⟨p,ia,la⟩:=FY husb hb0
  rw [show (0:Int)=((0:Nat):Int) from rfl,ia,AF,la,AH]
  have hwu:up.w=⟨up.at',up.n,up.nx⟩:=rfl
  simp only [Option.map_some,hwu] at hsp
  by_cases hnx:up.nx+1≤up.n.keys.length∧up.n.keys.length<400
  ·rw [if_pos hnx] at hsp
   have h22:H (BU L1::pt wb (.cells [.pointer (some ⟨sb,0,none⟩),wv2] AZ false)::A5 AA 5 wv2 L1.length (L1.map IF).flatten::A2 sb rb T2 (M+2)::l) σ9:=h21.re
   have h23:=HL h22 (List.mem_of_getElem? V0)
   have:=huo.le
   have hil:=s9 (key:=b0) (val:=a) huo.eq hnx.1
   refine sK (lf:=up.n.leaf) (i:=up.nx+1) (key:=b0) (val:=a) h23 LX.two huo.eq.symm (by omega) hnx.1 ?_
   intro kv' vv' σ10 h24
   rw [B4]
   have h25:H (DK wb sb L1::A2 sb rb T2 (M+2)::AO kv' (up.n.insN (up.nx+1) b0 a).keys::AO vv' (up.n.insN (up.nx+1) b0 a).vals::l) σ10:=by
    have q:H (AO kv' (up.n.insN (up.nx+1) b0 a).keys::AO vv' (up.n.insN (up.nx+1) b0 a).vals::AO up.kv up.n.keys::AO up.vv up.n.vals::BU L1::pt wb (.cells [.pointer (some ⟨sb,0,none⟩),wv2] AZ false)::A5 AA 5 wv2 L1.length (L1.map IF).flatten::A2 sb rb T2 (M+2)::l) σ10:=h24
    exact HS.2 ⟨wv2,hok2,q.re⟩
   refine aA (n:=up.n.insN (up.nx+1) b0 a) h25 (by omega) (jP huo.sm hb64 (by omega)) hil.2 (by omega) (fun e=>hst (by rw [hsp,e])) ?_ ?_
   ·intro e T3 τ3 he hsv2 h26
    rw [EE]
    exact hno e T3 τ3 he (by rw [hsp,hsv2]) h26
   ·intro T3 L3 τ3 hl3 hsv2 h26
    rw [B5]
    exact hyes T3 L3 τ3 (by omega) (fun _=>by omega) (by rw [hsp,hsv2]) h26
  ·rw [if_neg hnx] at hsp
   exact absurd hsp hst
 ·rw [if_neg (by omega)] at hsp
  have hxa:=hxo.at8
  have hsm2:(⟨false,[a0,b0],[x.at',a]⟩:Nd).small:=by
   refine ⟨fun y hy=>?_,fun y hy=>?_⟩
   ·simp at hy; rcases hy with rfl | rfl<;>assumption
   ·simp at hy; rcases hy with rfl | rfl<;>omega
  have husa:=DF (f18.fnd (AO k1 x.n.lo.keys))
  have husb:=DF (f18.fnd (AO k2 x.n.hi.keys))
  obtain ⟨p1,ia1,la1⟩:=FY husa ha0
  obtain ⟨p2,ia2,la2⟩:=FY husb hb0
  rw [LV f18,show (0:Int)=((0:Nat):Int) from rfl,ia1,AF,la1,AH,LV f18,ia2,AF,la2,AH,LI f18]
  -- what is read again
  have rd:∀ {τ:AHeap} {A:List AJ} (K:Prop),H (SF::A) τ→((om (Ax.L b31 1 τ) fun v=>AQ v k1=true∧A3 .u64 (AD false 1 (.pointer (some p1)) τ) fun n=>AQ (.int .u64 n) (.int .u64 a0)=true∧om (Ax.L b33 1 τ) fun v=>AQ v k2=true∧A3 .u64 (AD false 1 (.pointer (some p2)) τ) fun n=>AQ (.int .u64 n) (.int .u64 b0)=true∧K)=K):=by
   intro τ A K ht
   have f:=hfr ht
   rw [LV f,S9 ⟨_,_,_,hk1⟩,jJ (DF (f.fnd (AO k1 x.n.lo.keys))) ha0 ia1,AH,CK,LV f,S9 ⟨_,_,_,hk2⟩,jJ (DF (f.fnd (AO k2 x.n.hi.keys))) hb0 ia2,AH,CK]
  have rx:∀ {τ:AHeap} {A:List AJ} (K:Prop),H (SF::A) τ→((A3 .u64 (Ax.L b13 0 τ) fun n=>AQ (.int .u64 n) (.int .u64 x.at')=true∧K)=K):=by
   intro τ A K ht
   have f:=hfr ht
   rw [LI f,CK]
  -- the end
  have fin:∀ {τ:AHeap} {nb kb vb:Nat},H (pt nb (.cells [.bool false,.slice (some ⟨kb,0,none⟩) 2 2,.slice (some ⟨vb,0,none⟩) 2 2] AE false)::pt kb (.cells [.int .u64 a0,.int .u64 b0] AL false)::pt vb (.cells [.int .u64 x.at',.int .u64 a] AL false)::DK wb sb L1::A2 sb rb T2 (M+2)::SF::l) τ→BG E Q wb nb τ:=by
   intro τ nb kb vb ht
   have q1:=mk2 (ht.perm (.swap _ _ _))
   have q2:H (pt vb (.cells [.int .u64 x.at',.int .u64 a] AL false)::AO (.slice (some ⟨kb,0,none⟩) 2 2) [a0,b0]::pt nb (.cells [.bool false,.slice (some ⟨kb,0,none⟩) 2 2,.slice (some ⟨vb,0,none⟩) 2 2] AE false)::DK wb sb L1::A2 sb rb T2 (M+2)::SF::l) τ:=q1.re
   have q3:=mk2 q2
   have q4:H (pt nb (.cells [.bool false,.slice (some ⟨kb,0,none⟩) 2 2,.slice (some ⟨vb,0,none⟩) 2 2] AE false)::AO (.slice (some ⟨kb,0,none⟩) 2 2) [a0,b0]::AO (.slice (some ⟨vb,0,none⟩) 2 2) [x.at',a]::DK wb sb L1::A2 sb rb T2 (M+2)::l) τ:=q3.re
   refine vA q4 (by omega) (by omega) hsm2 ?_ ?_
   ·intro e T3 τ3 he hm3 h30
    exact hno e T3 τ3 he (by rw [hsp,hm3]; rfl) h30
   ·intro top T3 kv vv τ3 hm3 h30
    refine hyes T3 _ τ3 (by simp; omega) (fun hk0=>by omega) ?_ h30
    rw [hsp,hm3]; rfl
  have nd0:∀ {τ:AHeap} {nb kb vb:Nat} {A:List AJ},H (pt nb (.cells [.bool false,.slice none 0 0,.slice none 0 0] AE false)::A) τ→(∀ τ',H (pt nb (.cells [.bool false,.slice (some ⟨kb,0,none⟩) 2 2,.slice (some ⟨vb,0,none⟩) 2 2] AE false)::A) τ'→BG E Q wb nb τ') →
   pu (AN 3 (.pointer (some ⟨nb,0,none⟩)) (.agg #[.bool false,.slice (some ⟨kb,0,none⟩) 2 2,.slice (some ⟨vb,0,none⟩) 2 2]) τ) fun τ154=>BG E Q wb nb τ154:=by
   intro τ nb kb vb A ht hk
   exact bJ ht rfl rfl rfl hk
  refine ⟨?_,?_,?_⟩
  ·refine nw h18 ?_
   intro kb τ3 g1
   rw [rx _ (g1.fnd SF)]
   refine ⟨?_,?_⟩
   ·refine nw g1 ?_
    intro vb τ4 g2
    rw [rd _ (g2.fnd SF)]
    refine FA rfl (FA rfl ?_)
    refine nw g2 ?_
    intro nb τ5 g3
    rw [rd _ (g3.fnd SF),rx _ (g3.fnd SF)]
    exact nd0 g3 fun τ' g4=>fin (kb:=kb) (vb:=vb) g4.re
   ·refine nw g1 ?_
    intro nb τ4 g2
    rw [rd _ (g2.fnd SF),rx _ (g2.fnd SF)]
    refine nw g2 ?_
    intro vb τ5 g3
    rw [rd _ (g3.fnd SF)]
    refine FA rfl (FA rfl ?_)
    exact nd0 (g3.fnd (pt nb (.cells [.bool false,.slice none 0 0,.slice none 0 0] AE false))) fun τ' g4=>fin (kb:=kb) (vb:=vb) g4.re
  ·refine nw h18 ?_
   intro vb τ3 g1
   rw [rd _ (g1.fnd SF)]
   refine ⟨?_,?_⟩
   ·refine nw g1 ?_
    intro kb τ4 g2
    rw [rx _ (g2.fnd SF)]
    refine FA rfl (FA rfl ?_)
    refine nw g2 ?_
    intro nb τ5 g3
    rw [rd _ (g3.fnd SF),rx _ (g3.fnd SF)]
    exact nd0 g3 fun τ' g4=>fin (kb:=kb) (vb:=vb) g4.re
   ·refine nw g1 ?_
    intro nb τ4 g2
    rw [rd _ (g2.fnd SF),rx _ (g2.fnd SF)]
    refine nw g2 ?_
    intro kb τ5 g3
    rw [rx _ (g3.fnd SF)]
    refine FA rfl (FA rfl ?_)
    exact nd0 (g3.fnd (pt nb (.cells [.bool false,.slice none 0 0,.slice none 0 0] AE false))) fun τ' g4=>fin (kb:=kb) (vb:=vb) g4.re
  ·refine nw h18 ?_
   intro nb τ3 g1
   rw [rd _ (g1.fnd SF),rx _ (g1.fnd SF)]
   refine ⟨?_,?_⟩
   ·refine nw g1 ?_
    intro kb τ4 g2
    rw [rx _ (g2.fnd SF)]
    refine nw g2 ?_
    intro vb τ5 g3
    rw [rd _ (g3.fnd SF)]
    refine FA rfl (FA rfl ?_)
    exact nd0 (g3.fnd (pt nb (.cells [.bool false,.slice none 0 0,.slice none 0 0] AE false))) fun τ' g4=>fin (kb:=kb) (vb:=vb) g4.re
   ·refine nw g1 ?_
    intro vb τ4 g2
    rw [rd _ (g2.fnd SF)]
    refine nw g2 ?_
    intro kb τ5 g3
    rw [rx _ (g3.fnd SF)]
    refine FA rfl (FA rfl ?_)
    exact nd0 (g3.fnd (pt nb (.cells [.bool false,.slice none 0 0,.slice none 0 0] AE false))) fun τ' g4=>fin (kb:=kb) (vb:=vb) g4.re
end Go.Ax.C
set_option maxRecDepth 100000
namespace Go.Ax.C
open Go.Proofs Go.RowKit
variable {l r r2 m:List AJ} {σ:AHeap} {Q:RK}
def dJ (f:List Wp→Nat→TS→R (List Wp)):Nat→List Wp→TS→R (List Wp)
 | 0,P,T=>.ok P T
 | k+1,P,T=>(f P k T).bind fun P T=>dJ f k P T
theorem wup {wb sb rb cost:Nat} {g:FuncId} {f:List Wp→Nat→TS→R (List Wp)} {T:TS} {M:Nat} {L:List Sp}
 (hg:∀ (L:List Sp) (k:Nat) (T:TS) (M:Nat) (τ:AHeap) (Q':RK),H (DK wb sb L::A2 sb rb T M::l) τ→M≤90000000000→L.length≤50→f (L.map Sp.w) k T≠.stuck →
  (∀ e T' σ',e≠0→f (L.map Sp.w) k T=.err e T'→H (A2 sb rb T' (M+cost)::l) σ'→Q' (.pan (flt e)) σ') →
  (∀ T' L' σ',L'.length≤L.length+1→f (L.map Sp.w) k T=.ok (L'.map Sp.w) T'→H (DK wb sb L'::A2 sb rb T' (M+cost)::l) σ'→Q' (.ret (.tuple #[])) σ')→E g [.pointer (some ⟨wb,0,none⟩),.int .i64 k] τ Q')
 (h:H (DK wb sb L::A2 sb rb T M::l) σ) (hM:M+cost*L.length≤80000000000) (hL:L.length≤20) (hst:dJ f L.length (L.map Sp.w) T≠.stuck)
 (hno:∀ e T' σ',e≠0→dJ f L.length (L.map Sp.w) T=.err e T'→H (A2 sb rb T' (M+cost*L.length)::l) σ'→Q (.pan (flt e)) σ')
 (hyes:∀ T' L' σ',L'.length≤2*L.length→dJ f L.length (L.map Sp.w) T=.ok (L'.map Sp.w) T'→H (DK wb sb L'::A2 sb rb T' (M+cost*L.length)::l) σ'→Q (.ret (.tuple #[])) σ') :
 E LW [.pointer (some ⟨wb,0,none⟩),.func (.func g) #[.pointer (some ⟨wb,0,none⟩)] #[]] σ Q:=by
 apply gQ; unfold V7
 obtain ⟨wv,hok,h2⟩:=HS.1 h
 rw [LV h2,ZY h2,AH]
 refine GA ((L.length:Int) - 1) (by omega) ?_
 refine ⟨fun m i τ=>∃ (L1:List Sp) (T1:TS),i+1=m∧m≤L.length∧L1.length+m≤2*L.length∧dJ f L.length (L.map Sp.w) T=dJ f m (L1.map Sp.w) T1∧H (DK wb sb L1::A2 sb rb T1 (M+cost*(L.length - m))::l) τ,
  ⟨L.length,L,T,by omega,Nat.le_refl _,by omega,rfl,by rw [Nat.sub_self,Nat.mul_zero]; exact h⟩,?_⟩
 clear h h2 wv hok
 rintro m i τ ⟨L1,T1,hi,hm,hl1,V0,h⟩
 unfold RA
 refine AT (fun g0=>?_) fun g0=>?_
 ·obtain ⟨k,rfl⟩:∃ k:Nat,i=k:=⟨i.toNat,by omega⟩
  have hmk:m=k+1:=by omega
  subst hmk
  have hup2:dJ f (k+1) (L1.map Sp.w) T1=(f (L1.map Sp.w) k T1).bind fun P T=>dJ f k P T:=rfl
  rw [hup2] at V0
  have hc:cost*(L.length - (k+1))+cost=cost*(L.length - k):=by rw [← Nat.mul_succ]; congr 1; omega
  have hc2:cost*(L.length - k)≤cost*L.length:=Nat.mul_le_mul_left _ (by omega)
  show E g [.pointer (some ⟨wb,0,none⟩),.int .i64 k] τ _
  refine hg L1 k T1 _ τ _ h (by omega) (by omega) (fun e=>hst (by rw [V0,e]; rfl)) ?_ ?_
  ·intro e T2 τ1 he hf h1
   rw [EE]
   exact hno e T2 τ1 he (by rw [V0,hf]; rfl) (CV (by omega) h1)
  ·intro T2 L2 τ1 hl2 hf h1
   rw [B5]
   refine GA ((k:Int) - 1) (by omega) ?_
   refine ⟨k,by omega,L2,T2,by omega,by omega,by omega,by rw [V0,hf]; rfl,?_⟩
   rw [show M+cost*(L.length - k)=M+cost*(L.length - (k+1))+cost by omega]
   exact h1
 ·have hm0:m=0:=by omega
  subst hm0
  exact hyes T1 L1 τ (by omega) V0 (by simpa using h)
def oE (P:List Wp) (old:Nat) (had:Bool) (T:TS):R (Nat×Nat×Bool) :=
 match P[0]? with
 | none=>.stuck
 | some s=>.ok (s.at',old,had) T
def Y4 (T:TS) (root key val:Nat):R (Nat×Nat×Bool) :=
 if val=0 then .err 1 T
 else if root=0 then (T.make ⟨true,[key],[val]⟩).bind fun a T=>.ok (a,0,false) T
 else (F1 true key 12 [] root T).bind fun P T=>match P[P.length - 1]? with
  | none=>.stuck
  | some s =>
    if s.n.keys[A7 s.n.keys key]?=some key then match s.n.vals[A7 s.n.keys key]? with
     | none=>.stuck
     | some old=>(ND P (P.length - 1) (A7 s.n.keys key) key val T).bind fun P T=>(dJ FX P.length P T).bind fun P T=>oE P old true T
    else if s.n.keys.length<400 then (DD P (P.length - 1) (s.n.insN (A7 s.n.keys key) key val) T).bind fun P T=>(dJ FX P.length P T).bind fun P T=>oE P 0 false T
    else .stuck
abbrev OJ (b1 b3 b5 b7:Nat) (to old:Nat) (had:Bool) (e:Nat) (l:List AJ):List AJ :=
 pt b1 (.cells [.int .u64 to] AL false)::pt b3 (.cells [.int .u64 old] AL false)::pt b5 (.cells [.bool had] CG false)::pt b7 (.cells [.int .i64 e] T9 false)::l
theorem RW {b1 b3 b5 b7 to old e:Nat} {had:Bool} (h:H (OJ b1 b3 b5 b7 to old had e l) σ) (hQ:H l σ→Q (.ret (.tuple #[.int .u64 to,.int .u64 old,.bool had,.int .i64 e])) σ) :
 pu (AD false 1 (.pointer (some ⟨b1,0,none⟩)) σ) fun v67=>pu (AD false 1 (.pointer (some ⟨b3,0,none⟩)) σ) fun v68=>pu (AD false 1 (.pointer (some ⟨b5,0,none⟩)) σ) fun v69=>pu (AD false 1 (.pointer (some ⟨b7,0,none⟩)) σ) fun v70=>Q (.ret (.tuple #[v67,v68,v69,v70])) σ:=by
 rw [Ld h,A4,Ld h,A4,Ld h,A4,Ld h,A4]
 exact hQ h.tail.tail.tail.tail
theorem nQ {b1 b3 b5 b7:Nat} {K:AHeap→Prop} (h:K σ):Dv P DO [.pointer (some ⟨b1,0,none⟩),.pointer (some ⟨b3,0,none⟩),.pointer (some ⟨b5,0,none⟩),.pointer (some ⟨b7,0,none⟩)] none σ K:=by
 apply P9; unfold IC
 refine ABe ?_
 rw [A6]
 refine CY (fun g=>absurd rfl g) fun _=>?_
 exact h
theorem mO {b1 b3 b5 b7 e to old e0:Nat} {had:Bool} {K:AHeap→Prop} (h:H (OJ b1 b3 b5 b7 to old had e0 l) σ) (he:e≠0) (hK:∀ σ',H (OJ b1 b3 b5 b7 0 0 false e l) σ'→K σ'):Dv P DO [.pointer (some ⟨b1,0,none⟩),.pointer (some ⟨b3,0,none⟩),.pointer (some ⟨b5,0,none⟩),.pointer (some ⟨b7,0,none⟩)] (some (flt e)) σ K:=by
 apply P9; unfold IC
 refine ABw h ?_
 intro σ1 h1
 rw [A6]
 refine CY (fun _=>?_) fun g=>absurd g (by omega)
 refine st h1 rfl ?_
 intro σ2 h2
 refine st h2 rfl ?_
 intro σ3 h3
 refine st h3 rfl ?_
 intro σ4 h4
 refine st h4 rfl ?_
 intro σ5 h5
 exact hK σ5 h5.re
theorem ABN {wb sb rb:Nat} (L:List Sp) (k:Nat) (T:TS) (M:Nat) (τ:AHeap) (Q':RK) (h:H (DK wb sb L::A2 sb rb T M::l) τ) (hM:M≤90000000000) (hL:L.length≤50) (hst:FX (L.map Sp.w) k T≠.stuck)
 (hno:∀ e T' σ',e≠0→FX (L.map Sp.w) k T=.err e T'→H (A2 sb rb T' (M+3)::l) σ'→Q' (.pan (flt e)) σ')
 (hyes:∀ T' L' σ',L'.length≤L.length+1→FX (L.map Sp.w) k T=.ok (L'.map Sp.w) T'→H (DK wb sb L'::A2 sb rb T' (M+3)::l) σ'→Q' (.ret (.tuple #[])) σ'):E ID [.pointer (some ⟨wb,0,none⟩),.int .i64 k] τ Q' :=
 ACe h hM (by omega) hst hno fun T' L' σ' h1 _ h2 h3=>hyes T' L' σ' h1 h2 h3
set_option maxHeartbeats 2000000 in
theorem lI {sb rb root key val:Nat} {T:TS} {M:Nat} (h:H (A2 sb rb T M::l) σ) (hM:M≤70000000000) (hroot:root<18446744073709551616) (hkey:key<18446744073709551616) (hval:val<18446744073709551616) (hst:Y4 T root key val≠.stuck)
 (hno:∀ e T' σ',e≠0→Y4 T root key val=.err e T'→H (A2 sb rb T' (M+200)::l) σ'→Q (.ret (.tuple #[.int .u64 0,.int .u64 0,.bool false,.int .i64 e])) σ')
 (hyes:∀ to old had T' σ',Y4 T root key val=.ok (to,old,had) T'→H (A2 sb rb T' (M+200)::l) σ'→Q (.ret (.tuple #[.int .u64 to,.int .u64 old,.bool had,.int .i64 0])) σ') :
 E IN [.pointer (some ⟨sb,0,none⟩),.int .u64 root,.int .u64 key,.int .u64 val] σ Q:=by
 apply gR; unfold V8
 refine nw h ?_
 intro b1 σ1 h1
 refine nw h1 ?_
 intro b3 σ2 h2
 refine nw h2 ?_
 intro b5 σ3 h3
 refine nw h3 ?_
 intro b7 σ4 h4
 have h4:H (A2 sb rb T M::OJ b1 b3 b5 b7 0 0 false 0 l) σ4:=h4.re
 refine fQ h4 ?_
 rw [if_neg (by omega),A6]
 refine CY (fun g=>absurd rfl g) fun _=>?_
 unfold Y4 at hst hno hyes
 refine AT (fun g=>?_) fun g=>?_
 ·rw [if_pos (by omega)] at hno
  refine st h4 rfl ?_
  intro τ1 g1
  refine st g1 rfl ?_
  intro τ2 g2
  refine st g2 rfl ?_
  intro τ3 g3
  refine st g3 rfl ?_
  intro τ4 g4
  have g5:H (OJ b1 b3 b5 b7 0 0 false 1 (A2 sb rb T M::l)) τ4:=g4.re
  refine RW (e:=1) g5 fun g6=>?_
  exact hno 1 T τ4 (by decide) rfl (CV (by omega) g6)
 rw [if_neg (by omega)] at hst hno hyes
 -- errors end here
 have pan:∀ {e:Nat} {T':TS} {τ:AHeap} {to old:Nat} {had:Bool} {N:Nat} {A:List AJ},e≠0→N≤M+200→H (A2 sb rb T' N::OJ b1 b3 b5 b7 to old had 0 l) τ→(∀ σ',H (A2 sb rb T' (M+200)::l) σ'→Q (.ret (.tuple #[.int .u64 0,.int .u64 0,.bool false,.int .i64 e])) σ') →
  qd P DO [(.pointer (some ⟨b1,0,none⟩)),(.pointer (some ⟨b3,0,none⟩)),(.pointer (some ⟨b5,0,none⟩)),(.pointer (some ⟨b7,0,none⟩))] (fun τ66 =>
   pu (AD false 1 (.pointer (some ⟨b1,0,none⟩)) τ66) fun v67 =>
   pu (AD false 1 (.pointer (some ⟨b3,0,none⟩)) τ66) fun v68 =>
   pu (AD false 1 (.pointer (some ⟨b5,0,none⟩)) τ66) fun v69 =>
   pu (AD false 1 (.pointer (some ⟨b7,0,none⟩)) τ66) fun v70 =>
   Q (.ret (.tuple #[v67,v68,v69,v70])) τ66) (.pan (flt e)) τ:=by
  intro e T' τ to old had N A he hN ht hq
  have g1:H (OJ b1 b3 b5 b7 to old had 0 (A2 sb rb T' N::l)) τ:=ht.re
  refine mO g1 he ?_
  intro τ1 g2
  refine RW (e:=e) g2 fun g3=>?_
  exact hq τ1 (CV hN g3)
 have ret:∀ {to old e:Nat} {had:Bool} {T':TS} {τ:AHeap} {N:Nat},N≤M+200→H (OJ b1 b3 b5 b7 to old had e (A2 sb rb T' N::l)) τ→(∀ σ',H (A2 sb rb T' (M+200)::l) σ'→Q (.ret (.tuple #[.int .u64 to,.int .u64 old,.bool had,.int .i64 e])) σ') →
  qd P DO [(.pointer (some ⟨b1,0,none⟩)),(.pointer (some ⟨b3,0,none⟩)),(.pointer (some ⟨b5,0,none⟩)),(.pointer (some ⟨b7,0,none⟩))] (fun τ66 =>
   pu (AD false 1 (.pointer (some ⟨b1,0,none⟩)) τ66) fun v67 =>
   pu (AD false 1 (.pointer (some ⟨b3,0,none⟩)) τ66) fun v68 =>
   pu (AD false 1 (.pointer (some ⟨b5,0,none⟩)) τ66) fun v69 =>
   pu (AD false 1 (.pointer (some ⟨b7,0,none⟩)) τ66) fun v70 =>
   Q (.ret (.tuple #[v67,v68,v69,v70])) τ66) (.ret (.tuple #[])) τ:=by
  intro to old e had T' τ N hN ht hq
  refine nQ ?_
  refine RW ht fun g3=>?_
  exact hq τ (CV hN g3)
 unfold QG
 refine AT (fun g0=>?_) fun g0=>?_
 ·rw [if_pos (by omega)] at hst hno hyes
  refine nw h4 ?_
  intro kb τ1 g1
  refine nw g1 ?_
  intro vb τ2 g2
  refine FA rfl (FA rfl ?_)
  have g3:H (AO (.slice (some ⟨kb,0,none⟩) 1 1) [key]::AO (.slice (some ⟨vb,0,none⟩) 1 1) [val]::A2 sb rb T M::OJ b1 b3 b5 b7 0 0 false 0 l) τ2:=by
   have q1:=mk1 g2
   have q2:H (pt kb (.cells [.int .u64 key] AL false)::AO (.slice (some ⟨vb,0,none⟩) 1 1) [val]::A2 sb rb T M::OJ b1 b3 b5 b7 0 0 false 0 l) τ2:=q1.re
   exact mk1 q2
  have g4:H (A2 sb rb T M::AO (.slice (some ⟨kb,0,none⟩) 1 1) [key]::AO (.slice (some ⟨vb,0,none⟩) 1 1) [val]::OJ b1 b3 b5 b7 0 0 false 0 l) τ2:=g3.re
  refine wS (n:=⟨true,[key],[val]⟩) g4 (by omega) (LX.two (n:=⟨true,[key],[val]⟩)) ⟨fun y hy=>?_,fun y hy=>?_⟩ (by simp) (by simp) ?_ ?_
  ·simp at hy; omega
  ·simp at hy; omega
  ·intro e τ3 he hmk g5
   rw [BQ,AP,AP]
   have g6:H (A2 sb rb T M::OJ b1 b3 b5 b7 0 0 false 0 l) τ3:=g5.re
   refine st g6 rfl ?_
   intro τ4 g7
   refine st g7 rfl ?_
   intro τ5 g8
   rw [LI g8,LI g8]
   refine st g8 rfl ?_
   intro τ6 g9
   rw [LI g9,CK]
   refine st g9 rfl ?_
   intro τ7 g10
   rw [LI g10,CK]
   refine st g10 rfl ?_
   intro τ8 g11
   rw [LI g11,CK]
   refine st g11 rfl ?_
   intro τ9 g12
   have g13:H (OJ b1 b3 b5 b7 0 0 false e (A2 sb rb T M::l)) τ9:=g12.re
   refine ret (by omega) g13 ?_
   intro τ10 g14
   exact hno e T τ10 he (by rw [hmk]; rfl) g14
  ·intro a T1 τ3 hmk g5
   rw [BQ,AP,AP]
   have g6:H (A2 sb rb T1 (M+1)::OJ b1 b3 b5 b7 0 0 false 0 l) τ3:=g5.re
   refine st g6 rfl ?_
   intro τ4 g7
   refine st g7 rfl ?_
   intro τ5 g8
   rw [LI g8,LI g8]
   refine st g8 rfl ?_
   intro τ6 g9
   rw [LI g9,CK]
   refine st g9 rfl ?_
   intro τ7 g10
   rw [LI g10,CK]
   refine st g10 rfl ?_
   intro τ8 g11
   rw [LI g11,CK]
   refine st g11 rfl ?_
   intro τ9 g12
   have g13:H (OJ b1 b3 b5 b7 a 0 false 0 (A2 sb rb T1 (M+1)::l)) τ9:=g12.re
   refine ret (by omega) g13 ?_
   intro τ10 g14
   exact hyes a 0 false T1 τ10 (by rw [hmk]; rfl) g14
 rw [if_neg (by omega)] at hst hno hyes
 refine ABb h4 (by omega) hroot hkey (fun e=>hst (by rw [e]; rfl)) ?_ ?_
 ·intro e T1 τ1 he hd g1
  rw [yM]
  refine pan (A:=[]) he (by omega) g1 ?_
  intro τ2 g2
  exact hno e T1 τ2 he (by rw [hd]; rfl) g2
 intro wb L T1 τ1 hd hL12 g1
 rw [hd] at hst hno hyes
 simp only [R.bind_ok] at hst hno hyes
 rw [B4]
 simp only [DX,AF,AM,Nat.zero_add]
 obtain ⟨wv,hok,g2⟩:=HS.1 g1
 rw [List.length_map,List.getElem?_map] at hst hno hyes
 cases hs:L[L.length - 1]? with
 | none=>rw [hs] at hst; exact absurd rfl hst
 | some s =>
 have hLl:=(List.getElem?_eq_some_iff.1 hs).1
 have hso:=hok s (List.mem_of_getElem? hs)
 have hwu:s.w=⟨s.at',s.n,s.nx⟩:=rfl
 rw [hs] at hst hno hyes
 simp only [Option.map_some,hwu] at hst hno hyes
 rw [AV g2,ZY g2,AH]
 refine GA ((L.length - 1:Nat):Int) (by omega) ?_
 obtain ⟨b',c',hwv',u1,u2,u3,u4,u5,u6⟩:=MI g2 hs
 rw [AV g2,u1,AF]
 simp only [AM,AF,Nat.add_assoc,Nat.reduceAdd,Nat.add_zero]
 rw [u3,BY,u4,AF,u5,AF]
 have g3:H (BU L::pt wb (.cells [.pointer (some ⟨sb,0,none⟩),wv] AZ false)::A5 AA 5 wv L.length (L.map IF).flatten::A2 sb rb T1 (M+60)::OJ b1 b3 b5 b7 0 0 false 0 l) τ1:=g2.re
 have g4:=HL g3 (List.mem_of_getElem? hs)
 refine nw g4 ?_
 intro b161 τ2 g5
 refine bJ g5 rfl hso.o1 hso.o2 ?_
 intro τ3 g6
 rw [LB g6,LV g6,LV g6]
 have hle:=hso.le
 refine yH g6 (LX.two.cons) hso.eq.symm (by omega) ?_
 intro τ4 g7
 rw [BQ,AP,EL]
 have hus:=LX.two (n:=s.n) τ4 g7.tail
 -- the way,as one
 have wy:∀ {τ:AHeap} {to old:Nat} {had:Bool} {e:Nat},H (pt b161 (.cells [.bool s.n.leaf,s.kv,s.vv] AE false)::AO s.kv s.n.keys::AO s.vv s.n.vals::BU L::pt wb (.cells [.pointer (some ⟨sb,0,none⟩),wv] AZ false)::A5 AA 5 wv L.length (L.map IF).flatten::A2 sb rb T1 (M+60)::OJ b1 b3 b5 b7 to old had e l) τ→H (DK wb sb L::A2 sb rb T1 (M+60)::OJ b1 b3 b5 b7 to old had e l) τ:=by
  intro τ to old had e ht
  exact HS.2 ⟨wv,hok,ht.re⟩
 -- behind the leaf
 have k17:∀ (L5:List Sp) (T5:TS) (old:Nat) (had:Bool) (τ:AHeap),L5.length=L.length→((dJ FX (L5.map Sp.w).length (L5.map Sp.w) T5).bind fun P T=>oE P old had T)≠.stuck →
  (∀ e T' σ',e≠0→((dJ FX (L5.map Sp.w).length (L5.map Sp.w) T5).bind fun P T=>oE P old had T)=.err e T'→H (A2 sb rb T' (M+200)::l) σ'→Q (.ret (.tuple #[.int .u64 0,.int .u64 0,.bool false,.int .i64 e])) σ') →
  (∀ to old' had' T' σ',((dJ FX (L5.map Sp.w).length (L5.map Sp.w) T5).bind fun P T=>oE P old had T)=.ok (to,old',had') T'→H (A2 sb rb T' (M+200)::l) σ'→Q (.ret (.tuple #[.int .u64 to,.int .u64 old',.bool had',.int .i64 0])) σ') →
  H (DK wb sb L5::A2 sb rb T5 (M+61)::OJ b1 b3 b5 b7 0 old false 0 l) τ →
  HO E (qd P DO [(.pointer (some ⟨b1,0,none⟩)),(.pointer (some ⟨b3,0,none⟩)),(.pointer (some ⟨b5,0,none⟩)),(.pointer (some ⟨b7,0,none⟩))] fun τ66 =>
   pu (AD false 1 (.pointer (some ⟨b1,0,none⟩)) τ66) fun v67 =>
   pu (AD false 1 (.pointer (some ⟨b3,0,none⟩)) τ66) fun v68 =>
   pu (AD false 1 (.pointer (some ⟨b5,0,none⟩)) τ66) fun v69 =>
   pu (AD false 1 (.pointer (some ⟨b7,0,none⟩)) τ66) fun v70 =>
   Q (.ret (.tuple #[v67,v68,v69,v70])) τ66) (.pointer (some ⟨wb,0,none⟩)) b3 had b1 b5 b7 τ:=by
  intro L5 T5 old had τ hl5 hst5 hno5 hyes5 ht
  rw [List.length_map] at hst5 hno5 hyes5
  unfold HO
  refine wup (f:=FX) (cost:=3) (fun L k T M τ Q' h1 h2 h3 h4 h5 h6=>ABN L k T M τ Q' h1 h2 h3 h4 h5 h6) ht (by omega) (by omega) (fun e=>hst5 (by rw [e]; rfl)) ?_ ?_
  ·intro e T6 τ5 he hu q1
   rw [EE]
   refine pan (A:=[]) he (by omega) q1 ?_
   intro τ6 q2
   exact hno5 e T6 τ6 he (by rw [hu]; rfl) q2
  ·intro T6 L6 τ5 hl6 hu q1
   rw [hu] at hst5 hno5 hyes5
   simp only [R.bind_ok] at hst5 hno5 hyes5
   rw [B5]
   simp only [DX,AF,AM,Nat.zero_add]
   obtain ⟨wv6,hok6,q2⟩:=HS.1 q1
   unfold oE at hst5 hyes5
   rw [List.getElem?_map] at hst5 hyes5
   cases hs6:L6[0]? with
   | none=>rw [hs6] at hst5; exact absurd rfl hst5
   | some s6 =>
   rw [hs6] at hyes5
   obtain ⟨b6,c6,hwv6,w1,w2,_⟩:=MI q2 hs6
   rw [AV q2,show (0:Int)=((0:Nat):Int) from rfl,w1,AF]
   simp only [AM,AF,Nat.add_zero,Nat.zero_mul]
   simp only [Nat.zero_mul] at w2
   rw [w2,AH]
   have q3:H (DK wb sb L6::A2 sb rb T6 (M+61+3*L5.length)::OJ b1 b3 b5 b7 0 old false 0 l) τ5:=q1
   rw [LI q3]
   refine st q3 rfl ?_
   intro τ6 q4
   rw [LI q4,CK]
   refine st q4 rfl ?_
   intro τ7 q5
   refine st q5 rfl ?_
   intro τ8 q6
   refine st q6 rfl ?_
   intro τ9 q7
   have q8:H (OJ b1 b3 b5 b7 s6.at' old had 0 (A2 sb rb T6 (M+61+3*L5.length)::l)) τ9:=q7.re
   refine ret (by omega) q8 ?_
   intro τ10 q9
   exact hyes5 s6.at' old had T6 τ10 rfl q9
 refine iK (fun gk=>?_) fun gk=>?_
 ·have gk:s.n.keys[A7 s.n.keys key]?=some key:=by simpa using gk
  rw [if_pos gk] at hst hno hyes
  cases hov:s.n.vals[A7 s.n.keys key]? with
  | none=>rw [hov] at hst; exact absurd rfl hst
  | some old =>
  rw [hov] at hst hno hyes
  simp only at hst hno hyes
  obtain ⟨p,ia,la⟩:=FY hus.2 hov
  rw [LV g7,ia,AF,la,AH]
  refine st g7 rfl ?_
  intro τ5 g8
  have g9:H (DK wb sb L::A2 sb rb T1 (M+60)::OJ b1 b3 b5 b7 0 old false 0 l) τ5:=wy g8.re
  refine s0 g9 (by omega) hkey hval (fun e=>hst (by rw [e]; rfl)) ?_ ?_
  ·intro e T6 τ6 he hw g10
   rw [EE]
   refine pan (A:=[]) he (by omega) g10 ?_
   intro τ7 q2
   exact hno e T6 τ7 he (by rw [hw]; rfl) q2
  ·intro T6 L6 τ6 hl6 hw g10
   rw [hw] at hst hno hyes
   simp only [R.bind_ok] at hst hno hyes
   rw [B5,decide_eq_true gk]
   exact k17 L6 T6 old true τ6 hl6 hst hno hyes g10
 ·have gk':¬ s.n.keys[A7 s.n.keys key]?=some key:=by simpa using gk
  rw [if_neg gk'] at hst hno hyes
  by_cases h400:s.n.keys.length<400
  ·rw [if_pos h400] at hst hno hyes
   have hil:=s9 (key:=key) (val:=val) hso.eq (fF s.n.keys key)
   rw [LB g7,LV g7,LV g7]
   refine sK g7 (LX.two.cons) hso.eq.symm (by omega) (fF _ _) ?_
   intro kv' vv' τ5 g8
   rw [B4]
   have g8:H (AO kv' (s.n.insN (A7 s.n.keys key) key val).keys::AO vv' (s.n.insN (A7 s.n.keys key) key val).vals::pt b161 (.cells [.bool s.n.leaf,s.kv,s.vv] AE false)::AO s.kv s.n.keys::AO s.vv s.n.vals::BU L::pt wb (.cells [.pointer (some ⟨sb,0,none⟩),wv] AZ false)::A5 AA 5 wv L.length (L.map IF).flatten::A2 sb rb T1 (M+60)::OJ b1 b3 b5 b7 0 0 false 0 l) τ5:=g8
   have g9:H (DK wb sb L::A2 sb rb T1 (M+60)::AO kv' (s.n.insN (A7 s.n.keys key) key val).keys::AO vv' (s.n.insN (A7 s.n.keys key) key val).vals::OJ b1 b3 b5 b7 0 0 false 0 l) τ5:=HS.2 ⟨wv,hok,g8.re⟩
   refine aA (n:=s.n.insN (A7 s.n.keys key) key val) g9 (by omega) (jP hso.sm hkey hval) hil.2 (by omega) (fun e=>hst (by rw [e]; rfl)) ?_ ?_
   ·intro e T6 τ6 he hw g10
    rw [EE]
    refine pan (A:=[]) he (by omega) g10 ?_
    intro τ7 q2
    exact hno e T6 τ7 he (by rw [hw]; rfl) q2
   ·intro T6 L6 τ6 hl6 hw g10
    rw [hw] at hst hno hyes
    simp only [R.bind_ok] at hst hno hyes
    rw [B5,decide_eq_false gk']
    exact k17 L6 T6 0 false τ6 hl6 hst hno hyes g10
  ·rw [if_neg h400] at hst
   exact absurd rfl hst
end Go.Ax.C
set_option maxRecDepth 100000
namespace Go.Ax.C
open Go.Proofs Go.RowKit
variable {l r r2 m:List AJ} {σ:AHeap} {Q:RK}
def Nd.remN (n:Nd) (i:Nat):Nd:=⟨n.leaf,VY i true n.keys,VY i false n.vals⟩
def Nd.join (a b:Nd):Nd:=⟨a.leaf,a.keys++b.keys,a.vals++b.vals⟩
def Nd.evA (a b:Nd):Nd:=⟨a.leaf,(a.keys++b.keys).take (GZ a b),(a.vals++b.vals).take (GZ a b)⟩
def Nd.evB (a b:Nd):Nd:=⟨a.leaf,(a.keys++b.keys).drop (GZ a b),(a.vals++b.vals).drop (GZ a b)⟩
theorem KZ {a b:Nd} (ha:a.small) (hb:b.small):(a.join b).small:=by
 refine ⟨fun x hx=>?_,fun x hx=>?_⟩
 ·rcases List.mem_append.1 hx with h | h
  ·exact ha.1 x h
  ·exact hb.1 x h
 ·rcases List.mem_append.1 hx with h | h
  ·exact ha.2 x h
  ·exact hb.2 x h
theorem iZ {a b:Nd} (ha:a.small) (hb:b.small):(a.evA b).small:=⟨fun x hx=>(KZ ha hb).1 x (List.mem_of_mem_take hx),fun x hx=>(KZ ha hb).2 x (List.mem_of_mem_take hx)⟩
theorem jF {a b:Nd} (ha:a.small) (hb:b.small):(a.evB b).small:=⟨fun x hx=>(KZ ha hb).1 x (List.mem_of_mem_drop hx),fun x hx=>(KZ ha hb).2 x (List.mem_of_mem_drop hx)⟩
theorem iX {n:Nd} {i:Nat} (h:n.small):(n.remN i).small:=by
 refine ⟨fun x hx=>?_,fun x hx=>?_⟩
 ·rcases List.mem_append.1 hx with h1 | h1
  ·exact h.1 x (List.mem_of_mem_take h1)
  ·exact h.1 x (List.mem_of_mem_drop h1)
 ·rcases List.mem_append.1 hx with h1 | h1
  ·exact h.2 x (List.mem_of_mem_take h1)
  ·exact h.2 x (List.mem_of_mem_drop h1)
def YO (T:TS) (a:Nat) (n:Nd):R Unit:=if n.May then if a<T.now.length then .ok () (T.put a n) else .stuck else .err 1 T
theorem qQ {sb rb a:Nat} {T:TS} {M:Nat} {n:Nd} {kv vv:Value} (h:H (A2 sb rb T M::l) σ) (hM:M≤100000000000) (hn:LX l kv vv n) (hs:n.small) (hk9:n.keys.length<9223372036854775808) (hv9:n.vals.length<9223372036854775808) (ha:a<2147483648)
 (hst:YO T a n≠.stuck)
 (hno:∀ (e:Nat) T' σ',e≠0→YO T a n=.err e T'→H (A2 sb rb T' (M+1)::l) σ'→Q (.ret (.int .i64 e)) σ')
 (hyes:∀ T' σ',YO T a n=.ok () T'→H (A2 sb rb T' (M+1)::l) σ'→Q (.ret (.int .i64 0)) σ') :
 E B9 [.pointer (some ⟨sb,0,none⟩),.int .u64 a,.agg #[.bool n.leaf,kv,vv]] σ Q:=by
 unfold YO at hst hno hyes
 refine sG h hM hn hs hk9 hv9 ?_ ?_ ?_
 ·intro hor σ1 h1
  have hm:¬ n.May:=by
   rcases hor with h | h
   ·omega
   ·exact h
  rw [if_neg hm] at hno
  exact hno 1 T σ1 (by decide) rfl (CV (by omega) h1)
 ·intro _ hm hge σ1 h1
  rw [if_pos hm,if_neg (by omega)] at hst
  exact absurd rfl hst
 ·intro hm hlt σ1 h1
  rw [if_pos hm,if_pos hlt] at hyes
  exact hyes _ σ1 rfl h1
def IH (P:List Wp) (k:Nat) (upn:Nd) (left right aa:Nat) (an:Nd) (ab:Nat) (bn:Nd) (T:TS):R (List Wp) :=
 if left<upn.keys.length∧right<upn.keys.length then
  if an.keys.length+bn.keys.length≤8 then
   (YO T aa (an.join bn)).bind fun _ T=>(T.dec ab).bind fun _ T=>match (an.join bn).keys[0]? with
    | none=>.stuck
    | some j0=>DD P (k - 1) ((upn.setN left j0 aa).remN right) T
  else (YO T aa (an.evA bn)).bind fun _ T=>(YO T ab (an.evB bn)).bind fun _ T=>match (an.evA bn).keys[0]?,(an.evB bn).keys[0]? with
   | some c0,some d0=>DD P (k - 1) ((upn.setN left c0 aa).setN right d0 ab) T
   | _,_=>.stuck
 else .stuck
theorem AAq {T T':TS} {a:Nat} {b:Bool} (h:T.dec a=.ok b T'):T'.now.length=T.now.length∧T'.was=T.was∧T'.g=T.g∧a<T.now.length:=by
 unfold TS.dec at h
 split at h
 ·cases h
 ·rename_i x hx
  split at h
  ·cases h
  ·cases h; exact ⟨by simp,rfl,rfl,(List.getElem?_eq_some_iff.1 hx).1⟩
set_option maxHeartbeats 2000000 in
theorem oR {wb sb rb k left right aa ab ba bb bu z1 z2:Nat} {an bn:Nd} {ka va kb vb:Value} {up:Sp} {T:TS} {M:Nat} {L:List Sp}
 (h:H (pt ba (.cells [.int .u64 aa,.bool an.leaf,ka,va,.int .i64 z1] AA false)::pt bb (.cells [.int .u64 ab,.bool bn.leaf,kb,vb,.int .i64 z2] AA false)::pt bu (.cells (IF up) AA false) ::
  AO ka an.keys::AO va an.vals::AO kb bn.keys::AO vb bn.vals::AO up.kv up.n.keys::AO up.vv up.n.vals::DK wb sb L::A2 sb rb T M::l) σ)
 (hM:M≤99000000000) (hk:0<k∧k≤100) (han:an.small∧an.vals.length=an.keys.length∧an.keys.length≤400) (hbn:bn.small∧bn.vals.length=bn.keys.length∧bn.keys.length≤400) (V0:SQ up) (haa:aa<2147483648) (hab:ab<2147483648)
 (hst:IH (L.map Sp.w) k up.n left right aa an ab bn T≠.stuck)
 (hno:∀ e T' σ',e≠0→IH (L.map Sp.w) k up.n left right aa an ab bn T=.err e T'→H (A2 sb rb T' (M+3)::l) σ'→Q (.pan (flt e)) σ')
 (hyes:∀ T' L' σ',L'.length=L.length→IH (L.map Sp.w) k up.n left right aa an ab bn T=.ok (L'.map Sp.w) T'→H (DK wb sb L'::A2 sb rb T' (M+3)::l) σ'→Q (.ret (.tuple #[])) σ') :
 F8 E Q ba bb wb k bu left right σ:=by
 unfold F8
 have h:H (pt ba (.cells [.int .u64 aa,.bool an.leaf,ka,va,.int .i64 z1] AA false)::pt bb (.cells [.int .u64 ab,.bool bn.leaf,kb,vb,.int .i64 z2] AA false)::pt bu (.cells [.int .u64 up.at',.bool up.n.leaf,up.kv,up.vv,.int .i64 up.nx] AA false) ::
  AO ka an.keys::AO va an.vals::AO kb bn.keys::AO vb bn.vals::AO up.kv up.n.keys::AO up.vv up.n.vals::DK wb sb L::A2 sb rb T M::l) σ:=h
 have hla:BJ ka=some (.int .i64 an.keys.length):=by obtain ⟨a,c,hv⟩:=AS (h.fnd (AO ka an.keys)); rw [hv]; rfl
 have hlb:BJ kb=some (.int .i64 bn.keys.length):=by obtain ⟨a,c,hv⟩:=AS (h.fnd (AO kb bn.keys)); rw [hv]; rfl
 rw [LV h,hla,AH,LV h,hlb,AH]
 refine GA ((an.keys.length+bn.keys.length:Nat):Int) (by omega) ?_
 unfold IH at hst hno hyes
 by_cases hlr:left<up.n.keys.length∧right<up.n.keys.length
 case neg=>rw [if_neg hlr] at hst; exact absurd rfl hst
 rw [if_pos hlr] at hst hno hyes
 have hul:=V0.le
 have hue:=V0.eq
 -- the shelf's pointer,the way's
 have pS:∀ {τ:AHeap} {A:List AJ},H (DK wb sb L::A) τ→Ax.L wb 0 τ=some (.pointer (some ⟨sb,0,none⟩)):=by
  intro τ A ht
  obtain ⟨wv,_,h2⟩:=HS.1 ht
  exact qO h2
 have hns:LX (pt ba (.cells [.int .u64 aa,.bool an.leaf,ka,va,.int .i64 z1] AA false)::pt bb (.cells [.int .u64 ab,.bool bn.leaf,kb,vb,.int .i64 z2] AA false)::pt bu (.cells [.int .u64 up.at',.bool up.n.leaf,up.kv,up.vv,.int .i64 up.nx] AA false) ::
  AO ka an.keys::AO va an.vals::AO kb bn.keys::AO vb bn.vals::AO up.kv up.n.keys::AO up.vv up.n.vals::DK wb sb L::A2 sb rb T M::l) ka va an:=fun τ ht=>LX.two (l:=l) τ ht.re
 have hnb:LX (pt ba (.cells [.int .u64 aa,.bool an.leaf,ka,va,.int .i64 z1] AA false)::pt bb (.cells [.int .u64 ab,.bool bn.leaf,kb,vb,.int .i64 z2] AA false)::pt bu (.cells [.int .u64 up.at',.bool up.n.leaf,up.kv,up.vv,.int .i64 up.nx] AA false) ::
  AO ka an.keys::AO va an.vals::AO kb bn.keys::AO vb bn.vals::AO up.kv up.n.keys::AO up.vv up.n.vals::DK wb sb L::A2 sb rb T M::l) kb vb bn:=fun τ ht=>LX.two (l:=l) τ ht.re
 refine AT (fun g=>?_) fun g=>?_
 ·rw [if_pos (by omega)] at hst hno hyes
  rw [LB h,LV h,LV h,LB h,LV h,LV h]
  refine ABc h hns hnb han.2.1.symm hbn.2.1.symm (by omega) (by omega) ?_
  intro k1 v1 σ1 h1
  rw [B4]
  obtain ⟨ak1,ck1,hk1⟩:=AS h1
  obtain ⟨av1,cv1,hv1⟩:=AS h1.tail
  have ok1:one k1=true:=by rw [hk1]; rfl
  have ok2:one v1=true:=by rw [hv1]; rfl
  refine nw h1 ?_
  intro bj σ2 h2
  refine bJ h2 rfl ok1 ok2 ?_
  intro σ3 h3
  have h4:H (A2 sb rb T M::DK wb sb L::AO k1 (an.join bn).keys::AO v1 (an.join bn).vals::pt bj (.cells [.bool an.leaf,k1,v1] AE false)::pt ba (.cells [.int .u64 aa,.bool an.leaf,ka,va,.int .i64 z1] AA false)::pt bb (.cells [.int .u64 ab,.bool bn.leaf,kb,vb,.int .i64 z2] AA false)::pt bu (.cells [.int .u64 up.at',.bool up.n.leaf,up.kv,up.vv,.int .i64 up.nx] AA false)::AO up.kv up.n.keys::AO up.vv up.n.vals::l) σ3:=by
   have q:H (pt bj (.cells [.bool an.leaf,k1,v1] AE false)::AO k1 (an.join bn).keys::AO v1 (an.join bn).vals::pt ba (.cells [.int .u64 aa,.bool an.leaf,ka,va,.int .i64 z1] AA false)::pt bb (.cells [.int .u64 ab,.bool bn.leaf,kb,vb,.int .i64 z2] AA false)::pt bu (.cells [.int .u64 up.at',.bool up.n.leaf,up.kv,up.vv,.int .i64 up.nx] AA false) ::
    AO ka an.keys::AO va an.vals::AO kb bn.keys::AO vb bn.vals::AO up.kv up.n.keys::AO up.vv up.n.vals::DK wb sb L::A2 sb rb T M::l) σ3:=h3
   exact q.re
  rw [pS h4.tail,AF,LI h4,LB h4,LV h4,LV h4]
  have hjl:(an.join bn).keys.length=an.keys.length+bn.keys.length∧(an.join bn).vals.length=an.keys.length+bn.keys.length:=by have:=han.2.1; have:=hbn.2.1; simp [Nd.join]; omega
  refine qQ (n:=an.join bn) h4 (by omega) (fun τ ht=>LX.two (l:=l) τ ht.re) (KZ han.1 hbn.1) (by omega) (by omega) haa (fun e=>hst (by rw [e]; rfl)) ?_ ?_
  ·intro e T1 τ1 he hsv h5
   rw [A6]
   refine SS he ?_
   rw [EE]
   have h6:H (A2 sb rb T1 (M+1)::l) τ1:=h5.re
   exact hno e T1 τ1 he (by rw [hsv]; rfl) (CV (by omega) h6)
  intro T1 τ1 hsv h5
  rw [hsv] at hst hno hyes
  simp only [R.bind_ok] at hst hno hyes
  rw [A6]
  refine UE ?_
  rw [B5,pS h5.tail,AF]
  have hp0:AD false 1 (.pointer (some ⟨sb,0,none⟩)) τ1=some (.pointer (some ⟨rb,0,none⟩)):=rW h5
  simp only [DX,AF,AM,Nat.zero_add]
  rw [hp0,AF,LI h5]
  refine GA (ab:Int) (by omega) ?_
  refine oZ h5 rfl (fun e=>hst (by rw [e]; rfl)) ?_ ?_
  ·intro e τ2 he hd h6
   rw [BQ,EL,AP]
   refine SS he ?_
   rw [EE]
   have h7:H (A2 sb rb T1 (M+1)::l) τ2:=h6.re
   exact hno e T1 τ2 he (by rw [hd]; rfl) (CV (by omega) h7)
  intro bd T2 τ2 hd h6
  have hdn:=AAq hd
  rw [hd] at hst hno hyes
  simp only [R.bind_ok] at hst hno hyes
  rw [BQ,EL,AP]
  refine UE ?_
  rw [B5]
  refine GA ((k - 1:Nat):Int) (by omega) ?_
  rw [LB h6,LV h6,LV h6,LV h6]
  cases hj0:(an.join bn).keys[0]? with
  | none=>rw [hj0] at hst; exact absurd rfl hst
  | some j0 =>
  rw [hj0] at hst hno hyes
  simp only at hst hno hyes
  obtain ⟨p,ia,la⟩:=FY (DF (h6.fnd (AO k1 (an.join bn).keys))) hj0
  rw [show (0:Int)=((0:Nat):Int) from rfl,ia,AF,la,AH,LI h6]
  have hj64:=(KZ han.1 hbn.1).1 j0 (List.mem_of_getElem? hj0)
  refine ABJ (lf:=up.n.leaf) (n:=up.n) h6 (fun τ ht=>LX.two (l:=l) τ ht.re) hue.symm (by omega) hlr.1 ?_
  intro k2 v2 τ3 h7
  rw [B4]
  have h7:H (AO k2 (up.n.setN left j0 aa).keys::AO v2 (up.n.setN left j0 aa).vals::A2 sb rb T2 (M+1)::DK wb sb L::AO k1 (an.join bn).keys::AO v1 (an.join bn).vals::pt bj (.cells [.bool an.leaf,k1,v1] AE false)::pt ba (.cells [.int .u64 aa,.bool an.leaf,ka,va,.int .i64 z1] AA false)::pt bb (.cells [.int .u64 ab,.bool bn.leaf,kb,vb,.int .i64 z2] AA false)::pt bu (.cells [.int .u64 up.at',.bool up.n.leaf,up.kv,up.vv,.int .i64 up.nx] AA false)::AO up.kv up.n.keys::AO up.vv up.n.vals::l) τ3:=h7
  have hsl:(up.n.setN left j0 aa).keys.length=up.n.keys.length∧(up.n.setN left j0 aa).vals.length=up.n.keys.length:=by simp [Nd.setN,setF]; exact hue
  refine s4 (lf:=up.n.leaf) (n:=up.n.setN left j0 aa) (i:=right) h7 LX.two (by omega) (by omega) (by omega) ?_
  intro k3 v3 τ4 h8
  rw [B4]
  have h8:H (AO k3 ((up.n.setN left j0 aa).remN right).keys::AO v3 ((up.n.setN left j0 aa).remN right).vals::AO k2 (up.n.setN left j0 aa).keys::AO v2 (up.n.setN left j0 aa).vals::A2 sb rb T2 (M+1)::DK wb sb L::AO k1 (an.join bn).keys::AO v1 (an.join bn).vals::pt bj (.cells [.bool an.leaf,k1,v1] AE false)::pt ba (.cells [.int .u64 aa,.bool an.leaf,ka,va,.int .i64 z1] AA false)::pt bb (.cells [.int .u64 ab,.bool bn.leaf,kb,vb,.int .i64 z2] AA false)::pt bu (.cells [.int .u64 up.at',.bool up.n.leaf,up.kv,up.vv,.int .i64 up.nx] AA false)::AO up.kv up.n.keys::AO up.vv up.n.vals::l) τ4:=h8
  have h9:H (DK wb sb L::A2 sb rb T2 (M+1)::AO k3 ((up.n.setN left j0 aa).remN right).keys::AO v3 ((up.n.setN left j0 aa).remN right).vals::l) τ4:=h8.re
  have hrl:((up.n.setN left j0 aa).remN right).keys.length=up.n.keys.length - 1∧((up.n.setN left j0 aa).remN right).vals.length=up.n.keys.length - 1:=by simp [Nd.remN,VY]; omega
  refine aA (n:=(up.n.setN left j0 aa).remN right) h9 (by omega) (iX (VC V0.sm hj64 (by omega))) (by omega) (by omega) hst ?_ ?_
  ·intro e T3 τ5 he hw h10
   rw [EE]
   exact hno e T3 τ5 he hw (CV (by omega) h10)
  ·intro T3 L3 τ5 hl3 hw h10
   rw [B5]
   have h11:H (A2 sb rb T3 (M+1+1)::DK wb sb L3::l) τ5:=h10.re
   exact hyes T3 L3 τ5 hl3 hw ((CV (N:=M+3) (by omega) h11).perm (.swap _ _ _))
 ·rw [if_neg (by omega)] at hst hno hyes
  rw [LB h,LV h,LV h,LB h,LV h,LV h]
  refine ADx h hns hnb han.2.1.symm hbn.2.1.symm (by omega) (by omega) ?_
  intro k1 v1 k2 v2 σ1 h1
  rw [BQ]
  obtain ⟨ak1,ck1,hk1⟩:=AS h1
  obtain ⟨av1,cv1,hv1⟩:=AS h1.tail
  obtain ⟨ak2,ck2,hk2⟩:=AS h1.tail.tail
  obtain ⟨av2,cv2,hv2⟩:=AS h1.tail.tail.tail
  refine nw h1 ?_
  intro bc σ2 h2
  refine nw h2 ?_
  intro bd σ3 h3
  refine bJ h3 rfl (by rw [hk1]; rfl) (by rw [hv1]; rfl) ?_
  intro σ4 h4
  refine bJ h4 rfl (by rw [hk2]; rfl) (by rw [hv2]; rfl) ?_
  intro σ5 h5
  have h6:H (A2 sb rb T M::DK wb sb L::AO k1 (an.evA bn).keys::AO v1 (an.evA bn).vals::AO k2 (an.evB bn).keys::AO v2 (an.evB bn).vals::pt bc (.cells [.bool an.leaf,k1,v1] AE false)::pt bd (.cells [.bool an.leaf,k2,v2] AE false)::pt ba (.cells [.int .u64 aa,.bool an.leaf,ka,va,.int .i64 z1] AA false)::pt bb (.cells [.int .u64 ab,.bool bn.leaf,kb,vb,.int .i64 z2] AA false)::pt bu (.cells [.int .u64 up.at',.bool up.n.leaf,up.kv,up.vv,.int .i64 up.nx] AA false)::AO up.kv up.n.keys::AO up.vv up.n.vals::l) σ5:=by
   have q:H (pt bd (.cells [.bool an.leaf,k2,v2] AE false)::pt bc (.cells [.bool an.leaf,k1,v1] AE false)::AO k1 (an.evA bn).keys::AO v1 (an.evA bn).vals::AO k2 (an.evB bn).keys::AO v2 (an.evB bn).vals::pt ba (.cells [.int .u64 aa,.bool an.leaf,ka,va,.int .i64 z1] AA false)::pt bb (.cells [.int .u64 ab,.bool bn.leaf,kb,vb,.int .i64 z2] AA false)::pt bu (.cells [.int .u64 up.at',.bool up.n.leaf,up.kv,up.vv,.int .i64 up.nx] AA false) ::
    AO ka an.keys::AO va an.vals::AO kb bn.keys::AO vb bn.vals::AO up.kv up.n.keys::AO up.vv up.n.vals::DK wb sb L::A2 sb rb T M::l) σ5:=h5
   exact q.re
  rw [pS h6.tail,AF,LI h6,LB h6,LV h6,LV h6]
  have hel:(an.evA bn).keys.length=GZ an bn∧(an.evA bn).vals.length=GZ an bn∧(an.evB bn).keys.length=an.keys.length+bn.keys.length - GZ an bn∧(an.evB bn).vals.length=an.keys.length+bn.keys.length - GZ an bn:=by
   have:=han.2.1; have:=hbn.2.1
   have:GZ an bn≤an.keys.length+bn.keys.length:=by unfold GZ; omega
   simp [Nd.evA,Nd.evB]; omega
  have hek:1≤GZ an bn∧GZ an bn<an.keys.length+bn.keys.length:=by unfold GZ; omega
  refine qQ (n:=an.evA bn) h6 (by omega) (fun τ ht=>LX.two (l:=l) τ ht.re) (iZ han.1 hbn.1) (by omega) (by omega) haa (fun e=>hst (by rw [e]; rfl)) ?_ ?_
  ·intro e T1 τ1 he hsv h7
   rw [A6]
   refine SS he ?_
   rw [EE]
   have h8:H (A2 sb rb T1 (M+1)::l) τ1:=h7.re
   exact hno e T1 τ1 he (by rw [hsv]; rfl) (CV (by omega) h8)
  intro T1 τ1 hsv h7
  rw [hsv] at hst hno hyes
  simp only [R.bind_ok] at hst hno hyes
  rw [A6]
  refine UE ?_
  rw [B5,pS h7.tail,AF,LI h7,LB h7,LV h7,LV h7]
  refine qQ (n:=an.evB bn) h7 (by omega) (fun τ ht=>LX.two (l:=l) τ ht.re) (jF han.1 hbn.1) (by omega) (by omega) hab (fun e=>hst (by rw [e]; rfl)) ?_ ?_
  ·intro e T2 τ2 he hsv2 h8
   rw [A6]
   refine SS he ?_
   rw [EE]
   have h9:H (A2 sb rb T2 (M+1+1)::l) τ2:=h8.re
   exact hno e T2 τ2 he (by rw [hsv2]; rfl) (CV (by omega) h9)
  intro T2 τ2 hsv2 h8
  rw [hsv2] at hst hno hyes
  simp only [R.bind_ok] at hst hno hyes
  obtain ⟨c0',hc0⟩:∃ c0,(an.evA bn).keys[0]?=some c0:=⟨_,List.getElem?_eq_getElem (by omega)⟩
  obtain ⟨d0,hd0⟩:∃ d0,(an.evB bn).keys[0]?=some d0:=⟨_,List.getElem?_eq_getElem (by omega)⟩
  rw [hc0,hd0] at hst hno hyes
  simp only at hst hno hyes
  have hc64:=(iZ han.1 hbn.1).1 c0' (List.mem_of_getElem? hc0)
  have hd64:=(jF han.1 hbn.1).1 d0 (List.mem_of_getElem? hd0)
  rw [A6]
  refine UE ?_
  rw [B5]
  refine GA ((k - 1:Nat):Int) (by omega) ?_
  rw [LB h8,LV h8,LV h8,LV h8]
  obtain ⟨p,ia,la⟩:=FY (DF (h8.fnd (AO k1 (an.evA bn).keys))) hc0
  obtain ⟨p2,ia2,la2⟩:=FY (DF (h8.fnd (AO k2 (an.evB bn).keys))) hd0
  rw [show (0:Int)=((0:Nat):Int) from rfl,ia,AF,la,AH,LI h8,LV h8,ia2,AF,la2,AH,LI h8]
  refine ABJ (lf:=up.n.leaf) (n:=up.n) h8 (fun τ ht=>LX.two (l:=l) τ ht.re) hue.symm (by omega) hlr.1 ?_
  intro k3 v3 τ3 h9
  have h9:H (AO k3 (up.n.setN left c0' aa).keys::AO v3 (up.n.setN left c0' aa).vals::A2 sb rb T2 (M+1+1)::DK wb sb L::AO k1 (an.evA bn).keys::AO v1 (an.evA bn).vals::AO k2 (an.evB bn).keys::AO v2 (an.evB bn).vals::pt bc (.cells [.bool an.leaf,k1,v1] AE false)::pt bd (.cells [.bool an.leaf,k2,v2] AE false)::pt ba (.cells [.int .u64 aa,.bool an.leaf,ka,va,.int .i64 z1] AA false)::pt bb (.cells [.int .u64 ab,.bool bn.leaf,kb,vb,.int .i64 z2] AA false)::pt bu (.cells [.int .u64 up.at',.bool up.n.leaf,up.kv,up.vv,.int .i64 up.nx] AA false)::AO up.kv up.n.keys::AO up.vv up.n.vals::l) τ3:=h9
  have hsl:(up.n.setN left c0' aa).keys.length=up.n.keys.length∧(up.n.setN left c0' aa).vals.length=up.n.keys.length:=by simp [Nd.setN,setF]; exact hue
  rw [B4,LV h9,S9 ⟨_,_,_,hk2⟩,jJ (DF (h9.fnd (AO k2 (an.evB bn).keys))) hd0 ia2,AH,CK,LI h9,CK]
  refine ABJ (lf:=up.n.leaf) (n:=up.n.setN left c0' aa) (i:=right) h9 LX.two (by omega) (by omega) (by omega) ?_
  intro k4 v4 τ4 h10
  rw [B4]
  have h10:H (AO k4 ((up.n.setN left c0' aa).setN right d0 ab).keys::AO v4 ((up.n.setN left c0' aa).setN right d0 ab).vals::AO k3 (up.n.setN left c0' aa).keys::AO v3 (up.n.setN left c0' aa).vals::A2 sb rb T2 (M+1+1)::DK wb sb L::AO k1 (an.evA bn).keys::AO v1 (an.evA bn).vals::AO k2 (an.evB bn).keys::AO v2 (an.evB bn).vals::pt bc (.cells [.bool an.leaf,k1,v1] AE false)::pt bd (.cells [.bool an.leaf,k2,v2] AE false)::pt ba (.cells [.int .u64 aa,.bool an.leaf,ka,va,.int .i64 z1] AA false)::pt bb (.cells [.int .u64 ab,.bool bn.leaf,kb,vb,.int .i64 z2] AA false)::pt bu (.cells [.int .u64 up.at',.bool up.n.leaf,up.kv,up.vv,.int .i64 up.nx] AA false)::AO up.kv up.n.keys::AO up.vv up.n.vals::l) τ4:=h10
  have h11:H (DK wb sb L::A2 sb rb T2 (M+1+1)::AO k4 ((up.n.setN left c0' aa).setN right d0 ab).keys::AO v4 ((up.n.setN left c0' aa).setN right d0 ab).vals::l) τ4:=h10.re
  have hrl:((up.n.setN left c0' aa).setN right d0 ab).keys.length=up.n.keys.length∧((up.n.setN left c0' aa).setN right d0 ab).vals.length=up.n.keys.length:=by simp [Nd.setN,setF]; exact hue
  refine aA (n:=(up.n.setN left c0' aa).setN right d0 ab) h11 (by omega) (VC (VC V0.sm hc64 (by omega)) hd64 (by omega)) (by omega) (by omega) hst ?_ ?_
  ·intro e T3 τ5 he hw h12
   rw [EE]
   exact hno e T3 τ5 he hw h12
  ·intro T3 L3 τ5 hl3 hw h12
   rw [B5]
   exact hyes T3 L3 τ5 hl3 hw h12
end Go.Ax.C
set_option maxRecDepth 100000
namespace Go.Ax.C
open Go.Proofs Go.RowKit
variable {l r r2 m:List AJ} {σ:AHeap} {Q:RK}
def VK (P:List Wp) (k:Nat) (x up:Wp) (T:TS):R (List Wp) :=
 if up.nx+1=up.n.keys.length then
  if up.nx=0 then .err 23 T else match up.n.vals[up.nx - 1]? with
   | none=>.stuck
   | some v=>(T.shadow v).bind fun q T=>IH P k up.n (up.nx - 1) up.nx q.1 q.2 x.at' x.n T
 else match up.n.vals[up.nx+1]? with
  | none=>.stuck
  | some v=>(T.shadow v).bind fun q T=>IH P k up.n up.nx (up.nx+1) x.at' x.n q.1 q.2 T
def fU (P:List Wp) (k:Nat) (x up:Wp) (T:TS):R (List Wp) :=
 if 0<x.n.keys.length then match up.n.keys[up.nx]?,x.n.keys[0]? with
  | some uk,some x0=>if uk=x0 then .ok P T else ND P (k - 1) up.nx x0 x.at' T
  | _,_=>.stuck
 else .ok P T
def Q9 (P:List Wp) (k:Nat) (T:TS):R (List Wp) :=
 if k=0 then .ok P T
 else match P[k]?,P[k - 1]? with
  | some x,some up=>(fU P k x up T).bind fun P T=>if 4≤x.n.keys.length then .ok P T else match P[k - 1]? with
    | none=>.stuck
    | some up=>VK P k x up T
  | _,_=>.stuck
theorem lW {a:Option Addr} {p:Prop}:(AQ (.pointer a) (.pointer a)=true∧p)=p:=by
 have:AQ (.pointer a) (.pointer a)=true:=by simp [AQ,t3,X5]
 simp [this]
theorem eQ {b:Bool} {x y:Value} {p:Prop} (hx:∃ a n c,x=.slice a n c) (hy:∃ a n c,y=.slice a n c):(AQ (.agg #[.bool b,x,y]) (.agg #[.bool b,x,y])=true∧p)=p:=by
 obtain ⟨a,n,c,rfl⟩:=hx
 obtain ⟨a2,n2,c2,rfl⟩:=hy
 have:AQ (.agg #[.bool b,.slice a n c,.slice a2 n2 c2]) (.agg #[.bool b,.slice a n c,.slice a2 n2 c2])=true:=by simp [AQ,t3,X5,nI]
 simp [this]
theorem xN {i j:Int} {b:Bool} {x y:Value} {p:Prop} (hx:∃ a n c,x=.slice a n c) (hy:∃ a n c,y=.slice a n c):(AQ (.agg #[.int .u64 i,.bool b,x,y,.int .i64 j]) (.agg #[.int .u64 i,.bool b,x,y,.int .i64 j])=true∧p)=p:=by
 obtain ⟨a,n,c,rfl⟩:=hx
 obtain ⟨a2,n2,c2,rfl⟩:=hy
 have:AQ (.agg #[.int .u64 i,.bool b,.slice a n c,.slice a2 n2 c2,.int .i64 j]) (.agg #[.int .u64 i,.bool b,.slice a n c,.slice a2 n2 c2,.int .i64 j])=true:=by simp [AQ,t3,X5,nI]
 simp [this]
theorem rdS {wb sb k b:Nat} {L:List Sp} {s:Sp} {wv:Value} (h:H (dG wb sb wv L l) σ) (hk:L[k]?=some s) (hi:AG 5 wv (.int .i64 (k:Nat))=some (.pointer (some ⟨b,k*5,none⟩))) (K:Prop) :
 (om (Ax.L wb 1 σ) fun v35=>AQ v35 wv=true∧om (some (.pointer (some ⟨b,k*5,none⟩))) fun v36=>A3 .u64 (AD false 1 v36 σ) fun n37=>om (some (.pointer (some ⟨b,k*5+1,none⟩))) fun v38=>DJ (AD false 1 v38 σ) fun c39 =>
  om (some (.pointer (some ⟨b,k*5+2,none⟩))) fun v40=>om (AD false 1 v40 σ) fun v41=>om (some (.pointer (some ⟨b,k*5+3,none⟩))) fun v42=>om (AD false 1 v42 σ) fun v43=>om (some (.pointer (some ⟨b,k*5+4,none⟩))) fun v44=>A3 .i64 (AD false 1 v44 σ) fun n45 =>
  AQ (.agg #[(.int .u64 n37),(.bool c39),v41,v43,(.int .i64 n45)]) (.agg #[(.int .u64 s.at'),(.bool s.n.leaf),s.kv,s.vv,(.int .i64 s.nx)])=true∧K)=K:=by
 obtain ⟨b',c,hwv,e1,e2,e3,e4,e5,e6⟩:=MI h hk
 have hbb:b'=b:=by
  have:=e1 .i64
  rw [hi] at this
  simp at this; exact this.symm
 subst hbb
 have h3:H (BU L::l) σ:=h.re
 have h4:=HL h3 (List.mem_of_getElem? hk)
 obtain ⟨a1,c1,hkv⟩:=AS h4
 obtain ⟨a2,c2,hvv⟩:=AS h4.tail
 rw [LV h,S9 ⟨_,_,_,hwv⟩]
 simp only [AF]
 rw [e2,AH,e3,BY,e4,AF,e5,AF,e6,AH]
 exact xN ⟨_,_,_,hkv⟩ ⟨_,_,_,hvv⟩
abbrev HT (a:Nat) (n:Nd) (kv vv:Value) (nx:Nat):List Value:=[.int .u64 a,.bool n.leaf,kv,vv,.int .i64 nx]
set_option maxHeartbeats 2000000 in
theorem wQ {wb sb rb k left right bes av bx bn bu:Nat} {x up:Sp} {nn:Nd} {kn vn:Value} {T:TS} {M:Nat} {L:List Sp}
 (h:H (pt bx (.cells (HT x.at' x.n x.kv x.vv x.nx) AA false)::pt bn (.cells [.bool nn.leaf,kn,vn] AE false)::pt bu (.cells (HT up.at' up.n up.kv up.vv up.nx) AA false) ::
  AO x.kv x.n.keys::AO x.vv x.n.vals::AO kn nn.keys::AO vn nn.vals::AO up.kv up.n.keys::AO up.vv up.n.vals::DK wb sb L::A2 sb rb T M::l) σ)
 (hM:M≤98000000000) (hk:0<k∧k≤100) (hx:SQ x) (hnn:nn.small∧nn.vals.length=nn.keys.length∧nn.keys.length≤400) (V0:SQ up) (hav:av<2147483648)
 (R0:R (List Wp)) (hR:R0=if bes=left then IH (L.map Sp.w) k up.n left right av nn x.at' x.n T else IH (L.map Sp.w) k up.n left right x.at' x.n av nn T)
 (hst:R0≠.stuck)
 (hno:∀ e T' σ',e≠0→R0=.err e T'→H (A2 sb rb T' (M+3)::l) σ'→Q (.pan (flt e)) σ')
 (hyes:∀ T' L' σ',L'.length=L.length→R0=.ok (L'.map Sp.w) T'→H (DK wb sb L'::A2 sb rb T' (M+3)::l) σ'→Q (.ret (.tuple #[])) σ') :
 CQ E Q 0 bx av bn bes left wb k bu right σ:=by
 unfold CQ
 refine UE ?_
 rw [B5]
 obtain ⟨SF,hSF⟩:∃ SF,SF=AW [pt bx (.cells (HT x.at' x.n x.kv x.vv x.nx) AA false),pt bn (.cells [.bool nn.leaf,kn,vn] AE false)]:=⟨_,rfl⟩
 have hfr:∀ {τ:AHeap} {A:List AJ},H (SF::A) τ→H (pt bx (.cells (HT x.at' x.n x.kv x.vv x.nx) AA false)::pt bn (.cells [.bool nn.leaf,kn,vn] AE false)::[]) τ:=fun {τ A} ht=>by
  rw [hSF,BC] at ht
  exact ht.left
 have h1:H (SF::pt bu (.cells (HT up.at' up.n up.kv up.vv up.nx) AA false)::AO x.kv x.n.keys::AO x.vv x.n.vals::AO kn nn.keys::AO vn nn.vals::AO up.kv up.n.keys::AO up.vv up.n.vals::DK wb sb L::A2 sb rb T M::l) σ:=by
  rw [hSF,BC]; exact h
 obtain ⟨a1,c1,hkx⟩:=AS (h1.fnd (AO x.kv x.n.keys))
 obtain ⟨a2,c2,hvx⟩:=AS (h1.fnd (AO x.vv x.n.vals))
 obtain ⟨a3,c3,hkn⟩:=AS (h1.fnd (AO kn nn.keys))
 obtain ⟨a4,c4,hvn⟩:=AS (h1.fnd (AO vn nn.vals))
 have rd:∀ {τ:AHeap} {A:List AJ} (K:Prop),H (SF::A) τ→((A3 .u64 (Ax.L bx 0 τ) fun n233=>AQ (.int .u64 n233) (.int .u64 x.at')=true∧DJ (Ax.L bx 1 τ) fun c234=>om (Ax.L bx 2 τ) fun v235=>om (Ax.L bx 3 τ) fun v236=>AQ (.agg #[(.bool c234),v235,v236]) (.agg #[(.bool x.n.leaf),x.kv,x.vv])=true ∧
  DJ (Ax.L bn 0 τ) fun c237=>om (Ax.L bn 1 τ) fun v238=>om (Ax.L bn 2 τ) fun v239=>AQ (.agg #[(.bool c237),v238,v239]) (.agg #[(.bool nn.leaf),kn,vn])=true∧K)=K):=by
  intro τ A K ht
  have f:=hfr ht
  rw [LI f,CK,LB f,LV f,LV f,eQ ⟨_,_,_,hkx⟩ ⟨_,_,_,hvx⟩,LB f,LV f,LV f,eQ ⟨_,_,_,hkn⟩ ⟨_,_,_,hvn⟩]
 have rd2:∀ {τ:AHeap} {A:List AJ} (K:Prop),H (SF::A) τ→((DJ (Ax.L bn 0 τ) fun c237=>om (Ax.L bn 1 τ) fun v238=>om (Ax.L bn 2 τ) fun v239=>AQ (.agg #[(.bool c237),v238,v239]) (.agg #[(.bool nn.leaf),kn,vn])=true∧K)=K):=by
  intro τ A K ht
  have f:=hfr ht
  rw [LB f,LV f,LV f,eQ ⟨_,_,_,hkn⟩ ⟨_,_,_,hvn⟩]
 -- with both copies
 have k16:∀ {τ:AHeap} {ba bb:Nat},H (pt ba (.cells (HT x.at' x.n x.kv x.vv 0) AA false)::pt bb (.cells (HT av nn kn vn 0) AA false)::SF::pt bu (.cells (HT up.at' up.n up.kv up.vv up.nx) AA false)::AO x.kv x.n.keys::AO x.vv x.n.vals::AO kn nn.keys::AO vn nn.vals::AO up.kv up.n.keys::AO up.vv up.n.vals::DK wb sb L::A2 sb rb T M::l) τ →
  F5 E Q bes left bb ba wb k bu right τ:=by
  intro τ ba bb ht
  unfold F5
  refine AT (fun g=>?_) fun g=>?_
  ·rw [if_pos (by omega)] at hR
   subst hR
   rw [LI ht,LB ht,LV ht,LV ht,LI ht,LI ht,LB ht,LV ht,LV ht,LI ht]
   refine J5 (vs:=[.int .u64 (av:Nat),.bool nn.leaf,kn,vn,.int .i64 0]) ht rfl rfl (by rw [hkn,hvn]; rfl) ?_
   intro τ1 h2
   refine J5 (vs:=[.int .u64 (x.at':Nat),.bool x.n.leaf,x.kv,x.vv,.int .i64 0]) (h2.perm (.swap _ _ _)) rfl rfl (by rw [hkx,hvx]; rfl) ?_
   intro τ2 h3
   have h4:H (pt ba (.cells [.int .u64 av,.bool nn.leaf,kn,vn,.int .i64 (0:Nat)] AA false)::pt bb (.cells [.int .u64 x.at',.bool x.n.leaf,x.kv,x.vv,.int .i64 (0:Nat)] AA false)::pt bu (.cells (IF up) AA false)::AO kn nn.keys::AO vn nn.vals::AO x.kv x.n.keys::AO x.vv x.n.vals::AO up.kv up.n.keys::AO up.vv up.n.vals::DK wb sb L::A2 sb rb T M::l) τ2:=by
    have q:H (pt ba (.cells (HT av nn kn vn 0) AA false)::pt bb (.cells (HT x.at' x.n x.kv x.vv 0) AA false)::pt bu (.cells (HT up.at' up.n up.kv up.vv up.nx) AA false)::AO kn nn.keys::AO vn nn.vals::AO x.kv x.n.keys::AO x.vv x.n.vals::AO up.kv up.n.keys::AO up.vv up.n.vals::DK wb sb L::A2 sb rb T M::l) τ2:=h3.re
    exact q
   exact oR h4 (by omega) hk hnn ⟨hx.sm,hx.eq,hx.le⟩ V0 hav hx.at8 hst hno hyes
  ·rw [if_neg (by omega)] at hR
   subst hR
   have h4:H (pt ba (.cells [.int .u64 x.at',.bool x.n.leaf,x.kv,x.vv,.int .i64 (0:Nat)] AA false)::pt bb (.cells [.int .u64 av,.bool nn.leaf,kn,vn,.int .i64 (0:Nat)] AA false)::pt bu (.cells (IF up) AA false)::AO x.kv x.n.keys::AO x.vv x.n.vals::AO kn nn.keys::AO vn nn.vals::AO up.kv up.n.keys::AO up.vv up.n.vals::DK wb sb L::A2 sb rb T M::l) τ:=by
    have q:H (pt ba (.cells (HT x.at' x.n x.kv x.vv 0) AA false)::pt bb (.cells (HT av nn kn vn 0) AA false)::pt bu (.cells (HT up.at' up.n up.kv up.vv up.nx) AA false)::AO x.kv x.n.keys::AO x.vv x.n.vals::AO kn nn.keys::AO vn nn.vals::AO up.kv up.n.keys::AO up.vv up.n.vals::DK wb sb L::A2 sb rb T M::l) τ:=ht.re
    exact q
   exact oR h4 (by omega) hk ⟨hx.sm,hx.eq,hx.le⟩ hnn V0 hx.at8 hav hst hno hyes
 have f1:=hfr h1
 rw [LI f1,LB f1,LV f1,LV f1,LB f1,LV f1,LV f1]
 constructor
 ·refine nw h1 ?_
  intro ba τ1 h2
  rw [rd _ (h2.fnd SF)]
  refine nw h2 ?_
  intro bb τ2 h3
  rw [rd _ (h3.fnd SF)]
  refine J5 (vs:=[.int .u64 (x.at':Nat),.bool x.n.leaf,x.kv,x.vv,.int .i64 0]) (h3.perm (.swap _ _ _)) rfl rfl (by rw [hkx,hvx]; rfl) ?_
  intro τ3 h4
  rw [rd2 _ (h4.fnd SF)]
  refine J5 (vs:=[.int .u64 (av:Nat),.bool nn.leaf,kn,vn,.int .i64 0]) (h4.perm (.swap _ _ _)) rfl rfl (by rw [hkn,hvn]; rfl) ?_
  intro τ4 h5
  exact k16 (h5.perm (.swap _ _ _))
 ·refine nw h1 ?_
  intro bb τ1 h2
  rw [rd _ (h2.fnd SF)]
  refine nw h2 ?_
  intro ba τ2 h3
  rw [rd _ (h3.fnd SF)]
  refine J5 (vs:=[.int .u64 (x.at':Nat),.bool x.n.leaf,x.kv,x.vv,.int .i64 0]) h3 rfl rfl (by rw [hkx,hvx]; rfl) ?_
  intro τ3 h4
  rw [rd2 _ (h4.fnd SF)]
  refine J5 (vs:=[.int .u64 (av:Nat),.bool nn.leaf,kn,vn,.int .i64 0]) (h4.perm (.swap _ _ _)) rfl rfl (by rw [hkn,hvn]; rfl) ?_
  intro τ4 h5
  exact k16 (h5.perm (.swap _ _ _))
end Go.Ax.C
set_option maxRecDepth 100000
namespace Go.Ax.C
open Go.Proofs Go.RowKit
variable {l r r2 m:List AJ} {σ:AHeap} {Q:RK}
theorem j4 {wb sb:Nat} {L:List Sp} (h:H (DK wb sb L::l) σ):Ax.L wb 0 σ=some (.pointer (some ⟨sb,0,none⟩)):=by
 obtain ⟨wv,_,h2⟩:=HS.1 h
 exact qO h2
set_option maxHeartbeats 2000000 in
theorem oL {wb sb rb k left right bes v bx bu:Nat} {x up:Sp} {T:TS} {M:Nat} {L:List Sp} {F:Nat×Nd→TS→R (List Wp)}
 (h:H (pt bx (.cells (HT x.at' x.n x.kv x.vv x.nx) AA false)::pt bu (.cells (HT up.at' up.n up.kv up.vv up.nx) AA false) ::
  AO x.kv x.n.keys::AO x.vv x.n.vals::AO up.kv up.n.keys::AO up.vv up.n.vals::DK wb sb L::A2 sb rb T M::l) σ)
 (hM:M≤97000000000) (hk:0<k∧k≤100) (hx:SQ x) (V0:SQ up) (hlr:left+right=bes+up.nx∧right≤2000) (hv:up.n.vals[bes]?=some v)
 (hF:∀ q T,F q T=if bes=left then IH (L.map Sp.w) k up.n left right q.1 q.2 x.at' x.n T else IH (L.map Sp.w) k up.n left right x.at' x.n q.1 q.2 T)
 (hst:(T.shadow v).bind F≠.stuck)
 (hno:∀ e T' σ',e≠0→(T.shadow v).bind F=.err e T'→H (A2 sb rb T' (M+5)::l) σ'→Q (.pan (flt e)) σ')
 (hyes:∀ T' L' σ',L'.length=L.length→(T.shadow v).bind F=.ok (L'.map Sp.w) T'→H (DK wb sb L'::A2 sb rb T' (M+5)::l) σ'→Q (.ret (.tuple #[])) σ') :
 EJ E Q wb left right bu bx k σ:=by
 unfold EJ
 apply SR
 unfold M4
 refine AT (fun g=>absurd g (by omega)) fun _=>?_
 rw [A6]
 refine UE ?_
 rw [B5]
 have hnx:=V0.nx
 have hbl:=(List.getElem?_eq_some_iff.1 hv).1
 have hul:=V0.le
 have hue:=V0.eq
 refine GA ((left+right:Nat):Int) (by omega) ?_
 rw [LI h]
 refine GA (bes:Int) (by omega) ?_
 have h1:H (DK wb sb L::A2 sb rb T M::pt bx (.cells (HT x.at' x.n x.kv x.vv x.nx) AA false)::pt bu (.cells (HT up.at' up.n up.kv up.vv up.nx) AA false) ::
  AO x.kv x.n.keys::AO x.vv x.n.vals::AO up.kv up.n.keys::AO up.vv up.n.vals::l) σ:=h.re
 obtain ⟨a4,c4,hvu⟩:=AS (h1.fnd (AO up.vv up.n.vals))
 obtain ⟨p,ia,la⟩:=FY (DF (h1.fnd (AO up.vv up.n.vals))) hv
 rw [j4 h1,AF,LV h,ia,AF,la,AH]
 have h2:H (A2 sb rb T M::DK wb sb L::pt bx (.cells (HT x.at' x.n x.kv x.vv x.nx) AA false)::pt bu (.cells (HT up.at' up.n up.kv up.vv up.nx) AA false) ::
  AO x.kv x.n.keys::AO x.vv x.n.vals::AO up.kv up.n.keys::AO up.vv up.n.vals::l) σ:=h1.perm (.swap _ _ _)
 have hN:=(jR h2).hi
 -- behind it
 have bad:∀ {τ:AHeap} {e:Nat} {T1:TS} {bn a:Nat} {A:List AJ},e≠0→T.shadow v=.err e T1→H (A2 sb rb T1 (M+2)::l) τ→CQ E Q e bx a bn bes left wb k bu right τ:=by
  intro τ e T1 bn a A he hsh ht
  unfold CQ
  refine SS he ?_
  rw [EE]
  exact hno e T1 τ he (by rw [hsh]; rfl) (CV (by omega) ht)
 have good:∀ {τ:AHeap} {B0:Nat} {n:Nd} {T1:TS} {bn:Nat} {kn vn:Value},T.shadow v=.ok (B0,n) T1→n.May→n.small→B0<T.now.length→H (pt bn (.cells [.bool n.leaf,kn,vn] AE false)::AO kn n.keys::AO vn n.vals::A2 sb rb T1 (M+2)::DK wb sb L::pt bx (.cells (HT x.at' x.n x.kv x.vv x.nx) AA false)::pt bu (.cells (HT up.at' up.n up.kv up.vv up.nx) AA false) ::
  AO x.kv x.n.keys::AO x.vv x.n.vals::AO up.kv up.n.keys::AO up.vv up.n.vals::l) τ→CQ E Q 0 bx B0 bn bes left wb k bu right τ:=by
  intro τ B0 n T1 bn kn vn hsh hm hs ho ht
  have h3:H (pt bx (.cells (HT x.at' x.n x.kv x.vv x.nx) AA false)::pt bn (.cells [.bool n.leaf,kn,vn] AE false)::pt bu (.cells (HT up.at' up.n up.kv up.vv up.nx) AA false) ::
   AO x.kv x.n.keys::AO x.vv x.n.vals::AO kn n.keys::AO vn n.vals::AO up.kv up.n.keys::AO up.vv up.n.vals::DK wb sb L::A2 sb rb T1 (M+2)::l) τ:=ht.re
  have hmm:=hm.1
  rw [hsh] at hst hno hyes
  simp only [R.bind_ok] at hst hno hyes
  refine wQ h3 (by omega) hk hx ⟨hs,hmm.2.2,by omega⟩ V0 (by omega) (F (B0,n) T1) (hF (B0,n) T1) hst ?_ ?_
  ·intro e T' σ' he he2 h4
   exact hno e T' σ' he he2 h4
  ·intro T' L' σ' hl he2 h4
   exact hyes T' L' σ' hl he2 h4
 constructor
 ·refine lK h2 (by omega) (fun e=>hst (by rw [e]; rfl)) ?_ ?_
  ·intro e T1 τ1 he hsh h3
   rw [PW,AP,AP]
   refine nw h3 ?_
   intro bn τ2 h4
   have h5:H (DK wb sb L::pt bu (.cells (HT up.at' up.n up.kv up.vv up.nx) AA false)::AO up.vv up.n.vals::[]) τ2:=h4.re
   have h6:H (pt bu (.cells (HT up.at' up.n up.kv up.vv up.nx) AA false)::[]) τ2:=h4.re
   rw [j4 h5,AF,lW,LV h6,S9 ⟨_,_,_,hvu⟩,jJ (DF (h5.fnd (AO up.vv up.n.vals))) hv ia,AH,CK]
   refine bJ h4 rfl rfl rfl ?_
   intro τ3 h7
   exact bad (A:=[]) he hsh h7.re
  ·intro B0 n T1 kn vn τ1 hsh hm hs ho h3
   obtain ⟨a5,c5,hk5⟩:=AS h3
   obtain ⟨a6,c6,hv6⟩:=AS h3.tail
   rw [PW,AP,AP]
   refine nw h3 ?_
   intro bn τ2 h4
   have h5:H (DK wb sb L::pt bu (.cells (HT up.at' up.n up.kv up.vv up.nx) AA false)::AO up.vv up.n.vals::[]) τ2:=h4.re
   have h6:H (pt bu (.cells (HT up.at' up.n up.kv up.vv up.nx) AA false)::[]) τ2:=h4.re
   rw [j4 h5,AF,lW,LV h6,S9 ⟨_,_,_,hvu⟩,jJ (DF (h5.fnd (AO up.vv up.n.vals))) hv ia,AH,CK]
   refine bJ h4 rfl (by rw [hk5]; rfl) (by rw [hv6]; rfl) ?_
   intro τ3 h7
   exact good hsh hm hs ho h7
 ·refine nw h2 ?_
  intro bn τ1 h3
  have h5:H (DK wb sb L::pt bu (.cells (HT up.at' up.n up.kv up.vv up.nx) AA false)::AO up.vv up.n.vals::[]) τ1:=h3.re
  have h6:H (pt bu (.cells (HT up.at' up.n up.kv up.vv up.nx) AA false)::[]) τ1:=h3.re
  rw [j4 h5,AF,lW,LV h6,S9 ⟨_,_,_,hvu⟩,jJ (DF (h5.fnd (AO up.vv up.n.vals))) hv ia,AH,CK]
  refine lK (h3.perm (.swap _ _ _)) (by omega) (fun e=>hst (by rw [e]; rfl)) ?_ ?_
  ·intro e T1 τ2 he hsh h4
   rw [PW,AP,AP]
   refine bJ h4 rfl rfl rfl ?_
   intro τ3 h7
   exact bad (A:=[]) he hsh h7.re
  ·intro B0 n T1 kn vn τ2 hsh hm hs ho h4
   obtain ⟨a5,c5,hk5⟩:=AS h4
   obtain ⟨a6,c6,hv6⟩:=AS h4.tail
   rw [PW,AP,AP]
   refine bJ h4 rfl (by rw [hk5]; rfl) (by rw [hv6]; rfl) ?_
   intro τ3 h7
   exact good (kn:=kn) (vn:=vn) hsh hm hs ho h7.re
set_option maxHeartbeats 2000000 in
theorem ABV {wb sb rb k bx bu:Nat} {x up0 up:Sp} {T:TS} {M:Nat} {L:List Sp}
 (h:H (pt bx (.cells (HT x.at' x.n x.kv x.vv x.nx) AA false)::pt bu (.cells (HT up0.at' up0.n up0.kv up0.vv up0.nx) AA false) ::
  AO x.kv x.n.keys::AO x.vv x.n.vals::DK wb sb L::A2 sb rb T M::l) σ)
 (hM:M≤96000000000) (hk:0<k∧k≤100) (hx:SQ x) (hu:L[k - 1]?=some up)
 (R0:R (List Wp)) (hR:R0=if 4≤x.n.keys.length then .ok (L.map Sp.w) T else VK (L.map Sp.w) k x.w up.w T) (hst:R0≠.stuck)
 (hno:∀ e T' σ',e≠0→R0=.err e T'→H (A2 sb rb T' (M+5)::l) σ'→Q (.pan (flt e)) σ')
 (hyes:∀ T' L' σ',L'.length=L.length→R0=.ok (L'.map Sp.w) T'→H (DK wb sb L'::A2 sb rb T' (M+5)::l) σ'→Q (.ret (.tuple #[])) σ') :
 EY E Q bx wb k bu σ:=by
 unfold EY
 have hlx:BJ x.kv=some (.int .i64 x.n.keys.length):=by obtain ⟨a,c,hv⟩:=AS (h.fnd (AO x.kv x.n.keys)); rw [hv]; rfl
 rw [LV h,hlx,AH]
 refine AT (fun g=>?_) fun g=>?_
 ·rw [if_pos (by omega)] at hR
  have h1:H (A2 sb rb T M::DK wb sb L::l) σ:=h.re
  exact hyes T L σ rfl hR ((CV (N:=M+5) (by omega) h1).perm (.swap _ _ _))
 rw [if_neg (by omega)] at hR
 have h1:H (DK wb sb L::pt bx (.cells (HT x.at' x.n x.kv x.vv x.nx) AA false)::pt bu (.cells (HT up0.at' up0.n up0.kv up0.vv up0.nx) AA false) ::
  AO x.kv x.n.keys::AO x.vv x.n.vals::A2 sb rb T M::l) σ:=h.re
 obtain ⟨wv,hok,h2⟩:=HS.1 h1
 have huo:=hok up (List.mem_of_getElem? hu)
 obtain ⟨b,c,hwv,e1,e2,e3,e4,e5,e6⟩:=MI h2 hu
 rw [LV h2]
 refine GA ((k - 1:Nat):Int) (by omega) ?_
 rw [e1,AF]
 simp only [AM,AF,Nat.add_zero]
 rw [e2,AH,e3,BY,e4,AF,e5,AF,e6,AH]
 have h3:H (pt bu (.cells (HT up0.at' up0.n up0.kv up0.vv up0.nx) AA false)::AO up.kv up.n.keys::AO up.vv up.n.vals::DK wb sb L::pt bx (.cells (HT x.at' x.n x.kv x.vv x.nx) AA false)::AO x.kv x.n.keys::AO x.vv x.n.vals::A2 sb rb T M::l) σ:=by
  have q:H (BU L::pt wb (.cells [.pointer (some ⟨sb,0,none⟩),wv] AZ false)::A5 AA 5 wv L.length (L.map IF).flatten::pt bx (.cells (HT x.at' x.n x.kv x.vv x.nx) AA false)::pt bu (.cells (HT up0.at' up0.n up0.kv up0.vv up0.nx) AA false) ::
   AO x.kv x.n.keys::AO x.vv x.n.vals::A2 sb rb T M::l) σ:=h2.re
  have q2:=HL q (List.mem_of_getElem? hu)
  have q3:H (dG wb sb wv L (AO up.kv up.n.keys::AO up.vv up.n.vals::pt bx (.cells (HT x.at' x.n x.kv x.vv x.nx) AA false)::pt bu (.cells (HT up0.at' up0.n up0.kv up0.vv up0.nx) AA false) ::
   AO x.kv x.n.keys::AO x.vv x.n.vals::A2 sb rb T M::l)) σ:=q2.re
  have q4:H (DK wb sb L::AO up.kv up.n.keys::AO up.vv up.n.vals::pt bx (.cells (HT x.at' x.n x.kv x.vv x.nx) AA false)::pt bu (.cells (HT up0.at' up0.n up0.kv up0.vv up0.nx) AA false) ::
   AO x.kv x.n.keys::AO x.vv x.n.vals::A2 sb rb T M::l) σ:=HS.2 ⟨wv,hok,q3⟩
  exact q4.re
 refine J5 (vs:=[.int .u64 (up.at':Nat),.bool up.n.leaf,up.kv,up.vv,.int .i64 (up.nx:Nat)]) h3 rfl rfl (by simp only [List.all_cons,huo.o1,huo.o2,List.all_nil]; rfl) ?_
 intro σ1 h4
 have h5:H (pt bx (.cells (HT x.at' x.n x.kv x.vv x.nx) AA false)::pt bu (.cells (HT up.at' up.n up.kv up.vv up.nx) AA false) ::
  AO x.kv x.n.keys::AO x.vv x.n.vals::AO up.kv up.n.keys::AO up.vv up.n.vals::DK wb sb L::A2 sb rb T M::l) σ1:=by
  have q:H (pt bu (.cells (HT up.at' up.n up.kv up.vv up.nx) AA false)::AO up.kv up.n.keys::AO up.vv up.n.vals::DK wb sb L::pt bx (.cells (HT x.at' x.n x.kv x.vv x.nx) AA false)::AO x.kv x.n.keys::AO x.vv x.n.vals::A2 sb rb T M::l) σ1:=h4
  exact q.re
 have hlu:BJ up.kv=some (.int .i64 up.n.keys.length):=by obtain ⟨a,c,hv⟩:=AS (h5.fnd (AO up.kv up.n.keys)); rw [hv]; rfl
 have hnx:=huo.nx
 have hul:=huo.le
 have hue:=huo.eq
 rw [LI h5,LI h5]
 refine GA ((up.nx+1:Nat):Int) (by omega) ?_
 rw [LV h5,hlu,AH]
 have hw:up.w=⟨up.at',up.n,up.nx⟩:=rfl
 have hwx:x.w=⟨x.at',x.n,x.nx⟩:=rfl
 rw [hw,hwx] at hR
 unfold VK at hR
 simp only at hR
 refine AT (fun g=>?_) fun g=>?_
 ·rw [if_pos (by omega)] at hR
  by_cases h0:up.nx=0
  ·rw [if_pos h0] at hR
   subst hR
   refine GA (-1) (by omega) ?_
   unfold EJ
   apply SR
   unfold M4
   refine AT (fun _=>?_) fun g=>absurd (by decide) g
   rw [A6]
   refine SS (e:=23) (by decide) ?_
   rw [EE]
   have h6:H (A2 sb rb T M::l) σ1:=h5.re
   exact hno 23 T σ1 (by decide) rfl (CV (by omega) h6)
  ·rw [if_neg h0] at hR
   cases hv:up.n.vals[up.nx - 1]? with
   | none=>rw [hv] at hR; exact absurd hR hst
   | some v =>
   rw [hv] at hR
   simp only at hR
   subst hR
   refine GA ((up.nx - 1:Nat):Int) (by omega) ?_
   exact oL (bes:=up.nx - 1) (F:=fun q T=>IH (L.map Sp.w) k up.n (up.nx - 1) up.nx q.1 q.2 x.at' x.n T) h5 (by omega) hk hx huo (by omega) hv (fun q T=>by rw [if_pos rfl]) hst hno hyes
 ·rw [if_neg (by omega)] at hR
  cases hv:up.n.vals[up.nx+1]? with
  | none=>rw [hv] at hR; exact absurd hR hst
  | some v =>
  rw [hv] at hR
  simp only at hR
  subst hR
  exact oL (left:=up.nx) (right:=up.nx+1) (bes:=up.nx+1) (F:=fun q T=>IH (L.map Sp.w) k up.n up.nx (up.nx+1) x.at' x.n q.1 q.2 T) h5 (by omega) hk hx huo (by omega) hv (fun q T=>by rw [if_neg (by omega)]) hst hno hyes
set_option maxHeartbeats 4000000 in
theorem ADe {wb sb rb:Nat} (L:List Sp) (k:Nat) (T:TS) (M:Nat) (τ:AHeap) (Q':RK) (h:H (DK wb sb L::A2 sb rb T M::l) τ) (hM:M≤90000000000) (hL:L.length≤50) (hst:Q9 (L.map Sp.w) k T≠.stuck)
 (hno:∀ e T' σ',e≠0→Q9 (L.map Sp.w) k T=.err e T'→H (A2 sb rb T' (M+6)::l) σ'→Q' (.pan (flt e)) σ')
 (hyes:∀ T' L' σ',L'.length≤L.length+1→Q9 (L.map Sp.w) k T=.ok (L'.map Sp.w) T'→H (DK wb sb L'::A2 sb rb T' (M+6)::l) σ'→Q' (.ret (.tuple #[])) σ'):E MU [.pointer (some ⟨wb,0,none⟩),.int .i64 k] τ Q':=by
 apply cX; unfold SN
 unfold Q9 at hst hno hyes
 refine AT (fun g=>?_) fun g=>?_
 ·rw [if_pos (by omega)] at hyes
  have h1:H (A2 sb rb T M::DK wb sb L::l) τ:=h.perm (.swap _ _ _)
  exact hyes T L τ (by omega) rfl ((CV (N:=M+6) (by omega) h1).perm (.swap _ _ _))
 rw [if_neg (by omega)] at hst hno hyes
 rw [List.getElem?_map,List.getElem?_map] at hst hno hyes
 cases hx:L[k]? with
 | none=>rw [hx] at hst; exact absurd rfl hst
 | some x =>
 cases hu:L[k - 1]? with
 | none=>rw [hx,hu] at hst; exact absurd rfl hst
 | some up =>
 rw [hx,hu] at hst hno hyes
 simp only [Option.map_some] at hst hno hyes
 have hw:up.w=⟨up.at',up.n,up.nx⟩:=rfl
 have hwx:x.w=⟨x.at',x.n,x.nx⟩:=rfl
 have hkl:=(List.getElem?_eq_some_iff.1 hx).1
 obtain ⟨wv,hok,h2⟩:=HS.1 h
 have hxo:=hok x (List.mem_of_getElem? hx)
 have huo:=hok up (List.mem_of_getElem? hu)
 obtain ⟨b,c,hwv,e1,e2,e3,e4,e5,e6⟩:=MI h2 hx
 obtain ⟨b',c',hwv',u1,u2,u3,u4,u5,u6⟩:=MI h2 hu
 have hbb:b'=b:=by rw [hwv] at hwv'; simp at hwv'; exact hwv'.1.symm
 subst hbb
 rw [LV h2,e1,AF]
 rw [AM,AF,Nat.add_zero,e2,AH,AM,AF,e3,BY,AM,AF,e4,AF,AM,AF,e5,AF,AM,AF,e6,AH,LV h2]
 refine GA ((k - 1:Nat):Int) (by omega) ?_
 rw [u1,AF]
 rw [AM,AF,Nat.add_zero,u2,AH,AM,AF,u3,BY,AM,AF,u4,AF,AM,AF,u5,AF,AM,AF,u6,AH]
 -- with both copies
 have k3:∀ {τ:AHeap} {bx bu:Nat},H (pt bx (.cells (HT x.at' x.n x.kv x.vv x.nx) AA false)::pt bu (.cells (HT up.at' up.n up.kv up.vv up.nx) AA false)::dG wb sb wv L (A2 sb rb T M::l)) τ→GS E Q' bx bu wb k τ:=by
  intro τ bx bu ht
  have h3:H (pt bx (.cells (HT x.at' x.n x.kv x.vv x.nx) AA false)::pt bu (.cells (HT up.at' up.n up.kv up.vv up.nx) AA false)::AO x.kv x.n.keys::AO x.vv x.n.vals::AO up.kv up.n.keys::DK wb sb L::A2 sb rb T M::l) τ:=by
   have q:H (BU L::pt wb (.cells [.pointer (some ⟨sb,0,none⟩),wv] AZ false)::A5 AA 5 wv L.length (L.map IF).flatten::pt bx (.cells (HT x.at' x.n x.kv x.vv x.nx) AA false)::pt bu (.cells (HT up.at' up.n up.kv up.vv up.nx) AA false)::A2 sb rb T M::l) τ:=ht.re
   have q2:=HL q (List.mem_of_getElem? hx)
   have q3:H (BU L::AO x.kv x.n.keys::AO x.vv x.n.vals::pt wb (.cells [.pointer (some ⟨sb,0,none⟩),wv] AZ false)::A5 AA 5 wv L.length (L.map IF).flatten::pt bx (.cells (HT x.at' x.n x.kv x.vv x.nx) AA false)::pt bu (.cells (HT up.at' up.n up.kv up.vv up.nx) AA false)::A2 sb rb T M::l) τ:=q2.re
   have q4:=HL q3 (List.mem_of_getElem? hu)
   have q5:H (dG wb sb wv L (pt bx (.cells (HT x.at' x.n x.kv x.vv x.nx) AA false)::pt bu (.cells (HT up.at' up.n up.kv up.vv up.nx) AA false)::AO up.kv up.n.keys::AO x.kv x.n.keys::AO x.vv x.n.vals::A2 sb rb T M::l)) τ:=q4.re
   have q6:H (DK wb sb L::pt bx (.cells (HT x.at' x.n x.kv x.vv x.nx) AA false)::pt bu (.cells (HT up.at' up.n up.kv up.vv up.nx) AA false)::AO up.kv up.n.keys::AO x.kv x.n.keys::AO x.vv x.n.vals::A2 sb rb T M::l) τ:=HS.2 ⟨wv,hok,q5⟩
   exact q6.re
  unfold GS
  have hlx:BJ x.kv=some (.int .i64 x.n.keys.length):=by obtain ⟨a,c,hv⟩:=AS (h3.fnd (AO x.kv x.n.keys)); rw [hv]; rfl
  rw [LV h3,hlx,AH]
  -- on from there
  have on:∀ {τ:AHeap} (T1:TS) (L1:List Sp),L1.length=L.length→fU (L.map Sp.w) k x.w up.w T=.ok (L1.map Sp.w) T1→H (pt bx (.cells (HT x.at' x.n x.kv x.vv x.nx) AA false)::pt bu (.cells (HT up.at' up.n up.kv up.vv up.nx) AA false)::AO x.kv x.n.keys::AO x.vv x.n.vals::DK wb sb L1::A2 sb rb T1 (M+1)::l) τ→EY E Q' bx wb k bu τ:=by
   intro τ T1 L1 hl1 hky ht
   rw [hky] at hst hno hyes
   simp only [R.bind_ok] at hst hno hyes
   obtain ⟨up1,hup1⟩:∃ s,L1[k - 1]?=some s:=⟨_,List.getElem?_eq_getElem (by omega)⟩
   rw [List.getElem?_map,hup1] at hst hno hyes
   simp only [Option.map_some] at hst hno hyes
   refine ABV ht (by omega) (by omega) hxo hup1 _ rfl hst ?_ ?_
   ·intro e T' σ' he h4 h5
    exact hno e T' σ' he h4 h5
   ·intro T' L' σ' hl h4 h5
    exact hyes T' L' σ' (by omega) h4 h5
  have same:fU (L.map Sp.w) k x.w up.w T=.ok (L.map Sp.w) T→E2 E Q' false wb k bu bx τ:=by
   intro hky
   unfold E2
   refine C8 rfl ?_
   have h4:H (A2 sb rb T M::pt bx (.cells (HT x.at' x.n x.kv x.vv x.nx) AA false)::pt bu (.cells (HT up.at' up.n up.kv up.vv up.nx) AA false)::AO x.kv x.n.keys::AO x.vv x.n.vals::DK wb sb L::l) τ:=h3.re
   exact on T L rfl hky (CV (N:=M+1) (by omega) h4).re
  refine AT (fun g0=>?_) fun g0=>?_
  ·have hky:fU (L.map Sp.w) k x.w up.w T=match up.n.keys[up.nx]?,x.n.keys[0]? with
    | some uk,some x0=>if uk=x0 then .ok (L.map Sp.w) T else ND (L.map Sp.w) (k - 1) up.nx x0 x.at' T
    | _,_=>.stuck:=by
    unfold fU
    rw [hw,hwx]
    simp only
    rw [if_pos (by omega)]
    all_goals (cases up.n.keys[up.nx]?<;>cases x.n.keys[0]?<;>rfl)
   obtain ⟨x0,hx0⟩:∃ x0,x.n.keys[0]?=some x0:=⟨_,List.getElem?_eq_getElem (by omega)⟩
   cases huk:up.n.keys[up.nx]? with
   | none=>rw [huk] at hky; rw [hky] at hst; exact absurd rfl hst
   | some uk =>
   rw [huk,hx0] at hky
   simp only at hky
   obtain ⟨p1,ia1,la1⟩:=FY (DF (h3.fnd (AO up.kv up.n.keys))) huk
   obtain ⟨p2,ia2,la2⟩:=FY (DF (h3.fnd (AO x.kv x.n.keys))) hx0
   rw [LV h3,LI h3,ia1,AF,la1,AH,LV h3,show (0:Int)=((0:Nat):Int) from rfl,ia2,AF,la2,AH]
   by_cases hne:uk=x0
   ·rw [if_pos hne] at hky
    have:(!decide ((uk:Int)=(x0:Int)))=false:=by simp [hne]
    rw [this]
    exact same hky
   ·rw [if_neg hne] at hky
    have:(!decide ((uk:Int)=(x0:Int)))=true:=by simp; omega
    rw [this]
    unfold E2
    refine IM rfl ?_
    refine GA ((k - 1:Nat):Int) (by omega) ?_
    rw [LI h3,LV h3,show (0:Int)=((0:Nat):Int) from rfl,ia2,AF,la2,AH,LI h3]
    have h4:H (DK wb sb L::A2 sb rb T M::pt bx (.cells (HT x.at' x.n x.kv x.vv x.nx) AA false)::pt bu (.cells (HT up.at' up.n up.kv up.vv up.nx) AA false)::AO x.kv x.n.keys::AO x.vv x.n.vals::l) τ:=h3.re
    have hx8:=hxo.at8
    refine s0 h4 (by omega) (hxo.sm.1 x0 (List.mem_of_getElem? hx0)) (by omega) (fun e=>hst (by rw [hky,e]; rfl)) ?_ ?_
    ·intro e T1 τ1 he hse h5
     rw [EE]
     have h6:H (A2 sb rb T1 (M+1)::l) τ1:=h5.re
     exact hno e T1 τ1 he (by rw [hky,hse]; rfl) (CV (by omega) h6)
    ·intro T1 L1 τ1 hl1 hse h5
     rw [B5]
     exact on T1 L1 hl1 (by rw [hky,hse]) h5.re
  ·have hky:fU (L.map Sp.w) k x.w up.w T=.ok (L.map Sp.w) T:=by
    unfold fU
    rw [hwx]
    simp only
    rw [if_neg (by omega)]
   exact same hky
 have e1':=e1 .i64
 have u1':=u1 .i64
 constructor
 ·refine nw h2 ?_
  intro bx τ1 g1
  have w1:H (dG wb sb wv L (A2 sb rb T M::l)) τ1:=g1.tail
  rw [rdS w1 hx e1',rdS w1 hu u1']
  refine nw g1 ?_
  intro bu τ2 g2
  have w2:H (dG wb sb wv L (A2 sb rb T M::l)) τ2:=g2.tail.tail
  rw [rdS w2 hx e1',rdS w2 hu u1']
  refine J5 (vs:=HT x.at' x.n x.kv x.vv x.nx) (g2.perm (.swap _ _ _)) rfl rfl (by simp only [List.all_cons,hxo.o1,hxo.o2,List.all_nil]; rfl) ?_
  intro τ3 g3
  have w3:H (dG wb sb wv L (A2 sb rb T M::l)) τ3:=g3.tail.tail
  rw [rdS w3 hu u1']
  refine J5 (vs:=HT up.at' up.n up.kv up.vv up.nx) (g3.perm (.swap _ _ _)) rfl rfl (by simp only [List.all_cons,huo.o1,huo.o2,List.all_nil]; rfl) ?_
  intro τ4 g4
  exact k3 (g4.perm (.swap _ _ _))
 ·refine nw h2 ?_
  intro bu τ1 g1
  have w1:H (dG wb sb wv L (A2 sb rb T M::l)) τ1:=g1.tail
  rw [rdS w1 hx e1',rdS w1 hu u1']
  refine nw g1 ?_
  intro bx τ2 g2
  have w2:H (dG wb sb wv L (A2 sb rb T M::l)) τ2:=g2.tail.tail
  rw [rdS w2 hx e1',rdS w2 hu u1']
  refine J5 (vs:=HT x.at' x.n x.kv x.vv x.nx) g2 rfl rfl (by simp only [List.all_cons,hxo.o1,hxo.o2,List.all_nil]; rfl) ?_
  intro τ3 g3
  have w3:H (dG wb sb wv L (A2 sb rb T M::l)) τ3:=g3.tail.tail
  rw [rdS w3 hu u1']
  refine J5 (vs:=HT up.at' up.n up.kv up.vv up.nx) (g3.perm (.swap _ _ _)) rfl rfl (by simp only [List.all_cons,huo.o1,huo.o2,List.all_nil]; rfl) ?_
  intro τ4 g4
  exact k3 (g4.perm (.swap _ _ _))
end Go.Ax.C
