/- Proved: 'TreeMaps' returns true,for every input; no condition. By a calculus of weakest preconditions over an abstract heap,which is sound for the machine. -/
import Derived.Test.YtcnceningjookaaGreatTm8
import Derived.Test.YtcnceningjookaaGreatRows
import Derived.WalkKit
import Derived.ProofKit
import Derived.OpenShut
import Derived.SizedLaws
set_option linter.unusedVariables false
set_option linter.unusedSimpArgs false
set_option linter.unnecessarySimpa false
set_option linter.constructorNameAsVariable false
set_option maxRecDepth 100000
namespace Go.Ax.C
open Go.Proofs Go.RowKit
variable {l r r2 m:List AK} {σ:AHeap} {Q:RK} {K:List Nat}
theorem LN {e n k:Nat} {v:Value} {xs:List Value} (h:H (AU e 1 v n xs::l) σ) (hk:k<n) (hx:xs.length=n) :
 ∃ p:Addr,(∀ kd,AE 1 v (.int kd (k:Nat))=some (.pointer (some p)))∧AF false 1 (.pointer (some p)) σ=xs[k]?∧∀ {x:Value} {K:AHeap→Prop},one x=true→(∀ σ',H (AU e 1 v n (xs.set k x)::l) σ'→K σ')→pu (AP 1 (.pointer (some p)) x σ) K:=by
 obtain ⟨b,cp,rfl,_,rest,hrow⟩:=h.own_form 0 rfl (by omega)
 refine ⟨⟨b,k,none⟩,fun kd=>by rw [S6 (by omega)]; simp,?_,fun {x K} h1 hK=>?_⟩
 ·rw [BO hrow,List.getElem?_append_left (by omega)]
 ·exact KA h 0 rfl (by omega) h1 (by omega) fun σ' h'=>hK σ' h'
def um (p:Nat×HS):AK:=GK .u64 p.1 p.2
def E4 (ms:List (Nat×HS)):AK:=AY (ms.map um)
def JR (ms:List (Nat×HS)):List Value:=ms.map fun p=>.map (some p.1)
theorem X5 {α:Type}:∀ {xs:List α} {i:Nat} {x:α},xs[i]?=some x→xs.Perm (x::xs.eraseIdx i)
 | [],i,x,h=>by simp at h
 | y::xs,0,x,h=>by simp at h; subst h; simp
 | y::xs,i+1,x,h=>by
   rw [List.getElem?_cons_succ] at h
   rw [List.eraseIdx_cons_succ]
   exact ((X5 h).cons y).trans (.swap _ _ _)
theorem Z0 {ms:List (Nat×HS)} {i:Nat} {p:Nat×HS} (hp:ms[i]?=some p) (h:H (E4 ms::l) σ):H (GK .u64 p.1 p.2::E4 (ms.eraseIdx i)::l) σ:=by
 have h1:H (ms.map um++l) σ:=A8.1 h
 have h2:H ((um p::(ms.eraseIdx i).map um)++l) σ:=h1.perm (((X5 hp).map um).append_right l)
 rw [List.cons_append] at h2
 have h4:H ((ms.eraseIdx i).map um++(um p::l)) σ:=h2.perm List.perm_middle.symm
 exact (A8.2 h4).perm (.swap _ _ _)
theorem mN {ms:List (Nat×HS)} {i:Nat} {p:Nat×HS} (hi:i<ms.length) (h:H (GK .u64 p.1 p.2::E4 (ms.eraseIdx i)::l) σ):H (E4 (ms.set i p)::l) σ:=by
 have hp:(ms.set i p)[i]?=some p:=by rw [List.getElem?_set,if_pos rfl,if_pos hi]
 have hq:=((X5 hp).map um).symm
 rw [List.eraseIdx_set_eq] at hq
 have h1:H ((ms.eraseIdx i).map um++(um p::l)) σ:=A8.1 (h.perm (.swap _ _ _))
 refine A8.2 ?_
 have h2:H ((um p::(ms.eraseIdx i).map um)++l) σ:=by rw [List.cons_append]; exact h1.perm List.perm_middle
 exact h2.perm (hq.append_right l)
theorem eZ {ms:List (Nat×HS)} {i:Nat} {p:Nat×HS} (hp:ms[i]?=some p) (h:H (E4 ms::l) σ):H (GK .u64 p.1 p.2::l) σ:=((Z0 hp h).perm (.swap _ _ _)).tail
theorem xF {mb:Nat} {ml:HS} {ms:List (Nat×HS)} (h2:H (GK .u64 mb ml::E4 ms::l) σ):H (E4 (ms++[(mb,ml)])::l) σ:=by
 refine A8.2 ?_
 have h1:H (ms.map um++(um (mb,ml)::l)) σ:=A8.1 (h2.perm (.swap _ _ _))
 simpa [E4] using h1
theorem OT {ms:List (Nat×HS)} {i:Nat} {p:Nat×HS} (hp:ms[i]?=some p):(JR ms)[i]?=some (.map (some p.1)):=by
 unfold JR; rw [List.getElem?_map,hp]; rfl
theorem vH {ms:List (Nat×HS)} {i mb:Nat} {a b:HS} (hp:ms[i]?=some (mb,a)):JR (ms.set i (mb,b))=JR ms:=by
 unfold JR
 rw [List.map_set]
 apply List.ext_getElem?
 intro j
 rw [List.getElem?_set]
 split
 ·rename_i e; subst e
  have:=(List.getElem?_eq_some_iff.1 hp).1
  rw [List.getElem?_map,hp]
  simp [this]
 ·rfl
structure Rep (ml:HS) (L:List KV):Prop where
 get:∀ k,JV ml k=(GN k L).map fun v=>.int .u64 (v:Nat)
 len:ml.length=L.length
theorem ABG {L:List KV} (hg:C4 L) {q:KV} (hq:q∈L):GN q.1 L=some q.2:=by
 induction L with
 | nil=>simp at hq
 | cons p L ih =>
   obtain ⟨_,h2,h3⟩:=GZ.1 hg
   unfold GN
   rcases List.mem_cons.1 hq with rfl | hq
   ·rw [if_pos rfl]
   ·have:=h2 q hq
    rw [if_neg (by omega)]
    exact ih h3 hq
theorem Rep.has {ml:HS} {L:List KV} (h:Rep ml L) (hg:C4 L):Has ml L:=fun q hq=>by rw [h.get,ABG hg hq]; rfl
structure Trs (G:Gh) (c:Nat) (roots:List Nat) (ms:List (Nat×HS)) (Ls:List (List KV)):Prop where
 l1:ms.length=roots.length
 l2:Ls.length=roots.length
 tr:∀ (i r:Nat) (L:List KV),roots[i]?=some r→Ls[i]?=some L→PG G r L∧C4 L∧L.length≤c
 rp:∀ (i:Nat) (p:Nat×HS) (L:List KV),ms[i]?=some p→Ls[i]?=some L→Rep p.2 L
theorem xG {roots:List Nat} {k r:Nat} (hr:roots[k]?=some r):nz (roots.take (k+1))=nz (roots.take k)++(if r=0 then [] else [r]):=by
 unfold nz
 rw [List.take_add_one,hr,Option.toList_some,List.filter_append]
 congr 1
 by_cases h:r=0<;>simp [h]
set_option maxHeartbeats 1000000 in
theorem AGe {xb rb sb N M c:Nat} {rv mv:Value} {T:TS} {G:Gh} {roots:List Nat} {ms:List (Nat×HS)} {Ls:List (List KV)} (hI:D0 N T G (nz roots++[0,1])) (hN:N≤1024) (hN2:2≤N) (h0:G 0=none) (h1:G 1=none)
 (ht:Trs G c roots ms Ls) (hk8:roots.length≤8) (hc:c≤10000) (hM:M≤80000000000)
 (h:H (AU AJ 1 rv roots.length (uv roots)::AU AI 1 mv roots.length (JR ms)::E4 ms::pt xb (.cells [.pointer (some ⟨rb,0,none⟩),.pointer (some ⟨sb,0,none⟩)] AM false)::A3 sb rb T M::l) σ)
 (hQ:∀ cv σ',H (AU BQ 1 cv N (iv T.now)::AU AJ 1 rv roots.length (uv roots)::AU AI 1 mv roots.length (JR ms)::E4 ms::pt xb (.cells [.pointer (some ⟨rb,0,none⟩),.pointer (some ⟨sb,0,none⟩)] AM false)::A3 sb rb T (M+80*10000)::l) σ'→Q (.ret (.tuple #[cv,.bool true])) σ') :
 E VP [.pointer (some ⟨xb,0,none⟩),rv,mv,.int .i64 (N:Nat)] σ Q:=by
 apply qH; unfold dM
 refine QO h (by omega) ?_
 intro cb σ1 h2
 rw [PD] at h2
 have h2:=h2.unsnoc
 simp only [Int.toNat_natCast] at h2 ⊢
 have e0:List.replicate N (Value.int .i64 0)=iv (List.replicate N 0):=by simp [iv]
 rw [e0] at h2
 have h2:=h2.to_own 0 (z:=1) (n:=N) rfl (by rw [sM]; simp) (by unfold A4; omega)
 simp only [List.set_cons_zero] at h2
 generalize hcv:Value.slice (some ⟨cb,0,none⟩) N N=cv at h2 ⊢
 obtain ⟨p0,i0,_,s0⟩:=dK (a:=0) h2 (by omega) (by simp)
 have i0:=i0 .i64
 simp only [Int.natCast_zero] at i0
 rw [i0,AD]
 refine s0 (x:=1) fun σ2 h3=>?_
 obtain ⟨p1,i1,_,s1⟩:=dK (a:=1) h3 (by omega) (by simp)
 have i1:AE 1 cv (.int .i64 1)=some (.pointer (some p1)):=i1 .i64
 rw [i1,AD]
 refine s1 (x:=1) fun σ3 h4=>?_
 have ec:((List.replicate N 0).set 0 1).set 1 1=MT N:=by
  obtain ⟨k,rfl⟩:∃ k,N=k+2:=⟨N - 2,by omega⟩
  simp [MT,List.replicate_succ]
 rw [ec] at h4
 have hro:H (AU AJ 1 rv roots.length (uv roots)::l) σ3:=h4.re
 rw [R8 hro,AH]
 refine ⟨fun m i τ=>∃ (k:Nat) (c0 D Kp:List Nat),i=k∧m=roots.length - k∧k≤roots.length∧CS N G D Kp c0∧(∀ H,mE G H D c0)∧(∀ x∈roots.take k,x≠0→x∈D)∧(∀ x,Kp.count x=(nz (roots.take k)).count x+[0,1].count x)∧(∀ x,c0.getD x 0≤1+80000*k)∧H (AU BQ 1 cv N (iv c0)::AU AJ 1 rv roots.length (uv roots)::AU AI 1 mv roots.length (JR ms)::E4 ms::pt xb (.cells [.pointer (some ⟨rb,0,none⟩),.pointer (some ⟨sb,0,none⟩)] AM false)::A3 sb rb T (M+80000*k)::l) τ,
  ⟨_,0,MT N,[],[0,1],rfl,rfl,by omega,CS.start hN2,fun H=>tM hN2 h0 h1,by simp,fun x=>by simp [nz],fun x=>?_,h4⟩,?_⟩
 ·unfold MT
  match x with
  | 0=>simp
  | 1=>simp
  | x+2 =>
    have:(List.replicate (N - 2) 0).getD x 0=0:=by
     rw [List.getD_eq_getElem?_getD,List.getElem?_replicate]; split<;>rfl
    simp only [List.getD_cons_succ,this]
    omega
 clear h h2 h3 h4 hro
 rintro m _ τ ⟨k,c0,D,Kp,rfl,hmk,hk,hcs,hU,hrD,hKp,hcB,h⟩
 have hR:H (AU AJ 1 rv roots.length (uv roots)::l) τ:=h.re
 have hMv:H (AU AI 1 mv roots.length (JR ms)::l) τ:=h.re
 have hMp:H (E4 ms::l) τ:=h.re
 unfold U3
 refine AS (fun g=>?_) fun g=>?_
 ·obtain ⟨r,hr⟩:∃ r,roots[k]?=some r:=⟨_,List.getElem?_eq_getElem (by omega)⟩
  obtain ⟨L,hL⟩:∃ L,Ls[k]?=some L:=⟨_,List.getElem?_eq_getElem (by have:=ht.l2; omega)⟩
  obtain ⟨⟨mb,ml⟩,hp⟩:∃ p,ms[k]?=some p:=⟨_,List.getElem?_eq_getElem (by have:=ht.l1; omega)⟩
  obtain ⟨htr,hg,hLc⟩:=ht.tr k r L hr hL
  have hrep:=ht.rp k _ L hp hL
  obtain ⟨q,i2,l2,_⟩:=LN hR (k:=k) (by omega) (by rw [PO])
  obtain ⟨q3,i3,l3,_⟩:=LN hMv (k:=k) (by omega) (by simp [JR,ht.l1])
  have hl3:AF false 1 (.pointer (some q3)) τ=some (.map (some mb)):=by rw [l3,OT hp]
  rw [i2,AD,l2,QW,hr,Option.map_some,AH]
  refine AS (fun gz=>?_) fun gz=>?_
  ·have hr0:r=0:=by omega
   subst hr0
   have hL0:L=[]:=by simpa [PG] using htr
   subst hL0
   have hu:=eZ hp hMp
   rw [i3,AD,hl3,AD,rV hu,AH]
   have:=hrep.len
   refine CA (fun g=>absurd (by simpa using this) g) fun _=>?_
   unfold J0
   refine E1 ((k+1:Nat):Int) (by omega) ?_
   refine ⟨roots.length - (k+1),by omega,k+1,c0,D,Kp,rfl,rfl,by omega,hcs,hU,fun x hx hne=>?_,fun x=>?_,fun x=>by have:=hcB x; omega,?_⟩
   ·rw [List.take_add_one,hr,Option.toList_some] at hx
    rcases List.mem_append.1 hx with hx | hx
    ·exact hrD x hx hne
    ·simp at hx; exact absurd hx hne
   ·rw [xG hr,if_pos rfl,List.append_nil]; exact hKp x
   ·have h9:H (A3 sb rb T (M+80000*k)::AU BQ 1 cv N (iv c0)::AU AJ 1 rv roots.length (uv roots)::AU AI 1 mv roots.length (JR ms)::E4 ms::pt xb (.cells [.pointer (some ⟨rb,0,none⟩),.pointer (some ⟨sb,0,none⟩)] AM false)::l) τ:=h.re
    exact (B8 (N:=M+80000*(k+1)) (by omega) h9).re
  ·have hr0:r≠0:=by omega
   unfold PG at htr
   rw [if_neg hr0] at htr
   obtain ⟨hh,n,hn,hb,h2k⟩:=htr
   have hfit:=(hI.dom r n hn).2.2.2.2
   have hne:n.keys≠[]:=fun e=>by have:=hfit.1; rw [e] at this; simp at this
   have hgt:gQ G hh r:=⟨n,L,hn,hne,hb⟩
   have hlt:=WN hI hN hb hg h2k
   have e1:(hh+2)*L.length≤7*L.length:=Nat.mul_le_mul_right _ (by omega)
   have e2:(hh+1)*L.length≤6*L.length:=Nat.mul_le_mul_right _ (by omega)
   refine nw h ?_
   intro pb τ1 h5
   refine st h5 rfl ?_
   intro τ2 h6
   have hMv2:H (AU AI 1 mv roots.length (JR ms)::l) τ2:=h6.re
   obtain ⟨q4,i4,l4,_⟩:=LN hMv2 (k:=k) (by omega) (by simp [JR,ht.l1])
   have hl4:AF false 1 (.pointer (some q4)) τ2=some (.map (some mb)):=by rw [l4,OT hp]
   rw [i4,AD,hl4,AD]
   have h7:H (E4 ms::pt pb (.cells [.int .i64 0] BQ false)::AU BQ 1 cv N (iv c0)::AU AJ 1 rv roots.length (uv roots)::AU AI 1 mv roots.length (JR ms)::pt xb (.cells [.pointer (some ⟨rb,0,none⟩),.pointer (some ⟨sb,0,none⟩)] AM false)::A3 sb rb T (M+80000*k)::l) τ2:=h6.re
   have h8:=Z0 hp h7
   have h9:H (j4 pb 0 cv N c0 mb ml xb rb sb T (M+80000*k) (E4 (ms.eraseIdx k)::AU AJ 1 rv roots.length (uv roots)::AU AI 1 mv roots.length (JR ms)::l)) τ2:=h8.re
   refine AFA hI hN hh r 0 0 (M+80000*k) (1+80000*k) n L c0 _ τ2 _ hn hb hg (fun e=>by omega) (fun _=>h2k) (by omega) (hrep.has hg) hcs.len hcB (by omega) (by omega) (by omega) h9 ?_
   intro τ3 h10
   rw [MQ,AT,AT,C8]
   refine B7 rfl ?_
   have hpb:H (pt pb (.cells [.int .i64 ((0+L.length:Nat):Int)] BQ false)::l) τ3:=h10.re
   rw [LI hpb]
   have hMv3:H (AU AI 1 mv roots.length (JR ms)::l) τ3:=h10.re
   obtain ⟨q5,i5,l5,_⟩:=LN hMv3 (k:=k) (by omega) (by simp [JR,ht.l1])
   have e45:=i5 .i64
   rw [i4] at e45
   cases e45
   have l5:=l5
   have hl5:AF false 1 (.pointer (some q4)) τ3=some (.map (some mb)):=by rw [l5,OT hp]
   have hu3:H (GK .u64 mb ml::l) τ3:=h10.re
   rw [AD,hl5,AD,rV hu3,AH,hrep.len]
   rw [show (!decide (((0+L.length:Nat):Int)=(L.length:Nat)))=false by simp]
   unfold N6
   refine B7 rfl ?_
   unfold J0
   refine E1 ((k+1:Nat):Int) (by omega) ?_
   obtain ⟨D',g1,g2,g3,g4⟩:=ADF hI hcs hgt hU
   refine ⟨roots.length - (k+1),by omega,k+1,NV G hh r c0,D',r::Kp,rfl,rfl,by omega,g1,g4,fun x hx hne=>?_,fun x=>?_,fun x=>?_,?_⟩
   ·rw [List.take_add_one,hr,Option.toList_some] at hx
    rcases List.mem_append.1 hx with hx | hx
    ·exact g3 x (hrD x hx hne)
    ·simp at hx; rw [hx]; exact g2
   ·rw [xG hr,if_neg hr0,List.count_append,List.count_cons,hKp x,List.count_singleton]
    omega
   ·have:=tQ hh r (1+80000*k) c0 n L hn hne hb hcB x
    omega
   ·have h11:H (GK .u64 mb ml::E4 (ms.eraseIdx k)::AU BQ 1 cv N (iv (NV G hh r c0))::AU AJ 1 rv roots.length (uv roots)::AU AI 1 mv roots.length (JR ms)::pt xb (.cells [.pointer (some ⟨rb,0,none⟩),.pointer (some ⟨sb,0,none⟩)] AM false)::A3 sb rb T (M+80000*k+(hh+1)*L.length)::l) τ3:=h10.re
    have h12:=mN (ms:=ms) (i:=k) (p:=(mb,ml)) (by have:=ht.l1; omega) h11
    have hset:ms.set k (mb,ml)=ms:=by
     apply List.ext_getElem?
     intro j
     rw [List.getElem?_set]
     split
     ·rename_i e; subst e
      rw [if_pos (by have:=ht.l1; omega),hp]
     ·rfl
    rw [hset] at h12
    have h13:H (A3 sb rb T (M+80000*k+(hh+1)*L.length)::AU BQ 1 cv N (iv (NV G hh r c0))::AU AJ 1 rv roots.length (uv roots)::AU AI 1 mv roots.length (JR ms)::E4 ms::pt xb (.cells [.pointer (some ⟨rb,0,none⟩),.pointer (some ⟨sb,0,none⟩)] AM false)::l) τ3:=h12.re
    exact (B8 (N:=M+80000*(k+1)) (by omega) h13).re
 ·have hkk:k=roots.length:=by omega
  subst hkk
  rw [List.take_length] at hrD hKp
  have hcn:=ACM hI hcs (fun x=>by rw [hKp x,List.count_append]) fun r hr hG=>by
   rcases List.mem_append.1 hr with hr | hr
   ·have:=List.mem_filter.1 hr
    exact hrD r this.1 (by simpa using this.2)
   ·simp only [List.mem_cons,List.not_mem_nil,or_false] at hr
    rcases hr with rfl | rfl
    ·exact absurd h0 hG
    ·exact absurd h1 hG
  rw [hcn] at h
  refine hQ cv τ ?_
  have h13:H (A3 sb rb T (M+80000*roots.length)::AU BQ 1 cv N (iv T.now)::AU AJ 1 rv roots.length (uv roots)::AU AI 1 mv roots.length (JR ms)::E4 ms::pt xb (.cells [.pointer (some ⟨rb,0,none⟩),.pointer (some ⟨sb,0,none⟩)] AM false)::l) τ:=h.re
  exact (B8 (N:=M+80*10000) (by omega) h13).re
end Go.Ax.C
set_option maxRecDepth 100000
namespace Go.Ax.C
open Go.Proofs Go.RowKit
variable {l r r2 m:List AK} {σ:AHeap} {Q:RK}
theorem aG (n:Int):0≤HW n∧HW n<18446744073709551616:=by
 simp [HW,IntKind.wrap,IntKind.bits,IntKind.signed]; omega
theorem rI {n k:Int} (h:0≤n) (hk:0<k):0≤Int.tmod n k∧Int.tmod n k<k:=by
 rw [Int.tmod_eq_emod_of_nonneg h]
 exact ⟨Int.emod_nonneg _ (by omega),Int.emod_lt_of_pos _ hk⟩
end Go.Ax.C
set_option maxRecDepth 100000
namespace Go.Ax.C
open Go.Proofs Go.RowKit O
variable {l r r2 m:List AK} {σ:AHeap} {Q:RK}
structure TP where
 w:Int
 key:Nat
 at':Nat
def AAt (cs:List Value) (a:TP):AK:=HZ (cs=[.int .i64 a.w,.int .u64 (a.key:Nat),.int .u64 (a.at':Nat)]∧a.key<18446744073709551616∧a.at'<18446744073709551616)
def CJ (v:Value) (L:List TP):AK:=dY 3 24 AAt v L
theorem s9 {v:Value} {L:List TP} {k:Nat} {a:TP} (h:H (CJ v L::l) σ) (hk:L[k]?=some a) :
 ∃ b,AE 3 v (.int .i64 (k:Nat))=some (.pointer (some ⟨b,k*3,none⟩))∧a.key<18446744073709551616∧a.at'<18446744073709551616∧AF false 1 (.pointer (some ⟨b,k*3+0,none⟩)) σ=some (.int .i64 a.w)∧AF false 1 (.pointer (some ⟨b,k*3+1,none⟩)) σ=some (.int .u64 (a.key:Nat))∧AF false 1 (.pointer (some ⟨b,k*3+2,none⟩)) σ=some (.int .u64 (a.at':Nat)):=by
 obtain ⟨b,cs,e1,_,e3,_,h1⟩:=h.rows_elem 0 rfl hk
 obtain ⟨⟨rfl,ha,hb⟩,_⟩:=BK.1 h1
 exact ⟨b,e1 .i64,ha,hb,e3 1 0 (by omega),e3 1 1 (by omega),e3 1 2 (by omega)⟩
theorem uG {v:Value} {L:List TP} (h:H (CJ v L::l) σ):BH v=some (.int .i64 L.length):=by
 obtain ⟨a,c,rfl⟩:=h.rows_form 0 rfl
 rfl
structure zN (ms:List (Nat×HS)) (Ls:List (List KV)):Prop where
 len:ms.length=Ls.length
 rp:∀ (i:Nat) (p:Nat×HS) (L:List KV),ms[i]?=some p→Ls[i]?=some L→Rep p.2 L
abbrev sN (rv mv:Value) (roots:List Nat) (ms:List (Nat×HS)) (xb rb sb:Nat) (T:TS) (M:Nat) (v2:Value) (A:List TP) (l:List AK):List AK :=
 AU AJ 1 rv roots.length (uv roots)::AU AI 1 mv roots.length (JR ms)::E4 ms::pt xb (.cells [.pointer (some ⟨rb,0,none⟩),.pointer (some ⟨sb,0,none⟩)] AM false)::A3 sb rb T M::CJ v2 A::l
def TmS (N xb rb sb:Nat) (v2:Value) (A:List TP) (l:List AK) (c M:Nat) (rv mv:Value) (at':Nat) (τ:AHeap):Prop :=
 ∃ T G roots ms Ls,Q8 N T G roots Ls c∧zN ms Ls∧at'<roots.length∧roots.length≤8∧H (sN rv mv roots ms xb rb sb T M v2 A l) τ
theorem wM {ms:List (Nat×HS)} {Ls:List (List KV)} {at' mb:Nat} {ml ml':HS} {L':List KV} (h:zN ms Ls) (hp:ms[at']?=some (mb,ml)) (hr:Rep ml' L'):zN (ms.set at' (mb,ml')) (Ls.set at' L'):=by
 have hat:=(List.getElem?_eq_some_iff.1 hp).1
 refine ⟨by rw [List.length_set,List.length_set,h.len],fun i p L hi hL=>?_⟩
 rw [List.getElem?_set] at hi hL
 by_cases e:at'=i
 ·rw [if_pos e,if_pos hat] at hi
  rw [if_pos e,if_pos (by rw [← h.len]; exact hat)] at hL
  cases hi; cases hL
  exact hr
 ·rw [if_neg e] at hi hL
  exact h.rp i p L hi hL
theorem ACx {ml:HS} {L:List KV} {key v:Nat} (h:Rep ml L) (hg:C4 L):Rep (YR ml key (.int .u64 (v:Nat))) (ins key v L):=by
 refine ⟨fun k=>?_,?_⟩
 ·rw [y8,ACa hg,h.get]
  split<;>rfl
 ·rw [zY,ACo hg,h.get,h.len]
  cases GN key L<;>rfl
theorem ACj {ml:HS} {L:List KV} {key old:Nat} (h:Rep ml L) (hg:C4 L) (hn:(ml.map (·.1)).Nodup) (hk:GN key L=some old):Rep (eI ml key) (del key L):=by
 refine ⟨fun k=>?_,?_⟩
 ·rw [y9,ACQ hg,h.get]
  split<;>rfl
 ·have h1:=AAF (a:=key) hn
  have h2:=AC8 hg hk
  rw [h.get,hk,Option.map_some,if_neg (by simp)] at h1
  have:=h.len
  omega
theorem gW {mb key:Nat} {ml:HS} {L:List KV} (h:H (GK .u64 mb ml::l) σ) (hr:Rep ml L):EL P AI (.map (some mb)) (.int .u64 (key:Nat)) true σ=some (.tuple #[.int .u64 (((GN key L).getD 0:Nat):Int),.bool (GN key L).isSome]):=by
 rw [dE h pM tO,hr.get]
 cases GN key L<;>rfl
theorem VA {α:Type} {xs:List α} {i:Nat} {x:α} (h:xs[i]?=some x):xs.set i x=xs:=by
 apply List.ext_getElem?
 intro j
 rw [List.getElem?_set]
 by_cases e:i=j
 ·subst e; rw [if_pos rfl,if_pos (List.getElem?_eq_some_iff.1 h).1,h]
 ·rw [if_neg e]
theorem GH {α:Type} {xs:List α} {i:Nat} (h:i<xs.length):∃ x,xs[i]?=some x:=⟨_,List.getElem?_eq_getElem h⟩
section
variable {N xb rb sb c M at':Nat} {v2 rv mv:Value} {A:List TP}
theorem k48 {N1:Value→Value→Int→Int→AHeap→Prop} {i:Nat} {bl:Int} {bv:Value} (hi:i<1000000) (h:N1 rv mv at' ((i+1:Nat):Int) σ):BM N1 E Q i bl bv rv mv at' σ:=by
 unfold BM
 exact E1 ((i+1:Nat):Int) (by omega) h
set_option maxHeartbeats 1000000 in
theorem AFO {T:TS} {G:Gh} {roots:List Nat} {ms:List (Nat×HS)} {Ls:List (List KV)} {N3:Int→AHeap→Prop} {bb k key a i:Nat} {bl wi cnt:Int} {al:Value} {n276:Int} (hN:N≤1024) (hF:Q8 N T G roots Ls c) (hR:zN ms Ls) (hat:at'<roots.length) (hM:M≤60000000000) (hkey:key<18446744073709551616) (hk:k<1000)
 (h:H (pt bb (.cells [.int .i64 wi,.int .u64 (key:Nat),.int .u64 (a:Nat)] BJ false)::sN rv mv roots ms xb rb sb T M v2 A l) σ) (hQ:∀ σ',Q (.ret (.bool true)) σ')
 (h3:∀ T' G' roots' ms' Ls' σ',Q8 N T' G' roots' Ls' (c+1)→zN ms' Ls'→roots'.length=roots.length→H (pt bb (.cells [.int .i64 wi,.int .u64 (key:Nat),.int .u64 (a:Nat)] BJ false)::sN rv mv roots' ms' xb rb sb T' (M+300) v2 A l) σ'→N3 ((k+1:Nat):Int) σ') (N1:Value→Value→Int→Int→AHeap→Prop) (hkc:(k:Int)<cnt) :
 GT N1 N3 E Q bl (.pointer (some ⟨xb,0,none⟩)) rv mv at' bb al n276 i cnt k σ:=by
 unfold GT
 refine AS (fun _=>?_) fun g=>absurd hkc g
 (try simp only [ED,AD,AO,Nat.zero_add])
 rw [Ld h,AD]
 have hs:H (A3 sb rb T M::pt bb (.cells [.int .i64 wi,.int .u64 (key:Nat),.int .u64 (a:Nat)] BJ false)::AU AJ 1 rv roots.length (uv roots)::AU AI 1 mv roots.length (JR ms)::E4 ms::pt xb (.cells [.pointer (some ⟨rb,0,none⟩),.pointer (some ⟨sb,0,none⟩)] AM false)::CJ v2 A::l) σ:=h.re
 refine oR hs rfl (fun _ σ1 h1=>?_) fun v σ1 hx _ _ h1=>?_
 ·rw [BS,AT,AT]
  refine CA (fun _=>?_) fun g=>absurd g (by decide)
  exact hQ σ1
 obtain ⟨root,hr⟩:=GH hat
 obtain ⟨L,hL⟩:=GH (xs:=Ls) (i:=at') (by have:=hF.len; omega)
 obtain ⟨⟨mb,ml⟩,hp⟩:=GH (xs:=ms) (i:=at') (by have:=hF.len; have:=hR.len; omega)
 have hrep:=hR.rp _ _ _ hp hL
 obtain ⟨_,htr,hg,_⟩:=hF.tree hr hL
 rcases hF.alloc with e1 | ⟨v',T1,e1,hv0,hvN,gv,i1,w1⟩
 ·rw [e1] at hx; cases hx
 rw [e1] at hx
 cases hx
 have hrN:=hF.rN (List.mem_of_getElem? hr)
 rw [BS,AT,AT]
 refine CA (fun g=>absurd rfl g) fun _=>?_
 (try simp only [ED,AD,AO,Nat.zero_add])
 rw [Ld h1,AD]
 have hro:H (AU AJ 1 rv roots.length (uv roots)::l) σ1:=h1.re
 obtain ⟨q,i2,l2,_⟩:=LN hro (k:=at') hat (by rw [PO])
 rw [i2,AD,l2,QW,hr,Option.map_some,AH,LI h1]
 obtain ⟨κ,hκ⟩:∃ κ:Nat,HW ((key:Int)+(k:Nat))=κ:=⟨(HW ((key:Int)+(k:Nat))).toNat,by have:=aG ((key:Int)+(k:Nat)); omega⟩
 have hκb:κ<18446744073709551616:=by have:=aG ((key:Int)+(k:Nat)); omega
 refine bi hκ ?_
 refine PQ (v:Int) (by omega) ?_
 have hi:=hF.ins hN hr hL hv0 gv i1 κ
 have hv64:v<18446744073709551616:=by omega
 refine nR h1 (by omega) (by omega) hκb hv64 ?_ (fun e T' τ4 he hx h5=>?_) (fun to' old' had' T' τ2 hx h2=>?_)
 ·rcases hi with ⟨T2,e2⟩ | ⟨to,T2,G',e2,_⟩<;>rw [e2]<;>exact fun h=>by cases h
 ·rcases hi with ⟨T2,e2⟩ | ⟨to,T2,G',e2,_⟩
  ·rw [e2] at hx; cases hx
   rw [cM,AT,AT,C8,AT]
   refine CA (fun _=>?_) fun g=>absurd g (by decide)
   exact hQ τ4
  ·rw [e2] at hx; cases hx
 rcases hi with ⟨T2,e2⟩ | ⟨to,T2,G',e2,w2,hcase⟩
 ·rw [e2] at hx; cases hx
 rw [e2] at hx
 cases hx
 rw [cM,AT,AT,C8,AT]
 refine CA (fun g=>absurd rfl g) fun _=>?_
 have hmo:H (AU AI 1 mv roots.length (JR ms)::l) τ2:=h2.re
 have hml:(JR ms).length=roots.length:=by have:=hF.len; have:=hR.len; unfold JR; rw [List.length_map]; omega
 obtain ⟨q3,i3,l3,_⟩:=LN hmo (k:=at') hat hml
 have hmp:H (E4 ms::l) τ2:=h2.re
 have hu:=eZ hp hmp
 rw [i3,AD,l3,OT hp,AD,LI h2]
 refine bi hκ ?_
 rw [gW hu hrep,AD,lK,AH,iU,BR]
 refine B7 (by simp) ?_
 rw [show (!decide ((((GN κ L).getD 0:Nat):Int)=(((GN κ L).getD 0:Nat):Int)))=false by simp]
 -- behind the old value
 have k46:∀ T3 τ3,Q8 N T3 G' (roots.set at' to') (Ls.set at' (ins κ v L)) (c+1)→H (A3 sb rb T3 (M+200)::pt bb (.cells [.int .i64 wi,.int .u64 (key:Nat),.int .u64 (a:Nat)] BJ false)::AU AJ 1 rv roots.length (uv roots)::AU AI 1 mv roots.length (JR ms)::E4 ms::pt xb (.cells [.pointer (some ⟨rb,0,none⟩),.pointer (some ⟨sb,0,none⟩)] AM false)::CJ v2 A::l) τ3→GD N3 E Q rv at' mv bb k to' v k bl (.pointer (some ⟨xb,0,none⟩)) al n276 i τ3:=by
  intro T3 τ3 hF3 h4
  unfold GD
  have hmo:H (AU AI 1 mv roots.length (JR ms)::l) τ3:=h4.re
  obtain ⟨q4,i4,l4,_⟩:=LN hmo (k:=at') hat hml
  rw [i4,AD,l4,OT hp,AD,LI h4]
  refine bi hκ ?_
  refine PQ (v:Int) (by omega) ?_
  have hro:H (AU AJ 1 rv roots.length (uv roots)::A3 sb rb T3 (M+200)::pt bb (.cells [.int .i64 wi,.int .u64 (key:Nat),.int .u64 (a:Nat)] BJ false)::AU AI 1 mv roots.length (JR ms)::E4 ms::pt xb (.cells [.pointer (some ⟨rb,0,none⟩),.pointer (some ⟨sb,0,none⟩)] AM false)::CJ v2 A::l) τ3:=h4.re
  obtain ⟨q5,i5,l5,s5⟩:=LN hro (k:=at') hat (by rw [PO])
  rw [i5,AD]
  refine s5 rfl fun τ4 h5=>?_
  rw [← mO] at h5
  rw [LI h5,CE]
  refine PQ (v:Int) (by omega) ?_
  rw [CE]
  have h6:H (E4 ms::AU AJ 1 rv roots.length (uv (roots.set at' to'))::A3 sb rb T3 (M+200)::pt bb (.cells [.int .i64 wi,.int .u64 (key:Nat),.int .u64 (a:Nat)] BJ false)::AU AI 1 mv roots.length (JR ms)::pt xb (.cells [.pointer (some ⟨rb,0,none⟩),.pointer (some ⟨sb,0,none⟩)] AM false)::CJ v2 A::l) τ4:=h5.re
  obtain ⟨v0,st,σ5,e5,hst⟩:=uH (a:=κ) (Z0 hp h6) pM tO
  rw [e5,A5]
  refine PQ (v:Int) (by omega) ?_
  rw [CE]
  simp only []
  rw [iU,AH]
  refine hst fun τ6 h7=>?_
  refine PQ ((k+1:Nat):Int) (by omega) ?_
  have h8:=mN (ms:=ms) (i:=at') (p:=(mb,YR ml κ (.int .u64 (v:Nat)))) (List.getElem?_eq_some_iff.1 hp).1 h7
  have hst2:H (A3 sb rb T3 (M+200)::E4 (ms.set at' (mb,YR ml κ (.int .u64 (v:Nat))))::AU AJ 1 rv roots.length (uv (roots.set at' to'))::pt bb (.cells [.int .i64 wi,.int .u64 (key:Nat),.int .u64 (a:Nat)] BJ false)::AU AI 1 mv roots.length (JR ms)::pt xb (.cells [.pointer (some ⟨rb,0,none⟩),.pointer (some ⟨sb,0,none⟩)] AM false)::CJ v2 A::l) τ6:=h8.re
  have h9:=B8 (N:=M+300) (by omega) hst2
  refine h3 T3 G' (roots.set at' to') _ _ τ6 hF3 (wM hR hp (ACx hrep hg)) (by simp) ?_
  unfold sN
  rw [List.length_set,vH hp]
  exact h9.re
 unfold IX
 refine B7 rfl ?_
 rcases hcase with ⟨hk0,hF3⟩ | ⟨old,b,T3,hk0,hoN,e3,w3,hF3⟩
 ·rw [hk0]
  refine B7 rfl ?_
  exact k46 _ _ hF3 h2
 ·rw [hk0]
  refine G8 rfl ?_
  (try simp only [ED,AD,AO,Nat.zero_add,Option.getD_some])
  rw [Ld h2,AD]
  refine E1 (old:Int) (by omega) ?_
  refine rF h2 rfl (by rw [e3]; exact fun h=>by cases h) (fun e σ' _ hx _=>by rw [e3] at hx; cases hx) fun b' T' τ3 hx h4=>?_
  rw [e3] at hx
  cases hx
  rw [BS,C8,AT]
  exact k46 _ _ hF3 h4
set_option maxHeartbeats 1000000 in
theorem AFg {N1:Value→Value→Int→Int→AHeap→Prop} {bb n key a i:Nat} {bl wi:Int} {al:Value} {n276:Int} (hN:N≤1024) (hM:M≤50000000000) (hkey:key<18446744073709551616) (hi:i<1000000) (hn:n≤40) {T:TS} {G:Gh} {roots:List Nat} {ms:List (Nat×HS)} {Ls:List (List KV)}
 (hF:Q8 N T G roots Ls c) (hR:zN ms Ls) (hat:at'<roots.length) (hr8:roots.length≤8)
 (h:H (pt bb (.cells [.int .i64 wi,.int .u64 (key:Nat),.int .u64 (a:Nat)] BJ false)::sN rv mv roots ms xb rb sb T M v2 A l) σ) (hQ:∀ σ',Q (.ret (.bool true)) σ')
 (h1:∀ σ',TmS N xb rb sb v2 A l (c+40) (M+12000) rv mv at' σ'→N1 rv mv at' ((i+1:Nat):Int) σ') :
 EI N1 E Q n bl (.pointer (some ⟨xb,0,none⟩)) rv mv at' bb al n276 i σ:=by
 unfold EI
 refine ⟨fun m k τ=>∃ (j:Nat) (T:TS) (G:Gh) (roots:List Nat) (ms:List (Nat×HS)) (Ls:List (List KV)),k=j∧m=n - j∧j≤n∧Q8 N T G roots Ls (c+j)∧zN ms Ls∧at'<roots.length∧roots.length≤8∧H (pt bb (.cells [.int .i64 wi,.int .u64 (key:Nat),.int .u64 (a:Nat)] BJ false)::sN rv mv roots ms xb rb sb T (M+300*j) v2 A l) τ,
  ⟨_,0,T,G,roots,ms,Ls,rfl,rfl,by omega,hF,hR,hat,hr8,h⟩,?_⟩
 clear h hF hR hat hr8
 rintro m _ τ ⟨j,T,G,roots,ms,Ls,rfl,hmj,hj,hF,hR,hat,hr8,h⟩
 by_cases hlt:j<n
 ·refine AFO hN hF hR hat (by omega) hkey (by omega) h hQ (fun T' G' roots' ms' Ls' σ' f1 f2 f3 f4=>?_) N1 (by omega)
  exact ⟨n - (j+1),by omega,j+1,T',G',roots',ms',Ls',rfl,rfl,by omega,f1,f2,by omega,by omega,by rw [show M+300*(j+1)=M+300*j+300 by omega]; exact f4⟩
 ·unfold GT
  refine AS (fun g=>absurd g (by omega)) fun _=>?_
  refine k48 hi (h1 τ ⟨T,G,roots,ms,Ls,hF.mono (by omega),hR,hat,hr8,?_⟩)
  have h2:H (A3 sb rb T (M+300*j)::AU AJ 1 rv roots.length (uv roots)::AU AI 1 mv roots.length (JR ms)::E4 ms::pt xb (.cells [.pointer (some ⟨rb,0,none⟩),.pointer (some ⟨sb,0,none⟩)] AM false)::CJ v2 A::l) τ:=h.re
  have h9:=B8 (N:=M+12000) (by omega) h2
  exact h9.re
set_option maxHeartbeats 1000000 in
theorem AFm {N1:Value→Value→Int→Int→AHeap→Prop} {bb key a i:Nat} {bl wi:Int} {n276:Value} {nal:Int} (hN:N≤1024) (hM:M≤50000000000) (hkey:key<18446744073709551616) (hi:i<1000000) {T:TS} {G:Gh} {roots:List Nat} {ms:List (Nat×HS)} {Ls:List (List KV)}
 (hF:Q8 N T G roots Ls c) (hR:zN ms Ls) (hat:at'<roots.length) (hr8:roots.length≤8)
 (h:H (pt bb (.cells [.int .i64 wi,.int .u64 (key:Nat),.int .u64 (a:Nat)] BJ false)::sN rv mv roots ms xb rb sb T M v2 A l) σ) (hQ:∀ σ',Q (.ret (.bool true)) σ')
 (h1:∀ σ',TmS N xb rb sb v2 A l c (M+300) rv mv at' σ'→N1 rv mv at' ((i+1:Nat):Int) σ') :
 BI N1 E Q false bb bl (.pointer (some ⟨xb,0,none⟩)) rv mv at' n276 nal i 1 σ:=by
 unfold BI
 refine B7 rfl ?_
 refine G8 rfl ?_
 obtain ⟨root,hr⟩:=GH hat
 obtain ⟨L,hL⟩:=GH (xs:=Ls) (i:=at') (by have:=hF.len; omega)
 obtain ⟨⟨mb,ml⟩,hp⟩:=GH (xs:=ms) (i:=at') (by have:=hF.len; have:=hR.len; omega)
 have hrep:=hR.rp _ _ _ hp hL
 obtain ⟨_,htr,hg,_⟩:=hF.tree hr hL
 have hrN:=hF.rN (List.mem_of_getElem? hr)
 (try simp only [ED,AD,AO,Nat.zero_add])
 rw [Ld h,AD]
 have hro:H (AU AJ 1 rv roots.length (uv roots)::l) σ:=h.re
 obtain ⟨q,i2,l2,_⟩:=LN hro (k:=at') hat (by rw [PO])
 rw [i2,AD,l2,QW,hr,Option.map_some,AH,LI h]
 have hs:H (A3 sb rb T M::pt bb (.cells [.int .i64 wi,.int .u64 (key:Nat),.int .u64 (a:Nat)] BJ false)::AU AJ 1 rv roots.length (uv roots)::AU AI 1 mv roots.length (JR ms)::E4 ms::pt xb (.cells [.pointer (some ⟨rb,0,none⟩),.pointer (some ⟨sb,0,none⟩)] AM false)::CJ v2 A::l) σ:=h.re
 have hrem:=hF.rem hN hr hL key
 have hml:(JR ms).length=roots.length:=by have:=hF.len; have:=hR.len; unfold JR; rw [List.length_map]; omega
 refine AC0 hs (by omega) (by omega) hkey ?_ (fun e T' τ4 he hx h5=>?_) (fun to old had T2 τ2 hx h2=>?_)
 ·rcases hrem with ⟨_,e⟩ | ⟨T2,e⟩ | ⟨old,to,T2,G',b,T3,hk,e,_⟩<;>rw [e]<;>exact fun h=>by cases h
 ·rcases hrem with ⟨_,e2⟩ | ⟨T2,e2⟩ | ⟨old,to,T2,G',b,T3,hk,e2,_⟩<;>rw [e2] at hx<;>cases hx
  rw [cM,AT,AT,C8,AT]
  refine CA (fun _=>?_) fun g=>absurd g (by decide)
  exact hQ τ4
 have hall:to<N∧had=(GN key L).isSome∧old=(GN key L).getD 0∧(had=false→to=root∧T2=T)∧(had=true→∃ G' b T3,old<N∧T2.dec old=.ok b T3∧Q8 N T3 G' (roots.set at' to) (Ls.set at' (del key L)) c):=by
  rcases hrem with ⟨hk,e2⟩ | ⟨T2,e2⟩ | ⟨old,to,T2,G',b,T3,hk,e2,hoN,e3,w3,hF3⟩<;>rw [e2] at hx<;>cases hx
  ·exact ⟨hrN,by simp [hk],by simp [hk],fun _=>⟨rfl,rfl⟩,(fun e=>by cases e)⟩
  ·exact ⟨hF3.rN (List.mem_of_getElem? (xB hr _)),by simp [hk],by simp [hk],(fun e=>by cases e),fun _=>⟨G',b,T3,hoN,e3,hF3⟩⟩
 obtain ⟨htoN,hhad,hold,hf,ht⟩:=hall
 clear hrem hx
 rw [cM,AT,AT,C8,AT]
 refine CA (fun g=>absurd rfl g) fun _=>?_
 have hmo:H (AU AI 1 mv roots.length (JR ms)::l) τ2:=h2.re
 obtain ⟨q3,i3,l3,_⟩:=LN hmo (k:=at') hat hml
 have hmp:H (E4 ms::l) τ2:=h2.re
 have hu:=eZ hp hmp
 rw [i3,AD,l3,OT hp,AD,LI h2,gW hu hrep,AD,lK,AH,iU,BR]
 refine B7 (by rw [hhad]; simp) ?_
 refine B7 (by rw [hold]; simp) ?_
 have k58:∀ T3 G' ms' Ls' τ4,Q8 N T3 G' (roots.set at' to) Ls' c→zN ms' Ls'→JR ms'=JR ms→H (A3 sb rb T3 (M+200)::pt bb (.cells [.int .i64 wi,.int .u64 (key:Nat),.int .u64 (a:Nat)] BJ false)::AU AJ 1 rv roots.length (uv roots)::AU AI 1 mv roots.length (JR ms)::E4 ms'::pt xb (.cells [.pointer (some ⟨rb,0,none⟩),.pointer (some ⟨sb,0,none⟩)] AM false)::CJ v2 A::l) τ4→FZ N1 E Q rv at' to i bl (.pointer (some ⟨xb,0,none⟩)) mv τ4:=by
  intro T3 G' ms' Ls' τ4 hF3 hR3 hmv h5
  unfold FZ
  have hro:H (AU AJ 1 rv roots.length (uv roots)::A3 sb rb T3 (M+200)::AU AI 1 mv roots.length (JR ms)::E4 ms'::pt xb (.cells [.pointer (some ⟨rb,0,none⟩),.pointer (some ⟨sb,0,none⟩)] AM false)::CJ v2 A::l) τ4:=h5.re
  obtain ⟨q5,i5,l5,s5⟩:=LN hro (k:=at') hat (by rw [PO])
  rw [i5,AD]
  refine s5 rfl fun τ5 h6=>?_
  rw [← mO] at h6
  refine k48 hi (h1 τ5 ⟨T3,G',_,ms',Ls',hF3,hR3,by simpa using hat,by simpa using hr8,?_⟩)
  unfold sN
  rw [List.length_set,hmv]
  have h7:H (A3 sb rb T3 (M+200)::AU AJ 1 rv roots.length (uv (roots.set at' to))::AU AI 1 mv roots.length (JR ms)::E4 ms'::pt xb (.cells [.pointer (some ⟨rb,0,none⟩),.pointer (some ⟨sb,0,none⟩)] AM false)::CJ v2 A::l) τ5:=h6.re
  have h9:=B8 (N:=M+300) (by omega) h7
  exact h9.re
 cases hb:had with
 | false =>
   obtain ⟨e1,e2⟩:=hf hb
   subst e1; subst e2
   refine G8 rfl ?_
   have hro:H (AU AJ 1 rv roots.length (uv roots)::l) τ2:=h2.re
   obtain ⟨q5,i5,l5,_⟩:=LN hro (k:=at') hat (by rw [PO])
   have e5:=i5 .i64
   rw [i2] at e5
   cases e5
   rw [AD,l5,QW,hr,Option.map_some,AH]
   rw [show (!decide (((to:Nat):Int)=(to:Nat)))=false by simp]
   unfold DC
   refine B7 rfl ?_
   refine B7 rfl ?_
   exact k58 _ _ ms Ls τ2 (by rw [VA hr]; exact hF) hR rfl h2
 | true =>
   obtain ⟨G',b,T3,hoN,e3,hF3⟩:=ht hb
   refine B7 rfl ?_
   unfold DC
   refine B7 rfl ?_
   refine G8 rfl ?_
   (try simp only [ED,AD,AO,Nat.zero_add])
   rw [Ld h2,AD]
   refine E1 (old:Int) (by omega) ?_
   refine rF h2 rfl (by rw [e3]; exact fun h=>by cases h) (fun e σ' _ hx _=>by rw [e3] at hx; cases hx) fun b' T' τ3 hx h4=>?_
   rw [e3] at hx
   cases hx
   rw [BS,C8,AT]
   have hmo:H (AU AI 1 mv roots.length (JR ms)::l) τ3:=h4.re
   obtain ⟨q4,i4,l4,_⟩:=LN hmo (k:=at') hat hml
   rw [i4,AD,l4,OT hp,AD,LI h4]
   have h6:H (E4 ms::A3 sb rb T3 (M+200)::pt bb (.cells [.int .i64 wi,.int .u64 (key:Nat),.int .u64 (a:Nat)] BJ false)::AU AJ 1 rv roots.length (uv roots)::AU AI 1 mv roots.length (JR ms)::pt xb (.cells [.pointer (some ⟨rb,0,none⟩),.pointer (some ⟨sb,0,none⟩)] AM false)::CJ v2 A::l) τ3:=h4.re
   have h7:=Z0 hp h6
   refine pG h7 pM fun τ5 h8=>?_
   have h9:=mN (ms:=ms) (i:=at') (p:=(mb,eI ml key)) (List.getElem?_eq_some_iff.1 hp).1 h8
   obtain ⟨o,ho⟩:∃ o,GN key L=some o:=Option.isSome_iff_exists.1 (by rw [← hhad,hb])
   exact k58 _ G' _ _ τ5 hF3 (wM hR hp (ACj hrep hg (u0 h7) ho)) (vH hp) h9.re
set_option maxHeartbeats 1000000 in
theorem AEG {N1:Value→Value→Int→Int→AHeap→Prop} {bb key a i:Nat} {bl wi:Int} {n276:Value} {nal:Int} (hN:N≤1024) (hM:M≤50000000000) (hkey:key<18446744073709551616) (hi:i<1000000) {T:TS} {G:Gh} {roots:List Nat} {ms:List (Nat×HS)} {Ls:List (List KV)}
 (hF:Q8 N T G roots Ls c) (hR:zN ms Ls) (hat:at'<roots.length) (hr8:roots.length≤8)
 (h:H (pt bb (.cells [.int .i64 wi,.int .u64 (key:Nat),.int .u64 (a:Nat)] BJ false)::sN rv mv roots ms xb rb sb T M v2 A l) σ)
 (h1:∀ σ',TmS N xb rb sb v2 A l c (M+300) rv mv at' σ'→N1 rv mv at' ((i+1:Nat):Int) σ') :
 BI N1 E Q false bb bl (.pointer (some ⟨xb,0,none⟩)) rv mv at' n276 nal i 2 σ:=by
 unfold BI
 refine B7 rfl ?_
 refine B7 rfl ?_
 refine G8 rfl ?_
 obtain ⟨root,hr⟩:=GH hat
 obtain ⟨L,hL⟩:=GH (xs:=Ls) (i:=at') (by have:=hF.len; omega)
 obtain ⟨⟨mb,ml⟩,hp⟩:=GH (xs:=ms) (i:=at') (by have:=hF.len; have:=hR.len; omega)
 have hrep:=hR.rp _ _ _ hp hL
 have hrN:=hF.rN (List.mem_of_getElem? hr)
 have hlk:=hF.look hN hr hL key
 have hml:(JR ms).length=roots.length:=by have:=hF.len; have:=hR.len; unfold JR; rw [List.length_map]; omega
 (try simp only [ED,AD,AO,Nat.zero_add])
 rw [Ld h,AD]
 have hro:H (AU AJ 1 rv roots.length (uv roots)::l) σ:=h.re
 obtain ⟨q,i2,l2,_⟩:=LN hro (k:=at') hat (by rw [PO])
 rw [i2,AD,l2,QW,hr,Option.map_some,AH,LI h]
 have hs:H (A3 sb rb T M::pt bb (.cells [.int .i64 wi,.int .u64 (key:Nat),.int .u64 (a:Nat)] BJ false)::AU AJ 1 rv roots.length (uv roots)::AU AI 1 mv roots.length (JR ms)::E4 ms::pt xb (.cells [.pointer (some ⟨rb,0,none⟩),.pointer (some ⟨sb,0,none⟩)] AM false)::CJ v2 A::l) σ:=h.re
 refine fG hs (by omega) (by omega) (by rw [hlk]; exact fun h=>by cases h) (fun e T' τ4 _ hx _=>by rw [hlk] at hx; cases hx) (fun v b T' τ2 hx h2=>?_)
 rw [hlk] at hx
 cases hx
 rw [MQ,AT,C8,AT]
 have hmo:H (AU AI 1 mv roots.length (JR ms)::l) τ2:=h2.re
 obtain ⟨q3,i3,l3,_⟩:=LN hmo (k:=at') hat hml
 have hmp:H (E4 ms::l) τ2:=h2.re
 have hu:=eZ hp hmp
 rw [i3,AD,l3,OT hp,AD,LI h2,gW hu hrep,AD,lK,AH,iU,BR]
 refine B7 rfl ?_
 refine B7 (by simp) ?_
 rw [show (!decide ((((GN key L).getD 0:Nat):Int)=(((GN key L).getD 0:Nat):Int)))=false by simp]
 unfold F0
 refine B7 rfl ?_
 refine k48 hi (h1 τ2 ⟨T,G,roots,ms,Ls,hF,hR,hat,hr8,?_⟩)
 have h9:=B8 (N:=M+300) (by omega) h2
 exact h9.re
theorem zA {A B:HS} (hp:A.Perm B) (hn:(B.map (·.1)).Nodup) (k:Nat):JV A k=JV B k:=by
 have hnA:(A.map (·.1)).Nodup:=(hp.map (·.1)).nodup_iff.2 hn
 cases hB:JV B k with
 | none =>
   exact RH fun p hp' e=>S8 hB p (hp.mem_iff.1 hp') e
 | some v=>exact lX hnA (hp.mem_iff.2 (iO hB))
set_option maxHeartbeats 1000000 in
theorem ADn {N1:Value→Value→Int→Int→AHeap→Prop} {bb key a i:Nat} {bl wi:Int} {n276:Value} {nal:Int} (hM:M≤50000000000) (hi:i<1000000) {T:TS} {G:Gh} {roots:List Nat} {ms:List (Nat×HS)} {Ls:List (List KV)}
 (hF:Q8 N T G roots Ls c) (hR:zN ms Ls) (hN:N≤1024) (hat:at'<roots.length) (hr8:roots.length≤8)
 (h:H (pt bb (.cells [.int .i64 wi,.int .u64 (key:Nat),.int .u64 (a:Nat)] BJ false)::sN rv mv roots ms xb rb sb T M v2 A l) σ)
 (h1:∀ rv mv σ',TmS N xb rb sb v2 A l c (M+300) rv mv at' σ'→N1 rv mv at' ((i+1:Nat):Int) σ') :
 BI N1 E Q false bb bl (.pointer (some ⟨xb,0,none⟩)) rv mv at' n276 nal i 3 σ:=by
 unfold BI
 refine B7 rfl ?_
 refine B7 rfl ?_
 refine B7 rfl ?_
 refine G8 rfl ?_
 obtain ⟨root,hr⟩:=GH hat
 obtain ⟨Lx,hL⟩:=GH (xs:=Ls) (i:=at') (by have:=hF.len; omega)
 obtain ⟨⟨mb,ml⟩,hp⟩:=GH (xs:=ms) (i:=at') (by have:=hF.len; have:=hR.len; omega)
 have hrep:=hR.rp _ _ _ hp hL
 have hrN:=hF.rN (List.mem_of_getElem? hr)
 have hml:(JR ms).length=roots.length:=by have:=hF.len; have:=hR.len; unfold JR; rw [List.length_map]; omega
 have hro:H (AU AJ 1 rv roots.length (uv roots)::l) σ:=h.re
 obtain ⟨q,i2,l2,_⟩:=LN hro (k:=at') hat (by rw [PO])
 have k64:∀ T' τ,T'=T→H (A3 sb rb T' M::pt bb (.cells [.int .i64 wi,.int .u64 (key:Nat),.int .u64 (a:Nat)] BJ false)::AU AJ 1 rv roots.length (uv roots)::AU AI 1 mv roots.length (JR ms)::E4 ms::pt xb (.cells [.pointer (some ⟨rb,0,none⟩),.pointer (some ⟨sb,0,none⟩)] AM false)::CJ v2 A::l) τ→DE N1 E Q false mv at' bl (.pointer (some ⟨xb,0,none⟩)) rv n276 nal i τ:=by
  intro T' τ e h2
  subst e
  unfold DE
  refine B7 rfl ?_
  refine k48 hi (h1 rv mv τ ⟨T',G,roots,ms,Ls,hF,hR,hat,hr8,?_⟩)
  exact (B8 (N:=M+300) (by omega) h2).re
 have hs:H (A3 sb rb T M::pt bb (.cells [.int .i64 wi,.int .u64 (key:Nat),.int .u64 (a:Nat)] BJ false)::AU AJ 1 rv roots.length (uv roots)::AU AI 1 mv roots.length (JR ms)::E4 ms::pt xb (.cells [.pointer (some ⟨rb,0,none⟩),.pointer (some ⟨sb,0,none⟩)] AM false)::CJ v2 A::l) σ:=h.re
 rw [i2,AD,l2,QW,hr,Option.map_some,AH]
 refine CA (fun g0=>?_) fun _=>k64 T σ rfl hs
 have h0:root≠0:=by omega
 rw [R8 hro,AH]
 refine AS (fun g8=>?_) fun _=>k64 T σ rfl hs
 (try simp only [ED,AD,AO,Nat.zero_add])
 rw [Ld h,AD,l2,QW,hr,Option.map_some,AH]
 refine E1 (root:Int) (by omega) ?_
 have hinc:=hF.inc hr hL h0
 refine wH hs rfl ?_ (fun e σ' he hx h5=>?_) (fun T' σ' hx h5=>?_)
 ·rcases hinc with e | ⟨T1,e,_⟩<;>rw [e]<;>exact fun h=>by cases h
 ·rw [A9,decide_eq_false (by omega)]
  exact k64 T σ' rfl h5
 rcases hinc with e | ⟨T1,e,w1,hF1⟩
 ·rw [e] at hx; cases hx
 rw [e] at hx
 cases hx
 rw [A9]
 unfold DE
 refine G8 rfl ?_
 refine qU (k:=.u64) h5 (by rfl) ?_
 intro nb τ1 h6
 simp only []
 have hmo:H (AU AI 1 mv roots.length (JR ms)::l) τ1:=h6.re
 obtain ⟨q3,i3,l3,_⟩:=LN hmo (k:=at') hat hml
 rw [i3,AD,l3,OT hp,AD]
 have h7:H (E4 ms::GK .u64 nb []::A3 sb rb T' M::pt bb (.cells [.int .i64 wi,.int .u64 (key:Nat),.int .u64 (a:Nat)] BJ false)::AU AJ 1 rv roots.length (uv roots)::AU AI 1 mv roots.length (JR ms)::pt xb (.cells [.pointer (some ⟨rb,0,none⟩),.pointer (some ⟨sb,0,none⟩)] AM false)::CJ v2 A::l) τ1:=h6.re
 have h8:=Z0 hp h7
 have hnd:=u0 h8
 refine sK (P:=P) (e:=AJ) (u:=AJ) h8 (by kernel_rfl) ?_
 intro it τ2 h9
 refine ⟨fun m τ=>∃ R V:HS,m=R.length∧(V++R).Perm ml∧H (dJ .u64 it mb ml R::E4 (ms.eraseIdx at')::GK .u64 nb V::A3 sb rb T' M::pt bb (.cells [.int .i64 wi,.int .u64 (key:Nat),.int .u64 (a:Nat)] BJ false)::AU AJ 1 rv roots.length (uv roots)::AU AI 1 mv roots.length (JR ms)::pt xb (.cells [.pointer (some ⟨rb,0,none⟩),.pointer (some ⟨sb,0,none⟩)] AM false)::CJ v2 A::l) τ,
  ⟨_,ml,[],rfl,by simp,h9⟩,?_⟩
 clear h9 h8 h7 h6
 rintro m τ ⟨R,V,rfl,hP,h10⟩
 unfold OG
 refine uC h10 ?_ ?_
 ·intro hnil
  subst hnil
  rw [List.append_nil] at hP
  simp only
  have x0:QX (.tuple #[.bool false]) 0=some (.bool false):=rfl
  rw [x0,BR]
  refine B7 rfl ?_
  have h11:=mN (ms:=ms) (i:=at') (p:=(mb,ml)) (List.getElem?_eq_some_iff.1 hp).1 ((zF h10))
  rw [VA hp] at h11
  have hro2:H (AU AJ 1 rv roots.length (uv roots)::l) τ:=h11.re
  obtain ⟨q4,i4,l4,_⟩:=LN hro2 (k:=at') hat (by rw [PO])
  rw [i4,AD,l4,QW,hr,Option.map_some,AH]
  refine nw h11 ?_
  intro bk τ3 h12
  have h13:H (AU AJ 1 rv roots.length (uv roots)::pt bk (.cells [.int .u64 (root:Nat)] AJ false)::E4 ms::GK .u64 nb V::A3 sb rb T' M::AU AI 1 mv roots.length (JR ms)::pt xb (.cells [.pointer (some ⟨rb,0,none⟩),.pointer (some ⟨sb,0,none⟩)] AM false)::CJ v2 A::l) τ3:=h12.re
  refine X4 0 (x:=root) h13 rfl (by omega) (j:=1) rfl fun rv' τ4 h14=>?_
  simp only [List.set_cons_zero] at h14
  refine E5 rfl ?_
  refine nw h14 ?_
  intro bl2 τ5 h15
  have h16:H (AU AI 1 mv roots.length (JR ms)::pt bl2 (.cells [.map (some nb)] AI false)::AU AJ 1 rv' (roots++[root]).length (uv (roots++[root]))::E4 ms::GK .u64 nb V::A3 sb rb T' M::pt xb (.cells [.pointer (some ⟨rb,0,none⟩),.pointer (some ⟨sb,0,none⟩)] AM false)::CJ v2 A::l) τ5:=h15.re
  have hsr:D5 1 (.slice (some ⟨bl2,0,none⟩) 1 1) τ5=some (1,[.map (some nb)]):=by rw [FO (h16.row 1 rfl) (by simp)]; rfl
  refine DR h16 0 rfl hsr (by omega) (by omega) rfl ?_
  intro mv' τ6 h17
  simp only [List.set_cons_zero] at h17
  refine k48 hi (h1 rv' mv' τ6 ⟨_,G,roots++[root],ms++[(nb,V)],Ls++[Lx],hF1,⟨by simp [hR.len],fun j p M2 hj hM2=>?_⟩,by simp; omega,by simp; omega,?_⟩)
  ·rw [List.getElem?_append] at hj hM2
   by_cases hlt:j<ms.length
   ·rw [if_pos hlt] at hj; rw [if_pos (by rw [← hR.len]; exact hlt)] at hM2
    exact hR.rp j p M2 hj hM2
   ·rw [if_neg hlt] at hj; rw [if_neg (by rw [← hR.len]; exact hlt)] at hM2
    rw [← hR.len] at hM2
    match hi2:j - ms.length with
    | 0 =>
      rw [hi2] at hj hM2
      simp only [List.getElem?_cons_zero,Option.some.injEq] at hj hM2
      subst hj; subst hM2
      exact ⟨fun k=>by rw [zA hP hnd,hrep.get],by rw [hP.length_eq,hrep.len]⟩
    | j'+1=>rw [hi2] at hj; simp at hj
  ·have h18:H (GK .u64 nb V::E4 ms::AU AI 1 mv' (roots.length+1) (JR ms++[.map (some nb)])::AU AJ 1 rv' (roots++[root]).length (uv (roots++[root]))::A3 sb rb T' M::pt xb (.cells [.pointer (some ⟨rb,0,none⟩),.pointer (some ⟨sb,0,none⟩)] AM false)::CJ v2 A::l) τ6:=h17.re
   have h19:=xF h18
   have h20:H (A3 sb rb T' M::AU AJ 1 rv' (roots++[root]).length (uv (roots++[root]))::AU AI 1 mv' (roots.length+1) (JR ms++[.map (some nb)])::E4 (ms++[(nb,V)])::pt xb (.cells [.pointer (some ⟨rb,0,none⟩),.pointer (some ⟨sb,0,none⟩)] AM false)::CJ v2 A::l) τ6:=h19.re
   have h21:=B8 (N:=M+300) (by omega) h20
   unfold sN
   rw [show JR (ms++[(nb,V)])=JR ms++[.map (some nb)] by simp [JR],show (roots++[root]).length=roots.length+1 by simp]
   rw [show (roots++[root]).length=roots.length+1 by simp] at h21
   exact h21.re
 ·intro R1 p R2 τ1 hRR h11 he
  subst hRR
  simp only
  have x0:QX (.tuple #[.bool true,.int .u64 (p.1:Nat),p.2]) 0=some (.bool true):=rfl
  rw [x0,BR]
  refine G8 rfl ?_
  have hpm:p∈ml:=hP.mem_iff.1 (by simp)
  obtain ⟨k,v⟩:=p
  have hgv:=lX hnd hpm
  obtain ⟨x,hx⟩:∃ x:Nat,v=.int .u64 x:=by
   have:=hrep.get k
   rw [hgv] at this
   cases hl:GN k Lx with
   | none=>rw [hl] at this; cases this
   | some x=>rw [hl] at this; exact ⟨x,by simpa using this⟩
  subst hx
  rw [he,AD,lK,AH,iU,AH]
  have h12:H (GK .u64 nb V::dJ .u64 it mb ml (R1++R2)::E4 (ms.eraseIdx at')::A3 sb rb T' M::pt bb (.cells [.int .i64 wi,.int .u64 (key:Nat),.int .u64 (a:Nat)] BJ false)::AU AJ 1 rv roots.length (uv roots)::AU AI 1 mv roots.length (JR ms)::pt xb (.cells [.pointer (some ⟨rb,0,none⟩),.pointer (some ⟨sb,0,none⟩)] AM false)::CJ v2 A::l) τ1:=h11.re
  refine dX h12 pM fun τ3 h13=>?_
  have hnV:JV V k=none:=RH fun q hq e=>by
   have:=(hP.map (·.1)).nodup_iff.2 hnd
   rw [List.map_append,List.nodup_append] at this
   exact this.2.2 q.1 (List.mem_map_of_mem hq) k (by simp) e
  rw [iL hnV] at h13
  refine ⟨(R1++R2).length,by simp,R1++R2,V++[(k,.int .u64 (x:Nat))],rfl,?_,h13.re⟩
  refine List.Perm.trans ?_ hP
  simp only [List.append_assoc]
  refine List.Perm.append_left V ?_
  simp only [List.cons_append,List.nil_append]
  exact List.perm_middle.symm
theorem AEE {N1:Value→Value→Int→Int→AHeap→Prop} {bb key a i:Nat} {bl wi:Int} {n276:Value} {nal:Int} (hM:M≤50000000000) (hi:i<1000000) {T:TS} {G:Gh} {roots:List Nat} {ms:List (Nat×HS)} {Ls:List (List KV)}
 (hF:Q8 N T G roots Ls c) (hR:zN ms Ls) (hat:at'<roots.length) (hr8:roots.length≤8) (ha:a<18446744073709551616) (hw:wi≠1∧wi≠2∧wi≠3)
 (h:H (pt bb (.cells [.int .i64 wi,.int .u64 (key:Nat),.int .u64 (a:Nat)] BJ false)::sN rv mv roots ms xb rb sb T M v2 A l) σ)
 (h1:∀ (at2:Nat) σ',TmS N xb rb sb v2 A l c (M+300) rv mv at2 σ'→N1 rv mv at2 ((i+1:Nat):Int) σ') :
 BI N1 E Q false bb bl (.pointer (some ⟨xb,0,none⟩)) rv mv at' n276 nal i wi σ:=by
 unfold BI
 refine B7 rfl ?_
 refine AS (fun g=>absurd g hw.1) fun _=>?_
 refine AS (fun g=>absurd g hw.2.1) fun _=>?_
 refine AS (fun g=>absurd g hw.2.2) fun _=>?_
 have hs:H (A3 sb rb T M::AU AJ 1 rv roots.length (uv roots)::AU AI 1 mv roots.length (JR ms)::E4 ms::pt xb (.cells [.pointer (some ⟨rb,0,none⟩),.pointer (some ⟨sb,0,none⟩)] AM false)::CJ v2 A::l) σ:=h.re
 have fin:∀ at2 T' τ,at2<roots.length→Q8 N T' G roots Ls c→H (A3 sb rb T' M::AU AJ 1 rv roots.length (uv roots)::AU AI 1 mv roots.length (JR ms)::E4 ms::pt xb (.cells [.pointer (some ⟨rb,0,none⟩),.pointer (some ⟨sb,0,none⟩)] AM false)::CJ v2 A::l) τ→BM N1 E Q i bl (.pointer (some ⟨xb,0,none⟩)) rv mv at2 τ:=by
  intro at2 T' τ hat2 hF2 h2
  refine k48 hi (h1 at2 τ ⟨T',G,roots,ms,Ls,hF2,hR,hat2,hr8,?_⟩)
  exact (B8 (N:=M+300) (by omega) h2).re
 refine AS (fun _=>?_) fun _=>?_
 ·rw [LI h]
  have hro:H (AU AJ 1 rv roots.length (uv roots)::l) σ:=h.re
  rw [R8 hro,AH]
  refine PQ (roots.length:Int) (by omega) ?_
  rw [ACd,if_neg (by omega),AH]
  have hlt:=Nat.mod_lt a (show 0<roots.length by omega)
  refine E1 ((a % roots.length:Nat):Int) ⟨rfl,by omega,by omega⟩ ?_
  exact fin _ T σ hlt hF hs
 ·refine AS (fun _=>?_) fun _=>fin _ T σ hat hF hs
  (try simp only [ED,AD,AO,Nat.zero_add])
  rw [Ld h,AD]
  refine ABm hs rfl fun τ1 h2=>?_
  rw [A9]
  exact fin _ _ τ1 hat hF.commit h2
end
end Go.Ax.C
set_option maxRecDepth 100000
namespace Go.Ax.C
open Go.Proofs Go.RowKit O
variable {l r r2 m:List AK} {σ:AHeap} {Q:RK}
theorem ACE {sb rb a x:Nat} {T:TS} {M:Nat} (h:H (A3 sb rb T M::l) σ) {v:Value} (hv:v=.pointer (some ⟨rb,0,none⟩)) (ha:T.now[a]?=some x) (hQ:Q (.ret (.int .i64 (x:Nat))) σ):E EN [v,.int .i64 (a:Nat)] σ Q:=by
 subst hv
 obtain ⟨cb,dv,K,C,D,hok,h2⟩:=PV.1 h
 exact oE h2.tail ha hQ
section
variable {N xb rb sb c M at':Nat} {v2 rv mv:Value} {A:List TP}
set_option maxHeartbeats 1000000 in
theorem ADH (hN:N≤1024) (hN2:2≤N) (hc:c≤10000) (hM:M≤50000000000) (h:TmS N xb rb sb v2 A l c M rv mv at' σ) (hQ:∀ σ',Q (.ret (.bool true)) σ'):F6 E Q (.pointer (some ⟨xb,0,none⟩)) rv mv N σ:=by
 obtain ⟨T,G,roots,ms,Ls,hF,hR,hat,hr8,h⟩:=h
 unfold F6
 refine AGe hF.inv hN hN2 (hF.g0 0 (by simp)) (hF.g0 1 (by simp)) ⟨by rw [hR.len,hF.len],hF.len,hF.tr,hR.rp⟩ hr8 hc (by omega) h ?_
 intro cv σ1 h1
 rw [BS,C8]
 refine B7 rfl ?_
 rw [R8 h1,AH]
 refine ⟨fun m i τ=>∃ k:Nat,i=k∧m=N - k∧k≤N∧H (AU BQ 1 cv N (iv T.now)::AU AJ 1 rv roots.length (uv roots)::AU AI 1 mv roots.length (JR ms)::E4 ms::pt xb (.cells [.pointer (some ⟨rb,0,none⟩),.pointer (some ⟨sb,0,none⟩)] AM false)::A3 sb rb T (M+80*10000)::CJ v2 A::l) τ,
  ⟨_,0,rfl,rfl,by omega,h1⟩,?_⟩
 clear h h1
 rintro m _ τ ⟨k,rfl,hmk,hk,h⟩
 unfold OI
 refine AS (fun g=>?_) fun g=>hQ τ
 have hkN:k<N:=by omega
 obtain ⟨q,i1,l1,_⟩:=dK h hkN hF.inv.n1
 rw [i1,AD,l1,AH]
 (try simp only [ED,AD,AO,Nat.zero_add])
 rw [Ld h,AD]
 obtain ⟨x,hx⟩:=GH (xs:=T.now) (i:=k) (by rw [hF.inv.n1]; exact hkN)
 have hs:H (A3 sb rb T (M+80*10000)::l) τ:=h.re
 refine ACE hs rfl hx ?_
 rw [A9]
 have hgd:T.now.getD k 0=x:=by rw [List.getD_eq_getElem?_getD,hx]; rfl
 rw [hgd]
 refine CA (fun g=>absurd rfl g) fun _=>?_
 refine E1 ((k+1:Nat):Int) (by omega) ?_
 exact ⟨N - (k+1),by omega,k+1,rfl,rfl,by omega,h⟩
end
set_option maxHeartbeats 2000000 in
theorem rE {v2:Value} {A:List TP} {blocks room:Int} (h:H (CJ v2 A::l) σ) (hQ:∀ σ',Q (.ret (.bool true)) σ'):E R4 [.int .i64 blocks,.int .i64 room,v2] σ Q:=by
 apply bL; unfold RJ
 refine ACm h ?_
 intro σ1 h1
 rw [GY]
 refine B7 rfl ?_
 have r1:=aG blocks
 have r2:=rI r1.1 (k:=340) (by omega)
 obtain ⟨j,hj⟩:∃ j:Nat,Int.tmod (HW blocks) 340=j:=⟨(Int.tmod (HW blocks) 340).toNat,by omega⟩
 have q1:=aG room
 have q2:=rI q1.1 (k:=12) (by omega)
 obtain ⟨j2,hj2⟩:∃ j2:Nat,Int.tmod (HW room) 12=j2:=⟨(Int.tmod (HW room) 12).toNat,by omega⟩
 refine bi rfl ?_
 refine bi hj ?_
 refine E1 (j:Int) (by omega) ?_
 refine E1 ((60+j:Nat):Int) (by omega) ?_
 refine bi rfl ?_
 refine bi hj2 ?_
 refine E1 (j2:Int) (by omega) ?_
 refine E1 ((1+j2:Nat):Int) (by omega) ?_
 refine ADL (n:=60+j) (k:=1+j2) h1 (by omega) (by omega) ?_
 intro xb rb sb σ2 h2
 rw [CC,UY,BR]
 refine B7 rfl ?_
 refine nw h2 ?_
 intro b1 σ3 h3
 refine qU (k:=.u64) h3 (by rfl) ?_
 intro mb σ4 h4
 simp only []
 refine E5 rfl ?_
 refine nw h4 ?_
 intro b2 σ5 h5
 have hac:H (CJ v2 A::l) σ5:=h5.re
 rw [uG hac,AH]
 have hlen:A.length<4611686018427387904:=by
  rcases cC.1 hac with ⟨⟨_,hx⟩,_⟩ | ⟨_,_,_,_,_,_,_,_,_,_,hb⟩
  ·have:A.length=0:=by rcases hx with h | h<;>simp_all
   omega
  ·unfold reachBytes at hb; omega
 generalize hNj:60+j=N at *
 have o1:=h5.to_own 0 (z:=1) (n:=1) rfl rfl (by unfold A4; omega)
 simp only [List.set_cons_zero] at o1
 have o2:H (pt b1 (.cells [.int .u64 0] AJ false)::GK .u64 mb []::AU AI 1 (.slice (some ⟨b2,0,none⟩) 1 1) 1 [.map (some mb)]::pt xb (.cells [.pointer (some ⟨rb,0,none⟩),.pointer (some ⟨sb,0,none⟩)] AM false)::A3 sb rb (TS.new N) 0::CJ v2 A::l) σ5:=o1.re
 have o3:=o2.to_own 0 (z:=1) (n:=1) rfl rfl (by unfold A4; omega)
 simp only [List.set_cons_zero] at o3
 rw [show ([Value.int .u64 0]:List Value)=uv [0] from rfl] at o3
 have o4:H (GK .u64 mb []::E4 []::AU AJ 1 (.slice (some ⟨b1,0,none⟩) 1 1) 1 (uv [0])::AU AI 1 (.slice (some ⟨b2,0,none⟩) 1 1) 1 [.map (some mb)]::pt xb (.cells [.pointer (some ⟨rb,0,none⟩),.pointer (some ⟨sb,0,none⟩)] AM false)::A3 sb rb (TS.new N) 0::CJ v2 A::l) σ5:=by
  have o5:H (GK .u64 mb []::AU AJ 1 (.slice (some ⟨b1,0,none⟩) 1 1) 1 (uv [0])::AU AI 1 (.slice (some ⟨b2,0,none⟩) 1 1) 1 [.map (some mb)]::pt xb (.cells [.pointer (some ⟨rb,0,none⟩),.pointer (some ⟨sb,0,none⟩)] AM false)::A3 sb rb (TS.new N) 0::CJ v2 A::l) σ5:=o3.re
  exact ((A8 (l:=[])).2 o5).perm (.swap _ _ _)
 have o6:=xF o4
 rw [List.nil_append] at o6
 have o7:H (sN (.slice (some ⟨b1,0,none⟩) 1 1) (.slice (some ⟨b2,0,none⟩) 1 1) [0] [(mb,[])] xb rb sb (TS.new N) (20000*0) v2 A l) σ5:=by
  unfold sN
  exact (o6.re:H (AU AJ 1 (.slice (some ⟨b1,0,none⟩) 1 1) 1 (uv [0])::AU AI 1 (.slice (some ⟨b2,0,none⟩) 1 1) 1 [.map (some mb)]::E4 [(mb,[])]::pt xb (.cells [.pointer (some ⟨rb,0,none⟩),.pointer (some ⟨sb,0,none⟩)] AM false)::A3 sb rb (TS.new N) 0::CJ v2 A::l) σ5)
 refine ⟨fun m rv mv a i τ=>∃ k at',i=(k:Nat)∧a=(at':Nat)∧m=121 - k∧k≤120∧k≤A.length∧TmS N xb rb sb v2 A l (40*k) (20000*k) rv mv at' τ,
  ⟨_,0,0,rfl,rfl,rfl,by omega,by omega,TS.new N,_,[0],[(mb,[])],[[]],(Q8.new (by omega)).mono (by omega),⟨rfl,fun i p L hi hL=>?_⟩,by simp,by simp,o7⟩,?_⟩
 ·match i with
  | 0 =>
    simp only [List.getElem?_cons_zero,Option.some.injEq] at hi hL
    subst hi; subst hL
    exact ⟨fun k=>rfl,rfl⟩
  | i+1=>simp at hi
 clear h h1 h2 h3 h4 h5 o1 o2 o3 o4 o6 o7 hac
 rintro m rv mv _ _ τ ⟨k,at',rfl,rfl,hm,hk,hkl,hT⟩
 unfold OH
 refine AS (fun g=>?_) fun _=>ADH (by omega) (by omega) (by omega) (by omega) hT hQ
 obtain ⟨a,ha⟩:=GH (xs:=A) (i:=k) (by omega)
 have hT0:=hT
 obtain ⟨T,G,roots,ms,Ls,hF,hR,hat,hr8,h⟩:=hT
 obtain ⟨b,ia,hk64,ha64,l0,l1,l2⟩:=s9 (l:=l) (h.re:H (CJ v2 A::l) τ) ha
 rw [ia,AD]
 (try simp only [AD,AO])
 rw [l0,AH,l1,AH,l2,AH]
 refine nw h ?_
 intro bb τ1 h1
 refine VJ (vs:=[.int .i64 a.w,.int .u64 (a.key:Nat),.int .u64 (a.at':Nat)]) h1 0 rfl rfl (by omega) rfl (by simp) ?_
 intro τ2 h2
 have h3:H (pt bb (.cells [.int .i64 a.w,.int .u64 (a.key:Nat),.int .u64 (a.at':Nat)] BJ false)::sN rv mv roots ms xb rb sb T (20000*k) v2 A l) τ2:=h2
 refine AS (fun g2=>?_) fun g2=>?_
 ·exact ADH (by omega) (by omega) (by omega) (by omega) ⟨T,G,roots,ms,Ls,hF,hR,hat,hr8,h3.tail⟩ hQ
 have nx:∀ rv mv (at2:Nat) (c M:Nat) τ',c≤40*(k+1)→M≤20000*(k+1)→TmS N xb rb sb v2 A l c M rv mv at2 τ'→∃ m',m'<m∧∃ k' at',((k+1:Nat):Int)=(k':Nat)∧((at2:Nat):Int)=(at':Nat)∧m'=121 - k'∧k'≤120∧k'≤A.length∧TmS N xb rb sb v2 A l (40*k') (20000*k') rv mv at' τ':=by
  intro rv mv at2 c M τ' hc hM hT
  obtain ⟨T,G,roots,ms,Ls,hF,hR,hat,hr8,h⟩:=hT
  refine ⟨121 - (k+1),by omega,k+1,at2,rfl,rfl,rfl,by omega,by omega,T,G,roots,ms,Ls,hF.mono hc,hR,hat,hr8,?_⟩
  have h4:H (A3 sb rb T M::AU AJ 1 rv roots.length (uv roots)::AU AI 1 mv roots.length (JR ms)::E4 ms::pt xb (.cells [.pointer (some ⟨rb,0,none⟩),.pointer (some ⟨sb,0,none⟩)] AM false)::CJ v2 A::l) τ':=h.re
  exact (B8 (N:=20000*(k+1)) hM h4).re
 rw [LI h3]
 have hN:N≤1024:=by omega
 have hrun:∀ n:Nat,n≤40→EI (fun v48 v49 n50 n51 σ'=>∃ m',m'<m∧∃ k at',n51=(k:Nat)∧n50=(at':Nat)∧m'=121 - k∧k≤120∧k≤A.length∧TmS N xb rb sb v2 A l (40*k) (20000*k) v48 v49 at' σ') E Q n N (.pointer (some ⟨xb,0,none⟩)) rv mv at' bb v2 A.length k τ2:=fun n hn =>
  AFg hN (by omega) hk64 (by omega) hn hF hR hat hr8 h3 hQ fun σ' hT=>nx rv mv at' _ _ σ' (by omega) (by omega) hT
 have hins:(a.w=0∨a.w=6)→BI (fun v48 v49 n50 n51 σ'=>∃ m',m'<m∧∃ k at',n51=(k:Nat)∧n50=(at':Nat)∧m'=121 - k∧k≤120∧k≤A.length∧TmS N xb rb sb v2 A l (40*k) (20000*k) v48 v49 at' σ') E Q true bb N (.pointer (some ⟨xb,0,none⟩)) rv mv at' v2 A.length k a.w τ2:=fun hw=>by
  unfold BI
  refine G8 rfl ?_
  rw [LI h3]
  refine AS (fun g6=>?_) fun g6=>hrun 1 (by omega)
  rw [LI h3]
  have hlt:=Nat.mod_lt a.at' (show 0<40 by omega)
  refine bi (m:=((a.at' % 40:Nat):Int)) rfl ?_
  refine PQ ((1+a.at' % 40:Nat):Int) (by omega) ?_
  exact hrun _ (by omega)
 refine AS (fun g0=>?_) fun g0=>?_
 ·rw [decide_eq_true g0]; exact hins (.inl g0)
 ·by_cases g6:a.w=6
  ·rw [decide_eq_true g6]; exact hins (.inr g6)
  rw [decide_eq_false g6]
  generalize a.w=wi at *
  by_cases w1:wi=1
  ·subst w1
   exact AFm hN (by omega) hk64 (by omega) hF hR hat hr8 h3 hQ fun σ' hT=>nx rv mv at' _ _ σ' (by omega) (by omega) hT
  by_cases w2:wi=2
  ·subst w2
   exact AEG hN (by omega) hk64 (by omega) hF hR hat hr8 h3 fun σ' hT=>nx rv mv at' _ _ σ' (by omega) (by omega) hT
  by_cases w3:wi=3
  ·subst w3
   exact ADn (by omega) (by omega) hF hR hN hat hr8 h3 fun rv mv σ' hT=>nx rv mv at' _ _ σ' (by omega) (by omega) hT
  exact AEE (by omega) (by omega) hF hR hat hr8 ha64 ⟨w1,w2,w3⟩ h3 fun at2 σ' hT=>nx rv mv at2 _ _ σ' (by omega) (by omega) hT
end Go.Ax.C
/- Proved: 'TreeMaps' returns true,for every input; no condition. By a calculus of weakest preconditions over an abstract heap,which is sound for the machine. -/
namespace Go.Proofs.YtcnceningjookaaGreat.treeMaps
open Go.ChangeShapes Go.WideShapes Go.ChangeAt Go.RowKit
set_option linter.unusedVariables false
set_option maxRecDepth 100000
theorem CB:ownKnob Tryz.prog.godebug=none:=by kernel_rfl
def AGr:Array Field:=#[{ name:="What",type:=3,offset:=0,embedded:=false,tag:="",pkgPath:="",byteOffset:=0 },{ name:="Key",type:=25,offset:=1,embedded:=false,tag:="",pkgPath:="",byteOffset:=8 },{ name:="At",type:=25,offset:=2,embedded:=false,tag:="",pkgPath:="",byteOffset:=16 }]
theorem AGh:Ax.IW Tryz.prog 59 Ax.C.AAt:=by
 refine Ax.IW.imp (fun m:Int×Nat×Nat×Unit=>(⟨m.1,m.2.1,m.2.2.1⟩:Ax.C.TP)) (Ax.IW.struct (fs:=AGr) (tot:=1+(1+(1+(0)))) (by kernel_rfl) (by kernel_rfl) (Ax.jN.cons (z:=1) rfl (by kernel_rfl) (Ax.IW.i64 (by kernel_rfl) (by kernel_rfl))<|Ax.jN.cons (z:=1) rfl (by kernel_rfl) (Ax.IW.u64 (by kernel_rfl) (by kernel_rfl))<|Ax.jN.cons (z:=1) rfl (by kernel_rfl) (Ax.IW.u64 (by kernel_rfl) (by kernel_rfl))<|Ax.jN.nil 3)) ?_
 intro cs m l σ h
 obtain ⟨⟨c0,r0⟩,h⟩:=Ax.JM.1 h
 rw [Ax.BB] at h
 obtain ⟨⟨e0,l0⟩,h⟩:=Ax.BK.1 h
 have e0:cs=c0++r0:=e0
 rw [Ax.BB] at h
 obtain ⟨q0,h⟩:=Ax.BK.1 h
 obtain ⟨q0,b0⟩:=q0
 have q0:c0=_:=q0
 clear l0
 obtain ⟨⟨c1,r1⟩,h⟩:=Ax.JM.1 h
 rw [Ax.BB] at h
 obtain ⟨⟨e1,l1⟩,h⟩:=Ax.BK.1 h
 have e1:r0=c1++r1:=e1
 rw [Ax.BB] at h
 obtain ⟨q1,h⟩:=Ax.BK.1 h
 obtain ⟨q1,b1⟩:=q1
 have q1:c1=_:=q1
 clear l1
 obtain ⟨⟨c2,r2⟩,h⟩:=Ax.JM.1 h
 rw [Ax.BB] at h
 obtain ⟨⟨e2,l2⟩,h⟩:=Ax.BK.1 h
 have e2:r1=c2++r2:=e2
 rw [Ax.BB] at h
 obtain ⟨q2,h⟩:=Ax.BK.1 h
 obtain ⟨q2,b2⟩:=q2
 have q2:c2=_:=q2
 clear l2
 obtain ⟨qn,h⟩:=Ax.BK.1 h
 have qn:r2=[]:=qn
 exact Ax.BK.2 ⟨⟨(by rw [e0,q0,e1,q1,e2,q2,qn]; rfl),b1,b2⟩,h⟩
theorem AGC:Ax.IW Tryz.prog 55 (M:=List Ax.C.TP) fun cs x=>Ax.ex fun v=>Ax.sep (Ax.HZ (cs=[v])) (Ax.C.CJ v x) :=
 Ax.IW.rows (t:=55) (e:=59) (z:=3) (by':=24) (by kernel_rfl) (by kernel_rfl) (by kernel_rfl) (by kernel_rfl) (by decide) AGh
theorem t0T:Ax.IW Tryz.prog 3 Ax.ADf:=Ax.IW.i64 (by kernel_rfl) (by kernel_rfl)
theorem t1T:Ax.IW Tryz.prog 3 Ax.ADf:=Ax.IW.i64 (by kernel_rfl) (by kernel_rfl)
theorem AGn {H:Type} {enc:TypeId×Value→H} {W:World} {base:Nat} {v0 v1 v2:Value} {x0 x1 x2:DataW H} {p0 p1 p2:List MemPlace} (o0:Value.okWide Tryz.prog W .any base 3 v0) (o1:Value.okWide Tryz.prog W .any base 3 v1) (o2:∃ a l c,v2=.slice a l c) (h0:DataW.Trod enc Tryz.prog W 0 (fun _=>true) true 3 v0 x0 p0) (h1:DataW.Trod enc Tryz.prog W 0 (fun _=>true) true 3 v1 x1 p1) (h2:DataW.Trod enc Tryz.prog W 0 (fun _=>true) true 55 v2 x2 p2) (hw:(DataW.weightsEach Tryz.prog [3,3,55] [x0,x1,x2]).all (·≤reachBytes)=true) :
 Calls Tryz.prog 5 #[v0,v1,v2] W fun e w'=>e=.returned (.bool true)∧Below W.heap.size W w':=by
 obtain ⟨n0,h0⟩:=h0
 obtain ⟨n1,h1⟩:=h1
 obtain ⟨n2,h2⟩:=h2
 obtain ⟨k0,rfl⟩:=okWide_int (show Tryz.prog.underlying 3=some (.int .i64) by kernel_rfl) o0
 obtain ⟨k1,rfl⟩:=okWide_int (show Tryz.prog.underlying 3=some (.int .i64) by kernel_rfl) o1
 obtain ⟨sa2,sl2,sc2,rfl⟩:=o2
 simp only [List.all_eq_true,DataW.weightsEach,List.mem_append,List.append_nil,decide_eq_true_eq] at hw
 obtain ⟨ρ0,σ0,c0,m0,q0_1,q0_2,q0_3,q0_4,q0_5⟩:=t0T (Ax.CF.start W) h0 fun w hm=>hw w (.inl hm)
 obtain ⟨ρ1,σ1,c1,m1,q1_1,q1_2,q1_3,q1_4,q1_5⟩:=t1T q0_2 h1 fun w hm=>hw w (.inr (.inl hm))
 obtain ⟨ρ2,σ2,c2,m2,q2_1,q2_2,q2_3,q2_4,q2_5⟩:=AGC q1_2 h2 fun w hm=>hw w (.inr (.inr hm))
 have hg0:=q2_5 _ (q1_5 _ (q0_5 [] (Ax.H.nil _)))
 obtain ⟨w2,hg1⟩:=Ax.JM.1 hg0
 rw [Ax.BB] at hg1
 obtain ⟨e2,hg2⟩:=Ax.BK.1 hg1
 subst e2
 have hg3:=hg2.snoc
 simp only [List.cons_append,List.nil_append] at hg3
 obtain ⟨⟨e1,hi1⟩,hg4⟩:=Ax.BK.1 hg3
 subst e1
 obtain ⟨⟨e0,hi0⟩,hg5⟩:=Ax.BK.1 hg4
 subst e0
 have hh:=hg5
 have ha:Ax.LR ρ2 [.int .i64 m0,.int .i64 m1,w2] [.int .i64 k0,.int .i64 k1,.slice sa2 sl2 sc2]:=((((q0_3.mono q1_1).append q1_3).mono q2_1).append q2_3)
 refine Ax.Ev.law Tryz.func5 (by kernel_rfl) q2_2 ha ?_
 rw [← Ax.C.j6]
 exact Ax.C.rE hh fun _=>rfl
theorem ADv (os:Os) (started:os.Started) (H:Type) (enc:TypeId×Value→H) :
 ReturnsInHanded {} Tryz.checked os 5 .any (Rows.treeMapsSpec.pre6 enc Tryz.prog Tryz.f5 Rows.treeMapsRow.domain false) (Rows.treeMapsSpec.post enc Tryz.prog Tryz.f5 false true false false):=by
 refine returnsInHanded_of_change_sized (C:=Tryz.checked) CB started (by kernel_rfl) Tryz.func5
  (ChangeSpec.witness6 (enc:=enc) (C:=Tryz.checked) false ⟨#[],#[.int .i64 0,.int .i64 0,.slice none 0 0],[]⟩ 8 (by kernel_rfl) (by kernel_rfl) (by kernel_rfl) (by kernel_rfl)) ?_
 intro W base args ds gs before hval0 hW hcnd hwt _
 have hW':=hW
 obtain ⟨p,q,hA0,hV,rfl,hfz,hnd⟩:=hW
 have hA:DataW.TrodAll enc Tryz.prog W 0 (fun _=>true) true Tryz.f5.params.toList args.toList ds p:=hA0
 have hval:∀ (j:Nat) t v,Tryz.f5.params[j]?=some t→args[j]?=some v→Value.okWide Tryz.prog W .any base t v:=hval0
 have hA1:=hA
 rw [Tryz.params5] at hA1 hval
 obtain ⟨v0,vs0,d0,ds0,p0,q0,hargs,rfl,rfl,h0,r0⟩:=trodAll_cons hA1
 obtain ⟨v1,vs1,d1,ds1,p1,q1,rfl,rfl,rfl,h1,r1⟩:=trodAll_cons r0
 obtain ⟨v2,vs2,d2,ds2,p2,q2,rfl,rfl,rfl,h2,r2⟩:=trodAll_cons r1
 obtain ⟨rfl,rfl,rfl⟩:=trodAll_nil r2
 obtain rfl:args=#[v0,v1,v2]:=by cases args; simp_all
 obtain ⟨rfl,rfl⟩:=trodVars_none hV
 clear hA0 hval0
 refine (AGn (base:=base) (hval 0 3 v0 rfl rfl) (hval 1 3 v1 rfl rfl) (okWide_slice (show Tryz.prog.underlying 55=some (.slice 59) by kernel_rfl) (hval 2 55 v2 rfl rfl)) h0 h1 h2 (by
  have e:Tryz.f5.params.toList++Rows.treeMapsSpec.plain.varTypes Tryz.checked.prog=[3,3,55]:=by rw [Tryz.params5]; rfl
  rw [e] at hwt
  exact hwt)).mono fun e W' ⟨he,hb⟩=>?_
 subst he
 refine ⟨_,rfl,⟨_,[],_,[],(p0++(p1++(p2++[]))),[],hW',trodAll_cons_mk (shut_bool Tryz.underlying4 _) trodAll_mk0,?_,rfl,hb.frame _,fun h=>by cases h⟩⟩
 refine Ax.XT (by kernel_rfl) (by kernel_rfl) (by kernel_rfl) hb (fun t ht=>of_decide_eq_true (List.all_eq_true.1 (show (Tryz.f5.params.toList.all fun t=>decide (t<Tryz.checked.prog.types.size))=true by kernel_rfl) t ht)) hA ?_
 intro x hx
 simpa using hA.lt x hx
theorem SL:Rows.treeMapsRow.holds Tryz.pinned (OpenSpec.ofChange Rows.treeMapsSpec) :=
 OpenClaim.holds_of_wide 5 Tryz.f5 rfl rfl rfl rfl rfl rfl rfl ⟨rfl,rfl,rfl,rfl,rfl⟩ rfl rfl rfl rfl rfl (by kernel_rfl) Tryz.func5 (by kernel_rfl)
  (of_decide_eq_true (by kernel_rfl)) (by unfold Func.isWrapper; first | (rw [if_pos (by decide +kernel)]; kernel_rfl) | (rw [if_neg (by decide +kernel)]; exact ⟨rfl,rfl⟩))
  (fun os started H enc _=>ADv os started H enc)
theorem proved:Rows.TreeMapsSaid:=SL
#print axioms proved
end Go.Proofs.YtcnceningjookaaGreat.treeMaps
