/- Texts of one proof,joined. No statement of the seat is proved here. -/
import Derived.Test.YtcnceningjookaaGreatTe4
import Derived.Lib.Overlaps
set_option linter.unusedVariables false
set_option linter.unusedSimpArgs false
set_option linter.unnecessarySimpa false
set_option linter.constructorNameAsVariable false
set_option maxRecDepth 100000
namespace Go.Ax.O
open Go.Proofs Go.RowKit
variable {l m:List AJ} {σ:AHeap} {Q:WK}
section
variable {cb nn now mb n:Nat} {dv rowv:Value} {R M A B:List G6} {I0:AJ} {D:DM}
theorem NK:H (CO cb dv nn now mb rowv R M (AW [Disk dv D,I0])) σ↔H [pt cb (.cells [dv,.int .i64 nn,.int .u64 now,.map (some mb),rowv] AU false),A5 AK 1 rowv R.length (DA R),AW (A8 0 R),GJ mb (pairs M),Disk dv D,I0] σ:=by
 constructor
 ·intro h
  exact ((BC (l:=[Disk dv D,I0])).1 (h.pick [4,0,1,2,3] (by decide):H [AW [Disk dv D,I0],_,_,_,_] σ)).pick [2,3,4,5,0,1] (by decide)
 ·intro h
  have h1:H [Disk dv D,I0,pt cb (.cells [dv,.int .i64 nn,.int .u64 now,.map (some mb),rowv] AU false),A5 AK 1 rowv R.length (DA R),AW (A8 0 R),GJ mb (pairs M)] σ:=h.pick [4,5,0,1,2,3] (by decide)
  exact ((BC (l:=[Disk dv D,I0])).2 h1).pick [1,2,3,4,0] (by decide)
theorem eH (h:H l σ) (i:Nat) (hi:l[i]?=some (Disk dv D)):∃ b,dv=.pointer (some ⟨b,0,none⟩):=by
 obtain ⟨b,_,_,_,e,_⟩:=MK (h.out i hi); exact ⟨b,e⟩
theorem VB {a:Nat} (h:H (CO cb dv nn now mb rowv R M (AW [Disk dv D,I0])) σ) (hD:DPlain D n) (ha:a<n) (hQ:Q (.int .i64 0) σ):E EH [.pointer (some ⟨cb,0,none⟩),.int .i64 a] σ Q:=by
 have h1:=NK.1 h
 obtain ⟨db,hdb⟩:=eH h1 4 rfl
 have hlen:=hD.ok.len
 have hn2:=hD.ok.hi
 apply JO; unfold F6
 have c0:=BK (n:=1) (o:=0) (h1.row 0 rfl)
 simp [c0]
 rw [hdb]
 simp
 unfold DE
 simp [c0]
 refine yK h1 4 rfl ?_
 rw [hD.off]
 have hna:¬ (a:Int)<0:=by omega
 simp [hna,c0]
 refine UW h1 4 rfl (by omega) ?_
 have:D.last.length / 256=n:=by omega
 rw [this]
 have hnn:¬ n≤a:=by omega
 unfold C4
 simpa [hnn] using hQ
theorem tN {x:G6} (h:H (CO cb dv nn now mb rowv R (A++x::B) I0) σ) (hc:SY R (A++x::B) now) (hnow:now+1<18446744073709551616) (hb:R.length<1099511627776) (hxb:x.b.length=256)
 (hQ:∀ R' w σ',SY R' (A++B++[{ x with used:=now+1 }]) (now+1)→H (CO cb dv nn (now+1) mb rowv R' (A++B++[{ x with used:=now+1 }]) (AW [I0,A5 AI 1 w 256 (bv x.b)])) σ'→Q (.tuple #[w,.int .i64 0]) σ') :
 E6 Q (.pointer (some ⟨cb,0,none⟩)) (.int .i64 x.pl) σ:=by
 unfold E6
 refine rX h hc hnow hb ?_
 intro R' σ1 hc1 h1
 have hm:{ x with used:=now+1 }∈R':=hc1.perm.mem_iff.2 (by simp)
 obtain ⟨k,hk,hkx⟩:=List.getElem_of_mem hm
 have hk':R'[k]?=some { x with used:=now+1 }:=by rw [List.getElem?_eq_getElem hk,hkx]
 have h2:=KE (h1.pick [2,0,1,3,4] (by decide)) hk'
 unfold BV at h2
 rw [BE,OA (by intro e; simp only at e; rw [e] at hxb; simp at hxb)] at h2
 have r4:=BK (n:=1) (o:=4) (h2.row 0 rfl)
 simp [r4]
 obtain ⟨sb,so,sc,cc,hsv,_⟩:=h2.rob 1 rfl
 simp only at hsv
 have hs:=(h2.rob_rd 1 rfl).src
 simp only at hs
 rw [hsv] at hs ⊢
 rw [hxb] at hs ⊢
 refine L7 h1 hs (by omega) ?_
 intro w σ2 h3
 try simp
 refine hQ R' w σ2 hc1 ?_
 have h4:=(BC (l:=[I0,A5 AI 1 w 256 (bv x.b)])).2 (h3.pick [4,5,0,1,2,3] (by decide))
 exact h4.pick [1,2,3,4,0] (by decide)
end
structure It where
 pl:Nat
 dirty:Bool
 b:List UInt8
structure CM where
 n:Nat
 its:List It
def XF (r:G6):It:=⟨r.pl,r.dirty,r.b⟩
def CacheA (v dv:Value) (K:Nat) (C:CM):AJ:=ex fun p:(Nat×Nat×Nat)×Value×List G6×List G6 =>
 sep (IU (v=.pointer (some ⟨p.1.1,0,none⟩)∧SY p.2.2.1 p.2.2.2 p.1.2.2∧p.2.2.2.map XF=C.its∧p.1.2.2≤K))
  (AW [pt p.1.1 (.cells [dv,.int .i64 C.n,.int .u64 p.1.2.2,.map (some p.1.2.1),p.2.1] AU false),A5 AK 1 p.2.1 p.2.2.1.length (DA p.2.2.1),AW (A8 0 p.2.2.1),GJ p.1.2.1 (pairs p.2.2.2)])
theorem K5 {v dv:Value} {K:Nat} {C:CM} (h:H (CacheA v dv K C::m) σ):∃ cb mb now rowv R M,v=.pointer (some ⟨cb,0,none⟩)∧SY R M now∧M.map XF=C.its∧now≤K∧H (CO cb dv C.n now mb rowv R M (AW m)) σ:=by
 obtain ⟨⟨⟨cb,mb,now⟩,rowv,R,M⟩,h⟩:=KN.1 h
 rw [BE] at h
 obtain ⟨⟨h1,h2,h3,h4⟩,h⟩:=BZ.1 h
 refine ⟨cb,mb,now,rowv,R,M,h1,h2,h3,h4,?_⟩
 have h5:=(BC.1 h).perm List.perm_append_comm
 exact (y7.1 h5).pick [1,2,3,4,0] (by decide)
theorem QJ {dv rowv:Value} {K cb mb now:Nat} {C:CM} {R M:List G6} (h2:SY R M now) (h3:M.map XF=C.its) (h4:now≤K) (h:H (CO cb dv C.n now mb rowv R M (AW m)) σ):H (CacheA (.pointer (some ⟨cb,0,none⟩)) dv K C::m) σ:=by
 refine KN.2 ⟨((cb,mb,now),rowv,R,M),?_⟩
 rw [BE]
 refine BZ.2 ⟨⟨rfl,h2,h3,h4⟩,?_⟩
 rw [BC]
 have h5:H [AW m,pt cb (.cells [dv,.int .i64 C.n,.int .u64 now,.map (some mb),rowv] AU false),A5 AK 1 rowv R.length (DA R),AW (A8 0 R),GJ mb (pairs M)] σ:=h.pick [4,0,1,2,3] (by decide)
 exact (BC.1 h5).perm List.perm_append_comm
end Go.Ax.O
set_option maxRecDepth 100000
namespace Go.Ax.O
open Go.Proofs Go.RowKit
variable {l m:List AJ} {σ:AHeap} {Q:WK}
structure CM.Ok (C:CM) (n:Nat):Prop where
 lo:1≤C.n
 hi:C.n≤1024
 len:C.its.length≤C.n
 it:∀ x∈C.its,x.pl<n∧x.b.length=256
 nd:(C.its.map (·.pl)).Nodup
def aJ (D:DM) (x:It):DM:=if x.dirty then D.fling x.pl x.b else D
def CM.room (C:CM) (D:DM):List It×DM:=if C.its.length<C.n then (C.its,D) else match C.its with
 | []=>([],D)
 | x::l=>(l,aJ D x)
theorem i8 {M:List G6} {A B:List It} {it:It} (h:M.map XF=A++it::B):∃ A' x B',M=A'++x::B'∧A'.map XF=A∧XF x=it∧B'.map XF=B:=by
 obtain ⟨A',T,rfl,h1,h2⟩:=List.map_eq_append_iff.1 h
 obtain ⟨x,B',rfl,h3,h4⟩:=List.map_eq_cons_iff.1 h2
 exact ⟨A',x,B',rfl,h1,h3,h4⟩
theorem AAX {v dv:Value} {K n:Nat} {C:CM} {D:DM} {I0:AJ} {A B:List It} {it:It} (h:H [CacheA v dv K C,Disk dv D,I0] σ) (hC:C.Ok n) (hits:C.its=A++it::B) (hD:DPlain D n) (hK:K+1<18446744073709551616)
 (hQ:∀ w σ',H [CacheA v dv (K+1) { C with its:=A++B++[it] },Disk dv D,I0,A5 AI 1 w 256 (bv it.b)] σ'→Q (.tuple #[w,.int .i64 0]) σ'):E FT [v,.int .i64 it.pl] σ Q:=by
 obtain ⟨cb,mb,now,rowv,R,M,rfl,hc,hM,hnow,h1⟩:=K5 h
 rw [hits] at hM
 obtain ⟨A',x,B',rfl,hA',hx,hB'⟩:=i8 hM
 obtain ⟨hpl,hxb⟩:=hC.it it (by rw [hits]; simp)
 have hl:=hc.perm.length_eq
 have hl2:(A'++x::B').length=C.its.length:=by rw [hits,← hM,List.length_map]
 have hlen:=hC.len
 have hhi:=hC.hi
 have e1:it.pl=x.pl:=by rw [← hx]; rfl
 have e2:it.b=x.b:=by rw [← hx]; rfl
 rw [e1] at hpl ⊢
 apply MH; unfold HP
 refine VB h1 hD hpl ?_
 simp
 have r3:=BK (n:=1) (o:=3) (h1.row 0 rfl)
 simp [r3]
 have hlk:=XN (p:=(x.pl,x.ib)) false h1 (i:=3) rfl (by simp [pairs])
 simp only at hlk
 rw [hlk]
 simp [okV]
 refine tN h1 hc (by omega) (by omega) (by rw [← e2]; exact hxb) ?_
 intro R' w σ1 hc1 h2
 refine hQ w σ1 ?_
 have h3:H [CacheA (.pointer (some ⟨cb,0,none⟩)) dv (K+1) { C with its:=A++B++[it] },AW [Disk dv D,I0],A5 AI 1 w 256 (bv x.b)] σ1:=by
  refine QJ hc1 ?_ (by omega) h2
  simp only [List.map_append,hA',hB',List.map_cons,List.map_nil]
  rw [← hx]; rfl
 rw [e2]
 exact ((BC (l:=[Disk dv D,I0])).1 (h3.pick [1,0,2] (by decide):H (AW [Disk dv D,I0]::[CacheA (.pointer (some ⟨cb,0,none⟩)) dv (K+1) { C with its:=A++B++[it] },A5 AI 1 w 256 (bv x.b)]) σ1)).pick [2,0,1,3] (by decide)
theorem tA {cb mb now n:Nat} {dv rowv:Value} {R M:List G6} {I0:AJ} {D:DM} {C:CM} (h:H (CO cb dv C.n now mb rowv R M (AW [Disk dv D,I0])) σ) (hc:SY R M now) (hM:M.map XF=C.its) (hC:C.Ok n) (hD:DPlain D n) (hm:D.fly.length<1099511627776)
 (hQ:∀ rowv' R' M' σ',SY R' M' now→M'.map XF=(C.room D).1→H (CO cb dv C.n now mb rowv' R' M' (AW [Disk dv (C.room D).2,I0])) σ'→Q (.int .i64 0) σ'):E DU [.pointer (some ⟨cb,0,none⟩)] σ Q:=by
 have hl:=hc.perm.length_eq
 have hl2:M.length=C.its.length:=by rw [← hM,List.length_map]
 have hlen:=hC.len
 have hhi:=hC.hi
 have hlo:=hC.lo
 by_cases hlt:C.its.length<C.n
 ·have e:C.room D=(C.its,D):=by simp [CM.room,hlt]
  rw [e] at hQ
  refine AAZ h (by omega) ?_
  exact hQ rowv R M σ hc hM h
 ·cases M with
  | nil=>simp at hl2; omega
  | cons x M0 =>
    have hM':=hM
    simp only [List.map_cons] at hM'
    have e:C.room D=(M0.map XF,UF D x):=by
     unfold CM.room
     rw [if_neg hlt,← hM']
     rfl
    rw [e] at hQ
    obtain ⟨hpl,hxb⟩:=hC.it (XF x) (by rw [← hM']; simp)
    refine yF h hc (by omega) (by omega) hD hpl hxb hm ?_
    intro rowv' R' σ1 hc1 h1
    exact hQ rowv' R' M0 σ1 hc1 rfl h1
theorem N9 {n:Nat} {D:DM} {C:CM} (hC:C.Ok n) (hD:DPlain D n):DPlain (C.room D).2 n∧(C.room D).2.fly.length≤D.fly.length+4∧(C.room D).1.length<C.n∧(∀ x∈(C.room D).1,x∈C.its)∧((C.room D).1.map (·.pl)).Nodup:=by
 have hlo:=hC.lo
 have hlen:=hC.len
 unfold CM.room
 split
 ·rename_i h
  exact ⟨hD,by simp,h,fun x hx=>hx,hC.nd⟩
 ·rename_i h
  split
  ·rename_i e; rw [e] at h; simp at h; omega
  ·rename_i x l e
   have hx:=hC.it x (by rw [e]; simp)
   have hnd:=hC.nd
   rw [e] at hlen hnd ⊢
   simp only [List.length_cons] at hlen
   simp only [List.map_cons,List.nodup_cons] at hnd
   refine ⟨?_,?_,by show l.length<C.n; omega,fun y hy=>List.mem_cons_of_mem _ hy,hnd.2⟩
   ·unfold aJ; split
    ·exact hD.fling hx.1 hx.2
    ·exact hD
   ·unfold aJ; split
    ·simp [DM.fling,BM]
    ·simp
theorem yI {v dv:Value} {K n a:Nat} {C:CM} {D:DM} {I0:AJ} (h:H [CacheA v dv K C,Disk dv D,I0] σ) (hC:C.Ok n) (hno:∀ x∈C.its,x.pl≠a) (ha:a<n) (hD:DPlain D n) (hm:D.fly.length<1099511627000) (hK:K+2<18446744073709551616)
 (hQ:∀ w σ',H [CacheA v dv (K+2) { C with its:=(C.room D).1++[⟨a,false,(C.room D).2.block a⟩] },Disk dv (C.room D).2,I0,A5 AI 1 w 256 (bv ((C.room D).2.block a))] σ'→Q (.tuple #[w,.int .i64 0]) σ'):E FT [v,.int .i64 a] σ Q:=by
 obtain ⟨cb,mb,now,rowv,R,M,rfl,hc,hM,hnow,h1⟩:=K5 h
 have hhi:=hC.hi
 have hnoM:∀ p∈pairs M,p.1≠a:=by
  intro p hp
  obtain ⟨r,hr,rfl⟩:=List.mem_map.1 hp
  exact hno (XF r) (by rw [← hM]; exact List.mem_map_of_mem hr)
 obtain ⟨hD1,hf1,hl1,hsub,hnd1⟩:=N9 hC hD
 apply MH; unfold HP
 refine VB h1 hD ha ?_
 simp
 have r3:=BK (n:=1) (o:=3) (h1.row 0 rfl)
 simp [r3]
 have hlk:=aG (a:=a) false h1 (i:=3) rfl hnoM
 rw [hlk]
 simp [okV]
 refine tA h1 hc hM hC hD (by omega) ?_
 intro rowv1 R1 M1 σ1 hc1 hM1 h2
 simp
 generalize (C.room D).2=D1 at hD1 hf1 h2 hQ
 generalize (C.room D).1=its1 at hl1 hsub hnd1 hM1 hQ
 have h3:=NK.1 h2
 have c0:=BK (n:=1) (o:=0) (h3.row 0 rfl)
 simp [c0]
 have hr:=oX hD1.ok ha
 rw [hD1.off] at hr
 simp only [Bool.false_eq_true,if_false] at hr
 refine yG h3 4 rfl hD1.ok (by omega) hr ?_
 intro w0 σ2 h4
 simp
 simp only [Int.toNat_natCast] at h4
 have hbl:=VH hD1.ok ha
 have hl2:=hc1.perm.length_eq
 have hl3:M1.length=its1.length:=by rw [← hM1,List.length_map]
 have h5:H (CO cb dv C.n now mb rowv1 R1 M1 (AW [Disk dv D1,AW [I0,A5 AI 1 w0 256 (bv (D1.block a))]])) σ2:=by
  refine NK.2 ?_
  have:=(BC (l:=[I0,A5 AI 1 w0 256 (bv (D1.block a))])).2 (h4.pick [5,6,0,1,2,3,4] (by decide))
  exact this.pick [1,2,3,4,5,0] (by decide)
 refine AAC h5 hc1 ?_ (by omega) (by omega) ?_
 ·intro r hr
  exact hno (XF r) (hsub _ (by rw [← hM1]; exact List.mem_map_of_mem hr))
 intro rowv2 R2 ib σ3 hc2 h6
 simp
 -- the block's bytes go into the item
 have h7:H [AW [Disk dv D1,AW [I0,A5 AI 1 w0 256 (bv (D1.block a))]],pt cb (.cells [dv,.int .i64 C.n,.int .u64 (now+1:Nat),.map (some mb),rowv2] AU false),A5 AK 1 rowv2 R2.length (DA R2),AW (A8 0 R2),GJ mb (pairs (M1++[⟨ib,a,now+1,false,.slice none 0 0,[]⟩]))] σ3:=h6.pick [4,0,1,2,3] (by decide)
 have h8:=((BC (l:=[Disk dv D1,AW [I0,A5 AI 1 w0 256 (bv (D1.block a))]])).1 h7).pick [1,0,2,3,4,5] (by decide)
 have h9:H [A5 AI 1 w0 256 (bv (D1.block a)),I0,Disk dv D1,pt cb (.cells [dv,.int .i64 C.n,.int .u64 (now+1:Nat),.map (some mb),rowv2] AU false),A5 AK 1 rowv2 R2.length (DA R2),AW (A8 0 R2),GJ mb (pairs (M1++[⟨ib,a,now+1,false,.slice none 0 0,[]⟩]))] σ3 :=
  ((BC (l:=[I0,A5 AI 1 w0 256 (bv (D1.block a))])).1 h8).pick [1,0,2,3,4,5,6] (by decide)
 obtain ⟨wb,wc,rfl,hwc,hro⟩:=fS (by omega) h9
 have h10:=hro 0 256 wc hwc (by omega)
 rw [show (((D1.block a).drop 0).take 256)=D1.block a by rw [List.drop_zero,List.take_of_length_le (by omega)]] at h10
 have hm2:(⟨ib,a,now+1,false,.slice none 0 0,[]⟩:G6)∈R2:=hc2.perm.mem_iff.2 (by simp)
 obtain ⟨k,hk,hkx⟩:=List.getElem_of_mem hm2
 have hk':R2[k]?=some ⟨ib,a,now+1,false,.slice none 0 0,[]⟩:=by rw [List.getElem?_eq_getElem hk,hkx]
 have h11:=KE (h10.pick [5,0,1,2,3,4,6] (by decide)) hk'
 unfold BV at h11
 rw [BE] at h11
 refine E9 h11 0 rfl rfl (by simp) ?_
 intro σ4 h12
 let x3:G6:=⟨ib,a,now+1,false,.slice (some ⟨wb,0,none⟩) 256 wc,D1.block a⟩
 have h13:H [pt ib (.cells [.int .i64 a,.int .i64 k,.int .u64 (now+1:Nat),.bool false,.slice (some ⟨wb,0,none⟩) 256 wc] DY false),gO (.slice (some ⟨wb,0,none⟩) 256 wc) (D1.block a),AW ((A8 0 R2).set k emp),I0,Disk dv D1,pt cb (.cells [dv,.int .i64 C.n,.int .u64 (now+1:Nat),.map (some mb),rowv2] AU false),A5 AK 1 rowv2 R2.length (DA R2),GJ mb (pairs (M1++[⟨ib,a,now+1,false,.slice none 0 0,[]⟩]))] σ4:=h12.pick [0,3,2,4,5,6,7,8] (by decide)
 rw [← OA (by intro e; rw [e] at hbl; simp at hbl)] at h13
 have h14:=ZU (r:=x3) hk (BE.2 h13)
 have e3:DA (R2.set k x3)=DA R2:=gB hk' rfl
 have e4:pairs (M1++[x3])=pairs (M1++[⟨ib,a,now+1,false,.slice none 0 0,[]⟩]):=by simp [pairs,x3]
 have h15:H (CO cb dv C.n (now+1) mb rowv2 (R2.set k x3) (M1++[x3]) (AW [Disk dv D1,I0])) σ4:=by
  refine NK.2 ?_
  rw [e3,e4,List.length_set]
  exact h14.pick [3,4,0,5,2,1] (by decide)
 have hc3:SY (R2.set k x3) (M1++[x3]) (now+1):=SY.mod (B:=[]) hc2 hk' rfl rfl
 have hl4:=hc2.perm.length_eq
 simp only [List.length_append,List.length_cons,List.length_nil] at hl4
 refine tN (A:=M1) (B:=[]) (x:=x3) h15 hc3 (by omega) (by simp; omega) hbl ?_
 intro R3 w σ5 hc4 h16
 refine hQ w σ5 ?_
 have h17:H [CacheA (.pointer (some ⟨cb,0,none⟩)) dv (K+2) { C with its:=its1++[⟨a,false,D1.block a⟩] },AW [Disk dv D1,I0],A5 AI 1 w 256 (bv (D1.block a))] σ5:=by
  refine QJ hc4 ?_ (by omega) h16
  simp only [List.map_append,hM1,List.map_cons,List.map_nil,List.append_nil]
  rfl
 exact ((BC (l:=[Disk dv D1,I0])).1 (h17.pick [1,0,2] (by decide):H (AW [Disk dv D1,I0]::[CacheA (.pointer (some ⟨cb,0,none⟩)) dv (K+2) { C with its:=its1++[⟨a,false,D1.block a⟩] },A5 AI 1 w 256 (bv (D1.block a))]) σ5)).pick [2,0,1,3] (by decide)
end Go.Ax.O
set_option maxRecDepth 100000
namespace Go.Ax.O
open Go.Proofs Go.RowKit
variable {l m:List AJ} {σ:AHeap} {Q:WK}
theorem iY {cb nn now mb:Nat} {dv rowv w:Value} {R A:List G6} {x:G6} {bs:List UInt8} {I0:AJ} {K:WK} (h:H (CO cb dv nn now mb rowv R (A++[x]) (AW [A5 AI 1 w 256 (bv bs),I0])) σ) (hc:SY R (A++[x]) now)
 (hQ:∀ sv R' σ',SY R' (A++[{ x with dirty:=true,sv:=sv,b:=bs }]) now→H (CO cb dv nn now mb rowv R' (A++[{ x with dirty:=true,sv:=sv,b:=bs }]) (AW [A5 AI 1 w 256 (bv bs),I0])) σ'→K (.int .i64 0) σ') :
 E CU [w] σ fun v37 τ=>pu (AN 1 (.pointer (some ⟨x.ib,4,none⟩)) v37 τ) fun τ=>pu (AN 1 (.pointer (some ⟨x.ib,3,none⟩)) (.bool true) τ) fun τ=>K (.int .i64 0) τ:=by
 have h0:H [A5 AI 1 w 256 (bv bs),I0,pt cb (.cells [dv,.int .i64 nn,.int .u64 now,.map (some mb),rowv] AU false),A5 AK 1 rowv R.length (DA R),AW (A8 0 R),GJ mb (pairs (A++[x]))] σ :=
  (BC (l:=[A5 AI 1 w 256 (bv bs),I0])).1 (h.pick [4,0,1,2,3] (by decide))
 obtain ⟨hs,hbl,wa,wc,rfl⟩:=h0.own_src 0 rfl
 simp only [Nat.mul_one,vQ] at hbl
 refine L7 h0 hs (by omega) ?_
 intro c σ1 h1
 obtain ⟨fb,fc,rfl,hfc,hro⟩:=fS (by omega) (h1.pick [6,0,1,2,3,4,5] (by decide))
 have h2:=hro 0 256 fc hfc (by omega)
 rw [show ((bs.drop 0).take 256)=bs by rw [List.drop_zero,List.take_of_length_le (by omega)]] at h2
 have hm:x∈R:=hc.perm.mem_iff.2 (by simp)
 obtain ⟨k,hk,hkx⟩:=List.getElem_of_mem hm
 have hk':R[k]?=some x:=by rw [List.getElem?_eq_getElem hk,hkx]
 have h3:=KE (h2.pick [5,0,1,2,3,4,6] (by decide)) hk'
 unfold BV at h3
 rw [BE] at h3
 refine E9 h3 0 rfl rfl (by simp) ?_
 intro σ2 h4
 refine E9 h4 0 rfl rfl (by simp) ?_
 intro σ3 h5
 let y:G6:={ x with dirty:=true,sv:=.slice (some ⟨fb,0,none⟩) 256 fc,b:=bs }
 have h6:H [pt x.ib (.cells [.int .i64 x.pl,.int .i64 k,.int .u64 x.used,.bool true,.slice (some ⟨fb,0,none⟩) 256 fc] DY false),gO (.slice (some ⟨fb,0,none⟩) 256 fc) bs,AW ((A8 0 R).set k emp),A5 AI 1 (.slice wa 256 wc) 256 (bv bs),I0,pt cb (.cells [dv,.int .i64 nn,.int .u64 now,.map (some mb),rowv] AU false),A5 AK 1 rowv R.length (DA R),GJ mb (pairs (A++[x]))] σ3:=h5.pick [0,3,2,4,5,6,7,8] (by decide)
 rw [← OA (by intro e; rw [e] at hbl; simp at hbl)] at h6
 have h7:=ZU (r:=y) hk (BE.2 h6)
 have hc3:SY (R.set k y) (A++[y]) now:=SY.mod (B:=[]) hc hk' rfl rfl
 refine hQ (.slice (some ⟨fb,0,none⟩) 256 fc) (R.set k y) σ3 hc3 ?_
 have e3:DA (R.set k y)=DA R:=gB hk' rfl
 have e4:pairs (A++[y])=pairs (A++[x]):=by simp [pairs,y]
 have h8:=(BC (l:=[A5 AI 1 (.slice wa 256 wc) 256 (bv bs),I0])).2 (h7.pick [1,2,0,3,4,5] (by decide))
 show H (CO cb dv nn now mb rowv (R.set k y) (A++[y]) _) σ3
 unfold CO
 rw [e3,e4,List.length_set]
 exact h8.pick [2,3,1,4,0] (by decide)
theorem AA2 {v dv w:Value} {K n:Nat} {C:CM} {D:DM} {I0:AJ} {A B:List It} {it:It} {bs:List UInt8} (h:H [CacheA v dv K C,Disk dv D,A5 AI 1 w 256 (bv bs),I0] σ) (hC:C.Ok n) (hits:C.its=A++it::B) (hD:DPlain D n) (hK:K+1<18446744073709551616)
 (hQ:∀ σ',H [CacheA v dv (K+1) { C with its:=A++B++[⟨it.pl,true,bs⟩] },Disk dv D,A5 AI 1 w 256 (bv bs),I0] σ'→Q (.int .i64 0) σ'):E EB [v,.int .i64 it.pl,w] σ Q:=by
 obtain ⟨cb,mb,now,rowv,R,M,rfl,hc,hM,hnow,h1⟩:=K5 h
 rw [hits] at hM
 obtain ⟨A',x,B',rfl,hA',hx,hB'⟩:=i8 hM
 obtain ⟨hpl,hxb⟩:=hC.it it (by rw [hits]; simp)
 have hl:=hc.perm.length_eq
 have hl2:(A'++x::B').length=C.its.length:=by rw [hits,← hM,List.length_map]
 have hlen:=hC.len
 have hhi:=hC.hi
 have e1:it.pl=x.pl:=by rw [← hx]; rfl
 rw [e1] at hpl hQ ⊢
 obtain ⟨hs,hbl,wa,wc,hw⟩:=h.own_src 2 rfl
 have h1:H (CO cb dv C.n now mb rowv R (A'++x::B') (AW [Disk dv D,AW [A5 AI 1 w 256 (bv bs),I0]])) σ:=by
  have h2:H (AW [Disk dv D,A5 AI 1 w 256 (bv bs),I0]::[pt cb (.cells [dv,.int .i64 C.n,.int .u64 now,.map (some mb),rowv] AU false),A5 AK 1 rowv R.length (DA R),AW (A8 0 R),GJ mb (pairs (A'++x::B'))]) σ:=h1.pick [4,0,1,2,3] (by decide)
  refine NK.2 ?_
  have h3:=((BC (l:=[Disk dv D,A5 AI 1 w 256 (bv bs),I0])).1 h2).pick [1,2,0,3,4,5,6] (by decide)
  exact ((BC (l:=[A5 AI 1 w 256 (bv bs),I0])).2 h3).pick [2,3,4,5,1,0] (by decide)
 apply H5; unfold FL
 refine VB h1 hD hpl ?_
 simp only [tY,A4,hw,NR]
 rw [← hw]
 have r3:=BK (n:=1) (o:=3) (h1.row 0 rfl)
 simp [r3]
 have hlk:=XN (p:=(x.pl,x.ib)) false h1 (i:=3) rfl (by simp [pairs])
 simp only at hlk
 rw [hlk]
 simp [okV]
 unfold E5
 refine rX h1 hc (by omega) (by omega) ?_
 intro R' σ1 hc1 h2
 have h3:H (CO cb dv C.n (now+1) mb rowv R' (A'++B'++[{ x with used:=now+1 }]) (AW [A5 AI 1 w 256 (bv bs),AW [Disk dv D,I0]])) σ1:=by
  have h4:=((BC (l:=[A5 AI 1 w 256 (bv bs),I0])).1 ((NK.1 h2).pick [5,0,1,2,3,4] (by decide))).pick [6,1,0,2,3,4,5] (by decide)
  have h5:=((BC (l:=[Disk dv D,I0])).2 h4).pick [1,0,2,3,4,5] (by decide)
  exact ((BC (l:=[A5 AI 1 w 256 (bv bs),AW [Disk dv D,I0]])).2 h5).pick [1,2,3,4,0] (by decide)
 simp
 refine iY (A:=A'++B') (x:={ x with used:=now+1 }) h3 hc1 ?_
 intro sv R2 σ2 hc2 h4
 refine hQ σ2 ?_
 have h5:H [CacheA (.pointer (some ⟨cb,0,none⟩)) dv (K+1) { C with its:=A++B++[⟨x.pl,true,bs⟩] },A5 AI 1 w 256 (bv bs),AW [Disk dv D,I0]] σ2:=by
  refine QJ hc2 ?_ (by omega) h4
  simp only [List.map_append,hA',hB',List.map_cons,List.map_nil]
  rfl
 exact ((BC (l:=[Disk dv D,I0])).1 (h5.pick [2,0,1] (by decide):H (AW [Disk dv D,I0]::[CacheA (.pointer (some ⟨cb,0,none⟩)) dv (K+1) { C with its:=A++B++[⟨x.pl,true,bs⟩] },A5 AI 1 w 256 (bv bs)]) σ2)).pick [2,0,3,1] (by decide)
theorem yZ {v dv w:Value} {K n a:Nat} {C:CM} {D:DM} {I0:AJ} {bs:List UInt8} (h:H [CacheA v dv K C,Disk dv D,A5 AI 1 w 256 (bv bs),I0] σ) (hC:C.Ok n) (hno:∀ x∈C.its,x.pl≠a) (ha:a<n) (hD:DPlain D n) (hm:D.fly.length<1099511627000) (hK:K+1<18446744073709551616)
 (hQ:∀ σ',H [CacheA v dv (K+1) { C with its:=(C.room D).1++[⟨a,true,bs⟩] },Disk dv (C.room D).2,A5 AI 1 w 256 (bv bs),I0] σ'→Q (.int .i64 0) σ'):E EB [v,.int .i64 a,w] σ Q:=by
 obtain ⟨cb,mb,now,rowv,R,M,rfl,hc,hM,hnow,h1⟩:=K5 h
 have hhi:=hC.hi
 have hnoM:∀ p∈pairs M,p.1≠a:=by
  intro p hp
  obtain ⟨r,hr,rfl⟩:=List.mem_map.1 hp
  exact hno (XF r) (by rw [← hM]; exact List.mem_map_of_mem hr)
 obtain ⟨hD1,hf1,hl1,hsub,hnd1⟩:=N9 hC hD
 obtain ⟨hs,hbl,wa,wc,hw⟩:=h.own_src 2 rfl
 have h1:H (CO cb dv C.n now mb rowv R M (AW [Disk dv D,AW [A5 AI 1 w 256 (bv bs),I0]])) σ:=by
  have h2:H (AW [Disk dv D,A5 AI 1 w 256 (bv bs),I0]::[pt cb (.cells [dv,.int .i64 C.n,.int .u64 now,.map (some mb),rowv] AU false),A5 AK 1 rowv R.length (DA R),AW (A8 0 R),GJ mb (pairs M)]) σ:=h1.pick [4,0,1,2,3] (by decide)
  refine NK.2 ?_
  have h3:=((BC (l:=[Disk dv D,A5 AI 1 w 256 (bv bs),I0])).1 h2).pick [1,2,0,3,4,5,6] (by decide)
  exact ((BC (l:=[A5 AI 1 w 256 (bv bs),I0])).2 h3).pick [2,3,4,5,1,0] (by decide)
 apply H5; unfold FL
 refine VB h1 hD ha ?_
 simp only [tY,A4,hw,NR]
 rw [← hw]
 have r3:=BK (n:=1) (o:=3) (h1.row 0 rfl)
 simp [r3]
 have hlk:=aG (a:=a) false h1 (i:=3) rfl hnoM
 rw [hlk]
 simp [okV]
 refine tA h1 hc hM hC hD (by omega) ?_
 intro rowv1 R1 M1 σ1 hc1 hM1 h2
 simp
 generalize (C.room D).2=D1 at hD1 hf1 h2 hQ
 generalize (C.room D).1=its1 at hl1 hsub hnd1 hM1 hQ
 have hl2:=hc1.perm.length_eq
 have hl3:M1.length=its1.length:=by rw [← hM1,List.length_map]
 unfold E5
 refine AAC h2 hc1 ?_ (by omega) (by omega) ?_
 ·intro r hr
  exact hno (XF r) (hsub _ (by rw [← hM1]; exact List.mem_map_of_mem hr))
 intro rowv2 R2 ib σ3 hc2 h6
 have h3:H (CO cb dv C.n (now+1) mb rowv2 R2 (M1++[⟨ib,a,now+1,false,.slice none 0 0,[]⟩]) (AW [A5 AI 1 w 256 (bv bs),AW [Disk dv D1,I0]])) σ3:=by
  have h4:=((BC (l:=[A5 AI 1 w 256 (bv bs),I0])).1 ((NK.1 h6).pick [5,0,1,2,3,4] (by decide))).pick [6,1,0,2,3,4,5] (by decide)
  have h5:=((BC (l:=[Disk dv D1,I0])).2 h4).pick [1,0,2,3,4,5] (by decide)
  exact ((BC (l:=[A5 AI 1 w 256 (bv bs),AW [Disk dv D1,I0]])).2 h5).pick [1,2,3,4,0] (by decide)
 simp
 refine iY (A:=M1) (x:=⟨ib,a,now+1,false,.slice none 0 0,[]⟩) h3 hc2 ?_
 intro sv R3 σ4 hc3 h4
 refine hQ σ4 ?_
 have h5:H [CacheA (.pointer (some ⟨cb,0,none⟩)) dv (K+1) { C with its:=its1++[⟨a,true,bs⟩] },A5 AI 1 w 256 (bv bs),AW [Disk dv D1,I0]] σ4:=by
  refine QJ hc3 ?_ (by omega) h4
  simp only [List.map_append,hM1,List.map_cons,List.map_nil]
  rfl
 exact ((BC (l:=[Disk dv D1,I0])).1 (h5.pick [2,0,1] (by decide):H (AW [Disk dv D1,I0]::[CacheA (.pointer (some ⟨cb,0,none⟩)) dv (K+1) { C with its:=its1++[⟨a,true,bs⟩] },A5 AI 1 w 256 (bv bs)]) σ4)).pick [2,0,3,1] (by decide)
theorem zS (σ:AHeap):QZ P A9 none σ=some (.map (some σ.size),σ.push (.map [] 0)):=rfl
theorem AAR {dv:Value} {D:DM} {n k:Nat} {I0:AJ} (h:H [Disk dv D,I0] σ) (hD:D.Ok n) (hk:1≤k∧k≤1024) (hQ:∀ v σ',H [CacheA v dv 0 ⟨k,[]⟩,Disk dv D,I0] σ'→Q (.tuple #[v,.int .i64 0]) σ'):E OY [dv,.int .i64 k] σ Q:=by
 obtain ⟨db,rfl⟩:=eH h 0 rfl
 have hlen:=hD.len
 have hn:=hD.lo
 have hn2:=hD.hi
 apply fZ; unfold S1
 simp
 refine UW h 0 rfl (by omega) ?_
 have:D.last.length / 256=n:=by omega
 rw [this]
 have hnz:¬ n=0:=by omega
 have h1:¬ k<1:=by omega
 have h2:¬ 1024<k:=by omega
 unfold JM J0
 have h3:¬ (k:Int)<1:=by omega
 have h4:¬ 1024<(k:Int):=by omega
 simp [hnz,h3,h4,zS,splice]
 have hp:=h.push (.map [] 0)
 refine S7 hp ?_
 intro b σ1 h5
 have h6:=h5.own_nil AK 1
 refine hQ _ σ1 ?_
 have hc:SY [] [] 0:=⟨List.Perm.refl _,List.Pairwise.nil,fun r hr=>by simp at hr,fun k h0 hk=>by simp at hk,by simp⟩
 refine QJ (cb:=b) (rowv:=.slice none 0 0) (mb:=σ.size) (now:=0) hc rfl (Nat.le_refl _) ?_
 have h7:H [GJ σ.size [],pt b (.cells [.pointer (some ⟨db,0,none⟩),.int .i64 k,.int .u64 0,.map (some σ.size),.slice none 0 0] AU false),A5 AK 1 (.slice none 0 0) 0 [],Disk (.pointer (some ⟨db,0,none⟩)) D,I0] σ1:=by
  refine KN.2 ⟨([],0),?_⟩
  rw [BE]
  refine BZ.2 ⟨⟨by simp,fun e he=>by simp at he,fun e he=>by simp at he⟩,?_⟩
  exact h6.pick [2,3,4,0,1] (by decide)
 have h8:=(BC (l:=[Disk (.pointer (some ⟨db,0,none⟩)) D,I0])).2 (h7.emp_end.pick [3,4,0,1,2,5] (by decide))
 exact h8.pick [2,3,4,1,0] (by decide)
end Go.Ax.O
set_option maxRecDepth 100000
namespace Go.Ax.O
theorem nB (a:Nat) (L:List UInt8) (fs gs:List GE):QM a L (fs++gs)=QM a (QM a L fs) gs:=by simp [QM]
theorem qZ {a c:Nat} (h:a≠c) (L b:List UInt8) (hb:b.length=256):QM (a*256) L (BM c b)=L:=by
 simp only [QM,BM,List.foldl_cons,List.foldl_nil]
 rw [if_neg (by omega),if_neg (by omega),if_neg (by omega),if_neg (by omega)]
theorem uB {a:Nat} {L b:List UInt8} (hL:L.length=256) (hb:b.length=256):QM (a*256) L (BM a b)=b:=by
 simp only [QM,BM,List.foldl_cons,List.foldl_nil]
 rw [if_pos (by omega),if_pos (by omega),if_pos (by omega),if_pos (by omega)]
 rw [show a*256 - a*256=0 by omega,show a*256+64 - a*256=64 by omega,show a*256+128 - a*256=128 by omega,show a*256+192 - a*256=192 by omega]
 have l0:((b.drop 0).take 64).length=64:=by simp; omega
 have l1:((b.drop 64).take 64).length=64:=by simp; omega
 have l2:((b.drop 128).take 64).length=64:=by simp; omega
 have l3:((b.drop 192).take 64).length=64:=by simp; omega
 have p0:(put L 0 ((b.drop 0).take 64)).length=256:=by rw [RS _ _ _ (by omega),hL]
 have p1:(put (put L 0 ((b.drop 0).take 64)) 64 ((b.drop 64).take 64)).length=256:=by rw [RS _ _ _ (by omega),p0]
 have p2:(put (put (put L 0 ((b.drop 0).take 64)) 64 ((b.drop 64).take 64)) 128 ((b.drop 128).take 64)).length=256:=by rw [RS _ _ _ (by omega),p1]
 apply List.ext_getElem?
 intro i
 rw [dF _ _ _ (by omega),dF _ _ _ (by omega),dF _ _ _ (by omega),dF _ _ _ (by omega)]
 rw [l0,l1,l2,l3]
 simp only [List.getElem?_take,List.getElem?_drop]
 by_cases h3:192≤i∧i<192+64
 ·rw [if_pos h3,if_pos (by omega)]; congr 1; omega
 ·rw [if_neg h3]
  by_cases h2:128≤i∧i<128+64
  ·rw [if_pos h2,if_pos (by omega)]; congr 1; omega
  ·rw [if_neg h2]
   by_cases h1:64≤i∧i<64+64
   ·rw [if_pos h1,if_pos (by omega)]; congr 1; omega
   ·rw [if_neg h1]
    by_cases h0:0≤i∧i<0+64
    ·rw [if_pos h0,if_pos (by omega)]; congr 1; omega
    ·rw [if_neg h0,List.getElem?_eq_none (by omega),List.getElem?_eq_none (by omega)]
theorem mU {D:DM} {n a c:Nat} {b:List UInt8} (hD:D.Ok n) (ha:a<n) (hb:b.length=256):(D.fling c b).block a=if a=c then b else D.block a:=by
 have h1:(D.fling c b).block a=QM (a*256) (D.block a) (BM c b):=by
  unfold DM.block DM.fling
  simp only [nB]
 rw [h1]
 split
 ·rename_i e; subst e
  exact uB (VH hD ha) hb
 ·rename_i e
  exact qZ e _ _ hb
end Go.Ax.O
set_option maxRecDepth 100000
namespace Go.Ax.C
open Go.Proofs Go.RowKit
open O (CacheA Disk It DPlain)
instance (v dv:Value) (K:Nat) (C:O.CM) (l:List AJ):pH (CacheA v dv K C::l) v (CacheA v dv K C) l:=⟨.refl _⟩
instance (v:Value) (D:DM) (l:List AJ):pH (Disk v D::l) v (Disk v D) l:=⟨.refl _⟩
variable {l r r2:List AJ} {σ:AHeap} {Q:RK}
def CW (C:O.CM) (D:DM) (a:Nat):List UInt8 :=
 match C.its.find? fun x=>x.pl == a with
 | some x=>x.b
 | none=>D.block a
structure fE (C:O.CM) (D:DM) (n:Nat):Prop where
 ok:C.Ok n
 dp:DPlain D n
 cl:∀ x∈C.its,x.dirty=false→D.block x.pl=x.b
theorem CE {C:O.CM} {D:DM} {n:Nat} (h:C.Ok n) {x:It} (hx:x∈C.its):CW C D x.pl=x.b:=by
 unfold CW
 have hnd:=h.nd
 obtain ⟨A,B,e⟩:=List.append_of_mem hx
 rw [e] at hnd ⊢
 simp only [List.map_append,List.map_cons,List.nodup_append] at hnd
 have hA:∀ y∈A,¬ (y.pl == x.pl)=true:=fun y hy he=>by
  have:=hnd.2.2 y.pl (List.mem_map_of_mem hy) x.pl (by simp)
  simp at he; exact this he
 rw [List.find?_append,List.find?_eq_none.2 hA]
 simp
theorem CN {C:O.CM} {D:DM} {a:Nat} (h:∀ x∈C.its,x.pl≠a):CW C D a=D.block a:=by
 unfold CW
 rw [List.find?_eq_none.2 fun x hx=>by simpa using h x hx]
theorem o3 {C:O.CM} {D:DM} {n a:Nat} (h:fE C D n) (ha:a<n):(CW C D a).length=256:=by
 by_cases hx:∃ x∈C.its,x.pl=a
 ·obtain ⟨x,hx,rfl⟩:=hx
  rw [CE h.ok hx]; exact (h.ok.it x hx).2
 ·rw [CN fun x hx' e=>hx ⟨x,hx',e⟩]; exact O.VH h.dp.ok ha
theorem iW {v dv:Value} {K K':Nat} {C:O.CM} {m:List AJ} (hk:K≤K') (h:H (CacheA v dv K C::m) σ):H (CacheA v dv K' C::m) σ:=by
 obtain ⟨cb,mb,now,rowv,R,M,rfl,h2,h3,h4,h5⟩:=O.K5 h
 exact O.QJ h2 h3 (Nat.le_trans h4 hk) h5
theorem xT {A B:AJ}:H (A::B::l) σ↔H [A,B,AW l] σ:=by
 constructor
 ·intro h
  exact (BC.2 (h.perm (List.perm_append_comm (l₁:=[A,B]) (l₂:=l)))).perm (by
   exact (List.Perm.swap _ _ _).trans ((List.Perm.swap _ _ _).cons _))
 ·intro h
  have h1:H (AW l::[A,B]) σ:=h.perm ((List.perm_append_comm (l₁:=[A,B]) (l₂:=[AW l])))
  exact (BC.1 h1).perm List.perm_append_comm
theorem tF {A B X:AJ}:H (A::B::X::l) σ↔H [A,B,X,AW l] σ:=by
 constructor
 ·intro h
  have h1:=h.perm (List.perm_append_comm (l₁:=[A,B,X]) (l₂:=l))
  exact (BC.2 h1).perm (List.perm_append_comm (l₁:=[AW l]) (l₂:=[A,B,X]))
 ·intro h
  have h1:H (AW l::[A,B,X]) σ:=h.perm ((List.perm_append_comm (l₁:=[A,B,X]) (l₂:=[AW l])))
  exact (BC.1 h1).perm List.perm_append_comm
theorem o4 {C:O.CM} {D:DM} {n:Nat} (h:fE C D n):fE { C with its:=(C.room D).1 } (C.room D).2 n∧(∀ a<n,CW { C with its:=(C.room D).1 } (C.room D).2 a=CW C D a)∧(C.room D).2.fly.length≤D.fly.length+4∧(C.room D).1.length<C.n:=by
 obtain ⟨h1,h2,h3,h4,h5⟩:=O.N9 h.ok h.dp
 have hok:({ C with its:=(C.room D).1 }:O.CM).Ok n:=⟨h.ok.lo,h.ok.hi,by simp; omega,fun x hx=>h.ok.it x (h4 x hx),h5⟩
 unfold O.CM.room at h1 h2 h3 h4 h5 hok ⊢
 by_cases hlt:C.its.length<C.n
 ·simp only [if_pos hlt] at h1 h2 h3 h4 h5 hok ⊢
  exact ⟨h,by intros; trivial,by omega,hlt⟩
 ·simp only [if_neg hlt] at h1 h2 h3 h4 h5 hok ⊢
  cases e:C.its with
  | nil =>
    rw [e] at h1 h2 h3 h4 h5 hok
    refine ⟨⟨hok,h.dp,fun x hx=>by simp at hx⟩,fun a ha=>?_,by simp,h3⟩
    rw [CN (by simp),CN (by simp [e])]
  | cons x t =>
    rw [e] at h1 h2 h3 h4 h5 hok
    simp only at h1 h2 h3 h4 h5 hok ⊢
    have hx:=h.ok.it x (by simp [e])
    have hnd:=h.ok.nd
    rw [e] at hnd
    simp only [List.map_cons,List.nodup_cons] at hnd
    have hbl:∀ a<n,(O.aJ D x).block a=if a=x.pl then x.b else D.block a:=by
     intro a ha
     unfold O.aJ
     cases hd:x.dirty with
     | true=>simp only [if_true]; exact O.mU h.dp.ok ha hx.2
     | false =>
       simp only [Bool.false_eq_true,if_false]
       split
       ·rename_i e2; subst e2; exact h.cl x (by simp [e]) hd
       ·rfl
    have hcl:∀ y∈t,y.dirty=false→(O.aJ D x).block y.pl=y.b:=fun y hy hd=>by
     have hyl:=(h.ok.it y (by simp [e,hy])).1
     rw [hbl _ hyl,if_neg (fun e2=>hnd.1 (by rw [← e2]; exact List.mem_map_of_mem hy))]
     exact h.cl y (by simp [e,hy]) hd
    refine ⟨⟨hok,h1,hcl⟩,fun a ha=>?_,h2,h3⟩
    by_cases hm:∃ y∈t,y.pl=a
    ·obtain ⟨y,hy,rfl⟩:=hm
     rw [CE hok hy,CE h.ok (x:=y) (by simp [e,hy])]
    ·have hno:∀ y∈t,y.pl≠a:=fun y hy e2=>hm ⟨y,hy,e2⟩
     rw [CN hno,hbl a ha]
     by_cases hax:a=x.pl
     ·subst hax; rw [if_pos rfl,CE h.ok (x:=x) (by simp [e])]
     ·rw [if_neg hax,CN (C:=C)]
      intro y hy
      rw [e] at hy
      rcases List.mem_cons.1 hy with rfl | hy
      ·exact fun e2=>hax e2.symm
      ·exact hno y hy
theorem AE4 {v dv:Value} {K n a:Nat} {C:O.CM} {D:DM} (h:H l σ) [k1:pH l v (CacheA v dv K C) r] [k2:pH r dv (Disk dv D) r2] (hI:fE C D n) (ha:a<n) (hm:D.fly.length<1099511627000) (hK:K+2<18446744073709551616)
 (hQ:∀ w σ' C' D',fE C' D' n→C'.n=C.n→(∀ x<n,CW C' D' x=CW C D x)→D'.fly.length≤D.fly.length+4→(∀ y∈C'.its,y.dirty=true→y∈C.its)→(C.its.length<C.n∨(∃ y∈C.its,y.pl=a)→D'=D∧∀ y∈C.its,y∈C'.its) →
  H (A5 AI 1 w 256 (bv (CW C D a))::CacheA v dv (K+2) C'::Disk dv D'::r2) σ'→Q (.ret (.tuple #[w,.int .i64 0])) σ'):E FT [v,.int .i64 a] σ Q:=by
 have h1:=xT.1 ((h.atv v).perm (k2.perm.cons _))
 refine O.up ?_
 by_cases hin:∃ it∈C.its,it.pl=a
 ·obtain ⟨it,hit,hpl⟩:=hin
  obtain ⟨A,B,hits⟩:=List.append_of_mem hit
  subst hpl
  refine O.AAX h1 hI.ok hits hI.dp (by omega) ?_
  intro w σ' h2
  have hpm:(A++B++[it]).Perm C.its:=by
   rw [hits,List.append_assoc]
   exact List.Perm.append_left A (by simp)
  have hok:({ C with its:=A++B++[it] }:O.CM).Ok n:=⟨hI.ok.lo,hI.ok.hi,by have:=hpm.length_eq; have:=hI.ok.len; simp only; omega,fun x hx=>hI.ok.it x (hpm.mem_iff.1 hx),((hpm.map _).nodup_iff).2 hI.ok.nd⟩
  refine hQ w σ' { C with its:=A++B++[it] } D ⟨hok,hI.dp,fun x hx=>hI.cl x (hpm.mem_iff.1 hx)⟩ rfl (fun x hx=>?_) (by omega) (fun y hy _=>hpm.mem_iff.1 hy) (fun _=>⟨rfl,fun y hy=>hpm.mem_iff.2 hy⟩) ?_
  ·by_cases hm:∃ y∈C.its,y.pl=x
   ·obtain ⟨y,hy,rfl⟩:=hm
    rw [CE hok (hpm.mem_iff.2 hy),CE hI.ok hy]
   ·have hno:∀ y∈C.its,y.pl≠x:=fun y hy e=>hm ⟨y,hy,e⟩
    rw [CN hno,CN fun y hy=>hno y (hpm.mem_iff.1 hy)]
  ·rw [CE hI.ok hit]
   have h3:H [A5 AI 1 w 256 (bv it.b),CacheA v dv (K+1) { C with its:=A++B++[it] },Disk dv D,AW r2] σ':=h2.pick [3,0,1,2] (by decide)
   have h4:=tF.2 h3
   exact ((iW (by omega) (h4.perm (List.Perm.swap _ _ _))).perm (List.Perm.swap _ _ _))
 ·have hno:∀ x∈C.its,x.pl≠a:=fun x hx e=>hin ⟨x,hx,e⟩
  obtain ⟨hR,hRc,hRf,hRl⟩:=o4 hI
  refine O.yI h1 hI.ok hno ha hI.dp hm hK ?_
  intro w σ' h2
  obtain ⟨_,_,_,hsub,_⟩:=O.N9 hI.ok hI.dp
  have hroom:C.its.length<C.n→C.room D=(C.its,D):=fun hl=>by unfold O.CM.room; rw [if_pos hl]
  generalize hits:(C.room D).1=its at hR hRc hRl hsub h2
  generalize hDD:(C.room D).2=D' at hR hRc hRf h2
  have hno':∀ x∈its,x.pl≠a:=fun x hx=>hno x (hsub x hx)
  have hbl:D'.block a=CW C D a:=by rw [← hRc a ha,CN hno']
  have hok:({ C with its:=its++[⟨a,false,D'.block a⟩] }:O.CM).Ok n:=by
   refine ⟨hI.ok.lo,hI.ok.hi,by simp; omega,fun x hx=>?_,?_⟩
   ·rcases List.mem_append.1 hx with hx | hx
    ·exact hR.ok.it x hx
    ·simp at hx; subst hx; exact ⟨ha,O.VH hR.dp.ok ha⟩
   ·simp only [List.map_append,List.map_cons,List.map_nil]
    rw [List.nodup_append]
    refine ⟨hR.ok.nd,by simp,?_⟩
    intro x hx y hy
    simp at hy; subst hy
    obtain ⟨z,hz,rfl⟩:=List.mem_map.1 hx
    exact hno' z hz
  refine hQ w σ' _ D' ⟨hok,hR.dp,fun x hx hd=>?_⟩ rfl (fun x hx=>?_) hRf (fun y hy hd=>?_) (fun hl=>?_) ?_
  ·rcases List.mem_append.1 hx with hx | hx
   ·exact hR.cl x hx hd
   ·simp at hx; subst hx; rfl
  ·rw [← hRc x hx]
   by_cases hm:∃ y∈its,y.pl=x
   ·obtain ⟨y,hy,rfl⟩:=hm
    rw [CE hok (x:=y) (by simp [hy]),CE hR.ok hy]
   ·have hn2:∀ y∈its,y.pl≠x:=fun y hy e=>hm ⟨y,hy,e⟩
    by_cases hxa:x=a
    ·subst hxa
     rw [CN (C:={ C with its:=its }) hn2]
     exact CE hok (x:=⟨x,false,D'.block x⟩) (by simp)
    ·rw [CN (C:={ C with its:=its }) hn2,CN]
     intro y hy
     rcases List.mem_append.1 hy with hy | hy
     ·exact hn2 y hy
     ·simp at hy; subst hy; exact fun e=>hxa e.symm
  ·rcases List.mem_append.1 hy with hy | hy
   ·exact hsub y hy
   ·simp at hy; subst hy; simp at hd
  ·have:=hroom (hl.resolve_right fun ⟨y,hy,e⟩=>hno y hy e)
   rw [this] at hits hDD
   exact ⟨hDD.symm,fun y hy=>by rw [← hits]; simp [hy]⟩
  ·rw [← hbl]
   have h3:H [A5 AI 1 w 256 (bv (D'.block a)),CacheA v dv (K+2) { C with its:=its++[⟨a,false,D'.block a⟩] },Disk dv D',AW r2] σ':=h2.pick [3,0,1,2] (by decide)
   exact tF.2 h3
theorem AEr {v dv w:Value} {K n a:Nat} {C:O.CM} {D:DM} {r3:List AJ} {bs:List UInt8} (h:H l σ) [k1:pH l v (CacheA v dv K C) r] [k2:pH r dv (Disk dv D) r2] [k3:pH r2 w (A5 AI 1 w 256 (bv bs)) r3] (hI:fE C D n) (ha:a<n) (hb:bs.length=256) (hm:D.fly.length<1099511627000) (hK:K+2<18446744073709551616)
 (hQ:∀ σ' C' D',fE C' D' n→C'.n=C.n→(∀ x<n,CW C' D' x=if x=a then bs else CW C D x)→D'.fly.length≤D.fly.length+4→(∀ y∈C'.its,y.dirty=true→y.pl=a∨y∈C.its)→(∃ y∈C'.its,y.pl=a∧y.dirty=true)→(C.its.length<C.n∨(∃ y∈C.its,y.pl=a)→D'=D∧∀ y∈C.its,y.pl≠a→y∈C'.its) →
  H (A5 AI 1 w 256 (bv bs)::CacheA v dv (K+2) C'::Disk dv D'::r3) σ'→Q (.ret (.int .i64 0)) σ'):E EB [v,.int .i64 a,w] σ Q:=by
 have h1:=tF.1 (((h.atv v).perm (k2.perm.cons _)).perm ((k3.perm.cons _).cons _))
 refine O.up ?_
 -- what both ways share
 have go:∀ (its:List It) (D':DM) (σ':AHeap) (K':Nat),K'≤K+2→fE { C with its:=its } D' n→its.length<C.n→(∀ x∈its,x.pl≠a)→(∀ x∈its,x∈C.its)→(∀ x<n,x≠a→CW { C with its:=its } D' x=CW C D x)→D'.fly.length≤D.fly.length+4 →
  (C.its.length<C.n∨(∃ y∈C.its,y.pl=a)→D'=D∧∀ y∈C.its,y.pl≠a→y∈its) →
  H [CacheA v dv K' { C with its:=its++[⟨a,true,bs⟩] },Disk dv D',A5 AI 1 w 256 (bv bs),AW r3] σ'→Q (.ret (.int .i64 0)) σ':=by
  intro its D' σ' K' hK' hR hl hno hsub hcon hf hst h2
  have hok:({ C with its:=its++[⟨a,true,bs⟩] }:O.CM).Ok n:=by
   refine ⟨hI.ok.lo,hI.ok.hi,by simp; omega,fun x hx=>?_,?_⟩
   ·rcases List.mem_append.1 hx with hx | hx
    ·exact hR.ok.it x hx
    ·simp at hx; subst hx; exact ⟨ha,hb⟩
   ·simp only [List.map_append,List.map_cons,List.map_nil]
    rw [List.nodup_append]
    refine ⟨hR.ok.nd,by simp,?_⟩
    intro x hx y hy
    simp at hy; subst hy
    obtain ⟨z,hz,rfl⟩:=List.mem_map.1 hx
    exact hno z hz
  refine hQ σ' _ D' ⟨hok,hR.dp,fun x hx hd=>?_⟩ rfl (fun x hx=>?_) hf (fun y hy hd=>?_) ⟨⟨a,true,bs⟩,by simp,rfl,rfl⟩ (fun hh=>⟨(hst hh).1,fun y hy hya=>List.mem_append_left _ ((hst hh).2 y hy hya)⟩) ?_
  ·rcases List.mem_append.1 hx with hx | hx
   ·exact hR.cl x hx hd
   ·simp at hx; subst hx; cases hd
  ·by_cases hxa:x=a
   ·subst hxa
    rw [if_pos rfl]
    exact CE hok (x:=⟨x,true,bs⟩) (by simp)
   ·rw [if_neg hxa,← hcon x hx hxa]
    by_cases hm:∃ y∈its,y.pl=x
    ·obtain ⟨y,hy,rfl⟩:=hm
     rw [CE hok (x:=y) (by simp [hy]),CE hR.ok hy]
    ·have hn2:∀ y∈its,y.pl≠x:=fun y hy e=>hm ⟨y,hy,e⟩
     rw [CN (C:={ C with its:=its }) hn2,CN]
     intro y hy
     rcases List.mem_append.1 hy with hy | hy
     ·exact hn2 y hy
     ·simp at hy; subst hy; exact fun e=>hxa e.symm
  ·rcases List.mem_append.1 hy with hy | hy
   ·exact .inr (hsub y hy)
   ·simp at hy; subst hy; exact .inl rfl
  ·have h3:H [A5 AI 1 w 256 (bv bs),CacheA v dv K' { C with its:=its++[⟨a,true,bs⟩] },Disk dv D',AW r3] σ':=h2.pick [2,0,1,3] (by decide)
   have h4:=tF.2 h3
   exact ((iW hK' (h4.perm (List.Perm.swap _ _ _))).perm (List.Perm.swap _ _ _))
 by_cases hin:∃ it∈C.its,it.pl=a
 ·obtain ⟨it,hit,hpl⟩:=hin
  obtain ⟨A,B,hits⟩:=List.append_of_mem hit
  subst hpl
  refine O.AA2 h1 hI.ok hits hI.dp (by omega) ?_
  intro σ' h2
  have hnd:=hI.ok.nd
  rw [hits] at hnd
  simp only [List.map_append,List.map_cons,List.nodup_append,List.nodup_cons] at hnd
  have hno:∀ x∈A++B,x.pl≠it.pl:=by
   intro x hx
   rcases List.mem_append.1 hx with hx | hx
   ·exact fun e=>hnd.2.2 x.pl (List.mem_map_of_mem hx) it.pl (by simp) e
   ·exact fun e=>hnd.2.1.1 (by rw [← e]; exact List.mem_map_of_mem hx)
  have hsub:∀ x∈A++B,x∈C.its:=fun x hx=>by rw [hits]; simp only [List.mem_append,List.mem_cons] at hx ⊢; exact hx.elim .inl fun h=>.inr (.inr h)
  have hlen:(A++B).length+1=C.its.length:=by rw [hits]; simp; omega
  have hok:({ C with its:=A++B }:O.CM).Ok n:=⟨hI.ok.lo,hI.ok.hi,by have:=hI.ok.len; simp only; omega,fun x hx=>hI.ok.it x (hsub x hx),by
   simp only [List.map_append]
   rw [List.nodup_append]
   exact ⟨hnd.1,hnd.2.1.2,fun x hx y hy=>hnd.2.2 x hx y (by simp [hy])⟩⟩
  refine go (A++B) D σ' (K+1) (by omega) ⟨hok,hI.dp,fun x hx=>hI.cl x (hsub x hx)⟩ (by have:=hI.ok.len; omega) hno hsub (fun x hx hxa=>?_) (by omega) (fun _=>⟨rfl,fun y hy hya=>?_⟩) h2
  ·by_cases hm:∃ y∈A++B,y.pl=x
   ·obtain ⟨y,hy,rfl⟩:=hm
    rw [CE hok hy,CE hI.ok (hsub y hy)]
   ·have hn2:∀ y∈A++B,y.pl≠x:=fun y hy e=>hm ⟨y,hy,e⟩
    rw [CN (C:={ C with its:=A++B }) hn2,CN]
    intro y hy
    rw [hits] at hy
    simp only [List.mem_append,List.mem_cons] at hy
    rcases hy with hy | rfl | hy
    ·exact hn2 y (by simp [hy])
    ·exact fun e=>hxa e.symm
    ·exact hn2 y (by simp [hy])
  ·rw [hits] at hy
   simp only [List.mem_append,List.mem_cons] at hy ⊢
   rcases hy with hy | rfl | hy
   ·exact .inl hy
   ·exact absurd rfl hya
   ·exact .inr hy
 ·have hno:∀ x∈C.its,x.pl≠a:=fun x hx e=>hin ⟨x,hx,e⟩
  obtain ⟨hR,hRc,hRf,hRl⟩:=o4 hI
  refine O.yZ h1 hI.ok hno ha hI.dp hm (by omega) ?_
  intro σ' h2
  obtain ⟨_,_,_,hsub,_⟩:=O.N9 hI.ok hI.dp
  refine go (C.room D).1 (C.room D).2 σ' (K+1) (by omega) hR hRl (fun x hx=>hno x (hsub x hx)) hsub (fun x hx _=>hRc x hx) hRf (fun hh=>?_) h2
  rcases hh with hl | ⟨y,hy,e⟩
  ·unfold O.CM.room; rw [if_pos hl]; exact ⟨rfl,fun y hy _=>hy⟩
  ·exact absurd e (hno y hy)
end Go.Ax.C
set_option maxRecDepth 100000
namespace Go.Ax.C
open Go.Proofs Go.RowKit
variable {l r m:List AJ} {σ:AHeap} {Q:RK}
def Z2 (σ:AHeap) (v:Value) (x:List UInt8):Prop:=(x=[]∧∃ a c,v=.slice a 0 c∧(a=none∨a=some ⟨ZB,0,some 0⟩)) ∨
 ∃ b o c row,v=.slice (some ⟨b,o,none⟩) x.length c∧GP 1 x.length c∧σ.row b=some row∧(row.drop o).take x.length=bv x∧o+x.length≤row.length
theorem VE {e n:Nat} {v:Value} {x:List UInt8} (h:H (A5 e 1 v n (bv x)::l) σ):Z2 σ v x:=by
 rcases EX.1 h with ⟨⟨_,e1,h2⟩,_⟩ | ⟨b,c,opn,rest,h1,h2,h3,rfl,h4,h5⟩
 ·have:x=[]:=by cases x<;>simp_all
  refine .inl ⟨this,?_⟩
  rcases h2 with rfl | rfl
  ·exact ⟨_,_,rfl,.inl rfl⟩
  ·exact ⟨_,_,rfl,.inr rfl⟩
 ·have hn:x.length=n:=by simpa using h2
  subst hn
  refine .inr ⟨b,0,c,_,rfl,⟨h4,?_⟩,h1.row 0 rfl,?_,by simp⟩
  ·rcases h5 with h5 | h5
   ·exact .inr h5.2.2
   ·exact .inl h5
  ·rw [List.drop_zero,List.take_append_of_le_length (by simp),List.take_of_length_le (by simp)]
theorem HX {v:Value} {x:List UInt8} (h:Z2 σ v x):∃ a c,v=.slice a x.length c:=by
 rcases h with ⟨rfl,a,c,rfl,_⟩ | ⟨b,o,c,row,rfl,_⟩
 ·exact ⟨a,c,rfl⟩
 ·exact ⟨_,_,rfl⟩
theorem RL {v:Value} {x:List UInt8} (h:Z2 σ v x):Rd σ v x:=by
 rcases h with ⟨rfl,a,c,rfl,ha⟩ | ⟨b,o,c,row,rfl,hc,h1,h2,h3⟩
 ·rcases ha with rfl | rfl
  ·exact Rd.nil σ c
  ·exact ⟨UG σ 1 c _,⟨_,_,rfl⟩,fun k b h=>by simp at h⟩
 ·exact wD h1 h2 h3
theorem NV {v:Value} {x:List UInt8} {a:Nat} {k:IntKind} (h:Z2 σ v x) (ha:a<x.length) :
 ∃ w,AY 1 v (some (.int k (a:Nat))) none none=some w∧Z2 σ w (x.drop a):=by
 rcases h with ⟨rfl,_⟩ | ⟨b,o,c,row,rfl,hc,h1,h2,h3⟩
 ·simp at ha
 ·obtain ⟨c',e,hc'⟩:=NY (b:=b) (o:=o) (k:=k) (lo:=(a:Nat)) hc (by omega)
  simp only [Int.toNat_natCast,Nat.mul_one] at e hc'
  refine ⟨_,e,.inr ⟨b,o+a,c',row,by simp,by simpa using hc',h1,?_,by simp; omega⟩⟩
  have:(row.drop (o+a)).take (x.length - a)=((row.drop o).take x.length).drop a:=by
   rw [List.drop_take,List.drop_drop]
  rw [List.length_drop,this,h2,AAS]
theorem xH {v:Value} {x:List UInt8} {a:Nat} {k:IntKind} (h:Z2 σ v x) (hx:0<x.length) (ha:a≤x.length) :
 ∃ w,AY 1 v none (some (.int k (a:Nat))) none=some w∧Z2 σ w (x.take a):=by
 rcases h with ⟨rfl,_⟩ | ⟨b,o,c,row,rfl,hc,h1,h2,h3⟩
 ·simp at hx
 ·obtain ⟨c',hs,hc'⟩:=zM (b:=b) (o:=o) (k:=k) (hi:=(a:Nat)) hc hx (by omega)
  simp only [Int.toNat_natCast] at hs hc'
  refine ⟨_,hs,.inr ⟨b,o,c',row,?_,?_,h1,?_,?_⟩⟩
  ·rw [List.length_take,Nat.min_eq_left ha]
  ·rw [List.length_take,Nat.min_eq_left ha]; exact hc'
  ·rw [List.length_take,Nat.min_eq_left ha,← lS,← h2,List.take_take,Nat.min_eq_left ha]
  ·rw [List.length_take,Nat.min_eq_left ha]; omega
def be (n:Nat):Nat→List UInt8
 | 0=>[]
 | k+1=>UInt8.ofNat (n / 256 ^ k)::be n k
def LF (x:List UInt8):Nat:=x.foldl (fun n b=>n*256+b.toNat) 0
theorem GB (n k:Nat):(be n k).length=k:=by induction k<;>simp_all [be]
theorem uH (x:List UInt8) (n:Nat):x.foldl (fun n b=>n*256+b.toNat) n=n*256 ^ x.length+LF x:=by
 induction x generalizing n with
 | nil=>simp [LF]
 | cons b x ih =>
   simp only [LF,List.foldl_cons,List.length_cons]
   rw [ih,ih (0*256+b.toNat),Nat.pow_succ]
   simp only [Nat.add_mul,Nat.zero_mul,Nat.zero_add,Nat.mul_assoc,Nat.add_assoc]
   rw [Nat.mul_comm 256]
theorem YE (b:UInt8) (x:List UInt8):LF (b::x)=b.toNat*256 ^ x.length+LF x:=by
 simp only [LF,List.foldl_cons]; rw [uH]; simp [LF]
theorem aB (n k:Nat):LF (be n k)=n % 256 ^ k:=by
 induction k with
 | zero=>simp [be,LF,Nat.mod_one]
 | succ k ih =>
   rw [be,YE,GB,ih,UInt8.toNat_ofNat']
   have e:n % 256 ^ (k+1)=n % 256 ^ k+256 ^ k*(n / 256 ^ k % 256):=Nat.mod_pow_succ
   rw [e,Nat.add_comm,Nat.mul_comm]
theorem gN (x:List UInt8):LF x<256 ^ x.length:=by
 induction x with
 | nil=>simp [LF]
 | cons b x ih =>
   rw [YE,List.length_cons,Nat.pow_succ]
   have:=b.toNat_lt
   have h1:b.toNat*256 ^ x.length+256 ^ x.length≤256*256 ^ x.length:=by
    rw [← Nat.succ_mul]; exact Nat.mul_le_mul_right _ (by omega)
   rw [Nat.mul_comm (256 ^ x.length)]; omega
theorem xD (x:List UInt8) (b:UInt8):LF (x++[b])=LF x*256+b.toNat:=by
 simp only [LF,List.foldl_append,List.foldl_cons,List.foldl_nil]
theorem zA {n:Int} (hQ:Q (.ret (.bool (decide (1≤n∧n≤8)))) σ):E LY [.int .i64 n] σ Q:=by
 apply gZ; unfold WC
 refine AT (fun h=>?_) (fun h=>?_)
 ·by_cases h2:n≤8
  ·simpa [h,h2] using hQ
  ·simpa [h,h2] using hQ
 ·simpa [h] using hQ
theorem ADP (n k:Nat) (hk:k≤64):BA (some (.int .u64)) .shr (.int .u64 n) (.int .u64 k)=some (.int .u64 (n / 2 ^ k:Nat)):=by
 have e:∀ (d:Option TypeDesc) (a b:Int),BA d .shr (.int .u64 a) (.int .u64 b)=UR .shr .u64 a b:=fun _ _ _=>rfl
 rw [e,UR,if_neg (by omega)]
 have hb:IntKind.u64.bits=64:=rfl
 simp only [hb,Int.toNat_natCast,Nat.min_eq_left hk,Option.some.injEq,Value.int.injEq,true_and]
 rw [Int.fdiv_eq_ediv_of_nonneg _ (Int.le_of_lt (Int.pow_pos (by omega)))]
 simp
theorem AE9 (n:Nat) (hn:n*256<18446744073709551616):BA (some (.int .u64)) .shl (.int .u64 n) (.int .u64 8)=some (.int .u64 (n*256:Nat)):=by
 have e:∀ (d:Option TypeDesc) (a b:Int),BA d .shl (.int .u64 a) (.int .u64 b)=UR .shl .u64 a b:=fun _ _ _=>rfl
 rw [e,UR,if_neg (by omega)]
 have hb:IntKind.u64.bits=64:=rfl
 have e2:(n:Int)*2 ^ (min (8:Int).toNat 64)=((n*256:Nat):Int):=by
  have:min (8:Int).toNat 64=8:=by decide
  rw [this]; simp
 simp only [hb,e2]
 rw [X6 (by omega)]
theorem ABW (n:Nat):wu8 (n:Int)=((UInt8.ofNat n).toNat:Int):=by
 rw [UInt8.toNat_ofNat']
 show IntKind.u8.wrap n=_
 simp [IntKind.wrap,IntKind.bits,IntKind.signed]
theorem w8 {v:Value} {x:List UInt8} {n k:Nat} (h:H l σ) (hb:Z2 σ v x) (hk:1≤k∧k≤8) (hx:x.length≤1099511627000)
 (hQ:∀ w σ',H (A5 AI 1 w (x.length+k) (bv (x++be n k))::l) σ'→Q (.ret w) σ'):E HY [v,.int .u64 n,.int .i64 k] σ Q:=by
 apply pE; unfold bQ
 obtain ⟨a,c,rfl⟩:=HX hb
 refine O.up (O.L7 h (RL hb).src (by omega) ?_)
 intro v1 σ1 h1
 replace h1:=h1.unsnoc
 rw [B4]
 refine zA ?_
 rw [E8]
 refine C8 (by simp; omega) ?_
 refine GA ((k:Int) - 1) (by omega) ?_
 refine ⟨fun m v j τ=>∃ ys,m≤k∧j=(m:Int) - 1∧ys.length+m=k∧ys++be n m=be n k∧H (A5 AI 1 v (x.length+ys.length) (bv (x++ys))::l) τ,⟨k,[],by omega,by omega,by simp,rfl,by simpa using h1⟩,?_⟩
 rintro m v j τ ⟨ys,hm,rfl,hyl,hys,h2⟩
 unfold TH
 refine AT (fun hj=>?_) (fun hj=>?_)
 ·obtain ⟨i,rfl⟩:∃ i,m=i+1:=⟨m - 1,by omega⟩
  refine GA ((8*i:Nat):Int) (by omega) ?_
  refine YG ((8*i:Nat):Int) (by omega) ?_
  rw [ADP n (8*i) (by omega),AH]
  have e8:n / 2 ^ (8*i)=n / 256 ^ i:=by rw [Nat.pow_mul]
  rw [e8]
  refine bi (ABW _) ?_
  refine nw h2 ?_
  intro b σ2 h3
  have hs:DC 1 (.slice (some ⟨b,0,none⟩) 1 1) σ2=some (1,[.int .u8 ((UInt8.ofNat (n / 256 ^ i)).toNat:Int)]):=by
   rw [E3 (h3.row 0 rfl) (by simp)]; simp
  refine DS h3 1 rfl hs (by omega) (by omega) rfl ?_
  intro v' σ3 h4
  refine GA ((i:Int) - 1) (by omega) ?_
  refine ⟨i,by omega,ys++[UInt8.ofNat (n / 256 ^ i)],by omega,rfl,by simp; omega,?_,?_⟩
  ·rw [← hys,be]; simp
  ·simp only [List.set_cons_succ,List.set_cons_zero] at h4
   have h5:=h4.tail
   have e:bv (x++ys)++[Value.int .u8 ((UInt8.ofNat (n / 256 ^ i)).toNat:Int)]=bv (x++(ys++[UInt8.ofNat (n / 256 ^ i)])):=by simp [bv,yD]
   rw [e] at h5
   simpa [Nat.add_assoc] using h5
 ·have h0:m=0:=by omega
  subst h0
  simp only [be,List.append_nil] at hys
  rw [hys,GB] at h2
  exact hQ _ _ h2
theorem ABI (n:Nat) (b:UInt8) (hn:n*256+256≤18446744073709551616):((BitVec.ofInt 64 ((n*256:Nat):Int) ||| BitVec.ofInt 64 ((b.toNat:Nat):Int)).toNat:Int)=((n*256+b.toNat:Nat):Int):=by
 have:=b.toNat_lt
 have h1:(BitVec.ofInt 64 ((n*256:Nat):Int)).toNat=n*256:=by rw [BitVec.ofInt_natCast,BitVec.toNat_ofNat,Nat.mod_eq_of_lt (by omega)]
 have h2:(BitVec.ofInt 64 ((b.toNat:Nat):Int)).toNat=b.toNat:=by rw [BitVec.ofInt_natCast,BitVec.toNat_ofNat,Nat.mod_eq_of_lt (by omega)]
 rw [BitVec.toNat_or,h1,h2]
 have h3:=Nat.shiftLeft_add_eq_or_of_lt (i:=8) (b:=b.toNat) (by omega) n
 rw [Nat.shiftLeft_eq] at h3
 have e:(2:Nat) ^ 8=256:=rfl
 rw [e] at h3
 rw [← h3]
theorem ABM {v:Value} {x:List UInt8} {k:Nat} (hb:Z2 σ v x) (hk:1≤k∧k≤8) (hx:x.length≤1099511627000)
 (hno:x.length<k→Q (.ret (.tuple #[.int .u64 0,.int .i64 4])) σ)
 (hQ:k≤x.length→Q (.ret (.tuple #[.int .u64 (LF (x.take k)),.int .i64 0])) σ):E JE [v,.int .i64 k] σ Q:=by
 apply o8; unfold bN
 refine zA ?_
 rw [E8]
 refine C8 (by simp; omega) ?_
 have hlen:BJ v=some (.int .i64 x.length):=by obtain ⟨a,c,rfl⟩:=HX hb; rfl
 rw [hlen,AH]
 refine AT (fun hlt=>hno (by omega)) fun hge=>?_
 obtain ⟨w,hw,hb2⟩:=xH (k:=.i64) (a:=k) hb (by omega) (by omega)
 have hwl:BJ w=some (.int .i64 k):=by
  obtain ⟨a,c,rfl⟩:=HX hb2
  rw [List.length_take,Nat.min_eq_left (by omega)]; rfl
 rw [hw,AF,hwl,AH]
 refine ⟨fun m n j τ=>τ=σ∧∃ i:Nat,j=i∧i≤k∧m=k - i∧n=LF (x.take i),⟨k,rfl,0,rfl,by omega,by omega,by simp [LF]⟩,?_⟩
 rintro m n j τ ⟨rfl,i,rfl,hik,rfl,rfl⟩
 unfold TT
 refine AT (fun hlt=>?_) (fun hge=>?_)
 ·have hik2:i<k:=by omega
  have hxi:(x.take k)[i]?=some x[i]:=by rw [List.getElem?_take,if_pos hik2,List.getElem?_eq_getElem (by omega)]
  obtain ⟨p,hp,hl⟩:=(RL hb2).elem i x[i] hxi
  rw [hp,AF,hl]
  have hlt2:LF (x.take i)<256 ^ i:=by have:=gN (x.take i); rwa [List.length_take,Nat.min_eq_left (by omega)] at this
  have h7:(256:Nat) ^ i≤256 ^ 7:=Nat.pow_le_pow_right (by omega) (by omega)
  have h77:(256:Nat) ^ 7=72057594037927936:=by decide
  have hbl:=(x[i]).toNat_lt
  show A3 .u8 (some (.int .u8 (x[i].toNat:Int))) _
  rw [AH,AE9 _ (by omega),AH]
  refine YG ((x[i].toNat:Nat):Int) (by omega) ?_
  rw [ABI _ _ (by omega)]
  refine YG ((LF (x.take i)*256+x[i].toNat:Nat):Int) (by omega) ?_
  refine GA ((i+1:Nat):Int) (by omega) ?_
  refine ⟨k - (i+1),by omega,rfl,i+1,rfl,by omega,rfl,?_⟩
  rw [List.take_add_one,List.getElem?_eq_getElem (by omega),Option.toList_some,xD]
 ·have:i=k:=by omega
  subst this
  exact hQ (by omega)
def ADi (n:Int):Int :=
 Y3 ((BitVec.ofInt 32 (n.fdiv 2) ^^^ BitVec.ofInt 32 (Y3 ((BitVec.ofInt 32 2197175160 &&& BitVec.ofInt 32 (Y3 (0 - Y3 ((BitVec.ofInt 32 n &&& BitVec.ofInt 32 1).toNat)))).toNat))).toNat)
def uI (n:Int):Nat→Int
 | 0=>n
 | k+1=>uI (ADi n) k
def ADw (n:Int) (b:UInt8):Int:=uI (Y3 ((BitVec.ofInt 32 n ^^^ BitVec.ofInt 32 (Y3 ((b.toNat:Nat):Int))).toNat)) 8
def zD (n:Int):Int:=IntKind.u32.wrap (BitVec.ofInt IntKind.u32.bits (if IntKind.u32.signed then -1 else IntKind.u32.max) ^^^ BitVec.ofInt IntKind.u32.bits n).toNat
def xJ (x:List UInt8):Int:=zD (x.foldl ADw (zD 0))
theorem xV (n:Int):0≤Y3 n∧Y3 n<4294967296:=by
 show 0≤IntKind.u32.wrap n∧IntKind.u32.wrap n<4294967296
 simp [IntKind.wrap,IntKind.bits,IntKind.signed]
 omega
theorem pD (x:List UInt8):0≤xJ x∧xJ x<4294967296:=xV _
def gX (x:List UInt8):Nat:=(xJ x).toNat
theorem rZ (x:List UInt8):xJ x=(gX x:Nat):=by unfold gX; have:=pD x; omega
theorem AAd {n:Int} (hQ:Q (.ret (.int .u32 (uI n 8))) σ):E SA [.int .u32 n] σ Q:=by
 apply kY; unfold ZE
 refine ⟨fun m a j τ=>τ=σ∧m≤8∧j=8 - (m:Int)∧uI a m=uI n 8,⟨8,rfl,by omega,by omega,rfl⟩,?_⟩
 rintro m a j τ ⟨rfl,hm,rfl,he⟩
 unfold SK
 refine AT (fun hj=>?_) (fun hj=>?_)
 ·obtain ⟨i,rfl⟩:∃ i,m=i+1:=⟨m - 1,by omega⟩
  have e:BA (some (.int .u32)) .shr (.int .u32 a) (.int .u64 1)=some (.int .u32 (a.fdiv 2)):=rfl
  rw [e,AH]
  unfold Bi
  refine ⟨i,by omega,rfl,by omega,?_,he⟩
  rw [qR (by omega)]; omega
 ·have:m=0:=by omega
  subst this
  rw [uI] at he
  rw [he]; exact hQ
theorem ADg {v:Value} {x:List UInt8} (hb:Z2 σ v x) (hx:x.length≤1099511627000) (hQ:Q (.ret (.int .u32 (xJ x))) σ):E U9 [v] σ Q:=by
 apply vJ; unfold iT
 apply rH; unfold fO
 have hlen:BJ v=some (.int .i64 x.length):=by obtain ⟨a,c,rfl⟩:=HX hb; rfl
 have e0:pJ .xor (.int .u32 0)=some (.int .u32 (zD 0)):=rfl
 rw [e0,AH,hlen,AH]
 refine ⟨fun m a j τ=>τ=σ∧∃ i:Nat,j=i∧i≤x.length∧m=x.length - i∧a=(x.take i).foldl ADw (zD 0),⟨x.length,rfl,0,rfl,by omega,by omega,rfl⟩,?_⟩
 rintro m a j τ ⟨rfl,i,rfl,hi,rfl,rfl⟩
 unfold WA
 refine AT (fun hlt=>?_) (fun hge=>?_)
 ·have hi2:i<x.length:=by omega
  obtain ⟨p,hp,hl⟩:=(RL hb).elem i x[i] (List.getElem?_eq_getElem hi2)
  rw [hp,AF,hl]
  show A3 .u8 (some (.int .u8 (x[i].toNat:Int))) _
  rw [AH]
  unfold Bi
  refine AAd ?_
  rw [A6]
  refine ⟨x.length - (i+1),by omega,rfl,i+1,?_,by omega,rfl,?_⟩
  ·rw [qR (by omega)]; omega
  ·rw [List.take_add_one,List.getElem?_eq_getElem hi2,Option.toList_some,List.foldl_append]; rfl
 ·have:i=x.length:=by omega
  subst this
  have e1:∀ a,pJ .xor (.int .u32 a)=some (.int .u32 (zD a)):=fun a=>rfl
  rw [e1,AH,A6,List.take_length]
  exact hQ
end Go.Ax.C
namespace Go.Ax
open Go.RowKit
theorem Ev.opened {P:Program} {f:FuncId} {rest:List Value} {σ:AHeap} {Q:RK} {b n c:Nat} {row:List Value} {e:TypeId} (hg:σ.get b=some (.cells row e true)) (hc:AX≤c) (hz:c / AX=1) (hl:row.length=c % AX)
 (hf:∃ fn,P.funcs[f]?=some fn∧(fn.name == "runtime.NumGoroutine")=false)
 (h:∀ c1 k,c % AX≤c1→c1≤row.length+k→c1≤9223372036854775807→Ev P f (.slice (some ⟨b,0,none⟩) n c1::rest) (σ.set b (.cells (row++List.replicate k undef) e false)) Q) :
 Ev P f (.slice (some ⟨b,0,none⟩) n c::rest) σ Q:=by
 intro B w0 ρ w args' hr ha
 obtain ⟨v',l2,rfl,hv,hrest⟩:=ha.cons_inv
 cases hv with
 | slice _ _ _ _ c' r hr2 hcr =>
   unfold X2 at hcr
   rw [if_neg (by omega),hz] at hcr
   obtain ⟨q1,q2,q3⟩:=hcr
   obtain ⟨r0,hr0,⟨cc,fz,hh,hfz,hsz,hop,hle,hlr⟩,hB,hB2⟩:=hr.obj b _ hg
   rw [hr2] at hr0; cases hr0
   have hk:row.length+(r.n - r.s - row.length)=r.n - r.s:=by omega
   have hur:B7 B w0 ρ (σ.set b (.cells (row++List.replicate (r.n - r.s - row.length) undef) e false)) w:=by
    refine hr.update (o:=.cells row e true) hg rfl rfl hr2 ⟨cc,fz,hh,hfz,hsz,fun _=>by simp; omega,by simp; omega,?_⟩ (fun _ _=>rfl) rfl rfl rfl rfl
    have hlen:(cc.toList.drop r.s).length=r.n - r.s:=by simp; omega
    refine ⟨by simp; omega,fun i v u h1 h2=>?_⟩
    rw [List.getElem?_append] at h1
    split at h1
    ·rename_i hi
     refine hlr.2 i v u h1 ?_
     rw [List.getElem?_take] at h2 ⊢
     rw [if_pos hi]
     split at h2
     ·exact h2
     ·cases h2
    ·rw [List.getElem?_replicate] at h1
     split at h1
     ·cases h1; exact .dead _
     ·cases h1
   refine h c' (r.n - r.s - row.length) q1 (by omega) q3 B w0 ρ w _ hur (LR.cons ?_ hrest)
   refine .slice b 0 n c' c' r hr2 ?_
   unfold X2
   rw [if_pos (by unfold AX; omega)]
theorem nG {P:Program} {f:FuncId} {params results:Array TypeId} {t e:TypeId} {i:TypeInfo} (hb:yE P f (Extern.SlicesOverlaps.overlaps params results)) (ht:params[0]?=some t) (hu:P.underlying t=some (.slice e)) (hi:P.info? e=some i)
 {σ:AHeap} {Q:RK} {b1 o1 n1 c1 b2 o2 n2 c2:Nat} {x1 x2:List Value} {e1 e2:TypeId} {q1 q2:Bool} (g1:σ.get b1=some (.cells x1 e1 q1)) (g2:σ.get b2=some (.cells x2 e2 q2)) (hne:b1≠b2) (hx1:o1<x1.length) (hx2:o2<x2.length)
 (hQ:∀ b,Q (.ret (.bool b)) σ):Ev P f [.slice (some ⟨b1,o1,none⟩) n1 c1,.slice (some ⟨b2,o2,none⟩) n2 c2] σ Q:=by
 intro B w0 ρ w args' hr ha
 obtain ⟨fn,hfn,hname,hbody,hnext,hfind⟩:=hb.fn
 refine ⟨fn,hfn,hname,.inr ?_⟩
 obtain ⟨v1,l2,rfl,hv1,ha⟩:=ha.cons_inv
 obtain ⟨v2,l3,rfl,hv2,ha⟩:=ha.cons_inv
 rw [ha.nil_inv]
 cases hv1 with
 | slice _ _ _ _ c1' r1 hr1 hc1 =>
 cases hv2 with
 | slice _ _ _ _ c2' r2 hr2 hc2 =>
 obtain ⟨r0,hr0,⟨cc1,fz1,hh1,hfz1,hsz1,hop1,hle1,hlr1⟩,hB1,_⟩:=hr.obj b1 _ g1
 rw [hr1] at hr0; cases hr0
 obtain ⟨r0,hr0,⟨cc2,fz2,hh2,hfz2,hsz2,hop2,hle2,hlr2⟩,hB2,_⟩:=hr.obj b2 _ g2
 rw [hr2] at hr0; cases hr0
 have hb12:r1.b≠r2.b:=fun h=>hne (hr.inj b1 b2 _ _ r1 r2 g1 g2 rfl rfl hr1 hr2 h)
 have hnb:(r1.b != r2.b)=true:=by simpa using hb12
 have hnb':(r1.b == r2.b)=false:=by simpa using hb12
 have hf1:w.frozen? ⟨r1.b,r1.s+o1,none⟩=false:=by
  simp only [World.frozen?,hh1]; exact hfz1.at _ (by omega)
 have hf2:w.frozen? ⟨r2.b,r2.s+o2,none⟩=false:=by
  simp only [World.frozen?,hh2]; exact hfz2.at _ (by omega)
 have hs1:w.shape? r1.b=some (e1,cc1.size):=by simp [World.shape?,hh1]
 have hs2:w.shape? r2.b=some (e2,cc2.size):=by simp [World.shape?,hh2]
 obtain ⟨m1,hm1⟩:∃ m,cc1.size=m+1:=⟨cc1.size - 1,by omega⟩
 obtain ⟨m2,hm2⟩:∃ m,cc2.size=m+1:=⟨cc2.size - 1,by omega⟩
 rw [hm1] at hs1
 rw [hm2] at hs2
 have hsz:=fun (w:World)=>CD (P:=P) (w:=w) hi
 suffices hrun:∃ b w1,(Extern.SlicesOverlaps.overlaps params results #[.slice (some ⟨r1.b,r1.s+o1,none⟩) n1 c1',.slice (some ⟨r2.b,r2.s+o2,none⟩) n2 c2']).run P w=.ok (.bool b) w1∧B7 B w0 ρ σ w1 by
  obtain ⟨b,w1,h1,h2⟩:=hrun
  refine ⟨.bool b,.bool b,ρ,σ,w1,hQ b,?_,D5.refl _,h2,.bool b⟩
  rw [run_callFunc_extern hfn hname hbody hnext hfind,h1]; rfl
 have key:∃ b w1,Sem.run P (α:=Value) (do
  let some t:=params[0]? | stuck "slices.overlaps: no parameter types"
  let .slice elem ← underlying t | stuck "slices.overlaps: slice type expected"
  let size ← sizeOf elem
  match (some (⟨r1.b,r1.s+o1,none⟩:Addr)),(some (⟨r2.b,r2.s+o2,none⟩:Addr)) with
  | some a,some b =>
    if n1=0∨n2=0∨size=0 then pure (Value.bool false)
    else if a.block != b.block && (← frozen a) && (← frozen b) then unsupported .addressObserved
    else do
     if a.block != b.block then do
      noView a; noView b
      if ← mayBeOne a b then return Value.bool ((← Go.choose (.extern "sameAddr.stringBytes" 2)) == 1)
     pure (Value.bool (a.block == b.block && a.off<b.off+n2*size && b.off<a.off+n1*size))
  | _,_=>pure (Value.bool false)) w=.ok (.bool b) w1∧B7 B w0 ρ σ w1:=by
  by_cases h0:n1=0∨n2=0∨i.size=0
  ·exact ⟨false,w,by simp [ht,run_underlying hu,hsz,h0],hr⟩
  ·cases ha:w.frozen? ⟨r1.b,m1+1,none⟩ with
   | false=>exact ⟨false,w,by simp [ht,run_underlying hu,hsz,h0,hnb,hnb',frozen,noView,viewAt,mayBeOne,stringish,shape,Sem.run,hs1,hs2,hf1,hf2,ha],hr⟩
   | true =>
     cases hb:w.frozen? ⟨r2.b,m2+1,none⟩ with
     | false=>exact ⟨false,w,by simp [ht,run_underlying hu,hsz,h0,hnb,hnb',frozen,noView,viewAt,mayBeOne,stringish,shape,Sem.run,hs1,hs2,hf1,hf2,ha,hb],hr⟩
     | true=>exact ⟨_,w.drew,by
      simp [ht,run_underlying hu,hsz,h0,hnb,hnb',frozen,noView,viewAt,mayBeOne,stringish,shape,Sem.run,hs1,hs2,hf1,hf2,ha,hb]
      rfl,hr.drew⟩
 exact key
end Go.Ax
set_option maxRecDepth 100000
namespace Go.Ax.C
open Go.Proofs Go.RowKit
variable {l r m:List AJ} {σ:AHeap} {Q:RK}
def uv (xs:List Nat):List Value:=xs.map fun n=>.int .u64 (n:Nat)
@[simp] theorem wA (xs:List Nat):(uv xs).length=xs.length:=by simp [uv]
theorem NW (xs ys:List Nat):uv (xs++ys)=uv xs++uv ys:=by simp [uv]
theorem tZ (xs:List Nat) (n:Nat):uv (xs.take n)=(uv xs).take n:=by simp [uv,List.map_take]
theorem sC (xs:List Nat) (n:Nat):uv (xs.drop n)=(uv xs).drop n:=by simp [uv,List.map_drop]
theorem zC (xs:List Nat) (i n:Nat):uv (xs.set i n)=(uv xs).set i (.int .u64 (n:Nat)):=by simp [uv,List.map_set]
theorem AAE (xs:List Nat) (i:Nat):(uv xs)[i]?=xs[i]?.map fun n=>.int .u64 (n:Nat):=by simp [uv]
theorem N0 (xs:List Nat):(uv xs).all one=true:=by
 simp only [uv,List.all_map,List.all_eq_true]
 intro x _; rfl
def Us (σ:AHeap) (v:Value) (xs:List Nat):Prop:=(xs=[]∧∃ a c,v=.slice a 0 c) ∨
 ∃ b o c row,v=.slice (some ⟨b,o,none⟩) xs.length c∧xs.length≤BH c∧σ.row b=some row∧(row.drop o).take xs.length=uv xs∧o+xs.length≤row.length
theorem ZH {v:Value} {xs:List Nat} (h:Us σ v xs):∃ a c,v=.slice a xs.length c:=by
 rcases h with ⟨rfl,a,c,rfl⟩ | ⟨b,o,c,row,rfl,_⟩
 ·exact ⟨a,c,rfl⟩
 ·exact ⟨_,_,rfl⟩
theorem MV {v:Value} {xs:List Nat} (h:Us σ v xs):BJ v=some (.int .i64 xs.length):=by obtain ⟨a,c,rfl⟩:=ZH h; rfl
theorem l9 {v:Value} {xs:List Nat} (h:Us σ v xs):DC 1 v σ=some (xs.length,uv xs):=by
 rcases h with ⟨rfl,a,c,rfl⟩ | ⟨b,o,c,row,rfl,hc,h1,h2,h3⟩
 ·cases a with
  | none=>exact AA5 σ 1 c
  | some a=>exact UG σ 1 c a
 ·rw [E3 h1 (by omega),Nat.mul_one,h2]
theorem LZ {v:Value} {xs:List Nat} (h:Us σ v xs) {k x:Nat} (hk:xs[k]?=some x):∃ p,(∀ kd,AG 1 v (.int kd k)=some (.pointer (some p)))∧∀ z,AD false z (.pointer (some p)) σ=some (.int .u64 x):=by
 rcases h with ⟨rfl,_⟩ | ⟨b,o,c,row,rfl,hc,h1,h2,h3⟩
 ·simp at hk
 ·have hlt:=(List.getElem?_eq_some_iff.1 hk).1
  refine ⟨⟨b,o+k,none⟩,fun kd=>by rw [TG (by omega)]; simp,fun z=>?_⟩
  rw [BK h1]
  have:((row.drop o).take xs.length)[k]?=(uv xs)[k]?:=by rw [h2]
  rw [List.getElem?_take,if_pos hlt,List.getElem?_drop,AAE,hk] at this
  exact this
theorem eE {v:Value} {xs:List Nat} {k:Nat} {kd kd':IntKind} (h:Us σ v xs) (hk:k≤xs.length):∃ w,AY 1 v none (some (.int kd (k:Nat))) (some (.int kd' (k:Nat)))=some w∧Us σ w (xs.take k):=by
 rcases h with ⟨rfl,a,c,rfl⟩ | ⟨b,o,c,row,rfl,hc,h1,h2,h3⟩
 ·have:k=0:=by simpa using hk
  subst this
  refine ⟨.slice a 0 0,?_,.inl ⟨rfl,_,_,rfl⟩⟩
  simp [AY,bnd,IQ]
 ·have e:AY 1 (.slice (some ⟨b,o,none⟩) xs.length c) none (some (.int kd (k:Nat))) (some (.int kd' (k:Nat)))=some (.slice (some ⟨b,o,none⟩) k k):=by
   simp only [AY,IQ]
   rw [CS (y:=BH c) (by omega)]
   simp only [Option.bind_some]
   rw [CS (by simp)]
   simp [EP]
  refine ⟨_,e,?_⟩
  by_cases h0:k=0
  ·subst h0; exact .inl ⟨rfl,_,_,rfl⟩
  ·refine .inr ⟨b,o,k,row,by rw [List.length_take,Nat.min_eq_left hk],?_,h1,?_,?_⟩
   ·rw [List.length_take,Nat.min_eq_left hk]
    have:BH k=k:=by
     refine CI ?_
     have:BH c<AX:=Nat.mod_lt _ (by unfold AX; omega)
     omega
    omega
   ·rw [List.length_take,Nat.min_eq_left hk,tZ,← h2,List.take_take,Nat.min_eq_left hk]
   ·rw [List.length_take,Nat.min_eq_left hk]; omega
def ABz (row:List Value) (o:CX):Prop:=(∃ e q,o=.cells row e q)∨∃ e,o=.ro row e
def AO (v:Value) (xs:List Nat):AJ:=ex fun p:Option (Nat×Nat×Nat×List Value×CX) =>
 match p with
 | none=>IU (xs=[]∧∃ a c,v=.slice a 0 c)
 | some p=>sep (IU (v=.slice (some ⟨p.1,p.2.1,none⟩) xs.length p.2.2.1∧xs.length≤BH p.2.2.1∧(p.2.2.2.1.drop p.2.1).take xs.length=uv xs∧p.2.1+xs.length≤p.2.2.2.1.length∧ABz p.2.2.2.1 p.2.2.2.2)) (ro p.1 p.2.2.2.2)
theorem AO.dup (v:Value) (xs:List Nat):X0 (AO v xs):=X0.ex fun p=>match p with
 | none=>X0.pure _
 | some _=>X0.sep (X0.pure _) (X0.ro _ _)
theorem DF {v:Value} {xs:List Nat} (h:H (AO v xs::l) σ):Us σ v xs:=by
 obtain ⟨p,h⟩:=KN.1 h
 cases p with
 | none=>exact .inl (BZ.1 h).1
 | some p =>
   simp only [BE] at h
   obtain ⟨⟨h1,h2,h3,h4,h5⟩,h⟩:=BZ.1 h
   refine .inr ⟨p.1,p.2.1,p.2.2.1,p.2.2.2.1,h1,h2,?_,h3,h4⟩
   rcases h5 with ⟨e,q,h5⟩ | ⟨e,h5⟩
   ·rw [h5] at h; exact LJ h.rget0.1
   ·rw [h5] at h; exact kQ h.rget0.1
theorem NH {v:Value} {a:Option Addr} {c:Nat} (hv:v=.slice a 0 c) (h:H l σ):H (AO v []::l) σ:=KN.2 ⟨none,BZ.2 ⟨⟨by trivial,a,c,hv⟩,h⟩⟩
theorem gD {b o c:Nat} {xs:List Nat} {row:List Value} {e:TypeId} {q:Bool} (hc:xs.length≤BH c) (hx:(row.drop o).take xs.length=uv xs) (hl:o+xs.length≤row.length) (h:H (pt b (.cells row e q)::l) σ) :
 H (AO (.slice (some ⟨b,o,none⟩) xs.length c) xs::l) σ:=by
 refine KN.2 ⟨some (b,o,c,row,.cells row e q),?_⟩
 simp only [BE]
 exact BZ.2 ⟨⟨by trivial,hc,hx,hl,.inl ⟨e,q,rfl⟩⟩,h.freeze0⟩
theorem ZN {v:Value} {xs:List Nat} (h:H (AO v xs::l) σ):H (AO v xs::AO v xs::l) σ:=by
 have:=h.map0 (AO.dup v xs)
 rwa [BE] at this
theorem I1 {e n:Nat} {v:Value} {xs:List Nat} (h:H (A5 e 1 v n (uv xs)::l) σ):H (AO v xs::l) σ:=by
 rcases EX.1 h with ⟨⟨h0,e1,h2⟩,hh⟩ | ⟨b,c,opn,rest,h1,h2,h3,rfl,h4,h5⟩
 ·have:xs=[]:=by
   cases xs with
   | nil=>rfl
   | cons x xs=>simp [uv] at e1
  subst this
  rcases h2 with rfl | rfl
  ·exact NH rfl hh
  ·exact NH rfl hh
 ·have hn:xs.length=n:=by simpa using h2
  subst hn
  exact gD h4 (by rw [List.drop_zero,List.take_append_of_le_length (by simp),List.take_of_length_le (by simp)]) (by simp) h1
theorem zT {v:Value} {xs:List Nat} (h:H l σ) (hv:Us σ v xs) (hn:xs.length≤1099511627776)
 (hQ:∀ w σ',H (A5 AL 1 w xs.length (uv xs)::l) σ'→Q (.ret w) σ'):E CA [v] σ Q:=by
 apply KG; unfold FZ
 have hs:=l9 hv
 obtain ⟨a,c,rfl⟩:=ZH hv
 cases a with
 | none =>
   have:xs=[]:=by
    rcases hv with ⟨rfl,_⟩ | ⟨b,o,c,row,h1,_⟩
    ·rfl
    ·cases h1
   subst this
   show DJ (some (.bool true)) _
   rw [BY]
   refine IM rfl ?_
   exact hQ _ _ (h.own_nil AL 1).unsnoc
 | some a =>
   show DJ (some (.bool false)) _
   rw [BY]
   refine C8 rfl ?_
   refine DS (n:=0) (xs:=[]) (h.own_zb AL 1) l.length (by simp) hs (by omega) (by omega) (N0 _) ?_
   intro v' σ' h'
   simp only [List.set_append_right _ _ (Nat.le_refl _),Nat.sub_self,List.set_cons_zero,Nat.zero_add,List.nil_append] at h'
   exact hQ _ _ h'.unsnoc
end Go.Ax.C
set_option maxRecDepth 100000
namespace Go.Ax.C
open Go.Proofs Go.RowKit
variable {l r m:List AJ} {σ:AHeap} {Q:RK}
theorem zB {A C:List Value} {ys:List Nat} {k x:Nat} (hk:ys[k]?=some x):(A++uv ys++C)[A.length+k]?=some (.int .u64 (x:Nat)):=by
 have hlt:=(List.getElem?_eq_some_iff.1 hk).1
 rw [List.append_assoc,List.getElem?_append_right (by omega),Nat.add_sub_cancel_left,List.getElem?_append_left (by simpa using hlt),AAE,hk]; rfl
theorem t5 {A C:List Value} {ys:List Nat} {k x:Nat} (hk:k<ys.length):(A++uv ys++C).set (A.length+k) (.int .u64 (x:Nat))=A++uv (ys.set k x)++C:=by
 rw [List.append_assoc,List.set_append_right _ _ (by omega),Nat.add_sub_cancel_left,List.set_append_left _ _ (by simpa using hk),zC,List.append_assoc]
theorem ACK {b c e:Nat} {A C:List Value} {xs:List Nat} {q:Bool} (h:H (pt b (.cells (A++uv xs++C) e q)::l) σ) (hn:xs.length≤1099511627776)
 (hQ:∀ σ',H (pt b (.cells (A++uv xs.reverse++C) e q)::l) σ'→Q (.ret (.tuple #[])) σ'):E BS [.slice (some ⟨b,A.length,none⟩) xs.length c] σ Q:=by
 apply JF; unfold E7
 show A3 .i64 (some (.int .i64 xs.length)) _
 rw [AH]
 refine GA ((xs.length:Int) - 1) (by omega) ?_
 refine ⟨fun m i j τ=>∃ (k:Nat) (ys:List Nat),i=k∧j=(xs.length:Int) - 1 - k∧m=xs.length - k∧2*k≤xs.length+1∧ys.length=xs.length ∧
  (∀ t,t<xs.length→ys[t]?=if t<k∨xs.length<t+k+1 then xs[xs.length - 1 - t]? else xs[t]?)∧H (pt b (.cells (A++uv ys++C) e q)::l) τ,
  ⟨xs.length,0,xs,by simp,by simp,by simp,by omega,rfl,fun t ht=>by rw [if_neg (by omega)],h⟩,?_⟩
 rintro m i j τ ⟨k,ys,rfl,rfl,rfl,hk,hl,hy,h1⟩
 unfold EI
 refine AT (fun hlt=>?_) (fun hge=>?_)
 ·obtain ⟨jj,hjj⟩:∃ jj:Nat,(xs.length:Int) - 1 - k=jj:=⟨xs.length - 1 - k,by omega⟩
  rw [hjj]
  have hj1:jj=xs.length - 1 - k:=by omega
  have hkl:k<ys.length:=by omega
  have hjl:jj<ys.length:=by omega
  have ia:∀ t:Nat,t<xs.length→AG 1 (.slice (some ⟨b,A.length,none⟩) xs.length c) (.int .i64 (t:Nat))=some (.pointer (some ⟨b,A.length+t,none⟩)):=fun t ht=>by
   rw [TG (by omega)]; simp
  rw [ia jj (by omega),AF,BK (h1.row 0 rfl),zB (List.getElem?_eq_getElem hjl),AH,ia k (by omega),AF,BK (h1.row 0 rfl),zB (List.getElem?_eq_getElem hkl),AH,AF]
  refine E9 h1 0 rfl rfl (by simp; omega) ?_
  intro σ1 h2
  rw [List.set_cons_zero,t5 hkl] at h2
  rw [AF]
  refine E9 h2 0 rfl rfl (by simp; omega) ?_
  intro σ2 h3
  rw [List.set_cons_zero,t5 (by simpa using hjl)] at h3
  refine GA ((k+1:Nat):Int) (by omega) ?_
  refine GA ((xs.length:Int) - 1 - (k+1:Nat)) (by omega) ?_
  refine ⟨xs.length - (k+1),by omega,k+1,_,rfl,rfl,rfl,by omega,by simp [hl],fun t ht=>?_,h3⟩
  have e1:ys[k]=xs[k]:=by
   have:=hy k (by omega)
   rw [if_neg (by omega),List.getElem?_eq_getElem hkl,List.getElem?_eq_getElem (by omega)] at this
   exact Option.some.inj this
  have e2:ys[jj]=xs[jj]:=by
   have:=hy jj (by omega)
   rw [if_neg (by omega),List.getElem?_eq_getElem hjl,List.getElem?_eq_getElem (by omega)] at this
   exact Option.some.inj this
  rw [e1,e2]
  by_cases ht1:t=jj
  ·subst ht1
   rw [List.getElem?_set_self (by simpa using hjl),if_pos (by omega),List.getElem?_eq_getElem (by omega)]
   congr 2; omega
  ·rw [List.getElem?_set_ne (Ne.symm ht1)]
   by_cases ht2:t=k
   ·subst ht2
    rw [List.getElem?_set_self (by simpa using hkl),if_pos (by omega),List.getElem?_eq_getElem (by omega)]
    congr 2
   ·rw [List.getElem?_set_ne (Ne.symm ht2),hy t ht]
    by_cases hc:t<k∨xs.length<t+k+1
    ·rw [if_pos hc,if_pos (by omega)]
    ·rw [if_neg hc,if_neg (by omega)]
 ·refine hQ τ ?_
  have:ys=xs.reverse:=by
   apply List.ext_getElem?
   intro t
   by_cases ht:t<xs.length
   ·rw [hy t ht,List.getElem?_reverse ht]
    by_cases hc:t<k∨xs.length<t+k+1
    ·rw [if_pos hc]
    ·rw [if_neg hc]
     congr 1; omega
   ·rw [List.getElem?_eq_none (by omega),List.getElem?_eq_none (by simp; omega)]
  rw [← this]; exact h1
theorem RJ {b o n c lo:Nat} {k:IntKind} (hc:c<AX) (h:lo<c) (hn:lo≤n) (hnc:n≤c):AY 1 (.slice (some ⟨b,o,none⟩) n c) (some (.int k (lo:Nat))) none none=some (.slice (some ⟨b,o+lo,none⟩) (n - lo) (c - lo)):=by
 simp only [AY,IQ]
 simp only [Option.bind_some]
 rw [CS (by omega)]
 simp only [Option.bind_some,Int.toNat_natCast]
 rw [if_pos hc,if_pos hnc,if_neg (by omega)]
 simp [EP]
theorem wV {b o n c hi:Nat} {k:IntKind} (hc:c<AX) (h:hi≤c):AY 1 (.slice (some ⟨b,o,none⟩) n c) none (some (.int k (hi:Nat))) none=some (.slice (some ⟨b,o,none⟩) hi c):=by
 simp only [AY,IQ]
 rw [CI hc,CS (by omega)]
 simp only [Option.bind_some,Int.toNat_natCast]
 rw [if_pos hc,if_pos h]
 simp [EP]
theorem AFA {b c e:Nat} {A C:List Value} {xs:List Nat} {x:Nat} {q:Bool} (h:H (pt b (.cells (A++uv (xs++[x])++C) e q)::l) σ) (hn:xs.length<1099511627776) (hc:c<AX) (hc2:xs.length+1≤c)
 (hQ:∀ σ',H (pt b (.cells (A++uv (x::xs)++C) e q)::l) σ'→Q (.ret (.tuple #[])) σ'):E EN [.slice (some ⟨b,A.length,none⟩) (xs.length+1) c,.int .i64 1] σ Q:=by
 apply NI; unfold HI
 show A3 .i64 (some (.int .i64 ((xs.length+1:Nat):Int))) _
 rw [AH]
 refine GA (xs.length:Int) (by omega) ?_
 apply N4; unfold H4
 rw [wV hc (by omega),AF]
 have h0:H (pt b (.cells (A++uv xs++(uv [x]++C)) e q)::l) σ:=by
  have e:A++uv (xs++[x])++C=A++uv xs++(uv [x]++C):=by simp [NW]
  rw [← e]; exact h
 refine ACK h0 (by omega) ?_
 intro σ1 h1
 rw [B5,RJ hc (by omega) (by omega) hc2,AF]
 have h2:H (pt b (.cells ((A++uv xs.reverse)++uv [x]++C) e q)::l) σ1:=by
  have e:A++uv xs.reverse++(uv [x]++C)=(A++uv xs.reverse)++uv [x]++C:=by simp
  rw [← e]; exact h1
 have el:A.length+xs.length=(A++uv xs.reverse).length:=by simp
 have el2:xs.length+1 - xs.length=[x].length:=by simp
 rw [el,el2]
 refine ACK h2 (by simp) ?_
 intro σ2 h3
 rw [B5]
 have h4:H (pt b (.cells (A++uv (xs.reverse++[x])++C) e q)::l) σ2:=by
  have e:(A++uv xs.reverse)++uv [x].reverse++C=A++uv (xs.reverse++[x])++C:=by simp [NW]
  rw [← e]; exact h3
 have el3:xs.length+1=(xs.reverse++[x]).length:=by simp
 rw [el3]
 refine ACK h4 (by simp; omega) ?_
 intro σ3 h5
 rw [B5,B5]
 refine hQ σ3 ?_
 have e:(xs.reverse++[x]).reverse=x::xs:=by simp
 rw [e] at h5
 exact h5
theorem AAu:yE P IV (Extern.SlicesOverlaps.overlaps #[TY,TY] #[CG]):=⟨Tryz.f168,by kernel_rfl,by kernel_rfl,by kernel_rfl,by kernel_rfl,by kernel_rfl⟩
theorem fR {A B:AJ} {X:AJ} (h:H (X::A::B::l) σ):H (X::l) σ:=(((h.perm (.swap _ _ _)).tail).perm (.swap _ _ _)).tail
theorem XC (xs:List Nat) (i:Nat) (rest:List Value):uv xs++rest=uv (xs.take i)++(uv (xs.drop i)++rest):=by
 rw [← List.append_assoc,← NW,List.take_append_drop]
theorem dL {b c e i x:Nat} {xs:List Nat} {rest:List Value} {q:Bool} (h:H (pt b (.cells (uv (xs.take i)++(uv (x::xs.drop i)++rest)) e q)::l) σ) (hi:i≤xs.length) (hc:xs.length+1≤BH c) :
 H (AO (.slice (some ⟨b,0,none⟩) (xs.length+1) c) (xs.take i++x::xs.drop i)::l) σ:=by
 have hl:(xs.take i++x::xs.drop i).length=xs.length+1:=by simp; omega
 have:=gD (o:=0) (xs:=xs.take i++x::xs.drop i) (c:=c) (by omega) (by
  rw [List.drop_zero,← List.append_assoc,← NW,List.take_append_of_le_length (by simp),List.take_of_length_le (by simp)]) (by simp; try omega) h
 rw [hl] at this
 exact this
set_option maxHeartbeats 1000000 in
theorem rY {b c e vb i x:Nat} {xs:List Nat} {rest:List Value} {q:Bool} (h:H (pt b (.cells (uv xs++rest) e q)::pt vb (.cells (uv [x]) AL false)::l) σ) (hn:xs.length≤1099511627000) (hco:c<AX) (hi:i<xs.length) (hnc:xs.length≤c) (hcr:c≤xs.length+rest.length)
 (hQ:∀ w σ',H (AO w (xs.take i++x::xs.drop i)::l) σ'→Q (.ret w) σ'):E B8 [.slice (some ⟨b,0,none⟩) xs.length c,.int .i64 i,.slice (some ⟨vb,0,none⟩) 1 1] σ Q:=by
 have hsl:∀ (τ:AHeap) (n:Nat) (L:List AJ),H L τ→(∃ k:Nat,L[k]?=some (pt vb (.cells (uv [x]) AL false)))→1≤n→DC 1 (.slice (some ⟨vb,0,none⟩) (Nat.min 1 n) 1) τ=some (1,uv [x]):=by
  intro τ n L hL ⟨k,hk⟩ hn1
  have:Nat.min 1 n=1:=Nat.min_eq_left hn1
  rw [this,E3 (hL.row k hk) (by simp)]; rfl
 apply FP; unfold C6
 rw [RJ hco (by omega) (by omega) hnc,AF]
 show A3 .i64 (some (.int .i64 1)) _
 rw [AH]
 refine C8 rfl ?_
 show A3 .i64 (some (.int .i64 xs.length)) _
 rw [AH]
 refine AT (fun g=>absurd g (by omega)) fun _=>?_
 refine GA ((xs.length:Int)+1) (by omega) ?_
 have hcap:mQ (.slice (some ⟨b,0,none⟩) xs.length c)=some (.int .i64 c):=by
  simp only [mQ]
  have:Nat.blt c AX=true:=by simpa [Nat.blt_eq] using hco
  rw [this]; rfl
 rw [hcap,AH]
 have hdl:(uv (xs.drop i)).length=xs.length - i:=by simp
 have htl:(uv (xs.take i)).length=i:=by simp; omega
 refine AT (fun hlt=>?_) (fun hge=>?_)
 ·-- a new row
  rw [wV hco (by omega),AF]
  refine GA ((xs.length:Int)+1) (by omega) ?_
  refine GA ((xs.length+1 - i:Nat):Int) (by omega) ?_
  have hold:SI 1 (some ⟨b,0,none⟩) i σ=some (uv (xs.take i)):=by
   have hs:=E3 (z:=1) (n:=i) (o:=0) (cap:=c) (h.row 0 rfl) (by simp; omega)
   simp only [DC,Option.map_eq_some_iff,Prod.mk.injEq] at hs
   obtain ⟨y,hy,_,rfl⟩:=hs
   simp only [SI]
   rw [hy,List.drop_zero,Nat.mul_one,XC xs i,List.take_append_of_le_length (by omega),List.take_of_length_le (by omega)]
  have he:N8 AL 1 8 [.int .u64 0] (.slice (some ⟨b,0,none⟩) i c) (.int .i64 ((xs.length+1 - i:Nat):Int)) σ =
   some (.slice (some ⟨σ.size,0,none⟩) (xs.length+1) (AX*1+(xs.length+1)),σ.push (.cells (uv (xs.take i)++reps (xs.length+1 - i) [.int .u64 0]) AL true)):=by
   have e1:i+(xs.length+1 - i)=xs.length+1:=by omega
   simp only [N8,Int.toNat_natCast]
   rw [if_pos (by omega)]
   simp only [D2,e1]
   rw [if_neg (by rw [CI hco]; omega),if_pos (by omega),hold]
   simp only [Option.bind_some]
   rw [if_pos hco]
  rw [he,A4]
  have h1:=(h.push (.cells (uv (xs.take i)++reps (xs.length+1 - i) [.int .u64 0]) AL true)).unsnoc
  generalize σ.size=B at h1 ⊢
  generalize σ.push (.cells (uv (xs.take i)++reps (xs.length+1 - i) [.int .u64 0]) AL true)=σ1 at h1 ⊢
  have hrl:(reps (xs.length+1 - i) [Value.int .u64 0]).length=xs.length+1 - i:=by rw [PG]; simp
  generalize reps (xs.length+1 - i) [Value.int .u64 0]=Z at h1 hrl
  have hcap2:GP 1 (xs.length+1) (AX*1+(xs.length+1)):=GP.open' (by unfold AX; omega)
  obtain ⟨c1,s1,_⟩:=NY (b:=B) (o:=0) (k:=.i64) (lo:=((i:Nat):Int)) hcap2 (by omega)
  simp only [Int.toNat_natCast,Nat.mul_one] at s1
  simp only []
  rw [Nat.mul_one,s1,AF]
  refine UZ h1 0 (o:=0+i) rfl (hsl σ1 _ _ h1 ⟨2,rfl⟩ (by omega)) (N0 _) (by simp; omega) ?_
  intro σ2 h2
  simp only [List.set_cons_zero] at h2
  rw [Nat.zero_add,HV _ _ _ _ htl.symm (by simp; omega)] at h2
  refine GA ((i+1:Nat):Int) (by omega) ?_
  obtain ⟨c2,s2,_⟩:=NY (b:=B) (o:=0) (k:=.i64) (lo:=((i+1:Nat):Int)) hcap2 (by omega)
  simp only [Int.toNat_natCast,Nat.mul_one] at s2
  rw [s2,AF,AF]
  have hs3:DC 1 (.slice (some ⟨b,0+i,none⟩) (Nat.min (xs.length - i) (xs.length+1 - (i+1))) (c - i)) σ2=some (xs.length - i,uv (xs.drop i)):=by
   have:Nat.min (xs.length - i) (xs.length+1 - (i+1))=xs.length - i:=Nat.min_eq_left (by omega)
   rw [this,E3 (h2.row 1 rfl) (by simp; omega),Nat.zero_add,Nat.mul_one,XC xs i rest,List.drop_append_of_le_length (by omega),List.drop_of_length_le (by omega),List.nil_append,List.take_append_of_le_length (by omega),List.take_of_length_le (by omega)]
  refine UZ h2 0 (o:=0+(i+1)) rfl hs3 (N0 _) (by simp; omega) ?_
  intro σ3 h3
  simp only [List.set_cons_zero] at h3
  rw [Nat.zero_add,HV _ _ _ _ (by simp; omega) (by simp; omega)] at h3
  have h4:=fR h3
  have e4:uv (xs.take i)++uv [x]++uv (xs.drop i)++((Z.drop (uv [x]).length).drop (uv (xs.drop i)).length)=uv (xs.take i)++(uv (x::xs.drop i)++((Z.drop (uv [x]).length).drop (uv (xs.drop i)).length)):=by
   have:uv (x::xs.drop i)=uv [x]++uv (xs.drop i):=rfl
   rw [this]; simp
  rw [e4] at h4
  refine hQ _ _ (dL h4 (by omega) ?_)
  unfold BH AX; omega
 ·refine GA ((xs.length+1:Nat):Int) (by omega) ?_
  rw [wV hco (by omega),AF]
  refine GA ((i+1:Nat):Int) (by omega) ?_
  rw [RJ hco (by omega) (by omega) (by omega),AF]
  obtain ⟨y,rest,rfl⟩:∃ y r2,rest=y::r2:=by
   cases rest with
   | nil=>simp at hcr; omega
   | cons y r2=>exact ⟨y,r2,rfl⟩
  rw [gU]
  refine nG (o1:=0) (o2:=0+(i+1)) AAu (t:=TY) (e:=AL) rfl (by kernel_rfl) (i:=(P.info? AL).get!) (by kernel_rfl) (h.perm (.swap _ _ _)).get0.1 h.get0.1 (Ne.symm h.ne2) (by simp) (by simp; omega) ?_
  intro ov
  rw [E8,← gU]
  refine iK (fun hov=>?_) (fun hov=>?_)
  ·refine GA ((i+1:Nat):Int) (by omega) ?_
   rw [RJ hco (by omega) (by omega) (by omega),AF,RJ hco (by omega) (by omega) (by omega),AF]
   have hs3:DC 1 (.slice (some ⟨b,0+i,none⟩) (Nat.min (xs.length+1 - i) (xs.length+1 - (i+1))) (c - i)) σ=some (xs.length - i,uv (xs.drop i)):=by
    have:Nat.min (xs.length+1 - i) (xs.length+1 - (i+1))=xs.length - i:=by simp only [Nat.min_def]; split<;>omega
    rw [this,E3 (h.row 0 rfl) (by simp; omega),Nat.zero_add,Nat.mul_one,XC xs i,List.drop_append_of_le_length (by omega),List.drop_of_length_le (by omega),List.nil_append,List.take_append_of_le_length (by omega),List.take_of_length_le (by omega)]
   refine UZ h 0 (o:=0+(i+1)) rfl hs3 (N0 _) (by simp; omega) ?_
   intro σ2 h2
   simp only [List.set_cons_zero] at h2
   rw [Nat.zero_add,XC xs (i+1),HV _ _ _ _ (by simp; omega) (by simp; omega)] at h2
   have e2:uv (xs.take (i+1))++uv (xs.drop i)++(uv (xs.drop (i+1))++y::rest).drop (uv (xs.drop i)).length=uv (xs.take i)++(uv [xs[i]]++(uv (xs.drop i)++rest)):=by
    have a1:uv (xs.take (i+1))=uv (xs.take i)++uv [xs[i]]:=by rw [← NW,List.take_append_getElem hi]
    have a2:(uv (xs.drop (i+1))++y::rest).drop (uv (xs.drop i)).length=rest:=by
     have:(uv (xs.drop i)).length=(uv (xs.drop (i+1))++[y]).length:=by simp; omega
     rw [this,show uv (xs.drop (i+1))++y::rest=(uv (xs.drop (i+1))++[y])++rest by simp,List.drop_left]
    rw [a1,a2]; simp
   rw [e2] at h2
   simp only []
   rw [AF]
   refine UZ h2 0 (o:=0+i) rfl (hsl σ2 _ _ h2 ⟨1,rfl⟩ (by omega)) (N0 _) (by simp; omega) ?_
   intro σ3 h3
   simp only [List.set_cons_zero] at h3
   rw [Nat.zero_add,HV _ _ _ _ htl.symm (by simp)] at h3
   have e3:uv (xs.take i)++uv [x]++(uv [xs[i]]++(uv (xs.drop i)++rest)).drop (uv [x]).length=uv (xs.take i)++(uv (x::xs.drop i)++rest):=by
    have:uv (x::xs.drop i)=uv [x]++uv (xs.drop i):=rfl
    rw [this,show (uv [x]).length=(uv [xs[i]]).length from rfl,List.drop_left]; simp
   rw [e3] at h3
   refine hQ _ _ (dL (h3.perm (.swap _ _ _)).tail (by omega) ?_)
   rw [CI hco]; omega
  ·rw [RJ hco (by omega) (by omega) (by omega),AF]
   refine UZ h 0 (o:=0+xs.length) rfl (hsl σ _ _ h ⟨1,rfl⟩ (by omega)) (N0 _) (by simp) ?_
   intro σ2 h2
   simp only [List.set_cons_zero] at h2
   rw [Nat.zero_add,HV _ _ _ _ (by simp) (by simp)] at h2
   rw [RJ hco (by omega) (by omega) (by omega),AF]
   have e2:uv xs++uv [x]++(y::rest).drop (uv [x]).length=uv (xs.take i)++uv (xs.drop i++[x])++rest:=by
    have:=XC xs i (uv [x]++rest)
    rw [NW]
    simp only [List.append_assoc] at this ⊢
    rw [← this]; rfl
   rw [e2] at h2
   have el:xs.length+1 - i=(xs.drop i).length+1:=by simp; omega
   have ei:(0+i)=(uv (xs.take i)).length:=by omega
   rw [el,ei]
   refine AFA h2 (by simp; omega) (by omega) (by simp; omega) ?_
   intro σ3 h3
   rw [B5]
   rw [List.append_assoc] at h3
   refine hQ _ _ (dL (h3.perm (.swap _ _ _)).tail (by omega) ?_)
   rw [CI hco]; omega
theorem AEo {s:Value} {vb i x:Nat} {xs:List Nat} (h:H (A5 AL 1 s xs.length (uv xs)::pt vb (.cells (uv [x]) AL false)::l) σ) (hn:xs.length≤1099511627000) (hi:i≤xs.length)
 (hQ:∀ w σ',H (AO w (xs.take i++x::xs.drop i)::l) σ'→Q (.ret w) σ'):E B8 [s,.int .i64 i,.slice (some ⟨vb,0,none⟩) 1 1] σ Q:=by
 rcases Nat.lt_or_ge i xs.length with hlt | hge
 ·rcases EX.1 h with ⟨⟨h0,_⟩,_⟩ | ⟨b,c,opn,rest,h1,h2,h3,rfl,h4,h5⟩
  ·omega
  ·rcases h5 with ⟨rfl,hc1,hc2⟩ | hc
   ·rw [gU]
    have hlen:(uv xs++rest).length=c % AX:=by
     simp only [List.length_append,wA,h3]; unfold BH; unfold BH at h4; omega
    refine Ev.opened h1.get0.1 hc1 hc2 hlen ⟨Tryz.f134,by kernel_rfl,by kernel_rfl⟩ ?_
    intro c1 k k1 k2 k3
    rw [← gU]
    have h6:=h1.set0 (.cells ((uv xs++rest)++List.replicate k undef) AL false)
    rw [List.append_assoc] at h6 ⊢
    refine rY h6 hn (by unfold AX; omega) hlt ?_ ?_ hQ
    ·unfold BH at h4; omega
    ·simp only [List.length_append,List.length_replicate] at k2 ⊢
     simp only [wA] at k2; omega
   ·have hkc:=CI hc
    rw [hkc] at h3 h4
    exact rY h1 hn hc hlt h4 (by omega) hQ
 ·have hie:i=xs.length:=by omega
  subst hie
  have hsl:∃ w,AY 1 s (some (.int .i64 (xs.length:Nat))) none none=some w:=by
   rcases EX.1 h with ⟨⟨h0,_,h2⟩,_⟩ | ⟨b,c,opn,rest,h1,h2,h3,rfl,h4,h5⟩
   ·rw [h0]
    rcases h2 with rfl | rfl
    ·exact ⟨_,rfl⟩
    ·exact ⟨_,rfl⟩
   ·simp only [AY,IQ,Option.bind_some]
    rw [CS (by omega)]
    simp only [Option.bind_some,Int.toNat_natCast]
    by_cases hc:c<AX
    ·rw [if_pos hc,if_pos (by rw [CI hc] at h4; exact h4)]; exact ⟨_,rfl⟩
    ·rw [if_neg hc]
     split
     ·exact ⟨_,rfl⟩
     ·rw [if_pos trivial]; exact ⟨_,rfl⟩
  obtain ⟨w,hw⟩:=hsl
  have hlen:BJ s=some (.int .i64 xs.length):=by
   obtain ⟨_,_,a,c,rfl⟩:=h.own_src 0 rfl; rfl
  apply FP; unfold C6
  rw [hw,AF]
  show A3 .i64 (some (.int .i64 1)) _
  rw [AH]
  refine C8 rfl ?_
  rw [hlen,AH]
  refine AT (fun _=>?_) fun g=>absurd rfl g
  have hs:DC 1 (.slice (some ⟨vb,0,none⟩) 1 1) σ=some (1,uv [x]):=by rw [E3 (h.row 1 rfl) (by simp)]; rfl
  refine DS h 0 rfl hs (by omega) (by omega) (N0 _) ?_
  intro v' σ' h2
  simp only [List.set_cons_zero] at h2
  refine hQ v' σ' ?_
  rw [← NW] at h2
  have h3:=I1 h2
  have e:xs.take xs.length++x::xs.drop xs.length=xs++[x]:=by simp
  rw [e]
  exact (h3.perm (.swap _ _ _)).tail
theorem AFB {b o n c lo hi:Nat} {k k':IntKind} (hz:c<AX∨c / AX=1) (h1:lo<BH c) (h2:lo≤hi) (h3:hi≤BH c) :
 AY 1 (.slice (some ⟨b,o,none⟩) n c) (some (.int k (lo:Nat))) (some (.int k' (hi:Nat))) none=some (.slice (some ⟨b,o+lo,none⟩) (hi - lo) (c - lo)):=by
 simp only [AY,IQ]
 rw [CS (by omega)]
 simp only [Option.bind_some,Int.toNat_natCast]
 rw [CS (by omega)]
 simp only [Option.bind_some,Int.toNat_natCast]
 by_cases hc:c<AX
 ·rw [CI hc] at h1 h3
  rw [if_pos hc,if_pos h3,if_neg (by omega)]; simp [EP]
 ·rw [if_neg hc,if_pos ⟨h1,hz.resolve_left hc⟩]; simp [EP]
theorem ADt {b o n c hi:Nat} {k':IntKind} (hz:c<AX∨c / AX=1) (h1:0<BH c) (h3:hi≤BH c) :
 AY 1 (.slice (some ⟨b,o,none⟩) n c) none (some (.int k' (hi:Nat))) none=some (.slice (some ⟨b,o,none⟩) hi c):=by
 simp only [AY,IQ]
 rw [CS (by omega)]
 simp only [Option.bind_some,Int.toNat_natCast]
 by_cases hc:c<AX
 ·rw [CI hc] at h1 h3
  rw [if_pos hc,if_pos h3,if_neg (by omega)]; simp [EP]
 ·rw [if_neg hc,if_pos ⟨h1,hz.resolve_left hc⟩]; simp [EP]
theorem kX {b o n c lo:Nat} {k:IntKind} (hz:c<AX∨c / AX=1) (hn:n≤BH c) (h1:lo≤n) (h0:0<n) :
 ∃ a c',AY 1 (.slice (some ⟨b,o,none⟩) n c) (some (.int k (lo:Nat))) none none=some (.slice (some a) (n - lo) c')∧(lo<n→a=⟨b,o+lo,none⟩∧n - lo≤BH c'):=by
 rcases Nat.lt_or_ge lo n with hlt | hge
 ·obtain ⟨c',e,hc'⟩:=NY (b:=b) (o:=o) (k:=k) (lo:=(lo:Nat)) ⟨hn,hz⟩ (by omega)
  simp only [Int.toNat_natCast,Nat.mul_one] at e hc'
  exact ⟨_,c',e,fun _=>⟨rfl,hc'.1⟩⟩
 ·have:lo=n:=by omega
  subst this
  rw [Nat.sub_self]
  simp only [AY,IQ,Option.bind_some]
  rw [CS (by omega)]
  simp only [Option.bind_some,Int.toNat_natCast,Nat.sub_self]
  by_cases hc:c<AX
  ·rw [if_pos hc,if_pos (by rw [CI hc] at hn; exact hn)]
   split
   ·exact ⟨_,_,rfl,fun g=>absurd g (by omega)⟩
   ·exact ⟨_,_,rfl,fun g=>absurd g (by omega)⟩
  ·rw [if_neg hc]
   split
   ·exact ⟨_,_,rfl,fun g=>absurd g (by omega)⟩
   ·rw [if_pos trivial]; exact ⟨_,_,rfl,fun g=>absurd g (by omega)⟩
theorem AEs {s:Value} {i:Nat} {xs:List Nat} (h:H (A5 AL 1 s xs.length (uv xs)::l) σ) (hn:xs.length≤1099511627000) (hi:i<xs.length)
 (hQ:∀ w σ',H (AO w (xs.take i++xs.drop (i+1))::l) σ'→Q (.ret w) σ'):E C5 [s,.int .i64 i,.int .i64 ((i+1:Nat):Int)] σ Q:=by
 rcases EX.1 h with ⟨⟨h0,_⟩,_⟩ | ⟨b,c,opn,rest,h1,h2,h3,rfl,h4,h5⟩
 ·omega
 ·have hz:c<AX∨c / AX=1:=by
   rcases h5 with ⟨_,_,h5⟩ | h5
   ·exact .inr h5
   ·exact .inl h5
  apply JP; unfold FH
  show A3 .i64 (some (.int .i64 xs.length)) _
  rw [AH]
  have e1:=sL (z:=1) (b:=b) (o:=0) (n:=xs.length) (c:=c) (lo:=(i:Nat)) (hi:=((i+1:Nat):Int)) (mx:=(xs.length:Nat)) (k:=.i64) (k':=.i64) (k'':=.i64) ⟨h4,hz⟩ (by omega)
  rw [e1,AF]
  refine AT (fun g=>absurd g (by omega)) fun _=>?_
  show A3 .i64 (some (.int .i64 xs.length)) _
  rw [AH,ADt hz (by omega) (by omega),AF]
  obtain ⟨a,c',e2,ha⟩:=kX (b:=b) (o:=0) (k:=.i64) hz h4 (lo:=i+1) (by omega) (by omega)
  rw [e2,AF]
  have hs:DC 1 (.slice (some a) (xs.length - (i+1)) c') σ=some (xs.length - (i+1),uv (xs.drop (i+1))):=by
   rcases Nat.lt_or_ge (i+1) xs.length with hlt | hge
   ·obtain ⟨rfl,_⟩:=ha hlt
    rw [E3 (h1.row 0 rfl) (by simp; omega),Nat.zero_add,Nat.mul_one,XC xs (i+1),List.drop_append_of_le_length (by simp; omega),List.drop_of_length_le (by simp; omega),List.nil_append,List.take_append_of_le_length (by simp),List.take_of_length_le (by simp)]
   ·have hz0:xs.length - (i+1)=0:=by omega
    rw [hz0,UG,List.drop_of_length_le (by omega)]; rfl
  obtain ⟨σ1,hp,h6⟩:=ZV (o:=i) h1 (N0 (xs.drop (i+1))) (by simp; omega)
  have hap:BN AL 1 8 (.slice (some ⟨b,0,none⟩) i c) (.slice (some a) (xs.length - (i+1)) c') σ=some (.slice (some ⟨b,0,none⟩) (xs.length - 1) c,σ1):=by
   simp only [BN,hs,Option.bind_some,D2]
   have e3:i+(xs.length - (i+1))=xs.length - 1:=by omega
   rw [e3,if_pos (by omega),Nat.mul_one,EP,Nat.zero_add,hp]; rfl
  rw [hap,A4]
  show A3 .i64 (some (.int .i64 ((xs.length - 1:Nat):Int))) _
  rw [AH,AFB hz (by omega) (by omega) h4,AF]
  have hrow:splice (uv xs++rest) i (uv (xs.drop (i+1)))=uv (xs.take i++xs.drop (i+1))++((uv (xs.drop i)++rest).drop (uv (xs.drop (i+1))).length):=by
   rw [XC xs i,HV _ _ _ _ (by simp; omega) (by simp; omega),NW]
  rw [hrow] at h6
  obtain ⟨y,hy⟩:∃ y,(uv (xs.drop i)++rest).drop (uv (xs.drop (i+1))).length=y:=⟨_,rfl⟩
  have hyl:1≤y.length:=by rw [← hy]; simp; omega
  rw [hy] at h6
  obtain ⟨σ2,hp2,h7⟩:=ZV (o:=0+(xs.length - 1)) (ys:=reps 1 [.int .u64 0]) h6 rfl (by simp [reps]; omega)
  have hcl:aV [.int .u64 0] (.slice (some ⟨b,0+(xs.length - 1),none⟩) (xs.length - (xs.length - 1)) (c - (xs.length - 1))) σ1=some σ2:=by
   have:xs.length - (xs.length - 1)=1:=by omega
   rw [this]; exact hp2
  rw [hcl,A4]
  have hl2:(xs.take i++xs.drop (i+1)).length=xs.length - 1:=by simp; omega
  refine hQ _ _ ?_
  rw [HV _ _ _ _ (by simp; omega) (by simpa [reps] using hyl)] at h7
  have:=gD (o:=0) (c:=c) (xs:=xs.take i++xs.drop (i+1)) (by omega) (by
   rw [List.drop_zero,List.append_assoc,List.take_append_of_le_length (by simp),List.take_of_length_le (by simp)]) (by simp; try omega) h7
  rw [hl2] at this
  exact this
end Go.Ax.C
namespace Go.Ax
open Go.RowKit
class Tl (l m:List AJ):Prop where
 ex:∃ k,l.Perm (m++k)
instance (priority:=1000) Tl.refl (l:List AJ):Tl l l:=⟨[],by simp⟩
instance (priority:=900) Tl.nil (l:List AJ):Tl l []:=⟨l,.refl _⟩
instance (priority:=100) Tl.drop (A:AJ) (l m:List AJ) [h:Tl l m]:Tl (A::l) m:=⟨by
 obtain ⟨k,hk⟩:=h.ex
 exact ⟨A::k,(hk.cons A).trans List.perm_middle.symm⟩⟩
class Sb (l m:List AJ):Prop where
 ex:∃ k,l.Perm (m++k)
instance (priority:=1000) Sb.step (A:AJ) (l m r:List AJ) [h:Fnd l A r] [k:Sb r m]:Sb l (A::m):=⟨by
 obtain ⟨x,hx⟩:=k.ex
 exact ⟨x,h.perm.trans (hx.cons A)⟩⟩
instance (priority:=100) Sb.tl (l m:List AJ) [h:Tl l m]:Sb l m:=⟨h.ex⟩
theorem H.re {l m:List AJ} {σ:AHeap} (h:H l σ) [k:Sb l m]:H m σ:=by
 obtain ⟨x,hx⟩:=k.ex
 exact (h.perm hx).left
theorem Ld {l:List AJ} {σ:AHeap} {b o:Nat} {c:List Value} {v:Value} (h:H l σ) [k:pI l b c] [g:lV c o v]:AD false 1 (.pointer (some ⟨b,o,none⟩)) σ=some v:=by
 rw [BK (k.row σ h),g.eq]
section
variable {l:List AJ} {σ:AHeap} {b o:Nat} {c:List Value}
theorem LI {ik:IntKind} {n:Int} {K:Int→Prop} (h:H l σ) [pI l b c] [lV c o (.int ik n)]:A3 ik (L b o σ) K=K n:=by rw [qO h,AH]
theorem LB {n:Bool} {K:Bool→Prop} (h:H l σ) [pI l b c] [lV c o (.bool n)]:DJ (L b o σ) K=K n:=by rw [qO h,BY]
theorem LV {v:Value} {K:Value→Prop} (h:H l σ) [pI l b c] [lV c o v]:om (L b o σ) K=K v:=by rw [qO h,AF]
theorem AV {v:Value} {K:Value→Prop} (h:H l σ) [pI l b c] [lV c o v]:om (AD false 1 (.pointer (some ⟨b,o,none⟩)) σ) K=K v:=by rw [Ld h,AF]
theorem CK {k:IntKind} {n:Int} {p:Prop}:(AQ (.int k n) (.int k n)=true∧p)=p:=by simp [AQ,t3,X5]
theorem YU {n:Bool} {p:Prop}:(AQ (.bool n) (.bool n)=true∧p)=p:=by simp [AQ,t3,X5]
end
end Go.Ax
set_option maxRecDepth 100000
namespace Go.Ax.C
open Go.Proofs Go.RowKit
variable {l r m:List AJ} {σ:AHeap} {Q:RK}
structure Nd where
 leaf:Bool
 keys:List Nat
 vals:List Nat
deriving DecidableEq,Repr
theorem eX {pre:List AJ} (h:H (pre++l) σ):H l σ:=by
 induction pre with
 | nil=>exact h
 | cons A pre ih=>exact ih h.tail
theorem KO {a:Option Addr} {n c:Nat} {p:Prop}:(AQ (.slice a n c) (.slice a n c)=true∧p)=p:=by
 have:AQ (.slice a n c) (.slice a n c)=true:=by simp [AQ,t3,X5]
 simp [this]
theorem AS {v:Value} {xs:List Nat} (h:H (AO v xs::l) σ):∃ a c,v=.slice a xs.length c:=ZH (DF h)
def LX (l:List AJ) (kv vv:Value) (n:Nd):Prop:=∀ τ,H l τ→Us τ kv n.keys∧Us τ vv n.vals
theorem LX.cons {kv vv:Value} {n:Nd} {A:AJ} (h:LX l kv vv n):LX (A::l) kv vv n:=fun τ ht=>h τ ht.tail
theorem LX.two {kv vv:Value} {n:Nd}:LX (AO kv n.keys::AO vv n.vals::l) kv vv n:=fun τ ht=>⟨DF ht,DF ht.tail⟩
theorem fB {lf:Bool} {kv vv:Value} {n:Nd} (h:H l σ) (hn:LX l kv vv n) (hl:n.keys.length=n.vals.length)
 (hQ:∀ σ',H l σ'→Q (.ret (.int .i64 n.keys.length)) σ'):E GQ [.agg #[.bool lf,kv,vv]] σ Q:=by
 apply kK; unfold ZS
 refine nw h ?_
 intro b σ1 h1
 obtain ⟨hk,hv⟩:=hn σ1 h1.tail
 rw [LV h1,MV hk,AH,LV h1,MV hv,AH]
 rw [if_neg (by omega)]
 exact hQ _ h1.tail
theorem dR {lf:Bool} {kv vv:Value} {n:Nd} {g:FuncId} {caps:List Value} (h:H l σ) (hn:LX l kv vv n) (hl:n.keys.length=n.vals.length) (hlen:n.keys.length≤1000) (F:Bool→List Nat→List Nat)
 (hg:∀ kf xs pre v τ (Q':RK),xs=(if kf then n.keys else n.vals)→H (A5 AL 1 v xs.length (uv xs)::(pre++l)) τ→(∀ w τ',H (AO w (F kf xs)::(pre++l)) τ'→Q' (.ret w) τ')→E g ([]++[v,.bool kf]++caps) τ Q')
 (hQ:∀ kv' vv' σ',H (AO kv' (F true n.keys)::AO vv' (F false n.vals)::l) σ'→Q (.ret (.agg #[.bool lf,kv',vv'])) σ') :
 E FI [.agg #[.bool lf,kv,vv],.func (.func g) #[] caps.toArray] σ Q:=by
 apply o9; unfold bU
 refine nw h ?_
 intro b1 σ1 h1
 refine nw h1 ?_
 intro b3 σ2 h2
 have hn2:LX _ kv vv n:=(hn.cons (A:=pt b1 (.cells [.bool lf,kv,vv] AE false))).cons (A:=pt b3 (.cells [.bool false,.slice none 0 0,.slice none 0 0] AE false))
 rw [LB h2,LV h2,LV h2]
 refine fB h2 hn2 hl ?_
 intro σ3 h3
 obtain ⟨hk,hv⟩:=hn2 σ3 h3
 rw [A6,LB h3,LV h3]
 obtain ⟨w1,e1,u1⟩:=eE (kd:=.i64) (kd':=.i64) hk (Nat.le_refl _)
 obtain ⟨w2,e2,u2⟩:=eE (kd:=.i64) (kd':=.i64) hv (Nat.le_of_eq hl)
 rw [e1,AF,LV h3,e2,AF]
 rw [List.take_length] at u1
 rw [hl,List.take_length] at u2
 refine zT h3 u1 (by omega) ?_
 intro v23 σ4 h4
 rw [B4,LB h4,YU,LV h4]
 obtain ⟨a0,c0',rfl⟩:=ZH hv
 rw [KO]
 show E g _ _ _
 refine hg true n.keys [_,_] v23 σ4 _ rfl h4 ?_
 intro v27 σ5 h5
 have h5:H (AO v27 (F true n.keys)::pt b3 (.cells [.bool false,.slice none 0 0,.slice none 0 0] AE false)::pt b1 (.cells [.bool lf,kv,.slice a0 n.vals.length c0'] AE false)::l) σ5:=h5
 rw [B4,LB h5,YU,LV h5,KO]
 have u3:Us σ5 w2 n.vals:=by
  obtain ⟨w3,e3,u3⟩:=eE (kd:=.i64) (kd':=.i64) (hn2 σ5 h5.tail).2 (Nat.le_of_eq hl)
  rw [e2] at e3
  cases e3
  rw [hl,List.take_length] at u3
  exact u3
 refine zT h5 u3 (by omega) ?_
 intro v31 σ6 h6
 rw [B4,LB h6,YU]
 show E g _ _ _
 refine hg false n.vals [_,_,_] v31 σ6 _ rfl h6 ?_
 intro v34 σ7 h7
 have h7:H (AO v34 (F false n.vals)::AO v27 (F true n.keys)::pt b3 (.cells [.bool false,.slice none 0 0,.slice none 0 0] AE false)::pt b1 (.cells [.bool lf,kv,.slice a0 n.vals.length c0'] AE false)::l) σ7:=h7
 rw [B4,LB h7,YU]
 obtain ⟨a1,c1,rfl⟩:=AS h7
 obtain ⟨a2,c2,rfl⟩:=AS h7.tail
 refine FA rfl (FA rfl ?_)
 refine XM (vs:=[.bool lf,.slice a2 (F true n.keys).length c2,.slice a1 (F false n.vals).length c1]) h7 2 rfl rfl (by omega) rfl (by simp) ?_
 intro σ8 h8
 have h9:H (AO (.slice a1 (F false n.vals).length c1) (F false n.vals)::AO (.slice a2 (F true n.keys).length c2) (F true n.keys)::pt b3 (.cells [.bool lf,.slice a2 (F true n.keys).length c2,.slice a1 (F false n.vals).length c1] AE false)::pt b1 (.cells [.bool lf,kv,.slice a0 n.vals.length c0'] AE false)::l) σ8:=h8
 rw [WG (h9.row 2 rfl) (by simp),A4]
 have h10:=(h9.perm ((List.Perm.swap _ _ _).trans (((List.Perm.refl _).cons _).cons _)))
 refine hQ _ _ σ8 ?_
 have h11:H (pt b3 (.cells [.bool lf,.slice a2 (F true n.keys).length c2,.slice a1 (F false n.vals).length c1] AE false)::pt b1 (.cells [.bool lf,kv,.slice a0 n.vals.length c0'] AE false)::AO (.slice a2 (F true n.keys).length c2) (F true n.keys)::AO (.slice a1 (F false n.vals).length c1) (F false n.vals)::l) σ8:=by
  have:=List.perm_append_comm (l₁:=[AO (.slice a2 (F true n.keys).length c2) (F true n.keys),AO (.slice a1 (F false n.vals).length c1) (F false n.vals)]) (l₂:=[pt b3 (.cells [.bool lf,.slice a2 (F true n.keys).length c2,.slice a1 (F false n.vals).length c1] AE false),pt b1 (.cells [.bool lf,kv,.slice a0 n.vals.length c0'] AE false)])
  exact h10.perm (this.append_right l)
 exact h11.tail.tail
theorem ADV {b:Bool} {x y:Nat} (hQ:Q (.ret (.int .u64 (if b then x else y:Nat))) σ):E RD [.bool b,.int .u64 x,.int .u64 y] σ Q:=by
 apply qC; unfold gK
 cases b with
 | true=>exact hQ
 | false=>exact hQ
theorem ABK {b:Nat} {q:Bool} {c:List Value} {e:TypeId} {lf:Bool} {x y:Value} {K:Value→AHeap→Prop} (h:H (pt b (.cells c e q)::l) σ) (hc:c.length=3) (hx:one x=true) (hy:one y=true) (hK:∀ σ',H l σ'→K (.agg #[.bool lf,x,y]) σ') :
 pu (AN 3 (.pointer (some ⟨b,0,none⟩)) (.agg #[.bool lf,x,y]) σ) fun τ=>pu (AD true 3 (.pointer (some ⟨b,0,none⟩)) τ) fun v=>K v τ:=by
 refine XM (vs:=[.bool lf,x,y]) h 0 rfl rfl (by omega) (by simp only [List.all_cons,hx,hy,List.all_nil]; rfl) (by omega) ?_
 intro σ1 h1
 have hs:splice c 0 [.bool lf,x,y]=[.bool lf,x,y]:=by
  unfold splice
  rw [List.take_zero,List.nil_append,Nat.zero_add,List.drop_of_length_le (by simp; omega),List.append_nil]
 have h2:H (pt b (.cells (splice c 0 [.bool lf,x,y]) e q)::l) σ1:=h1
 rw [hs] at h2
 rw [WG (h2.row 0 rfl) (by simp),A4]
 exact hK σ1 h2.tail
def Q3 (i key val:Nat) (kf:Bool) (xs:List Nat):List Nat:=xs.take i++(if kf then key else val)::xs.drop i
theorem sK {lf:Bool} {kv vv:Value} {n:Nd} {i key val:Nat} (h:H l σ) (hn:LX l kv vv n) (hl:n.keys.length=n.vals.length) (hlen:n.keys.length≤1000) (hi:i≤n.keys.length)
 (hQ:∀ kv' vv' σ',H (AO kv' (Q3 i key val true n.keys)::AO vv' (Q3 i key val false n.vals)::l) σ'→Q (.ret (.agg #[.bool lf,kv',vv'])) σ') :
 E LU [.agg #[.bool lf,kv,vv],.int .i64 i,.int .u64 key,.int .u64 val] σ Q:=by
 apply hY; unfold WD
 refine nw h ?_
 intro b1 σ1 h1
 refine nw h1 ?_
 intro b3 σ2 h2
 refine nw h2 ?_
 intro b5 σ3 h3
 refine nw h3 ?_
 intro b7 σ4 h4
 refine nw h4 ?_
 intro b9 σ5 h5
 rw [LI h5,LB h5,LV h5,LV h5]
 refine fB h5 (((((hn.cons).cons).cons).cons).cons) hl ?_
 intro σ6 h6
 rw [A6,LI h6,CK]
 have e:(if (n.keys.length:Int)<(if 0 > (i:Int) then 0 else (i:Int)) then (n.keys.length:Int) else (if 0 > (i:Int) then 0 else (i:Int)))=i:=by
  rw [if_neg (show ¬ (0 > (i:Int)) by omega),if_neg (by omega)]
 rw [e]
 refine st h6 rfl ?_
 intro σ7 h7
 rw [LB h7,LV h7,LV h7]
 refine dR (caps:=[.pointer (some ⟨b3,0,none⟩),.pointer (some ⟨b5,0,none⟩),.pointer (some ⟨b7,0,none⟩)]) h7 (((((hn.cons).cons).cons).cons).cons) hl hlen (Q3 i key val) ?_ ?_
 ·intro kf xs pre v τ Q' hxs hτ hk
  show E LG [v,.bool kf,.pointer (some ⟨b3,0,none⟩),.pointer (some ⟨b5,0,none⟩),.pointer (some ⟨b7,0,none⟩)] τ Q'
  apply aK; unfold QR
  have hl0:=eX hτ.tail
  rw [LI hl0,LI hl0,LI hl0]
  refine ADV ?_
  rw [A6,LI hl0,CK]
  refine nw hτ ?_
  intro b13 σ8 h8
  have hl1:=eX h8.tail.tail
  rw [LI hl1,CK]
  have hxl:xs.length=n.keys.length:=by rw [hxs]; split<;>omega
  refine AEo (x:=if kf then key else val) (h8.perm (.swap _ _ _)) (by omega) (by omega) ?_
  intro w σ9 h9
  rw [B4]
  exact hk w σ9 h9
 ·intro kv' vv' σ8 h8
  rw [B4]
  obtain ⟨a1,c1,hk'⟩:=AS h8
  obtain ⟨a2,c2,hv'⟩:=AS h8.tail
  refine ABK (K:=fun v τ=>Q (.ret v) τ) (h8.re:H (pt b9 (.cells [.bool false,.slice none 0 0,.slice none 0 0] AE false)::AO kv' (Q3 i key val true n.keys)::AO vv' (Q3 i key val false n.vals)::l) σ8) rfl (by rw [hk']; rfl) (by rw [hv']; rfl) ?_
  intro σ9 h9
  exact hQ _ _ _ h9
def setF (i key val:Nat) (kf:Bool) (xs:List Nat):List Nat:=xs.set i (if kf then key else val)
theorem ACp {e:Nat} {v:Value} {xs:List Nat} {i:Nat} (h:H (A5 e 1 v xs.length (uv xs)::l) σ) (hi:i<xs.length) {K:AHeap→Prop} {y:Nat} (hK:∀ σ',H (A5 e 1 v xs.length (uv (xs.set i y))::l) σ'→K σ') :
 om (AG 1 v (.int .i64 i)) fun p=>pu (AN 1 p (.int .u64 y) σ) K:=by
 rcases EX.1 h with ⟨⟨h0,_⟩,_⟩ | ⟨b,c,opn,rest,h1,h2,h3,rfl,h4,h5⟩
 ·omega
 ·rw [TG (by omega),AF]
  have e:(⟨b,0+(i:Int).toNat*1,none⟩:Addr)=⟨b,i,none⟩:=by simp
  rw [e]
  refine NN h 0 rfl (by omega) rfl (by simpa using hi) ?_
  intro σ' h'
  rw [List.set_cons_zero,← zC] at h'
  exact hK σ' h'
theorem ABJ {lf:Bool} {kv vv:Value} {n:Nd} {i key val:Nat} (h:H l σ) (hn:LX l kv vv n) (hl:n.keys.length=n.vals.length) (hlen:n.keys.length≤1000) (hi:i<n.keys.length)
 (hQ:∀ kv' vv' σ',H (AO kv' (setF i key val true n.keys)::AO vv' (setF i key val false n.vals)::l) σ'→Q (.ret (.agg #[.bool lf,kv',vv'])) σ') :
 E K9 [.agg #[.bool lf,kv,vv],.int .i64 i,.int .u64 key,.int .u64 val] σ Q:=by
 apply p7; unfold fT
 refine nw h ?_
 intro b1 σ1 h1
 refine nw h1 ?_
 intro b3 σ2 h2
 refine nw h2 ?_
 intro b5 σ3 h3
 refine nw h3 ?_
 intro b7 σ4 h4
 refine nw h4 ?_
 intro b9 σ5 h5
 rw [LB h5,LV h5,LV h5]
 refine dR (caps:=[.pointer (some ⟨b3,0,none⟩),.pointer (some ⟨b5,0,none⟩),.pointer (some ⟨b7,0,none⟩)]) h5 (((((hn.cons).cons).cons).cons).cons) hl hlen (setF i key val) ?_ ?_
 ·intro kf xs pre v τ Q' hxs hτ hk
  show E PP [v,.bool kf,.pointer (some ⟨b3,0,none⟩),.pointer (some ⟨b5,0,none⟩),.pointer (some ⟨b7,0,none⟩)] τ Q'
  have hxl:xs.length=n.keys.length:=by rw [hxs]; split<;>omega
  apply gS; unfold WO
  have hl0:=eX hτ.tail
  rw [LI hl0]
  refine AT (fun _=>?_) fun g=>absurd (by omega) g
  have hlv:BJ v=some (.int .i64 xs.length):=by obtain ⟨_,_,a,c,rfl⟩:=hτ.own_src 0 rfl; rfl
  rw [LI hl0,hlv,AH]
  unfold KU
  refine AT (fun _=>?_) fun g=>absurd (by omega) g
  rw [LI hl0,LI hl0,LI hl0]
  refine ADV ?_
  rw [A6,LI hl0,CK]
  refine ACp hτ (by omega) ?_
  intro σ8 h8
  unfold KQ
  refine hk v σ8 ?_
  have hl8:xs.length=(setF i key val kf xs).length:=by simp [setF]
  rw [hl8] at h8
  exact I1 h8
 ·intro kv' vv' σ8 h8
  rw [B4]
  obtain ⟨a1,c1,hk'⟩:=AS h8
  obtain ⟨a2,c2,hv'⟩:=AS h8.tail
  refine ABK (K:=fun v τ=>Q (.ret v) τ) (h8.re:H (pt b9 (.cells [.bool false,.slice none 0 0,.slice none 0 0] AE false)::AO kv' (setF i key val true n.keys)::AO vv' (setF i key val false n.vals)::l) σ8) rfl (by rw [hk']; rfl) (by rw [hv']; rfl) ?_
  intro σ9 h9
  exact hQ _ _ _ h9
def VY (i:Nat) (_:Bool) (xs:List Nat):List Nat:=xs.take i++xs.drop (i+1)
theorem s4 {lf:Bool} {kv vv:Value} {n:Nd} {i:Nat} (h:H l σ) (hn:LX l kv vv n) (hl:n.keys.length=n.vals.length) (hlen:n.keys.length≤1000) (hi:i<n.keys.length)
 (hQ:∀ kv' vv' σ',H (AO kv' (VY i true n.keys)::AO vv' (VY i false n.vals)::l) σ'→Q (.ret (.agg #[.bool lf,kv',vv'])) σ') :
 E LM [.agg #[.bool lf,kv,vv],.int .i64 i] σ Q:=by
 apply iG; unfold WF
 refine nw h ?_
 intro b1 σ1 h1
 refine nw h1 ?_
 intro b3 σ2 h2
 refine nw h2 ?_
 intro b5 σ3 h3
 rw [LB h3,LV h3,LV h3]
 refine dR (caps:=[.pointer (some ⟨b3,0,none⟩)]) h3 (((hn.cons).cons).cons) hl hlen (VY i) ?_ ?_
 ·intro kf xs pre v τ Q' hxs hτ hk
  show E LK [v,.bool kf,.pointer (some ⟨b3,0,none⟩)] τ Q'
  have hxl:xs.length=n.keys.length:=by rw [hxs]; split<;>omega
  apply bF; unfold Q8
  have hl0:=eX hτ.tail
  rw [LI hl0]
  refine AT (fun g=>absurd g (by omega)) fun _=>?_
  have hlv:BJ v=some (.int .i64 xs.length):=by obtain ⟨_,_,a,c,rfl⟩:=hτ.own_src 0 rfl; rfl
  rw [LI hl0,hlv,AH]
  unfold IJ
  refine AT (fun g=>absurd g (by omega)) fun _=>?_
  rw [LI hl0,LI hl0]
  refine GA ((i+1:Nat):Int) (by omega) ?_
  refine AEs hτ (by omega) (by omega) ?_
  intro w σ9 h9
  rw [B4]
  exact hk w σ9 h9
 ·intro kv' vv' σ8 h8
  rw [B4]
  obtain ⟨a1,c1,hk'⟩:=AS h8
  obtain ⟨a2,c2,hv'⟩:=AS h8.tail
  refine ABK (K:=fun v τ=>Q (.ret v) τ) (h8.re:H (pt b5 (.cells [.bool false,.slice none 0 0,.slice none 0 0] AE false)::AO kv' (VY i true n.keys)::AO vv' (VY i false n.vals)::l) σ8) rfl (by rw [hk']; rfl) (by rw [hv']; rfl) ?_
  intro σ9 h9
  exact hQ _ _ _ h9
end Go.Ax.C
set_option maxRecDepth 100000
namespace Go.Ax.C
open Go.Proofs Go.RowKit
variable {l r m:List AJ} {σ:AHeap} {Q:RK}
theorem xS {e:Nat} {v:Value} {xs:List Nat} {k:Nat} {kd:IntKind} (h:H (A5 e 1 v xs.length (uv xs)::l) σ) (hk:k≤xs.length) :
 ∃ w,AY 1 v (some (.int kd (k:Nat))) none none=some w∧H (AO w (xs.drop k)::l) σ:=by
 rcases EX.1 h with ⟨⟨h0,_,h2⟩,hh⟩ | ⟨b,c,opn,rest,h1,h2,h3,rfl,h4,h5⟩
 ·have:k=0:=by omega
  subst this
  have:xs=[]:=List.length_eq_zero_iff.1 h0
  subst this
  rcases h2 with rfl | rfl
  ·exact ⟨_,rfl,NH rfl hh⟩
  ·exact ⟨_,rfl,NH rfl hh⟩
 ·by_cases hpos:0<xs.length
  ·have hz:c<AX∨c / AX=1:=by
    rcases h5 with ⟨_,_,h5⟩ | h5
    ·exact .inr h5
    ·exact .inl h5
   obtain ⟨a,c',e2,ha⟩:=kX (b:=b) (o:=0) (k:=kd) hz h4 hk hpos
   refine ⟨_,e2,?_⟩
   by_cases hlt:k<xs.length
   ·obtain ⟨rfl,hc'⟩:=ha hlt
    have:=gD (o:=0+k) (c:=c') (xs:=xs.drop k) (by simpa using hc') (by
     rw [Nat.zero_add,List.drop_append_of_le_length (by simpa using hk),← sC,List.take_append_of_le_length (by simp),List.take_of_length_le (by simp)]) (by simp; omega) h1
    rw [List.length_drop] at this
    exact this
   ·have h0:xs.length - k=0:=by omega
    rw [h0,List.drop_of_length_le (by omega)]
    exact NH rfl h1.tail
  ·have:xs=[]:=List.length_eq_zero_iff.1 (by omega)
   subst this
   have:k=0:=by simpa using hk
   subst this
   simp only [AY,IQ,Option.bind_some]
   rw [CS (by simp)]
   simp only [Option.bind_some]
   by_cases hc:c<AX
   ·rw [if_pos hc,if_pos (by simp)]
    exact ⟨_,rfl,NH rfl h1.tail⟩
   ·rw [if_neg hc]
    split
    ·exact ⟨_,rfl,NH rfl h1.tail⟩
    ·exact ⟨ZA,by simp,NH rfl h1.tail⟩
theorem sM {v:Value} {xs:List Nat} {k:Nat} {kd kd':IntKind} (h:H (AO v xs::l) σ) (hk:k≤xs.length) :
 ∃ w,AY 1 v none (some (.int kd (k:Nat))) (some (.int kd' (k:Nat)))=some w∧H (AO w (xs.take k)::l) σ:=by
 obtain ⟨w,e,_⟩:=eE (kd:=kd) (kd':=kd') (DF h) hk
 refine ⟨w,e,?_⟩
 obtain ⟨p,hp⟩:=KN.1 h
 cases p with
 | none =>
   obtain ⟨⟨rfl,a,c,rfl⟩,hh⟩:=BZ.1 hp
   have:k=0:=by simpa using hk
   subst this
   simp only [AY,IQ] at e
   rw [CS (by simp)] at e
   simp only [Option.bind_some] at e
   rw [CS (by simp)] at e
   cases e
   exact NH rfl hh
 | some p =>
   simp only [BE] at hp
   obtain ⟨⟨h1,h2,h3,h4,h5⟩,hh⟩:=BZ.1 hp
   rw [h1] at e
   simp only [AY,IQ] at e
   rw [CS (by omega)] at e
   simp only [Option.bind_some] at e
   rw [CS (by simp)] at e
   simp only [Option.bind_some,Int.toNat_natCast,Nat.sub_zero,Nat.zero_mul,Option.map_some,EP,Nat.add_zero,ite_self,Option.some.injEq] at e
   subst e
   refine KN.2 ⟨some (p.1,p.2.1,k,p.2.2.2.1,p.2.2.2.2),?_⟩
   simp only [BE]
   have hkl:(xs.take k).length=k:=by simp; omega
   refine BZ.2 ⟨⟨by rw [hkl],?_,?_,by rw [hkl]; omega,h5⟩,hh⟩
   ·rw [hkl]
    have:BH k=k:=by
     refine CI ?_
     have:BH p.2.2.1<AX:=Nat.mod_lt _ (by unfold AX; omega)
     omega
    omega
   ·rw [hkl,tZ,← h3,List.take_take,Nat.min_eq_left hk]
theorem bJ {b:Nat} {q:Bool} {c:List Value} {e:TypeId} {lf:Bool} {x y:Value} {K:AHeap→Prop} (h:H l σ) [f:AtB l b (pt b (.cells c e q)) r] (hc:c.length=3) (hx:one x=true) (hy:one y=true)
 (hK:∀ σ',H (pt b (.cells [.bool lf,x,y] e q)::r) σ'→K σ'):pu (AN 3 (.pointer (some ⟨b,0,none⟩)) (.agg #[.bool lf,x,y]) σ) K:=by
 have h:=h.atb b
 refine XM (vs:=[.bool lf,x,y]) h 0 rfl rfl (by omega) (by simp only [List.all_cons,hx,hy,List.all_nil]; rfl) (by omega) ?_
 intro σ1 h1
 have hs:splice c 0 [.bool lf,x,y]=[.bool lf,x,y]:=by
  unfold splice
  rw [List.take_zero,List.nil_append,Nat.zero_add,List.drop_of_length_le (by simp; omega),List.append_nil]
 have h2:H (pt b (.cells (splice c 0 [.bool lf,x,y]) e q)::r) σ1:=h1
 rw [hs] at h2
 exact hK σ1 h2
def DV (n:Nd):Nat:=(n.keys.length+1) / 2
set_option maxHeartbeats 1000000 in
theorem wU {lf:Bool} {kv vv:Value} {n:Nd} (h:H l σ) (hn:LX l kv vv n) (hl:n.keys.length=n.vals.length) (hlen:n.keys.length≤1000)
 (hQ:∀ k1 v1 k2 v2 σ',H (AO k1 (n.keys.take (DV n))::AO v1 (n.vals.take (DV n))::AO k2 (n.keys.drop (DV n))::AO v2 (n.vals.drop (DV n))::l) σ'→Q (.ret (.tuple #[.agg #[.bool lf,k1,v1],.agg #[.bool lf,k2,v2]])) σ') :
 E NM [.agg #[.bool lf,kv,vv]] σ Q:=by
 apply mC; unfold YM
 refine nw h ?_
 intro b1 σ1 h1
 refine nw h1 ?_
 intro b3 σ2 h2
 refine nw h2 ?_
 intro b5 σ3 h3
 rw [LB h3,LV h3,LV h3]
 refine fB h3 (((hn.cons).cons).cons) hl ?_
 intro σ4 h4
 rw [A6]
 refine GA ((n.keys.length:Int)+1) (by omega) ?_
 have hhalf:Int.tdiv ((n.keys.length:Int)+1) 2=((DV n:Nat):Int):=by
  unfold DV
  rw [Int.tdiv_eq_ediv_of_nonneg (by omega)]; omega
 have hhl:DV n≤1000:=by unfold DV; omega
 rw [hhalf]
 refine GA ((DV n:Nat):Int) (by omega) ?_
 refine nw h4 ?_
 intro b16 σ5 h5
 refine st h5 rfl ?_
 intro σ6 h6
 rw [LB h6,LV h6,LV h6]
 have hhk:DV n≤n.keys.length:=by unfold DV; omega
 refine dR (caps:=[.pointer (some ⟨b16,0,none⟩)]) h6 ((((hn.cons).cons).cons).cons) hl hlen (fun _ xs=>xs.take (DV n)) ?_ ?_
 ·intro kf xs pre v τ Q' hxs hτ hk
  show E MY [v,.bool kf,.pointer (some ⟨b16,0,none⟩)] τ Q'
  have hxl:xs.length=n.keys.length:=by rw [hxs]; split<;>omega
  apply cM; unfold SO
  have hl0:=eX hτ.tail
  rw [LI hl0,LI hl0]
  obtain ⟨w,e,hw⟩:=sM (k:=DV n) (kd:=.i64) (kd':=.i64) (I1 hτ) (by omega)
  rw [e,AF]
  exact hk w τ hw
 intro k1 v1 σ7 h7
 rw [B4]
 obtain ⟨a1,c1,hk1⟩:=AS h7
 obtain ⟨a2,c2,hv1⟩:=AS h7.tail
 refine nw h7 ?_
 intro b27 σ8 h8
 refine bJ h8 rfl (by rw [hk1]; rfl) (by rw [hv1]; rfl) ?_
 intro σ9 h9
 rw [LB h9,LV h9,LV h9]
 refine dR (caps:=[.pointer (some ⟨b16,0,none⟩)]) h9 (((((((hn.cons).cons).cons).cons).cons).cons).cons) hl hlen (fun _ xs=>xs.drop (DV n)) ?_ ?_
 ·intro kf xs pre v τ Q' hxs hτ hk
  show E MW [v,.bool kf,.pointer (some ⟨b16,0,none⟩)] τ Q'
  have hxl:xs.length=n.keys.length:=by rw [hxs]; split<;>omega
  apply cO; unfold SU
  have hl0:=eX hτ.tail
  rw [LI hl0]
  obtain ⟨w,e,hw⟩:=xS (k:=DV n) (kd:=.i64) hτ (by omega)
  rw [e,AF]
  exact hk w τ hw
 intro k2 v2 σ10 h10
 rw [B4]
 obtain ⟨a3,c3,hk2⟩:=AS h10
 obtain ⟨a4,c4,hv2⟩:=AS h10.tail
 refine nw h10 ?_
 intro b38 σ11 h11
 refine bJ h11 rfl (by rw [hk2]; rfl) (by rw [hv2]; rfl) ?_
 intro σ12 h12
 rw [LB h12,LV h12,LV h12,LB h12,LV h12,LV h12]
 refine bJ h12 rfl (by rw [hk1]; rfl) (by rw [hv1]; rfl) ?_
 intro σ13 h13
 rw [LB h13,LV h13,LV h13]
 have hve:∀ p:Prop,(AQ (.agg #[.bool lf,k2,v2]) (.agg #[.bool lf,k2,v2])=true∧p)=p:=by
  intro p
  have:AQ (.agg #[.bool lf,k2,v2]) (.agg #[.bool lf,k2,v2])=true:=by rw [hk2,hv2]; simp [AQ,nI,t3,X5]
  simp [this]
 rw [hve]
 refine bJ h13 rfl (by rw [hk2]; rfl) (by rw [hv2]; rfl) ?_
 intro σ14 h14
 have r3:σ14.row b3=some [.bool lf,k1,v1]:=pI.row σ14 h14
 have r5:σ14.row b5=some [.bool lf,k2,v2]:=pI.row σ14 h14
 rw [WG r3 (by simp),A4,WG r5 (by simp),A4]
 exact hQ _ _ _ _ _ h14.re
end Go.Ax.C
set_option maxRecDepth 100000
namespace Go.Ax.C
open Go.Proofs Go.RowKit
variable {l r m:List AJ} {σ:AHeap} {Q:RK}
theorem ABc {lf lg:Bool} {kv vv kw vw:Value} {n p:Nd} (h:H l σ) (hn:LX l kv vv n) (hp:LX l kw vw p) (hl:n.keys.length=n.vals.length) (hlp:p.keys.length=p.vals.length) (hlen:n.keys.length≤500) (hlenp:p.keys.length≤500)
 (hQ:∀ k1 v1 σ',H (AO k1 (n.keys++p.keys)::AO v1 (n.vals++p.vals)::l) σ'→Q (.ret (.agg #[.bool lf,k1,v1])) σ') :
 E OQ [.agg #[.bool lf,kv,vv],.agg #[.bool lg,kw,vw]] σ Q:=by
 apply mK; unfold cH
 refine nw h ?_
 intro b1 σ1 h1
 refine nw h1 ?_
 intro b3 σ2 h2
 refine nw h2 ?_
 intro b5 σ3 h3
 rw [LB h3,LV h3,LV h3]
 refine dR (caps:=[]) h3 (((hp.cons).cons).cons) hlp (by omega) (fun _ xs=>xs) ?_ ?_
 ·intro kf xs pre v τ Q' hxs hτ hk
  show E OE [v,.bool kf] τ Q'
  apply eD; unfold TR
  exact hk v τ (I1 hτ)
 intro k1 v1 σ7 h7
 rw [B4]
 obtain ⟨a1,c1,hk1⟩:=AS h7
 obtain ⟨a2,c2,hv1⟩:=AS h7.tail
 refine nw h7 ?_
 intro b14 σ8 h8
 refine bJ h8 rfl (by rw [hk1]; rfl) (by rw [hv1]; rfl) ?_
 intro σ9 h9
 rw [LB h9,LV h9,LV h9]
 refine dR (caps:=[.pointer (some ⟨b14,0,none⟩)]) h9 ((((((hn.cons).cons).cons).cons).cons).cons) hl (by omega) (fun kf xs=>xs++(if kf then p.keys else p.vals)) ?_ ?_
 ·intro kf xs pre v τ Q' hxs hτ hk
  show E OD [v,.bool kf,.pointer (some ⟨b14,0,none⟩)] τ Q'
  have hxl:xs.length=n.keys.length:=by rw [hxs]; split<;>omega
  apply eC; unfold TJ
  have hl0:=eX hτ.tail
  have u1:Us τ k1 p.keys:=DF hl0.tail
  have u2:Us τ v1 p.vals:=DF hl0.tail.tail
  cases kf with
  | true =>
    refine IM rfl ?_
    rw [LV hl0]
    refine DS hτ 0 rfl (l9 u1) (by omega) (by omega) (N0 _) ?_
    intro v' σ' h'
    simp only [List.set_cons_zero,← NW] at h'
    exact hk v' σ' (I1 h')
  | false =>
    refine C8 rfl ?_
    rw [LV hl0]
    refine DS hτ 0 rfl (l9 u2) (by omega) (by omega) (N0 _) ?_
    intro v' σ' h'
    simp only [List.set_cons_zero,← NW] at h'
    exact hk v' σ' (I1 h')
 intro k2 v2 σ10 h10
 rw [B4]
 obtain ⟨a3,c3,hk2⟩:=AS h10
 obtain ⟨a4,c4,hv2⟩:=AS h10.tail
 have h10:H (AO k2 (n.keys++p.keys)::AO v2 (n.vals++p.vals)::pt b14 (.cells [.bool lg,k1,v1] AE false)::AO k1 p.keys::AO v1 p.vals::pt b5 (.cells [.bool false,.slice none 0 0,.slice none 0 0] AE false)::pt b3 (.cells [.bool lg,kw,vw] AE false)::pt b1 (.cells [.bool lf,kv,vv] AE false)::l) σ10:=h10
 refine bJ h10 rfl (by rw [hk2]; rfl) (by rw [hv2]; rfl) ?_
 intro σ14 h14
 have r3:σ14.row b5=some [.bool lf,k2,v2]:=pI.row σ14 h14
 rw [WG r3 (by simp),A4]
 exact hQ _ _ _ h14.re
def GZ (n p:Nd):Nat:=(n.keys.length+p.keys.length+1) / 2
theorem ADx {lf lg:Bool} {kv vv kw vw:Value} {n p:Nd} (h:H l σ) (hn:LX l kv vv n) (hp:LX l kw vw p) (hl:n.keys.length=n.vals.length) (hlp:p.keys.length=p.vals.length) (hlen:n.keys.length≤500) (hlenp:p.keys.length≤500)
 (hQ:∀ k1 v1 k2 v2 σ',H (AO k1 ((n.keys++p.keys).take (GZ n p))::AO v1 ((n.vals++p.vals).take (GZ n p))::AO k2 ((n.keys++p.keys).drop (GZ n p))::AO v2 ((n.vals++p.vals).drop (GZ n p))::l) σ' →
  Q (.ret (.tuple #[.agg #[.bool lf,k1,v1],.agg #[.bool lf,k2,v2]])) σ') :
 E TX [.agg #[.bool lf,kv,vv],.agg #[.bool lg,kw,vw]] σ Q:=by
 apply mL; unfold bW
 refine nw h ?_
 intro b1 σ1 h1
 refine nw h1 ?_
 intro b3 σ2 h2
 refine nw h2 ?_
 intro b5 σ3 h3
 refine nw h3 ?_
 intro b7 σ4 h4
 rw [LB h4,LV h4,LV h4,LB h4,LV h4,LV h4]
 refine ABc h4 ((((hn.cons).cons).cons).cons) ((((hp.cons).cons).cons).cons) hl hlp hlen hlenp ?_
 intro k0 v0 σ5 h5
 rw [B4]
 refine wU (n:=⟨lf,n.keys++p.keys,n.vals++p.vals⟩) h5 (fun τ ht=>⟨DF ht,DF ht.tail⟩) (by simp; omega) (by simp; omega) ?_
 intro k1 v1 k2 v2 σ6 h6
 rw [BQ]
 have he:DV ⟨lf,n.keys++p.keys,n.vals++p.vals⟩=GZ n p:=by simp [DV,GZ]
 rw [he] at h6
 obtain ⟨a1,c1,hk1⟩:=AS h6
 obtain ⟨a2,c2,hv1⟩:=AS h6.tail
 obtain ⟨a3,c3,hk2⟩:=AS h6.tail.tail
 obtain ⟨a4,c4,hv2⟩:=AS h6.tail.tail.tail
 refine bJ h6 rfl (by rw [hk1]; rfl) (by rw [hv1]; rfl) ?_
 intro σ7 h7
 refine bJ h7 rfl (by rw [hk2]; rfl) (by rw [hv2]; rfl) ?_
 intro σ8 h8
 have r5:σ8.row b5=some [.bool lf,k1,v1]:=pI.row σ8 h8
 have r7:σ8.row b7=some [.bool lf,k2,v2]:=pI.row σ8 h8
 rw [WG r5 (by simp),A4,WG r7 (by simp),A4]
 exact hQ _ _ _ _ _ h8.re
def A7 (xs:List Nat) (key:Nat):Nat:=(xs.takeWhile fun x=>decide (x<key)).length
theorem fF (xs:List Nat) (key:Nat):A7 xs key≤xs.length:=(List.takeWhile_sublist _).length_le
theorem yH {lf:Bool} {kv vv:Value} {n:Nd} {key:Nat} (h:H l σ) (hn:LX l kv vv n) (hl:n.keys.length=n.vals.length) (hlen:n.keys.length≤1000)
 (hQ:∀ σ',H l σ'→Q (.ret (.tuple #[.int .i64 (A7 n.keys key:Nat),.bool (decide (n.keys[A7 n.keys key]?=some key))])) σ') :
 E ML [.agg #[.bool lf,kv,vv],.int .u64 key] σ Q:=by
 apply nC; unfold bP
 refine nw h ?_
 intro b1 σ1 h1
 rw [LB h1,LV h1,LV h1]
 refine fB h1 hn.cons hl ?_
 intro σ2 h2
 rw [A6]
 refine ⟨fun m i τ=>∃ k:Nat,i=k∧m=n.keys.length - k∧k≤n.keys.length∧(∀ t x,t<k→n.keys[t]?=some x→x<key)∧H (pt b1 (.cells [.bool lf,kv,vv] AE false)::l) τ,
  ⟨n.keys.length,0,rfl,rfl,by omega,fun t x ht=>by omega,h2⟩,?_⟩
 rintro m i τ ⟨k,rfl,rfl,hk,hall,h3⟩
 have hfk:∀ x,n.keys[k]?=some x→¬ x<key→A7 n.keys key=k:=by
  intro x hx hge
  have e:n.keys=n.keys.take k++x::n.keys.drop (k+1):=by
   have hlt:=(List.getElem?_eq_some_iff.1 hx).1
   have:=List.getElem?_eq_some_iff.1 hx
   rw [← this.2,← List.drop_eq_getElem_cons hlt,List.take_append_drop]
  unfold A7
  rw [e,List.takeWhile_append_of_pos,List.takeWhile_cons_of_neg (by simpa using hge)]
  ·simp; omega
  ·intro y hy
   obtain ⟨t,ht,rfl⟩:=List.getElem_of_mem hy
   simp only [List.length_take] at ht
   rw [List.getElem_take]
   simpa using hall t _ (by omega) (List.getElem?_eq_getElem (by omega))
 unfold S5
 refine AT (fun hlt=>?_) (fun hge=>?_)
 ·have hlt2:k<n.keys.length:=by omega
  obtain ⟨p,hp,hload⟩:=LZ (hn τ h3.tail).1 (List.getElem?_eq_getElem hlt2)
  rw [LV h3,hp,AF,hload,AH]
  refine AT (fun hle=>?_) (fun hgt=>?_)
  ·rw [LV h3,hp,AF,hload,AH]
   have:=hfk _ (List.getElem?_eq_getElem hlt2) (by omega)
   have hq:=hQ τ h3.tail
   rw [this,List.getElem?_eq_getElem hlt2] at hq
   have e:decide ((n.keys[k]:Int)=(key:Int))=decide (some n.keys[k]=some key):=by
    apply decide_eq_decide.2
    rw [Option.some.injEq]; omega
   rw [e]
   exact hq
  ·refine GA ((k+1:Nat):Int) (by omega) ?_
   refine ⟨n.keys.length - (k+1),by omega,k+1,rfl,rfl,by omega,fun t x ht hx=>?_,h3⟩
   rcases Nat.lt_or_ge t k with h' | h'
   ·exact hall t x h' hx
   ·have:t=k:=by omega
    subst this
    rw [List.getElem?_eq_getElem hlt2] at hx
    cases hx
    omega
 ·have hk2:k=n.keys.length:=by omega
  have hall2:A7 n.keys key=n.keys.length:=by
   unfold A7
   have h9:=List.takeWhile_append_of_pos (p:=fun x=>decide (x<key)) (l₁:=n.keys) (l₂:=[]) (fun y hy=>by
    obtain ⟨t,ht,rfl⟩:=List.getElem_of_mem hy
    simpa using hall t _ (by omega) (List.getElem?_eq_getElem ht))
   rw [List.append_nil,List.takeWhile_nil,List.append_nil] at h9
   rw [h9]
  have hq:=hQ τ h3.tail
  rw [hall2,List.getElem?_eq_none (Nat.le_refl _)] at hq
  exact hq
def CC (xs:List Nat) (key:Nat):Nat:=(xs.takeWhile fun x=>decide (x≤key)).length - 1
theorem w7 {lf:Bool} {kv vv:Value} {n:Nd} {key:Nat} (h:H l σ) (hn:LX l kv vv n) (hl:n.keys.length=n.vals.length) (hlen:n.keys.length≤1000)
 (hQ:∀ σ',H l σ'→Q (.ret (.int .i64 (CC n.keys key:Nat))) σ') :
 E NL [.agg #[.bool lf,kv,vv],.int .u64 key] σ Q:=by
 apply kZ; unfold YW
 refine nw h ?_
 intro b1 σ1 h1
 rw [LB h1,LV h1,LV h1]
 refine fB h1 hn.cons hl ?_
 intro σ2 h2
 rw [A6]
 refine ⟨fun m at' i τ=>∃ k:Nat,i=k∧at'=((k - 1:Nat):Int)∧m=n.keys.length - k∧k≤n.keys.length∧(∀ t x,t<k→n.keys[t]?=some x→x≤key)∧H (pt b1 (.cells [.bool lf,kv,vv] AE false)::l) τ,
  ⟨n.keys.length,0,rfl,rfl,rfl,by omega,fun t x ht=>by omega,h2⟩,?_⟩
 rintro m at' i τ ⟨k,rfl,rfl,rfl,hk,hall,h3⟩
 have htw:((n.keys.take k).takeWhile fun x=>decide (x≤key))=n.keys.take k:=by
  have h9:=List.takeWhile_append_of_pos (p:=fun x=>decide (x≤key)) (l₁:=n.keys.take k) (l₂:=[]) (fun y hy=>by
   obtain ⟨t,ht,rfl⟩:=List.getElem_of_mem hy
   simp only [List.length_take] at ht
   rw [List.getElem_take]
   simpa using hall t _ (by omega) (List.getElem?_eq_getElem (by omega)))
  rw [List.append_nil,List.takeWhile_nil,List.append_nil] at h9
  exact h9
 have hend:(k=n.keys.length∨∃ x,n.keys[k]?=some x∧¬ x≤key)→CC n.keys key=k - 1:=by
  intro hor
  unfold CC
  congr 1
  rcases hor with rfl | ⟨x,hx,hgt⟩
  ·rw [List.take_length] at htw
   rw [htw]
  ·have e:n.keys=n.keys.take k++x::n.keys.drop (k+1):=by
    have hlt:=(List.getElem?_eq_some_iff.1 hx).1
    have:=List.getElem?_eq_some_iff.1 hx
    rw [← this.2,← List.drop_eq_getElem_cons hlt,List.take_append_drop]
   rw [e,List.takeWhile_append_of_pos,List.takeWhile_cons_of_neg (by simpa using hgt)]
   ·simp; omega
   ·intro y hy
    obtain ⟨t,ht,rfl⟩:=List.getElem_of_mem hy
    simp only [List.length_take] at ht
    rw [List.getElem_take]
    simpa using hall t _ (by omega) (List.getElem?_eq_getElem (by omega))
 unfold SL
 refine AT (fun hlt=>?_) (fun hge=>?_)
 ·have hlt2:k<n.keys.length:=by omega
  obtain ⟨p,hp,hload⟩:=LZ (hn τ h3.tail).1 (List.getElem?_eq_getElem hlt2)
  rw [LV h3,hp,AF,hload,AH]
  refine AT (fun hgt=>?_) (fun hle=>?_)
  ·unfold IY
   have hq:=hQ τ h3.tail
   rw [hend (.inr ⟨_,List.getElem?_eq_getElem hlt2,by omega⟩)] at hq
   exact hq
  ·refine GA ((k+1:Nat):Int) (by omega) ?_
   refine ⟨n.keys.length - (k+1),by omega,k+1,rfl,by simp,rfl,by omega,fun t x ht hx=>?_,h3⟩
   rcases Nat.lt_or_ge t k with h' | h'
   ·exact hall t x h' hx
   ·have:t=k:=by omega
    subst this
    rw [List.getElem?_eq_getElem hlt2] at hx
    cases hx
    omega
 ·unfold IY
  have hq:=hQ τ h3.tail
  rw [hend (.inl (by omega))] at hq
  exact hq
end Go.Ax.C
set_option maxRecDepth 100000
namespace Go.Ax.C
open Go.Proofs Go.RowKit
variable {l r m:List AJ} {σ:AHeap} {Q:RK}
def Nd.May (n:Nd):Prop:=(1≤n.keys.length∧n.keys.length≤8∧n.vals.length=n.keys.length)∧n.keys.Pairwise (·<·)∧∀ v∈n.vals,v≠0
instance (n:Nd):Decidable n.May:=by unfold Nd.May; infer_instance
theorem jK {xs:List Nat} {x:Nat} (h:xs.Pairwise (·<·)) (hl:∀ y,xs.getLast?=some y→y<x):(xs++[x]).Pairwise (·<·):=by
 rw [List.pairwise_append]
 refine ⟨h,by simp,fun a ha b hb=>?_⟩
 simp at hb; subst hb
 cases hx:xs.getLast? with
 | none=>rw [List.getLast?_eq_none_iff] at hx; subst hx; simp at ha
 | some y =>
   have hy:=hl y hx
   have:a≤y:=by
    obtain ⟨ys,rfl⟩:=List.getLast?_eq_some_iff.1 hx
    rw [List.pairwise_append] at h
    rcases List.mem_append.1 ha with ha | ha
    ·exact Nat.le_of_lt (h.2.2 a ha y (by simp))
    ·simp at ha; omega
   omega
theorem ADh {lf:Bool} {kv vv:Value} {n:Nd} (h:H l σ) (hn:LX l kv vv n) (hk9:n.keys.length<9223372036854775808) (hv9:n.vals.length<9223372036854775808)
 (hQ:∀ σ',H l σ'→Q (.ret (.bool (decide n.May))) σ'):E RY [.agg #[.bool lf,kv,vv]] σ Q:=by
 apply qS; unfold gA
 refine nw h ?_
 intro b1 σ1 h1
 obtain ⟨hk,hv⟩:=hn σ1 h1.tail
 have hbad:¬ n.May→HB E Q true b1 σ1:=by
  intro hb
  unfold HB
  refine IM rfl ?_
  have:=hQ σ1 h1.tail
  rw [decide_eq_false hb] at this
  exact this
 rw [LV h1,MV hk,AH]
 refine AT (fun hlt=>hbad fun hm=>by have:=hm.1.1; omega) fun hge=>?_
 rw [LV h1,MV hk,AH]
 refine AT (fun hlt=>hbad fun hm=>by have:=hm.1.2.1; omega) fun hge8=>?_
 rw [LV h1,MV hv,AH,LV h1,MV hk,AH]
 by_cases hvl:n.vals.length=n.keys.length
 ·have e:(!decide ((n.vals.length:Int)=(n.keys.length:Int)))=false:=by simp; omega
  rw [e]
  unfold HB
  refine C8 rfl ?_
  rw [LV h1,MV hk,AH]
  refine ⟨fun m i τ=>∃ k:Nat,i=k∧m=n.keys.length - k∧k≤n.keys.length∧(n.keys.take k).Pairwise (·<·)∧(∀ v∈n.vals.take k,v≠0)∧H (pt b1 (.cells [.bool lf,kv,vv] AE false)::l) τ,
   ⟨n.keys.length,0,rfl,rfl,by omega,by simp,by simp,h1⟩,?_⟩
  rintro m i τ ⟨k,rfl,rfl,hkl,hp,hz,h2⟩
  have hno:∀ τ,H (pt b1 (.cells [.bool lf,kv,vv] AE false)::l) τ→¬ n.May→Q (.ret (.bool false)) τ:=fun τ ht hb=>by
   have:=hQ τ ht.tail
   rw [decide_eq_false hb] at this
   exact this
  unfold WP
  refine AT (fun hlt=>?_) (fun hge=>?_)
  ·have hk2:k<n.keys.length:=by omega
   have hv2:k<n.vals.length:=by omega
   obtain ⟨hk',hv'⟩:=hn τ h2.tail
   obtain ⟨p,ip,lp⟩:=LZ hk' (List.getElem?_eq_getElem hk2)
   obtain ⟨q,iq,lq⟩:=LZ hv' (List.getElem?_eq_getElem hv2)
   rw [ip,AF,lp,AH]
   -- what is said of the value
   have hval:(n.keys.take (k+1)).Pairwise (·<·)→HA (fun n15 σ'=>∃ m',m'<n.keys.length - k∧∃ k:Nat,n15=k∧m'=n.keys.length - k∧k≤n.keys.length∧(n.keys.take k).Pairwise (·<·)∧(∀ v∈n.vals.take k,v≠0)∧H (pt b1 (.cells [.bool lf,kv,vv] AE false)::l) σ') E Q (decide ((n.vals[k]:Int)=0)) k τ:=by
    intro hp2
    unfold HA
    refine AT (fun h0=>?_) (fun h0=>?_)
    ·refine hno τ h2 fun hm=>?_
     exact hm.2.2 _ (List.getElem_mem hv2) (by omega)
    ·refine GA ((k+1:Nat):Int) (by omega) ?_
     refine ⟨n.keys.length - (k+1),by omega,k+1,rfl,rfl,by omega,hp2,fun v hv=>?_,h2⟩
     rw [List.take_add_one,List.getElem?_eq_getElem hv2,Option.toList_some] at hv
     rcases List.mem_append.1 hv with hv | hv
     ·exact hz v hv
     ·simp at hv; subst hv; omega
   refine AT (fun hpos=>?_) (fun h0=>?_)
   ·obtain ⟨j,rfl⟩:∃ j,k=j+1:=⟨k - 1,by omega⟩
    have hj:j<n.keys.length:=by omega
    obtain ⟨p1,ip1,lp1⟩:=LZ hk' (List.getElem?_eq_getElem hj)
    rw [LV h2]
    refine GA ((j:Nat):Int) (by omega) ?_
    rw [ip1,AF,lp1,AH]
    refine AT (fun hle=>?_) (fun hgt=>?_)
    ·unfold HA
     refine IM rfl ?_
     refine hno τ h2 fun hm=>?_
     have:=List.pairwise_iff_getElem.1 hm.2.1 j (j+1) hj hk2 (by omega)
     omega
    ·rw [LV h2,iq,AF,lq,AH]
     refine hval ?_
     rw [List.take_add_one,List.getElem?_eq_getElem hk2,Option.toList_some]
     refine jK hp fun y hy=>?_
     rw [List.getLast?_take,if_neg (by omega)] at hy
     simp only [Nat.add_sub_cancel,List.getElem?_eq_getElem hj,Option.some_or,Option.some.injEq] at hy
     omega
   ·have:k=0:=by omega
    subst this
    rw [LV h2,iq,AF,lq,AH]
    refine hval ?_
    rw [List.take_add_one,List.getElem?_eq_getElem hk2]
    simp
  ·have hke:k=n.keys.length:=by omega
   subst hke
   rw [List.take_length] at hp
   rw [← hvl,List.take_length] at hz
   have hm:n.May:=⟨⟨by omega,by omega,hvl⟩,hp,hz⟩
   have:=hQ τ h2.tail
   rw [decide_eq_true hm] at this
   exact this
 ·have e:(!decide ((n.vals.length:Int)=(n.keys.length:Int)))=true:=by simp; omega
  rw [e]
  exact hbad fun hm=>hvl hm.1.2.2
end Go.Ax.C
set_option maxRecDepth 100000
namespace Go.Ax.C
open Go.Proofs Go.RowKit
variable {l r m:List AJ} {σ:AHeap} {Q:RK}
theorem sQ {v:Value} {x:List UInt8} (h:H (gO v x::l) σ):Z2 σ v x:=by
 obtain ⟨b,o,cap,c,h1,h2,h3,h4,h5⟩:=h.rob0
 exact .inr ⟨b,o,cap,c,h1,h2,h3,h4,h5⟩
theorem AAz {e n:Nat} {v:Value} {x:List UInt8} (h:H (A5 e 1 v n (bv x)::l) σ) (hx:0<x.length):H (gO v x::l) σ:=by
 rcases EX.1 h with ⟨⟨_,e1,h2⟩,_⟩ | ⟨b,c,opn,rest,h1,h2,h3,rfl,h4,h5⟩
 ·cases x with
  | nil=>simp at hx
  | cons y x=>simp [bv] at e1
 ·have hn:x.length=n:=by simpa using h2
  subst hn
  refine kL ⟨h4,?_⟩ (by rw [List.drop_zero,List.take_append_of_le_length (by simp),List.take_of_length_le (by simp)]) (by simp) h1.freeze0
  rcases h5 with h5 | h5
  ·exact .inr h5.2.2
  ·exact .inl h5
def jA (p:Nat×Nat):List UInt8:=be p.1 8++be p.2 8
def GG (l:List (Nat×Nat)):List UInt8:=l.flatMap jA
def Nd.pairs (n:Nd):List (Nat×Nat):=n.keys.zip n.vals
def Nd.form (n:Nd):List UInt8:=[if n.leaf then 1 else 0,UInt8.ofNat n.keys.length]++GG n.pairs
theorem R9:∀ (l:List (Nat×Nat)),(GG l).length=16*l.length
 | []=>rfl
 | p::l=>by
   have:=R9 l
   simp only [GG,List.flatMap_cons,List.length_append,List.length_cons] at this ⊢
   rw [this]; simp [jA,GB]; omega
theorem eN (n:Nd) (h:n.vals.length=n.keys.length):n.form.length=2+16*n.keys.length:=by
 simp only [Nd.form,List.length_append,R9,Nd.pairs,List.length_zip,h]; simp<;>omega
theorem AEx {kv vv:Value} {n:Nd} (h:H l σ) (hn:LX l kv vv n) (hk9:n.keys.length<9223372036854775808) (hv9:n.vals.length<9223372036854775808)
 (hno:¬ n.May→∀ σ',H l σ'→Q (.ret (.tuple #[.slice none 0 0,.int .i64 1])) σ')
 (hyes:n.May→∀ w σ',H (gO w n.form::l) σ'→Q (.ret (.tuple #[w,.int .i64 0])) σ'):E XP [.agg #[.bool n.leaf,kv,vv]] σ Q:=by
 apply qF; unfold gG
 refine nw h ?_
 intro b1 σ1 h1
 rw [LB h1,LV h1,LV h1]
 refine ADh h1 hn.cons hk9 hv9 ?_
 intro σ2 h2
 rw [E8]
 by_cases hm:n.May
 ·rw [decide_eq_true hm]
  refine C8 rfl ?_
  obtain ⟨⟨hm1,hm8,hmv⟩,_,_⟩:=hm
  rw [LV h2,MV (hn σ2 h2.tail).1,AH]
  refine bu8 ((n.keys.length:Nat):Int) (by omega) ?_
  refine nw h2 ?_
  intro b18 σ3 h3
  -- the loop
  have hloop:∀ σ4,H (gO (.slice (some ⟨b18,0,none⟩) 2 2) [if n.leaf then 1 else 0,UInt8.ofNat n.keys.length]::pt b1 (.cells [.bool n.leaf,kv,vv] AE false)::l) σ4→L0 E Q b1 (.slice (some ⟨b18,0,none⟩) 2 2) σ4:=by
   intro σ4 h4
   unfold L0
   rw [LV h4,MV (hn σ4 h4.tail.tail).1,AH]
   refine ⟨fun m v i τ=>∃ k:Nat,i=k∧m=n.keys.length - k∧k≤n.keys.length∧H (gO v ([if n.leaf then 1 else 0,UInt8.ofNat n.keys.length]++GG (n.pairs.take k))::pt b1 (.cells [.bool n.leaf,kv,vv] AE false)::l) τ,
    ⟨n.keys.length,0,rfl,rfl,by omega,by simpa [GG] using h4⟩,?_⟩
   rintro m v i τ ⟨k,rfl,rfl,hk,h5⟩
   unfold WQ
   refine AT (fun hlt=>?_) (fun hge=>?_)
   ·have hk2:k<n.keys.length:=by omega
    have hv2:k<n.vals.length:=by omega
    obtain ⟨hk',hv'⟩:=hn τ h5.tail.tail
    obtain ⟨p,ip,lp⟩:=LZ hk' (List.getElem?_eq_getElem hk2)
    obtain ⟨q,iq,lq⟩:=LZ hv' (List.getElem?_eq_getElem hv2)
    rw [ip,AF,lp,AH,LV h5,iq,AF,lq,AH]
    have hpl:(n.pairs.take k).length=k:=by simp [Nd.pairs]; omega
    have hxl:([if n.leaf then 1 else 0,UInt8.ofNat n.keys.length]++GG (n.pairs.take k)).length=2+16*k:=by
     rw [List.length_append,R9,hpl]; simp
    refine w8 h5 (sQ h5) (k:=8) (by omega) (by omega) ?_
    intro w1 τ1 h6
    rw [B4,LV h6]
    obtain ⟨a0,c0',hvv⟩:=ZH hv'
    have hve:∀ p:Prop,(AQ vv vv=true∧p)=p:=fun p=>by rw [hvv]; exact KO
    rw [hve]
    have lq2:AD false 1 (.pointer (some q)) τ1=some (.int .u64 n.vals[k]):=by
     obtain ⟨q2,iq2,lq2⟩:=LZ (hn τ1 h6.tail.tail.tail).2 (List.getElem?_eq_getElem hv2)
     have:=(iq .i64).symm.trans (iq2 .i64)
     cases this
     exact lq2 1
    rw [lq2,AH,CK]
    refine w8 h6 (VE h6) (k:=8) (by omega) (by rw [List.length_append,hxl,GB]; omega) ?_
    intro w2 τ2 h7
    rw [B4]
    refine GA ((k+1:Nat):Int) (by omega) ?_
    refine ⟨n.keys.length - (k+1),by omega,k+1,rfl,rfl,by omega,?_⟩
    have h8:=AAz h7 (by rw [List.length_append,List.length_append,hxl]; omega)
    have h9:=fR h8
    have e:[if n.leaf then 1 else 0,UInt8.ofNat n.keys.length]++GG (n.pairs.take k)++be n.keys[k] 8++be n.vals[k] 8=[if n.leaf then 1 else 0,UInt8.ofNat n.keys.length]++GG (n.pairs.take (k+1)):=by
     have hpk:n.pairs[k]?=some (n.keys[k],n.vals[k]):=by
      unfold Nd.pairs
      rw [List.getElem?_zip_eq_some]
      exact ⟨List.getElem?_eq_getElem hk2,List.getElem?_eq_getElem hv2⟩
     rw [List.take_add_one,hpk,Option.toList_some]
     simp [GG,jA]
    rw [e] at h9
    exact h9
   ·have hke:k=n.keys.length:=by omega
    subst hke
    have e:n.pairs.take n.keys.length=n.pairs:=List.take_of_length_le (by simp [Nd.pairs]; omega)
    rw [e] at h5
    refine hyes ⟨⟨hm1,hm8,hmv⟩,by assumption,by assumption⟩ v τ ?_
    exact (h5.perm (.swap _ _ _)).tail
  have hfr:∀ (lf:UInt8) τ,H (pt b18 (.cells [.int .u8 lf.toNat,.int .u8 (n.keys.length:Nat)] AI false)::pt b1 (.cells [.bool n.leaf,kv,vv] AE false)::l) τ→H (gO (.slice (some ⟨b18,0,none⟩) 2 2) [lf,UInt8.ofNat n.keys.length]::pt b1 (.cells [.bool n.leaf,kv,vv] AE false)::l) τ:=by
   intro lf τ ht
   refine kL (x:=[lf,UInt8.ofNat n.keys.length]) (GP.exact (by unfold AX; simp)) ?_ (by simp) ht.freeze0
   have:(UInt8.ofNat n.keys.length).toNat=n.keys.length:=by rw [UInt8.toNat_ofNat']; omega
   simp [bv,yD,this]
  rw [LB h3]
  refine iK (fun hl=>?_) (fun hl=>?_)
  ·show om (AG 1 (.slice (some ⟨b18,0,none⟩) 2 2) (.int .i64 0)) _
   rw [TG (by omega),AF]
   refine E9 h3 0 (o:=0+(0:Int).toNat*1) rfl rfl (by simp) ?_
   intro σ4 h4
   refine hloop σ4 ?_
   have e:(if n.leaf then (1:UInt8) else 0)=1:=by rw [hl]; rfl
   rw [e]
   exact hfr 1 σ4 h4
  ·refine hloop σ3 ?_
   have e:(if n.leaf then (1:UInt8) else 0)=0:=by rw [hl]; rfl
   rw [e]
   exact hfr 0 σ3 h3
 ·rw [decide_eq_false hm]
  refine IM rfl ?_
  exact hno hm σ2 h2.tail
end Go.Ax.C
set_option maxRecDepth 100000
namespace Go.Ax.C
open Go.Proofs Go.RowKit
variable {l r m:List AJ} {σ:AHeap} {Q:RK}
def C3 (p:List UInt8):List UInt8:=p++List.replicate (240 - p.length) 0
def OX (p:List UInt8) (a kind:Nat):List UInt8:=C3 p++be a 8++be kind 4
def JD (p:List UInt8) (a kind:Nat):List UInt8:=OX p a kind++be (gX (OX p a kind)) 4
theorem RE {p:List UInt8} (h:p.length≤240):(C3 p).length=240:=by simp [C3]; omega
theorem QQ {p:List UInt8} {a k:Nat} (h:p.length≤240):(OX p a k).length=252:=by simp [OX,RE h,GB]
theorem vG {p:List UInt8} {a k:Nat} (h:p.length≤240):(JD p a k).length=256:=by simp [JD,QQ h,GB]
theorem j3 (x:List UInt8):gX x<4294967296:=by have:=pD x; unfold gX; omega
def QX (x:List UInt8) (a kind:Nat):Nat :=
 if LF ((x.drop 252).take 4)≠gX (x.take 252) then 20 else if LF ((x.drop 240).take 8)≠a then 21 else if LF ((x.drop 248).take 4)≠kind then 22 else 0
theorem t7 {p:List UInt8} {a kind:Nat} (h:p.length≤240) (ha:a<18446744073709551616) (hk:kind<4294967296):QX (JD p a kind) a kind=0∧(JD p a kind).take 240=C3 p:=by
 have hp:=RE h
 have hq:=QQ (a:=a) (k:=kind) h
 have e1:(JD p a kind).take 252=OX p a kind:=by unfold JD; rw [← hq,List.take_left]
 have e2:(JD p a kind).drop 252=be (gX (OX p a kind)) 4:=by unfold JD; rw [← hq,List.drop_left]
 have e3:(JD p a kind).take 240=C3 p:=by
  unfold JD OX; rw [List.append_assoc,List.append_assoc,← hp,List.take_left]
 have e4:((JD p a kind).drop 240).take 8=be a 8:=by
  unfold JD OX
  rw [List.append_assoc,List.append_assoc,← hp,List.drop_left]
  rw [List.take_append_of_le_length (by rw [GB]; exact Nat.le_refl _),List.take_of_length_le (by rw [GB]; exact Nat.le_refl _)]
 have e5:((JD p a kind).drop 248).take 4=be kind 4:=by
  have h8:(C3 p++be a 8).length=248:=by rw [List.length_append,hp,GB]
  have:JD p a kind=(C3 p++be a 8)++(be kind 4++be (gX (OX p a kind)) 4):=by simp [JD,OX]
  rw [this,← h8,List.drop_left,List.take_append_of_le_length (by rw [GB]; exact Nat.le_refl _),List.take_of_length_le (by rw [GB]; exact Nat.le_refl _)]
 refine ⟨?_,e3⟩
 unfold QX
 rw [e1,e2,e4,e5,List.take_of_length_le (by rw [GB]; exact Nat.le_refl _),aB,aB,aB]
 have:=j3 (OX p a kind)
 rw [Nat.mod_eq_of_lt (by omega),Nat.mod_eq_of_lt (by omega),Nat.mod_eq_of_lt (by omega)]
 simp
theorem uS (n:Nat):reps n [.int .u8 0]=bv (List.replicate n 0):=by rw [QO]; simp [bv,yD]
theorem ADM {v:Value} {p:List UInt8} {a kind:Nat} (h:H l σ) (hb:∀ τ,H l τ→Z2 τ v p) (hp:p.length≤240) (ha:a<9223372036854775808) (hk:kind<256)
 (hQ:∀ w σ',H (A5 AI 1 w 256 (bv (JD p a kind))::l) σ'→Q (.ret (.tuple #[w,.int .i64 0])) σ'):E RF [v,.int .i64 a,.int .u8 kind] σ Q:=by
 apply kG; unfold ZT
 obtain ⟨va,vc,hv⟩:=HX (hb σ h)
 have hlen:BJ v=some (.int .i64 p.length):=by rw [hv]; rfl
 rw [hlen,AH]
 refine AT (fun g=>absurd g (by omega)) fun _=>?_
 refine RR h (by omega) ?_
 intro b σ1 h1
 replace h1:=h1.unsnoc
 have e0:(256:Int).toNat=256:=rfl
 have e1:(240:Int).toNat=240:=rfl
 rw [e0,uS] at h1
 rw [e0,e1]
 have hsrc:DC 1 (.slice va (Nat.min p.length 240) vc) σ1=some (p.length,bv p):=by
  have:=(RL (hb σ1 h1.tail)).src
  rw [hv] at this
  have e:Nat.min p.length 240=p.length:=Nat.min_eq_left hp
  rw [e]; exact this
 simp only []
 rw [hv]
 refine UZ h1 0 rfl hsrc (qI _) (by simp; omega) ?_
 intro σ2 h2
 simp only [List.set_cons_zero] at h2
 have hrow:splice (bv (List.replicate 256 0)) 0 (bv p)=bv (C3 p)++bv (List.replicate 16 0):=by
  rw [vK,List.take_zero,List.nil_append,Nat.zero_add,List.drop_replicate,← uU]
  congr 1
  unfold C3
  rw [List.append_assoc,List.replicate_append_replicate]
  congr 2; omega
 rw [hrow] at h2
 have hbt:Z2 σ2 (.slice (some ⟨b,0,none⟩) 240 256) (C3 p):=by
  refine .inr ⟨b,0,256,_,by rw [RE hp],?_,h2.row 0 rfl,?_,?_⟩
  ·rw [RE hp]; exact ⟨by rw [CI (by unfold AX; omega)]; omega,.inl (by unfold AX; omega)⟩
  ·rw [List.drop_zero,List.take_append_of_le_length (by simp),List.take_of_length_le (by simp)]
  ·simp
 refine YG (a:Int) (by omega) ?_
 refine w8 h2 hbt (k:=8) (by omega) (by rw [RE hp]; omega) ?_
 intro w1 σ3 h3
 rw [B4]
 refine YG (kind:Int) (by omega) ?_
 refine w8 h3 (VE h3) (k:=4) (by omega) (by rw [List.length_append,RE hp,GB]; omega) ?_
 intro w2 σ4 h4
 rw [B4]
 have h4':H (A5 AI 1 w2 252 (bv (OX p a kind))::A5 AI 1 w1 ((C3 p).length+8) (bv (C3 p++be a 8))::pt b (.cells (bv (C3 p)++bv (List.replicate 16 0)) AI false)::l) σ4:=by
  have:(C3 p++be a 8).length+4=252:=by rw [List.length_append,RE hp,GB]
  rw [this] at h4
  exact h4
 refine ADg (VE h4') (by rw [QQ hp]; omega) ?_
 rw [A6,rZ]
 have hcl:=j3 (OX p a kind)
 refine YG ((gX (OX p a kind):Nat):Int) (by omega) ?_
 refine w8 h4' (VE h4') (k:=4) (by omega) (by rw [QQ hp]; omega) ?_
 intro w3 σ5 h5
 rw [B4]
 rw [QQ hp] at h5
 refine hQ w3 σ5 ?_
 exact (fR ((h5.perm (.swap _ _ _)).tail))
theorem ABO {v:Value} {x:List UInt8} {k:Nat} {kd kd':IntKind} (h:Z2 σ v x) (hk:k≤x.length) (h0:0<k):∃ w,AY 1 v none (some (.int kd (k:Nat))) (some (.int kd' (k:Nat)))=some w∧Z2 σ w (x.take k):=by
 rcases h with ⟨rfl,_⟩ | ⟨b,o,c,row,rfl,hc,h1,h2,h3⟩
 ·simp at hk; omega
 ·have hkc:k≤BH c:=Nat.le_trans hk hc.1
  have e:AY 1 (.slice (some ⟨b,o,none⟩) x.length c) none (some (.int kd (k:Nat))) (some (.int kd' (k:Nat)))=some (.slice (some ⟨b,o,none⟩) k k):=by
   simp only [AY,IQ]
   rw [CS (y:=BH c) (by omega)]
   simp only [Option.bind_some]
   rw [CS (by simp)]
   simp [EP]
  have hkl:(x.take k).length=k:=by simp; omega
  have hkO:k<AX:=by
   have:BH c<AX:=Nat.mod_lt _ (by unfold AX; omega)
   omega
  refine ⟨_,e,.inr ⟨b,o,k,row,by rw [hkl],?_,h1,?_,by rw [hkl]; omega⟩⟩
  ·rw [hkl]; exact ⟨by rw [CI hkO]; exact Nat.le_refl _,.inl hkO⟩
  ·rw [hkl,← lS,← h2,List.take_take,Nat.min_eq_left hk]
theorem AEJ {v:Value} {x:List UInt8} {a kind:Nat} (h:H l σ) (hb:∀ τ,H l τ→Z2 τ v x) (hx:x.length=256) (ha:a<9223372036854775808) (hk:kind<256)
 (hno:QX x a kind≠0→∀ σ',H l σ'→Q (.ret (.tuple #[.slice none 0 0,.int .i64 (QX x a kind:Nat)])) σ')
 (hyes:QX x a kind=0→∀ w σ',H (A5 AI 1 w 240 (bv (x.take 240))::l) σ'→Q (.ret (.tuple #[w,.int .i64 0])) σ'):E R6 [v,.int .i64 a,.int .u8 kind] σ Q:=by
 apply lG; unfold ZF
 have hbt:=hb σ h
 have hlen:BJ v=some (.int .i64 x.length):=by obtain ⟨va,vc,rfl⟩:=HX hbt; rfl
 rw [hlen,AH]
 refine AT (fun g=>absurd g (by omega)) fun _=>?_
 rw [AH]
 refine AT (fun g=>absurd g (by omega)) fun _=>?_
 obtain ⟨w1,e1,b1⟩:=NV (k:=.i64) (a:=252) hbt (by omega)
 rw [show (252:Int)=((252:Nat):Int) from rfl,e1,AF]
 refine ABM b1 (k:=4) (by omega) (by simp; omega) (fun g=>absurd g (by simp; omega)) fun _=>?_
 rw [BQ,AP,AP]
 obtain ⟨w2,e2,b2⟩:=NV (k:=.i64) (a:=240) hbt (by omega)
 rw [show (240:Int)=((240:Nat):Int) from rfl,e2,AF]
 refine ABM b2 (k:=8) (by omega) (by simp; omega) (fun g=>absurd g (by simp; omega)) fun _=>?_
 rw [BQ,AP,AP]
 obtain ⟨w3,e3,b3⟩:=NV (k:=.i64) (a:=248) hbt (by omega)
 rw [show (248:Int)=((248:Nat):Int) from rfl,e3,AF]
 refine ABM b3 (k:=4) (by omega) (by simp; omega) (fun g=>absurd g (by simp; omega)) fun _=>?_
 rw [BQ,AP,AP]
 obtain ⟨w4,e4,b4⟩:=xH (k:=.i64) (a:=252) hbt (by omega) (by omega)
 rw [e4,AF]
 refine ADg b4 (by simp; omega) ?_
 rw [A6,rZ]
 have hcl:=j3 (x.take 252)
 refine YG ((gX (x.take 252):Nat):Int) (by omega) ?_
 unfold QX at hno hyes
 refine CY (fun g1=>?_) fun g1=>?_
 ·rw [if_pos (by omega)] at hno
  exact hno (by omega) σ h
 rw [if_neg (by omega)] at hno hyes
 refine YG (a:Int) (by omega) ?_
 refine CY (fun g2=>?_) fun g2=>?_
 ·rw [if_pos (by omega)] at hno
  exact hno (by omega) σ h
 rw [if_neg (by omega)] at hno hyes
 refine YG (kind:Int) (by omega) ?_
 refine CY (fun g3=>?_) fun g3=>?_
 ·rw [if_pos (by omega)] at hno
  exact hno (by omega) σ h
 rw [if_neg (by omega)] at hno hyes
 obtain ⟨w5,e5,b5⟩:=ABO (k:=240) (kd:=.i64) (kd':=.i64) hbt (by omega) (by omega)
 rw [e5,AF]
 have hl5:(x.take 240).length=240:=by simp; omega
 obtain ⟨a5,c5,rfl⟩:=HX b5
 have hs5:=(RL b5).src
 rw [hl5] at hs5 ⊢
 refine O.up (O.L7 h hs5 (by omega) ?_)
 intro w σ' h'
 rw [B4]
 exact hyes rfl w σ' h'.unsnoc
end Go.Ax.C
set_option maxRecDepth 100000
namespace Go.Ax.C
open Go.Proofs Go.RowKit
variable {l r m:List AJ} {σ:AHeap} {Q:RK}
theorem tM:∀ {x y:List UInt8},x.length=y.length→LF x=LF y→x=y
 | [],[],_,_=>rfl
 | a::x,b::y,hl,h=>by
   rw [YE,YE] at h
   simp only [List.length_cons,Nat.add_right_cancel_iff] at hl
   have h1:=gN x
   have h2:=gN y
   rw [hl] at h h1
   have hpos:0<256 ^ y.length:=Nat.pow_pos (by omega)
   have e1:a.toNat=b.toNat:=by
    have q1:(a.toNat*256 ^ y.length+LF x) / 256 ^ y.length=a.toNat:=by
     rw [Nat.mul_comm,Nat.mul_add_div hpos,Nat.div_eq_of_lt h1,Nat.add_zero]
    have q2:(b.toNat*256 ^ y.length+LF y) / 256 ^ y.length=b.toNat:=by
     rw [Nat.mul_comm,Nat.mul_add_div hpos,Nat.div_eq_of_lt h2,Nat.add_zero]
    rw [← q1,← q2,h]
   have e2:a=b:=UInt8.toNat_inj.1 e1
   subst e2
   rw [tM hl (by omega)]
 | [],_::_,h,_=>by simp at h
 | _::_,[],h,_=>by simp at h
theorem xR (x:List UInt8):be (LF x) x.length=x:=by
 refine tM (GB _ _) ?_
 rw [aB,Nat.mod_eq_of_lt (gN x)]
def Nd.small (n:Nd):Prop:=(∀ k∈n.keys,k<18446744073709551616)∧∀ v∈n.vals,v<18446744073709551616
theorem AB9:(256:Nat) ^ 8=18446744073709551616:=by decide
theorem R8 {n:Nd} {x:List UInt8} (hm:n.May) (hs:n.small) (h:x=C3 n.form) {i:Nat} (hi:i<n.keys.length) :
 LF ((x.drop (2+16*i)).take 8)=n.keys[i]∧LF ((x.drop (2+16*i+8)).take 8)=n.vals[i]'(by have:=hm.1.2.2; omega):=by
 have hvl:=hm.1.2.2
 have hi2:i<n.vals.length:=by omega
 have hpl:(n.pairs.take i).length=i:=by simp [Nd.pairs]; omega
 have hpi:n.pairs[i]?=some (n.keys[i],n.vals[i]):=by
  unfold Nd.pairs
  rw [List.getElem?_zip_eq_some]
  exact ⟨List.getElem?_eq_getElem hi,List.getElem?_eq_getElem hi2⟩
 have hpx:n.pairs=n.pairs.take i++(n.keys[i],n.vals[i])::n.pairs.drop (i+1):=by
  have hlt:=(List.getElem?_eq_some_iff.1 hpi).1
  have:=(List.getElem?_eq_some_iff.1 hpi).2
  rw [← this,← List.drop_eq_getElem_cons hlt,List.take_append_drop]
 obtain ⟨A,hA⟩:∃ A,A=[if n.leaf then (1:UInt8) else 0,UInt8.ofNat n.keys.length]++GG (n.pairs.take i):=⟨_,rfl⟩
 obtain ⟨B,hB⟩:∃ B,B=GG (n.pairs.drop (i+1))++List.replicate (240 - n.form.length) 0:=⟨_,rfl⟩
 have hx:x=A++(be n.keys[i] 8++(be n.vals[i] 8++B)):=by
  rw [h,hA,hB]
  unfold C3
  have:n.form=[if n.leaf then (1:UInt8) else 0,UInt8.ofNat n.keys.length]++(GG (n.pairs.take i)++(jA (n.keys[i],n.vals[i])++GG (n.pairs.drop (i+1)))):=by
   unfold Nd.form
   congr 1
   conv=>lhs; rw [hpx]
   simp [GG]
  conv=>lhs; arg 1; rw [this]
  simp [jA]
 have hAl:A.length=2+16*i:=by rw [hA,List.length_append,R9,hpl]; rfl
 constructor
 ·rw [hx,← hAl,List.drop_left,List.take_append_of_le_length (by rw [GB]; exact Nat.le_refl _),List.take_of_length_le (by rw [GB]; exact Nat.le_refl _),aB,AB9,Nat.mod_eq_of_lt (hs.1 _ (List.getElem_mem hi))]
 ·have hx2:x=(A++be n.keys[i] 8)++(be n.vals[i] 8++B):=by rw [hx]; simp
  have hAl2:(A++be n.keys[i] 8).length=2+16*i+8:=by rw [List.length_append,hAl,GB]
  rw [hx2,← hAl2,List.drop_left,List.take_append_of_le_length (by rw [GB]; exact Nat.le_refl _),List.take_of_length_le (by rw [GB]; exact Nat.le_refl _),aB,AB9,Nat.mod_eq_of_lt (hs.2 _ (List.getElem_mem hi2))]
theorem UX {n:Nd} {x:List UInt8} (hm:n.May) (h:x=C3 n.form):x[0]?=some (if n.leaf then 1 else 0)∧x[1]?=some (UInt8.ofNat n.keys.length)∧(UInt8.ofNat n.keys.length).toNat=n.keys.length:=by
 refine ⟨by rw [h]; simp [C3,Nd.form],by rw [h]; simp [C3,Nd.form],?_⟩
 rw [UInt8.toNat_ofNat']; have:=hm.1.2.1; omega
theorem uP {n:Nd} {x:List UInt8} (hm:n.May) (h:x=C3 n.form):x.drop (2+16*n.keys.length)=List.replicate (240 - (2+16*n.keys.length)) 0:=by
 have:=eN n hm.1.2.2
 rw [h]; unfold C3
 rw [← this,List.drop_left]
theorem xC {n p:Nd} (hn:n.May) (hp:p.May) (sn:n.small) (sp:p.small) (h:C3 n.form=C3 p.form):n=p:=by
 obtain ⟨a0,a1,a2⟩:=UX hn rfl
 obtain ⟨b0,b1,b2⟩:=UX hp rfl
 rw [h,b0] at a0
 rw [h,b1] at a1
 have hlen:n.keys.length=p.keys.length:=by
  have:=Option.some.inj a1
  rw [← a2,← b2,this]
 have hleaf:n.leaf=p.leaf:=by
  have:=Option.some.inj a0
  cases e1:n.leaf<;>cases e2:p.leaf<;>simp [e1,e2] at this ⊢
 have hk:n.keys=p.keys:=by
  apply List.ext_getElem hlen
  intro i h1 h2
  rw [← (R8 hn sn rfl h1).1,← (R8 hp sp rfl h2).1,h]
 have hv:n.vals=p.vals:=by
  have l1:=hn.1.2.2
  have l2:=hp.1.2.2
  apply List.ext_getElem (by omega)
  intro i h1 h2
  rw [← (R8 hn sn rfl (i:=i) (by omega)).2,← (R8 hp sp rfl (i:=i) (by omega)).2,h]
 cases n; cases p
 simp only at hleaf hk hv
 subst hleaf; subst hk; subst hv; rfl
theorem sF {rb:Nat} {rv:Value} {y:List UInt8} (h:H (pt rb (.cells [rv] G9 false)::l) σ) (hlm:∀ τ,H l τ→H m τ) (hb:∀ τ,H m τ→Z2 τ rv y) (hy:8<y.length) (hy2:y.length≤1000)
 (hQ:∀ rv' σ',(∀ τ,H m τ→Z2 τ rv' (y.drop 8))→H (pt rb (.cells [rv'] G9 false)::l) σ'→Q (.ret (.tuple #[.int .u64 (LF (y.take 8):Nat),.int .i64 0])) σ'):E CF [.pointer (some ⟨rb,0,none⟩)] σ Q:=by
 apply SZ; unfold MN
 rw [LV h]
 refine ABM (hb σ (hlm σ h.tail)) (k:=8) (by omega) (by omega) (fun g=>absurd g (by omega)) fun _=>?_
 rw [BQ,AP,AP]
 refine AT (fun _=>?_) fun g=>absurd rfl g
 rw [LV h]
 obtain ⟨w,e,_⟩:=NV (k:=.i64) (a:=8) (hb σ (hlm σ h.tail)) hy
 have hw:∀ τ,H m τ→Z2 τ w (y.drop 8):=fun τ ht=>by
  obtain ⟨w2,e2,h2⟩:=NV (k:=.i64) (a:=8) (hb τ ht) hy
  rw [e] at e2
  cases e2
  exact h2
 rw [show (8:Int)=((8:Nat):Int) from rfl,e,AF]
 obtain ⟨a',c',hwv⟩:=HX (hw σ (hlm σ h.tail))
 refine st h (by rw [hwv]; rfl) ?_
 intro σ1 h1
 unfold GC
 exact hQ w σ1 hw h1
end Go.Ax.C
set_option maxRecDepth 100000
namespace Go.Ax.C
open Go.Proofs Go.RowKit
variable {l r m:List AJ} {σ:AHeap} {Q:RK}
theorem ACs {e:Nat} {v:Value} {n:Nat} {xs:List Nat} (h:H (A5 e 1 v n (uv xs)::l) σ):Us σ v xs:=DF (I1 h)
structure uR (x:List UInt8) (k:Nat) (ks vs:List Nat):Prop where
 kl:ks.length=k
 vl:vs.length=k
 ke:∀ t,t<k→ks[t]?=some (LF ((x.drop (2+16*t)).take 8))
 ve:∀ t,t<k→vs[t]?=some (LF ((x.drop (2+16*t+8)).take 8))
 kp:ks.Pairwise (·<·)
 vz:∀ v∈vs,v≠0
theorem sV {x:List UInt8}:LF (x.take 8)<18446744073709551616:=by
 have h:=gN (x.take 8)
 have:(x.take 8).length≤8:=by simp; omega
 have h2:(256:Nat) ^ (x.take 8).length≤256 ^ 8:=Nat.pow_le_pow_right (by omega) this
 rw [AB9] at h2
 omega
theorem uR.small {x:List UInt8} {k:Nat} {ks vs:List Nat} (h:uR x k ks vs) (lf:Bool):(Nd.mk lf ks vs).small:=by
 refine ⟨fun a ha=>?_,fun a ha=>?_⟩
 ·obtain ⟨t,ht,rfl⟩:=List.getElem_of_mem ha
  simp only at ht
  have:=h.ke t (by rw [← h.kl]; exact ht)
  rw [List.getElem?_eq_getElem ht] at this
  rw [Option.some.inj this]
  exact sV
 ·obtain ⟨t,ht,rfl⟩:=List.getElem_of_mem ha
  simp only at ht
  have:=h.ve t (by rw [← h.vl]; exact ht)
  rw [List.getElem?_eq_getElem ht] at this
  rw [Option.some.inj this]
  exact sV
theorem uR.pairs {x:List UInt8} {ks vs:List Nat}:∀ {k:Nat},uR x k ks vs→2+16*k≤x.length→GG (ks.zip vs)=(x.drop 2).take (16*k):=by
 intro k h hx
 have key:∀ j,j≤k→GG ((ks.zip vs).take j)=(x.drop 2).take (16*j):=by
  intro j
  induction j with
  | zero=>intro _; simp [GG]
  | succ j ih =>
    intro hj
    have hz:(ks.zip vs)[j]?=some (LF ((x.drop (2+16*j)).take 8),LF ((x.drop (2+16*j+8)).take 8)):=by
     rw [List.getElem?_zip_eq_some]
     exact ⟨h.ke j (by omega),h.ve j (by omega)⟩
    rw [List.take_add_one,hz,Option.toList_some]
    have:GG ((ks.zip vs).take j++[(LF ((x.drop (2+16*j)).take 8),LF ((x.drop (2+16*j+8)).take 8))])=GG ((ks.zip vs).take j)++(be (LF ((x.drop (2+16*j)).take 8)) 8++be (LF ((x.drop (2+16*j+8)).take 8)) 8):=by simp [GG,jA]
    rw [this,ih (by omega)]
    have l1:((x.drop (2+16*j)).take 8).length=8:=by simp; omega
    have l2:((x.drop (2+16*j+8)).take 8).length=8:=by simp; omega
    have b1:=xR ((x.drop (2+16*j)).take 8)
    have b2:=xR ((x.drop (2+16*j+8)).take 8)
    rw [l1] at b1
    rw [l2] at b2
    rw [b1,b2,show 16*(j+1)=16*j+(8+8) by omega,List.take_add,List.drop_drop,List.take_add,List.drop_drop]
 have:=key k (Nat.le_refl _)
 rw [List.take_of_length_le (by simp [h.kl,h.vl])] at this
 exact this
theorem uR.form {x:List UInt8} {k:Nat} {ks vs:List Nat} {lf:Bool} (h:uR x k ks vs) (hx:x.length=240) (hk:2+16*k≤240) (h0:x[0]?=some (if lf then 1 else 0)) (h1:x[1]?=some (UInt8.ofNat k)) (hz:∀ b∈x.drop (2+16*k),b=0):x=C3 (Nd.mk lf ks vs).form:=by
 have hp:=h.pairs (by omega)
 have hf:(Nd.mk lf ks vs).form=x.take (2+16*k):=by
  unfold Nd.form Nd.pairs
  simp only
  rw [hp,h.kl,List.take_add]
  congr 1
  match x,hx,h0,h1 with
  | a::b::x,_,h0,h1 =>
    simp at h0 h1
    subst h0; subst h1
    rfl
 unfold C3
 rw [hf]
 have hl:(x.take (2+16*k)).length=2+16*k:=by simp; omega
 rw [hl]
 have:x.drop (2+16*k)=List.replicate (240 - (2+16*k)) 0:=by
  rw [List.eq_replicate_iff]
  exact ⟨by simp; omega,hz⟩
 rw [← this,List.take_append_drop]
theorem uR.snoc {x:List UInt8} {k:Nat} {ks vs:List Nat} (h:uR x k ks vs) (hkey:∀ y,ks.getLast?=some y→y<LF ((x.drop (2+16*k)).take 8)) (hval:LF ((x.drop (2+16*k+8)).take 8)≠0) :
 uR x (k+1) (ks++[LF ((x.drop (2+16*k)).take 8)]) (vs++[LF ((x.drop (2+16*k+8)).take 8)]):=by
 refine ⟨by simp [h.kl],by simp [h.vl],fun t ht=>?_,fun t ht=>?_,jK h.kp hkey,fun v hv=>?_⟩
 ·rcases Nat.lt_or_ge t k with h' | h'
  ·rw [List.getElem?_append_left (by rw [h.kl]; exact h')]; exact h.ke t h'
  ·have:t=k:=by omega
   subst this
   rw [List.getElem?_append_right (by rw [h.kl]; exact Nat.le_refl _),h.kl,Nat.sub_self]; rfl
 ·rcases Nat.lt_or_ge t k with h' | h'
  ·rw [List.getElem?_append_left (by rw [h.vl]; exact h')]; exact h.ve t h'
  ·have:t=k:=by omega
   subst this
   rw [List.getElem?_append_right (by rw [h.vl]; exact Nat.le_refl _),h.vl,Nat.sub_self]; rfl
 ·rcases List.mem_append.1 hv with hv | hv
  ·exact h.vz v hv
  ·simp at hv; subst hv; exact hval
end Go.Ax.C
set_option maxRecDepth 100000
namespace Go.Ax.C
open Go.Proofs Go.RowKit
variable {l r m:List AJ} {σ:AHeap} {Q:RK}
def aH:Value:=.agg #[.bool false,.slice none 0 0,.slice none 0 0]
abbrev TkL (b41 b49 b55:Nat) (rv:Value) (lf:Bool) (kvv vvv:Value) (ks vs:List Nat) (l:List AJ):List AJ :=
 pt b55 (.cells [rv] G9 false)::A5 AL 1 kvv ks.length (uv ks)::A5 AL 1 vvv vs.length (uv vs)::pt b49 (.cells [.bool lf,kvv,vvv] AE false)::pt b41 (.cells [.bool false,.slice none 0 0,.slice none 0 0] AE false)::l
theorem ADZ {b41 b49 b55:Nat} {rv:Value} {lf:Bool} {kvv vvv:Value} {ks vs:List Nat} (h:H (TkL b41 b49 b55 rv lf kvv vvv ks vs l) σ):H l σ:=h.tail.tail.tail.tail.tail
theorem dS {b41:Nat} {L:List AJ} {e:Int} (h:H L σ) [AtB L b41 (pt b41 (.cells [.bool false,.slice none 0 0,.slice none 0 0] AE false)) r] (hr:∀ τ,H r τ→H l τ) (hQ:∀ σ',H l σ'→Q (.ret (.tuple #[aH,.int .i64 e])) σ') :
 pu (AN 3 (.pointer (some ⟨b41,0,none⟩)) (.agg #[(.bool false),(.slice none 0 0),(.slice none 0 0)]) σ) fun τ143 =>
  pu (AD true 3 (.pointer (some ⟨b41,0,none⟩)) τ143) fun v149=>Q (.ret (.tuple #[v149,(.int .i64 e)])) τ143:=by
 refine bJ h rfl rfl rfl ?_
 intro σ1 h1
 rw [WG (h1.row 0 rfl) (by simp),A4]
 exact hQ σ1 (hr σ1 h1.tail)
theorem XS {bk:Nat} {K:Value×AHeap→Prop} (i:Nat) {L:List AJ} (h:H L σ) {e:TypeId} {w:Value} {xs:List Nat}
 (hi:L[i]?=some (A5 e 1 w xs.length (uv xs))) (hx:xs.length≤1000) {j:Nat} {x:Nat} (hj:L[j]?=some (pt bk (.cells [.int .u64 (x:Nat)] AL false)))
 (hK:∀ v' σ',H (L.set i (A5 e 1 v' (xs++[x]).length (uv (xs++[x])))) σ'→K (v',σ')):pu (BN e 1 8 w (.slice (some ⟨bk,0,none⟩) 1 1) σ) K:=by
 have hs:DC 1 (.slice (some ⟨bk,0,none⟩) 1 1) σ=some (1,uv [x]):=by rw [E3 (h.row j hj) (by simp)]; rfl
 refine DS h i hi hs (by omega) (by omega) (N0 _) ?_
 intro v' σ' h'
 rw [← NW] at h'
 refine hK v' σ' ?_
 rw [List.length_append]; exact h'
set_option maxHeartbeats 1000000 in
theorem AEt {b41 b49 b55:Nat} {rv:Value} {lf:Bool} {kvv vvv:Value} {ks vs:List Nat} {x:List UInt8} {k key:Nat} {N:Int→AHeap→Prop} (h:H (TkL b41 b49 b55 rv lf kvv vvv ks vs l) σ) (hx:x.length=240) (hk:k<8) (hg:uR x k ks vs)
 (hb:∀ τ,H l τ→Z2 τ rv (x.drop (2+16*k+8))) (hkey:key=LF ((x.drop (2+16*k)).take 8)) (hlt:∀ y,ks.getLast?=some y→y<key)
 (hz:LF ((x.drop (2+16*k+8)).take 8)=0→∀ σ',H l σ'→Q (.ret (.tuple #[aH,.int .i64 5])) σ')
 (hN:∀ rv' kvv' vvv' ks' vs' σ',uR x (k+1) ks' vs'→(∀ τ,H l τ→Z2 τ rv' (x.drop (2+16*(k+1))))→H (TkL b41 b49 b55 rv' lf kvv' vvv' ks' vs' l) σ'→N ((k+1:Nat):Int) σ') :
 FC N E Q false b41 b49 b55 k (.func (.func CF) #[(.pointer (some ⟨b55,0,none⟩))] #[]) key σ:=by
 unfold FC
 refine C8 rfl ?_
 show E CF [.pointer (some ⟨b55,0,none⟩)] _ _
 refine sF (m:=l) (y:=x.drop (2+16*k+8)) h (fun τ ht=>ht.tail.tail.tail.tail) hb (by simp; omega) (by simp; omega) ?_
 intro rv' σ1 hb' h1
 rw [BQ,AP,AP]
 refine CY (fun g=>absurd rfl g) fun _=>?_
 refine AT (fun h0=>?_) (fun h0=>?_)
 ·exact dS h1 (fun τ ht=>ht.tail.tail.tail.tail) (hz (by omega))
 have hgs:=hg.snoc (by rw [← hkey]; exact hlt) (by omega)
 rw [← hkey] at hgs
 have hbn:∀ τ,H l τ→Z2 τ rv' (x.drop (2+16*(k+1))):=fun τ ht=>by
  have:=hb' τ ht
  rw [List.drop_drop] at this
  exact this
 rw [LV h1,LV h1]
 obtain ⟨_,_,ka,kc,hkv⟩:=h1.own_src 1 rfl
 obtain ⟨_,_,va,vc,hvv⟩:=h1.own_src 2 rfl
 have vk:∀ p:Prop,(AQ kvv kvv=true∧p)=p:=fun p=>by rw [hkv]; exact KO
 have vv:∀ p:Prop,(AQ vvv vvv=true∧p)=p:=fun p=>by rw [hvv]; exact KO
 have hkl:ks.length≤1000:=by rw [hg.kl]; omega
 have hvl:vs.length≤1000:=by rw [hg.vl]; omega
 -- the end of each way
 have fin:∀ (bx by':Nat) (ox oy:CX) kvv' vvv' σ',H (pt bx ox::pt by' oy::pt b55 (.cells [rv'] G9 false)::A5 AL 1 kvv' (ks++[key]).length (uv (ks++[key]))::A5 AL 1 vvv' (vs++[LF ((x.drop (2+16*k+8)).take 8)]).length (uv (vs++[LF ((x.drop (2+16*k+8)).take 8)]))::pt b49 (.cells [.bool lf,kvv,vvv] AE false)::pt b41 (.cells [.bool false,.slice none 0 0,.slice none 0 0] AE false)::l) σ' →
  St b49 1 kvv' σ' fun τ=>St b49 2 vvv' τ fun τ2=>G5 N E Q k b41 b49 b55 τ2:=by
  intro bx by' ox oy kvv' vvv' σ' h'
  have h':=h'.tail.tail
  obtain ⟨_,_,ka',kc',hkv'⟩:=h'.own_src 1 rfl
  obtain ⟨_,_,va',vc',hvv'⟩:=h'.own_src 2 rfl
  refine st h' (by rw [hkv']; rfl) ?_
  intro τ2 h2
  refine st h2 (by rw [hvv']; rfl) ?_
  intro τ3 h3
  unfold G5
  refine GA ((k+1:Nat):Int) (by omega) ?_
  exact hN rv' kvv' vvv' _ _ τ3 hgs hbn h3.re
 refine ⟨?_,?_⟩
 ·refine nw h1 ?_
  intro c1 τ1 h2
  rw [LV h2,vk,LV h2,vv]
  refine ⟨?_,?_⟩
  ·refine XS (bk:=c1) (xs:=ks) (x:=key) 2 h2 (j:=0) rfl hkl rfl ?_
   intro v' τ2 h3
   simp only [List.set_cons_succ,List.set_cons_zero] at h3
   rw [LV h3,vv]
   refine nw h3 ?_
   intro c2 τ3 h4
   rw [LV h4,vk,LV h4,vv]
   refine XS (bk:=c2) (xs:=vs) (x:=LF ((x.drop (2+16*k+8)).take 8)) 4 h4 (j:=0) rfl hvl rfl ?_
   intro w' τ4 h5
   simp only [List.set_cons_succ,List.set_cons_zero] at h5
   exact fin _ _ _ _ _ _ _ h5
  ·refine nw h2 ?_
   intro c2 τ3 h4
   rw [LV h4,vk,LV h4,vv]
   refine XS (bk:=c1) (xs:=ks) (x:=key) 3 h4 (j:=1) rfl hkl rfl ?_
   intro v' τ2 h3
   simp only [List.set_cons_succ,List.set_cons_zero] at h3
   rw [LV h3,vv]
   refine XS (bk:=c2) (xs:=vs) (x:=LF ((x.drop (2+16*k+8)).take 8)) 4 h3 (j:=0) rfl hvl rfl ?_
   intro w' τ4 h5
   simp only [List.set_cons_succ,List.set_cons_zero] at h5
   exact fin _ _ _ _ _ _ _ h5
 ·refine nw h1 ?_
  intro c2 τ1 h2
  rw [LV h2,vk,LV h2,vv]
  refine nw h2 ?_
  intro c1 τ3 h4
  rw [LV h4,vk,LV h4,vv]
  refine XS (bk:=c1) (xs:=ks) (x:=key) 3 h4 (j:=0) rfl hkl rfl ?_
  intro v' τ2 h3
  simp only [List.set_cons_succ,List.set_cons_zero] at h3
  rw [LV h3,vv]
  refine XS (bk:=c2) (xs:=vs) (x:=LF ((x.drop (2+16*k+8)).take 8)) 4 h3 (j:=1) rfl hvl rfl ?_
  intro w' τ4 h5
  simp only [List.set_cons_succ,List.set_cons_zero] at h5
  exact fin _ _ _ _ _ _ _ h5
end Go.Ax.C
set_option maxRecDepth 100000
namespace Go.Ax.C
open Go.Proofs Go.RowKit
variable {l r m:List AJ} {σ:AHeap} {Q:RK}
def zZ (x:List UInt8):Prop:=∀ n:Nd,n.May→n.small→x≠C3 n.form
set_option maxHeartbeats 1000000 in
theorem ADj {v:Value} {x:List UInt8} (h:H l σ) (hb:∀ τ,H l τ→Z2 τ v x) (hx:x.length=240)
 (hno:∀ e:Int,e≠0→zZ x→∀ σ',H l σ'→Q (.ret (.tuple #[aH,.int .i64 e])) σ')
 (hyes:∀ (n:Nd) kv vv σ',n.May→n.small→x=C3 n.form→H (AO kv n.keys::AO vv n.vals::l) σ'→Q (.ret (.tuple #[.agg #[.bool n.leaf,kv,vv],.int .i64 0])) σ') :
 E TN [v] σ Q:=by
 apply m9; unfold bV
 refine nw h ?_
 intro b41 σ1 h1
 have hbt:=hb σ1 h1.tail
 have hlen:BJ v=some (.int .i64 x.length):=by obtain ⟨va,vc,rfl⟩:=HX hbt; rfl
 rw [hlen,AH]
 refine AT (fun g=>absurd g (by omega)) fun _=>?_
 obtain ⟨a,hxa⟩:∃ a,x[0]?=some a:=⟨_,List.getElem?_eq_getElem (by omega)⟩
 obtain ⟨c,hxc⟩:∃ c,x[1]?=some c:=⟨_,List.getElem?_eq_getElem (by omega)⟩
 obtain ⟨pa,ia,la⟩:=(RL hbt).elem 0 a hxa
 obtain ⟨pc,ic,lc⟩:=(RL hbt).elem 1 c hxc
 have ia':=ia .i64
 have ic':=ic .i64
 simp only [Int.natCast_zero,Int.natCast_one] at ia' ic'
 have ca:=a.toNat_lt
 have cc:=c.toNat_lt
 rw [ia',AF,la]
 show A3 .u8 (some (.int .u8 (a.toNat:Int))) _
 rw [AH]
 refine AT (fun g=>?_) fun ga=>?_
 ·refine dS h1 (fun τ ht=>ht) (hno 5 (by omega) fun n hm hs he=>?_)
  have:=(UX hm he).1
  rw [hxa] at this
  have:=Option.some.inj this
  rw [this] at g
  cases hl:n.leaf<;>simp [hl] at g
 rw [AH]
 refine AT (fun g=>absurd g (by omega)) fun _=>?_
 rw [ic',AF,lc]
 show A3 .u8 (some (.int .u8 (c.toNat:Int))) _
 rw [AH]
 have hcnt:∀ n:Nd,n.May→x=C3 n.form→c.toNat=n.keys.length:=by
  intro n hm he
  obtain ⟨_,q1,q2⟩:=UX hm he
  rw [hxc] at q1
  rw [Option.some.inj q1,q2]
 have hbad:∀ τ,H (pt b41 (.cells [.bool false,.slice none 0 0,.slice none 0 0] AE false)::l) τ→¬ (1≤c.toNat∧c.toNat≤8)→H1 E Q true b41 v τ:=by
  intro τ ht g
  unfold H1
  refine IM rfl ?_
  refine dS ht (fun τ ht=>ht) (hno 5 (by omega) fun n hm hs he=>?_)
  have:=hcnt n hm he
  have:=hm.1.1
  have:=hm.1.2.1
  omega
 refine AT (fun g=>hbad σ1 h1 (by omega)) fun g1=>?_
 rw [AF,lc]
 show A3 .u8 (some (.int .u8 (c.toNat:Int))) _
 rw [AH]
 by_cases g8:8<c.toNat
 ·have e:decide ((8:Int)<(c.toNat:Int))=true:=by simp; omega
  rw [e]
  exact hbad σ1 h1 (by omega)
 have e:decide ((8:Int)<(c.toNat:Int))=false:=by simp; omega
 rw [e]
 unfold H1
 refine C8 rfl ?_
 rw [ia',AF,la]
 show A3 .u8 (some (.int .u8 (a.toNat:Int))) _
 rw [AH]
 refine nw h1 ?_
 intro b49 σ2 h2
 refine bJ h2 rfl rfl rfl ?_
 intro σ3 h3
 obtain ⟨w,ew,_⟩:=NV (k:=.i64) (a:=2) hbt (by omega)
 have hw:∀ τ,H l τ→Z2 τ w (x.drop 2):=fun τ ht=>by
  obtain ⟨w2,e2,h2⟩:=NV (k:=.i64) (a:=2) (hb τ ht) (by omega)
  rw [ew] at e2
  cases e2
  exact h2
 rw [show (2:Int)=((2:Nat):Int) from rfl,ew,AF]
 obtain ⟨wa,wc,hwv⟩:=HX (hw σ1 h1.tail)
 refine FA (by rw [hwv]; rfl) ?_
 refine nw h3 ?_
 intro b55 σ4 h4
 obtain ⟨pc2,ic2,lc2⟩:=(RL (hb σ4 h4.tail.tail.tail)).elem 1 c hxc
 have:pc2=pc:=by
  have:=(ic2 .i64).symm.trans (ic .i64)
  cases this; rfl
 subst this
 rw [ic',AF,lc2]
 show A3 .u8 (some (.int .u8 (c.toNat:Int))) _
 rw [AH]
 refine GA (c.toNat:Int) (by omega) ?_
 obtain ⟨lf,hlf⟩:∃ lf,lf=decide ((a.toNat:Int)=1):=⟨_,rfl⟩
 rw [← hlf] at h4
 have h5:H (TkL b41 b49 b55 w lf (.slice none 0 0) (.slice none 0 0) [] [] l) σ4:=by
  have q:=(h4.own_nil AL 1).unsnoc
  have q2:H (A5 AL 1 (.slice none 0 0) ([]:List Nat).length (uv [])::A5 AL 1 (.slice none 0 0) ([]:List Nat).length (uv [])::pt b55 (.cells [w] G9 false)::pt b49 (.cells [.bool lf,.slice none 0 0,.slice none 0 0] AE false)::pt b41 (.cells [.bool false,.slice none 0 0,.slice none 0 0] AE false)::l) σ4:=(q.own_nil AL 1).unsnoc
  exact q2.re
 refine ⟨fun m i τ=>∃ (k:Nat) (rv kvv vvv:Value) (ks vs:List Nat),i=k∧m=c.toNat - k∧k≤c.toNat∧uR x k ks vs∧(∀ τ,H l τ→Z2 τ rv (x.drop (2+16*k)))∧H (TkL b41 b49 b55 rv lf kvv vvv ks vs l) τ,
  ⟨c.toNat,0,w,_,_,[],[],rfl,rfl,by omega,⟨rfl,rfl,fun t ht=>by omega,fun t ht=>by omega,by simp,by simp⟩,hw,h5⟩,?_⟩
 rintro m i τ ⟨k,rv,kvv,vvv,ks,vs,rfl,rfl,hk,hg,hbr,h6⟩
 unfold UA
 refine AT (fun hlt=>?_) (fun hge=>?_)
 ·have hk8:k<8:=by omega
  show E CF [.pointer (some ⟨b55,0,none⟩)] _ _
  refine sF (m:=l) (y:=x.drop (2+16*k)) h6 (fun τ ht=>ht.tail.tail.tail.tail) hbr (by simp; omega) (by simp; omega) ?_
  intro rv' τ1 hb' h7
  rw [BQ,AP,AP]
  refine CY (fun g=>absurd rfl g) fun _=>?_
  have hb2:∀ τ,H l τ→Z2 τ rv' (x.drop (2+16*k+8)):=fun τ ht=>by
   have:=hb' τ ht
   rw [List.drop_drop] at this
   exact this
  have h20:(∀ y,ks.getLast?=some y→y<LF ((x.drop (2+16*k)).take 8))→FC _ E Q false b41 b49 b55 k (.func (.func CF) #[(.pointer (some ⟨b55,0,none⟩))] #[]) (LF ((x.drop (2+16*k)).take 8):Nat) τ1:=fun hl =>
   AEt (N:=fun n66 σ'=>∃ m',m'<c.toNat - k∧∃ (k:Nat) (rv kvv vvv:Value) (ks vs:List Nat),n66=k∧m'=c.toNat - k∧k≤c.toNat∧uR x k ks vs∧(∀ τ,H l τ→Z2 τ rv (x.drop (2+16*k)))∧H (TkL b41 b49 b55 rv lf kvv vvv ks vs l) σ') h7 hx hk8 hg hb2 rfl hl (fun h0 σ' hh=>hno 5 (by omega) (fun n hm hs he=>by
    have hkn:=hcnt n hm he
    have:=(R8 hm hs he (i:=k) (by omega)).2
    rw [h0] at this
    exact hm.2.2 _ (List.getElem_mem (by have:=hm.1.2.2; omega)) this.symm) σ' hh)
    (fun rv2 kvv2 vvv2 ks2 vs2 σ' hg2 hb3 hh=>⟨c.toNat - (k+1),by omega,k+1,rv2,kvv2,vvv2,ks2,vs2,rfl,rfl,by omega,hg2,hb3,hh⟩)
  refine AT (fun hpos=>?_) (fun h0=>?_)
  ·obtain ⟨j,rfl⟩:∃ j,k=j+1:=⟨k - 1,by omega⟩
   have hj:j<ks.length:=by rw [hg.kl]; omega
   obtain ⟨pp,ip,lp⟩:=LZ (ACs h7.tail) (List.getElem?_eq_getElem hj)
   rw [LV h7]
   refine GA ((j:Nat):Int) (by omega) ?_
   rw [ip,AF,lp,AH]
   by_cases hle:LF ((x.drop (2+16*(j+1))).take 8)≤ks[j]
   ·have e:decide (((LF ((x.drop (2+16*(j+1))).take 8):Nat):Int)≤(ks[j]:Int))=true:=by simp; omega
    rw [e]
    unfold FC
    refine IM rfl ?_
    refine dS h7 (fun τ ht=>ht.tail.tail.tail.tail) (hno 5 (by omega) fun n hm hs he=>?_)
    have hkn:=hcnt n hm he
    have q1:=(R8 hm hs he (i:=j+1) (by omega)).1
    have q2:=(R8 hm hs he (i:=j) (by omega)).1
    have q3:=hg.ke j (by omega)
    rw [List.getElem?_eq_getElem hj] at q3
    have q3:=Option.some.inj q3
    have:=List.pairwise_iff_getElem.1 hm.2.1 j (j+1) (by omega) (by omega) (by omega)
    omega
   ·have e:decide (((LF ((x.drop (2+16*(j+1))).take 8):Nat):Int)≤(ks[j]:Int))=false:=by simp; omega
    rw [e]
    refine h20 fun y hy=>?_
    rw [List.getLast?_eq_getElem?,hg.kl,Nat.add_sub_cancel,List.getElem?_eq_getElem hj] at hy
    have:=Option.some.inj hy
    omega
  ·have:k=0:=by omega
   subst this
   refine h20 fun y hy=>?_
   have:=hg.kl
   rw [List.length_eq_zero_iff.1 this] at hy
   simp at hy
 ·have hkc:k=c.toNat:=by omega
  have hrl:BJ rv=some (.int .i64 ((x.drop (2+16*k)).length:Nat)):=by obtain ⟨ra,rc,rfl⟩:=HX (hbr τ (ADZ h6)); rfl
  rw [LV h6,hrl,AH]
  refine ⟨fun m i τ=>∃ j:Nat,i=j∧m=(x.drop (2+16*k)).length - j∧j≤(x.drop (2+16*k)).length∧(∀ t,t<j→(x.drop (2+16*k))[t]?=some 0)∧H (TkL b41 b49 b55 rv lf kvv vvv ks vs l) τ,
   ⟨(x.drop (2+16*k)).length,0,rfl,rfl,by omega,fun t ht=>by omega,h6⟩,?_⟩
  rintro m i τ ⟨j,rfl,rfl,hj,hz,h7⟩
  have hyl:(x.drop (2+16*k)).length=240 - (2+16*k):=by simp; omega
  unfold TO
  refine AT (fun hlt=>?_) (fun hge=>?_)
  ·obtain ⟨y,hy⟩:∃ y,(x.drop (2+16*k))[j]?=some y:=⟨_,List.getElem?_eq_getElem (by omega)⟩
   obtain ⟨pp,ip,lp⟩:=(RL (hbr τ (ADZ h7))).elem j y hy
   rw [ip,AF,lp]
   show A3 .u8 (some (.int .u8 (y.toNat:Int))) _
   rw [AH]
   refine CY (fun g=>?_) fun g=>?_
   ·refine dS h7 (fun τ ht=>ht.tail.tail.tail.tail) (hno 5 (by omega) fun n hm hs he=>?_)
    have hkn:=hcnt n hm he
    have q:=uP hm he
    rw [← hkn,← hkc] at q
    rw [q,List.getElem?_replicate] at hy
    split at hy
    ·cases hy; simp at g
    ·cases hy
   ·refine GA ((j+1:Nat):Int) (by omega) ?_
    refine ⟨(x.drop (2+16*k)).length - (j+1),by omega,j+1,rfl,rfl,by omega,fun t ht=>?_,h7⟩
    rcases Nat.lt_or_ge t j with h' | h'
    ·exact hz t h'
    ·have:t=j:=by omega
     subst this
     rw [hy]
     congr 1
     apply UInt8.toNat_inj.1
     show y.toNat=0
     omega
  ·have hall:∀ b∈x.drop (2+16*k),b=0:=by
    intro b hb'
    obtain ⟨t,ht,rfl⟩:=List.getElem_of_mem hb'
    have:=hz t (by omega)
    rw [List.getElem?_eq_getElem ht] at this
    exact Option.some.inj this
   have ha01:a=if lf then 1 else 0:=by
    apply UInt8.toNat_inj.1
    rw [hlf]
    by_cases h1:a.toNat=1
    ·simp [h1]
    ·have:a.toNat=0:=by omega
     simp [this]
   have hform:=hg.form (lf:=lf) hx (by omega) (by rw [hxa,ha01]) (by
    rw [hxc,hkc]; congr 1; apply UInt8.toNat_inj.1; rw [UInt8.toNat_ofNat']; omega) hall
   have hmay:(Nd.mk lf ks vs).May:=⟨⟨by simp only [hg.kl]; omega,by simp only [hg.kl]; omega,by simp only [hg.kl,hg.vl]⟩,hg.kp,hg.vz⟩
   obtain ⟨_,_,ka,kc,hkv⟩:=h7.own_src 1 rfl
   obtain ⟨_,_,va,vc,hvv⟩:=h7.own_src 2 rfl
   rw [LB h7,LV h7,LV h7]
   refine bJ h7 rfl (by rw [hkv]; rfl) (by rw [hvv]; rfl) ?_
   intro τ2 h8
   rw [WG (h8.row 0 rfl) (by simp),A4]
   refine hyes ⟨lf,ks,vs⟩ kvv vvv τ2 hmay (hg.small lf) hform ?_
   have h9:H (A5 AL 1 kvv ks.length (uv ks)::A5 AL 1 vvv vs.length (uv vs)::l) τ2:=h8.re
   have h10:=(I1 h9).perm (.swap _ _ _)
   exact (I1 h10).perm (.swap _ _ _)
end Go.Ax.C
