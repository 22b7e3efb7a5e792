/- Texts of one proof,joined. No statement of the seat is proved here. -/
import Derived.Test.YtcnceningjookaaGreatTm7
set_option linter.unusedVariables false
set_option linter.unusedSimpArgs false
set_option linter.unnecessarySimpa false
set_option linter.constructorNameAsVariable false
set_option maxRecDepth 100000
namespace Go.Ax.C
open Go.Proofs Go.RowKit
variable {N:Nat} {T T':TS} {G:Gh} {L:List KV} {X K:List Nat} {n:Nd}
theorem iV:∀ (N:Nat) (l:List Nat),l.Nodup→(∀ x∈l,x<N)→l.length≤N
 | 0,[],_,_=>Nat.le_refl _
 | 0,x::l,_,h=>absurd (h x (by simp)) (by omega)
 | N+1,l,hn,h=>by
   by_cases g:N∈l
   ·have:=iV N (l.erase N) (hn.erase N) fun x hx=>by
     have h1:=(hn.mem_erase_iff).1 hx
     have:=h x h1.2
     omega
    rw [List.length_erase_of_mem g] at this
    omega
   ·have:=iV N l hn fun x hx=>by
     have h1:=h x hx
     have:x≠N:=fun e=>by subst e; exact g hx
     omega
    omega
def Lvs (G:Gh) (l:List KV) (bs:List Nat):Prop:=bs.Nodup∧∀ b∈bs,∃ m,G b=some m∧∃ p∈l,m.keys.head?.getD 0=p.1
theorem Lvs.app {A B:List KV} {bs cs:List Nat} (h1:Lvs G A bs) (h2:Lvs G B cs) (hg:C4 (A++B)):Lvs G (A++B) (bs++cs):=by
 refine ⟨List.nodup_append.2 ⟨h1.1,h2.1,fun b hb c hc e=>?_⟩,fun b hb=>?_⟩
 ·subst e
  obtain ⟨m,hm,p,hp,e1⟩:=h1.2 b hb
  obtain ⟨m',hm',q,hq,e2⟩:=h2.2 b hc
  rw [hm] at hm'; cases hm'
  have:=hg.lt hp hq
  omega
 ·rcases List.mem_append.1 hb with hb | hb
  ·obtain ⟨m,hm,p,hp,e⟩:=h1.2 b hb
   exact ⟨m,hm,p,by simp [hp],e⟩
  ·obtain ⟨m,hm,p,hp,e⟩:=h2.2 b hb
   exact ⟨m,hm,p,by simp [hp],e⟩
theorem CV.lvs {c:Nat} {t:Nat→List KV→Prop} {ks vs:List Nat} (h:CV t ks vs L) (ht:∀ v l,t v l→C4 l→∃ bs,Lvs G l bs∧c≤bs.length) (hg:C4 L):∃ bs,Lvs G L bs∧ks.length*c≤bs.length:=by
 induction h with
 | nil=>exact ⟨[],⟨.nil,by simp⟩,by simp⟩
 | cons h1 h2 h3 _ ih =>
   obtain ⟨bs,hb,hc⟩:=ht _ _ h1 hg.left
   obtain ⟨cs,hb2,hc2⟩:=ih hg.right
   exact ⟨bs++cs,hb.app hb2 hg,by rw [List.length_append,List.length_cons,Nat.add_mul]; omega⟩
theorem vI:∀ (h v:Nat) (l:List KV),G9 G h v l→C4 l→∃ bs,Lvs G l bs∧4 ^ h≤bs.length
 | 0,v,l,⟨m,hm,h4,hb⟩,hg=>by
   have hne:l≠[]:=(KZ hb).2 fun e=>by rw [e] at h4; simp at h4
   obtain ⟨p,hp,e⟩:=YM hne
   exact ⟨[v],⟨by simp,fun b hb'=>by simp only [List.mem_singleton] at hb'; subst hb'; exact ⟨m,hm,p,hp,by rw [RD hb,e]⟩⟩,by simp⟩
 | h+1,v,l,⟨m,hm,h4,hb⟩,hg=>by
   obtain ⟨bs,h1,h2⟩:=CV.lvs hb.2 (fun v l hk hg=>vI h v l hk hg) hg
   refine ⟨bs,h1,?_⟩
   have:=Nat.mul_le_mul_right (4 ^ h) h4
   rw [Nat.pow_succ]; omega
theorem WN (hI:D0 N T G K) (hN:N≤1024) {h:Nat} (hb:KE G h n L) (hg:C4 L) (h2:n.leaf=false→2≤n.keys.length):h<6:=by
 cases h with
 | zero=>omega
 | succ h =>
   obtain ⟨bs,h1,h3⟩:=CV.lvs hb.2 (fun v l hk hg=>vI h v l hk hg) hg
   have hle:=iV N bs h1.1 fun b hb=>by
    obtain ⟨m,hm,_⟩:=h1.2 b hb
    exact (hI.dom b m hm).1
   by_cases g:h<5
   ·omega
   exfalso
   have h5:4 ^ 5≤4 ^ h:=Nat.pow_le_pow_right (by omega) (by omega)
   have:=Nat.mul_le_mul (h2 hb.1) h5
   have e:4 ^ 5=1024:=rfl
   omega
def tk (root:Nat) (X:List Nat):List Nat:=if root=0 then X else root::X
def PG (G:Gh) (root:Nat) (L:List KV):Prop:=if root=0 then L=[] else Rt G root L
theorem E7.sub {G':Gh} {X Y:List Nat} (h:E7 G G' X) (hs:∀ x∈Y,x∈X):E7 G G' Y:=fun r hr=>h r (hs r hr)
theorem lI:∀ {xs:List Nat} {i a:Nat} {b x:Nat},xs[i]?=some a→(xs.set i b).count x+(if a=x then 1 else 0)=xs.count x+(if b=x then 1 else 0)
 | [],i,a,b,x,h=>by simp at h
 | c::xs,0,a,b,x,h=>by
   simp only [List.getElem?_cons_zero,Option.some.injEq] at h
   subst h
   simp only [List.set_cons_zero,List.count_cons,beq_iff_eq]
   omega
 | c::xs,i+1,a,b,x,h=>by
   rw [List.getElem?_cons_succ] at h
   have:=lI (b:=b) (x:=x) h
   simp only [List.set_cons_succ,List.count_cons,beq_iff_eq]
   omega
theorem xV {xs:List Nat} {i b x:Nat}:(xs.take i++b::xs.drop i).count x=xs.count x+if b=x then 1 else 0:=by
 conv=>rhs; rw [← List.take_append_drop i xs]
 simp only [List.count_append,List.count_cons,beq_iff_eq]
 omega
theorem ACf {root key val:Nat} (hI:D0 N T G (tk root (val::X))) (hz:0∈X) (ht:PG G root L) (hg:C4 L) (hv:val≠0) (hGv:G val=none) (hN:N≤1024) :
 (∃ T',bN T root key val=.err 8 T')∨∃ to T' G',bN T root key val=.ok (to,(GN key L).getD 0,(GN key L).isSome) T'∧to≠0∧D0 N T' G' (to::((GN key L).toList++X))∧Rt G' to (ins key val L)∧E7 G G' X∧T'.was=T.was∧∀ o,GN key L=some o→G' o=none:=by
 unfold bN
 rw [if_neg hv]
 by_cases hr:root=0
 ·subst hr
  rw [if_pos rfl]
  unfold PG at ht
  rw [if_pos rfl] at ht
  subst ht
  unfold tk at hI
  rw [if_pos rfl] at hI
  unfold TS.make
  rw [if_pos (show Nd.May ⟨true,[key],[val]⟩ from ⟨by simp,by simp,by simp [hv]⟩)]
  rcases hI.alloc with e | ⟨a,T1,e,i1,a0,a1,aw,w1,g1⟩
  ·rw [e]; exact .inl ⟨_,rfl⟩
  rw [e]
  right
  have ga:=(hI.now0 a0).2.2
  have hc:=i1.now1 a1 (by simp)
  have az:a≠0:=fun e=>by
   have h0:=List.count_pos_iff.2 hz
   rw [e] at hc
   simp only [List.count_cons] at hc
   simp at hc
   omega
  refine ⟨a,T1.put a ⟨true,[key],[val]⟩,gset G a (some ⟨true,[key],[val]⟩),rfl,az,?_,⟨0,_,D4,⟨rfl,rfl,rfl⟩,by simp⟩,.set ga (fun hx=>by have:=List.count_pos_iff.2 hx; have h0:=(hI.now0 a0).1; simp only [List.count_cons] at h0; omega),w1,fun o ho=>by cases ho⟩
  refine D0.close (n:=⟨true,[key],[val]⟩) ((i1.put ga).perm fun x=>?_) ga (by simp) a1 (by simp [TS.put]) ⟨by simp,by simp⟩ az ⟨fun h=>by simp at h,fun _ v hv=>by simp only [List.mem_singleton] at hv; subst hv; exact hGv⟩ (by simp [hz])
  simp only [GN,Option.toList,List.nil_append,List.count_append,List.count_cons,List.count_nil]; omega
 rw [if_neg hr]
 unfold PG at ht
 rw [if_neg hr] at ht
 unfold tk at hI
 rw [if_neg hr] at hI
 obtain ⟨h,n,hG,hb,h2⟩:=ht
 have hh:=WN hI hN hb hg h2
 have hf:=(hI.dom root n hG).2.2.2.2
 have hw:Way N T G (if true=true then fun L=>min key (hd L) else hd) [] h root n L [] [] [] (val::X) :=
  ⟨hI.perm fun x=>by simp [List.count_append,List.count_cons],by simp [hz],.top _ _ _,fun s hs=>by simp at hs,hG,hb,hf.1,hf.2,fun e=>absurd rfl e,fun _=>h2⟩
 rcases WP (lower:=true) (key:=key) rfl h 12 [] root n T G L [] [] [] hw (by simpa using hg) (by simp) (by simp) (by omega) with ⟨T',e⟩ | ⟨P',s,T1,G1,W,Lf,L1,L2,e,ho,hsv,hb1,hsz,hk,hL,hl1,hl2,hws⟩
 ·rw [e]; exact .inl ⟨T',rfl⟩
 rw [e]
 simp only [R.bind]
 have hlast:(P'++[s])[(P'++[s]).length - 1]?=some s:=by simp
 rw [hlast]
 simp only
 have hL':L=L1++(Lf++L2):=by simpa using hL.symm
 have hlkp:GN key L=GN key Lf:=by rw [hL',gM hl1,WF hl2]
 have hgL:=hg
 rw [hL'] at hgL
 have hgf:C4 Lf:=hgL.right.left
 obtain ⟨hb0,hbl,hbz⟩:=hb1
 have hks:s.n.keys.Pairwise (·<·):=by have:=hgf.1; rw [hbz,WD hbl] at this; exact this
 have hne:Lf≠[]:=(KZ (G:=G1) (h:=0) ⟨hb0,hbl,hbz⟩).2 fun e=>by have:=hsz.1; rw [e] at this; simp at this
 have hfind:=WS (key:=key) hbl hks
 rw [← hbz] at hfind
 have hsN:s.at'<N:=ho.inv.tok _ (by simp)
 have hlv0:=ho.lv hb0
 have hGv1:G1 val=none:=(hk val (by simp)).1 hGv
 have hlenP:(P'++[s]).length=P'.length+1:=by simp
 by_cases gk:s.n.keys[BA s.n.keys key]?=some key
 ·rw [if_pos gk]
  have hil:=(List.getElem?_eq_some_iff.1 gk).1
  obtain ⟨old,hold⟩:∃ old,s.n.vals[BA s.n.keys key]?=some old:=⟨_,List.getElem?_eq_getElem (by omega)⟩
  rw [if_pos gk,hold] at hfind
  rw [hold]
  simp only
  have hbn:KE G1 0 (s.n.setN (BA s.n.keys key) key val) (ins key val Lf):=⟨hb0,by simp [Nd.setN,setF,hbl],by rw [hbz]; exact (rS hbl gk).symm⟩
  have hkl:(s.n.setN (BA s.n.keys key) key val).keys.length=s.n.keys.length:=by simp [Nd.setN,setF]
  have hmay:(s.n.setN (BA s.n.keys key) key val).May:=IJ ho.inv hbn (UE hgf hv) (by rw [hkl]; exact hsz.1) (by rw [hkl]; exact hsz.2.1)
  rw [cT hil hmay (by rw [ho.inv.n1]; exact hsN)]
  simp only
  have hop:oA N (T1.put s.at' (s.n.setN (BA s.n.keys key) key val)) G1 (fun L=>min key (hd L)) P' 0 { s with n:=s.n.setN (BA s.n.keys key) key val } Lf L1 L2 W (old::X):=by
   refine ⟨(ho.inv.put ho.me.2.2.1).perm fun x=>?_,by simp [hz],ho.zip,ho.ok.put ho.ne,ho.me,fun _ v hv=>by
    rcases List.mem_or_eq_of_mem_set hv with hv | hv
    ·exact ho.lv hb0 v hv
    ·simp only [Bool.false_eq_true,if_false] at hv; rw [hv]; exact hGv1⟩
   have:=lI (b:=val) (x:=x) hold
   simp only [Nd.setN,setF,Bool.false_eq_true,if_false,List.count_append,List.count_cons,beq_iff_eq]
   omega
  have VV:=AAQ hv rfl P'.length P' [] 0 _ _ _ Lf L1 L2 W rfl hop (fun _=>by simp [TS.put]) hbn ⟨by have:=hsz.1; simp only [hkl]; exact this,by have:=hsz.2.1; simp only [hkl]; omega⟩ (fun e=>by have:=hsz.2.2.1 e; simp only [hkl]; exact this) (fun _ hl=>by have:s.n.leaf=false:=hl; rw [hb0] at this; cases this) hne hgL hl1 hl2
  have hlenP2:(P'++[({ s with n:=s.n.setN (BA s.n.keys key) key val }:Wp)]).length=P'.length+1:=by simp
  rw [hlenP2]
  rcases VV with ⟨T',e⟩ | ⟨p,Q,T',G',e,i,r,kp,w⟩
  ·rw [e]; exact .inl ⟨T',rfl⟩
  ·rw [e]
   right
   refine ⟨p.at',T',G',?_,?_,?_,by rw [hL']; exact r,hk.sub (fun x hx=>by simp [hx]) |>.trans (kp.sub fun x hx=>by simp [hx]),by rw [w,← hws]; rfl,fun o ho=>by
    rw [hlkp,hfind] at ho; cases ho
    exact (kp old (by simp)).1 (hlv0 old (List.mem_of_getElem? hold))⟩
   ·rw [hlkp,hfind]; rfl
   ·obtain ⟨h',n',hG',_⟩:=r
    exact (i.dom _ _ hG').2.1
   ·rw [hlkp,hfind]; exact i
 ·rw [if_neg gk]
  rw [if_neg gk] at hfind
  rw [if_pos (by have:=hsz.2.1; omega)]
  have hbn:KE G1 0 (s.n.insN (BA s.n.keys key) key val) (ins key val Lf):=⟨hb0,by simp [Nd.insN,SA,hbl],by rw [hbz]; exact (pC hbl gk).symm⟩
  have hkl:(s.n.insN (BA s.n.keys key) key val).keys.length=s.n.keys.length+1:=by
   simp only [Nd.insN,SA,if_true,List.length_append,List.length_cons,List.length_take,List.length_drop]
   have:BA s.n.keys key≤s.n.keys.length:=(List.takeWhile_prefix _).length_le
   omega
  obtain ⟨T4,hT4,hg4,hT4p⟩:∃ T4,lS T1 s.at' (s.n.insN (BA s.n.keys key) key val)=.ok () T4∧((s.n.insN (BA s.n.keys key) key val).fits→T4.g s.at'=.nd (s.n.insN (BA s.n.keys key) key val))∧(T4=T1∨T4=T1.put s.at' (s.n.insN (BA s.n.keys key) key val)):=by
   by_cases gf:(s.n.insN (BA s.n.keys key) key val).keys.length≤8
   ·have hm:=IJ ho.inv hbn (UE hgf hv) (by rw [hkl]; omega) gf
    exact ⟨_,SR hm (by rw [ho.inv.n1]; exact hsN),fun _=>by simp [TS.put],.inr rfl⟩
   ·refine ⟨T1,?_,fun hf=>absurd hf.2 gf,.inl rfl⟩
    unfold lS
    rw [if_neg fun hf=>gf hf.2]
  have hws3:D6 (P'++[s]) ((P'++[s]).length - 1) (s.n.insN (BA s.n.keys key) key val) T1=.ok (P'++[{ s with n:=s.n.insN (BA s.n.keys key) key val }]) T4:=by
   unfold D6
   rw [hlast]
   simp only
   rw [hT4]
   simp [R.bind,List.set_append]
  rw [hws3]
  simp only
  have hop:oA N T4 G1 (fun L=>min key (hd L)) P' 0 { s with n:=s.n.insN (BA s.n.keys key) key val } Lf L1 L2 W X:=by
   have hc:∀ x,(s.n.insN (BA s.n.keys key) key val).vals.count x=s.n.vals.count x+if val=x then 1 else 0:=fun x=>by
    simp only [Nd.insN,SA,Bool.false_eq_true,if_false]
    exact xV
   have hperm:∀ x,(X++((P'.map (·.at')++[s.at'])++(W++(s.n.insN (BA s.n.keys key) key val).vals))).count x=(val::X++((P'.map (·.at')++[s.at'])++(W++s.n.vals))).count x:=fun x=>by
    simp only [List.count_append,List.count_cons,beq_iff_eq,hc x,List.count_nil,List.cons_append]
    omega
   have hlv:dQ G1 (s.n.insN (BA s.n.keys key) key val):=fun _ v hv=>by
    simp only [Nd.insN,SA,Bool.false_eq_true,if_false,List.mem_append,List.mem_cons] at hv
    rcases hv with hv | hv | hv
    ·exact ho.lv hb0 v (List.mem_of_mem_take hv)
    ·rw [hv]; exact hGv1
    ·exact ho.lv hb0 v (List.mem_of_mem_drop hv)
   rcases hT4p with e | e
   ·rw [e]; exact ⟨ho.inv.perm hperm,hz,ho.zip,ho.ok,ho.me,hlv⟩
   ·rw [e]; exact ⟨(ho.inv.put ho.me.2.2.1).perm hperm,hz,ho.zip,ho.ok.put ho.ne,ho.me,hlv⟩
  have hw4:T4.was=T1.was:=by rcases hT4p with e | e<;>rw [e]<;>rfl
  have VV:=AAQ hv rfl P'.length P' [] 0 _ _ _ Lf L1 L2 W rfl hop hg4 hbn ⟨by simp only [hkl]; omega,by have:=hsz.2.1; simp only [hkl]; omega⟩ (fun e=>by have:=hsz.2.2.1 e; simp only [hkl]; omega) (fun _ hl=>by have:s.n.leaf=false:=hl; rw [hb0] at this; cases this) hne hgL hl1 hl2
  have hlenP2:(P'++[({ s with n:=s.n.insN (BA s.n.keys key) key val }:Wp)]).length=P'.length+1:=by simp
  rw [hlenP2]
  rcases VV with ⟨T',e⟩ | ⟨p,Q,T',G',e,i,r,kp,w⟩
  ·rw [e]; exact .inl ⟨T',rfl⟩
  ·rw [e]
   right
   refine ⟨p.at',T',G',?_,?_,?_,by rw [hL']; exact r,(hk.sub fun x hx=>by simp [hx]).trans kp,by rw [w,hw4,hws],fun o ho=>by rw [hlkp,hfind] at ho; cases ho⟩
   ·rw [hlkp,hfind]; rfl
   ·obtain ⟨h',n',hG',_⟩:=r
    exact (i.dom _ _ hG').2.1
   ·rw [hlkp,hfind]; exact i
end Go.Ax.C
set_option maxRecDepth 100000
namespace Go.Ax.C
open Go.Proofs Go.RowKit
variable {N:Nat} {T T':TS} {G:Gh} {L:List KV} {X K:List Nat} {n:Nd}
theorem pI {t:Nat→List KV→Prop} {ks vs:List Nat} {key v:Nat} (h:CV t ks vs L) (hg:C4 L) (hv:vs[CU ks key]?=some v):∃ k A l B,L=A++(l++B)∧ks[CU ks key]?=some k∧hd l=k∧l≠[]∧t v l∧(∀ p∈A,p.1<key)∧(∀ p∈B,key<p.1):=by
 have hne:ks≠[]:=fun e=>by subst e; cases h; simp at hv
 obtain ⟨c1,c2,c3⟩:=bG (key:=key) (h.sorted hg) hne
 generalize hi:CU ks key=i at c1 c2 c3 hv
 obtain ⟨k,A,l,B,hL,hki,hdl,hlne,hkid,hA,hB⟩:=h.at' hv
 subst hL
 refine ⟨k,A,l,B,rfl,hki,hdl,hlne,hkid,fun p hp=>?_,fun p hp=>?_⟩
 ·have hi0:i≠0:=fun e=>by subst e; cases hA with | nil=>simp at hp
  have hle:k≤key:=(c3 k hki).resolve_right hi0
  obtain ⟨q,hq,e⟩:=YM hlne
  have:=hg.lt hp (q:=q) (by simp [hq])
  omega
 ·have hbne:B≠[]:=fun e=>by subst e; simp at hp
  have hdrop:=hB.ne.1 hbne
  have hil:i+1<ks.length:=by
   by_cases g:i+1<ks.length
   ·exact g
   ·exact absurd (List.drop_eq_nil_of_le (by omega)) hdrop
  have e1:=hB.hd
  rw [List.drop_eq_getElem_cons hil] at e1
  simp only [List.head?_cons,Option.getD_some] at e1
  have:=c2 (i+1) _ (List.getElem?_eq_getElem hil) (by omega)
  have h5:=hg.right.right.hd_le hp
  omega
theorem kR {key:Nat} (hI:D0 N T G K):∀ (h f a:Nat) (n:Nd) (L:List KV),G a=some n→KE G h n L→C4 L→h<f→C3 key f a T=.ok ((GN key L).getD 0,(GN key L).isSome) T
 | _,0,_,_,_,_,_,_,hf=>by omega
 | 0,f+1,a,n,L,hG,hb,hg,hf=>by
   obtain ⟨haN,ha0,_,hag,haf⟩:=hI.dom a n hG
   unfold C3
   rw [if_neg ha0]
   have:T.ld a=some n:=by unfold TS.ld; rw [if_pos (by rw [hI.n1]; exact haN),YN hag haf]
   rw [this]
   obtain ⟨h0,hl,rfl⟩:=hb
   simp only [h0,if_true]
   have hks:n.keys.Pairwise (·<·):=by have:=hg.1; rw [WD hl] at this; exact this
   rw [WS hl hks]
   by_cases gk:n.keys[BA n.keys key]?=some key
   ·rw [if_pos gk,if_pos gk]
    have hil:=(List.getElem?_eq_some_iff.1 gk).1
    rw [List.getElem?_eq_getElem (show BA n.keys key<n.vals.length by omega)]
    rfl
   ·rw [if_neg gk,if_neg gk]; rfl
 | h+1,f+1,a,n,L,hG,hb,hg,hf=>by
   obtain ⟨haN,ha0,_,hag,haf⟩:=hI.dom a n hG
   unfold C3
   rw [if_neg ha0]
   have:T.ld a=some n:=by unfold TS.ld; rw [if_pos (by rw [hI.n1]; exact haN),YN hag haf]
   rw [this]
   simp only [hb.1,Bool.false_eq_true,if_false]
   have hne:n.keys≠[]:=fun e=>by have:=haf.1; rw [e] at this; simp at this
   have c1:=(bG (key:=key) (hb.2.sorted hg) hne).1
   have hvl:=hb.2.len
   obtain ⟨v,hv⟩:∃ v,n.vals[CU n.keys key]?=some v:=⟨_,List.getElem?_eq_getElem (by omega)⟩
   obtain ⟨k,A,l,B,hL,hki,hdl,hlne,⟨m,hm,h4,hbm⟩,hA,hB⟩:=pI hb.2 hg hv
   subst hL
   rw [hv]
   simp only
   rw [kR hI h f v m l hm hbm hg.right.left (by omega),gM hA,WF hB]
theorem oY {key root:Nat} (hI:D0 N T G K) (ht:PG G root L) (hg:C4 L) (hN:N≤1024):C3 key 12 root T=.ok ((GN key L).getD 0,(GN key L).isSome) T:=by
 unfold PG at ht
 by_cases hr:root=0
 ·rw [if_pos hr] at ht; subst ht; subst hr; rfl
 ·rw [if_neg hr] at ht
  obtain ⟨h,n,hG,hb,h2⟩:=ht
  have:=WN hI hN hb hg h2
  exact kR hI h 12 root n L hG hb hg (by omega)
theorem p7 {h:Nat} (hb:KE G h n L):n.leaf=decide (h=0):=by
 cases h with
 | zero=>simp [hb.1]
 | succ h=>simp [hb.1]
theorem vO:∀ {ks vs ks2 vs2:List Nat},vs.length=ks.length→(ks++ks2).zip (vs++vs2)=ks.zip vs++ks2.zip vs2
 | [],[],_,_,_=>rfl
 | [],_::_,_,_,h=>by simp at h
 | _::_,[],_,_,h=>by simp at h
 | k::ks,v::vs,ks2,vs2,h=>by simp [vO (ks:=ks) (vs:=vs) (ks2:=ks2) (vs2:=vs2) (by simpa using h)]
theorem jG {h:Nat} {an bn:Nd} {A B:List KV} (ha:KE G h an A) (hb:KE G h bn B):KE G h (an.join bn) (A++B):=by
 cases h with
 | zero =>
   obtain ⟨a1,a2,rfl⟩:=ha
   obtain ⟨b1,b2,rfl⟩:=hb
   exact ⟨a1,by simp [Nd.join,a2,b2],(vO a2).symm⟩
 | succ h=>exact ⟨ha.1,ha.2.append hb.2⟩
theorem mD {T:TS} {a:Nat} {n:Nd} (hm:n.May) (ha:a<T.now.length):eG T a n=.ok () (T.put a n):=by
 unfold eG
 rw [if_pos hm,if_pos ha]
structure xK (N:Nat) (T:TS) (G:Gh) (h aa ab:Nat) (an bn:Nd) (A B:List KV) (Y:List Nat):Prop where
 inv:D0 N T G (Y++(aa::ab::(an.vals++bn.vals)))
 z:0∈Y
 ga:G aa=none
 gb:G ab=none
 na:T.now[aa]?=some 1
 nb:T.now[ab]?=some 1
 ba:KE G h an A
 bb:KE G h bn B
 good:C4 (A++B)
 a3:3≤an.keys.length∧an.keys.length≤8
 b3:3≤bn.keys.length∧bn.keys.length≤8
 la:dQ G an
 lb:dQ G bn
 s7:7≤an.keys.length+bn.keys.length∧an.keys.length+bn.keys.length≤11
variable {h aa ab:Nat} {an bn:Nd} {A B:List KV} {Y:List Nat}
theorem xK.ne (ht:xK N T G h aa ab an bn A B Y):aa≠ab∧aa≠0∧ab≠0∧aa<N∧ab<N∧rf G aa N=0∧rf G ab N=0:=by
 have h1:=ht.inv.now1 ht.na (by simp)
 have h2:=ht.inv.now1 ht.nb (by simp)
 have h0:=List.count_pos_iff.2 ht.z
 refine ⟨fun e=>?_,fun e=>?_,fun e=>?_,ht.inv.tok _ (by simp),ht.inv.tok _ (by simp),h1.2,h2.2⟩
 ·rw [e] at h1
  simp only [List.count_append,List.count_cons] at h1
  simp at h1; omega
 ·rw [e] at h1
  simp only [List.count_append,List.count_cons] at h1
  simp at h1; omega
 ·rw [e] at h2
  simp only [List.count_append,List.count_cons] at h2
  simp at h2; omega
theorem xK.nvs (ht:xK N T G h aa ab an bn A B Y):aa∉an.vals++bn.vals:=fun hx=>by
 have hc:=ht.inv.now1 ht.na (by simp)
 have h1:=List.count_pos_iff.2 hx
 simp only [List.count_append,List.count_cons] at hc h1
 simp at hc
 omega
theorem xK.lj (ht:xK N T G h aa ab an bn A B Y):dQ G (an.join bn):=fun hl v hv=>by
 rcases List.mem_append.1 hv with hv | hv
 ·exact ht.la hl v hv
 ·exact ht.lb (by rw [p7 ht.bb,← p7 ht.ba]; exact hl) v hv
theorem rC {a:Nat} {b:Bool} (he:T.dec a=.ok b T'):(∀ x,x≠a→T'.now[x]?=T.now[x]?)∧T'.g=T.g∧T'.was=T.was:=by
 unfold TS.dec at he
 cases hl:T.now[a]? with
 | none=>rw [hl] at he; cases he
 | some c =>
   rw [hl] at he
   simp only at he
   split at he
   ·cases he
   ·cases he
    exact ⟨fun x hx=>by simp only; rw [List.getElem?_set_ne (Ne.symm hx)],rfl,rfl⟩
theorem AAS (ht:xK N T G h aa ab an bn A B Y) (g8:an.keys.length+bn.keys.length≤8):∃ T2,(eG T aa (an.join bn)=.ok () (T.put aa (an.join bn)))∧(∃ b,(T.put aa (an.join bn)).dec ab=.ok b T2)∧D0 N T2 (gset G aa (some (an.join bn))) (Y++[aa])∧G9 (gset G aa (some (an.join bn))) h aa (A++B)∧T2.was=T.was∧T2.g=(T.put aa (an.join bn)).g:=by
 obtain ⟨hab,ha0,hb0,haN,hbN,ra,rb⟩:=ht.ne
 have hbj:=jG ht.ba ht.bb
 have hl:(an.join bn).keys.length=an.keys.length+bn.keys.length:=by simp [Nd.join]
 have hmay:=IJ ht.inv hbj ht.good (by have:=ht.s7; omega) (by omega)
 have i1:D0 N (T.put aa (an.join bn)) G (ab::(Y++(aa::(an.vals++bn.vals)))):=(ht.inv.put ht.ga).perm fun x=>by simp only [List.count_append,List.count_cons]; omega
 obtain ⟨T2,e2,i2,w2,g2⟩:=i1.dec (by simp [ht.z]) (.inl ht.gb)
 refine ⟨T2,mD hmay (by rw [ht.inv.n1]; exact haN),⟨_,e2⟩,?_,⟨_,D4,by have:=ht.s7; omega,FX ht.ga hbj⟩,w2,g2⟩
 refine D0.close (n:=an.join bn) (i2.perm fun x=>?_) ht.ga (by simp) (by rw [(rC e2).1 _ hab]; exact ht.na) (by rw [g2]; simp [TS.put]) ⟨by have:=ht.s7; omega,by omega⟩ ha0 (QV hbj (ht.lj.of fun h=>⟨h,fun _ h=>h⟩)) (by simp [ht.z])
 simp only [Nd.join,List.count_append,List.count_cons,List.count_nil]; omega
theorem AAh (ht:xK N T G h aa ab an bn A B Y) (g8:¬ an.keys.length+bn.keys.length≤8):∃ A' B',A++B=A'++B'∧eG T aa (an.evA bn)=.ok () (T.put aa (an.evA bn))∧eG (T.put aa (an.evA bn)) ab (an.evB bn)=.ok () ((T.put aa (an.evA bn)).put ab (an.evB bn))∧D0 N ((T.put aa (an.evA bn)).put ab (an.evB bn)) (gset (gset G aa (some (an.evA bn))) ab (some (an.evB bn))) (Y++[aa,ab])∧G9 (gset (gset G aa (some (an.evA bn))) ab (some (an.evB bn))) h aa A'∧G9 (gset (gset G aa (some (an.evA bn))) ab (some (an.evB bn))) h ab B'∧KE G h (an.evA bn) A'∧KE G h (an.evB bn) B'∧4≤(an.evA bn).keys.length∧4≤(an.evB bn).keys.length:=by
 obtain ⟨hab,ha0,hb0,haN,hbN,ra,rb⟩:=ht.ne
 obtain ⟨A',B',hAB,ha,hb⟩:=nS (H0 an bn) (jG ht.ba ht.bb)
 have ha':KE G h (an.evA bn) A':=ha
 have hb':KE G h (an.evB bn) B':=hb
 have hs:=ht.s7
 have la:(an.evA bn).keys.length=H0 an bn:=by simp [Nd.evA,H0]; omega
 have lb:(an.evB bn).keys.length=an.keys.length+bn.keys.length - H0 an bn:=by simp [Nd.evB]
 have he:H0 an bn=(an.keys.length+bn.keys.length+1) / 2:=rfl
 have hgd:=ht.good
 rw [hAB] at hgd
 have mA:=IJ ht.inv ha' hgd.left (by omega) (by omega)
 have mB:=IJ ht.inv hb' hgd.right (by omega) (by omega)
 have gb1:gset G aa (some (an.evA bn)) ab=none:=by rw [BV (Ne.symm hab)]; exact ht.gb
 have hcv:∀ x,an.vals.count x+bn.vals.count x=(an.evA bn).vals.count x+(an.evB bn).vals.count x:=fun x=>by
  rw [← List.count_append]
  conv=>lhs; rw [← List.take_append_drop (H0 an bn) (an.vals++bn.vals)]
  rw [List.count_append]; rfl
 have i1:=(ht.inv.put (n:=an.evA bn) ht.ga).put (n:=an.evB bn) ht.gb
 have i2:D0 N ((T.put aa (an.evA bn)).put ab (an.evB bn)) (gset G aa (some (an.evA bn))) ((an.evB bn).vals++(Y++[aa,ab])):=by
  refine D0.close (n:=an.evA bn) (i1.perm fun x=>?_) ht.ga (by simp) ht.na (by simp [TS.put,hab]) ⟨by omega,by omega⟩ ha0 (QV ha' (ht.lj.of fun h=>⟨h,fun _ h=>List.mem_of_mem_take h⟩)) (by simp [ht.z])
  have:=hcv x
  simp only [List.count_append,List.count_cons,List.count_nil]; omega
 have hb2:=FX (o:=some (an.evA bn)) ht.ga hb'
 refine ⟨A',B',hAB,mD mA (by rw [ht.inv.n1]; exact haN),mD mB (by show ab<T.now.length; rw [ht.inv.n1]; exact hbN),?_,⟨_,by rw [BV hab,D4],by omega,FX gb1 (FX ht.ga ha')⟩,⟨_,D4,by omega,FX gb1 hb2⟩,ha',hb',by omega,by omega⟩
 exact D0.close (n:=an.evB bn) i2 gb1 (by simp) ht.nb (by simp [TS.put]) ⟨by omega,by omega⟩ hb0 (QV hb2 (dQ.set (ht.lj.of fun h=>⟨h,fun _ h=>List.mem_of_mem_drop h⟩) fun hv=>ht.nvs (List.mem_of_mem_drop hv))) (by simp [ht.z])
end Go.Ax.C
set_option maxRecDepth 100000
namespace Go.Ax.C
open Go.Proofs Go.RowKit
variable {N:Nat} {T T':TS} {G:Gh} {L:List KV} {X K:List Nat} {n:Nd}
variable {h aa ab:Nat} {an bn:Nd} {A B LA LB:List KV} {Y k1 k2 v1 v2:List Nat}
theorem xK.nY (ht:xK N T G h aa ab an bn A B Y):aa∉Y∧ab∉Y:=by
 have h1:=ht.inv.now1 ht.na (by simp)
 have h2:=ht.inv.now1 ht.nb (by simp)
 simp only [List.count_append,List.count_cons] at h1 h2
 simp at h1 h2
 exact ⟨fun hx=>by have:=List.count_pos_iff.2 hx; omega,fun hx=>by have:=List.count_pos_iff.2 hx; omega⟩
theorem Z8 {α:Type} {A B:List α} {a b c:α}:(A++a::b::B).set A.length c=A++c::b::B:=by simp
theorem qL {α:Type} {A B:List α} {a b c:α}:(A++a::b::B).set (A.length+1) c=A++a::c::B:=by
 rw [List.set_append,if_neg (by omega)]; simp
theorem wW {α:Type} {A B:List α} {a b:α}:(A++a::b::B).take (A.length+1)++(A++a::b::B).drop (A.length+1+1)=A++a::B:=by
 rw [List.take_append,List.take_of_length_le (by omega),List.drop_append,List.drop_of_length_le (by omega)]
 have e1:A.length+1 - A.length=1:=by omega
 have e2:A.length+1+1 - A.length=2:=by omega
 rw [e1,e2]; simp
theorem qF {P0 Rs:List Wp} {u:Wp} {ka kb va vb:Nat} (ht:xK N T G h aa ab an bn A B Y)
 (hu:u.n=⟨false,k1++ka::kb::k2,v1++va::vb::v2⟩) (hlen:v1.length=k1.length)
 (h1:CV (G9 G h) k1 v1 LA) (h2:CV (G9 G h) k2 v2 LB) (hg:C4 (LA++((A++B)++LB))) (h8:u.n.keys.length≤8)
 (huY:u.at'∈Y) (gu:G u.at'=none) (hua:u.at'≠aa) (hub:u.at'≠ab) :
 ∃ u' T' G' vs',K9 (P0++u::Rs) (P0.length+1) u.n k1.length (k1.length+1) aa an ab bn T=.ok (P0++u'::Rs) T'∧u'.at'=u.at'∧u'.n.vals=v1++(vs'++v2)∧KE G' (h+1) u'.n (LA++((A++B)++LB))∧D0 N T' G' (Y++vs')∧u.n.keys.length≤u'.n.keys.length+1∧u'.n.keys.length≤u.n.keys.length∧T'.g u.at'=.nd u'.n∧G' u.at'=none∧(∀ v h l,G9 G h v l→G9 G' h v l)∧(∀ X,(∀ x∈X,x∈Y)→E7 G G' X)∧T'.was=T.was∧(∀ x,x≠ab→T'.now[x]?=T.now[x]?)∧(∀ x,x≠aa→x≠ab→x≠u.at'→T'.g x=T.g x)∧(∀ x,G x=none→x≠aa→x≠ab→G' x=none):=by
 obtain ⟨hab,ha0,hb0,haN,hbN,ra,rb⟩:=ht.ne
 have huN:u.at'<N:=ht.inv.tok _ (by simp [huY])
 have huk:u.n.keys=k1++ka::kb::k2:=by rw [hu]
 have huv:u.n.vals=v1++va::vb::v2:=by rw [hu]
 have hukl:u.n.keys.length=k1.length+(k2.length+2):=by rw [huk]; simp
 have hget:(P0++u::Rs)[P0.length+1 - 1]?=some u:=by simp
 unfold K9
 rw [if_pos (by rw [hukl]; omega)]
 by_cases g8:an.keys.length+bn.keys.length≤8
 ·rw [if_pos g8]
  obtain ⟨T2,e1,⟨b,e2⟩,i2,kd,w2,g2⟩:=AAS ht g8
  obtain ⟨n2,_,_⟩:=rC e2
  have hbj:=jG ht.ba ht.bb
  have hjl:(an.join bn).keys.length=an.keys.length+bn.keys.length:=by simp [Nd.join]
  rw [e1]
  simp only [R.bind]
  rw [e2]
  simp only
  obtain ⟨j0,hj0⟩:∃ j0,(an.join bn).keys[0]?=some j0:=⟨_,List.getElem?_eq_getElem (by have:=ht.s7; omega)⟩
  rw [hj0]
  simp only
  have hdj:hd (A++B)=j0:=by rw [← RD hbj,List.head?_eq_getElem?,hj0]; rfl
  have hne:A++B≠[]:=(KZ hbj).2 fun e=>by rw [e] at hjl; have:=ht.s7; simp at hjl; omega
  have hn:(u.n.setN k1.length j0 aa).remN (k1.length+1)=⟨false,k1++j0::k2,v1++aa::v2⟩:=by
   unfold Nd.setN Nd.remN setF W1
   rw [hu]
   simp only [if_true,Bool.false_eq_true,if_false]
   rw [Z8,wW]
   conv=>lhs; rw [← hlen]
   rw [Z8,wW]
  have hkm:∀ v h l,G9 G h v l→G9 (gset G aa (some (an.join bn))) h v l:=fun v h l hk=>G9.set ht.ga hk
  have hbu:KE (gset G aa (some (an.join bn))) (h+1) ⟨false,k1++j0::k2,v1++aa::v2⟩ (LA++((A++B)++LB)) :=
   IR.2 ⟨rfl,(h1.mono fun v _ l hk=>hkm v h l hk).append (.cons kd hne hdj (h2.mono fun v _ l hk=>hkm v h l hk))⟩
  have hm:Nd.May ⟨false,k1++j0::k2,v1++aa::v2⟩:=IJ i2 hbu hg (by simp; omega) (by simp; omega)
  have hw:D6 (P0++u::Rs) (P0.length+1 - 1) ((u.n.setN k1.length j0 aa).remN (k1.length+1)) T2=.ok (P0++{ u with n:=⟨false,k1++j0::k2,v1++aa::v2⟩ }::Rs) (T2.put u.at' ⟨false,k1++j0::k2,v1++aa::v2⟩):=by
   unfold D6
   rw [hget,hn]
   simp only
   rw [SR hm (by rw [i2.n1]; exact huN)]
   simp [R.bind]
  refine ⟨_,_,gset G aa (some (an.join bn)),[aa],hw,rfl,by simp,hbu,i2.put (by rw [BV hua]; exact gu),by simp [hukl]; omega,by simp [hukl],by simp [TS.put],by rw [BV hua]; exact gu,hkm,fun X hX=>.set ht.ga fun hx=>ht.nY.1 (hX _ hx),w2,n2,fun x x1 x2 x3=>?_,fun x x0 x1 x2=>by rw [BV x1]; exact x0⟩
  simp only [TS.put,if_neg x3]
  rw [g2]
  simp only [TS.put,if_neg x1]
 ·rw [if_neg g8]
  obtain ⟨A',B',hAB,e1,e2,i2,kA,kB,bA,bB,lA,lB⟩:=AAh ht g8
  rw [e1]
  simp only [R.bind]
  rw [e2]
  simp only
  obtain ⟨c0,hc0⟩:∃ c0,(an.evA bn).keys[0]?=some c0:=⟨_,List.getElem?_eq_getElem (by omega)⟩
  obtain ⟨d0,hd0⟩:∃ d0,(an.evB bn).keys[0]?=some d0:=⟨_,List.getElem?_eq_getElem (by omega)⟩
  rw [hc0,hd0]
  simp only
  have hdA:hd A'=c0:=by rw [← RD bA,List.head?_eq_getElem?,hc0]; rfl
  have hdB:hd B'=d0:=by rw [← RD bB,List.head?_eq_getElem?,hd0]; rfl
  have neA:A'≠[]:=(KZ bA).2 fun e=>by rw [e] at lA; simp at lA
  have neB:B'≠[]:=(KZ bB).2 fun e=>by rw [e] at lB; simp at lB
  have hn:(u.n.setN k1.length c0 aa).setN (k1.length+1) d0 ab=⟨false,k1++c0::d0::k2,v1++aa::ab::v2⟩:=by
   unfold Nd.setN setF
   rw [hu]
   simp only [if_true,Bool.false_eq_true,if_false]
   rw [Z8,qL]
   conv=>lhs; rw [← hlen]
   rw [Z8,qL]
  have gb1:gset G aa (some (an.evA bn)) ab=none:=by rw [BV (Ne.symm hab)]; exact ht.gb
  have hkm:∀ v h l,G9 G h v l→G9 (gset (gset G aa (some (an.evA bn))) ab (some (an.evB bn))) h v l:=fun v h l hk=>G9.set gb1 (G9.set ht.ga hk)
  have hbu:KE (gset (gset G aa (some (an.evA bn))) ab (some (an.evB bn))) (h+1) ⟨false,k1++c0::d0::k2,v1++aa::ab::v2⟩ (LA++((A++B)++LB)):=by
   rw [hAB,List.append_assoc A']
   exact IR.2 ⟨rfl,(h1.mono fun v _ l hk=>hkm v h l hk).append (.cons kA neA hdA (.cons kB neB hdB (h2.mono fun v _ l hk=>hkm v h l hk)))⟩
  have hm:Nd.May ⟨false,k1++c0::d0::k2,v1++aa::ab::v2⟩:=IJ i2 hbu hg (by simp; omega) (by simp; omega)
  have hw:D6 (P0++u::Rs) (P0.length+1 - 1) ((u.n.setN k1.length c0 aa).setN (k1.length+1) d0 ab) ((T.put aa (an.evA bn)).put ab (an.evB bn))=.ok (P0++{ u with n:=⟨false,k1++c0::d0::k2,v1++aa::ab::v2⟩ }::Rs) (((T.put aa (an.evA bn)).put ab (an.evB bn)).put u.at' ⟨false,k1++c0::d0::k2,v1++aa::ab::v2⟩):=by
   unfold D6
   rw [hget,hn]
   simp only
   rw [SR hm (by rw [i2.n1]; exact huN)]
   simp [R.bind]
  have gu2:gset (gset G aa (some (an.evA bn))) ab (some (an.evB bn)) u.at'=none:=by rw [BV hub,BV hua]; exact gu
  refine ⟨_,_,gset (gset G aa (some (an.evA bn))) ab (some (an.evB bn)),[aa,ab],hw,rfl,by simp,hbu,i2.put gu2,by simp [hukl],by simp [hukl],by simp [TS.put],gu2,hkm,fun X hX=>(E7.set ht.ga fun hx=>ht.nY.1 (hX _ hx)).trans (E7.set gb1 fun hx=>ht.nY.2 (hX _ hx)),rfl,fun x _=>rfl,fun x x1 x2 x3=>?_,fun x x0 x1 x2=>by rw [BV x2,BV x1]; exact x0⟩
  simp only [TS.put,if_neg x3,if_neg x2,if_neg x1]
end Go.Ax.C
set_option maxRecDepth 100000
namespace Go.Ax.C
open Go.Proofs Go.RowKit
variable {N:Nat} {T T':TS} {G:Gh} {L:List KV} {X K:List Nat} {n:Nd}
theorem iA {a hh:Nat} {l:List KV} (h:D0 N T G (a::K)) (hz:0∈K) (hG:G a=some n) (hb:KE G hh n l) :
 (∃ T',T.shadow a=.err 8 T')∨∃ CB T' G',T.shadow a=.ok (CB,n) T'∧D0 N T' G' (CB::(n.vals++K))∧T'.now[CB]?=some 1∧T'.was[CB]?=some 0∧T'.was=T.was∧G' CB=none∧(CB≠0∧dQ G' n)∧CB∉K∧KE G' hh n l∧(∀ w∈K,∀ h l,G9 G h w l→G9 G' h w l)∧(∀ h m l,KE G h m l→(∀ v∈m.vals,v∈K)→KE G' h m l)∧(∀ X,(∀ x∈X,x∈K)→E7 G G' X)∧(∀ p∈K,T.now[p]?=some 1→T'.now[p]?=some 1)∧(∀ x,x≠CB→T'.g x=T.g x)∧(∀ x,G x=none→G' x=none):=by
 rcases h.shadow hz hG with h1 | ⟨CB,T1,G',e1,hI1,ho1,hw1,hw,hg1,hGo,hG',hgf,hown⟩
 ·exact .inl h1
 right
 have haN:=(h.dom a n hG).1
 have hoc:=hI1.now1 ho1 (by simp)
 rw [List.count_cons_self,List.count_append] at hoc
 have hoK:CB∉K:=fun hk=>by have:=List.count_pos_iff.2 hk; omega
 have ho0:CB≠0:=fun e=>hoK (e▸hz)
 have hkid:∀ w∈K,∀ h l,G9 G h w l→G9 G' h w l:=fun w hw h' l hk=>by
  rcases hG' with rfl | ⟨rfl,hc,hr⟩
  ·exact hk
  ·exact hk.del h hr fun e=>by subst e; have:=List.count_pos_iff.2 hw; omega
 have hGn:∀ x,G x=none→G' x=none:=fun x hx=>by
  rcases hG' with rfl | ⟨rfl,_,_⟩
  ·exact hx
  ·by_cases g:x=a
   ·subst g; rw [D4]
   ·rw [BV g]; exact hx
 refine ⟨CB,T1,G',e1,hI1,ho1,hw1,hw,hGo,⟨ho0,fun hl v hv=>hGn v (h.lfv a n hG hl v hv)⟩,hoK,?_,hkid,fun h' m l hm hv=>?_,fun X hX=>?_,fun p hp hnow=>?_,hgf,hGn⟩
 ·cases hh with
  | zero=>exact hb
  | succ hh =>
    refine ⟨hb.1,hb.2.mono fun w hw l' hl=>?_⟩
    rcases hG' with rfl | ⟨rfl,hc,hr⟩
    ·exact hl
    ·exact G9.del h hr (fun e=>by subst e; have:=Q5 haN hG hw; omega) hl
 ·cases h' with
  | zero=>exact hm
  | succ h'=>exact ⟨hm.1,hm.2.mono fun w hw l' hl=>hkid w (hv w hw) _ _ hl⟩
 ·rcases hG' with rfl | ⟨rfl,hc,hr⟩
  ·exact .refl
  ·exact .del h hr (List.count_eq_zero.2 fun hx=>by have:=List.count_pos_iff.2 (hX _ hx); omega)
 ·have hpN:=h.tok p (by simp [hp])
  have hc:=h.now1 hnow (by simp [hp])
  have hpa:p≠a:=fun e=>by subst e; rw [List.count_cons_self] at hc; have:=List.count_pos_iff.2 hp; omega
  have hpo:p≠CB:=fun e=>hoK (e▸hp)
  have hpn:p∉n.vals:=fun hv=>by have:=Q5 haN hG hv; omega
  rw [List.count_cons_of_ne (Ne.symm hpa)] at hc
  have hr:rf G' p N=0:=by
   rcases hG' with rfl | ⟨rfl,_,_⟩
   ·exact hc.2
   ·have:=X1 (G:=G) (o:=none) (x:=p) haN
    rw [hG] at this; simp only [vc] at this; omega
  rw [hI1.cnt p hpN,List.count_cons_of_ne (Ne.symm hpo),List.count_append,List.count_eq_zero.2 hpn,hc.1,hr]
theorem CV.snoc {t:Nat→List KV→Prop} {ks vs:List Nat} (h:CV t ks vs L):ks≠[]→∃ ks0 k vs0 v A0 l,ks=ks0++[k]∧vs=vs0++[v]∧L=A0++l∧CV t ks0 vs0 A0∧t v l∧l≠[]∧Go.Ax.C.hd l=k:=by
 induction h with
 | nil=>simp
 | cons h1 h2 h3 h4 ih =>
   rename_i k v ks vs l L
   intro _
   by_cases g:ks=[]
   ·subst g
    cases h4
    exact ⟨[],k,[],v,[],l,rfl,rfl,by simp,.nil,h1,h2,h3⟩
   ·obtain ⟨ks0,k',vs0,v',A0,l',rfl,rfl,rfl,a,b,c,d⟩:=ih g
    exact ⟨k::ks0,k',v::vs0,v',l++A0,l',rfl,rfl,by simp,.cons h1 h2 h3 a,b,c,d⟩
theorem CV.any {t:Nat→List KV→Prop} {ks vs:List Nat} (h:CV t ks vs L):CV (fun _ _=>True) ks vs L:=h.mono fun _ _ _ _=>trivial
set_option maxHeartbeats 1000000 in
theorem ADm {key:Nat}:∀ (k:Nat) (P Rs:List Wp) (h:Nat) (s:Wp) (T:TS) (G:Gh) (Lf L1 L2:List KV) (W:List Nat),P.length=k→oA N T G hd P h s Lf L1 L2 W X→(s.n.fits→T.g s.at'=.nd s.n)→KE G h s.n (del key Lf)→s.n.keys.length≤8→(P≠[]→3≤s.n.keys.length)→(P=[]→s.n.leaf=false→1≤s.n.keys.length)→C4 (L1++(Lf++L2))→(∀ p∈L1,p.1<key)→(∀ p∈L2,key<p.1)→(∃ T',jJ UD (P.length+1) (P++s::Rs) T=.err 8 T')∨∃ p Q T' G' H,jJ UD (P.length+1) (P++s::Rs) T=.ok (p::Q) T'∧D0 N T' G' (X++(p.at'::p.n.vals))∧T'.now[p.at']?=some 1∧G' p.at'=none∧p.at'≠0∧KE G' H p.n (del key (L1++(Lf++L2)))∧p.n.keys.length≤8∧(p.n.leaf=false→1≤p.n.keys.length)∧(p.n.fits→T'.g p.at'=.nd p.n)∧E7 G G' X∧T'.was=T.was∧dQ G' p.n:=by
 intro k
 induction k with
 | zero =>
   intro P Rs h s T G Lf L1 L2 W hk ho hsv hb h8 h3 h2 hg hl1 hl2
   obtain rfl:=List.length_eq_zero_iff.1 hk
   obtain ⟨rfl,rfl,rfl⟩:=ho.zip.nil
   right
   refine ⟨s,Rs,T,G,h,rfl,ho.inv.perm fun x=>?_,ho.me.1,ho.me.2.2.1,ho.me.2.2.2,by simpa using hb,h8,h2 rfl,hsv,.refl,rfl,ho.lv⟩
   simp [List.count_append,List.count_cons]
 | succ k ih =>
   intro P Rs h s T G Lf L1 L2 W hk ho hsv hb h8 h3 h2 hg hl1 hl2
   obtain ⟨P0,u,rfl⟩:∃ P0 u,P=P0++[u]:=by
    rcases List.eq_nil_or_concat P with rfl | ⟨P0,u,rfl⟩
    ·simp at hk
    ·exact ⟨P0,u,List.concat_eq_append⟩
   have hk0:P0.length=k:=by simpa using hk
   obtain ⟨M1,M2,A,B,W',ks1,kk,ks2,vs1,vs2,z0,z1,z2,z3,z4,z5,z6,z7,z8,z9,rfl,rfl,rfl⟩:=ho.zip.last
   have hs3:=h3 (by simp)
   have hLL:M1++((A++(Lf++B))++M2)=(M1++A)++(Lf++(B++M2)):=by simp
   have hgT:C4 (M1++((A++(del key Lf++B))++M2)):=by
    have e:(M1++A)++(del key Lf++(B++M2))=M1++((A++(del key Lf++B))++M2):=by simp
    rw [← e,← kV hl2,← qN hl1]; exact iN hg
   have hgA:C4 (A++(del key Lf++B)):=hgT.right.left
   have hgd:C4 (del key Lf):=hgA.right.left
   have hdelL:del key (A++(Lf++B))=A++(del key Lf++B):=by
    rw [qN fun p hp=>hl1 p (by simp [hp]),kV (fun p hp=>hl2 p (by simp [hp]))]
   have hdne:del key Lf≠[]:=(KZ hb).2 fun e=>by rw [e] at hs3; simp at hs3
   have hu:=ho.ok u (by simp)
   have hus:u.at'≠s.at':=ho.ne u (by simp)
   have huc:=ho.inv.now1 hu.2.2.1 (by simp)
   have huP:∀ t∈P0,t.at'≠u.at':=fun t ht e=>by
    have h1:=List.count_pos_iff.2 (List.mem_map_of_mem (f:=(·.at')) ht)
    rw [e] at h1
    simp only [List.map_append,List.map_cons,List.map_nil,List.count_append,List.count_cons,List.count_nil] at huc
    simp at huc
    omega
   have hu0:u.at'≠0:=fun e=>by
    have h0:=List.count_pos_iff.2 ho.z
    rw [e] at huc
    simp only [List.map_append,List.map_cons,List.map_nil,List.count_append,List.count_cons,List.count_nil] at huc
    simp [e] at huc
    omega
   have hsP:∀ t∈P0,t.at'≠s.at':=fun t ht=>ho.ne t (by simp [ht])
   have hokP:HM T G P0:=fun t ht=>ho.ok t (by simp [ht])
   have huv:u.n.vals=vs1++s.at'::vs2:=by rw [z1]
   have huk:u.n.keys=ks1++kk::ks2:=by rw [z1]
   have hul:u.n.leaf=false:=by rw [z1]
   have huN:u.at'<N:=ho.inv.tok _ (by simp)
   have hlenP:(P0++[u]).length=P0.length+1:=by simp
   have hl1':∀ p∈M1,p.1<key:=fun p hp=>hl1 p (by simp [hp])
   have hl2':∀ p∈M2,key<p.1:=fun p hp=>hl2 p (by simp [hp])
   have hukl:u.n.keys.length=ks1.length+(ks2.length+1):=by rw [huk]; simp
   obtain ⟨x0,hx0⟩:∃ x0,s.n.keys[0]?=some x0:=⟨_,List.getElem?_eq_getElem (by omega)⟩
   have hhd:hd (del key Lf)=x0:=by rw [← RD hb,List.head?_eq_getElem?,hx0]; rfl
   rw [gT,hlenP,List.append_assoc,List.singleton_append]
   unfold UD
   have hg1:(P0++u::s::Rs)[P0.length+1]?=some s:=by rw [List.getElem?_append_right (by omega)]; simp
   have hg0:(P0++u::s::Rs)[P0.length+1 - 1]?=some u:=by simp
   rw [if_neg (by omega),hg1,hg0]
   simp only
   -- the XL key
   have hmu:Nd.May ⟨false,ks1++x0::ks2,vs1++s.at'::vs2⟩:=by
    have hm:=hu.1
    rw [z1] at hm
    refine ⟨by simpa using hm.1,?_,hm.2.2⟩
    exact CV.sorted (z4.any.append (.cons (v:=s.at') trivial hdne hhd z5.any)) hgA
   obtain ⟨T1,hT1,hgu1,hn1,hw1,hgo1,hi1⟩:∃ T1,nI (P0++u::s::Rs) (P0.length+1) s u T=.ok (P0++{ u with n:=⟨false,ks1++x0::ks2,vs1++s.at'::vs2⟩ }::s::Rs) T1∧T1.g u.at'=.nd ⟨false,ks1++x0::ks2,vs1++s.at'::vs2⟩∧T1.now=T.now∧T1.was=T.was∧(∀ x,x≠u.at'→T1.g x=T.g x)∧D0 N T1 G (X++(((P0++[u]).map (·.at')++[s.at'])++((W'++(vs1++vs2))++s.n.vals))):=by
    unfold nI
    have ek:u.n.keys[u.nx]?=some kk:=by rw [huk,z2]; simp
    rw [if_pos (by omega),ek,hx0]
    simp only
    by_cases e:kk=x0
    ·rw [if_pos e]
     subst e
     have:({ u with n:=⟨false,ks1++kk::ks2,vs1++s.at'::vs2⟩ }:Wp)=u:=by cases u; simp_all
     rw [this]
     exact ⟨T,rfl,by rw [← z1]; exact hu.2.1,rfl,rfl,fun _ _=>rfl,ho.inv⟩
    ·rw [if_neg e]
     have hset:u.n.setN u.nx x0 s.at'=⟨false,ks1++x0::ks2,vs1++s.at'::vs2⟩:=by
      unfold Nd.setN setF
      rw [z1]
      simp only [if_true,Bool.false_eq_true,if_false]
      rw [fA z2,fA (z2.trans z3.symm)]
     refine ⟨T.put u.at' ⟨false,ks1++x0::ks2,vs1++s.at'::vs2⟩,?_,by simp [TS.put],rfl,rfl,fun x hx=>by simp [TS.put,hx],ho.inv.put hu.2.2.2.2⟩
     unfold QI
     rw [hg0]
     simp only
     rw [if_pos (by rw [z2,hukl]; omega),hset,SR hmu (by rw [ho.inv.n1]; exact huN)]
     simp [R.bind]
   rw [hT1]
   simp only [R.bind]
   generalize hu1:({ u with n:=⟨false,ks1++x0::ks2,vs1++s.at'::vs2⟩ }:Wp)=u1
   have u1a:u1.at'=u.at':=by rw [← hu1]
   have u1n:u1.n=⟨false,ks1++x0::ks2,vs1++s.at'::vs2⟩:=by rw [← hu1]
   have u1x:u1.nx=ks1.length:=by rw [← hu1]; exact z2
   have u1l:u1.n.keys.length=u.n.keys.length:=by rw [u1n,hukl]; simp
   have hok1:HM T1 G P0:=fun t ht=>by
    have:=hokP t ht
    exact ⟨this.1,by rw [hgo1 _ (huP t ht)]; exact this.2.1,by rw [hn1]; exact this.2.2.1,by rw [hw1]; exact this.2.2.2.1,this.2.2.2.2⟩
   by_cases g4:4≤s.n.keys.length
   ·rw [if_pos g4]
    have hf:s.n.fits:=⟨by omega,h8⟩
    have hG0:=ho.me.2.2.1
    have hclose:D0 N T1 (gset G s.at' (some s.n)) (X++(((P0++[u]).map (·.at')++[s.at'])++(W'++(vs1++vs2)))):=by
     refine D0.close (hi1.perm fun x=>?_) hG0 (by simp) (by rw [hn1]; exact ho.me.1) (by rw [hgo1 _ (Ne.symm hus)]; exact hsv hf) hf ho.me.2.2.2 (QV hb ho.lv) (by simp [ho.z])
     simp only [List.count_append]; omega
    have hop:oA N T1 (gset G s.at' (some s.n)) hd P0 (h+1) u1 (A++(Lf++B)) M1 M2 W' X:=by
     refine ⟨hclose.perm fun x=>?_,ho.z,by rw [u1a]; exact z0.mono fun v _ h l hk=>G9.set hG0 hk,hok1.gset hsP,⟨by rw [u1a,hn1]; exact hu.2.2.1,by rw [u1a,hw1]; exact hu.2.2.2.1,by rw [u1a,BV hus]; exact hu.2.2.2.2,by rw [u1a]; exact hu0⟩,.inner (by rw [u1n])⟩
     rw [u1n,u1a]
     simp only [List.map_append,List.map_cons,List.map_nil,List.count_append,List.count_cons,List.count_nil]; omega
    have hbu:KE (gset G s.at' (some s.n)) (h+1) u1.n (del key (A++(Lf++B))):=by
     refine IR.2 ⟨by rw [u1n],?_⟩
     rw [hdelL,u1n]
     exact (z4.mono fun v _ l hk=>G9.set hG0 hk).append (.cons ⟨s.n,D4,g4,FX hG0 hb⟩ hdne hhd (z5.mono fun v _ l hk=>G9.set hG0 hk))
    have:=ih P0 (s::Rs) (h+1) u1 T1 _ _ M1 M2 W' hk0 hop (fun _=>by rw [u1a,u1n]; exact hgu1) hbu (by omega) (fun e=>by have:=z9 e; omega) (fun e _=>by have:=z8 e; omega) (by rw [hLL]; exact hg) hl1' hl2'
    rcases this with h1 | ⟨p,Q,T',G',H,e,i,a1,a2,a3,a4,a5,a6,a7,a8,a9,a10⟩
    ·exact .inl h1
    ·exact .inr ⟨p,Q,T',G',H,e,i,a1,a2,a3,by rw [← hLL]; exact a4,a5,a6,a7,(E7.set hG0 ho.nX).trans a8,by rw [a9,hw1],a10⟩
   rw [if_neg g4]
   have hs3':s.n.keys.length=3:=by omega
   have hg01:(P0++u1::s::Rs)[P0.length+1 - 1]?=some u1:=by simp
   rw [hg01]
   simp only
   -- what is alike on both sides
   have hrest:∀ (u2:Wp) (T3:TS) (G3:Gh),u2.at'=u.at'→D0 N T3 G3 (X++((P0.map (·.at')++[u.at'])++(W'++u2.n.vals)))→KE G3 (h+1) u2.n (A++(del key Lf++B))→u.n.keys.length≤u2.n.keys.length+1→u2.n.keys.length≤u.n.keys.length→T3.g u.at'=.nd u2.n→G3 u.at'=none→(∀ v∈W',∀ h l,G9 G h v l→G9 G3 h v l)→E7 G G3 X→T3.was=T1.was→HM T3 G3 P0→T3.now[u.at']?=some 1→(∃ T',jJ UD (P0.length+1) (P0++u2::s::Rs) T3=.err 8 T')∨∃ p Q T' G' H,jJ UD (P0.length+1) (P0++u2::s::Rs) T3=.ok (p::Q) T'∧D0 N T' G' (X++(p.at'::p.n.vals))∧T'.now[p.at']?=some 1∧G' p.at'=none∧p.at'≠0∧KE G' H p.n (del key ((M1++A)++(Lf++(B++M2))))∧p.n.keys.length≤8∧(p.n.leaf=false→1≤p.n.keys.length)∧(p.n.fits→T'.g p.at'=.nd p.n)∧E7 G G' X∧T'.was=T.was∧dQ G' p.n:=by
    intro u2 T3 G3 b1 b2 b3 b4 b5 b6 b7 b8 b9 b10 b11 b12
    have hop:oA N T3 G3 hd P0 (h+1) u2 (A++(Lf++B)) M1 M2 W' X :=
     ⟨by rw [b1]; exact b2,ho.z,by rw [b1]; exact z0.mono b8,b11,⟨by rw [b1]; exact b12,by rw [b1,b10,hw1]; exact hu.2.2.2.1,by rw [b1]; exact b7,by rw [b1]; exact hu0⟩,.inner b3.1⟩
    have:=ih P0 (s::Rs) (h+1) u2 T3 _ _ M1 M2 W' hk0 hop (fun _=>by rw [b1]; exact b6) (by rw [hdelL]; exact b3) (by omega) (fun e=>by have:=z9 e; omega) (fun e _=>by have:=z8 e; omega) (by rw [hLL]; exact hg) hl1' hl2'
    rcases this with h1 | ⟨p,Q,T',G',H,e,i,a1,a2,a3,a4,a5,a6,a7,a8,a9,a10⟩
    ·exact .inl h1
    ·exact .inr ⟨p,Q,T',G',H,e,i,a1,a2,a3,by rw [← hLL]; exact a4,a5,a6,a7,b9.trans a8,by rw [a9,b10,hw1],a10⟩
   have hnow1:∀ x:Nat,T.now[x]?=some 1→T1.now[x]?=some 1:=fun x hx=>by rw [hn1]; exact hx
   unfold fC
   by_cases gl:u1.nx+1=u1.n.keys.length
   ·rw [if_pos gl]
    have k20:ks2=[]:=by
     rw [u1x,u1l,hukl] at gl
     exact List.length_eq_zero_iff.1 (by omega)
    have hks1:ks1≠[]:=fun e=>by
     rw [hukl,e,k20] at z8 z9
     by_cases g:P0=[]
     ·have:=z8 g; simp at this
     ·have:=z9 g; simp at this
    have hx1:u1.nx≠0:=by rw [u1x]; intro e; exact hks1 (List.length_eq_zero_iff.1 e)
    rw [if_neg hx1]
    obtain ⟨ks0,kv,vs0,v,A0,l,e1,e2,e3,za,⟨m,hGv,hm4,hbm⟩,hlne,hhl⟩:=z4.snoc hks1
    have hl0:vs0.length=ks0.length:=za.len
    subst e1 e2 e3
    have hnx:u1.nx - 1=ks0.length:=by rw [u1x]; simp
    have hnx2:u1.nx=ks0.length+1:=by rw [u1x]; simp
    have hvv:u1.n.vals[u1.nx - 1]?=some v:=by rw [u1n,hnx,← hl0]; simp
    rw [hvv]
    simp only
    have i1:D0 N T1 G (v::(X++((P0.map (·.at')++[u.at'])++(s.at'::(W'++(vs0++(vs2++s.n.vals))))))):=hi1.perm fun x=>by
     simp only [List.map_append,List.map_cons,List.map_nil,List.count_append,List.count_cons,List.count_nil]; omega
    rcases iA i1 (by simp [ho.z]) hGv hbm with ⟨T',e⟩ | ⟨CB,T2,G2,e,i2,o1,o2,w2,go,o0,oK,bm2,kid2,bod2,keep2,now2,g2,gn2⟩
    ·rw [e]; exact .inl ⟨T',rfl⟩
    rw [e]
    simp only [R.bind]
    have hm8:=(hi1.dom v m hGv).2.2.2.2.2
    have ht:xK N T2 G2 h CB s.at' m s.n l (del key Lf) (X++((P0.map (·.at')++[u.at'])++(W'++(vs0++vs2)))):=by
     refine ⟨i2.perm fun x=>?_,by simp [ho.z],go,gn2 _ ho.me.2.2.1,o1,now2 _ (by simp) (hnow1 _ ho.me.1),bm2,bod2 _ _ _ hb fun v hv=>by simp [hv],?_,⟨by omega,hm8⟩,⟨by omega,h8⟩,o0.2,fun hl v hv=>gn2 v (ho.lv hl v hv),⟨by omega,by omega⟩⟩
     ·simp only [List.count_append,List.count_cons,List.count_nil]; omega
     ·have e:(A0++l)++(del key Lf++B)=A0++((l++del key Lf)++B):=by simp
      rw [e] at hgA
      exact hgA.right.left
    have huo:u.at'≠CB:=fun e=>oK (by rw [← e]; simp)
    obtain ⟨u2,T3,G3,vs',c1,c2,c3,c4,c5,c6,c7,c8,c9,c10,c11,c12,c13,c14,c15⟩:=qF (P0:=P0) (Rs:=s::Rs) (u:=u1) (k1:=ks0) (k2:=ks2) (v1:=vs0) (v2:=vs2) (LA:=A0) (LB:=B) (ka:=kv) (kb:=x0) (va:=v) (vb:=s.at') ht (by rw [u1n]; simp) hl0 (za.mono fun w hw l'=>kid2 w (by simp [hw]) _ l') (z5.mono fun w hw l'=>kid2 w (by simp [hw]) _ l') (by
     have e:(A0++l)++(del key Lf++B)=A0++((l++del key Lf)++B):=by simp
     rw [← e]; exact hgA) (by omega) (by rw [u1a]; simp) (by rw [u1a]; exact gn2 _ hu.2.2.2.2) (by rw [u1a]; exact huo) (by rw [u1a]; exact hus)
    rw [hnx,hnx2,c1]
    simp only [R.bind]
    rw [u1a] at c2 c8 c9 c14
    refine hrest u2 T3 G3 c2 (c5.perm fun x=>?_) (by
     have e:(A0++l)++(del key Lf++B)=A0++((l++del key Lf)++B):=by simp
     rw [e]; exact c4) (by omega) (by omega) c8 c9 (fun w hw h' l' hk=>c10 w h' l' (kid2 w (by simp [hw]) h' l' hk)) ((keep2 X fun x hx=>by simp [hx]).trans (c11 X fun x hx=>by simp [hx])) (by rw [c12,w2]) (fun t ht'=>?_) ?_
    ·rw [c3]
     simp only [List.count_append,List.count_cons,List.count_nil]; omega
    ·have hp:=hok1 t ht'
     have hK:t.at'∈X++((P0.map (·.at')++[u.at'])++(s.at'::(W'++(vs0++(vs2++s.n.vals))))):=by simp; exact .inr (.inl ⟨t,ht',rfl⟩)
     have hto:t.at'≠CB:=fun e=>oK (e▸hK)
     refine ⟨hp.1,?_,?_,by rw [c12,w2]; exact hp.2.2.2.1,c15 _ (gn2 _ hp.2.2.2.2) hto (hsP t ht')⟩
     ·rw [c14 _ hto (hsP t ht') (huP t ht'),g2 _ hto]; exact hp.2.1
     ·rw [c13 _ (hsP t ht')]; exact now2 _ hK hp.2.2.1
    ·rw [c13 _ hus]; exact now2 _ (by simp) (hnow1 _ hu.2.2.1)
   ·rw [if_neg gl]
    cases z5 with
    | nil=>exact absurd (by rw [u1x,u1l,hukl]; rfl) gl
    | cons hkv hlne hhl zb =>
    rename_i kv v ks3 vs3 l B3
    obtain ⟨m,hGv,hm4,hbm⟩:=hkv
    have hvv:u1.n.vals[u1.nx+1]?=some v:=by
     rw [u1n,u1x,← z3,List.getElem?_append_right (by omega)]
     have:vs1.length+1 - vs1.length=1:=by omega
     rw [this]; rfl
    rw [hvv]
    simp only
    have i1:D0 N T1 G (v::(X++((P0.map (·.at')++[u.at'])++(s.at'::(W'++(vs1++(vs3++s.n.vals))))))):=hi1.perm fun x=>by
     simp only [List.map_append,List.map_cons,List.map_nil,List.count_append,List.count_cons,List.count_nil]; omega
    rcases iA i1 (by simp [ho.z]) hGv hbm with ⟨T',e⟩ | ⟨CB,T2,G2,e,i2,o1,o2,w2,go,o0,oK,bm2,kid2,bod2,keep2,now2,g2,gn2⟩
    ·rw [e]; exact .inl ⟨T',rfl⟩
    rw [e]
    simp only [R.bind]
    have hm8:=(hi1.dom v m hGv).2.2.2.2.2
    have eg:A++(del key Lf++(l++B3))=A++((del key Lf++l)++B3):=by simp
    have ht:xK N T2 G2 h s.at' CB s.n m (del key Lf) l (X++((P0.map (·.at')++[u.at'])++(W'++(vs1++vs3)))):=by
     refine ⟨i2.perm fun x=>?_,by simp [ho.z],gn2 _ ho.me.2.2.1,go,now2 _ (by simp) (hnow1 _ ho.me.1),o1,bod2 _ _ _ hb fun v hv=>by simp [hv],bm2,?_,⟨by omega,h8⟩,⟨by omega,hm8⟩,fun hl v hv=>gn2 v (ho.lv hl v hv),o0.2,⟨by omega,by omega⟩⟩
     ·simp only [List.count_append,List.count_cons,List.count_nil]; omega
     ·rw [eg] at hgA
      exact hgA.right.left
    have huo:u.at'≠CB:=fun e=>oK (by rw [← e]; simp)
    obtain ⟨u2,T3,G3,vs',c1,c2,c3,c4,c5,c6,c7,c8,c9,c10,c11,c12,c13,c14,c15⟩:=qF (P0:=P0) (Rs:=s::Rs) (u:=u1) (k1:=ks1) (k2:=ks3) (v1:=vs1) (v2:=vs3) (LA:=A) (LB:=B3) (ka:=x0) (kb:=kv) (va:=s.at') (vb:=v) ht (by rw [u1n]) z3 (z4.mono fun w hw l'=>kid2 w (by simp [hw]) _ l') (zb.mono fun w hw l'=>kid2 w (by simp [hw]) _ l') (by rw [← eg]; exact hgA) (by omega) (by rw [u1a]; simp) (by rw [u1a]; exact gn2 _ hu.2.2.2.2) (by rw [u1a]; exact hus) (by rw [u1a]; exact huo)
    rw [u1x,c1]
    simp only [R.bind]
    rw [u1a] at c2 c8 c9 c14
    refine hrest u2 T3 G3 c2 (c5.perm fun x=>?_) (by rw [eg]; exact c4) (by omega) (by omega) c8 c9 (fun w hw h' l' hk=>c10 w h' l' (kid2 w (by simp [hw]) h' l' hk)) ((keep2 X fun x hx=>by simp [hx]).trans (c11 X fun x hx=>by simp [hx])) (by rw [c12,w2]) (fun t ht'=>?_) ?_
    ·rw [c3]
     simp only [List.count_append,List.count_cons,List.count_nil]; omega
    ·have hp:=hok1 t ht'
     have hK:t.at'∈X++((P0.map (·.at')++[u.at'])++(s.at'::(W'++(vs1++(vs3++s.n.vals))))):=by simp; exact .inr (.inl ⟨t,ht',rfl⟩)
     have hto:t.at'≠CB:=fun e=>oK (e▸hK)
     refine ⟨hp.1,?_,?_,by rw [c12,w2]; exact hp.2.2.2.1,c15 _ (gn2 _ hp.2.2.2.2) (hsP t ht') hto⟩
     ·rw [c14 _ (hsP t ht') hto (huP t ht'),g2 _ hto]; exact hp.2.1
     ·rw [c13 _ hto]; exact now2 _ hK hp.2.2.1
    ·rw [c13 _ huo]; exact now2 _ (by simp) (hnow1 _ hu.2.2.1)
end Go.Ax.C
set_option maxRecDepth 100000
namespace Go.Ax.C
open Go.Proofs Go.RowKit
variable {N:Nat} {T T':TS} {G:Gh} {L:List KV} {X K:List Nat} {n:Nd}
theorem zC {xs:List Nat} {i a x:Nat} (h:xs[i]?=some a):(xs.take i++xs.drop (i+1)).count x+(if a=x then 1 else 0)=xs.count x:=by
 conv=>rhs; rw [Z4 h]
 simp only [List.count_append,List.count_cons,beq_iff_eq]
 omega
theorem D0.decs {a:Nat} (h:D0 N T G (a::K)) (hz:0∈K) (hd:G a=none):∃ b T',T.dec a=.ok b T'∧D0 N T' G K∧T'.was=T.was:=by
 obtain ⟨T',e,i,w,_⟩:=h.dec hz (.inl hd)
 exact ⟨_,T',e,i,w⟩
theorem AC7 {root key:Nat} (hI:D0 N T G (tk root X)) (hz:0∈X) (ht:PG G root L) (hg:C4 L) (hN:N≤1024) :
 (GN key L=none→eQ T root key=.ok (root,0,false) T)∧∀ old,GN key L=some old→(∃ T',eQ T root key=.err 8 T')∨∃ to T' G',eQ T root key=.ok (to,old,true) T'∧D0 N T' G' (tk to (old::X))∧PG G' to (del key L)∧E7 G G' X∧T'.was=T.was∧G' old=none:=by
 have hlook:=oY (key:=key) hI ht hg hN
 constructor
 ·intro hnone
  unfold eQ
  rw [hlook,hnone]
  simp only [R.bind,Option.isSome_none,if_true]
 intro old hold
 unfold eQ
 rw [hlook,hold]
 simp only [R.bind,Option.isSome_some,Bool.true_eq_false,if_false,Option.getD_some]
 unfold PG at ht
 by_cases hr:root=0
 ·rw [if_pos hr] at ht; subst ht; simp [GN] at hold
 rw [if_neg hr] at ht
 unfold tk at hI
 rw [if_neg hr] at hI
 obtain ⟨h,n,hG,hb,h2⟩:=ht
 have hh:=WN hI hN hb hg h2
 have hf:=(hI.dom root n hG).2.2.2.2
 have hw:Way N T G hd [] h root n L [] [] [] X :=
  ⟨hI.perm fun x=>by simp [List.count_append,List.count_cons],hz,.top _ _ _,fun s hs=>by simp at hs,hG,hb,hf.1,hf.2,fun e=>absurd rfl e,fun _=>h2⟩
 rcases WP (lower:=false) (key:=key) rfl h 12 [] root n T G L [] [] [] hw (by simpa using hg) (by simp) (by simp) (by omega) with ⟨T',e⟩ | ⟨P',s,T1,G1,W,Lf,L1,L2,e,ho,hsv,hb1,hsz,hk,hL,hl1,hl2,hws⟩
 ·rw [e]; exact .inl ⟨T',rfl⟩
 rw [e]
 simp only
 have hlast:(P'++[s])[(P'++[s]).length - 1]?=some s:=by simp
 rw [hlast]
 simp only
 have hL':L=L1++(Lf++L2):=by simpa using hL.symm
 have hlkp:GN key L=GN key Lf:=by rw [hL',gM hl1,WF hl2]
 have hgL:=hg
 rw [hL'] at hgL
 have hgf:C4 Lf:=hgL.right.left
 obtain ⟨hb0,hbl,hbz⟩:=hb1
 have hks:s.n.keys.Pairwise (·<·):=by have:=hgf.1; rw [hbz,WD hbl] at this; exact this
 have hfind:=WS (key:=key) hbl hks
 rw [← hbz,← hlkp,hold] at hfind
 have hsN:s.at'<N:=ho.inv.tok _ (by simp)
 have hlv0:=ho.lv hb0
 have gk:s.n.keys[BA s.n.keys key]?=some key:=by
  by_cases g:s.n.keys[BA s.n.keys key]?=some key
  ·exact g
  ·rw [if_neg g] at hfind; cases hfind
 rw [if_pos gk] at hfind
 have hil:=(List.getElem?_eq_some_iff.1 gk).1
 rw [if_pos hil]
 have hbn:KE G1 0 (s.n.remN (BA s.n.keys key)) (del key Lf):=⟨hb0,by simp [Nd.remN,W1,hbl],by rw [hbz]; exact (p8 hbl gk).symm⟩
 have hkl:(s.n.remN (BA s.n.keys key)).keys.length+1=s.n.keys.length:=by
  simp only [Nd.remN,W1,List.length_append,List.length_take,List.length_drop]; omega
 have h8:=hsz.2.1
 obtain ⟨T4,hT4,hg4,hT4p⟩:∃ T4,lS T1 s.at' (s.n.remN (BA s.n.keys key))=.ok () T4∧((s.n.remN (BA s.n.keys key)).fits→T4.g s.at'=.nd (s.n.remN (BA s.n.keys key)))∧(T4=T1∨T4=T1.put s.at' (s.n.remN (BA s.n.keys key))):=by
  by_cases gf:1≤(s.n.remN (BA s.n.keys key)).keys.length
  ·have hm:=IJ ho.inv hbn (iN hgf) gf (by omega)
   exact ⟨_,SR hm (by rw [ho.inv.n1]; exact hsN),fun _=>by simp [TS.put],.inr rfl⟩
  ·refine ⟨T1,?_,fun hf=>absurd hf.1 gf,.inl rfl⟩
   unfold lS
   rw [if_neg fun hf=>gf hf.1]
 have hws3:D6 (P'++[s]) ((P'++[s]).length - 1) (s.n.remN (BA s.n.keys key)) T1=.ok (P'++[{ s with n:=s.n.remN (BA s.n.keys key) }]) T4:=by
  unfold D6
  rw [hlast]
  simp only
  rw [hT4]
  simp [R.bind,List.set_append]
 rw [hws3]
 simp only
 have hop:oA N T4 G1 hd P' 0 { s with n:=s.n.remN (BA s.n.keys key) } Lf L1 L2 W (old::X):=by
  have hperm:∀ x,(old::X++((P'.map (·.at')++[s.at'])++(W++(s.n.remN (BA s.n.keys key)).vals))).count x=(X++((P'.map (·.at')++[s.at'])++(W++s.n.vals))).count x:=fun x=>by
   have:(s.n.remN (BA s.n.keys key)).vals.count x+(if old=x then 1 else 0)=s.n.vals.count x:=zC hfind.symm
   simp only [List.count_append,List.count_cons,beq_iff_eq,List.count_nil,List.cons_append]
   omega
  have hlv:dQ G1 (s.n.remN (BA s.n.keys key)):=ho.lv.of fun _=>⟨hb0,fun v hv=>by
   rcases List.mem_append.1 hv with hv | hv
   ·exact List.mem_of_mem_take hv
   ·exact List.mem_of_mem_drop hv⟩
  rcases hT4p with e | e
  ·rw [e]; exact ⟨ho.inv.perm hperm,by simp [hz],ho.zip,ho.ok,ho.me,hlv⟩
  ·rw [e]; exact ⟨(ho.inv.put ho.me.2.2.1).perm hperm,by simp [hz],ho.zip,ho.ok.put ho.ne,ho.me,hlv⟩
 have hw4:T4.was=T1.was:=by rcases hT4p with e | e<;>rw [e]<;>rfl
 have VV:=ADm P'.length P' [] 0 _ _ _ Lf L1 L2 W rfl hop hg4 hbn (by simp only; omega) (fun e=>by have:=hsz.2.2.1 e; simp only; omega) (fun _ hl=>by have:s.n.leaf=false:=hl; rw [hb0] at this; cases this) hgL hl1 hl2
 have hlenP2:(P'++[({ s with n:=s.n.remN (BA s.n.keys key) }:Wp)]).length=P'.length+1:=by simp
 rw [hlenP2]
 rcases VV with ⟨T',e⟩ | ⟨p,Q,T',G',H,e,i,a1,a2,a3,a4,a5,a6,a7,a8,a9,a10⟩
 ·rw [e]; exact .inl ⟨T',rfl⟩
 rw [e]
 right
 simp only
 rw [← hL'] at a4
 have hkeep:E7 G G' X:=hk.trans (a8.sub fun x hx=>by simp [hx])
 have hwas:T'.was=T.was:=by rw [a9,hw4,hws]
 have hGo:G' old=none:=(a8 old (by simp)).1 (hlv0 old (List.mem_of_getElem? hfind.symm))
 have hpl:=ZX a4
 unfold AAg
 simp only [List.getElem?_cons_zero]
 by_cases g0:p.n.keys.length=0
 ·rw [if_pos g0]
  have hv0:p.n.vals=[]:=List.length_eq_zero_iff.1 (by omega)
  rw [hv0] at i
  have i1:D0 N T' G' (p.at'::(old::X)):=i.perm fun x=>by simp only [List.count_append,List.count_cons,List.count_nil]; omega
  obtain ⟨b,T5,e5,i5,w5⟩:=i1.decs (by simp [hz]) a2
  rw [e5]
  simp only [R.bind]
  refine ⟨0,T5,G',rfl,by unfold tk; rw [if_pos rfl]; exact i5,?_,hkeep,by rw [w5,hwas],hGo⟩
  unfold PG
  rw [if_pos rfl]
  by_cases gd:del key L=[]
  ·exact gd
  ·exact absurd (List.length_eq_zero_iff.1 g0) ((KZ a4).1 gd)
 rw [if_neg g0]
 by_cases g1:p.n.leaf=false∧p.n.keys.length=1
 ·rw [if_pos g1]
  cases H with
  | zero=>rw [a4.1] at g1; cases g1.1
  | succ H =>
  obtain ⟨v,hv⟩:∃ v,p.n.vals=[v]:=List.length_eq_one_iff.1 (by omega)
  obtain ⟨k0,hk0⟩:∃ k0,p.n.keys=[k0]:=List.length_eq_one_iff.1 g1.2
  have hkid:G9 G' H v (del key L):=by
   have hkk:=a4.2
   rw [hv,hk0] at hkk
   generalize hdl:del key L=D at hkk
   cases hkk with
   | cons b1 b2 b3 b4=>cases b4; rw [List.append_nil]; exact b1
  rw [hv]
  simp only [List.getElem?_cons_zero]
  rw [hv] at i
  have i1:D0 N T' G' (p.at'::(v::old::X)):=i.perm fun x=>by simp only [List.count_append,List.count_cons,List.count_nil]; omega
  obtain ⟨b,T5,e5,i5,w5⟩:=i1.decs (by simp [hz]) a2
  rw [e5]
  simp only [R.bind]
  obtain ⟨m,hm,hm4,hmb⟩:=hkid
  have hv0:=(i5.dom v m hm).2.1
  refine ⟨v,T5,G',rfl,by unfold tk; rw [if_neg hv0]; exact i5,?_,hkeep,by rw [w5,hwas],hGo⟩
  unfold PG
  rw [if_neg hv0]
  exact ⟨H,m,hm,hmb,fun _=>by omega⟩
 rw [if_neg g1]
 have hfit:p.n.fits:=⟨by omega,a5⟩
 refine ⟨p.at',T',gset G' p.at' (some p.n),rfl,?_,?_,hkeep.trans (.set a2 fun hx=>by have:=List.count_pos_iff.2 hx; have h0:=(i.now1 a1 (by simp)).1; simp only [List.count_append,List.count_cons] at h0; simp at h0; omega),hwas,((E7.set a2 fun hx=>by have:=List.count_pos_iff.2 hx; have h0:=(i.now1 a1 (by simp)).1; rw [List.count_append,List.count_cons_self] at h0; omega:E7 G' _ (old::X)) old (by simp)).1 hGo⟩
 ·unfold tk
  rw [if_neg a3]
  refine D0.close (i.perm fun x=>?_) a2 (by simp) a1 (a7 hfit) hfit a3 (QV a4 a10) (by simp [hz])
  simp only [List.count_append,List.count_cons]; omega
 ·unfold PG
  rw [if_neg a3]
  refine ⟨H,p.n,D4,FX a2 a4,fun hl=>?_⟩
  have:=a6 hl
  have:p.n.keys.length≠1:=fun e=>g1 ⟨hl,e⟩
  omega
end Go.Ax.C
set_option maxRecDepth 100000
namespace Go.Ax.C
open Go.Proofs Go.RowKit
variable {N:Nat} {T T':TS} {G:Gh} {L:List KV} {X K:List Nat} {n:Nd}
theorem u9 {V:Nat→Prop} (h:D0 N T G K) (hr:∀ r∈K,G r≠none→V r) (hc:∀ b n,V b→G b=some n→n.leaf=false→∀ v∈n.vals,V v):∀ b n,G b=some n→V b:=by
 obtain ⟨ht,hh⟩:=h.hgt
 obtain ⟨M,hM⟩:=uM ht (List.range N)
 have key:∀ (d b:Nat) (n:Nd),G b=some n→M - ht b≤d→V b:=by
  intro d
  induction d with
  | zero =>
    intro b n hb hd
    have:=hM b (List.mem_range.2 (h.dom b n hb).1)
    omega
  | succ d ih =>
    intro b n hb hd
    have hbM:=hM b (List.mem_range.2 (h.dom b n hb).1)
    by_cases g:0<K.count b
    ·exact hr b (List.count_pos_iff.1 g) (by rw [hb]; simp)
    ·have:=(h.dom b n hb).2.2.1
     obtain ⟨b',n',h1,h2,h3⟩:=tC (G:=G) (x:=b) (N:=N) (by omega)
     have hl:n'.leaf=false:=by
      cases hl:n'.leaf with
      | false=>rfl
      | true=>have:=h.lfv b' n' h2 hl b h3; rw [hb] at this; cases this
     have hlt:=hh b' n' h2 hl b h3
     have hb'M:=hM b' (List.mem_range.2 h1)
     exact hc b' n' (ih b' n' h2 (by omega)) h2 hl b h3
 exact fun b n hb=>key _ b n hb (Nat.le_refl _)
end Go.Ax.C
set_option maxRecDepth 100000
namespace Go.Ax.C
open Go.Proofs Go.RowKit
variable {N:Nat} {T T':TS} {G:Gh} {L:List KV} {key val:Nat}
theorem w7 {o:Nat} (h:GN key L=some o):(key,o)∈L:=by
 induction L with
 | nil=>cases h
 | cons p L ih =>
   unfold GN at h
   split at h
   ·rename_i e
    cases h
    exact List.mem_cons.2 (.inl (by rw [← e]))
   ·exact List.mem_cons_of_mem _ (ih h)
theorem kG (h:GN key L=none):((ins key val L).map (·.1)).Perm (key::L.map (·.1)):=by
 induction L with
 | nil=>exact .refl _
 | cons p L ih =>
   unfold GN at h
   split at h
   ·cases h
   rename_i g
   unfold ins
   split
   ·simp only [List.map_cons]
    exact ((ih h).cons p.1).trans (.swap _ _ _)
   ·(try rw [if_neg g])
    exact .refl _
theorem jQ (hg:C4 L) {o:Nat} (h:GN key L=some o):(ins key val L).map (·.1)=L.map (·.1):=by
 induction L with
 | nil=>cases h
 | cons p L ih =>
   obtain ⟨h1,h2,h3⟩:=GZ.1 hg
   unfold GN at h
   unfold ins
   split at h
   ·rename_i e
    rw [if_neg (by omega),if_pos e]
    simp [e]
   ·rename_i g
    have:=h2 _ (w7 h)
    simp only at this
    rw [if_pos this]
    simp [ih h3 h]
theorem AA6 (hg:C4 L) {o:Nat} (h:GN key L=some o):(L.map (·.1)).Perm (key::(del key L).map (·.1)):=by
 induction L with
 | nil=>cases h
 | cons p L ih =>
   obtain ⟨h1,h2,h3⟩:=GZ.1 hg
   unfold GN at h
   unfold del
   split at h
   ·rename_i e
    rw [if_neg (by omega),if_pos e]
    simp [e]
   ·rename_i g
    have:=h2 _ (w7 h)
    simp only at this
    rw [if_pos this]
    simp only [List.map_cons]
    exact ((ih h3 h).cons p.1).trans (.swap _ _ _)
theorem zW:(ins key val L).length≤L.length+1:=by
 induction L with
 | nil=>simp [ins]
 | cons p L ih =>
   unfold ins
   split
   ·simp; omega
   ·split<;>simp
theorem AA2:(del key L).length≤L.length:=by
 induction L with
 | nil=>simp [del]
 | cons p L ih =>
   unfold del
   split
   ·simp; omega
   ·split<;>simp
structure Emp (T:TS) (G:Gh) (root:Nat) (L:List KV):Prop where
 inv:D0 500 T G (tk root [0,1])
 tree:PG G root L
 good:C4 L
 g0:∀ x∈[0,1],G x=none
 one:∀ (x c:Nat),T.now[x]?=some c→c≤1
variable {root:Nat}
theorem AAN {r x:Nat} {X:List Nat} (h:r≠0∨True):(tk r X).count x=(if r=0 then 0 else if r=x then 1 else 0)+X.count x:=by
 unfold tk
 split
 ·simp
 ·simp only [List.count_cons,beq_iff_eq]; omega
theorem emp_end (he:Emp T G root []):root=0∧T.now=MT 500:=by
 have h0:root=0:=by
  by_cases h:root=0
  ·exact h
  ·have:=he.tree
   unfold PG at this
   rw [if_neg h] at this
   obtain ⟨hh,n,hG,hb,_⟩:=this
   have:=(KZ hb)
   have hf:=(he.inv.dom root n hG).2.2.2.2.1
   exact absurd rfl (this.2 fun e=>by rw [e] at hf; simp at hf)
 refine ⟨h0,?_⟩
 have hdom:=u9 (V:=fun _=>False) he.inv (fun r hr hne=>by
  subst h0
  unfold tk at hr
  rw [if_pos rfl] at hr
  exact hne (he.g0 r hr)) (fun _ _ h=>h.elim)
 apply List.ext_getElem?
 intro x
 have hcl:(MT 500).length=500:=rfl
 by_cases hx:x<500
 ·have hr0:rf G x 500=0:=by
   by_cases g:rf G x 500=0
   ·exact g
   ·obtain ⟨b,n,_,h2,_⟩:=tC (G:=G) (x:=x) (N:=500) (by omega)
    exact (hdom b n h2).elim
  rw [he.inv.cnt x hx,hr0,AAN (.inr trivial),if_pos h0]
  match x,hx with
  | 0,_=>rfl
  | 1,_=>rfl
  | x+2,hx =>
    have e1:List.count (x+2) [0,1]=0:=List.count_eq_zero.2 (by simp)
    rw [e1]
    simp only [MT,List.getElem?_cons_succ,List.getElem?_replicate]
    rw [if_pos (by omega)]
 ·rw [List.getElem?_eq_none (by rw [he.inv.n1]; omega),List.getElem?_eq_none (by rw [hcl]; omega)]
theorem oI {x:Nat}:∀ {N:Nat},rf (fun _=>none) x N=0
 | 0=>rfl
 | N+1=>by simp [rf,oI,vc]
end Go.Ax.C
set_option maxRecDepth 100000
namespace Go.Ax.C
open Go.Proofs Go.RowKit
variable {N:Nat} {T T':TS} {G:Gh} {L:List KV} {X K D Kp:List Nat} {n:Nd} {c:List Nat}
def bump (c:List Nat) (a:Nat):List Nat:=c.set a (c.getD a 0+1)
def NV (G:Gh):Nat→Nat→List Nat→List Nat
 | 0,a,c=>match G a with
   | none=>bump c a
   | some n=>if c.getD a 0=0 then n.vals.foldl bump (bump c a) else bump c a
 | h+1,a,c=>match G a with
   | none=>bump c a
   | some n=>n.vals.foldl (fun d v=>if c.getD a 0=0 then NV G h v d else (NV G h v d).set v (d.getD v 0)) (bump c a)
theorem I5 {a:Nat}:(bump c a).length=c.length:=by simp [bump]
theorem VN {f:List Nat→Nat→List Nat} (hf:∀ c v,(f c v).length=c.length):∀ (vs c:List Nat),(vs.foldl f c).length=c.length
 | [],_=>rfl
 | v::vs,c=>by rw [List.foldl_cons,VN hf vs,hf]
theorem aZ:∀ {h a:Nat} {c:List Nat},(NV G h a c).length=c.length
 | 0,a,c=>by
   unfold NV
   split
   ·exact I5
   ·split
    ·rw [VN fun c v=>I5,I5]
    ·exact I5
 | h+1,a,c=>by
   unfold NV
   split
   ·exact I5
   ·rw [VN,I5]
    intro d v
    split
    ·exact aZ
    ·rw [List.length_set]; exact aZ
theorem aU {a x v:Nat}:(c.set a v).getD x 0=if a=x∧a<c.length then v else c.getD x 0:=by
 rw [List.getD_eq_getElem?_getD,List.getD_eq_getElem?_getD,List.getElem?_set]
 by_cases h:a=x
 ·subst h
  by_cases g:a<c.length
  ·simp [g]
  ·simp [g,List.getElem?_eq_none (Nat.le_of_not_lt g)]
 ·simp [h]
theorem FE {a x:Nat}:(bump c a).getD x 0=if a=x∧a<c.length then c.getD x 0+1 else c.getD x 0:=by
 unfold bump
 rw [aU]
 by_cases h:a=x∧a<c.length
 ·rw [if_pos h,if_pos h,h.1]
 ·rw [if_neg h,if_neg h]
theorem rZ (hI:D0 N T G K):∀ (h h':Nat) (n:Nd) (l l':List KV),n.keys≠[]→KE G h n l→KE G h' n l'→h=h'∧l=l'
 | 0,0,n,l,l',_,h1,h2=>⟨rfl,by rw [h1.2.2,h2.2.2]⟩
 | 0,h'+1,n,l,l',_,h1,h2=>by have:=h1.1; rw [h2.1] at this; cases this
 | h+1,0,n,l,l',_,h1,h2=>by have:=h1.1; rw [h2.1] at this; cases this
 | h+1,h'+1,n,l,l',hk,h1,h2=>by
   have hkid:∀ v l l',G9 G h v l→G9 G h' v l'→h=h'∧l=l':=fun v l l' ⟨m,a1,a2,a3⟩ ⟨m',b1,b2,b3⟩=>by
    rw [a1] at b1; cases b1
    exact rZ hI h h' m l l' (fun e=>by rw [e] at a2; simp at a2) a3 b3
   have key:∀ {ks vs:List Nat} {l l':List KV},CV (G9 G h) ks vs l→CV (G9 G h') ks vs l'→l=l'∧(ks≠[]→h=h'):=by
    intro ks vs l l' h1
    induction h1 generalizing l' with
    | nil=>intro h2; cases h2; exact ⟨rfl,fun e=>absurd rfl e⟩
    | cons a1 a2 a3 a4 ih =>
      intro h2
      cases h2 with
      | cons b1 b2 b3 b4 =>
        obtain ⟨e1,e2⟩:=hkid _ _ _ a1 b1
        obtain ⟨e3,_⟩:=ih b4
        exact ⟨by rw [e2,e3],fun _=>e1⟩
   obtain ⟨e1,e2⟩:=key (IR.1 h1).2 (IR.1 h2).2
   exact ⟨by rw [e2 hk],e1⟩
def gQ (G:Gh) (h x:Nat):Prop:=∃ m l,G x=some m∧m.keys≠[]∧KE G h m l
theorem gQ.uniq (hI:D0 N T G K) {h h' x:Nat} (h1:gQ G h x) (h2:gQ G h' x):h=h':=by
 obtain ⟨m,l,a1,a2,a3⟩:=h1
 obtain ⟨m',l',b1,b2,b3⟩:=h2
 rw [a1] at b1; cases b1
 exact (rZ hI h h' m l l' a2 a3 b3).1
theorem gQ.kid {h a v:Nat} {m:Nd} (h1:gQ G (h+1) a) (hm:G a=some m) (hv:v∈m.vals):gQ G h v:=by
 obtain ⟨m',l,a1,a2,a3⟩:=h1
 rw [a1] at hm; cases hm
 obtain ⟨l',m2,b1,b2,b3⟩:=(IR.1 a3).2.kid v hv
 exact ⟨m2,l',b1,fun e=>by rw [e] at b2; simp at b2,b3⟩
theorem iH (hI:D0 N T G K) {x h0:Nat} (hx:gQ G h0 x):∀ (h a:Nat) (c:List Nat),gQ G h a→h<h0→(NV G h a c).getD x 0=c.getD x 0
 | h,a,c,ha,hlt=>by
   have hne:a≠x:=fun e=>by subst e; have:=ha.uniq hI hx; omega
   have hb:(bump c a).getD x 0=c.getD x 0:=by rw [FE,if_neg (fun g=>hne g.1)]
   obtain ⟨m,l,a1,a2,a3⟩:=id ha
   cases h with
   | zero =>
     unfold NV
     rw [a1]
     simp only
     split
     ·have hfold:∀ (vs:List Nat) (d:List Nat),(∀ v∈vs,v≠x)→(vs.foldl bump d).getD x 0=d.getD x 0:=by
       intro vs
       induction vs with
       | nil=>intro d _; rfl
       | cons v vs ih =>
         intro d hv
         rw [List.foldl_cons,ih _ (fun w hw=>hv w (by simp [hw])),FE,if_neg (fun g=>hv v (by simp) g.1)]
      rw [hfold _ _ fun v hv e=>?_,hb]
      subst e
      obtain ⟨m',_,b1,_⟩:=hx
      rw [hI.lfv a m a1 a3.1 v hv] at b1; cases b1
     ·exact hb
   | succ h =>
     unfold NV
     rw [a1]
     simp only
     have hfold:∀ (vs:List Nat) (d:List Nat),(∀ v∈vs,v∈m.vals)→(vs.foldl (fun d v=>if c.getD a 0=0 then NV G h v d else (NV G h v d).set v (d.getD v 0)) d).getD x 0=d.getD x 0:=by
      intro vs
      induction vs with
      | nil=>intro d _; rfl
      | cons v vs ih =>
        intro d hv
        have hvk:=ha.kid a1 (hv v (by simp))
        have hvx:v≠x:=fun e=>by subst e; have:=hvk.uniq hI hx; omega
        have h1:=iH hI hx h v d hvk (by omega)
        rw [List.foldl_cons,ih _ (fun w hw=>hv w (by simp [hw]))]
        split
        ·exact h1
        ·rw [aU,if_neg (fun g=>hvx g.1),h1]
     rw [hfold _ _ fun v hv=>hv,hb]
def res (G:Gh) (D:List Nat):Gh:=fun b=>if b∈D then G b else none
theorem AAz {b:Nat}:res G (b::D)=gset (res G D) b (G b):=by
 funext x
 unfold res gset
 by_cases h:x=b
 ·subst h; simp
 ·simp [h]
structure CS (N:Nat) (G:Gh) (D Kp c:List Nat):Prop where
 len:c.length=N
 cnt:∀ x,x<N→c.getD x 0=Kp.count x+rf (res G D) x N
 dn:∀ x∈D,∃ h,gQ G h x
 clo:∀ b∈D,∀ m,G b=some m→m.leaf=false→∀ v∈m.vals,v∈D
 pos:∀ b∈D,0<c.getD b 0
def mE (G:Gh) (H:Nat) (D c:List Nat):Prop:=∀ h x,h<H→gQ G h x→0<c.getD x 0→x∈D
theorem CS.bump (hc:CS N G D Kp c) {a:Nat} (ha:a<N):CS N G D (a::Kp) (bump c a):=by
 refine ⟨by rw [I5,hc.len],fun x hx=>?_,hc.dn,hc.clo,fun b hb=>?_⟩
 ·rw [FE,hc.cnt x hx,List.count_cons]
  by_cases h:a=x
  ·subst h; rw [if_pos ⟨rfl,by rw [hc.len]; exact ha⟩,beq_self_eq_true,if_pos rfl]; omega
  ·rw [if_neg (fun g=>h g.1)]; simp [h]
 ·have:=hc.pos b hb
  rw [FE]; split<;>omega
theorem AAs {l:List Nat} {i:Nat}:l.set i (l.getD i 0)=l:=by
 apply List.ext_getElem?
 intro j
 rw [List.getElem?_set]
 split
 ·rename_i e; subst e
  rw [List.getD_eq_getElem?_getD]
  split
  ·rename_i hlt; rw [List.getElem?_eq_getElem hlt]; rfl
  ·rename_i hge; rw [List.getElem?_eq_none (by omega)]
 ·rfl
theorem vJ (hI:D0 N T G K):∀ (h a:Nat) (c Kp:List Nat),CS N G D Kp c→gQ G h a→a∈D→NV G h a c=bump c a
 | 0,a,c,Kp,hc,ha,hD=>by
   obtain ⟨m,l,a1,a2,a3⟩:=ha
   have:=hc.pos a hD
   unfold NV
   rw [a1]
   simp only
   rw [if_neg (by omega)]
 | h+1,a,c,Kp,hc,ha,hD=>by
   obtain ⟨m,l,a1,a2,a3⟩:=id ha
   have hp:=hc.pos a hD
   have haN:=(hI.dom a m a1).1
   unfold NV
   rw [a1]
   simp only
   have hcb:=hc.bump haN
   have hfold:∀ (vs:List Nat),(∀ v∈vs,v∈m.vals)→vs.foldl (fun d v=>(NV G h v d).set v (d.getD v 0)) (Go.Ax.C.bump c a)=Go.Ax.C.bump c a:=by
    intro vs
    induction vs with
    | nil=>intro _; rfl
    | cons v vs ih =>
      intro hv
      have hvD:=hc.clo a hD m a1 a3.1 v (hv v (by simp))
      rw [List.foldl_cons,vJ hI h v _ _ hcb (ha.kid a1 (hv v (by simp))) hvD]
      have:(Go.Ax.C.bump (Go.Ax.C.bump c a) v).set v ((Go.Ax.C.bump c a).getD v 0)=Go.Ax.C.bump c a:=by
       conv=>lhs; unfold Go.Ax.C.bump
       rw [List.set_set]
       exact AAs
      rw [this]
      exact ih fun w hw=>hv w (by simp [hw])
   have he:(fun d v=>if c.getD a 0=0 then NV G h v d else (NV G h v d).set v (d.getD v 0))=fun d v=>(NV G h v d).set v (d.getD v 0):=by
    funext d v
    rw [if_neg (by omega)]
   rw [he]
   exact hfold m.vals fun v hv=>hv
theorem CS.fold {a:Nat} {m:Nd} (hI:D0 N T G K) (hc:CS N G D (m.vals.reverse++Kp) c) (hm:G a=some m) (hh:∃ h,gQ G h a) (hnD:a∉D) (hclo:m.leaf=false→∀ v∈m.vals,v∈D) (hpos:0<c.getD a 0):CS N G (a::D) Kp c:=by
 have haN:=(hI.dom a m hm).1
 refine ⟨hc.len,fun x hx=>?_,?_,?_,?_⟩
 ·have h1:=X1 (G:=res G D) (b:=a) (x:=x) (o:=G a) haN
  have h0:res G D a=none:=by unfold res; rw [if_neg hnD]
  rw [AAz,hc.cnt x hx,List.count_append,List.count_reverse]
  rw [h0,hm] at h1
  rw [hm]
  simp only [vc] at h1
  omega
 ·intro x hx
  rcases List.mem_cons.1 hx with rfl | hx
  ·exact hh
  ·exact hc.dn x hx
 ·intro b hb m' hm' hl v hv
  rcases List.mem_cons.1 hb with rfl | hb
  ·rw [hm] at hm'; cases hm'
   exact List.mem_cons_of_mem _ (hclo hl v hv)
  ·exact List.mem_cons_of_mem _ (hc.clo b hb m' hm' hl v hv)
 ·intro b hb
  rcases List.mem_cons.1 hb with rfl | hb
  ·exact hpos
  ·exact hc.pos b hb
theorem ABT (hI:D0 N T G K):∀ (h a:Nat) (c D Kp:List Nat),CS N G D Kp c→gQ G h a→mE G (h+1) D c→∃ D',CS N G D' (a::Kp) (NV G h a c)∧a∈D'∧(∀ x∈D,x∈D')∧(∀ x∈D',x∈D∨∃ h',h'<h+1∧gQ G h' x)∧mE G (h+1) D' (NV G h a c)
 | h,a,c,D,Kp,hc,ha,hU=>by
   obtain ⟨m,l,a1,a2,a3⟩:=id ha
   have haN:=(hI.dom a m a1).1
   by_cases hD:a∈D
   ·rw [vJ hI h a c Kp hc ha hD]
    refine ⟨D,hc.bump haN,hD,fun x hx=>hx,fun x hx=>.inl hx,fun h' x hlt hx hp=>?_⟩
    rw [FE] at hp
    by_cases e:a=x∧a<c.length
    ·rw [← e.1]; exact hD
    ·rw [if_neg e] at hp; exact hU h' x hlt hx hp
   ·have h0:c.getD a 0=0:=by
     rcases Nat.eq_zero_or_pos (c.getD a 0) with e | e
     ·exact e
     ·exact absurd (hU h a (by omega) ha e) hD
    have hcb:=hc.bump haN
    have hba:(bump c a).getD a 0=1:=by rw [FE,if_pos ⟨rfl,by rw [hc.len]; exact haN⟩,h0]
    cases h with
    | zero =>
      unfold NV
      rw [a1]
      simp only
      rw [if_pos h0]
      have hfold:∀ (vs d Kq:List Nat),(∀ v∈vs,v∈m.vals)→CS N G D Kq d→0<d.getD a 0→(∀ h x,gQ G h x→x≠a→0<d.getD x 0→0<c.getD x 0)→CS N G D (vs.reverse++Kq) (vs.foldl bump d)∧0<(vs.foldl bump d).getD a 0∧(∀ h x,gQ G h x→x≠a→0<(vs.foldl bump d).getD x 0→0<c.getD x 0):=by
       intro vs
       induction vs with
       | nil=>intro d Kq _ h1 h2 h3; exact ⟨by simpa using h1,h2,h3⟩
       | cons v vs ih =>
         intro d Kq hv h1 h2 h3
         have hvN:=hI.vin a m a1 v (hv v (by simp))
         have hvg:=hI.lfv a m a1 a3.1 v (hv v (by simp))
         rw [List.foldl_cons,List.reverse_cons,List.append_assoc]
         refine ih _ _ (fun w hw=>hv w (by simp [hw])) (h1.bump hvN) ?_ ?_
         ·rw [FE]; split<;>omega
         ·intro h' x hx hne hp
          refine h3 h' x hx hne ?_
          rw [FE,if_neg] at hp
          ·exact hp
          ·intro e
           obtain ⟨m',_,b1,_⟩:=hx
           rw [← e.1,hvg] at b1; cases b1
      have hb3:∀ h x,gQ G h x→x≠a→0<(bump c a).getD x 0→0<c.getD x 0:=fun h x _ hne hp=>by
       rwa [FE,if_neg (fun e=>hne e.1.symm)] at hp
      obtain ⟨g1,g2,g3⟩:=hfold m.vals (bump c a) (a::Kp) (fun v hv=>hv) hcb (by omega) hb3
      refine ⟨a::D,CS.fold hI g1 a1 ⟨0,ha⟩ hD (fun e=>by rw [a3.1] at e; cases e) g2,by simp,fun x hx=>List.mem_cons_of_mem _ hx,?_,?_⟩
      ·intro x hx
       rcases List.mem_cons.1 hx with rfl | hx
       ·exact .inr ⟨0,by omega,ha⟩
       ·exact .inl hx
      ·intro h' x hlt hx hp
       by_cases e:x=a
       ·rw [e]; simp
       ·exact List.mem_cons_of_mem _ (hU h' x hlt hx (g3 h' x hx e hp))
    | succ h =>
      unfold NV
      rw [a1]
      simp only
      have hfold:∀ (vs d D1 Kq:List Nat),(∀ v∈vs,v∈m.vals)→CS N G D1 Kq d→mE G (h+1) D1 d→(∀ x∈D,x∈D1)→(∀ x∈D1,x∈D∨∃ h',h'<h+1∧gQ G h' x)→(∀ x,gQ G (h+1) x→d.getD x 0=(bump c a).getD x 0)→∃ D2,CS N G D2 (vs.reverse++Kq) (vs.foldl (fun d v=>if c.getD a 0=0 then NV G h v d else (NV G h v d).set v (d.getD v 0)) d)∧mE G (h+1) D2 (vs.foldl (fun d v=>if c.getD a 0=0 then NV G h v d else (NV G h v d).set v (d.getD v 0)) d)∧(∀ x∈D1,x∈D2)∧(∀ v∈vs,v∈D2)∧(∀ x∈D2,x∈D∨∃ h',h'<h+1∧gQ G h' x)∧(∀ x,gQ G (h+1) x→(vs.foldl (fun d v=>if c.getD a 0=0 then NV G h v d else (NV G h v d).set v (d.getD v 0)) d).getD x 0=(bump c a).getD x 0):=by
       intro vs
       induction vs with
       | nil=>intro d D1 Kq _ h1 h2 h3 h4 h5; exact ⟨D1,by simpa using h1,h2,fun x hx=>hx,by simp,h4,h5⟩
       | cons v vs ih =>
         intro d D1 Kq hv h1 h2 h3 h4 h5
         have hvk:=ha.kid a1 (hv v (by simp))
         obtain ⟨D2,g1,g2,g3,g4,g5⟩:=ABT hI h v d D1 Kq h1 hvk h2
         rw [List.foldl_cons,if_pos h0,List.reverse_cons,List.append_assoc]
         obtain ⟨D3,k1,k2,k3,k4,k5,k6⟩:=ih (NV G h v d) D2 (v::Kq) (fun w hw=>hv w (by simp [hw])) g1 g5 (fun x hx=>g3 x (h3 x hx)) (fun x hx=>by
          rcases g4 x hx with g | g
          ·exact h4 x g
          ·exact .inr g) (fun x hx=>by rw [iH hI hx h v d hvk (by omega)]; exact h5 x hx)
         refine ⟨D3,k1,k2,fun x hx=>k3 x (g3 x hx),fun w hw=>?_,k5,k6⟩
         rcases List.mem_cons.1 hw with rfl | hw
         ·exact k3 _ g2
         ·exact k4 w hw
      have hUb:mE G (h+1) D (bump c a):=fun h' x hlt hx hp=>by
       have hne:a≠x:=fun e=>by subst e; have:=ha.uniq hI hx; omega
       rw [FE,if_neg (fun e=>hne e.1)] at hp
       exact hU h' x (by omega) hx hp
      obtain ⟨D2,g1,g2,g3,g4,g5,g6⟩:=hfold m.vals (bump c a) D (a::Kp) (fun v hv=>hv) hcb hUb (fun x hx=>hx) (fun x hx=>.inl hx) (fun x _=>rfl)
      have hnD2:a∉D2:=fun hx=>by
       rcases g5 a hx with g | ⟨h',hlt,hh⟩
       ·exact hD g
       ·have:=ha.uniq hI hh; omega
      refine ⟨a::D2,CS.fold hI g1 a1 ⟨h+1,ha⟩ hnD2 (fun _ v hv=>g4 v hv) (by rw [g6 a ha,hba]; omega),by simp,fun x hx=>List.mem_cons_of_mem _ (g3 x hx),?_,?_⟩
      ·intro x hx
       rcases List.mem_cons.1 hx with rfl | hx
       ·exact .inr ⟨h+1,by omega,ha⟩
       ·rcases g5 x hx with g | ⟨h',hlt,hh⟩
        ·exact .inl g
        ·exact .inr ⟨h',by omega,hh⟩
      ·intro h' x hlt hx hp
       by_cases e:x=a
       ·rw [e]; simp
       ·rcases Nat.lt_or_ge h' (h+1) with hl | hl
        ·exact List.mem_cons_of_mem _ (g2 h' x hl hx hp)
        ·have:h'=h+1:=by omega
         subst this
         rw [g6 x hx,FE,if_neg (fun q=>e q.1.symm)] at hp
         exact List.mem_cons_of_mem _ (g3 x (hU (h+1) x (by omega) hx hp))
termination_by h=>h
theorem ADF (hI:D0 N T G K) {h a:Nat} (hc:CS N G D Kp c) (ha:gQ G h a) (hU:∀ H,mE G H D c) :
 ∃ D',CS N G D' (a::Kp) (NV G h a c)∧a∈D'∧(∀ x∈D,x∈D')∧∀ H,mE G H D' (NV G h a c):=by
 obtain ⟨D',h1,h2,h3,_,h5⟩:=ABT hI h a c D Kp hc ha (hU (h+1))
 refine ⟨D',h1,h2,h3,fun H h' x hlt hx hp=>?_⟩
 rcases Nat.lt_or_ge h' (h+1) with g | g
 ·exact h5 h' x g hx hp
 ·rw [iH hI hx h a c ha (by omega)] at hp
  exact h3 x (hU (h'+1) h' x (by omega) hx hp)
theorem ACM (hI:D0 N T G K) (hc:CS N G D Kp c) (hK:∀ x,Kp.count x=K.count x) (hr:∀ r∈K,G r≠none→r∈D):c=T.now:=by
 have hall:=u9 (V:=fun x=>x∈D) hI hr fun b n hb hn hl v hv=>hc.clo b hb n hn hl v hv
 have hres:res G D=G:=by
  funext x
  unfold res
  split
  ·rfl
  ·rename_i hx
   cases hg:G x with
   | none=>rfl
   | some n=>exact absurd (hall x n hg) hx
 apply List.ext_getElem?
 intro x
 rcases Nat.lt_or_ge x N with hx | hx
 ·have h1:=hc.cnt x hx
  rw [hI.cnt x hx,← hK x]
  rw [hres,List.getD_eq_getElem?_getD,List.getElem?_eq_getElem (by rw [hc.len]; exact hx)] at h1
  rw [List.getElem?_eq_getElem (by rw [hc.len]; exact hx)]
  simpa using h1
 ·rw [List.getElem?_eq_none (by rw [hc.len]; exact hx),List.getElem?_eq_none (by rw [hI.n1]; exact hx)]
theorem CS.start (hN:2≤N):CS N G [] [0,1] (MT N):=by
 refine ⟨Z6 hN,fun x hx=>?_,by simp,by simp,by simp⟩
 have h0:rf (res G []) x N=0:=by
  have:res G []=fun _=>none:=by funext y; simp [res]
  rw [this]; exact oI
 rw [h0]
 unfold MT
 match x with
 | 0=>simp
 | 1=>simp
 | x+2 =>
   have:(List.replicate (N - 2) 0).getD x 0=0:=by
    rw [List.getD_eq_getElem?_getD,List.getElem?_replicate]; split<;>rfl
   simp only [List.getD_cons_succ,this]
   simp [List.count_cons]
theorem tM (hN:2≤N) (h0:G 0=none) (h1:G 1=none) {H:Nat}:mE G H [] (MT N):=fun h x _ hx hp=>by
 obtain ⟨m,l,a1,_,_⟩:=hx
 match x with
 | 0=>rw [h0] at a1; cases a1
 | 1=>rw [h1] at a1; cases a1
 | x+2 =>
   have:(List.replicate (N - 2) 0).getD x 0=0:=by
    rw [List.getD_eq_getElem?_getD,List.getElem?_replicate]; split<;>rfl
   unfold MT at hp
   simp only [List.getD_cons_succ,this] at hp
   omega
theorem k8 {h B:Nat} {f:List Nat→Nat→List Nat} (hf:∀ v l d B,G9 G h v l→(∀ x,d.getD x 0≤B)→∀ x,(f d v).getD x 0≤B+(h+2)*l.length):∀ {ks vs:List Nat} {l:List KV} {B:Nat} {d:List Nat},CV (G9 G h) ks vs l→(∀ x,d.getD x 0≤B)→∀ x,(vs.foldl f d).getD x 0≤B+(h+2)*l.length:=by
 intro ks vs l B d hk
 induction hk generalizing B d with
 | nil=>intro hB x; simpa using hB x
 | cons a1 a2 a3 a4 ih =>
   intro hB x
   rw [List.foldl_cons]
   have:=ih (hf _ _ _ _ a1 hB) x
   rw [List.length_append,Nat.mul_add]
   omega
theorem V6 {a B:Nat} (hB:∀ x,c.getD x 0≤B) (x:Nat):(bump c a).getD x 0≤B+1:=by
 have:=hB x
 rw [FE]; split<;>omega
theorem tQ:∀ (h a B:Nat) (c:List Nat) (n:Nd) (l:List KV),G a=some n→n.keys≠[]→KE G h n l→(∀ x,c.getD x 0≤B)→∀ x,(NV G h a c).getD x 0≤B+(h+2)*l.length
 | 0,a,B,c,n,l,hn,hk,hb,hB,x=>by
   have hb1:=V6 (a:=a) hB
   have hl:n.keys.length=l.length:=by rw [hb.2.2,List.length_zip,hb.2.1,Nat.min_self]
   have h1:=List.length_pos_iff.2 hk
   unfold NV
   rw [hn]
   simp only
   split
   ·have:∀ (vs:List Nat) (d:List Nat) (B:Nat),(∀ x,d.getD x 0≤B)→(vs.foldl bump d).getD x 0≤B+vs.length:=by
     intro vs
     induction vs with
     | nil=>intro d B hd; simpa using hd x
     | cons v vs ih=>intro d B hd; rw [List.foldl_cons]; have:=ih _ _ (V6 (a:=v) hd); rw [List.length_cons]; omega
    have:=this n.vals _ _ hb1
    rw [hb.2.1] at this
    omega
   ·have:=hb1 x; omega
 | h+1,a,B,c,n,l,hn,hk,hb,hB,x=>by
   have hb1:=V6 (a:=a) hB
   have hl:1≤l.length:=List.length_pos_iff.2 ((KZ hb).2 hk)
   unfold NV
   rw [hn]
   simp only
   have:=k8 (G:=G) (h:=h) (B:=B+1) (d:=bump c a) (f:=fun d v=>if c.getD a 0=0 then NV G h v d else (NV G h v d).set v (d.getD v 0)) (fun v l d B ⟨m,b1,b2,b3⟩ hd x=>by
    have g:=tQ h v B d m l b1 (fun e=>by rw [e] at b2; simp at b2) b3 hd
    split
    ·exact g x
    ·rw [aU]
     split
     ·have:=hd v; omega
     ·exact g x) (IR.1 hb).2 hb1 x
   have e:(h+1+2)*l.length=(h+2)*l.length+l.length:=by rw [show h+1+2=(h+2)+1 by omega,Nat.add_mul,Nat.one_mul]
   omega
end Go.Ax.C
set_option maxRecDepth 100000
namespace Go.Ax.C
open Go.Proofs Go.RowKit
variable {l r r2 m:List AK} {σ:AHeap} {Q:RK}
def ABl (T:TS):Bool :=
 match bN T 0 5 1 with
 | .ok (root,old,had) T1=>had == false && old == 0 && root != 0 && decide (root<1024) && match T1.inc root with
   | .ok _ T2=>match T2.inc 1 with
     | .ok _ T3=>match bN T3 root 5 1 with
       | .ok (other,old,had) T4=>had && old == 1 && other != root && decide (other<1024) && (match C3 5 12 root T4 with
        | .ok (a,b) _=>a == 1 && b
        | _=>false) && match C3 6 12 other T4 with
        | .ok (_,c) _=>!c
        | _=>false
       | _=>false
     | _=>false
   | _=>false
 | _=>false
theorem yK:ABl (TS.new 40)=true:=by decide +kernel
theorem ACm (h:H l σ) (hQ:∀ σ',H l σ'→Q (.ret (.bool true)) σ'):E QZ [] σ Q:=by
 apply j3; unfold XN
 refine ADL (n:=40) (k:=4) h (by omega) (by omega) ?_
 intro xb rb sb σ1 h1
 have hA:=yK
 unfold ABl at hA
 rw [CC,UY,BR]
 refine B7 rfl ?_
 (try simp only [ED,AD,AO,Nat.zero_add])
 rw [Ld h1,AD]
 cases e1:bN (TS.new 40) 0 5 1 with
 | stuck=>rw [e1] at hA; cases hA
 | err e T=>rw [e1] at hA; cases hA
 | ok q T1 =>
 obtain ⟨root,old,had⟩:=q
 rw [e1] at hA
 simp only [Bool.and_eq_true,beq_iff_eq,bne_iff_ne,ne_eq,decide_eq_true_eq] at hA
 obtain ⟨⟨⟨⟨rfl,rfl⟩,hr0⟩,hrl⟩,hA⟩:=hA
 have h1:H (A3 sb rb (TS.new 40) 0::pt xb (.cells [.pointer (some ⟨rb,0,none⟩),.pointer (some ⟨sb,0,none⟩)] AM false)::l) σ1:=h1.perm (.swap _ _ _)
 refine nR (root:=0) (key:=5) (val:=1) h1 (by omega) (by omega) (by omega) (by omega) (by rw [e1]; exact fun h=>by cases h) ?_ ?_
 ·intro e T' σ' _ he; rw [e1] at he; cases he
 intro to old had T' σ2 he h2
 rw [e1] at he
 cases he
 rw [cM,AT,AT,C8,AT]
 refine B7 rfl (B7 rfl (B7 rfl ?_))
 refine AS (fun g=>absurd (by omega) hr0) fun _=>?_
 (try simp only [ED,AD,AO,Nat.zero_add])
 rw [Ld h2,AD]
 refine E1 (root:Int) (by omega) ?_
 cases e2:T1.inc root with
 | stuck=>rw [e2] at hA; cases hA
 | err e T=>rw [e2] at hA; cases hA
 | ok u T2 =>
 rw [e2] at hA
 simp only at hA
 refine wH h2 rfl (by rw [e2]; exact fun h=>by cases h) ?_ ?_
 ·intro e σ' _ he; rw [e2] at he; cases he
 intro T' σ3 he h3
 rw [e2] at he; cases he
 rw [A9]
 refine B7 rfl ?_
 (try simp only [ED,AD,AO,Nat.zero_add])
 rw [Ld h3,AD]
 cases e3:T2.inc 1 with
 | stuck=>rw [e3] at hA; cases hA
 | err e T=>rw [e3] at hA; cases hA
 | ok u T3 =>
 rw [e3] at hA
 simp only at hA
 refine wH (a:=1) h3 rfl (by rw [e3]; exact fun h=>by cases h) ?_ ?_
 ·intro e σ' _ he; rw [e3] at he; cases he
 intro T' σ4 he h4
 rw [e3] at he; cases he
 rw [A9]
 unfold D7
 refine B7 rfl ?_
 (try simp only [ED,AD,AO,Nat.zero_add])
 rw [Ld h4,AD]
 cases e4:bN T3 root 5 1 with
 | stuck=>rw [e4] at hA; cases hA
 | err e T=>rw [e4] at hA; cases hA
 | ok q T4 =>
 obtain ⟨other,old2,had2⟩:=q
 rw [e4] at hA
 simp only [Bool.and_eq_true,beq_iff_eq,bne_iff_ne,ne_eq,decide_eq_true_eq] at hA
 obtain ⟨⟨⟨⟨⟨rfl,rfl⟩,hor⟩,hol⟩,hL1⟩,hL2⟩:=hA
 refine nR (root:=root) (key:=5) (val:=1) h4 (by omega) (by omega) (by omega) (by omega) (by rw [e4]; exact fun h=>by cases h) ?_ ?_
 ·intro e T' σ' _ he; rw [e4] at he; cases he
 intro to old had T' σ5 he h5
 rw [e4] at he
 cases he
 rw [cM,AT,AT,C8,AT]
 (try simp only [ED,AD,AO,Nat.zero_add])
 rw [Ld h5,AD]
 cases e5:C3 5 12 root T4 with
 | stuck=>rw [e5] at hL1; cases hL1
 | err e T=>rw [e5] at hL1; cases hL1
 | ok q T5 =>
 obtain ⟨a,b⟩:=q
 rw [e5] at hL1
 simp only [Bool.and_eq_true,beq_iff_eq] at hL1
 obtain ⟨rfl,rfl⟩:=hL1
 refine fG (root:=root) (key:=5) h5 (by omega) (by omega) (by rw [e5]; exact fun h=>by cases h) ?_ ?_
 ·intro e T' σ' _ he; rw [e5] at he; cases he
 intro v b T' σ6 he h6
 rw [e5] at he
 cases he
 rw [MQ,AT,C8,AT]
 (try simp only [ED,AD,AO,Nat.zero_add])
 rw [Ld h6,AD]
 cases e6:C3 6 12 other T4 with
 | stuck=>rw [e6] at hL2; cases hL2
 | err e T=>rw [e6] at hL2; cases hL2
 | ok q T6 =>
 obtain ⟨a,c⟩:=q
 rw [e6] at hL2
 simp only [Bool.not_eq_true'] at hL2
 subst hL2
 refine fG (root:=other) (key:=6) h6 (by omega) (by omega) (by rw [e6]; exact fun h=>by cases h) ?_ ?_
 ·intro e T' σ' _ he; rw [e6] at he; cases he
 intro v b T' σ7 he h7
 rw [e6] at he
 cases he
 rw [MQ,AT,C8,AT]
 refine G8 rfl (G8 rfl (G8 rfl ?_))
 refine G8 (by simp; omega) ?_
 refine G8 rfl (G8 rfl (G8 rfl (G8 rfl ?_)))
 exact hQ σ7 h7.tail.tail
end Go.Ax.C
set_option maxRecDepth 100000
namespace Go.Ax.C
open Go.Proofs Go.RowKit O
variable {l r r2 m:List AK} {σ:AHeap} {Q:RK}
theorem ABm {sb rb:Nat} {T:TS} {M:Nat} (h:H (A3 sb rb T M::l) σ) {v:Value} (hv:v=.pointer (some ⟨rb,0,none⟩)) (hQ:∀ σ',H (A3 sb rb { T with was:=T.now } M::l) σ'→Q (.ret (.int .i64 0)) σ'):E HJ [v] σ Q:=by
 subst hv
 obtain ⟨cb,dv,K,C,D,hok,h2⟩:=PV.1 h
 have h3:H (YC rb T.now T.was::pt sb (.cells [.pointer (some ⟨rb,0,none⟩),.pointer (some ⟨cb,0,none⟩)] EE false)::CacheA (.pointer (some ⟨cb,0,none⟩)) dv K C::Disk dv D::l) σ:=h2.re
 refine ACS h3 fun σ' h4=>?_
 exact hQ σ' (PV.2 ⟨cb,dv,K,C,D,⟨hok.inv,hok.fly,hok.k,hok.bk⟩,h4.re⟩)
end Go.Ax.C
set_option maxRecDepth 100000
namespace Go.Ax
open Go.Proofs Go.RowKit
theorem Ev.law {P:Program} {f:FuncId} {fn:Func} (hf:P.funcs[f]?=some fn) (hb:fn.body.isNone=false) {args args':List Value} {ρ:List RB} {σ:AHeap} {W:World}
 (hr:CF W.heap.size W ρ σ W) (ha:LR ρ args args') (h:Ev P f args σ fun r _=>r=.ret (.bool true)):Calls P f args'.toArray W fun e w'=>e=.returned (.bool true)∧Below W.heap.size W w':=by
 obtain ⟨fn',h1,h2,h3⟩:=h _ _ _ _ _ hr ha
 rw [hf] at h1; cases h1
 rcases h3 with ⟨_,hc⟩ | ⟨v,v',ρ',σ',w',_,hrun,_⟩
 ·refine hc.mono fun e w' he=>?_
  obtain ⟨r,ρ',σ',hq,hres,_,hr'⟩:=he
  subst hq
  obtain ⟨v',rfl,hv⟩:=hres
  rw [hv.bool_inv]
  exact ⟨rfl,hr'.below⟩
 ·rw [S1 hf h2 hb] at hrun
  simp at hrun
variable {l:List AK} {σ:AHeap}
def AFd (n:Int):Prop:=-9223372036854775808≤n∧n<9223372036854775808
def ADf:List Value→Int→AK:=fun cs n=>HZ (cs=[.int .i64 n]∧AFd n)
def AGg:List Value→Nat→AK:=fun cs n=>HZ (cs=[.int .u64 (n:Nat)]∧n<18446744073709551616)
variable {P:Program}
theorem IW.u64 {t:TypeId} (ht:P.underlying t=some (.int .u64)) (hc:P.cellsOf t=1):IW P t (M:=Nat) AGg:=by
 refine IW.imp Int.toNat (IW.int (P:=P) (t:=t) (k:=.u64) ht hc) ?_
 intro cs m l σ h
 obtain ⟨⟨h1,h2⟩,h⟩:=BK.1 h
 simp [Lit.wf,IntKind.min,IntKind.max,IntKind.signed,IntKind.bits] at h2
 refine BK.2 ⟨⟨?_,by omega⟩,h⟩
 rw [h1,Int.toNat_of_nonneg (by omega)]
theorem IW.i64 {t:TypeId} (ht:P.underlying t=some (.int .i64)) (hc:P.cellsOf t=1):IW P t (M:=Int) ADf:=by
 refine IW.imp id (IW.int (P:=P) (t:=t) (k:=.i64) ht hc) ?_
 intro cs m l σ h
 obtain ⟨⟨h1,h2⟩,h⟩:=BK.1 h
 refine BK.2 ⟨⟨h1,?_⟩,h⟩
 simp [Lit.wf,IntKind.min,IntKind.max,IntKind.signed,IntKind.bits] at h2
 unfold AFd; simp only [id]; omega
theorem IW.rows {t e:TypeId} {M:Type} {A:List Value→M→AK} {z by':Nat} (ht:P.underlying t=some (.slice e)) (hc:P.cellsOf t=1) (hz:P.cellsOf e=z) (hb:P.bytesOf e=by') (h0:0<z) (hE:IW P e A) :
 IW P t (M:=List M) fun cs L=>ex fun v=>sep (HZ (cs=[v])) (dY z by' A v L):=by
 subst hz; subst hb
 exact IW.slice ht hc h0 hE
end Go.Ax
set_option linter.unusedVariables false
set_option maxRecDepth 100000
namespace Go.Ax.C
open Go.Proofs
def OI (N2:Int→AHeap→Prop) (E:BP) (Q:RK) (v135 v137:Value) (n139 n130:Int) (τ140:AHeap):Prop :=
 If (decide (n130<n139)) (
 om (AE 1 v137 (.int .i64 n130)) fun v148 =>
 A2 .i64 (AF false 1 v148 τ140) fun n149 =>
 om (B5 v135) fun v154 =>
 om (AA 0 v154) fun v155 =>
 om (AF false 1 v155 τ140) fun v156 =>
 E EN [v156,(.int .i64 n130)] τ140 (cI Q .i64 fun n159 τ158 =>
 If (!decide (n159=n149)) (
 Q (.ret (.bool false)) τ158) (
 Bi (FC (n130+1)) fun n167 =>
 N2 n167 τ158))) (
 Q (.ret (.bool true)) τ140)
def F6 (E:BP) (Q:RK) (v112 v113 v114:Value) (n115:Int) (τ111:AHeap):Prop :=
 E VP [v112,v113,v114,(.int .i64 n115)] τ111 (c2 Q fun v117 v118 τ116 =>
 tB (fun c119 =>
 If (!c119) (
 Q (.ret (.bool false)) τ116) (
 A2 .i64 (BH v117) fun n128 =>
 ∃ I169:Nat→Int→AHeap→Prop,(∃ m,I169 m 0 τ116)∧∀ m (n130:Int) (σ':AHeap),I169 m n130 σ'→(OI (fun n130 σ'=>∃ m',m'<m∧I169 m' n130 σ') E Q v112 v117 n128 n130 σ'))) v118)
def GD (N3:Int→AHeap→Prop) (E:BP) (Q:RK) (v482:Value) (n485:Int) (v488:Value) (b495:Nat) (n501 n510 n518 n531 n536:Int) (v538 v545:Value) (n549 n553:Int) (τ479:AHeap):Prop :=
 om (AE 1 v488 (.int .i64 n485)) fun v489 =>
 om (AF false 1 v489 τ479) fun v490 =>
 A2 .u64 (L b495 1 τ479) fun n496 =>
 Bi (HW (n496+n501)) fun n502 =>
 Bi (HW (n518)) fun n519 =>
 om (AE 1 v482 (.int .i64 n485)) fun v520 =>
 pu (AP 1 v520 (.int .u64 n510) τ479) fun τ521 =>
 A2 .u64 (L b495 1 τ521) fun n522 =>
 AX (.int .u64 n522) (.int .u64 n496)=true∧Bi (HW (n518)) fun n523 =>
 AX (.int .u64 n523) (.int .u64 n519)=true∧pu (MD P AI v490 (.int .u64 n502) τ521) fun r524 =>
 Bi (HW (n518)) fun n525 =>
 AX (.int .u64 n525) (.int .u64 n519)=true∧A2 .i64 (QX r524.1 1) fun n526 =>
 pu (HA v490 (.int .i64 n526) (.int .u64 n519) r524.2) fun τ527 =>
 Bi (HW (n531+1)) fun n533 =>
 N3 n533 τ527
def IX (N3:Int→AHeap→Prop) (E:BP) (Q:RK) (c430:Bool) (n433:Int) (v436 v439 v441:Value) (n443:Int) (v446:Value) (n449 n452 n455:Int) (c457:Bool) (n470:Int) (b492:Nat) (n498 n507 n515:Int) (τ429:AHeap):Prop :=
 If c430 (
 Q (.ret (.bool false)) τ429) (
 If c457 (
 om (B5 v436) fun v463 =>
 om (AA 0 v463) fun v464 =>
 om (AF false 1 v464 τ429) fun v465 =>
 Bi (FC (n470)) fun n473 =>
 E DY [v465,(.int .i64 n473)] τ429 (c2 Q fun v475 v477 τ474 =>
 tB (fun c476 =>
 tI .i64 (fun n478 =>
 (GD N3 E Q v439 n443 v441 b492 n498 n507 n515 n455 n433 v436 v446 n449 n452 τ474)) v477) v475)) (
 (GD N3 E Q v439 n443 v441 b492 n498 n507 n515 n455 n433 v436 v446 n449 n452 τ429)))
def BM (N1:Value→Value→Int→Int→AHeap→Prop) (E:BP) (Q:RK) (n557 n559:Int) (v560 v561 v562:Value) (n563:Int) (τ556:AHeap):Prop :=
 Bi (FC (n557+1)) fun n558 =>
 N1 v561 v562 n563 n558 τ556
def GT (N1:Value→Value→Int→Int→AHeap→Prop) (N3:Int→AHeap→Prop) (E:BP) (Q:RK) (n206:Int) (v215 v224 v233:Value) (n242:Int) (b245:Nat) (v256:Value) (n269 n278 n280 n197:Int) (τ281:AHeap):Prop :=
 If (decide (n197<n280)) (
 om (B5 v215) fun v291 =>
 om (AA 0 v291) fun v292 =>
 om (AF false 1 v292 τ281) fun v293 =>
 E EQ [v293] τ281 (c2 Q fun v295 v297 τ294 =>
 tI .i64 (fun n296 =>
 tI .i64 (fun n298 =>
 If (!decide (n298=0)) (
 Q (.ret (.bool (decide (n298=8)))) τ294) (
 om (B5 v215) fun v346 =>
 om (AA 1 v346) fun v347 =>
 om (AF false 1 v347 τ294) fun v348 =>
 om (AE 1 v224 (.int .i64 n242)) fun v351 =>
 A2 .u64 (AF false 1 v351 τ294) fun n352 =>
 A2 .u64 (L b245 1 τ294) fun n359 =>
 Bi (HW (n359+n197)) fun n364 =>
 Bi (HW (n296)) fun n368 =>
 E JS [v348,(.int .u64 n352),(.int .u64 n364),(.int .u64 n368)] τ294 (c4 Q fun v370 v372 v374 v376 τ369 =>
 tI .u64 (fun n371 =>
 tI .u64 (fun n373 =>
 tB (fun c375 =>
 tI .i64 (fun n377 =>
 If (!decide (n377=0)) (
 Q (.ret (.bool (decide (n377=8)))) τ369) (
 om (AE 1 v233 (.int .i64 n242)) fun v410 =>
 om (AF false 1 v410 τ369) fun v411 =>
 A2 .u64 (L b245 1 τ369) fun n415 =>
 Bi (HW (n415+n197)) fun n419 =>
 om (EL P AI v411 (.int .u64 n419) true τ369) fun v420 =>
 A2 .u64 (QX v420 0) fun n421 =>
 DF (QX v420 1) fun c422 =>
 If (!(c375 == c422)) (
 (IX N3 E Q true n206 v215 v224 v233 n242 v256 n269 n278 n197 c375 n373 b245 n197 n371 n296 τ369)) (
 (IX N3 E Q (!decide (n373=n421)) n206 v215 v224 v233 n242 v256 n269 n278 n197 c375 n373 b245 n197 n371 n296 τ369)))) v376) v374) v372) v370))) v297) v295)) (
 (BM N1 E Q n278 n206 v215 v224 v233 n242 τ281))
def EI (N1:Value→Value→Int→Int→AHeap→Prop) (E:BP) (Q:RK) (n195 n204:Int) (v213 v222 v231:Value) (n240:Int) (b243:Nat) (v254:Value) (n267 n276:Int) (τ194:AHeap):Prop :=
 ∃ I564:Nat→Int→AHeap→Prop,(∃ m,I564 m 0 τ194)∧∀ m (n197:Int) (σ':AHeap),I564 m n197 σ'→(GT N1 (fun n197 σ'=>∃ m',m'<m∧I564 m' n197 σ') E Q n204 v213 v222 v231 n240 b243 v254 n267 n276 n195 n197 σ')
def FZ (N1:Value→Value→Int→Int→AHeap→Prop) (E:BP) (Q:RK) (v690:Value) (n691 n700 n706 n710:Int) (v712 v713:Value) (τ686:AHeap):Prop :=
 om (AE 1 v690 (.int .i64 n691)) fun v701 =>
 pu (AP 1 v701 (.int .u64 n700) τ686) fun τ702 =>
 (BM N1 E Q n706 n710 v712 v690 v713 n691 τ702)
def DC (N1:Value→Value→Int→Int→AHeap→Prop) (E:BP) (Q:RK) (c630:Bool) (n633:Int) (v636 v639 v641:Value) (n643 n646:Int) (c648:Bool) (n661:Int) (b680:Nat) (n696:Int) (τ629:AHeap):Prop :=
 If c630 (
 Q (.ret (.bool false)) τ629) (
 If c648 (
 om (B5 v636) fun v654 =>
 om (AA 0 v654) fun v655 =>
 om (AF false 1 v655 τ629) fun v656 =>
 Bi (FC (n661)) fun n664 =>
 E DY [v656,(.int .i64 n664)] τ629 (c2 Q fun v666 v668 τ665 =>
 tB (fun c667 =>
 tI .i64 (fun n669 =>
 om (AE 1 v641 (.int .i64 n643)) fun v677 =>
 om (AF false 1 v677 τ665) fun v678 =>
 A2 .u64 (L b680 1 τ665) fun n684 =>
 pu (M8 P AI v678 (.int .u64 n684) τ665) fun τ685 =>
 (FZ N1 E Q v639 n643 n696 n646 n633 v636 v641 τ685)) v668) v666)) (
 (FZ N1 E Q v639 n643 n696 n646 n633 v636 v641 τ629)))
def F0 (N1:Value→Value→Int→Int→AHeap→Prop) (E:BP) (Q:RK) (c752:Bool) (n756:Int) (v759 v762 v764:Value) (n766 n770:Int) (τ751:AHeap):Prop :=
 If c752 (
 Q (.ret (.bool false)) τ751) (
 (BM N1 E Q n770 n756 v759 v762 v764 n766 τ751))
def OG (N1:Value→Value→Int→Int→AHeap→Prop) (N4:AHeap→Prop) (E:BP) (Q:RK) (n811:Int) (v815 v819 v821:Value) (n823:Int) (v826 v833:Value) (n840 n845:Int) (v847:Value) (τ848:AHeap):Prop :=
 pu (SP v847 τ848) fun l849 =>
 ∀ r850∈l849,
 DF (QX r850.1 0) fun c851 =>
 If c851 (
 om (VF v847 r850.2) fun v857 =>
 A2 .u64 (QX v857 0) fun n858 =>
 A2 .u64 (QX v857 1) fun n859 =>
 pu (FL P AI v826 (.int .u64 n858) (.int .u64 n859) r850.2) fun τ866 =>
 N4 τ866) (
 om (AE 1 v819 (.int .i64 n823)) fun v894 =>
 A2 .u64 (AF false 1 v894 r850.2) fun n895 =>
 BE r850.2 (.cells [(.int .u64 n895)] AJ false) fun b896 τ897 =>
 pu (BZ AJ 1 8 v819 (.slice (some ⟨b896,0,none⟩) 1 1) τ897) fun r898 =>
 On v826 (
 BE r898.2 (.cells [v826] AI false) fun b901 τ902 =>
 pu (BZ AI 1 8 v821 (.slice (some ⟨b901,0,none⟩) 1 1) τ902) fun r903 =>
 (BM N1 E Q n845 n811 v815 r898.1 r903.1 n823 r903.2)))
def DE (N1:Value→Value→Int→Int→AHeap→Prop) (E:BP) (Q:RK) (c795:Bool) (v799:Value) (n801 n808:Int) (v812 v816 v830:Value) (n837 n842:Int) (τ794:AHeap):Prop :=
 If c795 (
 pu (JU P AI none τ794) fun r796 =>
 om (AE 1 v799 (.int .i64 n801)) fun v803 =>
 om (AF false 1 v803 r796.2) fun v804 =>
 pu (X0 P AI v804 r796.2) fun r805 =>
 ∃ I907:Nat→AHeap→Prop,(∃ m,I907 m r805.2)∧∀ m (σ':AHeap),I907 m  σ'→(OG N1 (fun  σ'=>∃ m',m'<m∧I907 m'  σ') E Q n808 v812 v816 v799 n801 r796.1 v830 n837 n842 r805.1  σ')) (
 (BM N1 E Q n842 n808 v812 v816 v799 n801 τ794))
def BI (N1:Value→Value→Int→Int→AHeap→Prop) (E:BP) (Q:RK) (c181:Bool) (b185:Nat) (n201:Int) (v210 v219 v228:Value) (n237:Int) (v251:Value) (n264 n273 n569:Int) (τ180:AHeap):Prop :=
 If c181 (
 A2 .i64 (L b185 0 τ180) fun n187 =>
 If (decide (n187=6)) (
 A2 .u64 (L b185 2 τ180) fun n191 =>
 Bi (Int.tmod n191 40) fun n192 =>
 Bi (HW (1+n192)) fun n193 =>
 (EI N1 E Q n193 n201 v210 v219 v228 n237 b185 v251 n264 n273 τ180)) (
 (EI N1 E Q 1 n201 v210 v219 v228 n237 b185 v251 n264 n273 τ180))) (
 If (decide (n569=1)) (
 om (B5 v210) fun v573 =>
 om (AA 1 v573) fun v574 =>
 om (AF false 1 v574 τ180) fun v575 =>
 om (AE 1 v219 (.int .i64 n237)) fun v578 =>
 A2 .u64 (AF false 1 v578 τ180) fun n579 =>
 A2 .u64 (L b185 1 τ180) fun n581 =>
 E Q6 [v575,(.int .u64 n579),(.int .u64 n581)] τ180 (c4 Q fun v583 v585 v587 v589 τ582 =>
 tI .u64 (fun n584 =>
 tI .u64 (fun n586 =>
 tB (fun c588 =>
 tI .i64 (fun n590 =>
 If (!decide (n590=0)) (
 Q (.ret (.bool (decide (n590=8)))) τ582) (
 om (AE 1 v228 (.int .i64 n237)) fun v614 =>
 om (AF false 1 v614 τ582) fun v615 =>
 A2 .u64 (L b185 1 τ582) fun n619 =>
 om (EL P AI v615 (.int .u64 n619) true τ582) fun v620 =>
 A2 .u64 (QX v620 0) fun n621 =>
 DF (QX v620 1) fun c622 =>
 If (!(c588 == c622)) (
 isSkip C7=true∧(DC N1 E Q true n201 v210 v219 v228 n237 n273 c588 n586 b185 n584 τ582)) (
 If (!decide (n586=n621)) (
 isSkip C7=true∧(DC N1 E Q true n201 v210 v219 v228 n237 n273 c588 n586 b185 n584 τ582)) (
 If (!c588) (
 om (AE 1 v219 (.int .i64 n237)) fun v715 =>
 A2 .u64 (AF false 1 v715 τ582) fun n716 =>
 (DC N1 E Q (!decide (n584=n716)) n201 v210 v219 v228 n237 n273 c588 n586 b185 n584 τ582)) (
 (DC N1 E Q false n201 v210 v219 v228 n237 n273 c588 n586 b185 n584 τ582)))))) v589) v587) v585) v583)) (
 If (decide (n569=2)) (
 om (B5 v210) fun v721 =>
 om (AA 1 v721) fun v722 =>
 om (AF false 1 v722 τ180) fun v723 =>
 om (AE 1 v219 (.int .i64 n237)) fun v726 =>
 A2 .u64 (AF false 1 v726 τ180) fun n727 =>
 A2 .u64 (L b185 1 τ180) fun n729 =>
 E H3 [v723,(.int .u64 n727),(.int .u64 n729)] τ180 (c3 Q fun v731 v733 v735 τ730 =>
 tI .u64 (fun n732 =>
 tB (fun c734 =>
 tI .i64 (fun n736 =>
 om (AE 1 v228 (.int .i64 n237)) fun v741 =>
 om (AF false 1 v741 τ730) fun v742 =>
 A2 .u64 (L b185 1 τ730) fun n744 =>
 om (EL P AI v742 (.int .u64 n744) true τ730) fun v745 =>
 A2 .u64 (QX v745 0) fun n746 =>
 DF (QX v745 1) fun c747 =>
 If (!decide (n736=0)) (
 (F0 N1 E Q true n201 v210 v219 v228 n237 n273 τ730)) (
 If (!(c734 == c747)) (
 (F0 N1 E Q true n201 v210 v219 v228 n237 n273 τ730)) (
 (F0 N1 E Q (!decide (n732=n746)) n201 v210 v219 v228 n237 n273 τ730)))) v735) v733) v731)) (
 If (decide (n569=3)) (
 om (AE 1 v219 (.int .i64 n237)) fun v782 =>
 A2 .u64 (AF false 1 v782 τ180) fun n783 =>
 If (!decide (n783=0)) (
 A2 .i64 (BH v219) fun n784 =>
 If (decide (n784<8)) (
 om (B5 v210) fun v786 =>
 om (AA 0 v786) fun v787 =>
 om (AF false 1 v787 τ180) fun v788 =>
 om (AE 1 v219 (.int .i64 n237)) fun v789 =>
 A2 .u64 (AF false 1 v789 τ180) fun n790 =>
 Bi (FC (n790)) fun n791 =>
 E EU [v788,(.int .i64 n791)] τ180 (cI Q .i64 fun n793 τ792 =>
 (DE N1 E Q (decide (n793=0)) v228 n237 n201 v210 v219 v251 n264 n273 τ792))) (
 (DE N1 E Q false v228 n237 n201 v210 v219 v251 n264 n273 τ180))) (
 (DE N1 E Q false v228 n237 n201 v210 v219 v251 n264 n273 τ180))) (
 If (decide (n569=4)) (
 A2 .u64 (L b185 2 τ180) fun n913 =>
 A2 .i64 (BH v219) fun n915 =>
 Bi (HW (n915)) fun n916 =>
 A2 .u64 (BF (some (.int .u64)) .rem (.int .u64 n913) (.int .u64 n916)) fun n917 =>
 Bi (FC (n917)) fun n918 =>
 (BM N1 E Q n273 n201 v210 v219 v228 n918 τ180)) (
 If (decide (n569=5)) (
 om (B5 v210) fun v927 =>
 om (AA 0 v927) fun v928 =>
 om (AF false 1 v928 τ180) fun v929 =>
 E HJ [v929] τ180 (cI Q .i64 fun n931 τ930 =>
 (BM N1 E Q n273 n201 v210 v219 v228 n237 τ930))) (
 (BM N1 E Q n273 n201 v210 v219 v228 n237 τ180)))))))
def OH (N1:Value→Value→Int→Int→AHeap→Prop) (E:BP) (Q:RK) (n57:Int) (v62 v64:Value) (n66:Int) (v48 v49:Value) (n50 n51:Int) (τ67:AHeap):Prop :=
 If (decide (n51<n66)) (
 om (AE 3 v64 (.int .i64 n51)) fun v75 =>
 om (AA 0 v75) fun v76 =>
 A2 .i64 (AF false 1 v76 τ67) fun n77 =>
 om (AA 1 v75) fun v78 =>
 A2 .u64 (AF false 1 v78 τ67) fun n79 =>
 om (AA 2 v75) fun v80 =>
 A2 .u64 (AF false 1 v80 τ67) fun n81 =>
 BE τ67 (.cells [(.int .i64 0),(.int .u64 0),(.int .u64 0)] BJ false) fun b82 τ83 =>
 pu (AP 3 (.pointer (some ⟨b82,0,none⟩)) (.agg #[(.int .i64 n77),(.int .u64 n79),(.int .u64 n81)]) τ83) fun τ84 =>
 If (decide (n51=120)) (
 (F6 E Q v62 v48 v49 n57 τ84)) (
 A2 .i64 (L b82 0 τ84) fun n175 =>
 If (decide (n175=0)) (
 (BI N1 E Q (decide (n175=0)) b82 n57 v62 v48 v49 n50 v64 n66 n51 n175 τ84)) (
 (BI N1 E Q (decide (n175=6)) b82 n57 v62 v48 v49 n50 v64 n66 n51 n175 τ84)))) (
 (F6 E Q v62 v48 v49 n57 τ67))
def RJ (E:BP) (Q:RK) (x0 x1:Int) (x2:Value) (σ:AHeap):Prop :=
 E QZ [] σ (cB Q fun c3 τ2 =>
 If (!c3) (
 Q (.ret (.bool false)) τ2) (
 Bi (HW (x0)) fun n10 =>
 Bi (Int.tmod n10 340) fun n11 =>
 Bi (FC (n11)) fun n12 =>
 Bi (FC (60+n12)) fun n13 =>
 Bi (HW (x1)) fun n17 =>
 Bi (Int.tmod n17 12) fun n18 =>
 Bi (FC (n18)) fun n19 =>
 Bi (FC (1+n19)) fun n20 =>
 E OK [(.int .i64 n13),(.int .i64 n20)] τ2 (cV Q fun v25 τ24 =>
 DF (BF (some (.pointer AM)) .eql v25 (.pointer none)) fun c28 =>
 If c28 (
 Q (.ret (.bool false)) τ24) (
 BE τ24 (.cells [(.int .u64 0)] AJ false) fun b32 τ33 =>
 pu (JU P AI none τ33) fun r34 =>
 On r34.1 (
 BE r34.2 (.cells [r34.1] AI false) fun b35 τ36 =>
 A2 .i64 (BH x2) fun n46 =>
 ∃ I938:Nat→Value→Value→Int→Int→AHeap→Prop,(∃ m,I938 m (.slice (some ⟨b32,0,none⟩) 1 1) (.slice (some ⟨b35,0,none⟩) 1 1) 0 0 τ36)∧∀ m (v48:Value) (v49:Value) (n50:Int) (n51:Int) (σ':AHeap),I938 m v48 v49 n50 n51 σ'→(OH (fun v48 v49 n50 n51 σ'=>∃ m',m'<m∧I938 m' v48 v49 n50 n51 σ') E Q n13 v25 x2 n46 v48 v49 n50 n51 σ'))))))
theorem bL {Q:RK} {x0 x1:Int} {x2:Value} {σ:AHeap} (h:RJ E Q x0 x1 x2 σ):E R4 [(.int .i64 x0),(.int .i64 x1),x2] σ Q :=
 B0 Tryz.func5 (hl [(3,.loopr [0,7,61,62] [8,9,10,63] [0,6,7,8,9] [0,6,7,8,9,10,63]),(12,.loopr [0,7,8,9,10,12,61,62,63,82] [83] [0,6,7,8,9,10,61,62,63] [0,6,7,8,9,10,61,62,63,83]),(16,.ord (il 0 24)),(18,.ord (il 0 14)),(21,.ord (il 0 14++[(14,[7,12]),(15,[12]),(16,[]),(17,[])])),(23,.ord (il 0 20)),(25,.ord (il 0 12)),(28,.ord (il 0 7)),(30,.ord (il 0 18)),(31,.ord (il 0 12)),(34,.ord (il 0 23)),(37,.loopr [0,7,8,9,10,34,61,62,63,306] [] [0,7,8,9,10,34,61,62,63] [0,7,8,9,10,34,61,62,63]),(44,.loopr [7,353,354] [355] [6] [6,355])]) (fun | 10=>(.i .i64) | 63=>(.i .i64) | 83=>(.i .u64) | 355=>(.i .i64) | _=>.v) (by kernel_rfl) (Eq.mpr (by kernel_rfl) h)
def J0 (N1:Int→AHeap→Prop) (E:BP) (Q:RK) (n68:Int) (v70:Value) (τ67:AHeap):Prop :=
 Bi (FC (n68+1)) fun n69 =>
 N1 n69 τ67
def N6 (N1:Int→AHeap→Prop) (E:BP) (Q:RK) (c104:Bool) (v106:Value) (n110:Int) (τ103:AHeap):Prop :=
 If c104 (
 Q (.ret (.tuple #[(.slice none 0 0),(.bool false)])) τ103) (
 (J0 N1 E Q n110 v106 τ103))
def U3 (N1:Int→AHeap→Prop) (E:BP) (Q:RK) (b21:Nat) (v26 v29 v31:Value) (n33 n16:Int) (τ34:AHeap):Prop :=
 If (decide (n16<n33)) (
 om (AE 1 v31 (.int .i64 n16)) fun v42 =>
 A2 .u64 (AF false 1 v42 τ34) fun n43 =>
 If (decide (n43=0)) (
 om (AE 1 v26 (.int .i64 n16)) fun v54 =>
 om (AF false 1 v54 τ34) fun v55 =>
 A2 .i64 (tR v55 τ34) fun n56 =>
 If (!decide (n56=0)) (
 Q (.ret (.tuple #[(.slice none 0 0),(.bool false)])) τ34) (
 (J0 N1 E Q n16 v29 τ34))) (
 BE τ34 (.cells [(.int .i64 0)] BQ false) fun b72 τ73 =>
 St b72 0 (.int .i64 0) τ73 fun τ74 =>
 om (AE 1 v26 (.int .i64 n16)) fun v91 =>
 om (AF false 1 v91 τ74) fun v92 =>
 E GG [(.pointer (some ⟨b21,0,none⟩)),(.int .u64 n43),(.int .i64 0),v29,v92,(.pointer (some ⟨b72,0,none⟩))] τ74 (c3 Q fun v95 v97 v99 τ94 =>
 tI .i64 (fun n96 =>
 tI .u64 (fun n98 =>
 tB (fun c100 =>
 If (!c100) (
 (N6 N1 E Q true v29 n16 τ94)) (
 A2 .i64 (L b72 0 τ94) fun n112 =>
 om (AE 1 v26 (.int .i64 n16)) fun v115 =>
 om (AF false 1 v115 τ94) fun v116 =>
 A2 .i64 (tR v116 τ94) fun n117 =>
 (N6 N1 E Q (!decide (n112=n117)) v29 n16 τ94))) v99) v97) v95))) (
 Q (.ret (.tuple #[v29,(.bool true)])) τ34)
def dM (E:BP) (Q:RK) (x0:Nat) (x1 x2:Value) (x3:Int) (σ:AHeap):Prop :=
 pu (PC BQ 8 [(.int .i64 0)] (.int .i64 x3) (.int .i64 x3) σ) fun r3 =>
 om (AE 1 r3.1 (.int .i64 0)) fun v6 =>
 pu (AP 1 v6 (.int .i64 1) r3.2) fun τ7 =>
 om (AE 1 r3.1 (.int .i64 1)) fun v8 =>
 pu (AP 1 v8 (.int .i64 1) τ7) fun τ9 =>
 A2 .i64 (BH x1) fun n14 =>
 ∃ I120:Nat→Int→AHeap→Prop,(∃ m,I120 m 0 τ9)∧∀ m (n16:Int) (σ':AHeap),I120 m n16 σ'→(U3 (fun n16 σ'=>∃ m',m'<m∧I120 m' n16 σ') E Q x0 x2 r3.1 x1 n14 n16 σ')
theorem qH {Q:RK} {x0:Nat} {x1 x2:Value} {x3:Int} {σ:AHeap} (h:dM E Q x0 x1 x2 x3 σ):E VP [(.pointer (some ⟨x0,0,none⟩)),x1,x2,(.int .i64 x3)] σ Q :=
 B0 Tryz.func32 (hl [(1,.loopr [0,2,10,23,24] [25] [8,9,10] [8,9,10,25]),(6,.ord (il 0 11))]) (fun | 25=>(.i .i64) | _=>.v) (by kernel_rfl) (Eq.mpr (by kernel_rfl) h)
def FA (N1:Int→Int→AHeap→Prop) (E:BP) (Q:RK) (n233:Int) (b235:Nat) (n239:Int) (τ229:AHeap):Prop :=
 Bi (FC (n233+1)) fun n234 =>
 N1 n239 n234 τ229
def JC (N1:Int→Int→AHeap→Prop) (E:BP) (Q:RK) (c161:Bool) (b164:Nat) (n168 n172:Int) (b181:Nat) (c194:Bool) (v206:Value) (n218:Int) (τ160:AHeap):Prop :=
 If c161 (
 Q (.ret (.tuple #[(.int .i64 0),(.int .u64 0),(.bool false)])) τ160) (
 A2 .i64 (L b181 0 τ160) fun n183 =>
 Bi (FC (n183+1)) fun n184 =>
 St b181 0 (.int .i64 n184) τ160 fun τ185 =>
 If c194 (
 om (L b164 2 τ185) fun v213 =>
 om (AE 1 v213 (.int .i64 n218)) fun v222 =>
 A2 .u64 (AF false 1 v222 τ185) fun n223 =>
 om (AE 1 v206 (.int .u64 n223)) fun v224 =>
 A2 .i64 (AF false 1 v224 τ185) fun n225 =>
 Bi (FC (n225+1)) fun n226 =>
 om (AE 1 v206 (.int .u64 n223)) fun v227 =>
 pu (AP 1 v227 (.int .i64 n226) τ185) fun τ228 =>
 (FA N1 E Q n172 b164 n168 τ228)) (
 (FA N1 E Q n172 b164 n168 τ185)))
def FB (N1:Int→Int→AHeap→Prop) (E:BP) (Q:RK) (c337:Bool) (b339:Nat) (n347 n355 n360:Int) (τ336:AHeap):Prop :=
 If c337 (
 Q (.ret (.tuple #[(.int .i64 0),(.int .u64 0),(.bool false)])) τ336) (
 (FA N1 E Q n355 b339 n360 τ336))
def JE (N1:Int→Int→AHeap→Prop) (E:BP) (Q:RK) (c335:Bool) (b338:Nat) (n346 n354 n359 n366 n373 n374:Int) (τ332:AHeap):Prop :=
 If (!c335) (
 isSkip C7=true∧(FB N1 E Q true b338 n346 n354 n359 τ332)) (
 If (!decide (n366=n373)) (
 isSkip C7=true∧(FB N1 E Q true b338 n346 n354 n359 τ332)) (
 If (decide (0<n374)) (
 (FB N1 E Q (!decide (n359=n346)) b338 n346 n354 n359 τ332)) (
 (FB N1 E Q false b338 n346 n354 n359 τ332))))
def JF (N1:Int→Int→AHeap→Prop) (E:BP) (Q:RK) (b279 b280:Nat) (n282 n294:Int) (v296 v300:Value) (b304:Nat) (c314:Bool) (n327 n343 n351 n370:Int) (τ269:AHeap):Prop :=
 om (L b280 2 τ269) fun v281 =>
 om (AE 1 v281 (.int .i64 n282)) fun v283 =>
 A2 .u64 (AF false 1 v283 τ269) fun n284 =>
 Bi (FC (n294+1)) fun n295 =>
 E GG [(.pointer (some ⟨b279,0,none⟩)),(.int .u64 n284),(.int .i64 n295),v296,v300,(.pointer (some ⟨b304,0,none⟩))] τ269 (c3 Q fun v306 v308 v310 τ305 =>
 tI .i64 (fun n307 =>
 tI .u64 (fun n309 =>
 tB (fun c311 =>
 If (!c314) (
 om (L b280 2 τ305) fun v322 =>
 om (AE 1 v322 (.int .i64 n282)) fun v325 =>
 A2 .u64 (AF false 1 v325 τ305) fun n326 =>
 om (AE 1 v296 (.int .u64 n326)) fun v330 =>
 pu (AP 1 v330 (.int .i64 n327) τ305) fun τ331 =>
 (JE N1 E Q c311 b280 n343 n351 n307 n309 n370 n282 τ331)) (
 (JE N1 E Q c311 b280 n343 n351 n307 n309 n370 n282 τ305))) v310) v308) v306)
def FD (N1:Int→Int→AHeap→Prop) (E:BP) (Q:RK) (c133:Bool) (b134:Nat) (n138 n140:Int) (v149:Value) (n152:Int) (b177:Nat) (c190:Bool) (v202:Value) (n214:Int) (b273:Nat) (n288:Int) (τ132:AHeap):Prop :=
 If c133 (
 Q (.ret (.tuple #[(.int .i64 0),(.int .u64 0),(.bool false)])) τ132) (
 DF (L b134 0 τ132) fun c143 =>
 If c143 (
 om (EL P AI v149 (.int .u64 n152) true τ132) fun v155 =>
 A2 .u64 (QX v155 0) fun n156 =>
 DF (QX v155 1) fun c157 =>
 If (!c157) (
 (JC N1 E Q true b134 n138 n140 b177 c190 v202 n214 τ132)) (
 om (L b134 2 τ132) fun v241 =>
 om (AE 1 v241 (.int .i64 n214)) fun v242 =>
 A2 .u64 (AF false 1 v242 τ132) fun n243 =>
 If (!decide (n156=n243)) (
 (JC N1 E Q true b134 n138 n140 b177 c190 v202 n214 τ132)) (
 om (L b134 2 τ132) fun v244 =>
 om (AE 1 v244 (.int .i64 n214)) fun v245 =>
 A2 .u64 (AF false 1 v245 τ132) fun n246 =>
 A2 .i64 (BH v202) fun n247 =>
 Bi (HW (n247)) fun n248 =>
 (JC N1 E Q (decide (n248≤n246)) b134 n138 n140 b177 c190 v202 n214 τ132)))) (
 If (!c190) (
 om (L b134 2 τ132) fun v261 =>
 om (AE 1 v261 (.int .i64 n214)) fun v265 =>
 A2 .u64 (AF false 1 v265 τ132) fun n266 =>
 om (AE 1 v202 (.int .u64 n266)) fun v267 =>
 A2 .i64 (AF false 1 v267 τ132) fun n268 =>
 (JF N1 E Q b273 b134 n214 n288 v202 v149 b177 c190 n268 n138 n140 n152 τ132)) (
 (JF N1 E Q b273 b134 n214 n288 v202 v149 b177 c190 0 n138 n140 n152 τ132))))
def OD (N1:Int→Int→AHeap→Prop) (E:BP) (Q:RK) (b58:Nat) (n69:Int) (v76 v87:Value) (b98:Nat) (c105:Bool) (b107:Nat) (v109:Value) (n111 n51 n52:Int) (τ112:AHeap):Prop :=
 If (decide (n52<n111)) (
 om (AE 1 v109 (.int .i64 n52)) fun v120 =>
 A2 .u64 (AF false 1 v120 τ112) fun n121 =>
 If (decide (0<n52)) (
 om (L b107 1 τ112) fun v128 =>
 Bi (FC (n52 - 1)) fun n129 =>
 om (AE 1 v128 (.int .i64 n129)) fun v130 =>
 A2 .u64 (AF false 1 v130 τ112) fun n131 =>
 (FD N1 E Q (decide (n121≤n131)) b107 n51 n52 v87 n121 b98 c105 v76 n52 b58 n69 τ112)) (
 (FD N1 E Q false b107 n51 n52 v87 n121 b98 c105 v76 n52 b58 n69 τ112))) (
 Bi (FC (n51+1)) fun n379 =>
 om (L b107 1 τ112) fun v381 =>
 om (AE 1 v381 (.int .i64 0)) fun v382 =>
 A2 .u64 (AF false 1 v382 τ112) fun n383 =>
 Q (.ret (.tuple #[(.int .i64 n379),(.int .u64 n383),(.bool true)])) τ112)
def BL (E:BP) (Q:RK) (c41:Bool) (b45 b54:Nat) (n65:Int) (v72 v83:Value) (b94:Nat) (c101:Bool) (τ40:AHeap):Prop :=
 If c41 (
 Q (.ret (.tuple #[(.int .i64 0),(.int .u64 0),(.bool false)])) τ40) (
 om (L b45 1 τ40) fun v48 =>
 A2 .i64 (BH v48) fun n49 =>
 ∃ I384:Nat→Int→Int→AHeap→Prop,(∃ m,I384 m 0 0 τ40)∧∀ m (n51:Int) (n52:Int) (σ':AHeap),I384 m n51 n52 σ'→(OD (fun n51 n52 σ'=>∃ m',m'<m∧I384 m' n51 n52 σ') E Q b54 n65 v72 v83 b94 c101 b45 v48 n49 n51 n52 σ'))
def OB (E:BP) (Q:RK) (c7:Bool) (v9:Value) (n11:Int) (b25:Nat) (n60:Int) (v78:Value) (b89:Nat) (τ6:AHeap):Prop :=
 If c7 (
 Q (.ret (.tuple #[(.int .i64 0),(.int .u64 0),(.bool false)])) τ6) (
 om (AE 1 v9 (.int .u64 n11)) fun v13 =>
 A2 .i64 (AF false 1 v13 τ6) fun n14 =>
 Bi (FC (n14+1)) fun n15 =>
 om (AE 1 v9 (.int .u64 n11)) fun v16 =>
 pu (AP 1 v16 (.int .i64 n15) τ6) fun τ17 =>
 om (AE 1 v9 (.int .u64 n11)) fun v21 =>
 A2 .i64 (AF false 1 v21 τ17) fun n22 =>
 om (L b25 1 τ17) fun v29 =>
 E EP [v29,(.int .u64 n11)] τ17 (c2 Q fun v32 v33 τ31 =>
 tI .i64 (fun n34 =>
 BE τ31 (.cells [(.bool false),(.slice none 0 0),(.slice none 0 0)] AG false) fun b35 τ36 =>
 pu (AP 3 (.pointer (some ⟨b35,0,none⟩)) v32 τ36) fun τ37 =>
 If (!decide (n34=0)) (
 isSkip C7=true∧isSkip C7=true∧isSkip C7=true∧(BL E Q true b35 b25 n60 v9 v78 b89 (decide (n22=1)) τ37)) (
 om (L b35 1 τ37) fun v388 =>
 A2 .i64 (BH v388) fun n389 =>
 If (decide (n389<1)) (
 isSkip C7=true∧isSkip C7=true∧isSkip C7=true∧(BL E Q true b35 b25 n60 v9 v78 b89 (decide (n22=1)) τ37)) (
 om (L b35 1 τ37) fun v390 =>
 A2 .i64 (BH v390) fun n391 =>
 If (decide (8<n391)) (
 isSkip C7=true∧isSkip C7=true∧isSkip C7=true∧(BL E Q true b35 b25 n60 v9 v78 b89 (decide (n22=1)) τ37)) (
 If (decide (0<n60)) (
 om (L b35 1 τ37) fun v392 =>
 A2 .i64 (BH v392) fun n393 =>
 If (decide (n393<4)) (
 isSkip C7=true∧isSkip C7=true∧(BL E Q true b35 b25 n60 v9 v78 b89 (decide (n22=1)) τ37)) (
 If (decide (n60=0)) (
 DF (L b35 0 τ37) fun c394 =>
 If (!c394) (
 om (L b35 1 τ37) fun v395 =>
 A2 .i64 (BH v395) fun n396 =>
 (BL E Q (decide (n396<2)) b35 b25 n60 v9 v78 b89 (decide (n22=1)) τ37)) (
 (BL E Q false b35 b25 n60 v9 v78 b89 (decide (n22=1)) τ37))) (
 (BL E Q false b35 b25 n60 v9 v78 b89 (decide (n22=1)) τ37)))) (
 If (decide (n60=0)) (
 DF (L b35 0 τ37) fun c397 =>
 If (!c397) (
 om (L b35 1 τ37) fun v398 =>
 A2 .i64 (BH v398) fun n399 =>
 (BL E Q (decide (n399<2)) b35 b25 n60 v9 v78 b89 (decide (n22=1)) τ37)) (
 (BL E Q false b35 b25 n60 v9 v78 b89 (decide (n22=1)) τ37))) (
 (BL E Q false b35 b25 n60 v9 v78 b89 (decide (n22=1)) τ37))))))) v33))
def aL (E:BP) (Q:RK) (x0:Nat) (x1 x2:Int) (x3 x4:Value) (x5:Nat) (σ:AHeap):Prop :=
 A2 .i64 (BH x3) fun n4 =>
 Bi (HW (n4)) fun n5 =>
 If (decide (n5≤x1)) (
 (OB E Q true x3 x1 x0 x2 x4 x5 σ)) (
 (OB E Q (decide (12<x2)) x3 x1 x0 x2 x4 x5 σ))
theorem nT {Q:RK} {x0:Nat} {x1 x2:Int} {x3 x4:Value} {x5:Nat} {σ:AHeap} (h:aL E Q x0 x1 x2 x3 x4 x5 σ):E GG [(.pointer (some ⟨x0,0,none⟩)),(.int .u64 x1),(.int .i64 x2),x3,x4,(.pointer (some ⟨x5,0,none⟩))] σ Q :=
 B0 Tryz.func90 (hl [(3,.loopr [0,2,3,4,5,15,16,96,97] [18,98] [12,13,14,16,18] [12,13,14,16,18,98]),(13,.ord (il 0 9))]) (fun | 18=>(.i .i64) | 98=>(.i .i64) | _=>.v) (by kernel_rfl) (Eq.mpr (by kernel_rfl) h)
end Go.Ax.C
set_option maxRecDepth 100000
namespace Go.Ax
open Go.Proofs Go.RowKit
variable {l r m:List AK} {σ:AHeap} {P:Program}
abbrev HS:=List (Nat×Value)
def JV (L:HS) (a:Nat):Option Value:=(L.find? fun p=>p.1 == a).map (·.2)
def YR (L:HS) (a:Nat) (v:Value):HS:=if a∈L.map (·.1) then L.map fun p=>if p.1=a then (a,v) else p else L++[(a,v)]
def eI (L:HS) (a:Nat):HS:=L.filter fun p=>p.1≠a
structure y7 (k:IntKind) (es:List MapEntry) (clock:Nat) (L:HS):Prop where
 kv:es.map (fun e=>(e.key,e.val))=L.map fun p=>(Value.int k p.1,p.2)
 nd:(L.map (·.1)).Nodup
 bn:(es.map (·.born)).Nodup
 lt:∀ e∈es,e.born<clock
def GK (k:IntKind) (mb:Nat) (L:HS):AK:=ex fun p:List MapEntry×Nat=>sep (HZ (y7 k p.1 p.2 L)) (pt mb (.map p.1 p.2))
theorem J4 {k:IntKind} {mb:Nat} {L:HS}:H (GK k mb L::l) σ↔∃ es clock,y7 k es clock L∧H (pt mb (.map es clock)::l) σ:=by
 unfold GK
 rw [JM]
 constructor
 ·rintro ⟨⟨es,clock⟩,h⟩
  rw [BB] at h
  exact ⟨es,clock,BK.1 h⟩
 ·rintro ⟨es,clock,h1,h2⟩
  refine ⟨(es,clock),?_⟩
  rw [BB]
  exact BK.2 ⟨h1,h2⟩
theorem AAo (k:IntKind) (a b:Nat):Instr.sameNow (.int k) (.int k (a:Nat)) (.int k (b:Nat))=some (decide (a=b)):=by
 simp [Instr.sameNow]
 by_cases h:a=b
 ·simp [h]
 ·simp [h]; omega
theorem lU {k:IntKind} {a:Nat}:∀ {es:List MapEntry} {L:HS} (i:Nat),es.map (fun e=>(e.key,e.val))=L.map (fun p=>(Value.int k p.1,p.2))→(∀ p∈L,p.1≠a)→Instr.findNow (.int k) (.int k (a:Nat)) es i=some none
 | [],_,i,_,_=>rfl
 | e::es,[],i,h,_=>by simp at h
 | e::es,p::L,i,h,hn=>by
   simp only [List.map_cons,List.cons.injEq,Prod.mk.injEq] at h
   have h1:=hn p (by simp)
   simp only [Instr.findNow,h.1.1,AAo]
   rw [decide_eq_false (fun e=>h1 e.symm)]
   exact lU (i+1) h.2 fun q hq=>hn q (by simp [hq])
theorem lT {k:IntKind} {a:Nat} {v:Value}:∀ {es:List MapEntry} {L:HS} (i j:Nat),es.map (fun e=>(e.key,e.val))=L.map (fun p=>(Value.int k p.1,p.2))→(L.map (·.1)).Nodup→L[j]?=some (a,v)→Instr.findNow (.int k) (.int k (a:Nat)) es i=some (some (i+j,v))
 | [],[],i,j,_,_,h=>by simp at h
 | [],_::_,i,j,h,_,_=>by simp at h
 | e::es,[],i,j,h,_,_=>by simp at h
 | e::es,p::L,i,0,h,hn,hj=>by
   simp only [List.map_cons,List.cons.injEq,Prod.mk.injEq] at h
   simp at hj; subst hj
   simp only [Instr.findNow,h.1.1,AAo]
   simp [h.1.2]
 | e::es,p::L,i,j+1,h,hn,hj=>by
   simp only [List.map_cons,List.cons.injEq,Prod.mk.injEq] at h
   simp only [List.map_cons,List.nodup_cons] at hn
   simp at hj
   have h1:a≠p.1:=fun e=>hn.1 (List.mem_map.2 ⟨(a,v),List.mem_of_getElem? hj,e⟩)
   simp only [Instr.findNow,h.1.1,AAo]
   rw [decide_eq_false h1]
   simp only
   rw [lT (i+1) j h.2 hn.2 hj]
   congr 3; omega
theorem RH {L:HS} {a:Nat} (h:∀ p∈L,p.1≠a):JV L a=none:=by
 unfold JV
 rw [List.find?_eq_none.2 fun p hp=>by simpa using h p hp]; rfl
theorem lX {L:HS} {a:Nat} {v:Value} (hn:(L.map (·.1)).Nodup) (h:(a,v)∈L):JV L a=some v:=by
 unfold JV
 obtain ⟨A,B,rfl⟩:=List.append_of_mem h
 simp only [List.map_append,List.map_cons,List.nodup_append] at hn
 have hA:∀ y∈A,¬ (y.1 == a)=true:=fun y hy he=>by
  have:=hn.2.2 y.1 (List.mem_map_of_mem hy) a (by simp)
  simp at he; exact this he
 rw [List.find?_append,List.find?_eq_none.2 hA]
 simp
theorem iO {L:HS} {a:Nat} {v:Value} (h:JV L a=some v):(a,v)∈L:=by
 unfold JV at h
 cases hf:L.find? fun p=>p.1 == a with
 | none=>rw [hf] at h; simp at h
 | some p =>
   rw [hf] at h
   simp at h
   have h1:=List.mem_of_find?_eq_some hf
   have h2:=List.find?_some hf
   simp at h2
   subst h2; subst h
   exact h1
theorem S8 {L:HS} {a:Nat} (h:JV L a=none):∀ p∈L,p.1≠a:=by
 intro p hp e
 unfold JV at h
 cases hf:L.find? fun p=>p.1 == a with
 | none=>exact (List.find?_eq_none.1 hf) p hp (by simpa using e)
 | some p=>rw [hf] at h; simp at h
theorem ZJ {k:IntKind} {es:List MapEntry} {clock a:Nat} {L:HS} (h:y7 k es clock L):(JV L a=none∧OE (.int k) (.int k (a:Nat)) es=some none)∨∃ j v,L[j]?=some (a,v)∧JV L a=some v∧OE (.int k) (.int k (a:Nat)) es=some (some (j,v)):=by
 unfold OE
 simp only [U9,cond_true]
 cases hm:JV L a with
 | none=>exact .inl ⟨rfl,lU 0 h.kv (S8 hm)⟩
 | some v =>
   have hv:=iO hm
   obtain ⟨j,hj,he⟩:=List.getElem_of_mem hv
   have hj':L[j]?=some (a,v):=by rw [List.getElem?_eq_getElem hj,he]
   refine .inr ⟨j,v,hj',rfl,?_⟩
   rw [lT 0 j h.kv h.nd hj',Nat.zero_add]
theorem jC {mb clock:Nat} {es:List MapEntry} (h:H (pt mb (.map es clock)::l) σ):JQ (.map (some mb)) σ=some es:=by
 simp [JQ,h.get0.1]
theorem dE {k:IntKind} {mb a:Nat} {L:HS} {t e:TypeId} {z:Value} {ok:Bool} (h:H (GK k mb L::l) σ) (ht:PK P t=some (.int k,e)) (hz:CK P e=some z) :
 EL P t (.map (some mb)) (.int k (a:Nat)) ok σ=some (match JV L a with | some v=>okV ok v true | none=>okV ok z false):=by
 obtain ⟨es,clock,hm,h1⟩:=J4.1 h
 unfold EL
 simp only [ht,hz,jC h1,Option.bind_some]
 rcases ZJ (a:=a) hm with ⟨e1,e2⟩ | ⟨j,v,_,e1,e2⟩
 ·rw [e1,e2]; rfl
 ·rw [e1,e2]; rfl
theorem rV {k:IntKind} {mb:Nat} {L:HS} (h:H (GK k mb L::l) σ):tR (.map (some mb)) σ=some (.int .i64 L.length):=by
 obtain ⟨es,clock,hm,h1⟩:=J4.1 h
 have hl:es.length=L.length:=by have:=congrArg List.length hm.kv; simpa using this
 unfold tR
 rw [jC h1]
 simp [hl]
theorem Q3 {α β:Type} (f:α→β) (g:α→α):∀ (l:List α) (j:Nat) (b:β) ,(∀ x,l[j]?=some x→f (g x)=b)→(l.modify j g).map f=(l.map f).set j b
 | [],j,b,_=>by simp
 | x::l,0,b,h=>by simp [h x rfl]
 | x::l,j+1,b,h=>by simp [Q3 f g l j b fun y hy=>h y (by simpa using hy)]
theorem xI {L:HS} {a j:Nat} {v w:Value} (hn:(L.map (·.1)).Nodup) (hj:L[j]?=some (a,v)):YR L a w=L.set j (a,w):=by
 have hm:a∈L.map (·.1):=List.mem_map.2 ⟨(a,v),List.mem_of_getElem? hj,rfl⟩
 unfold YR
 rw [if_pos hm]
 apply List.ext_getElem?
 intro i
 rw [List.getElem?_map,List.getElem?_set]
 by_cases hij:j=i
 ·subst hij
  rw [if_pos rfl,hj,if_pos (List.getElem?_eq_some_iff.1 hj).1]
  simp
 ·rw [if_neg hij]
  cases hp:L[i]? with
  | none=>rfl
  | some p =>
    have:p.1≠a:=by
     intro e
     obtain ⟨h1,h2⟩:=List.getElem?_eq_some_iff.1 hj
     obtain ⟨h3,h4⟩:=List.getElem?_eq_some_iff.1 hp
     have:=(List.getElem_inj (i:=j) (j:=i) (h₀:=by simpa using h1) (h₁:=by simpa using h3) hn).1 (by simp [h2,h4,e])
     exact hij this
    simp [this]
theorem iL {L:HS} {a:Nat} {v:Value} (h:JV L a=none):YR L a v=L++[(a,v)]:=by
 unfold YR
 rw [if_neg]
 intro hm
 obtain ⟨p,hp,e⟩:=List.mem_map.1 hm
 exact S8 h p hp e
theorem dX {k:IntKind} {mb a:Nat} {L:HS} {t e:TypeId} {v:Value} {K:AHeap→Prop} (h:H (GK k mb L::l) σ) (ht:PK P t=some (.int k,e))
 (hK:∀ σ',H (GK k mb (YR L a v)::l) σ'→K σ'):pu (FL P t (.map (some mb)) (.int k (a:Nat)) v σ) K:=by
 obtain ⟨es,clock,hm,h1⟩:=J4.1 h
 unfold FL
 simp only [ht,h1.get0.1,kC,cond_true]
 rcases ZJ (a:=a) hm with ⟨e1,e2⟩ | ⟨j,v0,hj,e1,e2⟩
 ·simp only [e2,Option.bind_some,A5]
  refine hK _ (J4.2 ⟨_,_,?_,h1.set0 _⟩)
  rw [iL e1]
  refine ⟨by simp [hm.kv],?_,?_,?_⟩
  ·simp only [List.map_append,List.map_cons,List.map_nil]
   rw [List.nodup_append]
   refine ⟨hm.nd,by simp,fun x hx y hy=>?_⟩
   simp at hy; subst hy
   obtain ⟨p,hp,rfl⟩:=List.mem_map.1 hx
   exact S8 e1 p hp
  ·simp only [List.map_append,List.map_cons,List.map_nil]
   rw [List.nodup_append]
   refine ⟨hm.bn,by simp,fun x hx y hy=>?_⟩
   simp at hy; subst hy
   obtain ⟨p,hp,rfl⟩:=List.mem_map.1 hx
   have:=hm.lt p hp; omega
  ·intro x hx
   rcases List.mem_append.1 hx with hx | hx
   ·have:=hm.lt x hx; omega
   ·simp at hx; subst hx; simp
 ·simp only [e2,Option.bind_some,A5]
  refine hK _ (J4.2 ⟨_,_,?_,h1.set0 _⟩)
  rw [xI hm.nd hj]
  have hkv:(es.modify j fun e=>{ e with key:=.int k (a:Nat),val:=v }).map (fun e=>(e.key,e.val))=(es.map fun e=>(e.key,e.val)).set j (.int k (a:Nat),v) :=
   Q3 _ _ es j _ fun x _=>rfl
  have hb:(es.modify j fun e=>{ e with key:=.int k (a:Nat),val:=v }).map (·.born)=es.map (·.born):=by
   apply List.ext_getElem?
   intro i
   rw [List.getElem?_map,List.getElem?_map,List.getElem?_modify]
   cases es[i]? with
   | none=>rfl
   | some x=>by_cases hji:j=i<;>simp [hji]
  refine ⟨?_,?_,by rw [hb]; exact hm.bn,?_⟩
  ·rw [hkv,hm.kv,List.map_set]
  ·rw [List.map_set]
   have:(L.map (·.1)).set j a=L.map (·.1):=by
    apply List.ext_getElem?
    intro i
    rw [List.getElem?_set]
    split
    ·rename_i e; subst e
     rw [List.getElem?_map,hj]
     have:=(List.getElem?_eq_some_iff.1 hj).1
     simp [this]
    ·rfl
   rw [this]; exact hm.nd
  ·intro x hx
   obtain ⟨i,hi,rfl⟩:=List.getElem_of_mem hx
   have h3:((es.modify j fun e=>{ e with key:=.int k (a:Nat),val:=v }).map (·.born))[i]?=some ((es.modify j fun e=>{ e with key:=.int k (a:Nat),val:=v })[i]).born:=by
    rw [List.getElem?_map,List.getElem?_eq_getElem hi]; rfl
   rw [hb,List.getElem?_map] at h3
   cases hx:es[i]? with
   | none=>rw [hx] at h3; simp at h3
   | some y =>
     rw [hx] at h3; simp at h3
     rw [← h3]; exact hm.lt y (List.mem_of_getElem? hx)
theorem bD {L:HS} {a:Nat} (h:JV L a=none):eI L a=L:=by
 unfold eI
 rw [List.filter_eq_self]
 intro p hp
 simpa using S8 h p hp
theorem oS:∀ {L:HS} {a j:Nat} {v:Value},(L.map (·.1)).Nodup→L[j]?=some (a,v)→eI L a=L.eraseIdx j
 | [],a,j,v,_,h=>by simp at h
 | p::L,a,0,v,hn,h=>by
   simp at h; subst h
   simp only [List.map_cons,List.nodup_cons] at hn
   have:eI L a=L:=bD (RH fun q hq e=>hn.1 (List.mem_map.2 ⟨q,hq,e⟩))
   unfold eI at this ⊢
   rw [List.filter_cons_of_neg (by simp),this]
   rfl
 | p::L,a,j+1,v,hn,h=>by
   simp only [List.map_cons,List.nodup_cons] at hn
   simp at h
   have h1:p.1≠a:=fun e=>hn.1 (List.mem_map.2 ⟨(a,v),List.mem_of_getElem? h,e.symm⟩)
   have h2:=oS hn.2 h
   unfold eI at h2 ⊢
   rw [List.filter_cons_of_pos (by simpa using h1),h2]; rfl
theorem PE {α β:Type} (f:α→β):∀ (l:List α) (j:Nat),(l.eraseIdx j).map f=(l.map f).eraseIdx j
 | [],j=>by simp
 | x::l,0=>by simp
 | x::l,j+1=>by simp [PE f l j]
theorem pG {k:IntKind} {mb a:Nat} {L:HS} {t e:TypeId} {K:AHeap→Prop} (h:H (GK k mb L::l) σ) (ht:PK P t=some (.int k,e))
 (hK:∀ σ',H (GK k mb (eI L a)::l) σ'→K σ'):pu (M8 P t (.map (some mb)) (.int k (a:Nat)) σ) K:=by
 obtain ⟨es,clock,hm,h1⟩:=J4.1 h
 unfold M8
 simp only [ht,h1.get0.1]
 rcases ZJ (a:=a) hm with ⟨e1,e2⟩ | ⟨j,v0,hj,e1,e2⟩
 ·simp only [e2,Option.bind_some,A5]
  refine hK _ (J4.2 ⟨_,_,?_,h1.set0 _⟩)
  rw [bD e1]; exact hm
 ·simp only [e2,Option.bind_some,A5]
  refine hK _ (J4.2 ⟨_,_,?_,h1.set0 _⟩)
  rw [oS hm.nd hj]
  refine ⟨?_,?_,?_,fun x hx=>hm.lt x (List.mem_of_mem_eraseIdx hx)⟩
  ·rw [PE,hm.kv,← PE]
  ·rw [PE]; exact hm.nd.sublist (List.eraseIdx_sublist _ _)
  ·rw [PE]; exact hm.bn.sublist (List.eraseIdx_sublist _ _)
theorem qU {k:IntKind} {K:Value×AHeap→Prop} {t:TypeId} (h:H l σ) (ht:JU P t none σ=some (.map (some σ.size),σ.push (.map [] 0)))
 (hK:∀ mb σ',H (GK k mb []::l) σ'→K (.map (some mb),σ')):pu (JU P t none σ) K:=by
 rw [ht,A5]
 refine hK _ _ (J4.2 ⟨[],0,⟨rfl,by simp,by simp,by simp⟩,(h.push _).unsnoc⟩)
end Go.Ax
set_option maxRecDepth 100000
namespace Go.Ax
open Go.Proofs Go.RowKit
variable {l r m:List AK} {σ:AHeap} {P:Program}
def kvE (e:MapEntry):Value×Value:=(e.key,e.val)
def kvP (k:IntKind) (p:Nat×Value):Value×Value:=(.int k p.1,p.2)
def dJ (k:IntKind) (it mb:Nat) (L R:HS):AK:=ex fun p:(List MapEntry×Nat)×List Nat =>
 sep (HZ (y7 k p.1.1 p.1.2 L∧(p.1.1.filter fun e=>!p.2.contains e.born).map kvE=R.map (kvP k))) (sep (pt mb (.map p.1.1 p.1.2)) (pt it (.mapIter (some mb) p.1.2 p.2 p.1.2)))
theorem eX {k:IntKind} {it mb:Nat} {L R:HS}:H (dJ k it mb L R::l) σ↔∃ es clock seen,(y7 k es clock L∧(es.filter fun e=>!seen.contains e.born).map kvE=R.map (kvP k))∧H (pt mb (.map es clock)::pt it (.mapIter (some mb) clock seen clock)::l) σ:=by
 unfold dJ
 rw [JM]
 constructor
 ·rintro ⟨⟨⟨es,clock⟩,seen⟩,h⟩
  rw [BB,BK,BB] at h
  exact ⟨es,clock,seen,h⟩
 ·rintro ⟨es,clock,seen,h1,h2⟩
  refine ⟨((es,clock),seen),?_⟩
  rw [BB,BK,BB]
  exact ⟨h1,h2⟩
theorem zF {k:IntKind} {it mb:Nat} {L R:HS} (h:H (dJ k it mb L R::l) σ):H (GK k mb L::l) σ:=by
 obtain ⟨es,clock,seen,h1,h2⟩:=eX.1 h
 exact J4.2 ⟨es,clock,h1.1,(h2.perm (.swap _ _ _)).tail⟩
theorem sK {k:IntKind} {mb:Nat} {L:HS} {t e u:TypeId} {K:Value×AHeap→Prop} (h:H (GK k mb L::l) σ) (ht:P.underlying t=some (.map e u))
 (hK:∀ it σ',H (dJ k it mb L L::l) σ'→K (.pointer (some ⟨it,0,none⟩),σ')):pu (X0 P t (.map (some mb)) σ) K:=by
 obtain ⟨es,clock,hm,h1⟩:=J4.1 h
 unfold X0
 simp only [ht,h1.get0.1,A5]
 refine hK _ _ (eX.2 ⟨es,clock,[],⟨hm,?_⟩,?_⟩)
 ·have:(es.filter fun e=>!([]:List Nat).contains e.born)=es:=by rw [List.filter_eq_self]; simp
  rw [this]; exact hm.kv
 ·exact ((h1.push _).unsnoc).perm (.swap _ _ _)
theorem yT {α β γ:Type} {f:α→γ} {g:β→γ} {A B:List α} {a:α} {R:List β} (h:(A++a::B).map f=R.map g):∃ R1 p R2,R=R1++p::R2∧A.map f=R1.map g∧f a=g p∧B.map f=R2.map g:=by
 rw [List.map_append,List.map_cons] at h
 obtain ⟨R1,T,rfl,h1,h2⟩:=List.map_eq_append_iff.1 h.symm
 obtain ⟨p,R2,rfl,h3,h4⟩:=List.map_eq_cons_iff.1 h2
 exact ⟨R1,p,R2,rfl,h1.symm,h3.symm,h4.symm⟩
theorem uC {k:IntKind} {it mb:Nat} {L R:HS} {K:Value×AHeap→Prop} (h:H (dJ k it mb L R::l) σ) (h0:R=[]→K (.tuple #[.bool false],σ))
 (h1:∀ R1 p R2 σ',R=R1++p::R2→H (dJ k it mb L (R1++R2)::l) σ'→VF (.pointer (some ⟨it,0,none⟩)) σ'=some (.tuple #[.int k p.1,p.2])→K (.tuple #[.bool true,.int k p.1,p.2],σ')) :
 pu (SP (.pointer (some ⟨it,0,none⟩)) σ) fun Ls=>∀ r∈Ls,K r:=by
 obtain ⟨es,clock,seen,⟨hm,hR⟩,h2⟩:=eX.1 h
 have hg1:=h2.get0.1
 have h3:=h2.perm (.swap _ _ _)
 have hg2:=h3.get0.1
 unfold SP
 simp only [hg2,hg1]
 have hc:(!seen.isEmpty && !es.isEmpty && es.all fun e=>Nat.ble clock e.born)=false:=by
  cases es with
  | nil=>simp
  | cons e es =>
    have:=hm.lt e (by simp)
    have hb:Nat.ble clock e.born=false:=by
     rw [Bool.eq_false_iff]; intro hx; have:=Nat.le_of_ble_eq_true hx; omega
    rw [List.all_cons,hb,Bool.false_and,Bool.and_false]
 rw [hc]
 simp only [cond_false,A5]
 have e1:(es.filter fun e=>!seen.contains e.born && Nat.blt e.born clock)=es.filter fun e=>!seen.contains e.born:=by
  apply List.filter_congr
  intro e he
  have:Nat.blt e.born clock=true:=by rw [Nat.blt_eq]; exact hm.lt e he
  rw [this,Bool.and_true]
 have e2:(es.filter fun e=>!seen.contains e.born && Nat.ble clock e.born)=[]:=by
  rw [List.filter_eq_nil_iff]
  intro e he
  have:=hm.lt e he
  have hb:Nat.ble clock e.born=false:=by
   rw [Bool.eq_false_iff]; intro hx; have:=Nat.le_of_ble_eq_true hx; omega
  rw [hb,Bool.and_false]; decide
 rw [e1,e2,List.append_nil]
 intro r hr
 rcases List.mem_append.1 hr with hr | hr
 ·cases hF:(es.filter fun e=>!seen.contains e.born) with
  | nil =>
    rw [hF] at hr hR
    simp at hr
    subst hr
    refine h0 ?_
    simpa using hR.symm
  | cons a t=>rw [hF] at hr; simp at hr
 ·obtain ⟨e,he,rfl⟩:=List.mem_map.1 hr
  obtain ⟨A,B,hAB⟩:=List.append_of_mem he
  rw [hAB] at hR
  obtain ⟨R1,p,R2,hRR,hA,hp,hB⟩:=yT hR
  have hpk:e.key=.int k p.1∧e.val=p.2:=by
   unfold kvE kvP at hp; simpa using hp
  have hee:e∈es:=(List.mem_filter.1 he).1
  have hset:=h3.set0 (.mapIter (some mb) clock (seen++[e.born]) clock)
  have hF2:(es.filter fun x=>!(seen++[e.born]).contains x.born)=A++B:=by
   have e3:(es.filter fun x=>!(seen++[e.born]).contains x.born)=(es.filter fun x=>!seen.contains x.born).filter fun x=>!(x.born == e.born):=by
    rw [List.filter_filter]
    apply List.filter_congr
    intro x _
    by_cases e5:x.born=e.born<;>simp [e5]
   rw [e3,hAB]
   have hnd:((A++e::B).map (·.born)).Nodup:=by
    rw [← hAB]; exact hm.bn.sublist (List.filter_sublist.map _)
   simp only [List.map_append,List.map_cons,List.nodup_append,List.nodup_cons] at hnd
   rw [List.filter_append,List.filter_cons_of_neg (by simp)]
   congr 1
   ·rw [List.filter_eq_self]
    intro x hx
    have:=hnd.2.2 x.born (List.mem_map_of_mem hx) e.born (by simp)
    simpa using this
   ·rw [List.filter_eq_self]
    intro x hx
    have:=hnd.2.1.1
    simp
    intro e4
    exact this (by rw [← e4]; exact List.mem_map_of_mem hx)
  have hlast:(seen++[e.born]).getLast?=some e.born:=by simp
  have hfin:(es.find? fun x=>Nat.beq x.born e.born)=some e:=by
   obtain ⟨A',B',hes⟩:=List.append_of_mem hee
   have hnd:=hm.bn
   rw [hes] at hnd
   simp only [List.map_append,List.map_cons,List.nodup_append] at hnd
   rw [hes,List.find?_append,List.find?_eq_none.2]
   ·simp only [List.find?_cons,Nat.beq_refl,Option.none_or]
   ·intro x hx hx2
    have:=hnd.2.2 x.born (List.mem_map_of_mem hx) e.born (by simp)
    exact this (Nat.eq_of_beq_eq_true hx2)
  rw [hpk.1,hpk.2]
  refine h1 R1 p R2 _ hRR (eX.2 ⟨es,clock,seen++[e.born],⟨hm,by rw [hF2,List.map_append,hA,hB,List.map_append]⟩,?_⟩) ?_
  ·exact hset.perm (.swap _ _ _)
  ·have h4:=hset.perm (.swap _ _ _)
   unfold VF
   simp only [hset.get0.1,hlast,Option.bind_some,h4.get0.1,Nat.beq_refl,cond_true,hfin,Option.map_some,hpk.1,hpk.2]
end Go.Ax
set_option maxRecDepth 100000
namespace Go.Ax.C
open Go.Proofs Go.RowKit
variable {l r r2 m:List AK} {σ:AHeap} {Q:RK} {K:List Nat}
def iv (xs:List Nat):List Value:=xs.map fun n=>.int .i64 (n:Nat)
theorem sM (xs:List Nat):(iv xs).length=xs.length:=by simp [iv]
theorem AEb (xs:List Nat) (i n:Nat):iv (xs.set i n)=(iv xs).set i (.int .i64 (n:Nat)):=by simp [iv,List.map_set]
theorem R8 {e z n:Nat} {v:Value} {xs:List Value} (h:H (AU e z v n xs::l) σ):BH v=some (.int .i64 n):=by
 obtain ⟨_,_,a,c,rfl⟩:=h.own_src 0 rfl
 rfl
theorem dK {cv:Value} {c:List Nat} {N a e:Nat} (h:H (AU e 1 cv N (iv c)::l) σ) (ha:a<N) (hc:c.length=N) :
 ∃ p:Addr,(∀ kd,AE 1 cv (.int kd (a:Nat))=some (.pointer (some p)))∧AF false 1 (.pointer (some p)) σ=some (.int .i64 (c.getD a 0:Nat))∧∀ {x:Nat} {K:AHeap→Prop},(∀ σ',H (AU e 1 cv N (iv (c.set a x))::l) σ'→K σ')→pu (AP 1 (.pointer (some p)) (.int .i64 (x:Nat)) σ) K:=by
 obtain ⟨b,cp,rfl,_,rest,hrow⟩:=h.own_form 0 rfl (by omega)
 refine ⟨⟨b,a,none⟩,fun kd=>by rw [S6 (by omega)]; simp,?_,fun {x K} hK=>?_⟩
 ·rw [BO hrow,List.getElem?_append_left (by rw [sM]; omega)]
  simp only [iv,List.getElem?_map,List.getD_eq_getElem?_getD]
  rw [List.getElem?_eq_getElem (by omega)]
  rfl
 ·refine KA h 0 rfl (by omega) rfl (by rw [sM]; omega) fun σ' h'=>hK σ' ?_
  rw [AEb]; exact h'
abbrev j4 (pb p:Nat) (cv:Value) (N:Nat) (c:List Nat) (mb:Nat) (ml:HS) (xb rb sb:Nat) (T:TS) (M:Nat) (l:List AK):List AK :=
 pt pb (.cells [.int .i64 (p:Nat)] BQ false)::AU BQ 1 cv N (iv c)::GK .u64 mb ml::pt xb (.cells [.pointer (some ⟨rb,0,none⟩),.pointer (some ⟨sb,0,none⟩)] AM false)::A3 sb rb T M::l
def Has (ml:HS) (L:List KV):Prop:=∀ q∈L,JV ml q.1=some (.int .u64 (q.2:Nat))
theorem pM:PK P AI=some (.int .u64,AJ):=by kernel_rfl
theorem tO:CK P AJ=some (.int .u64 0):=by kernel_rfl
theorem AC1 {mb:Nat} {ml:HS} {k v:Nat} (h:H (GK .u64 mb ml::l) σ) (hv:JV ml k=some (.int .u64 (v:Nat))):EL P AI (.map (some mb)) (.int .u64 (k:Nat)) true σ=some (.tuple #[.int .u64 (v:Nat),.bool true]):=by
 rw [dE h pM tO,hv]; rfl
theorem pO {xs:List Nat} (h:xs.Pairwise (·<·)) {i x y:Nat} (hx:xs[i]?=some x) (hy:xs[i+1]?=some y):x<y:=by
 obtain ⟨h1,rfl⟩:=List.getElem?_eq_some_iff.1 hx
 obtain ⟨h2,rfl⟩:=List.getElem?_eq_some_iff.1 hy
 exact List.pairwise_iff_getElem.1 h i (i+1) h1 h2 (by omega)
set_option maxHeartbeats 1000000 in
theorem gL {sb rb xb pb mb N a dep p M B:Nat} {cv:Value} {T:TS} {G:Gh} {ml:HS} {n:Nd} {c:List Nat} (hI:D0 N T G K) (hN:N≤1024) (hn:G a=some n)
 (h4:0<dep→4≤n.keys.length) (h2:dep=0→n.leaf=false→2≤n.keys.length) (hd12:dep≤12) (hc:c.length=N) (hB:∀ x,c.getD x 0≤B) (hB2:B≤1000000000000000) (hM:M≤90000000000)
 (h:H (j4 pb p cv N c mb ml xb rb sb T M l) σ)
 (hk:∀ b45 kv vv σ',n.May→H (pt b45 (.cells [.bool n.leaf,kv,vv] AG false)::AQ kv n.keys::AQ vv n.vals::j4 pb p cv N (bump c a) mb ml xb rb sb T (M+1) l) σ'→BL E Q false b45 xb dep cv (.map (some mb)) pb (decide (c.getD a 0=0)) σ') :
 E GG [.pointer (some ⟨xb,0,none⟩),.int .u64 (a:Nat),.int .i64 (dep:Nat),cv,.map (some mb),.pointer (some ⟨pb,0,none⟩)] σ Q:=by
 obtain ⟨haN,ha0,_,hag,haf⟩:=hI.dom a n hn
 apply nT; unfold aL
 have ho:H (AU BQ 1 cv N (iv c)::pt pb (.cells [.int .i64 (p:Nat)] BQ false)::GK .u64 mb ml::pt xb (.cells [.pointer (some ⟨rb,0,none⟩),.pointer (some ⟨sb,0,none⟩)] AM false)::A3 sb rb T M::l) σ:=h.perm (.swap _ _ _)
 rw [R8 ho,AH]
 refine PQ (N:Int) (by omega) ?_
 refine AS (fun g=>absurd g (by omega)) fun _=>?_
 unfold OB
 refine AS (fun g=>absurd g (by omega)) fun _=>?_
 obtain ⟨q,i1,l1,s1⟩:=dK ho haN hc
 have hBa:=hB a
 rw [i1,AD,l1,AH]
 refine E1 ((c.getD a 0+1:Nat):Int) (by omega) ?_
 rw [AD]
 refine s1 fun σ1 ho1=>?_
 have ho1:H (AU BQ 1 cv N (iv (bump c a))::pt pb (.cells [.int .i64 (p:Nat)] BQ false)::GK .u64 mb ml::pt xb (.cells [.pointer (some ⟨rb,0,none⟩),.pointer (some ⟨sb,0,none⟩)] AM false)::A3 sb rb T M::l) σ1:=ho1
 obtain ⟨q1,i2,l2,_⟩:=dK ho1 haN (by rw [I5]; exact hc)
 have e:=i2 .u64
 rw [i1] at e
 cases e
 rw [AD,l2,AH]
 have hba:(bump c a).getD a 0=c.getD a 0+1:=by rw [FE,if_pos ⟨rfl,by omega⟩]
 have hfi:decide ((((bump c a).getD a 0:Nat):Int)=1)=decide (c.getD a 0=0):=by
  rw [hba]; exact decide_eq_decide.2 (by omega)
 rw [hfi]
 rw [LV ho1]
 have ho2:H (A3 sb rb T M::AU BQ 1 cv N (iv (bump c a))::pt pb (.cells [.int .i64 (p:Nat)] BQ false)::GK .u64 mb ml::pt xb (.cells [.pointer (some ⟨rb,0,none⟩),.pointer (some ⟨sb,0,none⟩)] AM false)::l) σ1:=ho1.re
 refine AAr ho2 (by omega) (by rw [hI.n1]; exact haN) hag haf ?_
 intro kv vv τ1 hmay hsm h1
 obtain ⟨a1,c1,hkv⟩:=AW h1
 obtain ⟨a2,c2,hvv⟩:=AW h1.tail
 rw [BS,AT]
 refine nw h1 ?_
 intro b45 τ2 h2'
 refine bH h2' rfl (by rw [hkv]; rfl) (by rw [hvv]; rfl) ?_
 intro τ3 h3
 refine CA (fun g=>absurd rfl g) fun _=>?_
 have hlk:BH kv=some (.int .i64 n.keys.length):=MG (CX h3.tail)
 have k7:=hk b45 kv vv τ3 hmay h3.re
 have hf1:=haf.1
 have hf2:=haf.2
 rw [LV h3,hlk,AH]
 refine AS (fun g=>absurd g (by omega)) fun _=>?_
 rw [LV h3,hlk,AH]
 refine AS (fun g=>absurd g (by omega)) fun _=>?_
 have end2:(if dep=0 then n.leaf=false→2≤n.keys.length else True)→If (decide ((dep:Int)=0)) (DF (L b45 0 τ3) fun c394=>If (!c394) (om (L b45 1 τ3) fun v395=>A2 .i64 (BH v395) fun n396=>BL E Q (decide (n396<2)) b45 xb dep cv (.map (some mb)) pb (decide (c.getD a 0=0)) τ3) (BL E Q false b45 xb dep cv (.map (some mb)) pb (decide (c.getD a 0=0)) τ3)) (BL E Q false b45 xb dep cv (.map (some mb)) pb (decide (c.getD a 0=0)) τ3):=fun hc2=>by
  refine AS (fun g=>?_) fun g=>k7
  rw [if_pos (by omega)] at hc2
  rw [LB h3]
  refine cN (fun gl=>?_) fun _=>k7
  rw [LV h3,hlk,AH]
  have:n.leaf=false:=by simpa using gl
  rw [decide_eq_false (by have:=hc2 this; omega)]
  exact k7
 refine AS (fun g=>?_) fun g=>?_
 ·rw [LV h3,hlk,AH]
  have:=h4 (by omega)
  refine AS (fun g=>absurd g (by omega)) fun _=>?_
  exact end2 (by rw [if_neg (by omega)]; trivial)
 ·exact end2 (by rw [if_pos (by omega)]; exact h2 (by omega))
set_option maxHeartbeats 1000000 in
theorem AEe {sb rb xb pb mb N:Nat} {cv:Value} {T:TS} {G:Gh} {ml:HS} (hI:D0 N T G K) (hN:N≤1024) (a dep p M B:Nat) (n:Nd) (L:List KV) (c:List Nat) (σ:AHeap) (Q:RK)
 (hn:G a=some n) (hb:KE G 0 n L) (hg:C4 L) (h4:0<dep→4≤n.keys.length) (h2:dep=0→n.leaf=false→2≤n.keys.length) (hd12:dep+0≤12) (hm:Has ml L) (hc:c.length=N) (hB:∀ x,c.getD x 0≤B) (hB2:B+(0+2)*L.length≤1000000000000000)
 (hM:M+(0+1)*L.length≤90000000000) (hp:p+L.length≤1000000000000000) (h:H (j4 pb p cv N c mb ml xb rb sb T M l) σ)
 (hQ:∀ σ',H (j4 pb (p+L.length) cv N (NV G 0 a c) mb ml xb rb sb T (M+(0+1)*L.length) l) σ'→Q (.ret (.tuple #[.int .i64 ((0+1:Nat):Nat),.int .u64 (hd L:Nat),.bool true])) σ') :
 E GG [.pointer (some ⟨xb,0,none⟩),.int .u64 (a:Nat),.int .i64 (dep:Nat),cv,.map (some mb),.pointer (some ⟨pb,0,none⟩)] σ Q:=by
 obtain ⟨haN,ha0,_,hag,haf⟩:=hI.dom a n hn
 obtain ⟨hlf,hlen,hL⟩:=hb
 have hLl:L.length=n.keys.length:=by rw [hL,List.length_zip,hlen,Nat.min_self]
 have hf1:=haf.1
 have hf2:=haf.2
 refine gL hI hN hn h4 h2 (by omega) hc hB (by omega) (by omega) h ?_
 intro b kv vv τ hmay h1
 unfold BL
 refine B7 rfl ?_
 have hlk:BH kv=some (.int .i64 n.keys.length):=MG (CX h1.tail)
 rw [LV h1,hlk,AH]
 have hw:NV G 0 a c=if c.getD a 0=0 then n.vals.foldl bump (bump c a) else bump c a:=by
  unfold NV; rw [hn]
 refine ⟨fun m d i τ=>∃ k:Nat,d=0∧i=k∧m=n.keys.length - k∧k≤n.keys.length∧H (pt b (.cells [.bool n.leaf,kv,vv] AG false)::AQ kv n.keys::AQ vv n.vals::j4 pb (p+k) cv N (if c.getD a 0=0 then (n.vals.take k).foldl bump (bump c a) else bump c a) mb ml xb rb sb T (M+1) l) τ,
  ⟨_,0,rfl,rfl,rfl,by omega,by simpa using h1⟩,?_⟩
 clear h1 h
 rintro m _ _ τ ⟨k,rfl,rfl,hmk,hk,h⟩
 have hus:=CX h.tail
 have hvs:=CX h.tail.tail
 unfold OD
 refine AS (fun g=>?_) fun g=>?_
 ·obtain ⟨key,hkey⟩:∃ key,n.keys[k]?=some key:=⟨_,List.getElem?_eq_getElem (by omega)⟩
  obtain ⟨v,hv⟩:∃ v,n.vals[k]?=some v:=⟨_,List.getElem?_eq_getElem (by omega)⟩
  have hvN:=hI.vin a n hn v (List.mem_of_getElem? hv)
  have hkL:(key,v)∈L:=by
   rw [hL]
   refine List.mem_iff_getElem?.2 ⟨k,?_⟩
   rw [List.getElem?_zip_eq_some]
   exact ⟨hkey,hv⟩
  obtain ⟨q,i1,l1⟩:=DS hus hkey
  rw [i1,AD,l1,AH]
  have k14:FD (fun n51 n52 σ'=>∃ m',m'<m∧∃ k:Nat,n51=0∧n52=k∧m'=n.keys.length - k∧k≤n.keys.length∧H (pt b (.cells [.bool n.leaf,kv,vv] AG false)::AQ kv n.keys::AQ vv n.vals::j4 pb (p+k) cv N (if c.getD a 0=0 then (n.vals.take k).foldl bump (bump c a) else bump c a) mb ml xb rb sb T (M+1) l) σ') E Q false b 0 k (.map (some mb)) key pb (decide (c.getD a 0=0)) cv k xb dep τ:=by
   unfold FD
   refine B7 rfl ?_
   rw [LB h]
   refine G8 hlf ?_
   have hmm:H (GK .u64 mb ml::pt b (.cells [.bool n.leaf,kv,vv] AG false)::l) τ:=h.re
   rw [AC1 hmm (hm _ hkL),AD,lK,AH,iU,BR]
   refine B7 rfl ?_
   obtain ⟨q2,i2,l2⟩:=DS hvs hv
   rw [LV h,i2,AD,l2,AH]
   refine CA (fun g=>absurd rfl g) fun _=>?_
   rw [LV h,i2,AD,l2,AH]
   have ho:H (AU BQ 1 cv N (iv (if c.getD a 0=0 then (n.vals.take k).foldl bump (bump c a) else bump c a))::pt b (.cells [.bool n.leaf,kv,vv] AG false)::l) τ:=h.re
   rw [R8 ho,AH]
   refine PQ (N:Int) (by omega) ?_
   rw [decide_eq_false (by omega)]
   unfold JC
   refine B7 rfl ?_
   rw [LI h]
   refine E1 ((p+(k+1):Nat):Int) (by omega) ?_
   refine st h rfl ?_
   intro τ1 h5
   refine AS (fun gf=>?_) fun gf=>?_
   ·rw [if_pos gf] at h5
    rw [LV h5,i2,AD]
    have hl2:AF false 1 (.pointer (some q2)) τ1=some (.int .u64 v):=by
     obtain ⟨q3,i3,l3⟩:=DS (CX (l:=l) (show H (AQ vv n.vals::l) τ1 from h5.re)) hv
     rw [i2] at i3; cases i3; exact l3
    rw [hl2,AH]
    have hoo:H (AU BQ 1 cv N (iv ((n.vals.take k).foldl bump (bump c a)))::pt b (.cells [.bool n.leaf,kv,vv] AG false)::AQ kv n.keys::AQ vv n.vals::pt pb (.cells [.int .i64 ((p+(k+1):Nat):Int)] BQ false)::GK .u64 mb ml::pt xb (.cells [.pointer (some ⟨rb,0,none⟩),.pointer (some ⟨sb,0,none⟩)] AM false)::A3 sb rb T (M+1)::l) τ1:=h5.re
    have hfl:((n.vals.take k).foldl bump (bump c a)).length=N:=by rw [VN fun c v=>I5,I5,hc]
    obtain ⟨q4,i4,l4,s4⟩:=dK hoo hvN hfl
    rw [i4,AD,l4,AH]
    have hbd:((n.vals.take k).foldl bump (bump c a)).getD v 0≤B+1+k:=by
     have:∀ (vs:List Nat) (d:List Nat) (B:Nat),(∀ x,d.getD x 0≤B)→∀ x,(vs.foldl bump d).getD x 0≤B+vs.length:=by
      intro vs
      induction vs with
      | nil=>intro d B hd x; simpa using hd x
      | cons v vs ih=>intro d B hd x; rw [List.foldl_cons]; have:=ih _ _ (V6 (a:=v) hd) x; rw [List.length_cons]; omega
     have:=this (n.vals.take k) _ _ (V6 (a:=a) hB) v
     rw [List.length_take] at this
     omega
    refine E1 ((((n.vals.take k).foldl bump (bump c a)).getD v 0+1:Nat):Int) (by omega) ?_
    rw [AD]
    refine s4 fun τ2 h6=>?_
    unfold FA
    refine E1 ((k+1:Nat):Int) (by omega) ?_
    refine ⟨n.keys.length - (k+1),by omega,k+1,rfl,rfl,rfl,by omega,?_⟩
    rw [if_pos gf,List.take_add_one,hv,Option.toList_some,List.foldl_append,List.foldl_cons,List.foldl_nil]
    have h7:H (AU BQ 1 cv N (iv (bump ((n.vals.take k).foldl bump (bump c a)) v))::pt b (.cells [.bool n.leaf,kv,vv] AG false)::AQ kv n.keys::AQ vv n.vals::pt pb (.cells [.int .i64 ((p+(k+1):Nat):Int)] BQ false)::GK .u64 mb ml::pt xb (.cells [.pointer (some ⟨rb,0,none⟩),.pointer (some ⟨sb,0,none⟩)] AM false)::A3 sb rb T (M+1)::l) τ2:=h6
    exact h7.re
   ·rw [if_neg gf] at h5
    unfold FA
    refine E1 ((k+1:Nat):Int) (by omega) ?_
    refine ⟨n.keys.length - (k+1),by omega,k+1,rfl,rfl,rfl,by omega,?_⟩
    rw [if_neg gf]
    exact h5.re
  refine AS (fun g2=>?_) fun g2=>k14
  obtain ⟨j,rfl⟩:∃ j,k=j+1:=⟨k - 1,by omega⟩
  obtain ⟨k0,hk0⟩:∃ k0,n.keys[j]?=some k0:=⟨_,List.getElem?_eq_getElem (by omega)⟩
  rw [LV h]
  refine E1 (j:Int) (by omega) ?_
  obtain ⟨q0,i0,l0⟩:=DS hus hk0
  rw [i0,AD,l0,AH]
  have hlt:=pO (by
   have:=hg.1
   rw [hL,WD hlen] at this
   exact this) hk0 hkey
  rw [decide_eq_false (by omega)]
  exact k14
 ·have hkk:k=n.keys.length:=by omega
  subst hkk
  refine E1 ((0+1:Nat):Int) (by omega) ?_
  rw [LV h]
  obtain ⟨k0,hk0⟩:∃ k0,n.keys[0]?=some k0:=⟨_,List.getElem?_eq_getElem (by omega)⟩
  obtain ⟨q0,i0,l0⟩:=DS hus hk0
  have i0:AE 1 kv (.int .i64 0)=some (.pointer (some q0)):=i0
  rw [i0,AD,l0,AH]
  have hh:hd L=k0:=by
   have:=RD (G:=G) (h:=0) (n:=n) (L:=L) ⟨hlf,hlen,hL⟩
   rw [List.head?_eq_getElem?,hk0] at this
   exact this.symm
  have:=hQ τ (by
   rw [hw,hLl]
   rw [List.take_of_length_le (by omega)] at h
   have hre:H (j4 pb (p+n.keys.length) cv N (if c.getD a 0=0 then n.vals.foldl bump (bump c a) else bump c a) mb ml xb rb sb T (M+1) l) τ:=h.tail.tail.tail
   have h9:H (A3 sb rb T (M+1)::pt pb (.cells [.int .i64 ((p+n.keys.length:Nat):Int)] BQ false)::AU BQ 1 cv N (iv (if c.getD a 0=0 then n.vals.foldl bump (bump c a) else bump c a))::GK .u64 mb ml::pt xb (.cells [.pointer (some ⟨rb,0,none⟩),.pointer (some ⟨sb,0,none⟩)] AM false)::l) τ:=hre.re
   have h10:=B8 (N:=M+(0+1)*n.keys.length) (by omega) h9
   exact h10.re)
  rw [hh] at this
  exact this
def cG (G:Gh) (h:Nat) (fst:Bool) (d:List Nat) (v:Nat):List Nat:=if fst=true then NV G h v d else (NV G h v d).set v (d.getD v 0)
theorem ADx {G:Gh} {h B v x:Nat} {fst:Bool} {d:List Nat} {l:List KV} (hk:G9 G h v l) (hd:∀ x,d.getD x 0≤B):(cG G h fst d v).getD x 0≤B+(h+2)*l.length:=by
 obtain ⟨m,b1,b2,b3⟩:=hk
 have g:=tQ h v B d m l b1 (fun e=>by rw [e] at b2; simp at b2) b3 hd
 unfold cG
 split
 ·exact g x
 ·rw [aU]
  split
  ·have:=hd v; omega
  ·exact g x
theorem AFN {G:Gh} {h v:Nat} {fst:Bool} {d:List Nat} (hf:fst=true):cG G h fst d v=NV G h v d:=if_pos hf
theorem AFJ {G:Gh} {h v:Nat} {fst:Bool} {d:List Nat} (hf:fst=false):cG G h fst d v=(NV G h v d).set v (d.getD v 0):=if_neg (by rw [hf]; decide)
theorem ACB {G:Gh} {h v:Nat} {fst:Bool} {d:List Nat}:(cG G h fst d v).length=d.length:=by
 unfold cG
 split
 ·exact aZ
 ·rw [List.length_set]; exact aZ
theorem ABS {G:Gh} {h a:Nat} {n:Nd} {c:List Nat} (hn:G a=some n):NV G (h+1) a c=n.vals.foldl (cG G h (decide (c.getD a 0=0))) (bump c a):=by
 conv=>lhs; unfold NV
 rw [hn]
 simp only
 congr 1
 funext d v
 unfold cG
 simp only [decide_eq_true_eq]
abbrev WkN (b:Nat) (lf:Bool) (kv vv:Value) (ks vs:List Nat) (l:List AK):List AK:=pt b (.cells [.bool lf,kv,vv] AG false)::AQ kv ks::AQ vv vs::l
set_option maxHeartbeats 2000000 in
theorem AEY {sb rb xb pb mb N:Nat} {cv:Value} {T:TS} {G:Gh} {ml:HS} (hI:D0 N T G K) (hN:N≤1024) (h0:Nat)
 (ih:∀ (a dep p M B:Nat) (n:Nd) (L:List KV) (c:List Nat) (l:List AK) (σ:AHeap) (Q:RK),
 G a=some n→KE G h0 n L→C4 L→(0<dep→4≤n.keys.length)→(dep=0→n.leaf=false→2≤n.keys.length)→dep+h0≤12→Has ml L→c.length=N→(∀ x,c.getD x 0≤B)→B+(h0+2)*L.length≤1000000000000000→M+(h0+1)*L.length≤90000000000→p+L.length≤1000000000000000→H (j4 pb p cv N c mb ml xb rb sb T M l) σ→(∀ σ',H (j4 pb (p+L.length) cv N (NV G h0 a c) mb ml xb rb sb T (M+(h0+1)*L.length) l) σ'→Q (.ret (.tuple #[.int .i64 ((h0+1:Nat):Nat),.int .u64 (hd L:Nat),.bool true])) σ')→E GG [.pointer (some ⟨xb,0,none⟩),.int .u64 (a:Nat),.int .i64 (dep:Nat),cv,.map (some mb),.pointer (some ⟨pb,0,none⟩)] σ Q)
 (a dep p M B:Nat) (n:Nd) (L:List KV) (c:List Nat) (l:List AK) (σ:AHeap) (Q:RK)
 (hn:G a=some n) (hb:KE G (h0+1) n L) (hg:C4 L) (h4:0<dep→4≤n.keys.length) (h2:dep=0→n.leaf=false→2≤n.keys.length) (hd12:dep+(h0+1)≤12) (hm:Has ml L) (hc:c.length=N) (hB:∀ x,c.getD x 0≤B) (hB2:B+(h0+1+2)*L.length≤1000000000000000)
 (hM:M+(h0+1+1)*L.length≤90000000000) (hp:p+L.length≤1000000000000000) (h:H (j4 pb p cv N c mb ml xb rb sb T M l) σ)
 (hQ:∀ σ',H (j4 pb (p+L.length) cv N (NV G (h0+1) a c) mb ml xb rb sb T (M+(h0+1+1)*L.length) l) σ'→Q (.ret (.tuple #[.int .i64 ((h0+1+1:Nat):Nat),.int .u64 (hd L:Nat),.bool true])) σ') :
 E GG [.pointer (some ⟨xb,0,none⟩),.int .u64 (a:Nat),.int .i64 (dep:Nat),cv,.map (some mb),.pointer (some ⟨pb,0,none⟩)] σ Q:=by
 obtain ⟨haN,ha0,_,hag,haf⟩:=hI.dom a n hn
 obtain ⟨hlf,hk⟩:=IR.1 hb
 have hlen:=hk.len
 have hf1:=haf.1
 have hf2:=haf.2
 have hL1:1≤L.length:=List.length_pos_iff.2 ((KZ hb).2 (fun e=>by rw [e] at hf1; simp at hf1))
 have e3:(h0+1+2)*L.length=(h0+2)*L.length+L.length:=by rw [show h0+1+2=(h0+2)+1 by omega,Nat.add_mul,Nat.one_mul]
 have e2:(h0+1+1)*L.length=(h0+1)*L.length+L.length:=by rw [Nat.add_mul,Nat.one_mul]
 refine gL hI hN hn h4 h2 (by omega) hc hB (by omega) (by omega) h ?_
 intro b kv vv τ hmay h1
 unfold BL
 refine B7 rfl ?_
 have hlk:BH kv=some (.int .i64 n.keys.length):=MG (CX h1.tail)
 rw [LV h1,hlk,AH]
 generalize hfst:decide (c.getD a 0=0)=fst
 have hw:NV G (h0+1) a c=n.vals.foldl (cG G h0 fst) (bump c a):=by rw [ABS hn,hfst]
 refine ⟨fun m d i τ=>∃ (k:Nat) (A Z:List KV),d=((if k=0 then 0 else h0+1:Nat):Nat)∧i=k∧m=n.keys.length - k∧k≤n.keys.length∧L=A++Z∧CV (G9 G h0) (n.keys.take k) (n.vals.take k) A∧CV (G9 G h0) (n.keys.drop k) (n.vals.drop k) Z∧H (WkN b n.leaf kv vv n.keys n.vals (j4 pb (p+A.length) cv N ((n.vals.take k).foldl (cG G h0 fst) (bump c a)) mb ml xb rb sb T (M+1+(h0+1)*A.length) l)) τ,
  ⟨_,0,[],L,rfl,rfl,rfl,by omega,rfl,by simpa using CV.nil,by simpa using hk,by simpa using h1⟩,?_⟩
 clear h1 h
 rintro m _ _ τ ⟨k,A,Z,rfl,rfl,hmk,hkl,hAZ,hkA,hkZ,h⟩
 have hus:=CX h.tail
 have hvs:=CX h.tail.tail
 unfold OD
 refine AS (fun g=>?_) fun g=>?_
 ·obtain ⟨key,hkey⟩:∃ key,n.keys[k]?=some key:=⟨_,List.getElem?_eq_getElem (by omega)⟩
  obtain ⟨v,hv⟩:∃ v,n.vals[k]?=some v:=⟨_,List.getElem?_eq_getElem (by omega)⟩
  have hvN:=hI.vin a n hn v (List.mem_of_getElem? hv)
  have hdk:n.keys.drop k=key::n.keys.drop (k+1):=by rw [List.drop_eq_getElem_cons (by omega)]; congr 1; exact (List.getElem?_eq_some_iff.1 hkey).2
  have hdv:n.vals.drop k=v::n.vals.drop (k+1):=by rw [List.drop_eq_getElem_cons (by omega)]; congr 1; exact (List.getElem?_eq_some_iff.1 hv).2
  rw [hdk,hdv] at hkZ
  obtain ⟨l1,Z1,rfl,hkv1,hne1,hhd1,hkZ1⟩:∃ l1 Z1,Z=l1++Z1∧G9 G h0 v l1∧l1≠[]∧hd l1=key∧CV (G9 G h0) (n.keys.drop (k+1)) (n.vals.drop (k+1)) Z1:=by
   cases hkZ with
   | cons a1 a2 a3 a4=>exact ⟨_,_,rfl,a1,a2,a3,a4⟩
  have hg1:C4 l1:=by rw [hAZ] at hg; exact hg.right.left
  have hm1:Has ml l1:=fun q hq=>hm q (by rw [hAZ]; simp [hq])
  have hll:A.length+l1.length≤L.length:=by rw [hAZ]; simp only [List.length_append]; omega
  have em:(h0+1)*(A.length+l1.length)≤(h0+1)*L.length:=Nat.mul_le_mul_left _ hll
  have em2:(h0+2)*(A.length+l1.length)≤(h0+2)*L.length:=Nat.mul_le_mul_left _ hll
  rw [Nat.mul_add] at em em2
  have hkidc:∀ {ks vs:List Nat} {A:List KV} {d:List Nat} {B:Nat},CV (G9 G h0) ks vs A→(∀ x,d.getD x 0≤B)→∀ x,(vs.foldl (cG G h0 fst) d).getD x 0≤B+(h0+2)*A.length:=fun {ks vs A d B} hks hd=>k8 (B:=B) (d:=d) (f:=cG G h0 fst) (fun v l d B hkd hd x=>ADx hkd hd) hks hd
  have hcb:∀ x,((n.vals.take k).foldl (cG G h0 fst) (bump c a)).getD x 0≤B+1+(h0+2)*A.length:=hkidc hkA (V6 hB)
  have hcl:((n.vals.take k).foldl (cG G h0 fst) (bump c a)).length=N:=by rw [VN fun c v=>ACB,I5,hc]
  have hhk:hd l1=key:=hhd1
  obtain ⟨q,i1,ll1⟩:=DS hus hkey
  rw [i1,AD,ll1,AH]
  have k14:FD (fun n51 n52 σ'=>∃ m',m'<m∧∃ (k:Nat) (A Z:List KV),n51=((if k=0 then 0 else h0+1:Nat):Nat)∧n52=k∧m'=n.keys.length - k∧k≤n.keys.length∧L=A++Z∧CV (G9 G h0) (n.keys.take k) (n.vals.take k) A∧CV (G9 G h0) (n.keys.drop k) (n.vals.drop k) Z∧H (WkN b n.leaf kv vv n.keys n.vals (j4 pb (p+A.length) cv N ((n.vals.take k).foldl (cG G h0 fst) (bump c a)) mb ml xb rb sb T (M+1+(h0+1)*A.length) l)) σ') E Q false b ((if k=0 then 0 else h0+1:Nat):Nat) k (.map (some mb)) key pb fst cv k xb dep τ:=by
   unfold FD
   refine B7 rfl ?_
   rw [LB h]
   refine B7 hlf ?_
   obtain ⟨q2,i2,l2⟩:=DS hvs hv
   obtain ⟨m1,gm,gm4,gmb⟩:=id hkv1
   -- behind the child
   have k29:∀ τ5,H (WkN b n.leaf kv vv n.keys n.vals (j4 pb (p+(A++l1).length) cv N ((n.vals.take (k+1)).foldl (cG G h0 fst) (bump c a)) mb ml xb rb sb T (M+1+(h0+1)*(A++l1).length) l)) τ5→JE (fun n51 n52 σ'=>∃ m',m'<m∧∃ (k:Nat) (A Z:List KV),n51=((if k=0 then 0 else h0+1:Nat):Nat)∧n52=k∧m'=n.keys.length - k∧k≤n.keys.length∧L=A++Z∧CV (G9 G h0) (n.keys.take k) (n.vals.take k) A∧CV (G9 G h0) (n.keys.drop k) (n.vals.drop k) Z∧H (WkN b n.leaf kv vv n.keys n.vals (j4 pb (p+A.length) cv N ((n.vals.take k).foldl (cG G h0 fst) (bump c a)) mb ml xb rb sb T (M+1+(h0+1)*A.length) l)) σ') E Q true b ((if k=0 then 0 else h0+1:Nat):Nat) k ((h0+1:Nat):Nat) (hd l1:Nat) key k τ5:=by
    intro τ5 h5
    have k30:FB (fun n51 n52 σ'=>∃ m',m'<m∧∃ (k:Nat) (A Z:List KV),n51=((if k=0 then 0 else h0+1:Nat):Nat)∧n52=k∧m'=n.keys.length - k∧k≤n.keys.length∧L=A++Z∧CV (G9 G h0) (n.keys.take k) (n.vals.take k) A∧CV (G9 G h0) (n.keys.drop k) (n.vals.drop k) Z∧H (WkN b n.leaf kv vv n.keys n.vals (j4 pb (p+A.length) cv N ((n.vals.take k).foldl (cG G h0 fst) (bump c a)) mb ml xb rb sb T (M+1+(h0+1)*A.length) l)) σ') E Q false b ((if k=0 then 0 else h0+1:Nat):Nat) k ((h0+1:Nat):Nat) τ5:=by
     unfold FB
     refine B7 rfl ?_
     unfold FA
     refine E1 ((k+1:Nat):Int) (by omega) ?_
     refine ⟨n.keys.length - (k+1),by omega,k+1,A++l1,Z1,by rw [if_neg (by omega)],rfl,rfl,by omega,by rw [hAZ,List.append_assoc],?_,hkZ1,h5⟩
     rw [List.take_add_one,List.take_add_one,hkey,hv]
     refine hkA.append ?_
     have:=CV.cons hkv1 hne1 hhk CV.nil
     simpa using this
    unfold JE
    refine B7 rfl ?_
    refine CA (fun g=>absurd (by rw [hhk]) g) fun _=>?_
    refine AS (fun gk=>?_) fun gk=>k30
    rw [show (!decide ((((h0+1:Nat):Nat):Int)=((if k=0 then 0 else h0+1:Nat):Nat)))=false by rw [if_neg (by omega)]; simp]
    exact k30
   have call:∀ was:Int,(fst=false→was=(((n.vals.take k).foldl (cG G h0 fst) (bump c a)).getD v 0:Nat))→JF (fun n51 n52 σ'=>∃ m',m'<m∧∃ (k:Nat) (A Z:List KV),n51=((if k=0 then 0 else h0+1:Nat):Nat)∧n52=k∧m'=n.keys.length - k∧k≤n.keys.length∧L=A++Z∧CV (G9 G h0) (n.keys.take k) (n.vals.take k) A∧CV (G9 G h0) (n.keys.drop k) (n.vals.drop k) Z∧H (WkN b n.leaf kv vv n.keys n.vals (j4 pb (p+A.length) cv N ((n.vals.take k).foldl (cG G h0 fst) (bump c a)) mb ml xb rb sb T (M+1+(h0+1)*A.length) l)) σ') E Q xb b k dep cv (.map (some mb)) pb fst was ((if k=0 then 0 else h0+1:Nat):Nat) k key τ:=by
    intro was hwas
    unfold JF
    rw [LV h,i2,AD,l2,AH]
    refine E1 ((dep+1:Nat):Int) (by omega) ?_
    have hcall:H (j4 pb (p+A.length) cv N ((n.vals.take k).foldl (cG G h0 fst) (bump c a)) mb ml xb rb sb T (M+1+(h0+1)*A.length) (WkN b n.leaf kv vv n.keys n.vals l)) τ:=h.re
    refine ih v (dep+1) (p+A.length) (M+1+(h0+1)*A.length) (B+1+(h0+2)*A.length) m1 l1 _ (WkN b n.leaf kv vv n.keys n.vals l) τ _ gm gmb hg1 (fun _=>gm4) (fun e=>by omega) (by omega) hm1 hcl hcb (by omega) (by omega) (by omega) hcall ?_
    intro τ5 h5
    rw [MQ,AT,AT,C8]
    have hfold:(n.vals.take (k+1)).foldl (cG G h0 fst) (bump c a)=cG G h0 fst ((n.vals.take k).foldl (cG G h0 fst) (bump c a)) v:=by
     rw [List.take_add_one,hv,Option.toList_some,List.foldl_append,List.foldl_cons,List.foldl_nil]
    have eM:M+1+(h0+1)*(A++l1).length=M+1+(h0+1)*A.length+(h0+1)*l1.length:=by rw [List.length_append,Nat.mul_add]; omega
    have eP:p+(A++l1).length=p+A.length+l1.length:=by rw [List.length_append]; omega
    refine cN (fun gf=>?_) fun gf=>?_
    ·have gf:fst=false:=by simpa using gf
     have hvs5:=CX (l:=l) (show H (AQ vv n.vals::l) τ5 from h5.re)
     have hnb:H (pt b (.cells [.bool n.leaf,kv,vv] AG false)::l) τ5:=h5.re
     obtain ⟨q3,i3,l3⟩:=DS hvs5 hv
     rw [LV hnb,i3,AD,l3,AH]
     have hoo:H (AU BQ 1 cv N (iv (NV G h0 v ((n.vals.take k).foldl (cG G h0 fst) (bump c a))))::pt pb (.cells [.int .i64 ((p+A.length+l1.length:Nat):Int)] BQ false)::GK .u64 mb ml::pt xb (.cells [.pointer (some ⟨rb,0,none⟩),.pointer (some ⟨sb,0,none⟩)] AM false)::A3 sb rb T (M+1+(h0+1)*A.length+(h0+1)*l1.length)::WkN b n.leaf kv vv n.keys n.vals l) τ5:=h5.re
     obtain ⟨q4,i4,l4,s4⟩:=dK hoo hvN (by rw [aZ]; exact hcl)
     rw [i4,AD,hwas gf]
     refine s4 fun τ6 h6=>?_
     refine k29 τ6 ?_
     rw [hfold,eM,eP,AFJ gf]
     exact h6.re
    ·have gf:fst=true:=by simpa using gf
     refine k29 τ5 ?_
     rw [hfold,eM,eP,AFN gf]
     exact h5.re
   refine cN (fun gf=>?_) fun gf=>?_
   ·rw [LV h,i2,AD,l2,AH]
    have hoo:H (AU BQ 1 cv N (iv ((n.vals.take k).foldl (cG G h0 fst) (bump c a)))::l) τ:=h.re
    obtain ⟨q4,i4,l4,_⟩:=dK hoo hvN hcl
    rw [i4,AD,l4,AH]
    exact call _ fun _=>rfl
   ·exact call 0 fun e=>by rw [e] at gf; simp at gf
  refine AS (fun g2=>?_) fun g2=>k14
  obtain ⟨j,rfl⟩:∃ j,k=j+1:=⟨k - 1,by omega⟩
  obtain ⟨k0,hk0⟩:∃ k0,n.keys[j]?=some k0:=⟨_,List.getElem?_eq_getElem (by omega)⟩
  rw [LV h]
  refine E1 (j:Int) (by omega) ?_
  obtain ⟨q0,i0,l0⟩:=DS hus hk0
  rw [i0,AD,l0,AH]
  have hlt:=pO (hk.sorted hg) hk0 hkey
  rw [decide_eq_false (by omega)]
  exact k14
 ·have hkk:k=n.keys.length:=by omega
  subst hkk
  have hZ:Z=[]:=by
   rw [List.drop_of_length_le (by omega),List.drop_of_length_le (by omega)] at hkZ
   cases hkZ; rfl
  subst hZ
  rw [List.append_nil] at hAZ
  subst hAZ
  rw [if_neg (by omega)]
  refine E1 ((h0+1+1:Nat):Int) (by omega) ?_
  rw [LV h]
  obtain ⟨k0,hk0⟩:∃ k0,n.keys[0]?=some k0:=⟨_,List.getElem?_eq_getElem (by omega)⟩
  obtain ⟨q0,i0,l0⟩:=DS hus hk0
  have i0:AE 1 kv (.int .i64 0)=some (.pointer (some q0)):=i0
  rw [i0,AD,l0,AH]
  have hh:hd L=k0:=by
   have:=RD hb
   rw [List.head?_eq_getElem?,hk0] at this
   exact this.symm
  have:=hQ τ (by
   rw [hw]
   rw [List.take_of_length_le (by omega)] at h
   have h9:H (A3 sb rb T (M+1+(h0+1)*L.length)::pt pb (.cells [.int .i64 ((p+L.length:Nat):Int)] BQ false)::AU BQ 1 cv N (iv (n.vals.foldl (cG G h0 fst) (bump c a)))::GK .u64 mb ml::pt xb (.cells [.pointer (some ⟨rb,0,none⟩),.pointer (some ⟨sb,0,none⟩)] AM false)::l) τ:=h.re
   have h10:=B8 (N:=M+(h0+1+1)*L.length) (by omega) h9
   exact h10.re)
  rw [hh] at this
  exact this
theorem AFA {sb rb xb pb mb N:Nat} {cv:Value} {T:TS} {G:Gh} {ml:HS} (hI:D0 N T G K) (hN:N≤1024):∀ (h a dep p M B:Nat) (n:Nd) (L:List KV) (c:List Nat) (l:List AK) (σ:AHeap) (Q:RK),
 G a=some n→KE G h n L→C4 L→(0<dep→4≤n.keys.length)→(dep=0→n.leaf=false→2≤n.keys.length)→dep+h≤12→Has ml L→c.length=N→(∀ x,c.getD x 0≤B)→B+(h+2)*L.length≤1000000000000000→M+(h+1)*L.length≤90000000000→p+L.length≤1000000000000000→H (j4 pb p cv N c mb ml xb rb sb T M l) σ→(∀ σ',H (j4 pb (p+L.length) cv N (NV G h a c) mb ml xb rb sb T (M+(h+1)*L.length) l) σ'→Q (.ret (.tuple #[.int .i64 ((h+1:Nat):Nat),.int .u64 (hd L:Nat),.bool true])) σ')→E GG [.pointer (some ⟨xb,0,none⟩),.int .u64 (a:Nat),.int .i64 (dep:Nat),cv,.map (some mb),.pointer (some ⟨pb,0,none⟩)] σ Q:=by
 intro h
 induction h with
 | zero=>intro a dep p M B n L c l σ Q; exact AEe hI hN a dep p M B n L c σ Q
 | succ h ih=>exact AEY hI hN h ih
end Go.Ax.C
set_option maxRecDepth 100000
namespace Go.Ax.C
open Go.Proofs Go.RowKit
variable {N:Nat} {T T':TS} {G:Gh} {L:List KV} {key val root c at':Nat} {roots:List Nat} {Ls:List (List KV)}
def nz (roots:List Nat):List Nat:=roots.filter fun r=>r≠0
structure Q8 (N:Nat) (T:TS) (G:Gh) (roots:List Nat) (Ls:List (List KV)) (c:Nat):Prop where
 inv:D0 N T G (nz roots++[0,1])
 g0:∀ x∈[0,1],G x=none
 len:Ls.length=roots.length
 tr:∀ (i r:Nat) (L:List KV),roots[i]?=some r→Ls[i]?=some L→PG G r L∧C4 L∧L.length≤c
def oU (roots:List Nat) (i:Nat):List Nat:=nz (roots.eraseIdx i)++[0,1]
theorem dA {α:Type} [BEq α]:∀ {xs:List α} {i:Nat} {x:α},xs[i]?=some x→xs.Perm (x::xs.eraseIdx i)
 | [],i,x,h=>by simp at h
 | y::xs,0,x,h=>by simp at h; subst h; simp
 | y::xs,i+1,x,h=>by
   rw [List.getElem?_cons_succ] at h
   rw [List.eraseIdx_cons_succ]
   exact ((dA h).cons y).trans (.swap _ _ _)
theorem iG (hr:roots[at']?=some root) (x:Nat):(nz roots++[0,1]).count x=(tk root (oU roots at')).count x:=by
 have h1:=((dA hr).filter fun r=>r≠0).count_eq x
 unfold nz oU tk
 rw [List.count_append,h1]
 by_cases h0:root=0
 ·subst h0
  rw [if_pos rfl,List.filter_cons_of_neg (by simp),List.count_append]; rfl
 ·rw [if_neg h0,List.filter_cons_of_pos (by simpa using h0)]
  simp only [List.count_cons,List.count_append,List.count_nil,nz]
  omega
theorem wT:0∈oU roots at':=by unfold oU; simp
theorem xB (hr:roots[at']?=some root) (to:Nat):(roots.set at' to)[at']?=some to:=by
 rw [List.getElem?_set,if_pos rfl,if_pos (List.getElem?_eq_some_iff.1 hr).1]
theorem ACK {to:Nat}:oU (roots.set at' to) at'=oU roots at':=by unfold oU; rw [List.eraseIdx_set_eq]
theorem Q8.step {T2:TS} {G':Gh} {to c':Nat} {L':List KV} (h:Q8 N T G roots Ls c) (hr:roots[at']?=some root) (hL:Ls[at']?=some L) (hI:D0 N T2 G' (tk to (oU roots at'))) (hk:E7 G G' (oU roots at')) (ht:PG G' to L') (hg:C4 L') (hc:c≤c') (hl:L'.length≤c') :
 Q8 N T2 G' (roots.set at' to) (Ls.set at' L') c':=by
 have hat:=(List.getElem?_eq_some_iff.1 hr).1
 refine ⟨hI.perm fun x=>?_,fun x hx=>?_,by rw [List.length_set,List.length_set,h.len],fun i r M hi hM=>?_⟩
 ·rw [iG (xB hr to) x,ACK]
 ·exact (hk x (by unfold oU; exact List.mem_append_right _ hx)).1 (h.g0 x hx)
 ·rw [List.getElem?_set] at hi hM
  by_cases e:at'=i
  ·subst e
   rw [if_pos rfl,if_pos hat] at hi
   rw [if_pos rfl,if_pos (by rw [h.len]; exact hat)] at hM
   cases hi; cases hM
   exact ⟨ht,hg,hl⟩
  ·rw [if_neg e] at hi hM
   obtain ⟨h1,h2,h3⟩:=h.tr i r M hi hM
   refine ⟨?_,h2,by omega⟩
   unfold PG at h1 ⊢
   by_cases h0:r=0
   ·rw [if_pos h0] at h1 ⊢; exact h1
   ·rw [if_neg h0] at h1 ⊢
    obtain ⟨hh,n,a1,a2,a3⟩:=h1
    have hmem:r∈oU roots at':=by
     unfold oU nz
     refine List.mem_append_left _ (List.mem_filter.2 ⟨?_,by simpa using h0⟩)
     rw [List.mem_eraseIdx_iff_getElem?]
     exact ⟨i,fun q=>e q.symm,hi⟩
    obtain ⟨b1,b2⟩:=(hk r hmem).2 n a1
    exact ⟨hh,n,b1,b2 hh M a2,a3⟩
theorem Q8.tree (h:Q8 N T G roots Ls c) (hr:roots[at']?=some root) (hL:Ls[at']?=some L):D0 N T G (tk root (oU roots at'))∧PG G root L∧C4 L∧L.length≤c :=
 ⟨h.inv.perm fun x=>(iG hr x).symm,h.tr _ _ _ hr hL⟩
theorem Q8.rN (h:Q8 N T G roots Ls c) (hr:root∈roots):root<N:=by
 by_cases h0:root=0
 ·rw [h0]; exact h.inv.tok 0 (by simp)
 ·exact h.inv.tok root (List.mem_append_left _ (List.mem_filter.2 ⟨hr,by simpa using h0⟩))
theorem wK {a x:Nat} {X:List Nat}:(tk root (a::X)).count x=(a::tk root X).count x:=by
 unfold tk
 split
 ·rfl
 ·simp only [List.count_cons]; omega
theorem ADl {a:Nat} {X:List Nat} (h:a∈X):a∈tk root X:=by unfold tk; split; exact h; exact List.mem_cons_of_mem _ h
theorem Q8.alloc (h:Q8 N T G roots Ls c):T.alloc=.err 8 T∨∃ v T1,T.alloc=.ok v T1∧v≠0∧v<N∧G v=none∧D0 N T1 G (v::(nz roots++[0,1]))∧T1.was=T.was:=by
 rcases h.inv.alloc with e | ⟨v,T1,e1,i1,a0,a1,aw,w1,g1⟩
 ·exact .inl e
 ·obtain ⟨k0,_,gv⟩:=h.inv.now0 a0
  exact .inr ⟨v,T1,e1,fun e=>by rw [e] at k0; simp at k0,i1.tok v (by simp),gv,i1,w1⟩
theorem Q8.ins {T1:TS} (h:Q8 N T G roots Ls c) (hN:N≤1024) (hr:roots[at']?=some root) (hL:Ls[at']?=some L) {v:Nat} (hv:v≠0) (gv:G v=none) (i1:D0 N T1 G (v::(nz roots++[0,1]))) (key:Nat) :
 (∃ T2,bN T1 root key v=.err 8 T2)∨∃ to T2 G',bN T1 root key v=.ok (to,(GN key L).getD 0,(GN key L).isSome) T2∧T2.was=T1.was∧((GN key L=none∧Q8 N T2 G' (roots.set at' to) (Ls.set at' (ins key v L)) (c+1))∨∃ old b T3,GN key L=some old∧old<N∧T2.dec old=.ok b T3∧T3.was=T1.was∧Q8 N T3 G' (roots.set at' to) (Ls.set at' (ins key v L)) (c+1)):=by
 obtain ⟨hI,ht,hg,hl⟩:=h.tree hr hL
 have i1':D0 N T1 G (tk root (v::oU roots at')):=i1.perm fun x=>by
  rw [wK,List.count_cons,List.count_cons,iG hr x]
 rcases ACf (X:=oU roots at') (key:=key) (val:=v) i1' wT ht hg hv gv hN with ⟨T',e⟩ | ⟨to,T2,G',e2,t0,i2,rt,kp,w2,go⟩
 ·exact .inl ⟨T',e⟩
 refine .inr ⟨to,T2,G',e2,w2,?_⟩
 have hgood:=UE (key:=key) (val:=v) hg hv
 have htree:PG G' to (Go.Ax.C.ins key v L):=by unfold PG; rw [if_neg t0]; exact rt
 have hlen:=zW (key:=key) (val:=v) (L:=L)
 cases hk:GN key L with
 | none =>
   rw [hk] at i2
   exact .inl ⟨rfl,h.step hr hL (by unfold tk; rw [if_neg t0]; exact i2) kp htree hgood (by omega) (by omega)⟩
 | some old =>
   rw [hk] at i2
   have i3:D0 N T2 G' (old::(to::oU roots at')):=i2.perm fun x=>by simp [List.count_cons]; omega
   obtain ⟨b,T3,e3,i4,w4⟩:=i3.decs (List.mem_cons_of_mem _ wT) (go old hk)
   exact .inr ⟨old,b,T3,rfl,i3.tok old (by simp),e3,by rw [w4,w2],h.step hr hL (by unfold tk; rw [if_neg t0]; exact i4) kp htree hgood (by omega) (by omega)⟩
theorem Q8.rem (h:Q8 N T G roots Ls c) (hN:N≤1024) (hr:roots[at']?=some root) (hL:Ls[at']?=some L) (key:Nat) :
 (GN key L=none∧eQ T root key=.ok (root,0,false) T)∨(∃ T2,eQ T root key=.err 8 T2)∨∃ old to T2 G' b T3,GN key L=some old∧eQ T root key=.ok (to,old,true) T2∧old<N∧T2.dec old=.ok b T3∧T3.was=T.was∧Q8 N T3 G' (roots.set at' to) (Ls.set at' (del key L)) c:=by
 obtain ⟨hI,ht,hg,hl⟩:=h.tree hr hL
 obtain ⟨h1,h2⟩:=AC7 (X:=oU roots at') (key:=key) hI wT ht hg hN
 cases hk:GN key L with
 | none=>exact .inl ⟨rfl,h1 hk⟩
 | some old =>
   refine .inr ?_
   rcases h2 old hk with ⟨T',e⟩ | ⟨to,T2,G',e2,i2,rt,kp,w2,go⟩
   ·exact .inl ⟨T',e⟩
   have i3:D0 N T2 G' (old::(tk to (oU roots at'))):=i2.perm fun x=>by rw [wK]
   obtain ⟨b,T3,e3,i4,w4⟩:=i3.decs (ADl wT) go
   have hlen:=AA2 (key:=key) (L:=L)
   exact .inr ⟨old,to,T2,G',b,T3,rfl,e2,i3.tok old (by simp),e3,by rw [w4,w2],h.step hr hL i4 kp rt (iN hg) (Nat.le_refl _) (by omega)⟩
theorem Q8.look (h:Q8 N T G roots Ls c) (hN:N≤1024) (hr:roots[at']?=some root) (hL:Ls[at']?=some L) (key:Nat):C3 key 12 root T=.ok ((GN key L).getD 0,(GN key L).isSome) T:=by
 obtain ⟨hI,ht,hg,_⟩:=h.tree hr hL
 exact oY hI ht hg hN
theorem Q8.inc (h:Q8 N T G roots Ls c) (hr:roots[at']?=some root) (hL:Ls[at']?=some L) (h0:root≠0):T.inc root=.err 8 T∨∃ T',T.inc root=.ok () T'∧T'.was=T.was∧Q8 N T' G (roots++[root]) (Ls++[L]) c:=by
 have hmem:root∈nz roots++[0,1]:=List.mem_append_left _ (List.mem_filter.2 ⟨List.mem_of_getElem? hr,by simpa using h0⟩)
 have hpos:0<(nz roots++[0,1]).count root:=List.count_pos_iff.2 hmem
 rcases h.inv.inc (h.inv.tok root hmem) (by omega) with e | ⟨T1,e,i1,w1,g1⟩
 ·exact .inl e
 refine .inr ⟨T1,e,w1,i1.perm fun x=>?_,h.g0,by simp [h.len],fun i r M hi hM=>?_⟩
 ·unfold nz
  rw [List.filter_append,List.filter_cons_of_pos (by simpa using h0),List.filter_nil]
  simp only [List.count_append,List.count_cons,List.count_nil]
  omega
 ·rw [List.getElem?_append] at hi hM
  by_cases hlt:i<roots.length
  ·rw [if_pos hlt] at hi; rw [if_pos (by rw [h.len]; exact hlt)] at hM
   exact h.tr i r M hi hM
  ·rw [if_neg hlt] at hi; rw [if_neg (by rw [h.len]; exact hlt)] at hM
   rw [h.len] at hM
   match hi2:i - roots.length with
   | 0 =>
     rw [hi2] at hi hM
     simp only [List.getElem?_cons_zero,Option.some.injEq] at hi hM
     subst hi; subst hM
     exact h.tr at' root L hr hL
   | j+1=>rw [hi2] at hi; simp at hi
theorem Q8.commit (h:Q8 N T G roots Ls c):Q8 N { T with was:=T.now } G roots Ls c :=
 ⟨⟨h.inv.n1,h.inv.n1,h.inv.cnt,h.inv.tok,h.inv.z,h.inv.dom,h.inv.vin,h.inv.clo,h.inv.hgt,h.inv.lfv⟩,h.g0,h.len,h.tr⟩
theorem Q8.mono (h:Q8 N T G roots Ls c) {c':Nat} (hc:c≤c'):Q8 N T G roots Ls c' :=
 ⟨h.inv,h.g0,h.len,fun i r L a b=>let ⟨x,y,z⟩:=h.tr i r L a b; ⟨x,y,by omega⟩⟩
theorem Q8.new (hN:2≤N):Q8 N (TS.new N) (fun _=>none) [0] [[]] 0:=by
 refine ⟨⟨Z6 hN,Z6 hN,fun x hx=>?_,fun x hx=>?_,by simp,by simp,by simp,by simp,⟨fun _=>0,by simp⟩,by simp⟩,by simp,rfl,fun i r L hi hL=>?_⟩
 ·rw [oI]
  show (MT N)[x]?=_
  unfold MT nz
  match x with
  | 0=>simp
  | 1=>simp
  | x+2=>simp [List.getElem?_replicate,List.count_cons]; omega
 ·simp [nz] at hx; omega
 ·match i with
  | 0=>simp at hi hL; subst hi; subst hL; exact ⟨by simp [PG],by simp [C4],by simp⟩
  | i+1=>simp at hi
theorem rW {k:Nat} (h:∀ p∈L,p.1≠k):GN k L=none:=by
 induction L with
 | nil=>rfl
 | cons p L ih=>unfold GN; rw [if_neg (h p (by simp))]; exact ih fun q hq=>h q (by simp [hq])
theorem ACa {k v:Nat} (hg:C4 L):GN k (ins key v L)=if k=key then some v else GN k L:=by
 induction L with
 | nil =>
   unfold ins GN GN
   by_cases e:k=key
   ·rw [if_pos e,if_pos e.symm]
   ·rw [if_neg e,if_neg (fun q=>e q.symm)]
 | cons p L ih =>
   obtain ⟨_,h2,h3⟩:=GZ.1 hg
   unfold ins
   by_cases hlt:p.1<key
   ·rw [if_pos hlt]
    conv=>lhs; unfold GN
    conv=>rhs; unfold GN
    rw [ih h3]
    by_cases e:p.1=k
    ·rw [if_pos e,if_neg (by omega),if_pos e]
    ·rw [if_neg e,if_neg e]
   ·rw [if_neg hlt]
    by_cases he:p.1=key
    ·rw [if_pos he]
     conv=>lhs; unfold GN
     conv=>rhs; unfold GN
     by_cases e:k=key
     ·rw [if_pos e,if_pos e.symm]
     ·rw [if_neg e,if_neg (fun q=>e q.symm),if_neg (by omega)]
    ·rw [if_neg he]
     conv=>lhs; unfold GN
     by_cases e:k=key
     ·rw [if_pos e,if_pos e.symm]
     ·rw [if_neg e,if_neg (fun q=>e q.symm)]
theorem ACQ {k:Nat} (hg:C4 L):GN k (del key L)=if k=key then none else GN k L:=by
 induction L with
 | nil=>simp [del,GN]
 | cons p L ih =>
   obtain ⟨_,h2,h3⟩:=GZ.1 hg
   unfold del
   by_cases hlt:p.1<key
   ·rw [if_pos hlt]
    conv=>lhs; unfold GN
    conv=>rhs; unfold GN
    rw [ih h3]
    by_cases e:p.1=k
    ·rw [if_pos e,if_neg (by omega),if_pos e]
    ·rw [if_neg e,if_neg e]
   ·rw [if_neg hlt]
    by_cases he:p.1=key
    ·rw [if_pos he]
     conv=>rhs; unfold GN
     by_cases e:k=key
     ·rw [if_pos e]
      exact rW fun q hq=>by have:=h2 q hq; omega
     ·rw [if_neg e,if_neg (by omega)]
    ·rw [if_neg he]
     by_cases e:k=key
     ·rw [if_pos e]
      exact rW fun q hq=>by
       rcases List.mem_cons.1 hq with rfl | hq
       ·omega
       ·have:=h2 q hq; omega
     ·rw [if_neg e]
theorem ACo (hg:C4 L):(ins key val L).length=if GN key L=none then L.length+1 else L.length:=by
 cases hk:GN key L with
 | none=>rw [if_pos rfl]; have:=(kG (val:=val) hk).length_eq; simpa using this
 | some o=>rw [if_neg (by simp)]; have:=congrArg List.length (jQ (val:=val) hg hk); simpa using this
theorem AC8 (hg:C4 L) {o:Nat} (hk:GN key L=some o):(del key L).length+1=L.length:=by
 have:=(AA6 hg hk).length_eq
 simpa using this.symm
end Go.Ax.C
set_option maxRecDepth 100000
namespace Go.Ax
open Go.Proofs Go.RowKit
variable {l r m:List AK} {σ:AHeap} {P:Program}
theorem bY:∀ {es:List MapEntry} {j:Nat} {e:MapEntry},(es.map (·.born)).Nodup→es[j]?=some e→es.findIdx? (fun x=>(x.born:Int) == ((e.born:Nat):Int))=some j
 | [],j,e,_,h=>by simp at h
 | x::es,0,e,_,h=>by
   simp at h; subst h
   simp [List.findIdx?_cons]
 | x::es,j+1,e,hn,h=>by
   simp only [List.map_cons,List.nodup_cons] at hn
   simp at h
   have hne:¬ ((x.born:Int) == ((e.born:Nat):Int))=true:=by
    intro q
    simp at q
    have q:x.born=e.born:=by omega
    exact hn.1 (by rw [q]; exact List.mem_map_of_mem (List.mem_of_getElem? h))
   rw [List.findIdx?_cons,if_neg hne,bY hn.2 h]
   rfl
theorem gK {α:Type} (f:α→α) (x:α):∀ (l:List α),(l++[x]).modify l.length f=l++[f x]
 | []=>rfl
 | y::l=>by simp [gK f x l]
theorem uH {k:IntKind} {mb a:Nat} {L:HS} {t e:TypeId} {z:Value} (h:H (GK k mb L::l) σ) (ht:PK P t=some (.int k,e)) (hz:CK P e=some z) :
 ∃ (v0:Value) (st:Nat) (σ1:AHeap),MD P t (.map (some mb)) (.int k (a:Nat)) σ=some (.tuple #[v0,.int .i64 (st:Nat)],σ1)∧∀ {x:Value} {K:AHeap→Prop},(∀ σ2,H (GK k mb (YR L a x)::l) σ2→K σ2)→pu (HA (.map (some mb)) (.int .i64 (st:Nat)) x σ1) K:=by
 obtain ⟨es,clock,hm,h1⟩:=J4.1 h
 unfold MD
 simp only [ht,hz,h1.get0.1,kC,cond_true]
 -- what an update comes to
 have VV:∀ {x:Value} {K:AHeap→Prop},(∀ σ',H (GK k mb (YR L a x)::l) σ'→K σ')→pu (FL P t (.map (some mb)) (.int k (a:Nat)) x σ) K:=fun hK=>dX h ht hK
 rcases ZJ (a:=a) hm with ⟨e1,e2⟩ | ⟨j,v0,hj,e1,e2⟩
 ·simp only [e2,Option.bind_some]
  refine ⟨z,clock,σ.set mb (.map (es++[{ key:=.int k (a:Nat),val:=z,born:=clock }]) (clock+1)),rfl,fun {x K} hK=>?_⟩
  have h2:=h1.set0 (.map (es++[{ key:=.int k (a:Nat),val:=z,born:=clock }]) (clock+1))
  unfold HA
  simp only [h2.get0.1]
  have hnd:((es++[({ key:=.int k (a:Nat),val:=z,born:=clock }:MapEntry)]).map (·.born)).Nodup:=by
   simp only [List.map_append,List.map_cons,List.map_nil]
   rw [List.nodup_append]
   refine ⟨hm.bn,by simp,fun x hx y hy=>?_⟩
   simp at hy; subst hy
   obtain ⟨p,hp,rfl⟩:=List.mem_map.1 hx
   have:=hm.lt p hp; omega
  have hfi:=bY (j:=es.length) (e:=({ key:=.int k (a:Nat),val:=z,born:=clock }:MapEntry)) hnd (by simp)
  simp only at hfi
  rw [hfi]
  simp only [Option.map_some,A5]
  refine hK _ ?_
  have h3:=h2.set0 (.map ((es++[({ key:=.int k (a:Nat),val:=z,born:=clock }:MapEntry)]).modify es.length fun e=>{ e with val:=x }) (clock+1))
  rw [gK] at h3 ⊢
  have:=VV (x:=x) (K:=fun σ'=>∃ es' clock',y7 k es' clock' (YR L a x)∧(es'=es++[({ key:=.int k (a:Nat),val:=x,born:=clock }:MapEntry)]∧clock'=clock+1)) (fun σ' _=>?_)
  ·obtain ⟨_,_,es',clock',hm',rfl,rfl⟩:=this
   exact J4.2 ⟨_,_,hm',h3⟩
  ·refine ⟨_,_,?_,rfl,rfl⟩
   rw [iL e1]
   refine ⟨by simp [hm.kv],?_,?_,?_⟩
   ·simp only [List.map_append,List.map_cons,List.map_nil]
    rw [List.nodup_append]
    refine ⟨hm.nd,by simp,fun x hx y hy=>?_⟩
    simp at hy; subst hy
    obtain ⟨p,hp,rfl⟩:=List.mem_map.1 hx
    exact S8 e1 p hp
   ·simpa using hnd
   ·intro x hx
    rcases List.mem_append.1 hx with hx | hx
    ·have:=hm.lt x hx; omega
    ·simp at hx; subst hx; simp
 ·simp only [e2,Option.bind_some]
  have hlen:es.length=L.length:=by have:=congrArg List.length hm.kv; simpa using this
  have hjl:=(List.getElem?_eq_some_iff.1 hj).1
  obtain ⟨x0,hx0⟩:∃ x0,es[j]?=some x0:=⟨_,List.getElem?_eq_getElem (by omega)⟩
  have hkey:x0.key=.int k (a:Nat):=by
   have:=congrArg (fun l=>l[j]?) hm.kv
   simp only [List.getElem?_map,hx0,hj,Option.map_some,Option.some.injEq,Prod.mk.injEq] at this
   exact this.1
  rw [hx0]
  simp only [Option.map_some]
  refine ⟨v0,x0.born,_,rfl,fun {x K} hK=>?_⟩
  have hsame:(es.modify j fun e=>{ e with key:=.int k (a:Nat) })=es:=by
   apply List.ext_getElem?
   intro i
   rw [List.getElem?_modify]
   by_cases hji:j=i
   ·subst hji
    rw [hx0]
    simp only [if_pos,Option.map_eq_map,Option.map_some,Option.some.injEq]
    rw [← hkey]
   ·cases es[i]?<;>simp [hji]
  rw [hsame]
  have h2:=h1.set0 (.map es clock)
  unfold HA
  simp only [h2.get0.1]
  rw [bY hm.bn hx0]
  simp only [Option.map_some,A5]
  refine hK _ ?_
  have h3:=h2.set0 (.map (es.modify j fun e=>{ e with val:=x }) clock)
  refine J4.2 ⟨_,_,?_,h3⟩
  rw [xI hm.nd hj]
  have hb:(es.modify j fun e=>{ e with val:=x }).map (·.born)=es.map (·.born):=by
   apply List.ext_getElem?
   intro i
   rw [List.getElem?_map,List.getElem?_map,List.getElem?_modify]
   cases es[i]? with
   | none=>rfl
   | some x=>by_cases hji:j=i<;>simp [hji]
  refine ⟨?_,?_,by rw [hb]; exact hm.bn,?_⟩
  ·have hkv:(es.modify j fun e=>{ e with val:=x }).map (fun e=>(e.key,e.val))=(es.map fun e=>(e.key,e.val)).set j (.int k (a:Nat),x) :=
    Q3 _ _ es j _ fun y hy=>by rw [hx0] at hy; cases hy; simp [hkey]
   rw [hkv,hm.kv,List.map_set]
  ·rw [List.map_set]
   have:(L.map (·.1)).set j a=L.map (·.1):=by
    apply List.ext_getElem?
    intro i
    rw [List.getElem?_set]
    split
    ·rename_i e; subst e
     rw [List.getElem?_map,hj]
     simp [hjl]
    ·rfl
   rw [this]; exact hm.nd
  ·intro y hy
   obtain ⟨i,hi,rfl⟩:=List.getElem_of_mem hy
   have h3:((es.modify j fun e=>{ e with val:=x }).map (·.born))[i]?=some ((es.modify j fun e=>{ e with val:=x })[i]).born:=by
    rw [List.getElem?_map,List.getElem?_eq_getElem hi]; rfl
   rw [hb,List.getElem?_map] at h3
   cases hx:es[i]? with
   | none=>rw [hx] at h3; simp at h3
   | some y =>
     rw [hx] at h3; simp at h3
     rw [← h3]; exact hm.lt y (List.mem_of_getElem? hx)
theorem y8 {L:HS} {a b:Nat} {v:Value}:JV (YR L a v) b=if b=a then some v else JV L b:=by
 unfold YR
 split
 ·rename_i hm
  induction L with
  | nil=>simp at hm
  | cons p L ih =>
    unfold JV at ih ⊢
    simp only [List.map_cons,List.find?_cons]
    by_cases hpa:p.1=a
    ·rw [if_pos hpa]
     by_cases hb:b=a
     ·subst hb; simp
     ·have h1:(a == b)=false:=by simpa using fun e=>hb e.symm
      have h2:(p.1 == b)=false:=by simpa using fun e=>hb (by rw [← e,hpa])
      simp only [h1,h2,if_neg hb]
      by_cases hL:a∈L.map (·.1)
      ·rw [ih hL,if_neg hb]
      ·congr 2
       rw [List.map_congr_left (g:=id) (fun q hq=>by
        rw [if_neg]; rfl
        intro e; exact hL (by rw [← e]; exact List.mem_map_of_mem hq))]
       simp
    ·rw [if_neg hpa]
     cases hpb:(p.1 == b) with
     | true =>
       simp at hpb
       rw [if_neg (by rw [← hpb]; exact hpa)]
     | false =>
       have hL:a∈L.map (·.1):=by
        rcases List.mem_cons.1 hm with e | e
        ·exact absurd e.symm hpa
        ·exact e
       exact ih hL
 ·rename_i hm
  have hn:JV L a=none:=RH fun p hp e=>hm (by rw [← e]; exact List.mem_map_of_mem hp)
  unfold JV at hn ⊢
  rw [List.find?_append]
  cases hf:L.find? fun p=>p.1 == b with
  | some p =>
    have h2:=List.find?_some hf
    simp at h2
    rw [Option.some_or,if_neg (fun e=>by rw [e] at hf; rw [hf] at hn; simp at hn)]
  | none =>
    rw [Option.none_or]
    by_cases hb:b=a
    ·subst hb; simp
    ·have h1:(a == b)=false:=by simpa using fun e=>hb e.symm
     simp [h1,hb]
theorem y9 {L:HS} {a b:Nat}:JV (eI L a) b=if b=a then none else JV L b:=by
 unfold eI JV
 induction L with
 | nil=>simp
 | cons p L ih =>
   rw [List.filter_cons]
   by_cases hp:p.1=a
   ·rw [if_neg (by simpa using hp),ih]
    by_cases hb:b=a
    ·rw [if_pos hb,if_pos hb]
    ·rw [if_neg hb,if_neg hb,List.find?_cons]
     have h1:(p.1 == b)=false:=by simpa using fun e=>hb (by rw [← e,hp])
     rw [h1]
   ·rw [if_pos (by simpa using hp),List.find?_cons,List.find?_cons]
    cases hpb:(p.1 == b) with
    | true =>
      simp at hpb
      rw [if_neg (by rw [← hpb]; exact hp)]
    | false=>exact ih
theorem zY {L:HS} {a:Nat} {v:Value}:(YR L a v).length=if JV L a=none then L.length+1 else L.length:=by
 unfold YR
 split
 ·rename_i hm
  obtain ⟨p,hp,e⟩:=List.mem_map.1 hm
  rw [if_neg (fun h=>S8 h p hp e),List.length_map]
 ·rename_i hm
  rw [if_pos (RH fun p hp e=>hm (by rw [← e]; exact List.mem_map_of_mem hp)),List.length_append]
  rfl
theorem AAF {L:HS} {a:Nat} (hn:(L.map (·.1)).Nodup):(eI L a).length+(if JV L a=none then 0 else 1)=L.length:=by
 cases hm:JV L a with
 | none=>rw [if_pos rfl,bD hm]; rfl
 | some v =>
   rw [if_neg (by simp)]
   obtain ⟨j,hj,he⟩:=List.getElem_of_mem (iO hm)
   rw [oS hn (v:=v) (j:=j) (by rw [List.getElem?_eq_getElem hj,he]),List.length_eraseIdx_of_lt hj]
   omega
theorem u0 {k:IntKind} {mb:Nat} {L:HS} (h:H (GK k mb L::l) σ):(L.map (·.1)).Nodup:=by
 obtain ⟨es,clock,hm,_⟩:=J4.1 h
 exact hm.nd
end Go.Ax
