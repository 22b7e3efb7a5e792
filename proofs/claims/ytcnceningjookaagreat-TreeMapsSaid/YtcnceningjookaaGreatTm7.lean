/- Texts of one proof,joined. No statement of the seat is proved here. -/
import Derived.Test.YtcnceningjookaaGreatTm6
set_option linter.unusedVariables false
set_option linter.unusedSimpArgs false
set_option linter.unnecessarySimpa false
set_option linter.constructorNameAsVariable false
set_option maxRecDepth 100000
namespace Go.Ax.C
open Go.Proofs Go.RowKit
variable {l r r2 m:List AK} {σ:AHeap} {Q:RK}
theorem tV {P P':List Wp} {k:Nat} {n:Nd} {T T':TS} (h:D6 P k n T=.ok P' T'):P'.length=P.length∧T'.now=T.now∧T'.was=T.was:=by
 unfold D6 at h
 split at h
 ·cases h
 ·rename_i s _
  cases hs:lS T s.at' n with
  | ok u T1=>rw [hs] at h; cases h; exact ⟨by simp,AB8 hs⟩
  | err e T1=>rw [hs] at h; cases h
  | stuck=>rw [hs] at h; cases h
theorem KN {b:Nat} {q:Bool} {c vs:List Value} {e:TypeId} {K:AHeap→Prop} (h:H (pt b (.cells c e q)::l) σ) (hc:c.length=5) (hv:vs.length=5) (ho:vs.all one=true)
 (hK:∀ σ',H (pt b (.cells vs e q)::l) σ'→K σ'):pu (AP 5 (.pointer (some ⟨b,0,none⟩)) (.agg vs.toArray) σ) K:=by
 refine VJ h 0 rfl hv (by omega) ho (by omega) ?_
 intro σ1 h1
 have hs:splice c 0 vs=vs:=by
  unfold splice
  rw [List.take_zero,List.nil_append,Nat.zero_add,List.drop_of_length_le (by omega),List.append_nil]
 have h2:H (pt b (.cells (splice c 0 vs) e q)::l) σ1:=h1
 rw [hs] at h2
 exact hK σ1 h2
set_option maxHeartbeats 2000000 in
theorem AEf {wb sb rb k:Nat} {T:TS} {M:Nat} {L:List Sp} (h:H (DZ wb sb L::A3 sb rb T M::l) σ) (hM:M≤90000000000) (hL:L.length≤100) (hst:HP (L.map Sp.w) k T≠.stuck)
 (hno:∀ e T' σ',e≠0→HP (L.map Sp.w) k T=.err e T'→H (A3 sb rb T' (M+3)::l) σ'→Q (.pan (flt e)) σ')
 (hyes:∀ T' L' σ',L'.length≤L.length+1→(0<k→L'.length=L.length)→HP (L.map Sp.w) k T=.ok (L'.map Sp.w) T'→H (DZ wb sb L'::A3 sb rb T' (M+3)::l) σ'→Q (.ret (.tuple #[])) σ') :
 E I8 [.pointer (some ⟨wb,0,none⟩),.int .i64 k] σ Q:=by
 apply bK; unfold RS
 obtain ⟨wv,hok,h2⟩:=IL.1 h
 cases hk:L[k]? with
 | none=>unfold HP at hst; rw [List.getElem?_map,hk] at hst; exact absurd rfl hst
 | some x =>
 have hkl:=(List.getElem?_eq_some_iff.1 hk).1
 have hxo:=hok x (List.mem_of_getElem? hk)
 have hsp:HP (L.map Sp.w) k T=if x.n.keys.length≤8 then .ok (L.map Sp.w) T
  else (D6 (L.map Sp.w) k x.n.lo T).bind fun P T=>(T.make x.n.hi).bind fun a T=>match x.n.lo.keys[0]?,x.n.hi.keys[0]? with
   | some a0,some b0 =>
     if 0<k then match P[k - 1]? with
      | none=>.stuck
      | some up=>if up.nx+1≤up.n.keys.length∧up.n.keys.length<400 then D6 P (k - 1) (up.n.insN (up.nx+1) b0 a) T else .stuck
     else (T.make ⟨false,[a0,b0],[x.at',a]⟩).bind fun top T=>.ok (⟨top,⟨false,[a0,b0],[x.at',a]⟩,0⟩::P) T
   | _,_=>.stuck:=by
  unfold HP; rw [List.getElem?_map,hk]; rfl
 obtain ⟨b,c,hwv,e1,e2,e3,e4,e5,e6⟩:=NG h2 hk
 rw [LV h2,e1,AD]
 simp only [AO,AD,Nat.add_assoc,Nat.reduceAdd,Nat.add_zero]
 rw [e2,AH,e3,BR,e4,AD,e5,AD,e6,AH]
 refine nw h2 ?_
 intro b13 σ1 h3
 refine KN (vs:=[.int .u64 (x.at':Nat),.bool x.n.leaf,x.kv,x.vv,.int .i64 (x.nx:Nat)]) h3 rfl rfl (by simp only [List.all_cons,hxo.o1,hxo.o2,List.all_nil]; rfl) ?_
 intro σ2 h4
 have h5:H (B2 L::pt b13 (.cells [.int .u64 (x.at':Nat),.bool x.n.leaf,x.kv,x.vv,.int .i64 (x.nx:Nat)] AB false)::pt wb (.cells [.pointer (some ⟨sb,0,none⟩),wv] A6 false)::AU AB 5 wv L.length (L.map JG).flatten::A3 sb rb T M::l) σ2:=h4.re
 have h6:=H9 h5 (List.mem_of_getElem? hk)
 have hlx:BH x.kv=some (.int .i64 x.n.keys.length):=by obtain ⟨a,c,hv⟩:=AW h6; rw [hv]; rfl
 rw [LV h4,hlx,AH]
 refine AS (fun g=>?_) fun g=>?_
 ·rw [if_pos (by omega)] at hsp
  refine hyes T L σ2 (by omega) (fun _=>rfl) hsp ?_
  have h7:H (pt wb (.cells [.pointer (some ⟨sb,0,none⟩),wv] A6 false)::AU AB 5 wv L.length (L.map JG).flatten::B2 L::A3 sb rb T M::l) σ2:=h4.re
  have h8:H (A3 sb rb T M::DZ wb sb L::l) σ2:=(IL.2 ⟨wv,hok,h7⟩:H (DZ wb sb L::A3 sb rb T M::l) σ2).perm (.swap _ _ _)
  exact (B8 (N:=M+3) (by omega) h8).perm (.swap _ _ _)
 rw [if_neg (by omega)] at hsp
 rw [LB h4,LV h4,LV h4]
 have hle:=hxo.le
 refine AAj (lf:=x.n.leaf) h6 MV.two hxo.eq.symm (by omega) ?_
 intro k1 v1 k2 v2 σ3 h7
 rw [BS]
 obtain ⟨ak1,ck1,hk1⟩:=AW h7
 obtain ⟨av1,cv1,hv1⟩:=AW h7.tail
 obtain ⟨ak2,ck2,hk2⟩:=AW h7.tail.tail
 obtain ⟨av2,cv2,hv2⟩:=AW h7.tail.tail.tail
 have ok1:one k1=true:=by rw [hk1]; rfl
 have ok2:one v1=true:=by rw [hv1]; rfl
 have ok3:one k2=true:=by rw [hk2]; rfl
 have ok4:one v2=true:=by rw [hv2]; rfl
 refine nw h7 ?_
 intro b31 σ4 h8
 refine nw h8 ?_
 intro b33 σ5 h9
 refine bH h9 rfl ok1 ok2 ?_
 intro σ6 h10
 refine bH h10 rfl ok3 ok4 ?_
 intro σ7 h11
 have hhalf:1≤EB x.n∧EB x.n<x.n.keys.length:=by unfold EB; omega
 have hlol:x.n.lo.keys.length=EB x.n∧x.n.lo.vals.length=EB x.n:=by have:=hxo.eq; simp [Nd.lo]; omega
 have hhil:x.n.hi.keys.length=x.n.keys.length - EB x.n∧x.n.hi.vals.length=x.n.keys.length - EB x.n:=by have:=hxo.eq; simp [Nd.hi]; omega
 obtain ⟨a0,ha0⟩:∃ a0,x.n.lo.keys[0]?=some a0:=⟨_,List.getElem?_eq_getElem (by omega)⟩
 obtain ⟨b0,hb0⟩:∃ b0,x.n.hi.keys[0]?=some b0:=⟨_,List.getElem?_eq_getElem (by omega)⟩
 rw [ha0,hb0] at hsp
 simp only at hsp
 have ha64:=(pA hxo.sm).1 a0 (List.mem_of_getElem? ha0)
 have hb64:=(p4 hxo.sm).1 b0 (List.mem_of_getElem? hb0)
 -- what stays
 obtain ⟨SF,hSF⟩:∃ SF,SF=AY [pt b31 (.cells [.bool x.n.leaf,k1,v1] AG false),pt b33 (.cells [.bool x.n.leaf,k2,v2] AG false),pt b13 (.cells [.int .u64 (x.at':Nat),.bool x.n.leaf,x.kv,x.vv,.int .i64 (x.nx:Nat)] AB false),AQ k1 x.n.lo.keys,AQ k2 x.n.hi.keys]:=⟨_,rfl⟩
 have hfr:∀ {τ:AHeap} {A:List AK},H (SF::A) τ→H (pt b31 (.cells [.bool x.n.leaf,k1,v1] AG false)::pt b33 (.cells [.bool x.n.leaf,k2,v2] AG false)::pt b13 (.cells [.int .u64 (x.at':Nat),.bool x.n.leaf,x.kv,x.vv,.int .i64 (x.nx:Nat)] AB false)::AQ k1 x.n.lo.keys::AQ k2 x.n.hi.keys::[]) τ:=fun {τ A} ht=>by
  rw [hSF,A8] at ht
  exact ht.left
 have h12:H (DZ wb sb L::A3 sb rb T M::SF::AQ k1 x.n.lo.keys::AQ v1 x.n.lo.vals::AQ k2 x.n.hi.keys::AQ v2 x.n.hi.vals::l) σ7:=by
  have q:H (pt b33 (.cells [.bool x.n.leaf,k2,v2] AG false)::pt b31 (.cells [.bool x.n.leaf,k1,v1] AG false)::AQ k1 x.n.lo.keys::AQ v1 x.n.lo.vals::AQ k2 x.n.hi.keys::AQ v2 x.n.hi.vals::AQ x.kv x.n.keys::AQ x.vv x.n.vals::B2 L::pt b13 (.cells [.int .u64 (x.at':Nat),.bool x.n.leaf,x.kv,x.vv,.int .i64 (x.nx:Nat)] AB false)::pt wb (.cells [.pointer (some ⟨sb,0,none⟩),wv] A6 false)::AU AB 5 wv L.length (L.map JG).flatten::A3 sb rb T M::l) σ7:=h11
  have q1:=AE5 (v:=k2) (xs:=x.n.hi.keys) (AE5 (v:=k1) (xs:=x.n.lo.keys) q)
  have q2:H (pt b31 (.cells [.bool x.n.leaf,k1,v1] AG false)::pt b33 (.cells [.bool x.n.leaf,k2,v2] AG false)::pt b13 (.cells [.int .u64 (x.at':Nat),.bool x.n.leaf,x.kv,x.vv,.int .i64 (x.nx:Nat)] AB false)::AQ k1 x.n.lo.keys::AQ k2 x.n.hi.keys::pt wb (.cells [.pointer (some ⟨sb,0,none⟩),wv] A6 false)::AU AB 5 wv L.length (L.map JG).flatten::B2 L::A3 sb rb T M::AQ k1 x.n.lo.keys::AQ v1 x.n.lo.vals::AQ k2 x.n.hi.keys::AQ v2 x.n.hi.vals::l) σ7:=q1.re
  have q3:H (SF::pt wb (.cells [.pointer (some ⟨sb,0,none⟩),wv] A6 false)::AU AB 5 wv L.length (L.map JG).flatten::B2 L::A3 sb rb T M::AQ k1 x.n.lo.keys::AQ v1 x.n.lo.vals::AQ k2 x.n.hi.keys::AQ v2 x.n.hi.vals::l) σ7:=by
   rw [hSF,A8]; exact q2
  exact IL.2 ⟨wv,hok,q3.re⟩
 have f12:=hfr (h12.fnd SF)
 rw [LB f12,LV f12,LV f12]
 have h13:H (DZ wb sb L::A3 sb rb T M::AQ k1 x.n.lo.keys::AQ v1 x.n.lo.vals::SF::AQ k2 x.n.hi.keys::AQ v2 x.n.hi.vals::l) σ7:=h12.re
 refine bX (n:=x.n.lo) h13 (by omega) (pA hxo.sm) (by omega) (by omega) (fun e=>hst (by rw [hsp,e]; rfl)) ?_ ?_
 ·intro e T1 τ1 he hsv h14
  rw [ET]
  have h15:H (A3 sb rb T1 (M+1)::l) τ1:=h14.re
  exact hno e T1 τ1 he (by rw [hsp,hsv]; rfl) (B8 (by omega) h15)
 intro T1 L1 τ1 hl1 hsv h14
 have hsl:=tV hsv
 rw [hsv] at hsp
 simp only [R.bind_ok] at hsp
 rw [CD]
 obtain ⟨wv1,hok1,h15⟩:=IL.1 h14
 have f14:=hfr (h14.fnd SF)
 rw [LV h15,LB f14,LV f14,LV f14]
 have h16:H (A3 sb rb T1 (M+1)::AQ k2 x.n.hi.keys::AQ v2 x.n.hi.vals::DZ wb sb L1::SF::l) τ1:=h14.re
 have hN1:=(kY h16).hi
 refine ABc (n:=x.n.hi) h16 (by omega) MV.two (p4 hxo.sm) (by omega) (by omega) ?_ ?_
 ·intro e τ2 he hmk h17
  rw [BS,AT,AT]
  refine TM he ?_
  rw [ET]
  have h19:H (A3 sb rb T1 (M+1)::l) τ2:=h17.re
  exact hno e T1 τ2 he (by rw [hsp,hmk]; rfl) (B8 (by omega) h19)
 intro a T2 τ2 hmk h17
 have hmlt:=wN hmk
 rw [hmk] at hsp
 simp only [R.bind_ok] at hsp
 rw [BS,AT,AT]
 refine VZ ?_
 rw [CD]
 have h18:H (DZ wb sb L1::A3 sb rb T2 (M+2)::SF::l) τ2:=by
  have q:H (A3 sb rb T2 (M+2)::AQ k2 x.n.hi.keys::AQ v2 x.n.hi.vals::DZ wb sb L1::SF::l) τ2:=h17
  exact q.re
 have f18:=hfr (h18.fnd SF)
 have hP1:∀ j:Nat,(L1.map Sp.w)[j]?=(L1[j]?).map Sp.w:=fun j=>List.getElem?_map
 refine AS (fun g0=>?_) fun g0=>?_
 ·rw [if_pos (by omega)] at hsp
  obtain ⟨up,VV⟩:∃ up,L1[k - 1]?=some up:=⟨_,List.getElem?_eq_getElem (by omega)⟩
  rw [hP1,VV] at hsp
  obtain ⟨wv2,hok2,h19⟩:=IL.1 h18
  have huo:=hok2 up (List.mem_of_getElem? VV)
  obtain ⟨b',c',hwv',u1,u2,u3,u4,u5,u6⟩:=NG h19 VV
  rw [LV h19]
  refine E1 ((k - 1:Nat):Int) (by omega) ?_
  rw [u1,AD]
  simp only [AO,AD,Nat.add_assoc,Nat.reduceAdd,Nat.add_zero]
  rw [u2,AH,u3,BR,u4,AD,u5,AD,u6,AH]
  refine nw h19 ?_
  intro b90 σ8 h20
  refine KN (vs:=[.int .u64 (up.at':Nat),.bool up.n.leaf,up.kv,up.vv,.int .i64 (up.nx:Nat)]) h20 rfl rfl (by simp only [List.all_cons,huo.o1,huo.o2,List.all_nil]; rfl) ?_
  intro σ9 h21
  refine E1 ((k - 1:Nat):Int) (by omega) ?_
  rw [LB h21,LV h21,LV h21,LI h21]
  have:=huo.nx
  refine E1 ((up.nx+1:Nat):Int) (by omega) ?_
  have f21:=hfr (h21.fnd SF)
  rw [LV f21]
  have husb:=CX (f21.fnd (AQ k2 x.n.hi.keys))
  obtain ⟨p,ia,la⟩:=DS husb hb0
  rw [show (0:Int)=((0:Nat):Int) from rfl,ia,AD,la,AH]
  have hwu:up.w=⟨up.at',up.n,up.nx⟩:=rfl
  simp only [Option.map_some,hwu] at hsp
  by_cases hnx:up.nx+1≤up.n.keys.length∧up.n.keys.length<400
  ·rw [if_pos hnx] at hsp
   have h22:H (B2 L1::pt wb (.cells [.pointer (some ⟨sb,0,none⟩),wv2] A6 false)::AU AB 5 wv2 L1.length (L1.map JG).flatten::A3 sb rb T2 (M+2)::l) σ9:=h21.re
   have h23:=H9 h22 (List.mem_of_getElem? VV)
   have:=huo.le
   have hil:=wP (key:=b0) (val:=a) huo.eq hnx.1
   refine vA (lf:=up.n.leaf) (i:=up.nx+1) (key:=b0) (val:=a) h23 MV.two huo.eq.symm (by omega) hnx.1 ?_
   intro kv' vv' σ10 h24
   rw [CC]
   have h25:H (DZ wb sb L1::A3 sb rb T2 (M+2)::AQ kv' (up.n.insN (up.nx+1) b0 a).keys::AQ vv' (up.n.insN (up.nx+1) b0 a).vals::l) σ10:=by
    have q:H (AQ kv' (up.n.insN (up.nx+1) b0 a).keys::AQ vv' (up.n.insN (up.nx+1) b0 a).vals::AQ up.kv up.n.keys::AQ up.vv up.n.vals::B2 L1::pt wb (.cells [.pointer (some ⟨sb,0,none⟩),wv2] A6 false)::AU AB 5 wv2 L1.length (L1.map JG).flatten::A3 sb rb T2 (M+2)::l) σ10:=h24
    exact IL.2 ⟨wv2,hok2,q.re⟩
   refine bX (n:=up.n.insN (up.nx+1) b0 a) h25 (by omega) (lJ huo.sm hb64 (by omega)) hil.2 (by omega) (fun e=>hst (by rw [hsp,e])) ?_ ?_
   ·intro e T3 τ3 he hsv2 h26
    rw [ET]
    exact hno e T3 τ3 he (by rw [hsp,hsv2]) h26
   ·intro T3 L3 τ3 hl3 hsv2 h26
    rw [CD]
    exact hyes T3 L3 τ3 (by omega) (fun _=>by omega) (by rw [hsp,hsv2]) h26
  ·rw [if_neg hnx] at hsp
   exact absurd hsp hst
 ·rw [if_neg (by omega)] at hsp
  have hxa:=hxo.at8
  have hsm2:(⟨false,[a0,b0],[x.at',a]⟩:Nd).small:=by
   refine ⟨fun y hy=>?_,fun y hy=>?_⟩
   ·simp at hy; rcases hy with rfl | rfl<;>assumption
   ·simp at hy; rcases hy with rfl | rfl<;>omega
  have husa:=CX (f18.fnd (AQ k1 x.n.lo.keys))
  have husb:=CX (f18.fnd (AQ k2 x.n.hi.keys))
  obtain ⟨p1,ia1,la1⟩:=DS husa ha0
  obtain ⟨p2,ia2,la2⟩:=DS husb hb0
  rw [LV f18,show (0:Int)=((0:Nat):Int) from rfl,ia1,AD,la1,AH,LV f18,ia2,AD,la2,AH,LI f18]
  -- what is read again
  have rd:∀ {τ:AHeap} {A:List AK} (K:Prop),H (SF::A) τ→((om (Ax.L b31 1 τ) fun v=>AX v k1=true∧A2 .u64 (AF false 1 (.pointer (some p1)) τ) fun n=>AX (.int .u64 n) (.int .u64 a0)=true∧om (Ax.L b33 1 τ) fun v=>AX v k2=true∧A2 .u64 (AF false 1 (.pointer (some p2)) τ) fun n=>AX (.int .u64 n) (.int .u64 b0)=true∧K)=K):=by
   intro τ A K ht
   have f:=hfr ht
   rw [LV f,UV ⟨_,_,_,hk1⟩,kP (CX (f.fnd (AQ k1 x.n.lo.keys))) ha0 ia1,AH,CE,LV f,UV ⟨_,_,_,hk2⟩,kP (CX (f.fnd (AQ k2 x.n.hi.keys))) hb0 ia2,AH,CE]
  have rx:∀ {τ:AHeap} {A:List AK} (K:Prop),H (SF::A) τ→((A2 .u64 (Ax.L b13 0 τ) fun n=>AX (.int .u64 n) (.int .u64 x.at')=true∧K)=K):=by
   intro τ A K ht
   have f:=hfr ht
   rw [LI f,CE]
  -- the end
  have fin:∀ {τ:AHeap} {nb kb vb:Nat},H (pt nb (.cells [.bool false,.slice (some ⟨kb,0,none⟩) 2 2,.slice (some ⟨vb,0,none⟩) 2 2] AG false)::pt kb (.cells [.int .u64 a0,.int .u64 b0] AJ false)::pt vb (.cells [.int .u64 x.at',.int .u64 a] AJ false)::DZ wb sb L1::A3 sb rb T2 (M+2)::SF::l) τ→BN E Q wb nb τ:=by
   intro τ nb kb vb ht
   have q1:=mk2 (ht.perm (.swap _ _ _))
   have q2:H (pt vb (.cells [.int .u64 x.at',.int .u64 a] AJ false)::AQ (.slice (some ⟨kb,0,none⟩) 2 2) [a0,b0]::pt nb (.cells [.bool false,.slice (some ⟨kb,0,none⟩) 2 2,.slice (some ⟨vb,0,none⟩) 2 2] AG false)::DZ wb sb L1::A3 sb rb T2 (M+2)::SF::l) τ:=q1.re
   have q3:=mk2 q2
   have q4:H (pt nb (.cells [.bool false,.slice (some ⟨kb,0,none⟩) 2 2,.slice (some ⟨vb,0,none⟩) 2 2] AG false)::AQ (.slice (some ⟨kb,0,none⟩) 2 2) [a0,b0]::AQ (.slice (some ⟨vb,0,none⟩) 2 2) [x.at',a]::DZ wb sb L1::A3 sb rb T2 (M+2)::l) τ:=q3.re
   refine yN q4 (by omega) (by omega) hsm2 ?_ ?_
   ·intro e T3 τ3 he hm3 h30
    exact hno e T3 τ3 he (by rw [hsp,hm3]; rfl) h30
   ·intro top T3 kv vv τ3 hm3 h30
    refine hyes T3 _ τ3 (by simp; omega) (fun hk0=>by omega) ?_ h30
    rw [hsp,hm3]; rfl
  have nd0:∀ {τ:AHeap} {nb kb vb:Nat} {A:List AK},H (pt nb (.cells [.bool false,.slice none 0 0,.slice none 0 0] AG false)::A) τ→(∀ τ',H (pt nb (.cells [.bool false,.slice (some ⟨kb,0,none⟩) 2 2,.slice (some ⟨vb,0,none⟩) 2 2] AG false)::A) τ'→BN E Q wb nb τ')→pu (AP 3 (.pointer (some ⟨nb,0,none⟩)) (.agg #[.bool false,.slice (some ⟨kb,0,none⟩) 2 2,.slice (some ⟨vb,0,none⟩) 2 2]) τ) fun τ154=>BN E Q wb nb τ154:=by
   intro τ nb kb vb A ht hk
   exact bH ht rfl rfl rfl hk
  refine ⟨?_,?_,?_⟩
  ·refine nw h18 ?_
   intro kb τ3 g1
   rw [rx _ (g1.fnd SF)]
   refine ⟨?_,?_⟩
   ·refine nw g1 ?_
    intro vb τ4 g2
    rw [rd _ (g2.fnd SF)]
    refine E5 rfl (E5 rfl ?_)
    refine nw g2 ?_
    intro nb τ5 g3
    rw [rd _ (g3.fnd SF),rx _ (g3.fnd SF)]
    exact nd0 g3 fun τ' g4=>fin (kb:=kb) (vb:=vb) g4.re
   ·refine nw g1 ?_
    intro nb τ4 g2
    rw [rd _ (g2.fnd SF),rx _ (g2.fnd SF)]
    refine nw g2 ?_
    intro vb τ5 g3
    rw [rd _ (g3.fnd SF)]
    refine E5 rfl (E5 rfl ?_)
    exact nd0 (g3.fnd (pt nb (.cells [.bool false,.slice none 0 0,.slice none 0 0] AG false))) fun τ' g4=>fin (kb:=kb) (vb:=vb) g4.re
  ·refine nw h18 ?_
   intro vb τ3 g1
   rw [rd _ (g1.fnd SF)]
   refine ⟨?_,?_⟩
   ·refine nw g1 ?_
    intro kb τ4 g2
    rw [rx _ (g2.fnd SF)]
    refine E5 rfl (E5 rfl ?_)
    refine nw g2 ?_
    intro nb τ5 g3
    rw [rd _ (g3.fnd SF),rx _ (g3.fnd SF)]
    exact nd0 g3 fun τ' g4=>fin (kb:=kb) (vb:=vb) g4.re
   ·refine nw g1 ?_
    intro nb τ4 g2
    rw [rd _ (g2.fnd SF),rx _ (g2.fnd SF)]
    refine nw g2 ?_
    intro kb τ5 g3
    rw [rx _ (g3.fnd SF)]
    refine E5 rfl (E5 rfl ?_)
    exact nd0 (g3.fnd (pt nb (.cells [.bool false,.slice none 0 0,.slice none 0 0] AG false))) fun τ' g4=>fin (kb:=kb) (vb:=vb) g4.re
  ·refine nw h18 ?_
   intro nb τ3 g1
   rw [rd _ (g1.fnd SF),rx _ (g1.fnd SF)]
   refine ⟨?_,?_⟩
   ·refine nw g1 ?_
    intro kb τ4 g2
    rw [rx _ (g2.fnd SF)]
    refine nw g2 ?_
    intro vb τ5 g3
    rw [rd _ (g3.fnd SF)]
    refine E5 rfl (E5 rfl ?_)
    exact nd0 (g3.fnd (pt nb (.cells [.bool false,.slice none 0 0,.slice none 0 0] AG false))) fun τ' g4=>fin (kb:=kb) (vb:=vb) g4.re
   ·refine nw g1 ?_
    intro vb τ4 g2
    rw [rd _ (g2.fnd SF)]
    refine nw g2 ?_
    intro kb τ5 g3
    rw [rx _ (g3.fnd SF)]
    refine E5 rfl (E5 rfl ?_)
    exact nd0 (g3.fnd (pt nb (.cells [.bool false,.slice none 0 0,.slice none 0 0] AG false))) fun τ' g4=>fin (kb:=kb) (vb:=vb) g4.re
end Go.Ax.C
set_option maxRecDepth 100000
namespace Go.Ax.C
open Go.Proofs Go.RowKit
variable {l r r2 m:List AK} {σ:AHeap} {Q:RK}
def jJ (f:List Wp→Nat→TS→R (List Wp)):Nat→List Wp→TS→R (List Wp)
 | 0,P,T=>.ok P T
 | k+1,P,T=>(f P k T).bind fun P T=>jJ f k P T
theorem wup {wb sb rb cost:Nat} {g:FuncId} {f:List Wp→Nat→TS→R (List Wp)} {T:TS} {M:Nat} {L:List Sp}
 (hg:∀ (L:List Sp) (k:Nat) (T:TS) (M:Nat) (τ:AHeap) (Q':RK),H (DZ wb sb L::A3 sb rb T M::l) τ→M≤90000000000→L.length≤50→f (L.map Sp.w) k T≠.stuck→(∀ e T' σ',e≠0→f (L.map Sp.w) k T=.err e T'→H (A3 sb rb T' (M+cost)::l) σ'→Q' (.pan (flt e)) σ')→(∀ T' L' σ',L'.length≤L.length+1→f (L.map Sp.w) k T=.ok (L'.map Sp.w) T'→H (DZ wb sb L'::A3 sb rb T' (M+cost)::l) σ'→Q' (.ret (.tuple #[])) σ')→E g [.pointer (some ⟨wb,0,none⟩),.int .i64 k] τ Q')
 (h:H (DZ wb sb L::A3 sb rb T M::l) σ) (hM:M+cost*L.length≤80000000000) (hL:L.length≤20) (hst:jJ f L.length (L.map Sp.w) T≠.stuck)
 (hno:∀ e T' σ',e≠0→jJ f L.length (L.map Sp.w) T=.err e T'→H (A3 sb rb T' (M+cost*L.length)::l) σ'→Q (.pan (flt e)) σ')
 (hyes:∀ T' L' σ',L'.length≤2*L.length→jJ f L.length (L.map Sp.w) T=.ok (L'.map Sp.w) T'→H (DZ wb sb L'::A3 sb rb T' (M+cost*L.length)::l) σ'→Q (.ret (.tuple #[])) σ') :
 E MZ [.pointer (some ⟨wb,0,none⟩),.func (.func g) #[.pointer (some ⟨wb,0,none⟩)] #[]] σ Q:=by
 apply j7; unfold XD
 obtain ⟨wv,hok,h2⟩:=IL.1 h
 rw [LV h2,cO h2,AH]
 refine E1 ((L.length:Int) - 1) (by omega) ?_
 refine ⟨fun m i τ=>∃ (L1:List Sp) (T1:TS),i+1=m∧m≤L.length∧L1.length+m≤2*L.length∧jJ f L.length (L.map Sp.w) T=jJ f m (L1.map Sp.w) T1∧H (DZ wb sb L1::A3 sb rb T1 (M+cost*(L.length - m))::l) τ,
  ⟨L.length,L,T,by omega,Nat.le_refl _,by omega,rfl,by rw [Nat.sub_self,Nat.mul_zero]; exact h⟩,?_⟩
 clear h h2 wv hok
 rintro m i τ ⟨L1,T1,hi,hm,hl1,VV,h⟩
 unfold RX
 refine AS (fun g0=>?_) fun g0=>?_
 ·obtain ⟨k,rfl⟩:∃ k:Nat,i=k:=⟨i.toNat,by omega⟩
  have hmk:m=k+1:=by omega
  subst hmk
  have hup2:jJ f (k+1) (L1.map Sp.w) T1=(f (L1.map Sp.w) k T1).bind fun P T=>jJ f k P T:=rfl
  rw [hup2] at VV
  have hc:cost*(L.length - (k+1))+cost=cost*(L.length - k):=by rw [← Nat.mul_succ]; congr 1; omega
  have hc2:cost*(L.length - k)≤cost*L.length:=Nat.mul_le_mul_left _ (by omega)
  show E g [.pointer (some ⟨wb,0,none⟩),.int .i64 k] τ _
  refine hg L1 k T1 _ τ _ h (by omega) (by omega) (fun e=>hst (by rw [VV,e]; rfl)) ?_ ?_
  ·intro e T2 τ1 he hf h1
   rw [ET]
   exact hno e T2 τ1 he (by rw [VV,hf]; rfl) (B8 (by omega) h1)
  ·intro T2 L2 τ1 hl2 hf h1
   rw [CD]
   refine E1 ((k:Int) - 1) (by omega) ?_
   refine ⟨k,by omega,L2,T2,by omega,by omega,by omega,by rw [VV,hf]; rfl,?_⟩
   rw [show M+cost*(L.length - k)=M+cost*(L.length - (k+1))+cost by omega]
   exact h1
 ·have hm0:m=0:=by omega
  subst hm0
  exact hyes T1 L1 τ (by omega) VV (by simpa using h)
def zJ (P:List Wp) (old:Nat) (had:Bool) (T:TS):R (Nat×Nat×Bool) :=
 match P[0]? with
 | none=>.stuck
 | some s=>.ok (s.at',old,had) T
def bN (T:TS) (root key val:Nat):R (Nat×Nat×Bool) :=
 if val=0 then .err 1 T
 else if root=0 then (T.make ⟨true,[key],[val]⟩).bind fun a T=>.ok (a,0,false) T
 else (HG true key 12 [] root T).bind fun P T=>match P[P.length - 1]? with
  | none=>.stuck
  | some s =>
    if s.n.keys[BA s.n.keys key]?=some key then match s.n.vals[BA s.n.keys key]? with
     | none=>.stuck
     | some old=>(QI P (P.length - 1) (BA s.n.keys key) key val T).bind fun P T=>(jJ HP P.length P T).bind fun P T=>zJ P old true T
    else if s.n.keys.length<400 then (D6 P (P.length - 1) (s.n.insN (BA s.n.keys key) key val) T).bind fun P T=>(jJ HP P.length P T).bind fun P T=>zJ P 0 false T
    else .stuck
abbrev PS (b1 b3 b5 b7:Nat) (to old:Nat) (had:Bool) (e:Nat) (l:List AK):List AK :=
 pt b1 (.cells [.int .u64 to] AJ false)::pt b3 (.cells [.int .u64 old] AJ false)::pt b5 (.cells [.bool had] CQ false)::pt b7 (.cells [.int .i64 e] U1 false)::l
theorem SZ {b1 b3 b5 b7 to old e:Nat} {had:Bool} (h:H (PS b1 b3 b5 b7 to old had e l) σ) (hQ:H l σ→Q (.ret (.tuple #[.int .u64 to,.int .u64 old,.bool had,.int .i64 e])) σ) :
 pu (AF false 1 (.pointer (some ⟨b1,0,none⟩)) σ) fun v67=>pu (AF false 1 (.pointer (some ⟨b3,0,none⟩)) σ) fun v68=>pu (AF false 1 (.pointer (some ⟨b5,0,none⟩)) σ) fun v69=>pu (AF false 1 (.pointer (some ⟨b7,0,none⟩)) σ) fun v70=>Q (.ret (.tuple #[v67,v68,v69,v70])) σ:=by
 rw [Ld h,A5,Ld h,A5,Ld h,A5,Ld h,A5]
 exact hQ h.tail.tail.tail.tail
theorem pT {b1 b3 b5 b7:Nat} {K:AHeap→Prop} (h:K σ):Dv P D9 [.pointer (some ⟨b1,0,none⟩),.pointer (some ⟨b3,0,none⟩),.pointer (some ⟨b5,0,none⟩),.pointer (some ⟨b7,0,none⟩)] none σ K:=by
 apply R5; unfold I9
 refine ADS ?_
 rw [A9]
 refine CA (fun g=>absurd rfl g) fun _=>?_
 exact h
theorem qP {b1 b3 b5 b7 e to old e0:Nat} {had:Bool} {K:AHeap→Prop} (h:H (PS b1 b3 b5 b7 to old had e0 l) σ) (he:e≠0) (hK:∀ σ',H (PS b1 b3 b5 b7 0 0 false e l) σ'→K σ'):Dv P D9 [.pointer (some ⟨b1,0,none⟩),.pointer (some ⟨b3,0,none⟩),.pointer (some ⟨b5,0,none⟩),.pointer (some ⟨b7,0,none⟩)] (some (flt e)) σ K:=by
 apply R5; unfold I9
 refine ADZ h ?_
 intro σ1 h1
 rw [A9]
 refine CA (fun _=>?_) fun g=>absurd g (by omega)
 refine st h1 rfl ?_
 intro σ2 h2
 refine st h2 rfl ?_
 intro σ3 h3
 refine st h3 rfl ?_
 intro σ4 h4
 refine st h4 rfl ?_
 intro σ5 h5
 exact hK σ5 h5.re
theorem ACy {wb sb rb:Nat} (L:List Sp) (k:Nat) (T:TS) (M:Nat) (τ:AHeap) (Q':RK) (h:H (DZ wb sb L::A3 sb rb T M::l) τ) (hM:M≤90000000000) (hL:L.length≤50) (hst:HP (L.map Sp.w) k T≠.stuck)
 (hno:∀ e T' σ',e≠0→HP (L.map Sp.w) k T=.err e T'→H (A3 sb rb T' (M+3)::l) σ'→Q' (.pan (flt e)) σ')
 (hyes:∀ T' L' σ',L'.length≤L.length+1→HP (L.map Sp.w) k T=.ok (L'.map Sp.w) T'→H (DZ wb sb L'::A3 sb rb T' (M+3)::l) σ'→Q' (.ret (.tuple #[])) σ'):E I8 [.pointer (some ⟨wb,0,none⟩),.int .i64 k] τ Q' :=
 AEf h hM (by omega) hst hno fun T' L' σ' h1 _ h2 h3=>hyes T' L' σ' h1 h2 h3
set_option maxHeartbeats 2000000 in
theorem nR {sb rb root key val:Nat} {T:TS} {M:Nat} (h:H (A3 sb rb T M::l) σ) (hM:M≤70000000000) (hroot:root<18446744073709551616) (hkey:key<18446744073709551616) (hval:val<18446744073709551616) (hst:bN T root key val≠.stuck)
 (hno:∀ e T' σ',e≠0→bN T root key val=.err e T'→H (A3 sb rb T' (M+200)::l) σ'→Q (.ret (.tuple #[.int .u64 0,.int .u64 0,.bool false,.int .i64 e])) σ')
 (hyes:∀ to old had T' σ',bN T root key val=.ok (to,old,had) T'→H (A3 sb rb T' (M+200)::l) σ'→Q (.ret (.tuple #[.int .u64 to,.int .u64 old,.bool had,.int .i64 0])) σ') :
 E JS [.pointer (some ⟨sb,0,none⟩),.int .u64 root,.int .u64 key,.int .u64 val] σ Q:=by
 apply kE; unfold XQ
 refine nw h ?_
 intro b1 σ1 h1
 refine nw h1 ?_
 intro b3 σ2 h2
 refine nw h2 ?_
 intro b5 σ3 h3
 refine nw h3 ?_
 intro b7 σ4 h4
 have h4:H (A3 sb rb T M::PS b1 b3 b5 b7 0 0 false 0 l) σ4:=h4.re
 refine jB h4 ?_
 rw [if_neg (by omega),A9]
 refine CA (fun g=>absurd rfl g) fun _=>?_
 unfold bN at hst hno hyes
 refine AS (fun g=>?_) fun g=>?_
 ·rw [if_pos (by omega)] at hno
  refine st h4 rfl ?_
  intro τ1 g1
  refine st g1 rfl ?_
  intro τ2 g2
  refine st g2 rfl ?_
  intro τ3 g3
  refine st g3 rfl ?_
  intro τ4 g4
  have g5:H (PS b1 b3 b5 b7 0 0 false 1 (A3 sb rb T M::l)) τ4:=g4.re
  refine SZ (e:=1) g5 fun g6=>?_
  exact hno 1 T τ4 (by decide) rfl (B8 (by omega) g6)
 rw [if_neg (by omega)] at hst hno hyes
 -- errors end here
 have pan:∀ {e:Nat} {T':TS} {τ:AHeap} {to old:Nat} {had:Bool} {N:Nat} {A:List AK},e≠0→N≤M+200→H (A3 sb rb T' N::PS b1 b3 b5 b7 to old had 0 l) τ→(∀ σ',H (A3 sb rb T' (M+200)::l) σ'→Q (.ret (.tuple #[.int .u64 0,.int .u64 0,.bool false,.int .i64 e])) σ')→qd P D9 [(.pointer (some ⟨b1,0,none⟩)),(.pointer (some ⟨b3,0,none⟩)),(.pointer (some ⟨b5,0,none⟩)),(.pointer (some ⟨b7,0,none⟩))] (fun τ66 =>
      pu (AF false 1 (.pointer (some ⟨b1,0,none⟩)) τ66) fun v67 =>
      pu (AF false 1 (.pointer (some ⟨b3,0,none⟩)) τ66) fun v68 =>
      pu (AF false 1 (.pointer (some ⟨b5,0,none⟩)) τ66) fun v69 =>
      pu (AF false 1 (.pointer (some ⟨b7,0,none⟩)) τ66) fun v70 =>
      Q (.ret (.tuple #[v67,v68,v69,v70])) τ66) (.pan (flt e)) τ:=by
  intro e T' τ to old had N A he hN ht hq
  have g1:H (PS b1 b3 b5 b7 to old had 0 (A3 sb rb T' N::l)) τ:=ht.re
  refine qP g1 he ?_
  intro τ1 g2
  refine SZ (e:=e) g2 fun g3=>?_
  exact hq τ1 (B8 hN g3)
 have ret:∀ {to old e:Nat} {had:Bool} {T':TS} {τ:AHeap} {N:Nat},N≤M+200→H (PS b1 b3 b5 b7 to old had e (A3 sb rb T' N::l)) τ→(∀ σ',H (A3 sb rb T' (M+200)::l) σ'→Q (.ret (.tuple #[.int .u64 to,.int .u64 old,.bool had,.int .i64 e])) σ')→qd P D9 [(.pointer (some ⟨b1,0,none⟩)),(.pointer (some ⟨b3,0,none⟩)),(.pointer (some ⟨b5,0,none⟩)),(.pointer (some ⟨b7,0,none⟩))] (fun τ66 =>
      pu (AF false 1 (.pointer (some ⟨b1,0,none⟩)) τ66) fun v67 =>
      pu (AF false 1 (.pointer (some ⟨b3,0,none⟩)) τ66) fun v68 =>
      pu (AF false 1 (.pointer (some ⟨b5,0,none⟩)) τ66) fun v69 =>
      pu (AF false 1 (.pointer (some ⟨b7,0,none⟩)) τ66) fun v70 =>
      Q (.ret (.tuple #[v67,v68,v69,v70])) τ66) (.ret (.tuple #[])) τ:=by
  intro to old e had T' τ N hN ht hq
  refine pT ?_
  refine SZ ht fun g3=>?_
  exact hq τ (B8 hN g3)
 unfold RZ
 refine AS (fun g0=>?_) fun g0=>?_
 ·rw [if_pos (by omega)] at hst hno hyes
  refine nw h4 ?_
  intro kb τ1 g1
  refine nw g1 ?_
  intro vb τ2 g2
  refine E5 rfl (E5 rfl ?_)
  have g3:H (AQ (.slice (some ⟨kb,0,none⟩) 1 1) [key]::AQ (.slice (some ⟨vb,0,none⟩) 1 1) [val]::A3 sb rb T M::PS b1 b3 b5 b7 0 0 false 0 l) τ2:=by
   have q1:=mk1 g2
   have q2:H (pt kb (.cells [.int .u64 key] AJ false)::AQ (.slice (some ⟨vb,0,none⟩) 1 1) [val]::A3 sb rb T M::PS b1 b3 b5 b7 0 0 false 0 l) τ2:=q1.re
   exact mk1 q2
  have g4:H (A3 sb rb T M::AQ (.slice (some ⟨kb,0,none⟩) 1 1) [key]::AQ (.slice (some ⟨vb,0,none⟩) 1 1) [val]::PS b1 b3 b5 b7 0 0 false 0 l) τ2:=g3.re
  refine ABc (n:=⟨true,[key],[val]⟩) g4 (by omega) (MV.two (n:=⟨true,[key],[val]⟩)) ⟨fun y hy=>?_,fun y hy=>?_⟩ (by simp) (by simp) ?_ ?_
  ·simp at hy; omega
  ·simp at hy; omega
  ·intro e τ3 he hmk g5
   rw [BS,AT,AT]
   have g6:H (A3 sb rb T M::PS b1 b3 b5 b7 0 0 false 0 l) τ3:=g5.re
   refine st g6 rfl ?_
   intro τ4 g7
   refine st g7 rfl ?_
   intro τ5 g8
   rw [LI g8,LI g8]
   refine st g8 rfl ?_
   intro τ6 g9
   rw [LI g9,CE]
   refine st g9 rfl ?_
   intro τ7 g10
   rw [LI g10,CE]
   refine st g10 rfl ?_
   intro τ8 g11
   rw [LI g11,CE]
   refine st g11 rfl ?_
   intro τ9 g12
   have g13:H (PS b1 b3 b5 b7 0 0 false e (A3 sb rb T M::l)) τ9:=g12.re
   refine ret (by omega) g13 ?_
   intro τ10 g14
   exact hno e T τ10 he (by rw [hmk]; rfl) g14
  ·intro a T1 τ3 hmk g5
   rw [BS,AT,AT]
   have g6:H (A3 sb rb T1 (M+1)::PS b1 b3 b5 b7 0 0 false 0 l) τ3:=g5.re
   refine st g6 rfl ?_
   intro τ4 g7
   refine st g7 rfl ?_
   intro τ5 g8
   rw [LI g8,LI g8]
   refine st g8 rfl ?_
   intro τ6 g9
   rw [LI g9,CE]
   refine st g9 rfl ?_
   intro τ7 g10
   rw [LI g10,CE]
   refine st g10 rfl ?_
   intro τ8 g11
   rw [LI g11,CE]
   refine st g11 rfl ?_
   intro τ9 g12
   have g13:H (PS b1 b3 b5 b7 a 0 false 0 (A3 sb rb T1 (M+1)::l)) τ9:=g12.re
   refine ret (by omega) g13 ?_
   intro τ10 g14
   exact hyes a 0 false T1 τ10 (by rw [hmk]; rfl) g14
 rw [if_neg (by omega)] at hst hno hyes
 refine ADV h4 (by omega) hroot hkey (fun e=>hst (by rw [e]; rfl)) ?_ ?_
 ·intro e T1 τ1 he hd g1
  rw [ABJ]
  refine pan (A:=[]) he (by omega) g1 ?_
  intro τ2 g2
  exact hno e T1 τ2 he (by rw [hd]; rfl) g2
 intro wb L T1 τ1 hd hL12 g1
 rw [hd] at hst hno hyes
 simp only [R.bind_ok] at hst hno hyes
 rw [CC]
 simp only [ED,AD,AO,Nat.zero_add]
 obtain ⟨wv,hok,g2⟩:=IL.1 g1
 rw [List.length_map,List.getElem?_map] at hst hno hyes
 cases hs:L[L.length - 1]? with
 | none=>rw [hs] at hst; exact absurd rfl hst
 | some s =>
 have hLl:=(List.getElem?_eq_some_iff.1 hs).1
 have hso:=hok s (List.mem_of_getElem? hs)
 have hwu:s.w=⟨s.at',s.n,s.nx⟩:=rfl
 rw [hs] at hst hno hyes
 simp only [Option.map_some,hwu] at hst hno hyes
 rw [AV g2,cO g2,AH]
 refine E1 ((L.length - 1:Nat):Int) (by omega) ?_
 obtain ⟨b',c',hwv',u1,u2,u3,u4,u5,u6⟩:=NG g2 hs
 rw [AV g2,u1,AD]
 simp only [AO,AD,Nat.add_assoc,Nat.reduceAdd,Nat.add_zero]
 rw [u3,BR,u4,AD,u5,AD]
 have g3:H (B2 L::pt wb (.cells [.pointer (some ⟨sb,0,none⟩),wv] A6 false)::AU AB 5 wv L.length (L.map JG).flatten::A3 sb rb T1 (M+60)::PS b1 b3 b5 b7 0 0 false 0 l) τ1:=g2.re
 have g4:=H9 g3 (List.mem_of_getElem? hs)
 refine nw g4 ?_
 intro b161 τ2 g5
 refine bH g5 rfl hso.o1 hso.o2 ?_
 intro τ3 g6
 rw [LB g6,LV g6,LV g6]
 have hle:=hso.le
 refine AA3 g6 (MV.two.cons) hso.eq.symm (by omega) ?_
 intro τ4 g7
 rw [BS,AT,C8]
 have hus:=MV.two (n:=s.n) τ4 g7.tail
 -- the way,as one
 have wy:∀ {τ:AHeap} {to old:Nat} {had:Bool} {e:Nat},H (pt b161 (.cells [.bool s.n.leaf,s.kv,s.vv] AG false)::AQ s.kv s.n.keys::AQ s.vv s.n.vals::B2 L::pt wb (.cells [.pointer (some ⟨sb,0,none⟩),wv] A6 false)::AU AB 5 wv L.length (L.map JG).flatten::A3 sb rb T1 (M+60)::PS b1 b3 b5 b7 to old had e l) τ→H (DZ wb sb L::A3 sb rb T1 (M+60)::PS b1 b3 b5 b7 to old had e l) τ:=by
  intro τ to old had e ht
  exact IL.2 ⟨wv,hok,ht.re⟩
 -- behind the leaf
 have k17:∀ (L5:List Sp) (T5:TS) (old:Nat) (had:Bool) (τ:AHeap),L5.length=L.length→((jJ HP (L5.map Sp.w).length (L5.map Sp.w) T5).bind fun P T=>zJ P old had T)≠.stuck→(∀ e T' σ',e≠0→((jJ HP (L5.map Sp.w).length (L5.map Sp.w) T5).bind fun P T=>zJ P old had T)=.err e T'→H (A3 sb rb T' (M+200)::l) σ'→Q (.ret (.tuple #[.int .u64 0,.int .u64 0,.bool false,.int .i64 e])) σ')→(∀ to old' had' T' σ',((jJ HP (L5.map Sp.w).length (L5.map Sp.w) T5).bind fun P T=>zJ P old had T)=.ok (to,old',had') T'→H (A3 sb rb T' (M+200)::l) σ'→Q (.ret (.tuple #[.int .u64 to,.int .u64 old',.bool had',.int .i64 0])) σ')→H (DZ wb sb L5::A3 sb rb T5 (M+61)::PS b1 b3 b5 b7 0 old false 0 l) τ→IA E (qd P D9 [(.pointer (some ⟨b1,0,none⟩)),(.pointer (some ⟨b3,0,none⟩)),(.pointer (some ⟨b5,0,none⟩)),(.pointer (some ⟨b7,0,none⟩))] fun τ66 =>
      pu (AF false 1 (.pointer (some ⟨b1,0,none⟩)) τ66) fun v67 =>
      pu (AF false 1 (.pointer (some ⟨b3,0,none⟩)) τ66) fun v68 =>
      pu (AF false 1 (.pointer (some ⟨b5,0,none⟩)) τ66) fun v69 =>
      pu (AF false 1 (.pointer (some ⟨b7,0,none⟩)) τ66) fun v70 =>
      Q (.ret (.tuple #[v67,v68,v69,v70])) τ66) (.pointer (some ⟨wb,0,none⟩)) b3 had b1 b5 b7 τ:=by
  intro L5 T5 old had τ hl5 hst5 hno5 hyes5 ht
  rw [List.length_map] at hst5 hno5 hyes5
  unfold IA
  refine wup (f:=HP) (cost:=3) (fun L k T M τ Q' h1 h2 h3 h4 h5 h6=>ACy L k T M τ Q' h1 h2 h3 h4 h5 h6) ht (by omega) (by omega) (fun e=>hst5 (by rw [e]; rfl)) ?_ ?_
  ·intro e T6 τ5 he hu q1
   rw [ET]
   refine pan (A:=[]) he (by omega) q1 ?_
   intro τ6 q2
   exact hno5 e T6 τ6 he (by rw [hu]; rfl) q2
  ·intro T6 L6 τ5 hl6 hu q1
   rw [hu] at hst5 hno5 hyes5
   simp only [R.bind_ok] at hst5 hno5 hyes5
   rw [CD]
   simp only [ED,AD,AO,Nat.zero_add]
   obtain ⟨wv6,hok6,q2⟩:=IL.1 q1
   unfold zJ at hst5 hyes5
   rw [List.getElem?_map] at hst5 hyes5
   cases hs6:L6[0]? with
   | none=>rw [hs6] at hst5; exact absurd rfl hst5
   | some s6 =>
   rw [hs6] at hyes5
   obtain ⟨b6,c6,hwv6,w1,w2,_⟩:=NG q2 hs6
   rw [AV q2,show (0:Int)=((0:Nat):Int) from rfl,w1,AD]
   simp only [AO,AD,Nat.add_zero,Nat.zero_mul]
   simp only [Nat.zero_mul] at w2
   rw [w2,AH]
   have q3:H (DZ wb sb L6::A3 sb rb T6 (M+61+3*L5.length)::PS b1 b3 b5 b7 0 old false 0 l) τ5:=q1
   rw [LI q3]
   refine st q3 rfl ?_
   intro τ6 q4
   rw [LI q4,CE]
   refine st q4 rfl ?_
   intro τ7 q5
   refine st q5 rfl ?_
   intro τ8 q6
   refine st q6 rfl ?_
   intro τ9 q7
   have q8:H (PS b1 b3 b5 b7 s6.at' old had 0 (A3 sb rb T6 (M+61+3*L5.length)::l)) τ9:=q7.re
   refine ret (by omega) q8 ?_
   intro τ10 q9
   exact hyes5 s6.at' old had T6 τ10 rfl q9
 refine cN (fun gk=>?_) fun gk=>?_
 ·have gk:s.n.keys[BA s.n.keys key]?=some key:=by simpa using gk
  rw [if_pos gk] at hst hno hyes
  cases hov:s.n.vals[BA s.n.keys key]? with
  | none=>rw [hov] at hst; exact absurd rfl hst
  | some old =>
  rw [hov] at hst hno hyes
  simp only at hst hno hyes
  obtain ⟨p,ia,la⟩:=DS hus.2 hov
  rw [LV g7,ia,AD,la,AH]
  refine st g7 rfl ?_
  intro τ5 g8
  have g9:H (DZ wb sb L::A3 sb rb T1 (M+60)::PS b1 b3 b5 b7 0 old false 0 l) τ5:=wy g8.re
  refine wU g9 (by omega) hkey hval (fun e=>hst (by rw [e]; rfl)) ?_ ?_
  ·intro e T6 τ6 he hw g10
   rw [ET]
   refine pan (A:=[]) he (by omega) g10 ?_
   intro τ7 q2
   exact hno e T6 τ7 he (by rw [hw]; rfl) q2
  ·intro T6 L6 τ6 hl6 hw g10
   rw [hw] at hst hno hyes
   simp only [R.bind_ok] at hst hno hyes
   rw [CD,decide_eq_true gk]
   exact k17 L6 T6 old true τ6 hl6 hst hno hyes g10
 ·have gk':¬ s.n.keys[BA s.n.keys key]?=some key:=by simpa using gk
  rw [if_neg gk'] at hst hno hyes
  by_cases h400:s.n.keys.length<400
  ·rw [if_pos h400] at hst hno hyes
   have hil:=wP (key:=key) (val:=val) hso.eq (fO s.n.keys key)
   rw [LB g7,LV g7,LV g7]
   refine vA g7 (MV.two.cons) hso.eq.symm (by omega) (fO _ _) ?_
   intro kv' vv' τ5 g8
   rw [CC]
   have g8:H (AQ kv' (s.n.insN (BA s.n.keys key) key val).keys::AQ vv' (s.n.insN (BA s.n.keys key) key val).vals::pt b161 (.cells [.bool s.n.leaf,s.kv,s.vv] AG false)::AQ s.kv s.n.keys::AQ s.vv s.n.vals::B2 L::pt wb (.cells [.pointer (some ⟨sb,0,none⟩),wv] A6 false)::AU AB 5 wv L.length (L.map JG).flatten::A3 sb rb T1 (M+60)::PS b1 b3 b5 b7 0 0 false 0 l) τ5:=g8
   have g9:H (DZ wb sb L::A3 sb rb T1 (M+60)::AQ kv' (s.n.insN (BA s.n.keys key) key val).keys::AQ vv' (s.n.insN (BA s.n.keys key) key val).vals::PS b1 b3 b5 b7 0 0 false 0 l) τ5:=IL.2 ⟨wv,hok,g8.re⟩
   refine bX (n:=s.n.insN (BA s.n.keys key) key val) g9 (by omega) (lJ hso.sm hkey hval) hil.2 (by omega) (fun e=>hst (by rw [e]; rfl)) ?_ ?_
   ·intro e T6 τ6 he hw g10
    rw [ET]
    refine pan (A:=[]) he (by omega) g10 ?_
    intro τ7 q2
    exact hno e T6 τ7 he (by rw [hw]; rfl) q2
   ·intro T6 L6 τ6 hl6 hw g10
    rw [hw] at hst hno hyes
    simp only [R.bind_ok] at hst hno hyes
    rw [CD,decide_eq_false gk']
    exact k17 L6 T6 0 false τ6 hl6 hst hno hyes g10
  ·rw [if_neg h400] at hst
   exact absurd rfl hst
end Go.Ax.C
set_option maxRecDepth 100000
namespace Go.Ax.C
open Go.Proofs Go.RowKit
variable {l r r2 m:List AK} {σ:AHeap} {Q:RK}
def Nd.remN (n:Nd) (i:Nat):Nd:=⟨n.leaf,W1 i true n.keys,W1 i false n.vals⟩
def Nd.join (a b:Nd):Nd:=⟨a.leaf,a.keys++b.keys,a.vals++b.vals⟩
def Nd.evA (a b:Nd):Nd:=⟨a.leaf,(a.keys++b.keys).take (H0 a b),(a.vals++b.vals).take (H0 a b)⟩
def Nd.evB (a b:Nd):Nd:=⟨a.leaf,(a.keys++b.keys).drop (H0 a b),(a.vals++b.vals).drop (H0 a b)⟩
theorem MP {a b:Nd} (ha:a.small) (hb:b.small):(a.join b).small:=by
 refine ⟨fun x hx=>?_,fun x hx=>?_⟩
 ·rcases List.mem_append.1 hx with h | h
  ·exact ha.1 x h
  ·exact hb.1 x h
 ·rcases List.mem_append.1 hx with h | h
  ·exact ha.2 x h
  ·exact hb.2 x h
theorem lE {a b:Nd} (ha:a.small) (hb:b.small):(a.evA b).small:=⟨fun x hx=>(MP ha hb).1 x (List.mem_of_mem_take hx),fun x hx=>(MP ha hb).2 x (List.mem_of_mem_take hx)⟩
theorem l8 {a b:Nd} (ha:a.small) (hb:b.small):(a.evB b).small:=⟨fun x hx=>(MP ha hb).1 x (List.mem_of_mem_drop hx),fun x hx=>(MP ha hb).2 x (List.mem_of_mem_drop hx)⟩
theorem kO {n:Nd} {i:Nat} (h:n.small):(n.remN i).small:=by
 refine ⟨fun x hx=>?_,fun x hx=>?_⟩
 ·rcases List.mem_append.1 hx with h1 | h1
  ·exact h.1 x (List.mem_of_mem_take h1)
  ·exact h.1 x (List.mem_of_mem_drop h1)
 ·rcases List.mem_append.1 hx with h1 | h1
  ·exact h.2 x (List.mem_of_mem_take h1)
  ·exact h.2 x (List.mem_of_mem_drop h1)
def eG (T:TS) (a:Nat) (n:Nd):R Unit:=if n.May then if a<T.now.length then .ok () (T.put a n) else .stuck else .err 1 T
theorem uA {sb rb a:Nat} {T:TS} {M:Nat} {n:Nd} {kv vv:Value} (h:H (A3 sb rb T M::l) σ) (hM:M≤100000000000) (hn:MV l kv vv n) (hs:n.small) (hk9:n.keys.length<9223372036854775808) (hv9:n.vals.length<9223372036854775808) (ha:a<2147483648)
 (hst:eG T a n≠.stuck)
 (hno:∀ (e:Nat) T' σ',e≠0→eG T a n=.err e T'→H (A3 sb rb T' (M+1)::l) σ'→Q (.ret (.int .i64 e)) σ')
 (hyes:∀ T' σ',eG T a n=.ok () T'→H (A3 sb rb T' (M+1)::l) σ'→Q (.ret (.int .i64 0)) σ') :
 E CH [.pointer (some ⟨sb,0,none⟩),.int .u64 a,.agg #[.bool n.leaf,kv,vv]] σ Q:=by
 unfold eG at hst hno hyes
 refine w9 h hM hn hs hk9 hv9 ?_ ?_ ?_
 ·intro hor σ1 h1
  have hm:¬ n.May:=by
   rcases hor with h | h
   ·omega
   ·exact h
  rw [if_neg hm] at hno
  exact hno 1 T σ1 (by decide) rfl (B8 (by omega) h1)
 ·intro _ hm hge σ1 h1
  rw [if_pos hm,if_neg (by omega)] at hst
  exact absurd rfl hst
 ·intro hm hlt σ1 h1
  rw [if_pos hm,if_pos hlt] at hyes
  exact hyes _ σ1 rfl h1
def K9 (P:List Wp) (k:Nat) (upn:Nd) (left right aa:Nat) (an:Nd) (ab:Nat) (bn:Nd) (T:TS):R (List Wp) :=
 if left<upn.keys.length∧right<upn.keys.length then
  if an.keys.length+bn.keys.length≤8 then
   (eG T aa (an.join bn)).bind fun _ T=>(T.dec ab).bind fun _ T=>match (an.join bn).keys[0]? with
    | none=>.stuck
    | some j0=>D6 P (k - 1) ((upn.setN left j0 aa).remN right) T
  else (eG T aa (an.evA bn)).bind fun _ T=>(eG T ab (an.evB bn)).bind fun _ T=>match (an.evA bn).keys[0]?,(an.evB bn).keys[0]? with
   | some c0,some d0=>D6 P (k - 1) ((upn.setN left c0 aa).setN right d0 ab) T
   | _,_=>.stuck
 else .stuck
theorem ACq {T T':TS} {a:Nat} {b:Bool} (h:T.dec a=.ok b T'):T'.now.length=T.now.length∧T'.was=T.was∧T'.g=T.g∧a<T.now.length:=by
 unfold TS.dec at h
 split at h
 ·cases h
 ·rename_i x hx
  split at h
  ·cases h
  ·cases h; exact ⟨by simp,rfl,rfl,(List.getElem?_eq_some_iff.1 hx).1⟩
set_option maxHeartbeats 2000000 in
theorem p3 {wb sb rb k left right aa ab ba bb bu z1 z2:Nat} {an bn:Nd} {ka va kb vb:Value} {up:Sp} {T:TS} {M:Nat} {L:List Sp}
 (h:H (pt ba (.cells [.int .u64 aa,.bool an.leaf,ka,va,.int .i64 z1] AB false)::pt bb (.cells [.int .u64 ab,.bool bn.leaf,kb,vb,.int .i64 z2] AB false)::pt bu (.cells (JG up) AB false) ::
  AQ ka an.keys::AQ va an.vals::AQ kb bn.keys::AQ vb bn.vals::AQ up.kv up.n.keys::AQ up.vv up.n.vals::DZ wb sb L::A3 sb rb T M::l) σ)
 (hM:M≤99000000000) (hk:0<k∧k≤100) (han:an.small∧an.vals.length=an.keys.length∧an.keys.length≤400) (hbn:bn.small∧bn.vals.length=bn.keys.length∧bn.keys.length≤400) (VV:TO up) (haa:aa<2147483648) (hab:ab<2147483648)
 (hst:K9 (L.map Sp.w) k up.n left right aa an ab bn T≠.stuck)
 (hno:∀ e T' σ',e≠0→K9 (L.map Sp.w) k up.n left right aa an ab bn T=.err e T'→H (A3 sb rb T' (M+3)::l) σ'→Q (.pan (flt e)) σ')
 (hyes:∀ T' L' σ',L'.length=L.length→K9 (L.map Sp.w) k up.n left right aa an ab bn T=.ok (L'.map Sp.w) T'→H (DZ wb sb L'::A3 sb rb T' (M+3)::l) σ'→Q (.ret (.tuple #[])) σ') :
 GQ E Q ba bb wb k bu left right σ:=by
 unfold GQ
 have h:H (pt ba (.cells [.int .u64 aa,.bool an.leaf,ka,va,.int .i64 z1] AB false)::pt bb (.cells [.int .u64 ab,.bool bn.leaf,kb,vb,.int .i64 z2] AB false)::pt bu (.cells [.int .u64 up.at',.bool up.n.leaf,up.kv,up.vv,.int .i64 up.nx] AB false) ::
  AQ ka an.keys::AQ va an.vals::AQ kb bn.keys::AQ vb bn.vals::AQ up.kv up.n.keys::AQ up.vv up.n.vals::DZ wb sb L::A3 sb rb T M::l) σ:=h
 have hla:BH ka=some (.int .i64 an.keys.length):=by obtain ⟨a,c,hv⟩:=AW (h.fnd (AQ ka an.keys)); rw [hv]; rfl
 have hlb:BH kb=some (.int .i64 bn.keys.length):=by obtain ⟨a,c,hv⟩:=AW (h.fnd (AQ kb bn.keys)); rw [hv]; rfl
 rw [LV h,hla,AH,LV h,hlb,AH]
 refine E1 ((an.keys.length+bn.keys.length:Nat):Int) (by omega) ?_
 unfold K9 at hst hno hyes
 by_cases hlr:left<up.n.keys.length∧right<up.n.keys.length
 case neg=>rw [if_neg hlr] at hst; exact absurd rfl hst
 rw [if_pos hlr] at hst hno hyes
 have hul:=VV.le
 have hue:=VV.eq
 -- the shelf's pointer,the way's
 have pS:∀ {τ:AHeap} {A:List AK},H (DZ wb sb L::A) τ→Ax.L wb 0 τ=some (.pointer (some ⟨sb,0,none⟩)):=by
  intro τ A ht
  obtain ⟨wv,_,h2⟩:=IL.1 ht
  exact t4 h2
 have hns:MV (pt ba (.cells [.int .u64 aa,.bool an.leaf,ka,va,.int .i64 z1] AB false)::pt bb (.cells [.int .u64 ab,.bool bn.leaf,kb,vb,.int .i64 z2] AB false)::pt bu (.cells [.int .u64 up.at',.bool up.n.leaf,up.kv,up.vv,.int .i64 up.nx] AB false) ::
  AQ ka an.keys::AQ va an.vals::AQ kb bn.keys::AQ vb bn.vals::AQ up.kv up.n.keys::AQ up.vv up.n.vals::DZ wb sb L::A3 sb rb T M::l) ka va an:=fun τ ht=>MV.two (l:=l) τ ht.re
 have hnb:MV (pt ba (.cells [.int .u64 aa,.bool an.leaf,ka,va,.int .i64 z1] AB false)::pt bb (.cells [.int .u64 ab,.bool bn.leaf,kb,vb,.int .i64 z2] AB false)::pt bu (.cells [.int .u64 up.at',.bool up.n.leaf,up.kv,up.vv,.int .i64 up.nx] AB false) ::
  AQ ka an.keys::AQ va an.vals::AQ kb bn.keys::AQ vb bn.vals::AQ up.kv up.n.keys::AQ up.vv up.n.vals::DZ wb sb L::A3 sb rb T M::l) kb vb bn:=fun τ ht=>MV.two (l:=l) τ ht.re
 refine AS (fun g=>?_) fun g=>?_
 ·rw [if_pos (by omega)] at hst hno hyes
  rw [LB h,LV h,LV h,LB h,LV h,LV h]
  refine ADI h hns hnb han.2.1.symm hbn.2.1.symm (by omega) (by omega) ?_
  intro k1 v1 σ1 h1
  rw [CC]
  obtain ⟨ak1,ck1,hk1⟩:=AW h1
  obtain ⟨av1,cv1,hv1⟩:=AW h1.tail
  have ok1:one k1=true:=by rw [hk1]; rfl
  have ok2:one v1=true:=by rw [hv1]; rfl
  refine nw h1 ?_
  intro bj σ2 h2
  refine bH h2 rfl ok1 ok2 ?_
  intro σ3 h3
  have h4:H (A3 sb rb T M::DZ wb sb L::AQ k1 (an.join bn).keys::AQ v1 (an.join bn).vals::pt bj (.cells [.bool an.leaf,k1,v1] AG false)::pt ba (.cells [.int .u64 aa,.bool an.leaf,ka,va,.int .i64 z1] AB false)::pt bb (.cells [.int .u64 ab,.bool bn.leaf,kb,vb,.int .i64 z2] AB false)::pt bu (.cells [.int .u64 up.at',.bool up.n.leaf,up.kv,up.vv,.int .i64 up.nx] AB false)::AQ up.kv up.n.keys::AQ up.vv up.n.vals::l) σ3:=by
   have q:H (pt bj (.cells [.bool an.leaf,k1,v1] AG false)::AQ k1 (an.join bn).keys::AQ v1 (an.join bn).vals::pt ba (.cells [.int .u64 aa,.bool an.leaf,ka,va,.int .i64 z1] AB false)::pt bb (.cells [.int .u64 ab,.bool bn.leaf,kb,vb,.int .i64 z2] AB false)::pt bu (.cells [.int .u64 up.at',.bool up.n.leaf,up.kv,up.vv,.int .i64 up.nx] AB false) ::
    AQ ka an.keys::AQ va an.vals::AQ kb bn.keys::AQ vb bn.vals::AQ up.kv up.n.keys::AQ up.vv up.n.vals::DZ wb sb L::A3 sb rb T M::l) σ3:=h3
   exact q.re
  rw [pS h4.tail,AD,LI h4,LB h4,LV h4,LV h4]
  have hjl:(an.join bn).keys.length=an.keys.length+bn.keys.length∧(an.join bn).vals.length=an.keys.length+bn.keys.length:=by have:=han.2.1; have:=hbn.2.1; simp [Nd.join]; omega
  refine uA (n:=an.join bn) h4 (by omega) (fun τ ht=>MV.two (l:=l) τ ht.re) (MP han.1 hbn.1) (by omega) (by omega) haa (fun e=>hst (by rw [e]; rfl)) ?_ ?_
  ·intro e T1 τ1 he hsv h5
   rw [A9]
   refine TM he ?_
   rw [ET]
   have h6:H (A3 sb rb T1 (M+1)::l) τ1:=h5.re
   exact hno e T1 τ1 he (by rw [hsv]; rfl) (B8 (by omega) h6)
  intro T1 τ1 hsv h5
  rw [hsv] at hst hno hyes
  simp only [R.bind_ok] at hst hno hyes
  rw [A9]
  refine VZ ?_
  rw [CD,pS h5.tail,AD]
  have hp0:AF false 1 (.pointer (some ⟨sb,0,none⟩)) τ1=some (.pointer (some ⟨rb,0,none⟩)):=vC h5
  simp only [ED,AD,AO,Nat.zero_add]
  rw [hp0,AD,LI h5]
  refine E1 (ab:Int) (by omega) ?_
  refine rF h5 rfl (fun e=>hst (by rw [e]; rfl)) ?_ ?_
  ·intro e τ2 he hd h6
   rw [BS,C8,AT]
   refine TM he ?_
   rw [ET]
   have h7:H (A3 sb rb T1 (M+1)::l) τ2:=h6.re
   exact hno e T1 τ2 he (by rw [hd]; rfl) (B8 (by omega) h7)
  intro bd T2 τ2 hd h6
  have hdn:=ACq hd
  rw [hd] at hst hno hyes
  simp only [R.bind_ok] at hst hno hyes
  rw [BS,C8,AT]
  refine VZ ?_
  rw [CD]
  refine E1 ((k - 1:Nat):Int) (by omega) ?_
  rw [LB h6,LV h6,LV h6,LV h6]
  cases hj0:(an.join bn).keys[0]? with
  | none=>rw [hj0] at hst; exact absurd rfl hst
  | some j0 =>
  rw [hj0] at hst hno hyes
  simp only at hst hno hyes
  obtain ⟨p,ia,la⟩:=DS (CX (h6.fnd (AQ k1 (an.join bn).keys))) hj0
  rw [show (0:Int)=((0:Nat):Int) from rfl,ia,AD,la,AH,LI h6]
  have hj64:=(MP han.1 hbn.1).1 j0 (List.mem_of_getElem? hj0)
  refine ACU (lf:=up.n.leaf) (n:=up.n) h6 (fun τ ht=>MV.two (l:=l) τ ht.re) hue.symm (by omega) hlr.1 ?_
  intro k2 v2 τ3 h7
  rw [CC]
  have h7:H (AQ k2 (up.n.setN left j0 aa).keys::AQ v2 (up.n.setN left j0 aa).vals::A3 sb rb T2 (M+1)::DZ wb sb L::AQ k1 (an.join bn).keys::AQ v1 (an.join bn).vals::pt bj (.cells [.bool an.leaf,k1,v1] AG false)::pt ba (.cells [.int .u64 aa,.bool an.leaf,ka,va,.int .i64 z1] AB false)::pt bb (.cells [.int .u64 ab,.bool bn.leaf,kb,vb,.int .i64 z2] AB false)::pt bu (.cells [.int .u64 up.at',.bool up.n.leaf,up.kv,up.vv,.int .i64 up.nx] AB false)::AQ up.kv up.n.keys::AQ up.vv up.n.vals::l) τ3:=h7
  have hsl:(up.n.setN left j0 aa).keys.length=up.n.keys.length∧(up.n.setN left j0 aa).vals.length=up.n.keys.length:=by simp [Nd.setN,setF]; exact hue
  refine wI (lf:=up.n.leaf) (n:=up.n.setN left j0 aa) (i:=right) h7 MV.two (by omega) (by omega) (by omega) ?_
  intro k3 v3 τ4 h8
  rw [CC]
  have h8:H (AQ k3 ((up.n.setN left j0 aa).remN right).keys::AQ v3 ((up.n.setN left j0 aa).remN right).vals::AQ k2 (up.n.setN left j0 aa).keys::AQ v2 (up.n.setN left j0 aa).vals::A3 sb rb T2 (M+1)::DZ wb sb L::AQ k1 (an.join bn).keys::AQ v1 (an.join bn).vals::pt bj (.cells [.bool an.leaf,k1,v1] AG false)::pt ba (.cells [.int .u64 aa,.bool an.leaf,ka,va,.int .i64 z1] AB false)::pt bb (.cells [.int .u64 ab,.bool bn.leaf,kb,vb,.int .i64 z2] AB false)::pt bu (.cells [.int .u64 up.at',.bool up.n.leaf,up.kv,up.vv,.int .i64 up.nx] AB false)::AQ up.kv up.n.keys::AQ up.vv up.n.vals::l) τ4:=h8
  have h9:H (DZ wb sb L::A3 sb rb T2 (M+1)::AQ k3 ((up.n.setN left j0 aa).remN right).keys::AQ v3 ((up.n.setN left j0 aa).remN right).vals::l) τ4:=h8.re
  have hrl:((up.n.setN left j0 aa).remN right).keys.length=up.n.keys.length - 1∧((up.n.setN left j0 aa).remN right).vals.length=up.n.keys.length - 1:=by simp [Nd.remN,W1]; omega
  refine bX (n:=(up.n.setN left j0 aa).remN right) h9 (by omega) (kO (WH VV.sm hj64 (by omega))) (by omega) (by omega) hst ?_ ?_
  ·intro e T3 τ5 he hw h10
   rw [ET]
   exact hno e T3 τ5 he hw (B8 (by omega) h10)
  ·intro T3 L3 τ5 hl3 hw h10
   rw [CD]
   have h11:H (A3 sb rb T3 (M+1+1)::DZ wb sb L3::l) τ5:=h10.re
   exact hyes T3 L3 τ5 hl3 hw ((B8 (N:=M+3) (by omega) h11).perm (.swap _ _ _))
 ·rw [if_neg (by omega)] at hst hno hyes
  rw [LB h,LV h,LV h,LB h,LV h,LV h]
  refine AFp h hns hnb han.2.1.symm hbn.2.1.symm (by omega) (by omega) ?_
  intro k1 v1 k2 v2 σ1 h1
  rw [BS]
  obtain ⟨ak1,ck1,hk1⟩:=AW h1
  obtain ⟨av1,cv1,hv1⟩:=AW h1.tail
  obtain ⟨ak2,ck2,hk2⟩:=AW h1.tail.tail
  obtain ⟨av2,cv2,hv2⟩:=AW h1.tail.tail.tail
  refine nw h1 ?_
  intro bc σ2 h2
  refine nw h2 ?_
  intro bd σ3 h3
  refine bH h3 rfl (by rw [hk1]; rfl) (by rw [hv1]; rfl) ?_
  intro σ4 h4
  refine bH h4 rfl (by rw [hk2]; rfl) (by rw [hv2]; rfl) ?_
  intro σ5 h5
  have h6:H (A3 sb rb T M::DZ wb sb L::AQ k1 (an.evA bn).keys::AQ v1 (an.evA bn).vals::AQ k2 (an.evB bn).keys::AQ v2 (an.evB bn).vals::pt bc (.cells [.bool an.leaf,k1,v1] AG false)::pt bd (.cells [.bool an.leaf,k2,v2] AG false)::pt ba (.cells [.int .u64 aa,.bool an.leaf,ka,va,.int .i64 z1] AB false)::pt bb (.cells [.int .u64 ab,.bool bn.leaf,kb,vb,.int .i64 z2] AB false)::pt bu (.cells [.int .u64 up.at',.bool up.n.leaf,up.kv,up.vv,.int .i64 up.nx] AB false)::AQ up.kv up.n.keys::AQ up.vv up.n.vals::l) σ5:=by
   have q:H (pt bd (.cells [.bool an.leaf,k2,v2] AG false)::pt bc (.cells [.bool an.leaf,k1,v1] AG false)::AQ k1 (an.evA bn).keys::AQ v1 (an.evA bn).vals::AQ k2 (an.evB bn).keys::AQ v2 (an.evB bn).vals::pt ba (.cells [.int .u64 aa,.bool an.leaf,ka,va,.int .i64 z1] AB false)::pt bb (.cells [.int .u64 ab,.bool bn.leaf,kb,vb,.int .i64 z2] AB false)::pt bu (.cells [.int .u64 up.at',.bool up.n.leaf,up.kv,up.vv,.int .i64 up.nx] AB false) ::
    AQ ka an.keys::AQ va an.vals::AQ kb bn.keys::AQ vb bn.vals::AQ up.kv up.n.keys::AQ up.vv up.n.vals::DZ wb sb L::A3 sb rb T M::l) σ5:=h5
   exact q.re
  rw [pS h6.tail,AD,LI h6,LB h6,LV h6,LV h6]
  have hel:(an.evA bn).keys.length=H0 an bn∧(an.evA bn).vals.length=H0 an bn∧(an.evB bn).keys.length=an.keys.length+bn.keys.length - H0 an bn∧(an.evB bn).vals.length=an.keys.length+bn.keys.length - H0 an bn:=by
   have:=han.2.1; have:=hbn.2.1
   have:H0 an bn≤an.keys.length+bn.keys.length:=by unfold H0; omega
   simp [Nd.evA,Nd.evB]; omega
  have hek:1≤H0 an bn∧H0 an bn<an.keys.length+bn.keys.length:=by unfold H0; omega
  refine uA (n:=an.evA bn) h6 (by omega) (fun τ ht=>MV.two (l:=l) τ ht.re) (lE han.1 hbn.1) (by omega) (by omega) haa (fun e=>hst (by rw [e]; rfl)) ?_ ?_
  ·intro e T1 τ1 he hsv h7
   rw [A9]
   refine TM he ?_
   rw [ET]
   have h8:H (A3 sb rb T1 (M+1)::l) τ1:=h7.re
   exact hno e T1 τ1 he (by rw [hsv]; rfl) (B8 (by omega) h8)
  intro T1 τ1 hsv h7
  rw [hsv] at hst hno hyes
  simp only [R.bind_ok] at hst hno hyes
  rw [A9]
  refine VZ ?_
  rw [CD,pS h7.tail,AD,LI h7,LB h7,LV h7,LV h7]
  refine uA (n:=an.evB bn) h7 (by omega) (fun τ ht=>MV.two (l:=l) τ ht.re) (l8 han.1 hbn.1) (by omega) (by omega) hab (fun e=>hst (by rw [e]; rfl)) ?_ ?_
  ·intro e T2 τ2 he hsv2 h8
   rw [A9]
   refine TM he ?_
   rw [ET]
   have h9:H (A3 sb rb T2 (M+1+1)::l) τ2:=h8.re
   exact hno e T2 τ2 he (by rw [hsv2]; rfl) (B8 (by omega) h9)
  intro T2 τ2 hsv2 h8
  rw [hsv2] at hst hno hyes
  simp only [R.bind_ok] at hst hno hyes
  obtain ⟨c0',hc0⟩:∃ c0,(an.evA bn).keys[0]?=some c0:=⟨_,List.getElem?_eq_getElem (by omega)⟩
  obtain ⟨d0,hd0⟩:∃ d0,(an.evB bn).keys[0]?=some d0:=⟨_,List.getElem?_eq_getElem (by omega)⟩
  rw [hc0,hd0] at hst hno hyes
  simp only at hst hno hyes
  have hc64:=(lE han.1 hbn.1).1 c0' (List.mem_of_getElem? hc0)
  have hd64:=(l8 han.1 hbn.1).1 d0 (List.mem_of_getElem? hd0)
  rw [A9]
  refine VZ ?_
  rw [CD]
  refine E1 ((k - 1:Nat):Int) (by omega) ?_
  rw [LB h8,LV h8,LV h8,LV h8]
  obtain ⟨p,ia,la⟩:=DS (CX (h8.fnd (AQ k1 (an.evA bn).keys))) hc0
  obtain ⟨p2,ia2,la2⟩:=DS (CX (h8.fnd (AQ k2 (an.evB bn).keys))) hd0
  rw [show (0:Int)=((0:Nat):Int) from rfl,ia,AD,la,AH,LI h8,LV h8,ia2,AD,la2,AH,LI h8]
  refine ACU (lf:=up.n.leaf) (n:=up.n) h8 (fun τ ht=>MV.two (l:=l) τ ht.re) hue.symm (by omega) hlr.1 ?_
  intro k3 v3 τ3 h9
  have h9:H (AQ k3 (up.n.setN left c0' aa).keys::AQ v3 (up.n.setN left c0' aa).vals::A3 sb rb T2 (M+1+1)::DZ wb sb L::AQ k1 (an.evA bn).keys::AQ v1 (an.evA bn).vals::AQ k2 (an.evB bn).keys::AQ v2 (an.evB bn).vals::pt bc (.cells [.bool an.leaf,k1,v1] AG false)::pt bd (.cells [.bool an.leaf,k2,v2] AG false)::pt ba (.cells [.int .u64 aa,.bool an.leaf,ka,va,.int .i64 z1] AB false)::pt bb (.cells [.int .u64 ab,.bool bn.leaf,kb,vb,.int .i64 z2] AB false)::pt bu (.cells [.int .u64 up.at',.bool up.n.leaf,up.kv,up.vv,.int .i64 up.nx] AB false)::AQ up.kv up.n.keys::AQ up.vv up.n.vals::l) τ3:=h9
  have hsl:(up.n.setN left c0' aa).keys.length=up.n.keys.length∧(up.n.setN left c0' aa).vals.length=up.n.keys.length:=by simp [Nd.setN,setF]; exact hue
  rw [CC,LV h9,UV ⟨_,_,_,hk2⟩,kP (CX (h9.fnd (AQ k2 (an.evB bn).keys))) hd0 ia2,AH,CE,LI h9,CE]
  refine ACU (lf:=up.n.leaf) (n:=up.n.setN left c0' aa) (i:=right) h9 MV.two (by omega) (by omega) (by omega) ?_
  intro k4 v4 τ4 h10
  rw [CC]
  have h10:H (AQ k4 ((up.n.setN left c0' aa).setN right d0 ab).keys::AQ v4 ((up.n.setN left c0' aa).setN right d0 ab).vals::AQ k3 (up.n.setN left c0' aa).keys::AQ v3 (up.n.setN left c0' aa).vals::A3 sb rb T2 (M+1+1)::DZ wb sb L::AQ k1 (an.evA bn).keys::AQ v1 (an.evA bn).vals::AQ k2 (an.evB bn).keys::AQ v2 (an.evB bn).vals::pt bc (.cells [.bool an.leaf,k1,v1] AG false)::pt bd (.cells [.bool an.leaf,k2,v2] AG false)::pt ba (.cells [.int .u64 aa,.bool an.leaf,ka,va,.int .i64 z1] AB false)::pt bb (.cells [.int .u64 ab,.bool bn.leaf,kb,vb,.int .i64 z2] AB false)::pt bu (.cells [.int .u64 up.at',.bool up.n.leaf,up.kv,up.vv,.int .i64 up.nx] AB false)::AQ up.kv up.n.keys::AQ up.vv up.n.vals::l) τ4:=h10
  have h11:H (DZ wb sb L::A3 sb rb T2 (M+1+1)::AQ k4 ((up.n.setN left c0' aa).setN right d0 ab).keys::AQ v4 ((up.n.setN left c0' aa).setN right d0 ab).vals::l) τ4:=h10.re
  have hrl:((up.n.setN left c0' aa).setN right d0 ab).keys.length=up.n.keys.length∧((up.n.setN left c0' aa).setN right d0 ab).vals.length=up.n.keys.length:=by simp [Nd.setN,setF]; exact hue
  refine bX (n:=(up.n.setN left c0' aa).setN right d0 ab) h11 (by omega) (WH (WH VV.sm hc64 (by omega)) hd64 (by omega)) (by omega) (by omega) hst ?_ ?_
  ·intro e T3 τ5 he hw h12
   rw [ET]
   exact hno e T3 τ5 he hw h12
  ·intro T3 L3 τ5 hl3 hw h12
   rw [CD]
   exact hyes T3 L3 τ5 hl3 hw h12
end Go.Ax.C
set_option maxRecDepth 100000
namespace Go.Ax.C
open Go.Proofs Go.RowKit
variable {l r r2 m:List AK} {σ:AHeap} {Q:RK}
def fC (P:List Wp) (k:Nat) (x up:Wp) (T:TS):R (List Wp) :=
 if up.nx+1=up.n.keys.length then
  if up.nx=0 then .err 23 T else match up.n.vals[up.nx - 1]? with
   | none=>.stuck
   | some v=>(T.shadow v).bind fun q T=>K9 P k up.n (up.nx - 1) up.nx q.1 q.2 x.at' x.n T
 else match up.n.vals[up.nx+1]? with
  | none=>.stuck
  | some v=>(T.shadow v).bind fun q T=>K9 P k up.n up.nx (up.nx+1) x.at' x.n q.1 q.2 T
def nI (P:List Wp) (k:Nat) (x up:Wp) (T:TS):R (List Wp) :=
 if 0<x.n.keys.length then match up.n.keys[up.nx]?,x.n.keys[0]? with
  | some uk,some x0=>if uk=x0 then .ok P T else QI P (k - 1) up.nx x0 x.at' T
  | _,_=>.stuck
 else .ok P T
def UD (P:List Wp) (k:Nat) (T:TS):R (List Wp) :=
 if k=0 then .ok P T
 else match P[k]?,P[k - 1]? with
  | some x,some up=>(nI P k x up T).bind fun P T=>if 4≤x.n.keys.length then .ok P T else match P[k - 1]? with
    | none=>.stuck
    | some up=>fC P k x up T
  | _,_=>.stuck
theorem nV {a:Option Addr} {p:Prop}:(AX (.pointer a) (.pointer a)=true∧p)=p:=by
 have:AX (.pointer a) (.pointer a)=true:=by simp [AX,xE,aQ]
 simp [this]
theorem fR {b:Bool} {x y:Value} {p:Prop} (hx:∃ a n c,x=.slice a n c) (hy:∃ a n c,y=.slice a n c):(AX (.agg #[.bool b,x,y]) (.agg #[.bool b,x,y])=true∧p)=p:=by
 obtain ⟨a,n,c,rfl⟩:=hx
 obtain ⟨a2,n2,c2,rfl⟩:=hy
 have:AX (.agg #[.bool b,.slice a n c,.slice a2 n2 c2]) (.agg #[.bool b,.slice a n c,.slice a2 n2 c2])=true:=by simp [AX,xE,aQ,qI]
 simp [this]
theorem ABH {i j:Int} {b:Bool} {x y:Value} {p:Prop} (hx:∃ a n c,x=.slice a n c) (hy:∃ a n c,y=.slice a n c):(AX (.agg #[.int .u64 i,.bool b,x,y,.int .i64 j]) (.agg #[.int .u64 i,.bool b,x,y,.int .i64 j])=true∧p)=p:=by
 obtain ⟨a,n,c,rfl⟩:=hx
 obtain ⟨a2,n2,c2,rfl⟩:=hy
 have:AX (.agg #[.int .u64 i,.bool b,.slice a n c,.slice a2 n2 c2,.int .i64 j]) (.agg #[.int .u64 i,.bool b,.slice a n c,.slice a2 n2 c2,.int .i64 j])=true:=by simp [AX,xE,aQ,qI]
 simp [this]
theorem rdS {wb sb k b:Nat} {L:List Sp} {s:Sp} {wv:Value} (h:H (eY wb sb wv L l) σ) (hk:L[k]?=some s) (hi:AE 5 wv (.int .i64 (k:Nat))=some (.pointer (some ⟨b,k*5,none⟩))) (K:Prop) :
 (om (Ax.L wb 1 σ) fun v35=>AX v35 wv=true∧om (some (.pointer (some ⟨b,k*5,none⟩))) fun v36=>A2 .u64 (AF false 1 v36 σ) fun n37=>om (some (.pointer (some ⟨b,k*5+1,none⟩))) fun v38=>DF (AF false 1 v38 σ) fun c39 =>
  om (some (.pointer (some ⟨b,k*5+2,none⟩))) fun v40=>om (AF false 1 v40 σ) fun v41=>om (some (.pointer (some ⟨b,k*5+3,none⟩))) fun v42=>om (AF false 1 v42 σ) fun v43=>om (some (.pointer (some ⟨b,k*5+4,none⟩))) fun v44=>A2 .i64 (AF false 1 v44 σ) fun n45 =>
  AX (.agg #[(.int .u64 n37),(.bool c39),v41,v43,(.int .i64 n45)]) (.agg #[(.int .u64 s.at'),(.bool s.n.leaf),s.kv,s.vv,(.int .i64 s.nx)])=true∧K)=K:=by
 obtain ⟨b',c,hwv,e1,e2,e3,e4,e5,e6⟩:=NG h hk
 have hbb:b'=b:=by
  have:=e1 .i64
  rw [hi] at this
  simp at this; exact this.symm
 subst hbb
 have h3:H (B2 L::l) σ:=h.re
 have h4:=H9 h3 (List.mem_of_getElem? hk)
 obtain ⟨a1,c1,hkv⟩:=AW h4
 obtain ⟨a2,c2,hvv⟩:=AW h4.tail
 rw [LV h,UV ⟨_,_,_,hwv⟩]
 simp only [AD]
 rw [e2,AH,e3,BR,e4,AD,e5,AD,e6,AH]
 exact ABH ⟨_,_,_,hkv⟩ ⟨_,_,_,hvv⟩
abbrev IM (a:Nat) (n:Nd) (kv vv:Value) (nx:Nat):List Value:=[.int .u64 a,.bool n.leaf,kv,vv,.int .i64 nx]
set_option maxHeartbeats 2000000 in
theorem AAD {wb sb rb k left right bes av bx bn bu:Nat} {x up:Sp} {nn:Nd} {kn vn:Value} {T:TS} {M:Nat} {L:List Sp}
 (h:H (pt bx (.cells (IM x.at' x.n x.kv x.vv x.nx) AB false)::pt bn (.cells [.bool nn.leaf,kn,vn] AG false)::pt bu (.cells (IM up.at' up.n up.kv up.vv up.nx) AB false) ::
  AQ x.kv x.n.keys::AQ x.vv x.n.vals::AQ kn nn.keys::AQ vn nn.vals::AQ up.kv up.n.keys::AQ up.vv up.n.vals::DZ wb sb L::A3 sb rb T M::l) σ)
 (hM:M≤98000000000) (hk:0<k∧k≤100) (hx:TO x) (hnn:nn.small∧nn.vals.length=nn.keys.length∧nn.keys.length≤400) (VV:TO up) (hav:av<2147483648)
 (R0:R (List Wp)) (hR:R0=if bes=left then K9 (L.map Sp.w) k up.n left right av nn x.at' x.n T else K9 (L.map Sp.w) k up.n left right x.at' x.n av nn T)
 (hst:R0≠.stuck)
 (hno:∀ e T' σ',e≠0→R0=.err e T'→H (A3 sb rb T' (M+3)::l) σ'→Q (.pan (flt e)) σ')
 (hyes:∀ T' L' σ',L'.length=L.length→R0=.ok (L'.map Sp.w) T'→H (DZ wb sb L'::A3 sb rb T' (M+3)::l) σ'→Q (.ret (.tuple #[])) σ') :
 CZ E Q 0 bx av bn bes left wb k bu right σ:=by
 unfold CZ
 refine VZ ?_
 rw [CD]
 obtain ⟨SF,hSF⟩:∃ SF,SF=AY [pt bx (.cells (IM x.at' x.n x.kv x.vv x.nx) AB false),pt bn (.cells [.bool nn.leaf,kn,vn] AG false)]:=⟨_,rfl⟩
 have hfr:∀ {τ:AHeap} {A:List AK},H (SF::A) τ→H (pt bx (.cells (IM x.at' x.n x.kv x.vv x.nx) AB false)::pt bn (.cells [.bool nn.leaf,kn,vn] AG false)::[]) τ:=fun {τ A} ht=>by
  rw [hSF,A8] at ht
  exact ht.left
 have h1:H (SF::pt bu (.cells (IM up.at' up.n up.kv up.vv up.nx) AB false)::AQ x.kv x.n.keys::AQ x.vv x.n.vals::AQ kn nn.keys::AQ vn nn.vals::AQ up.kv up.n.keys::AQ up.vv up.n.vals::DZ wb sb L::A3 sb rb T M::l) σ:=by
  rw [hSF,A8]; exact h
 obtain ⟨a1,c1,hkx⟩:=AW (h1.fnd (AQ x.kv x.n.keys))
 obtain ⟨a2,c2,hvx⟩:=AW (h1.fnd (AQ x.vv x.n.vals))
 obtain ⟨a3,c3,hkn⟩:=AW (h1.fnd (AQ kn nn.keys))
 obtain ⟨a4,c4,hvn⟩:=AW (h1.fnd (AQ vn nn.vals))
 have rd:∀ {τ:AHeap} {A:List AK} (K:Prop),H (SF::A) τ→((A2 .u64 (Ax.L bx 0 τ) fun n233=>AX (.int .u64 n233) (.int .u64 x.at')=true∧DF (Ax.L bx 1 τ) fun c234=>om (Ax.L bx 2 τ) fun v235=>om (Ax.L bx 3 τ) fun v236=>AX (.agg #[(.bool c234),v235,v236]) (.agg #[(.bool x.n.leaf),x.kv,x.vv])=true∧DF (Ax.L bn 0 τ) fun c237=>om (Ax.L bn 1 τ) fun v238=>om (Ax.L bn 2 τ) fun v239=>AX (.agg #[(.bool c237),v238,v239]) (.agg #[(.bool nn.leaf),kn,vn])=true∧K)=K):=by
  intro τ A K ht
  have f:=hfr ht
  rw [LI f,CE,LB f,LV f,LV f,fR ⟨_,_,_,hkx⟩ ⟨_,_,_,hvx⟩,LB f,LV f,LV f,fR ⟨_,_,_,hkn⟩ ⟨_,_,_,hvn⟩]
 have rd2:∀ {τ:AHeap} {A:List AK} (K:Prop),H (SF::A) τ→((DF (Ax.L bn 0 τ) fun c237=>om (Ax.L bn 1 τ) fun v238=>om (Ax.L bn 2 τ) fun v239=>AX (.agg #[(.bool c237),v238,v239]) (.agg #[(.bool nn.leaf),kn,vn])=true∧K)=K):=by
  intro τ A K ht
  have f:=hfr ht
  rw [LB f,LV f,LV f,fR ⟨_,_,_,hkn⟩ ⟨_,_,_,hvn⟩]
 -- with both copies
 have k16:∀ {τ:AHeap} {ba bb:Nat},H (pt ba (.cells (IM x.at' x.n x.kv x.vv 0) AB false)::pt bb (.cells (IM av nn kn vn 0) AB false)::SF::pt bu (.cells (IM up.at' up.n up.kv up.vv up.nx) AB false)::AQ x.kv x.n.keys::AQ x.vv x.n.vals::AQ kn nn.keys::AQ vn nn.vals::AQ up.kv up.n.keys::AQ up.vv up.n.vals::DZ wb sb L::A3 sb rb T M::l) τ→GS E Q bes left bb ba wb k bu right τ:=by
  intro τ ba bb ht
  unfold GS
  refine AS (fun g=>?_) fun g=>?_
  ·rw [if_pos (by omega)] at hR
   subst hR
   rw [LI ht,LB ht,LV ht,LV ht,LI ht,LI ht,LB ht,LV ht,LV ht,LI ht]
   refine KN (vs:=[.int .u64 (av:Nat),.bool nn.leaf,kn,vn,.int .i64 0]) ht rfl rfl (by rw [hkn,hvn]; rfl) ?_
   intro τ1 h2
   refine KN (vs:=[.int .u64 (x.at':Nat),.bool x.n.leaf,x.kv,x.vv,.int .i64 0]) (h2.perm (.swap _ _ _)) rfl rfl (by rw [hkx,hvx]; rfl) ?_
   intro τ2 h3
   have h4:H (pt ba (.cells [.int .u64 av,.bool nn.leaf,kn,vn,.int .i64 (0:Nat)] AB false)::pt bb (.cells [.int .u64 x.at',.bool x.n.leaf,x.kv,x.vv,.int .i64 (0:Nat)] AB false)::pt bu (.cells (JG up) AB false)::AQ kn nn.keys::AQ vn nn.vals::AQ x.kv x.n.keys::AQ x.vv x.n.vals::AQ up.kv up.n.keys::AQ up.vv up.n.vals::DZ wb sb L::A3 sb rb T M::l) τ2:=by
    have q:H (pt ba (.cells (IM av nn kn vn 0) AB false)::pt bb (.cells (IM x.at' x.n x.kv x.vv 0) AB false)::pt bu (.cells (IM up.at' up.n up.kv up.vv up.nx) AB false)::AQ kn nn.keys::AQ vn nn.vals::AQ x.kv x.n.keys::AQ x.vv x.n.vals::AQ up.kv up.n.keys::AQ up.vv up.n.vals::DZ wb sb L::A3 sb rb T M::l) τ2:=h3.re
    exact q
   exact p3 h4 (by omega) hk hnn ⟨hx.sm,hx.eq,hx.le⟩ VV hav hx.at8 hst hno hyes
  ·rw [if_neg (by omega)] at hR
   subst hR
   have h4:H (pt ba (.cells [.int .u64 x.at',.bool x.n.leaf,x.kv,x.vv,.int .i64 (0:Nat)] AB false)::pt bb (.cells [.int .u64 av,.bool nn.leaf,kn,vn,.int .i64 (0:Nat)] AB false)::pt bu (.cells (JG up) AB false)::AQ x.kv x.n.keys::AQ x.vv x.n.vals::AQ kn nn.keys::AQ vn nn.vals::AQ up.kv up.n.keys::AQ up.vv up.n.vals::DZ wb sb L::A3 sb rb T M::l) τ:=by
    have q:H (pt ba (.cells (IM x.at' x.n x.kv x.vv 0) AB false)::pt bb (.cells (IM av nn kn vn 0) AB false)::pt bu (.cells (IM up.at' up.n up.kv up.vv up.nx) AB false)::AQ x.kv x.n.keys::AQ x.vv x.n.vals::AQ kn nn.keys::AQ vn nn.vals::AQ up.kv up.n.keys::AQ up.vv up.n.vals::DZ wb sb L::A3 sb rb T M::l) τ:=ht.re
    exact q
   exact p3 h4 (by omega) hk ⟨hx.sm,hx.eq,hx.le⟩ hnn VV hx.at8 hav hst hno hyes
 have f1:=hfr h1
 rw [LI f1,LB f1,LV f1,LV f1,LB f1,LV f1,LV f1]
 constructor
 ·refine nw h1 ?_
  intro ba τ1 h2
  rw [rd _ (h2.fnd SF)]
  refine nw h2 ?_
  intro bb τ2 h3
  rw [rd _ (h3.fnd SF)]
  refine KN (vs:=[.int .u64 (x.at':Nat),.bool x.n.leaf,x.kv,x.vv,.int .i64 0]) (h3.perm (.swap _ _ _)) rfl rfl (by rw [hkx,hvx]; rfl) ?_
  intro τ3 h4
  rw [rd2 _ (h4.fnd SF)]
  refine KN (vs:=[.int .u64 (av:Nat),.bool nn.leaf,kn,vn,.int .i64 0]) (h4.perm (.swap _ _ _)) rfl rfl (by rw [hkn,hvn]; rfl) ?_
  intro τ4 h5
  exact k16 (h5.perm (.swap _ _ _))
 ·refine nw h1 ?_
  intro bb τ1 h2
  rw [rd _ (h2.fnd SF)]
  refine nw h2 ?_
  intro ba τ2 h3
  rw [rd _ (h3.fnd SF)]
  refine KN (vs:=[.int .u64 (x.at':Nat),.bool x.n.leaf,x.kv,x.vv,.int .i64 0]) h3 rfl rfl (by rw [hkx,hvx]; rfl) ?_
  intro τ3 h4
  rw [rd2 _ (h4.fnd SF)]
  refine KN (vs:=[.int .u64 (av:Nat),.bool nn.leaf,kn,vn,.int .i64 0]) (h4.perm (.swap _ _ _)) rfl rfl (by rw [hkn,hvn]; rfl) ?_
  intro τ4 h5
  exact k16 (h5.perm (.swap _ _ _))
end Go.Ax.C
set_option maxRecDepth 100000
namespace Go.Ax.C
open Go.Proofs Go.RowKit
variable {l r r2 m:List AK} {σ:AHeap} {Q:RK}
theorem mG {wb sb:Nat} {L:List Sp} (h:H (DZ wb sb L::l) σ):Ax.L wb 0 σ=some (.pointer (some ⟨sb,0,none⟩)):=by
 obtain ⟨wv,_,h2⟩:=IL.1 h
 exact t4 h2
set_option maxHeartbeats 2000000 in
theorem pH {wb sb rb k left right bes v bx bu:Nat} {x up:Sp} {T:TS} {M:Nat} {L:List Sp} {F:Nat×Nd→TS→R (List Wp)}
 (h:H (pt bx (.cells (IM x.at' x.n x.kv x.vv x.nx) AB false)::pt bu (.cells (IM up.at' up.n up.kv up.vv up.nx) AB false) ::
  AQ x.kv x.n.keys::AQ x.vv x.n.vals::AQ up.kv up.n.keys::AQ up.vv up.n.vals::DZ wb sb L::A3 sb rb T M::l) σ)
 (hM:M≤97000000000) (hk:0<k∧k≤100) (hx:TO x) (VV:TO up) (hlr:left+right=bes+up.nx∧right≤2000) (hv:up.n.vals[bes]?=some v)
 (hF:∀ q T,F q T=if bes=left then K9 (L.map Sp.w) k up.n left right q.1 q.2 x.at' x.n T else K9 (L.map Sp.w) k up.n left right x.at' x.n q.1 q.2 T)
 (hst:(T.shadow v).bind F≠.stuck)
 (hno:∀ e T' σ',e≠0→(T.shadow v).bind F=.err e T'→H (A3 sb rb T' (M+5)::l) σ'→Q (.pan (flt e)) σ')
 (hyes:∀ T' L' σ',L'.length=L.length→(T.shadow v).bind F=.ok (L'.map Sp.w) T'→H (DZ wb sb L'::A3 sb rb T' (M+5)::l) σ'→Q (.ret (.tuple #[])) σ') :
 EX E Q wb left right bu bx k σ:=by
 unfold EX
 apply TY
 unfold NX
 refine AS (fun g=>absurd g (by omega)) fun _=>?_
 rw [A9]
 refine VZ ?_
 rw [CD]
 have hnx:=VV.nx
 have hbl:=(List.getElem?_eq_some_iff.1 hv).1
 have hul:=VV.le
 have hue:=VV.eq
 refine E1 ((left+right:Nat):Int) (by omega) ?_
 rw [LI h]
 refine E1 (bes:Int) (by omega) ?_
 have h1:H (DZ wb sb L::A3 sb rb T M::pt bx (.cells (IM x.at' x.n x.kv x.vv x.nx) AB false)::pt bu (.cells (IM up.at' up.n up.kv up.vv up.nx) AB false) ::
  AQ x.kv x.n.keys::AQ x.vv x.n.vals::AQ up.kv up.n.keys::AQ up.vv up.n.vals::l) σ:=h.re
 obtain ⟨a4,c4,hvu⟩:=AW (h1.fnd (AQ up.vv up.n.vals))
 obtain ⟨p,ia,la⟩:=DS (CX (h1.fnd (AQ up.vv up.n.vals))) hv
 rw [mG h1,AD,LV h,ia,AD,la,AH]
 have h2:H (A3 sb rb T M::DZ wb sb L::pt bx (.cells (IM x.at' x.n x.kv x.vv x.nx) AB false)::pt bu (.cells (IM up.at' up.n up.kv up.vv up.nx) AB false) ::
  AQ x.kv x.n.keys::AQ x.vv x.n.vals::AQ up.kv up.n.keys::AQ up.vv up.n.vals::l) σ:=h1.perm (.swap _ _ _)
 have hN:=(kY h2).hi
 -- behind it
 have bad:∀ {τ:AHeap} {e:Nat} {T1:TS} {bn a:Nat} {A:List AK},e≠0→T.shadow v=.err e T1→H (A3 sb rb T1 (M+2)::l) τ→CZ E Q e bx a bn bes left wb k bu right τ:=by
  intro τ e T1 bn a A he hsh ht
  unfold CZ
  refine TM he ?_
  rw [ET]
  exact hno e T1 τ he (by rw [hsh]; rfl) (B8 (by omega) ht)
 have good:∀ {τ:AHeap} {CB:Nat} {n:Nd} {T1:TS} {bn:Nat} {kn vn:Value},T.shadow v=.ok (CB,n) T1→n.May→n.small→CB<T.now.length→H (pt bn (.cells [.bool n.leaf,kn,vn] AG false)::AQ kn n.keys::AQ vn n.vals::A3 sb rb T1 (M+2)::DZ wb sb L::pt bx (.cells (IM x.at' x.n x.kv x.vv x.nx) AB false)::pt bu (.cells (IM up.at' up.n up.kv up.vv up.nx) AB false) ::
  AQ x.kv x.n.keys::AQ x.vv x.n.vals::AQ up.kv up.n.keys::AQ up.vv up.n.vals::l) τ→CZ E Q 0 bx CB bn bes left wb k bu right τ:=by
  intro τ CB n T1 bn kn vn hsh hm hs ho ht
  have h3:H (pt bx (.cells (IM x.at' x.n x.kv x.vv x.nx) AB false)::pt bn (.cells [.bool n.leaf,kn,vn] AG false)::pt bu (.cells (IM up.at' up.n up.kv up.vv up.nx) AB false) ::
   AQ x.kv x.n.keys::AQ x.vv x.n.vals::AQ kn n.keys::AQ vn n.vals::AQ up.kv up.n.keys::AQ up.vv up.n.vals::DZ wb sb L::A3 sb rb T1 (M+2)::l) τ:=ht.re
  have hmm:=hm.1
  rw [hsh] at hst hno hyes
  simp only [R.bind_ok] at hst hno hyes
  refine AAD h3 (by omega) hk hx ⟨hs,hmm.2.2,by omega⟩ VV (by omega) (F (CB,n) T1) (hF (CB,n) T1) hst ?_ ?_
  ·intro e T' σ' he he2 h4
   exact hno e T' σ' he he2 h4
  ·intro T' L' σ' hl he2 h4
   exact hyes T' L' σ' hl he2 h4
 constructor
 ·refine nE h2 (by omega) (fun e=>hst (by rw [e]; rfl)) ?_ ?_
  ·intro e T1 τ1 he hsh h3
   rw [MQ,AT,AT]
   refine nw h3 ?_
   intro bn τ2 h4
   have h5:H (DZ wb sb L::pt bu (.cells (IM up.at' up.n up.kv up.vv up.nx) AB false)::AQ up.vv up.n.vals::[]) τ2:=h4.re
   have h6:H (pt bu (.cells (IM up.at' up.n up.kv up.vv up.nx) AB false)::[]) τ2:=h4.re
   rw [mG h5,AD,nV,LV h6,UV ⟨_,_,_,hvu⟩,kP (CX (h5.fnd (AQ up.vv up.n.vals))) hv ia,AH,CE]
   refine bH h4 rfl rfl rfl ?_
   intro τ3 h7
   exact bad (A:=[]) he hsh h7.re
  ·intro CB n T1 kn vn τ1 hsh hm hs ho h3
   obtain ⟨a5,c5,hk5⟩:=AW h3
   obtain ⟨a6,c6,hv6⟩:=AW h3.tail
   rw [MQ,AT,AT]
   refine nw h3 ?_
   intro bn τ2 h4
   have h5:H (DZ wb sb L::pt bu (.cells (IM up.at' up.n up.kv up.vv up.nx) AB false)::AQ up.vv up.n.vals::[]) τ2:=h4.re
   have h6:H (pt bu (.cells (IM up.at' up.n up.kv up.vv up.nx) AB false)::[]) τ2:=h4.re
   rw [mG h5,AD,nV,LV h6,UV ⟨_,_,_,hvu⟩,kP (CX (h5.fnd (AQ up.vv up.n.vals))) hv ia,AH,CE]
   refine bH h4 rfl (by rw [hk5]; rfl) (by rw [hv6]; rfl) ?_
   intro τ3 h7
   exact good hsh hm hs ho h7
 ·refine nw h2 ?_
  intro bn τ1 h3
  have h5:H (DZ wb sb L::pt bu (.cells (IM up.at' up.n up.kv up.vv up.nx) AB false)::AQ up.vv up.n.vals::[]) τ1:=h3.re
  have h6:H (pt bu (.cells (IM up.at' up.n up.kv up.vv up.nx) AB false)::[]) τ1:=h3.re
  rw [mG h5,AD,nV,LV h6,UV ⟨_,_,_,hvu⟩,kP (CX (h5.fnd (AQ up.vv up.n.vals))) hv ia,AH,CE]
  refine nE (h3.perm (.swap _ _ _)) (by omega) (fun e=>hst (by rw [e]; rfl)) ?_ ?_
  ·intro e T1 τ2 he hsh h4
   rw [MQ,AT,AT]
   refine bH h4 rfl rfl rfl ?_
   intro τ3 h7
   exact bad (A:=[]) he hsh h7.re
  ·intro CB n T1 kn vn τ2 hsh hm hs ho h4
   obtain ⟨a5,c5,hk5⟩:=AW h4
   obtain ⟨a6,c6,hv6⟩:=AW h4.tail
   rw [MQ,AT,AT]
   refine bH h4 rfl (by rw [hk5]; rfl) (by rw [hv6]; rfl) ?_
   intro τ3 h7
   exact good (kn:=kn) (vn:=vn) hsh hm hs ho h7.re
set_option maxHeartbeats 2000000 in
theorem ACA {wb sb rb k bx bu:Nat} {x up0 up:Sp} {T:TS} {M:Nat} {L:List Sp}
 (h:H (pt bx (.cells (IM x.at' x.n x.kv x.vv x.nx) AB false)::pt bu (.cells (IM up0.at' up0.n up0.kv up0.vv up0.nx) AB false) ::
  AQ x.kv x.n.keys::AQ x.vv x.n.vals::DZ wb sb L::A3 sb rb T M::l) σ)
 (hM:M≤96000000000) (hk:0<k∧k≤100) (hx:TO x) (hu:L[k - 1]?=some up)
 (R0:R (List Wp)) (hR:R0=if 4≤x.n.keys.length then .ok (L.map Sp.w) T else fC (L.map Sp.w) k x.w up.w T) (hst:R0≠.stuck)
 (hno:∀ e T' σ',e≠0→R0=.err e T'→H (A3 sb rb T' (M+5)::l) σ'→Q (.pan (flt e)) σ')
 (hyes:∀ T' L' σ',L'.length=L.length→R0=.ok (L'.map Sp.w) T'→H (DZ wb sb L'::A3 sb rb T' (M+5)::l) σ'→Q (.ret (.tuple #[])) σ') :
 FG E Q bx wb k bu σ:=by
 unfold FG
 have hlx:BH x.kv=some (.int .i64 x.n.keys.length):=by obtain ⟨a,c,hv⟩:=AW (h.fnd (AQ x.kv x.n.keys)); rw [hv]; rfl
 rw [LV h,hlx,AH]
 refine AS (fun g=>?_) fun g=>?_
 ·rw [if_pos (by omega)] at hR
  have h1:H (A3 sb rb T M::DZ wb sb L::l) σ:=h.re
  exact hyes T L σ rfl hR ((B8 (N:=M+5) (by omega) h1).perm (.swap _ _ _))
 rw [if_neg (by omega)] at hR
 have h1:H (DZ wb sb L::pt bx (.cells (IM x.at' x.n x.kv x.vv x.nx) AB false)::pt bu (.cells (IM up0.at' up0.n up0.kv up0.vv up0.nx) AB false) ::
  AQ x.kv x.n.keys::AQ x.vv x.n.vals::A3 sb rb T M::l) σ:=h.re
 obtain ⟨wv,hok,h2⟩:=IL.1 h1
 have huo:=hok up (List.mem_of_getElem? hu)
 obtain ⟨b,c,hwv,e1,e2,e3,e4,e5,e6⟩:=NG h2 hu
 rw [LV h2]
 refine E1 ((k - 1:Nat):Int) (by omega) ?_
 rw [e1,AD]
 simp only [AO,AD,Nat.add_zero]
 rw [e2,AH,e3,BR,e4,AD,e5,AD,e6,AH]
 have h3:H (pt bu (.cells (IM up0.at' up0.n up0.kv up0.vv up0.nx) AB false)::AQ up.kv up.n.keys::AQ up.vv up.n.vals::DZ wb sb L::pt bx (.cells (IM x.at' x.n x.kv x.vv x.nx) AB false)::AQ x.kv x.n.keys::AQ x.vv x.n.vals::A3 sb rb T M::l) σ:=by
  have q:H (B2 L::pt wb (.cells [.pointer (some ⟨sb,0,none⟩),wv] A6 false)::AU AB 5 wv L.length (L.map JG).flatten::pt bx (.cells (IM x.at' x.n x.kv x.vv x.nx) AB false)::pt bu (.cells (IM up0.at' up0.n up0.kv up0.vv up0.nx) AB false) ::
   AQ x.kv x.n.keys::AQ x.vv x.n.vals::A3 sb rb T M::l) σ:=h2.re
  have q2:=H9 q (List.mem_of_getElem? hu)
  have q3:H (eY wb sb wv L (AQ up.kv up.n.keys::AQ up.vv up.n.vals::pt bx (.cells (IM x.at' x.n x.kv x.vv x.nx) AB false)::pt bu (.cells (IM up0.at' up0.n up0.kv up0.vv up0.nx) AB false) ::
   AQ x.kv x.n.keys::AQ x.vv x.n.vals::A3 sb rb T M::l)) σ:=q2.re
  have q4:H (DZ wb sb L::AQ up.kv up.n.keys::AQ up.vv up.n.vals::pt bx (.cells (IM x.at' x.n x.kv x.vv x.nx) AB false)::pt bu (.cells (IM up0.at' up0.n up0.kv up0.vv up0.nx) AB false) ::
   AQ x.kv x.n.keys::AQ x.vv x.n.vals::A3 sb rb T M::l) σ:=IL.2 ⟨wv,hok,q3⟩
  exact q4.re
 refine KN (vs:=[.int .u64 (up.at':Nat),.bool up.n.leaf,up.kv,up.vv,.int .i64 (up.nx:Nat)]) h3 rfl rfl (by simp only [List.all_cons,huo.o1,huo.o2,List.all_nil]; rfl) ?_
 intro σ1 h4
 have h5:H (pt bx (.cells (IM x.at' x.n x.kv x.vv x.nx) AB false)::pt bu (.cells (IM up.at' up.n up.kv up.vv up.nx) AB false) ::
  AQ x.kv x.n.keys::AQ x.vv x.n.vals::AQ up.kv up.n.keys::AQ up.vv up.n.vals::DZ wb sb L::A3 sb rb T M::l) σ1:=by
  have q:H (pt bu (.cells (IM up.at' up.n up.kv up.vv up.nx) AB false)::AQ up.kv up.n.keys::AQ up.vv up.n.vals::DZ wb sb L::pt bx (.cells (IM x.at' x.n x.kv x.vv x.nx) AB false)::AQ x.kv x.n.keys::AQ x.vv x.n.vals::A3 sb rb T M::l) σ1:=h4
  exact q.re
 have hlu:BH up.kv=some (.int .i64 up.n.keys.length):=by obtain ⟨a,c,hv⟩:=AW (h5.fnd (AQ up.kv up.n.keys)); rw [hv]; rfl
 have hnx:=huo.nx
 have hul:=huo.le
 have hue:=huo.eq
 rw [LI h5,LI h5]
 refine E1 ((up.nx+1:Nat):Int) (by omega) ?_
 rw [LV h5,hlu,AH]
 have hw:up.w=⟨up.at',up.n,up.nx⟩:=rfl
 have hwx:x.w=⟨x.at',x.n,x.nx⟩:=rfl
 rw [hw,hwx] at hR
 unfold fC at hR
 simp only at hR
 refine AS (fun g=>?_) fun g=>?_
 ·rw [if_pos (by omega)] at hR
  by_cases h0:up.nx=0
  ·rw [if_pos h0] at hR
   subst hR
   refine E1 (-1) (by omega) ?_
   unfold EX
   apply TY
   unfold NX
   refine AS (fun _=>?_) fun g=>absurd (by decide) g
   rw [A9]
   refine TM (e:=23) (by decide) ?_
   rw [ET]
   have h6:H (A3 sb rb T M::l) σ1:=h5.re
   exact hno 23 T σ1 (by decide) rfl (B8 (by omega) h6)
  ·rw [if_neg h0] at hR
   cases hv:up.n.vals[up.nx - 1]? with
   | none=>rw [hv] at hR; exact absurd hR hst
   | some v =>
   rw [hv] at hR
   simp only at hR
   subst hR
   refine E1 ((up.nx - 1:Nat):Int) (by omega) ?_
   exact pH (bes:=up.nx - 1) (F:=fun q T=>K9 (L.map Sp.w) k up.n (up.nx - 1) up.nx q.1 q.2 x.at' x.n T) h5 (by omega) hk hx huo (by omega) hv (fun q T=>by rw [if_pos rfl]) hst hno hyes
 ·rw [if_neg (by omega)] at hR
  cases hv:up.n.vals[up.nx+1]? with
  | none=>rw [hv] at hR; exact absurd hR hst
  | some v =>
  rw [hv] at hR
  simp only at hR
  subst hR
  exact pH (left:=up.nx) (right:=up.nx+1) (bes:=up.nx+1) (F:=fun q T=>K9 (L.map Sp.w) k up.n up.nx (up.nx+1) x.at' x.n q.1 q.2 T) h5 (by omega) hk hx huo (by omega) hv (fun q T=>by rw [if_neg (by omega)]) hst hno hyes
set_option maxHeartbeats 4000000 in
theorem AE6 {wb sb rb:Nat} (L:List Sp) (k:Nat) (T:TS) (M:Nat) (τ:AHeap) (Q':RK) (h:H (DZ wb sb L::A3 sb rb T M::l) τ) (hM:M≤90000000000) (hL:L.length≤50) (hst:UD (L.map Sp.w) k T≠.stuck)
 (hno:∀ e T' σ',e≠0→UD (L.map Sp.w) k T=.err e T'→H (A3 sb rb T' (M+6)::l) σ'→Q' (.pan (flt e)) σ')
 (hyes:∀ T' L' σ',L'.length≤L.length+1→UD (L.map Sp.w) k T=.ok (L'.map Sp.w) T'→H (DZ wb sb L'::A3 sb rb T' (M+6)::l) σ'→Q' (.ret (.tuple #[])) σ'):E N8 [.pointer (some ⟨wb,0,none⟩),.int .i64 k] τ Q':=by
 apply eB; unfold TX
 unfold UD at hst hno hyes
 refine AS (fun g=>?_) fun g=>?_
 ·rw [if_pos (by omega)] at hyes
  have h1:H (A3 sb rb T M::DZ wb sb L::l) τ:=h.perm (.swap _ _ _)
  exact hyes T L τ (by omega) rfl ((B8 (N:=M+6) (by omega) h1).perm (.swap _ _ _))
 rw [if_neg (by omega)] at hst hno hyes
 rw [List.getElem?_map,List.getElem?_map] at hst hno hyes
 cases hx:L[k]? with
 | none=>rw [hx] at hst; exact absurd rfl hst
 | some x =>
 cases hu:L[k - 1]? with
 | none=>rw [hx,hu] at hst; exact absurd rfl hst
 | some up =>
 rw [hx,hu] at hst hno hyes
 simp only [Option.map_some] at hst hno hyes
 have hw:up.w=⟨up.at',up.n,up.nx⟩:=rfl
 have hwx:x.w=⟨x.at',x.n,x.nx⟩:=rfl
 have hkl:=(List.getElem?_eq_some_iff.1 hx).1
 obtain ⟨wv,hok,h2⟩:=IL.1 h
 have hxo:=hok x (List.mem_of_getElem? hx)
 have huo:=hok up (List.mem_of_getElem? hu)
 obtain ⟨b,c,hwv,e1,e2,e3,e4,e5,e6⟩:=NG h2 hx
 obtain ⟨b',c',hwv',u1,u2,u3,u4,u5,u6⟩:=NG h2 hu
 have hbb:b'=b:=by rw [hwv] at hwv'; simp at hwv'; exact hwv'.1.symm
 subst hbb
 rw [LV h2,e1,AD]
 rw [AO,AD,Nat.add_zero,e2,AH,AO,AD,e3,BR,AO,AD,e4,AD,AO,AD,e5,AD,AO,AD,e6,AH,LV h2]
 refine E1 ((k - 1:Nat):Int) (by omega) ?_
 rw [u1,AD]
 rw [AO,AD,Nat.add_zero,u2,AH,AO,AD,u3,BR,AO,AD,u4,AD,AO,AD,u5,AD,AO,AD,u6,AH]
 -- with both copies
 have k3:∀ {τ:AHeap} {bx bu:Nat},H (pt bx (.cells (IM x.at' x.n x.kv x.vv x.nx) AB false)::pt bu (.cells (IM up.at' up.n up.kv up.vv up.nx) AB false)::eY wb sb wv L (A3 sb rb T M::l)) τ→HH E Q' bx bu wb k τ:=by
  intro τ bx bu ht
  have h3:H (pt bx (.cells (IM x.at' x.n x.kv x.vv x.nx) AB false)::pt bu (.cells (IM up.at' up.n up.kv up.vv up.nx) AB false)::AQ x.kv x.n.keys::AQ x.vv x.n.vals::AQ up.kv up.n.keys::DZ wb sb L::A3 sb rb T M::l) τ:=by
   have q:H (B2 L::pt wb (.cells [.pointer (some ⟨sb,0,none⟩),wv] A6 false)::AU AB 5 wv L.length (L.map JG).flatten::pt bx (.cells (IM x.at' x.n x.kv x.vv x.nx) AB false)::pt bu (.cells (IM up.at' up.n up.kv up.vv up.nx) AB false)::A3 sb rb T M::l) τ:=ht.re
   have q2:=H9 q (List.mem_of_getElem? hx)
   have q3:H (B2 L::AQ x.kv x.n.keys::AQ x.vv x.n.vals::pt wb (.cells [.pointer (some ⟨sb,0,none⟩),wv] A6 false)::AU AB 5 wv L.length (L.map JG).flatten::pt bx (.cells (IM x.at' x.n x.kv x.vv x.nx) AB false)::pt bu (.cells (IM up.at' up.n up.kv up.vv up.nx) AB false)::A3 sb rb T M::l) τ:=q2.re
   have q4:=H9 q3 (List.mem_of_getElem? hu)
   have q5:H (eY wb sb wv L (pt bx (.cells (IM x.at' x.n x.kv x.vv x.nx) AB false)::pt bu (.cells (IM up.at' up.n up.kv up.vv up.nx) AB false)::AQ up.kv up.n.keys::AQ x.kv x.n.keys::AQ x.vv x.n.vals::A3 sb rb T M::l)) τ:=q4.re
   have q6:H (DZ wb sb L::pt bx (.cells (IM x.at' x.n x.kv x.vv x.nx) AB false)::pt bu (.cells (IM up.at' up.n up.kv up.vv up.nx) AB false)::AQ up.kv up.n.keys::AQ x.kv x.n.keys::AQ x.vv x.n.vals::A3 sb rb T M::l) τ:=IL.2 ⟨wv,hok,q5⟩
   exact q6.re
  unfold HH
  have hlx:BH x.kv=some (.int .i64 x.n.keys.length):=by obtain ⟨a,c,hv⟩:=AW (h3.fnd (AQ x.kv x.n.keys)); rw [hv]; rfl
  rw [LV h3,hlx,AH]
  -- on from there
  have on:∀ {τ:AHeap} (T1:TS) (L1:List Sp),L1.length=L.length→nI (L.map Sp.w) k x.w up.w T=.ok (L1.map Sp.w) T1→H (pt bx (.cells (IM x.at' x.n x.kv x.vv x.nx) AB false)::pt bu (.cells (IM up.at' up.n up.kv up.vv up.nx) AB false)::AQ x.kv x.n.keys::AQ x.vv x.n.vals::DZ wb sb L1::A3 sb rb T1 (M+1)::l) τ→FG E Q' bx wb k bu τ:=by
   intro τ T1 L1 hl1 hky ht
   rw [hky] at hst hno hyes
   simp only [R.bind_ok] at hst hno hyes
   obtain ⟨up1,hup1⟩:∃ s,L1[k - 1]?=some s:=⟨_,List.getElem?_eq_getElem (by omega)⟩
   rw [List.getElem?_map,hup1] at hst hno hyes
   simp only [Option.map_some] at hst hno hyes
   refine ACA ht (by omega) (by omega) hxo hup1 _ rfl hst ?_ ?_
   ·intro e T' σ' he h4 h5
    exact hno e T' σ' he h4 h5
   ·intro T' L' σ' hl h4 h5
    exact hyes T' L' σ' (by omega) h4 h5
  have same:nI (L.map Sp.w) k x.w up.w T=.ok (L.map Sp.w) T→FH E Q' false wb k bu bx τ:=by
   intro hky
   unfold FH
   refine B7 rfl ?_
   have h4:H (A3 sb rb T M::pt bx (.cells (IM x.at' x.n x.kv x.vv x.nx) AB false)::pt bu (.cells (IM up.at' up.n up.kv up.vv up.nx) AB false)::AQ x.kv x.n.keys::AQ x.vv x.n.vals::DZ wb sb L::l) τ:=h3.re
   exact on T L rfl hky (B8 (N:=M+1) (by omega) h4).re
  refine AS (fun g0=>?_) fun g0=>?_
  ·have hky:nI (L.map Sp.w) k x.w up.w T=match up.n.keys[up.nx]?,x.n.keys[0]? with
    | some uk,some x0=>if uk=x0 then .ok (L.map Sp.w) T else QI (L.map Sp.w) (k - 1) up.nx x0 x.at' T
    | _,_=>.stuck:=by
    unfold nI
    rw [hw,hwx]
    simp only
    rw [if_pos (by omega)]
    all_goals (cases up.n.keys[up.nx]?<;>cases x.n.keys[0]?<;>rfl)
   obtain ⟨x0,hx0⟩:∃ x0,x.n.keys[0]?=some x0:=⟨_,List.getElem?_eq_getElem (by omega)⟩
   cases huk:up.n.keys[up.nx]? with
   | none=>rw [huk] at hky; rw [hky] at hst; exact absurd rfl hst
   | some uk =>
   rw [huk,hx0] at hky
   simp only at hky
   obtain ⟨p1,ia1,la1⟩:=DS (CX (h3.fnd (AQ up.kv up.n.keys))) huk
   obtain ⟨p2,ia2,la2⟩:=DS (CX (h3.fnd (AQ x.kv x.n.keys))) hx0
   rw [LV h3,LI h3,ia1,AD,la1,AH,LV h3,show (0:Int)=((0:Nat):Int) from rfl,ia2,AD,la2,AH]
   by_cases hne:uk=x0
   ·rw [if_pos hne] at hky
    have:(!decide ((uk:Int)=(x0:Int)))=false:=by simp [hne]
    rw [this]
    exact same hky
   ·rw [if_neg hne] at hky
    have:(!decide ((uk:Int)=(x0:Int)))=true:=by simp; omega
    rw [this]
    unfold FH
    refine G8 rfl ?_
    refine E1 ((k - 1:Nat):Int) (by omega) ?_
    rw [LI h3,LV h3,show (0:Int)=((0:Nat):Int) from rfl,ia2,AD,la2,AH,LI h3]
    have h4:H (DZ wb sb L::A3 sb rb T M::pt bx (.cells (IM x.at' x.n x.kv x.vv x.nx) AB false)::pt bu (.cells (IM up.at' up.n up.kv up.vv up.nx) AB false)::AQ x.kv x.n.keys::AQ x.vv x.n.vals::l) τ:=h3.re
    have hx8:=hxo.at8
    refine wU h4 (by omega) (hxo.sm.1 x0 (List.mem_of_getElem? hx0)) (by omega) (fun e=>hst (by rw [hky,e]; rfl)) ?_ ?_
    ·intro e T1 τ1 he hse h5
     rw [ET]
     have h6:H (A3 sb rb T1 (M+1)::l) τ1:=h5.re
     exact hno e T1 τ1 he (by rw [hky,hse]; rfl) (B8 (by omega) h6)
    ·intro T1 L1 τ1 hl1 hse h5
     rw [CD]
     exact on T1 L1 hl1 (by rw [hky,hse]) h5.re
  ·have hky:nI (L.map Sp.w) k x.w up.w T=.ok (L.map Sp.w) T:=by
    unfold nI
    rw [hwx]
    simp only
    rw [if_neg (by omega)]
   exact same hky
 have e1':=e1 .i64
 have u1':=u1 .i64
 constructor
 ·refine nw h2 ?_
  intro bx τ1 g1
  have w1:H (eY wb sb wv L (A3 sb rb T M::l)) τ1:=g1.tail
  rw [rdS w1 hx e1',rdS w1 hu u1']
  refine nw g1 ?_
  intro bu τ2 g2
  have w2:H (eY wb sb wv L (A3 sb rb T M::l)) τ2:=g2.tail.tail
  rw [rdS w2 hx e1',rdS w2 hu u1']
  refine KN (vs:=IM x.at' x.n x.kv x.vv x.nx) (g2.perm (.swap _ _ _)) rfl rfl (by simp only [List.all_cons,hxo.o1,hxo.o2,List.all_nil]; rfl) ?_
  intro τ3 g3
  have w3:H (eY wb sb wv L (A3 sb rb T M::l)) τ3:=g3.tail.tail
  rw [rdS w3 hu u1']
  refine KN (vs:=IM up.at' up.n up.kv up.vv up.nx) (g3.perm (.swap _ _ _)) rfl rfl (by simp only [List.all_cons,huo.o1,huo.o2,List.all_nil]; rfl) ?_
  intro τ4 g4
  exact k3 (g4.perm (.swap _ _ _))
 ·refine nw h2 ?_
  intro bu τ1 g1
  have w1:H (eY wb sb wv L (A3 sb rb T M::l)) τ1:=g1.tail
  rw [rdS w1 hx e1',rdS w1 hu u1']
  refine nw g1 ?_
  intro bx τ2 g2
  have w2:H (eY wb sb wv L (A3 sb rb T M::l)) τ2:=g2.tail.tail
  rw [rdS w2 hx e1',rdS w2 hu u1']
  refine KN (vs:=IM x.at' x.n x.kv x.vv x.nx) g2 rfl rfl (by simp only [List.all_cons,hxo.o1,hxo.o2,List.all_nil]; rfl) ?_
  intro τ3 g3
  have w3:H (eY wb sb wv L (A3 sb rb T M::l)) τ3:=g3.tail.tail
  rw [rdS w3 hu u1']
  refine KN (vs:=IM up.at' up.n up.kv up.vv up.nx) (g3.perm (.swap _ _ _)) rfl rfl (by simp only [List.all_cons,huo.o1,huo.o2,List.all_nil]; rfl) ?_
  intro τ4 g4
  exact k3 (g4.perm (.swap _ _ _))
end Go.Ax.C
set_option maxRecDepth 100000
namespace Go.Ax.C
open Go.Proofs Go.RowKit
variable {l r r2 m:List AK} {σ:AHeap} {Q:RK}
def AAg (P:List Wp) (old:Nat) (T:TS):R (Nat×Nat×Bool) :=
 match P[0]? with
 | none=>.stuck
 | some s =>
   if s.n.keys.length=0 then (T.dec s.at').bind fun _ T=>.ok (0,old,true) T
   else if s.n.leaf=false∧s.n.keys.length=1 then match s.n.vals[0]? with
    | none=>.stuck
    | some v=>(T.dec s.at').bind fun _ T=>.ok (v,old,true) T
   else .ok (s.at',old,true) T
def eQ (T:TS) (root key:Nat):R (Nat×Nat×Bool) :=
 (C3 key 12 root T).bind fun q T =>
  if q.2=false then .ok (root,0,false) T
  else (HG false key 12 [] root T).bind fun P T=>match P[P.length - 1]? with
   | none=>.stuck
   | some s =>
     if BA s.n.keys key<s.n.keys.length then (D6 P (P.length - 1) (s.n.remN (BA s.n.keys key)) T).bind fun P T=>(jJ UD P.length P T).bind fun P T=>AAg P q.1 T
     else .stuck
theorem rQ {b1 b3 b5 b7:Nat} {K:AHeap→Prop} (h:K σ):Dv P DD [.pointer (some ⟨b1,0,none⟩),.pointer (some ⟨b3,0,none⟩),.pointer (some ⟨b5,0,none⟩),.pointer (some ⟨b7,0,none⟩)] none σ K:=by
 apply RF; unfold JB
 refine ADS ?_
 rw [A9]
 refine CA (fun g=>absurd rfl g) fun _=>?_
 exact h
theorem pW {b1 b3 b5 b7 e to old e0:Nat} {had:Bool} {K:AHeap→Prop} (h:H (PS b1 b3 b5 b7 to old had e0 l) σ) (he:e≠0) (hK:∀ σ',H (PS b1 b3 b5 b7 0 0 false e l) σ'→K σ'):Dv P DD [.pointer (some ⟨b1,0,none⟩),.pointer (some ⟨b3,0,none⟩),.pointer (some ⟨b5,0,none⟩),.pointer (some ⟨b7,0,none⟩)] (some (flt e)) σ K:=by
 apply RF; unfold JB
 refine ADZ h ?_
 intro σ1 h1
 rw [A9]
 refine CA (fun _=>?_) fun g=>absurd g (by omega)
 refine st h1 rfl ?_
 intro σ2 h2
 refine st h2 rfl ?_
 intro σ3 h3
 refine st h3 rfl ?_
 intro σ4 h4
 refine st h4 rfl ?_
 intro σ5 h5
 exact hK σ5 h5.re
set_option maxHeartbeats 4000000 in
theorem AC0 {sb rb root key:Nat} {T:TS} {M:Nat} (h:H (A3 sb rb T M::l) σ) (hM:M≤70000000000) (hroot:root<18446744073709551616) (hkey:key<18446744073709551616) (hst:eQ T root key≠.stuck)
 (hno:∀ e T' σ',e≠0→eQ T root key=.err e T'→H (A3 sb rb T' (M+200)::l) σ'→Q (.ret (.tuple #[.int .u64 0,.int .u64 0,.bool false,.int .i64 e])) σ')
 (hyes:∀ to old had T' σ',eQ T root key=.ok (to,old,had) T'→H (A3 sb rb T' (M+200)::l) σ'→Q (.ret (.tuple #[.int .u64 to,.int .u64 old,.bool had,.int .i64 0])) σ') :
 E Q6 [.pointer (some ⟨sb,0,none⟩),.int .u64 root,.int .u64 key] σ Q:=by
 apply j5; unfold XF
 refine nw h ?_
 intro b1 σ1 h1
 refine nw h1 ?_
 intro b3 σ2 h2
 refine nw h2 ?_
 intro b5 σ3 h3
 refine nw h3 ?_
 intro b7 σ4 h4
 have h4:H (A3 sb rb T M::PS b1 b3 b5 b7 0 0 false 0 l) σ4:=h4.re
 unfold eQ at hst hno hyes
 refine fG h4 (by omega) hroot (fun e=>hst (by rw [e]; rfl)) ?_ ?_
 ·intro e T' τ1 he hlk g1
  rw [MQ,AT,C8,AT]
  refine st g1 rfl ?_
  intro τ2 g2
  refine st g2 rfl ?_
  intro τ3 g3
  refine st g3 rfl ?_
  intro τ4 g4
  rw [LI g4]
  refine CA (fun _=>?_) fun g=>absurd g (by omega)
  rw [LI g4]
  refine st g4 rfl ?_
  intro τ5 g5
  rw [LI g5,CE]
  refine st g5 rfl ?_
  intro τ6 g6
  rw [LI g6,CE]
  refine st g6 rfl ?_
  intro τ7 g7
  rw [LI g7,CE]
  refine st g7 rfl ?_
  intro τ8 g8
  have g9:H (PS b1 b3 b5 b7 0 0 false e (A3 sb rb T (M+12)::l)) τ8:=g8.re
  refine SZ (e:=e) g9 fun g10=>?_
  have hT:T'=T:=by
   have key2:∀ (f a:Nat) (T T':TS) (e:Nat),C3 key f a T=.err e T'→T'=T:=by
    intro f
    induction f with
    | zero =>
      intro a T T' e h
      unfold C3 at h
      split at h
      ·cases h
      ·cases h; rfl
    | succ f ih =>
      intro a T T' e h
      unfold C3 at h
      split at h
      ·cases h
      ·split at h
       ·cases h
       ·split at h
        ·split at h
         ·split at h<;>cases h
         ·cases h
        ·split at h
         ·exact ih _ _ _ _ h
         ·cases h
   exact key2 _ _ _ _ _ hlk
  subst hT
  exact hno e _ τ8 he (by rw [hlk]; rfl) (B8 (by omega) g10)
 intro v0 had0 T' τ1 hlk g1
 have hT:=l7 hlk
 subst hT
 rw [hlk] at hst hno hyes
 simp only [R.bind_ok] at hst hno hyes
 rw [MQ,AT,C8,AT]
 refine st g1 rfl ?_
 intro τ2 g2
 refine st g2 rfl ?_
 intro τ3 g3
 refine st g3 rfl ?_
 intro τ4 g4
 rw [LI g4]
 refine CA (fun g=>absurd rfl g) fun _=>?_
 rw [LB g4]
 cases had0 with
 | false =>
   rw [if_pos rfl] at hyes
   refine G8 rfl ?_
   refine st g4 rfl ?_
   intro τ5 g5
   refine st g5 rfl ?_
   intro τ6 g6
   refine st g6 rfl ?_
   intro τ7 g7
   refine st g7 rfl ?_
   intro τ8 g8
   have g9:H (PS b1 b3 b5 b7 root 0 false 0 (A3 sb rb T' (M+12)::l)) τ8:=g8.re
   refine SZ (e:=0) g9 fun g10=>?_
   exact hyes root 0 false T' τ8 rfl (B8 (by omega) g10)
 | true =>
 rw [if_neg (by decide)] at hst hno hyes
 refine B7 rfl ?_
 have h4:H (A3 sb rb T' (M+12)::PS b1 b3 b5 b7 0 v0 true 0 l) τ4:=g4.re
 -- errors end here
 have pan:∀ {e:Nat} {T':TS} {τ:AHeap} {to old:Nat} {had:Bool} {N:Nat} {A:List AK},e≠0→N≤M+200→H (A3 sb rb T' N::PS b1 b3 b5 b7 to old had 0 l) τ→(∀ σ',H (A3 sb rb T' (M+200)::l) σ'→Q (.ret (.tuple #[.int .u64 0,.int .u64 0,.bool false,.int .i64 e])) σ')→qd P DD [(.pointer (some ⟨b1,0,none⟩)),(.pointer (some ⟨b3,0,none⟩)),(.pointer (some ⟨b5,0,none⟩)),(.pointer (some ⟨b7,0,none⟩))] (fun τ66 =>
      pu (AF false 1 (.pointer (some ⟨b1,0,none⟩)) τ66) fun v67 =>
      pu (AF false 1 (.pointer (some ⟨b3,0,none⟩)) τ66) fun v68 =>
      pu (AF false 1 (.pointer (some ⟨b5,0,none⟩)) τ66) fun v69 =>
      pu (AF false 1 (.pointer (some ⟨b7,0,none⟩)) τ66) fun v70 =>
      Q (.ret (.tuple #[v67,v68,v69,v70])) τ66) (.pan (flt e)) τ:=by
  intro e T' τ to old had N A he hN ht hq
  have g1:H (PS b1 b3 b5 b7 to old had 0 (A3 sb rb T' N::l)) τ:=ht.re
  refine pW g1 he ?_
  intro τ1 g2
  refine SZ (e:=e) g2 fun g3=>?_
  exact hq τ1 (B8 hN g3)
 unfold RW
 refine ADV h4 (by omega) hroot hkey (fun e=>hst (by rw [e]; rfl)) ?_ ?_
 ·intro e T1 τ5 he hd g1
  rw [ABJ]
  refine pan (A:=[]) he (by omega) g1 ?_
  intro τ6 g2
  exact hno e T1 τ6 he (by rw [hd]; rfl) g2
 intro wb L T1 τ5 hd hL12 g1
 rw [hd] at hst hno hyes
 simp only [R.bind_ok] at hst hno hyes
 rw [CC]
 simp only [ED,AD,AO,Nat.zero_add]
 obtain ⟨wv,hok,g2⟩:=IL.1 g1
 rw [List.length_map,List.getElem?_map] at hst hno hyes
 cases hs:L[L.length - 1]? with
 | none=>rw [hs] at hst; exact absurd rfl hst
 | some s =>
 have hLl:=(List.getElem?_eq_some_iff.1 hs).1
 have hso:=hok s (List.mem_of_getElem? hs)
 have hwu:s.w=⟨s.at',s.n,s.nx⟩:=rfl
 rw [hs] at hst hno hyes
 simp only [Option.map_some,hwu] at hst hno hyes
 rw [AV g2,cO g2,AH]
 refine E1 ((L.length - 1:Nat):Int) (by omega) ?_
 obtain ⟨b',c',hwv',u1,u2,u3,u4,u5,u6⟩:=NG g2 hs
 rw [AV g2,u1,AD]
 simp only [AO,AD,Nat.add_assoc,Nat.reduceAdd,Nat.add_zero]
 rw [u3,BR,u4,AD,u5,AD]
 have g3:H (B2 L::pt wb (.cells [.pointer (some ⟨sb,0,none⟩),wv] A6 false)::AU AB 5 wv L.length (L.map JG).flatten::A3 sb rb T1 (M+12+60)::PS b1 b3 b5 b7 0 v0 true 0 l) τ5:=g2.re
 have g4:=H9 g3 (List.mem_of_getElem? hs)
 have hle:=hso.le
 have hfle:=fO s.n.keys key
 refine AA3 (lf:=s.n.leaf) g4 MV.two hso.eq.symm (by omega) ?_
 intro τ6 g5
 rw [BS,AT,C8]
 have g6:H (eY wb sb wv L (AQ s.kv s.n.keys::AQ s.vv s.n.vals::A3 sb rb T1 (M+12+60)::PS b1 b3 b5 b7 0 v0 true 0 l)) τ6:=g5.re
 obtain ⟨b2',c2',hwv2',w1,w2,w3,w4,w5,w6⟩:=NG g6 hs
 rw [AV g6,w1,AD]
 simp only [AO,AD,Nat.add_assoc,Nat.reduceAdd,Nat.add_zero]
 rw [w3,BR,w4,AD,w5,AD]
 by_cases hfk:BA s.n.keys key<s.n.keys.length
 case neg=>rw [if_neg hfk] at hst; exact absurd rfl hst
 rw [if_pos hfk] at hst hno hyes
 refine wI (lf:=s.n.leaf) (n:=s.n) g5 MV.two hso.eq.symm (by omega) hfk ?_
 intro kv' vv' τ7 g7
 rw [CC]
 have g7:H (AQ kv' (s.n.remN (BA s.n.keys key)).keys::AQ vv' (s.n.remN (BA s.n.keys key)).vals::AQ s.kv s.n.keys::AQ s.vv s.n.vals::B2 L::pt wb (.cells [.pointer (some ⟨sb,0,none⟩),wv] A6 false)::AU AB 5 wv L.length (L.map JG).flatten::A3 sb rb T1 (M+12+60)::PS b1 b3 b5 b7 0 v0 true 0 l) τ7:=g7
 have g8:H (DZ wb sb L::A3 sb rb T1 (M+12+60)::AQ kv' (s.n.remN (BA s.n.keys key)).keys::AQ vv' (s.n.remN (BA s.n.keys key)).vals::PS b1 b3 b5 b7 0 v0 true 0 l) τ7:=IL.2 ⟨wv,hok,g7.re⟩
 have hrl:(s.n.remN (BA s.n.keys key)).keys.length=s.n.keys.length - 1∧(s.n.remN (BA s.n.keys key)).vals.length=s.n.keys.length - 1:=by have:=hso.eq; simp [Nd.remN,W1]; omega
 refine bX (n:=s.n.remN (BA s.n.keys key)) g8 (by omega) (kO hso.sm) (by omega) (by omega) (fun e=>hst (by rw [e]; rfl)) ?_ ?_
 ·intro e T6 τ8 he hw g10
  rw [ET]
  refine pan (A:=[]) he (by omega) g10 ?_
  intro τ9 q2
  exact hno e T6 τ9 he (by rw [hw]; rfl) q2
 intro T5 L5 τ8 hl5 hw g9
 rw [hw] at hst hno hyes
 simp only [R.bind_ok] at hst hno hyes
 rw [List.length_map] at hst hno hyes
 rw [CD]
 refine wup (f:=UD) (cost:=6) (fun L k T M τ Q' h1 h2 h3 h4 h5 h6=>?_) g9 (by omega) (by omega) (fun e=>hst (by rw [e]; rfl)) ?_ ?_
 ·exact AE6 L k T M τ Q' h1 h2 h3 h4 h5 h6
 ·intro e T6 τ9 he hu q1
  rw [ET]
  refine pan (A:=[]) he (by omega) q1 ?_
  intro τ10 q2
  exact hno e T6 τ10 he (by rw [hu]; rfl) q2
 intro T6 L6 τ9 hl6 hu q1
 rw [hu] at hst hno hyes
 simp only [R.bind_ok] at hst hno hyes
 rw [CD]
 obtain ⟨wv6,hok6,q2⟩:=IL.1 q1
 unfold AAg at hst hno hyes
 rw [List.getElem?_map] at hst hno hyes
 cases hs6:L6[0]? with
 | none=>rw [hs6] at hst; exact absurd rfl hst
 | some s6 =>
 have hw6:s6.w=⟨s6.at',s6.n,s6.nx⟩:=rfl
 rw [hs6] at hst hno hyes
 simp only [Option.map_some,hw6] at hst hno hyes
 have hso6:=hok6 s6 (List.mem_of_getElem? hs6)
 obtain ⟨b6,c6,hwv6,y1,y2,y3,y4,y5,y6⟩:=NG q2 hs6
 rw [AV q2,show (0:Int)=((0:Nat):Int) from rfl,y1,AD]
 simp only [AO,AD,Nat.add_zero,Nat.zero_mul,Nat.zero_add]
 simp only [Nat.zero_mul,Nat.zero_add] at y2
 simp only [Nat.zero_mul,Nat.zero_add] at y3
 simp only [Nat.zero_mul,Nat.zero_add] at y4
 simp only [Nat.zero_mul,Nat.zero_add] at y5
 simp only [Nat.zero_mul,Nat.zero_add] at y6
 rw [y2,AH,y3,BR,y4,AD,y5,AD,y6,AH]
 have q3:H (AQ s6.kv s6.n.keys::AQ s6.vv s6.n.vals::A3 sb rb T6 (M+12+60+1+6*L5.length)::PS b1 b3 b5 b7 0 v0 true 0 l) τ9:=by
  have q:H (B2 L6::A3 sb rb T6 (M+12+60+1+6*L5.length)::PS b1 b3 b5 b7 0 v0 true 0 l) τ9:=q2.re
  exact (H9 q (List.mem_of_getElem? hs6)).re
 refine nw q3 ?_
 intro bt τ10 q4
 refine KN (vs:=IM s6.at' s6.n s6.kv s6.vv s6.nx) q4 rfl rfl (by simp only [List.all_cons,hso6.o1,hso6.o2,List.all_nil]; rfl) ?_
 intro τ11 q5
 have q5:H (PS b1 b3 b5 b7 0 v0 true 0 (pt bt (.cells (IM s6.at' s6.n s6.kv s6.vv s6.nx) AB false)::AQ s6.kv s6.n.keys::AQ s6.vv s6.n.vals::A3 sb rb T6 (M+12+60+1+6*L5.length)::l)) τ11:=q5.re
 rw [LI q5]
 refine st q5 rfl ?_
 intro τ12 q6
 have hlk6:BH s6.kv=some (.int .i64 s6.n.keys.length):=by obtain ⟨a,c,hv⟩:=AW (q6.fnd (AQ s6.kv s6.n.keys)); rw [hv]; rfl
 rw [LV q6,hlk6,AH]
 -- the end
 have k20:∀ {τ:AHeap} {to:Nat} {T7:TS},(∀ σ',H (A3 sb rb T7 (M+200)::l) σ'→Q (.ret (.tuple #[.int .u64 to,.int .u64 v0,.bool true,.int .i64 0])) σ')→H (PS b1 b3 b5 b7 to v0 true 0 (A3 sb rb T7 (M+12+60+1+6*L5.length)::l)) τ→IH E (qd P DD [(.pointer (some ⟨b1,0,none⟩)),(.pointer (some ⟨b3,0,none⟩)),(.pointer (some ⟨b5,0,none⟩)),(.pointer (some ⟨b7,0,none⟩))] fun τ66 =>
      pu (AF false 1 (.pointer (some ⟨b1,0,none⟩)) τ66) fun v67 =>
      pu (AF false 1 (.pointer (some ⟨b3,0,none⟩)) τ66) fun v68 =>
      pu (AF false 1 (.pointer (some ⟨b5,0,none⟩)) τ66) fun v69 =>
      pu (AF false 1 (.pointer (some ⟨b7,0,none⟩)) τ66) fun v70 =>
      Q (.ret (.tuple #[v67,v68,v69,v70])) τ66) b1 b3 b5 b7 τ:=by
  intro τ to T7 hq ht
  unfold IH
  rw [LI ht,LI ht]
  refine st ht rfl ?_
  intro τ1 g1
  rw [LI g1,CE]
  refine st g1 rfl ?_
  intro τ2 g2
  refine st g2 rfl ?_
  intro τ3 g3
  refine st g3 rfl ?_
  intro τ4 g4
  have g5:H (PS b1 b3 b5 b7 to v0 true 0 (A3 sb rb T7 (M+12+60+1+6*L5.length)::l)) τ4:=g4.re
  refine rQ ?_
  refine SZ g5 fun g6=>?_
  exact hq τ4 (B8 (by omega) g6)
 -- the root goes
 have k18:∀ {τ:AHeap} {to:Nat},(T6.dec s6.at').bind (fun _ T=>R.ok (to,v0,true) T)≠.stuck→(∀ e T' σ',e≠0→(T6.dec s6.at').bind (fun _ T=>R.ok (to,v0,true) T)=.err e T'→H (A3 sb rb T' (M+200)::l) σ'→Q (.ret (.tuple #[.int .u64 0,.int .u64 0,.bool false,.int .i64 e])) σ')→(∀ to' old had T' σ',(T6.dec s6.at').bind (fun _ T=>R.ok (to,v0,true) T)=.ok (to',old,had) T'→H (A3 sb rb T' (M+200)::l) σ'→Q (.ret (.tuple #[.int .u64 to',.int .u64 old,.bool had,.int .i64 0])) σ')→H (PS b1 b3 b5 b7 to v0 true 0 (pt bt (.cells (IM s6.at' s6.n s6.kv s6.vv s6.nx) AB false)::AQ s6.kv s6.n.keys::AQ s6.vv s6.n.vals::A3 sb rb T6 (M+12+60+1+6*L5.length)::l)) τ→ID E (qd P DD [(.pointer (some ⟨b1,0,none⟩)),(.pointer (some ⟨b3,0,none⟩)),(.pointer (some ⟨b5,0,none⟩)),(.pointer (some ⟨b7,0,none⟩))] fun τ66 =>
      pu (AF false 1 (.pointer (some ⟨b1,0,none⟩)) τ66) fun v67 =>
      pu (AF false 1 (.pointer (some ⟨b3,0,none⟩)) τ66) fun v68 =>
      pu (AF false 1 (.pointer (some ⟨b5,0,none⟩)) τ66) fun v69 =>
      pu (AF false 1 (.pointer (some ⟨b7,0,none⟩)) τ66) fun v70 =>
      Q (.ret (.tuple #[v67,v68,v69,v70])) τ66) sb bt b1 b3 b5 b7 τ:=by
  intro τ to hst hno hyes ht
  unfold ID
  have g1:H (A3 sb rb T6 (M+12+60+1+6*L5.length)::PS b1 b3 b5 b7 to v0 true 0 (pt bt (.cells (IM s6.at' s6.n s6.kv s6.vv s6.nx) AB false)::l)) τ:=ht.re
  rw [vC g1,AD,LI g1]
  have:=hso6.at8
  refine E1 (s6.at':Int) (by omega) ?_
  refine rF g1 rfl (fun e=>hst (by rw [e]; rfl)) ?_ ?_
  ·intro e τ1 he hdc g2
   rw [BS,C8,AT]
   refine TM he ?_
   rw [ET]
   have g3:H (A3 sb rb T6 (M+12+60+1+6*L5.length)::PS b1 b3 b5 b7 to v0 true 0 l) τ1:=g2.re
   refine pan (A:=[]) he (by omega) g3 ?_
   intro τ2 g4
   exact hno e T6 τ2 he (by rw [hdc]; rfl) g4
  ·intro bd T7 τ1 hdc g2
   rw [BS,C8,AT]
   refine VZ ?_
   rw [CD]
   refine k20 (T7:=T7) (fun σ' hh=>hyes to v0 true T7 σ' (by rw [hdc]; rfl) hh) ?_
   exact g2.re
 have q7:H (PS b1 b3 b5 b7 s6.at' v0 true 0 (pt bt (.cells (IM s6.at' s6.n s6.kv s6.vv s6.nx) AB false)::AQ s6.kv s6.n.keys::AQ s6.vv s6.n.vals::A3 sb rb T6 (M+12+60+1+6*L5.length)::l)) τ12:=q6.re
 refine AS (fun g0=>?_) fun g0=>?_
 ·rw [if_pos (by omega)] at hst hno hyes
  refine ⟨by decide,?_⟩
  unfold DK
  refine G8 rfl ?_
  refine st q7 rfl ?_
  intro τ13 q8
  rw [LV q8,hlk6,AH]
  refine AS (fun g=>absurd g (by omega)) fun _=>?_
  exact k18 (to:=0) hst hno hyes q8.re
 ·rw [if_neg (by omega)] at hst hno hyes
  rw [LB q7]
  have keep:(s6.n.leaf=true∨s6.n.keys.length≠1)→DK E (qd P DD [(.pointer (some ⟨b1,0,none⟩)),(.pointer (some ⟨b3,0,none⟩)),(.pointer (some ⟨b5,0,none⟩)),(.pointer (some ⟨b7,0,none⟩))] fun τ66 =>
   pu (AF false 1 (.pointer (some ⟨b1,0,none⟩)) τ66) fun v67 =>
   pu (AF false 1 (.pointer (some ⟨b3,0,none⟩)) τ66) fun v68 =>
   pu (AF false 1 (.pointer (some ⟨b5,0,none⟩)) τ66) fun v69 =>
   pu (AF false 1 (.pointer (some ⟨b7,0,none⟩)) τ66) fun v70 =>
   Q (.ret (.tuple #[v67,v68,v69,v70])) τ66) false b1 bt sb b3 b5 b7 τ12:=by
   intro hor
   rw [if_neg (fun hh=>by rcases hor with h | h; rw [h] at hh; exact absurd hh.1 (by decide); exact h hh.2)] at hyes
   unfold DK
   refine B7 rfl ?_
   exact k20 (T7:=T6) (fun σ' hh=>hyes s6.at' v0 true T6 σ' rfl hh) q7.re
  refine cN (fun gl=>?_) fun gl=>?_
  ·have gl:s6.n.leaf=false:=by simpa using gl
   rw [LV q7,hlk6,AH]
   by_cases h1:s6.n.keys.length=1
   ·rw [if_pos ⟨gl,h1⟩] at hst hno hyes
    have:decide ((s6.n.keys.length:Int)=1)=true:=by simp; omega
    rw [this]
    unfold DK
    refine G8 rfl ?_
    refine st q7 rfl ?_
    intro τ13 q8
    rw [LV q8,hlk6,AH]
    refine AS (fun _=>?_) fun g=>absurd (by omega) g
    cases hv0:s6.n.vals[0]? with
    | none=>rw [hv0] at hst; exact absurd rfl hst
    | some v =>
    rw [hv0] at hst hno hyes
    simp only at hst hno hyes
    obtain ⟨p,ia,la⟩:=DS (CX (q8.fnd (AQ s6.vv s6.n.vals))) hv0
    rw [LV q8,show (0:Int)=((0:Nat):Int) from rfl,ia,AD,la,AH]
    refine st q8 rfl ?_
    intro τ14 q9
    exact k18 (to:=v) hst hno hyes q9.re
   ·have:decide ((s6.n.keys.length:Int)=1)=false:=by simp; omega
    rw [this]
    exact keep (.inr h1)
  ·exact keep (.inl (by simpa using gl))
end Go.Ax.C
set_option maxRecDepth 100000
namespace Go.Ax.C
open Go.Proofs Go.RowKit
open O (CacheA Disk It DPlain)
variable {l r r2 m:List AK} {σ:AHeap} {Q:RK}
theorem AAm {A:AK} (h:H (A::l) σ):H [A,AY l] σ :=
 (A8.2 (h.perm (List.perm_append_comm (l₁:=[A]) (l₂:=l)))).perm (List.perm_append_comm (l₁:=[AY l]) (l₂:=[A]))
theorem AGd {n:Nat} (h:H l σ) (hn:1≤n∧n≤1024) (hQ:∀ v σ',H (Disk v (.new n)::l) σ'→Q (.ret (.tuple #[v,.int .i64 0])) σ'):E TI [.int .i64 (n:Nat)] σ Q:=by
 refine O.up (O.ACk h (by omega) ?_)
 intro v σ' h1
 exact hQ v σ' h1.unsnoc
theorem kU {n:Nat} (hn:1≤n∧n≤1024):DPlain (.new n) n:=by
 refine ⟨⟨hn.1,hn.2,?_,?_⟩,rfl,rfl⟩
 ·simp [DM.new]
 ·intro f hf; simp [DM.new] at hf
theorem AGp {dv:Value} {D:DM} {n k:Nat} (h:H l σ) [k1:sA l dv (Disk dv D) r] (hD:D.Ok n) (hk:1≤k∧k≤1024) (hQ:∀ v σ',H (CacheA v dv 0 ⟨k,[]⟩::Disk dv D::r) σ'→Q (.ret (.tuple #[v,.int .i64 0])) σ'):E QH [dv,.int .i64 k] σ Q:=by
 have h1:H [Disk dv D,AY r] σ:=AAm (h.atv dv)
 refine O.up (O.ACz h1 hD hk ?_)
 intro v σ' h2
 exact hQ v σ' (ABa.2 h2)
theorem ABU {n k:Nat} (hn:1≤n∧n≤1024) (hk:1≤k∧k≤1024):iZ ⟨k,[]⟩ (.new n) n :=
 ⟨⟨hk.1,hk.2,by simp,by simp,by simp⟩,kU hn,by simp⟩
def MT (n:Nat):List Nat:=1::1::List.replicate (n - 2) 0
def fD:List UInt8:=List.replicate 256 0
def TS.new (n:Nat):TS:=⟨MT n,MT n,fun _=>.raw fD⟩
theorem Z6 {n:Nat} (h:2≤n):(MT n).length=n:=by simp [MT]; omega
theorem yQ {n a:Nat} (h:a<n):(DM.new n).block a=fD:=by
 unfold DM.block DM.new SL fD
 simp only [List.foldl_nil,List.drop_replicate,List.take_replicate]
 congr 1; omega
theorem ADL {n k:Nat} (h:H l σ) (hn:2≤n∧n≤1024) (hk:1≤k∧k≤1024) (hQ:∀ xb rb sb σ',H (pt xb (.cells [.pointer (some ⟨rb,0,none⟩),.pointer (some ⟨sb,0,none⟩)] AM false)::A3 sb rb (TS.new n) 0::l) σ'→Q (.ret (.pointer (some ⟨xb,0,none⟩))) σ') :
 E OK [.int .i64 n,.int .i64 k] σ Q:=by
 apply nD; unfold aF
 refine AGd h (by omega) ?_
 intro dv σ1 h1
 rw [BS,AT]
 refine QO h1 (by omega) ?_
 intro b σ2 h2
 have h2:=h2.unsnoc
 have e0:reps ((n:Int).toNat) [.int .u8 0]=n8 (List.replicate n 0):=by rw [PD]; simp
 rw [e0] at h2
 have h3:H (AU AL 1 (.slice (some ⟨b,0,none⟩) n n) n (n8 (List.replicate n 0))::Disk dv (.new n)::l) σ2:=h2.to_own (n:=n) (z:=1) 0 rfl (by simp) (by unfold A4; omega)
 have h3:H (AU AL 1 (.slice (some ⟨b,0,none⟩) n n) (List.replicate n 0).length (n8 (List.replicate n 0))::Disk dv (.new n)::l) σ2:=by rw [List.length_replicate]; exact h3
 simp only [Int.toNat_natCast]
 rw [show (0:Int)=((0:Nat):Int) from rfl]
 refine zV (f:=fun n:Nat=>Value.int .u8 (n:Nat)) (y:=1) h3 rfl (by simp; omega) ?_
 intro σ3 h4
 rw [show (1:Int)=((1:Nat):Int) from rfl]
 refine zV (f:=fun n:Nat=>Value.int .u8 (n:Nat)) (y:=1) h4 rfl (by simp; omega) ?_
 intro σ4 h5
 have e1:((List.replicate n 0).set 0 1).set 1 1=MT n:=by
  obtain ⟨j,rfl⟩:∃ j,n=j+2:=⟨n - 2,by omega⟩
  simp [List.replicate_succ,MT]
 rw [e1] at h5
 have hlen:=Z6 hn.1
 have h8:∀ x∈MT n,x<256:=by
  intro x hx
  simp [MT,List.mem_replicate] at hx
  omega
 refine AGi h5 (by omega) (by omega) h8 ?_
 intro rb σ5 h6
 rw [BS,AT]
 refine B7 (by simp) ?_
 unfold NY
 refine B7 (by simp) ?_
 have h7:H (Disk dv (.new n)::YC rb (MT n) (MT n)::l) σ5:=h6.re
 refine AGp h7 (kU (by omega)).ok hk ?_
 intro cv σ6 h8
 rw [BS,AT]
 obtain ⟨cb,mb,now,rowv,R,M,hcv,_⟩:=O.LW (AAm h8)
 subst hcv
 apply t5; unfold fV
 refine B7 rfl ?_
 refine nw h8 ?_
 intro sb σ7 h9
 rw [CC]
 refine CA (fun g=>absurd rfl g) fun _=>?_
 rw [UY,BR]
 unfold MN
 refine B7 rfl (E5 rfl (E5 rfl ?_))
 refine nw h9 ?_
 intro xb σ8 h10
 refine hQ xb rb sb σ8 ?_
 have h11:H (StL sb rb cb dv 0 ⟨k,[]⟩ (.new n) (TS.new n) (pt xb (.cells [.pointer (some ⟨rb,0,none⟩),.pointer (some ⟨sb,0,none⟩)] AM false)::l)) σ8:=by
  have q:H (pt sb (.cells [.pointer (some ⟨rb,0,none⟩),.pointer (some ⟨cb,0,none⟩)] EE false)::YC rb (MT n) (MT n)::CacheA (.pointer (some ⟨cb,0,none⟩)) dv 0 ⟨k,[]⟩::Disk dv (.new n)::pt xb (.cells [.pointer (some ⟨rb,0,none⟩),.pointer (some ⟨sb,0,none⟩)] AM false)::l) σ8:=h10.re
  exact q
 have h12:H (A3 sb rb (TS.new n) 0::pt xb (.cells [.pointer (some ⟨rb,0,none⟩),.pointer (some ⟨sb,0,none⟩)] AM false)::l) σ8:=by
  refine PV.2 ⟨cb,dv,0,⟨k,[]⟩,.new n,⟨?_,by simp [DM.new],by omega,fun a ha=>?_⟩,h11⟩
  ·show iZ _ _ (MT n).length
   rw [hlen]; exact ABU (by omega) hk
  ·have:a<n:=by
    have ha:a<(MT n).length:=ha
    omega
   show rG a (.raw fD) _
   rw [C1 (by simp),yQ this]
   rfl
 exact h12.perm (.swap _ _ _)
end Go.Ax.C
set_option maxRecDepth 100000
namespace Go.Ax.C
open Go.Proofs Go.RowKit
abbrev Gh:=Nat→Option Nd
def vc (o:Option Nd) (x:Nat):Nat :=
 match o with
 | none=>0
 | some n=>n.vals.count x
def rf (G:Gh) (x:Nat):Nat→Nat
 | 0=>0
 | N+1=>rf G x N+vc (G N) x
def gset (G:Gh) (b:Nat) (o:Option Nd):Gh:=fun x=>if x=b then o else G x
theorem D4 {G:Gh} {b:Nat} {o:Option Nd}:gset G b o b=o:=by simp [gset]
theorem BV {G:Gh} {b x:Nat} {o:Option Nd} (h:x≠b):gset G b o x=G x:=by simp [gset,h]
theorem AAx {G:Gh} {b x:Nat} {o:Option Nd}:∀ {N:Nat},N≤b→rf (gset G b o) x N=rf G x N
 | 0,_=>rfl
 | N+1,h=>by simp only [rf]; rw [AAx (N:=N) (by omega),BV (by omega)]
theorem X1 {G:Gh} {b x:Nat} {o:Option Nd}:∀ {N:Nat},b<N→rf (gset G b o) x N+vc (G b) x=rf G x N+vc o x
 | 0,h=>by omega
 | N+1,h=>by
   simp only [rf]
   by_cases g:b=N
   ·subst g; rw [AAx (by omega),D4]; omega
   ·have:=X1 (G:=G) (o:=o) (x:=x) (N:=N) (b:=b) (by omega)
    rw [BV (by omega)]; omega
theorem ADe {G:Gh} {b x:Nat}:∀ {N:Nat},b<N→vc (G b) x≤rf G x N
 | 0,h=>by omega
 | N+1,h=>by
   simp only [rf]
   by_cases g:b=N
   ·subst g; omega
   ·have:=ADe (G:=G) (x:=x) (N:=N) (b:=b) (by omega); omega
theorem Q5 {G:Gh} {b x N:Nat} {n:Nd} (hb:b<N) (hG:G b=some n) (hx:x∈n.vals):0<rf G x N:=by
 have:=ADe (G:=G) (x:=x) hb
 rw [hG] at this
 have h2:=List.count_pos_iff.2 hx
 simp only [vc] at this; omega
theorem tC {G:Gh} {x:Nat}:∀ {N:Nat},0<rf G x N→∃ b n,b<N∧G b=some n∧x∈n.vals
 | 0,h=>by simp [rf] at h
 | N+1,h=>by
   simp only [rf] at h
   by_cases g:0<rf G x N
   ·obtain ⟨b,n,h1,h2,h3⟩:=tC g
    exact ⟨b,n,by omega,h2,h3⟩
   ·cases hN:G N with
    | none=>rw [hN] at h; simp only [vc] at h; omega
    | some n =>
      rw [hN] at h; simp only [vc] at h
      exact ⟨N,n,by omega,hN,List.count_pos_iff.1 (by omega)⟩
structure D0 (N:Nat) (T:TS) (G:Gh) (K:List Nat):Prop where
 n1:T.now.length=N
 n2:T.was.length=N
 cnt:∀ x,x<N→T.now[x]?=some (K.count x+rf G x N)
 tok:∀ x∈K,x<N
 z:0∈K
 dom:∀ b n,G b=some n→b<N∧b≠0∧0<K.count b+rf G b N∧T.g b=.nd n∧n.fits
 vin:∀ b n,G b=some n→∀ v∈n.vals,v<N
 clo:∀ b n,G b=some n→n.leaf=false→∀ v∈n.vals,∃ m,G v=some m
 hgt:∃ ht:Nat→Nat,∀ b n,G b=some n→n.leaf=false→∀ v∈n.vals,ht v<ht b
 lfv:∀ b n,G b=some n→n.leaf=true→∀ v∈n.vals,G v=none
variable {N:Nat} {T T':TS} {G:Gh} {K K':List Nat}
theorem D0.perm (h:D0 N T G K) (hc:∀ x,K'.count x=K.count x):D0 N T G K':=by
 have hm:∀ x,x∈K'↔x∈K:=fun x=>by rw [← List.count_pos_iff,← List.count_pos_iff,hc]
 exact ⟨h.n1,h.n2,fun x hx=>by rw [hc]; exact h.cnt x hx,fun x hx=>h.tok x ((hm x).1 hx),(hm 0).2 h.z,fun b n hb=>by rw [hc]; exact h.dom b n hb,h.vin,h.clo,h.hgt,h.lfv⟩
theorem D0.now0 (h:D0 N T G K) {x:Nat} (hx:T.now[x]?=some 0):K.count x=0∧rf G x N=0∧G x=none:=by
 have hl:x<N:=h.n1▸(List.getElem?_eq_some_iff.1 hx).1
 have:=h.cnt x hl
 rw [hx] at this
 simp only [Option.some.injEq] at this
 refine ⟨by omega,by omega,?_⟩
 cases hG:G x with
 | none=>rfl
 | some n=>have:=(h.dom x n hG).2.2.1; omega
theorem D0.now1 (h:D0 N T G K) {x:Nat} (hx:T.now[x]?=some 1) (hk:x∈K):K.count x=1∧rf G x N=0:=by
 have hl:x<N:=h.n1▸(List.getElem?_eq_some_iff.1 hx).1
 have:=h.cnt x hl
 rw [hx] at this
 simp only [Option.some.injEq] at this
 have:=List.count_pos_iff.2 hk
 omega
theorem D0.open' (h:D0 N T G K) {b:Nat} {n:Nd} (hb:G b=some n) (h0:rf G b N=0):D0 N T (gset G b none) (n.vals++K):=by
 have hl:=(h.dom b n hb).1
 have hr:∀ x,rf (gset G b none) x N+n.vals.count x=rf G x N:=fun x=>by
  have:=X1 (G:=G) (o:=none) (x:=x) hl
  rw [hb] at this; simpa [vc] using this
 have hG:∀ x m,gset G b none x=some m→G x=some m∧x≠b:=fun x m hx=>by
  by_cases g:x=b
  ·subst g; rw [D4] at hx; cases hx
  ·rw [BV g] at hx; exact ⟨hx,g⟩
 refine ⟨h.n1,h.n2,fun x hx=>?_,fun x hx=>?_,by simp [h.z],fun x m hx=>?_,fun x m hx=>h.vin x m (hG x m hx).1,fun x m hx hf v hv=>?_,?_,fun x m hx hf v hv=>by
  by_cases g:v=b
  ·subst g; exact D4
  ·rw [BV g]; exact h.lfv x m (hG x m hx).1 hf v hv⟩
 ·rw [h.cnt x hx,List.count_append,← hr x]; congr 1; omega
 ·rcases List.mem_append.1 hx with hx | hx
  ·exact h.vin b n hb x hx
  ·exact h.tok x hx
 ·have:=h.dom x m (hG x m hx).1
  have h2:=hr x
  rw [List.count_append]
  exact ⟨this.1,this.2.1,by omega,this.2.2.2⟩
 ·obtain ⟨hx1,hx2⟩:=hG x m hx
  obtain ⟨m',hm'⟩:=h.clo x m hx1 hf v hv
  refine ⟨m',?_⟩
  rw [BV]
  ·exact hm'
  ·intro e; subst e
   have:=Q5 (h.dom x m hx1).1 hx1 hv
   omega
 ·obtain ⟨ht,hh⟩:=h.hgt
  exact ⟨ht,fun x m hx=>hh x m (hG x m hx).1⟩
theorem uM (ht:Nat→Nat):∀ (l:List Nat),∃ M,∀ v∈l,ht v<M
 | []=>⟨0,by simp⟩
 | a::l=>by
   obtain ⟨M,hM⟩:=uM ht l
   refine ⟨max M (ht a+1),fun v hv=>?_⟩
   rcases List.mem_cons.1 hv with rfl | hv
   ·omega
   ·have:=hM v hv; omega
def Kd (G:Gh) (n:Nd):Prop:=(n.leaf=false→∀ v∈n.vals,∃ m,G v=some m)∧(n.leaf=true→∀ v∈n.vals,G v=none)
theorem D0.close {b:Nat} {n:Nd} (h:D0 N T G (n.vals++K)) (hb:G b=none) (hk:b∈K) (hb1:T.now[b]?=some 1) (hg:T.g b=.nd n) (hfi:n.fits) (hb0:b≠0) (hcd:Kd G n) (hz:0∈K):D0 N T (gset G b (some n)) K:=by
 obtain ⟨hc,hlv⟩:=hcd
 have hc1:=h.now1 hb1 (by simp [hk])
 have h0:=hc1.2
 have hbv:b∉n.vals:=fun hv=>by
  have h1:=List.count_pos_iff.2 hv
  have h2:=List.count_pos_iff.2 hk
  rw [List.count_append] at hc1
  omega
 have hl:=h.tok b (by simp [hk])
 have hr:∀ x,rf (gset G b (some n)) x N=rf G x N+n.vals.count x:=fun x=>by
  have:=X1 (G:=G) (o:=some n) (x:=x) hl
  rw [hb] at this; simpa [vc] using this
 have hnb:∀ x m,G x=some m→x≠b:=fun x m hx e=>by subst e; rw [hb] at hx; cases hx
 have VV:∀ v,(∃ m,G v=some m)→∃ m,gset G b (some n) v=some m:=fun v ⟨m,hm⟩=>⟨m,by rw [BV (hnb v m hm)]; exact hm⟩
 have hG:∀ x m,gset G b (some n) x=some m→(x=b∧m=n)∨(x≠b∧G x=some m):=fun x m hx=>by
  by_cases g:x=b
  ·subst g; rw [D4] at hx; cases hx; exact .inl ⟨rfl,rfl⟩
  ·rw [BV g] at hx; exact .inr ⟨g,hx⟩
 refine ⟨h.n1,h.n2,fun x hx=>?_,fun x hx=>h.tok x (by simp [hx]),hz,fun x m hx=>?_,fun x m hx v hv=>?_,fun x m hx hf v hv=>?_,?_,fun x m hx hf v hv=>by
  rcases hG x m hx with ⟨e1,e2⟩ | ⟨g,hx'⟩
  ·rw [e2] at hf hv
   rw [BV (fun e=>hbv (by rw [← e]; exact hv))]; exact hlv hf v hv
  ·rw [BV (fun e=>by rw [e] at hv; have:=Q5 (h.dom x m hx').1 hx' hv; omega)]; exact h.lfv x m hx' hf v hv⟩
 ·rw [h.cnt x hx,List.count_append,hr x]; congr 1; omega
 ·rw [hr x]
  rcases hG x m hx with ⟨rfl,rfl⟩ | ⟨g,hx⟩
  ·have:=List.count_pos_iff.2 hk
   exact ⟨hl,hb0,by omega,hg,hfi⟩
  ·have:=h.dom x m hx
   rw [List.count_append] at this
   exact ⟨this.1,this.2.1,by omega,this.2.2.2⟩
 ·rcases hG x m hx with ⟨rfl,rfl⟩ | ⟨g,hx⟩
  ·exact h.tok v (by simp [hv])
  ·exact h.vin x m hx v hv
 ·apply VV
  rcases hG x m hx with ⟨rfl,rfl⟩ | ⟨g,hx⟩
  ·exact hc hf v hv
  ·exact h.clo x m hx hf v hv
 ·obtain ⟨ht,hh⟩:=h.hgt
  obtain ⟨M,hM⟩:=uM ht n.vals
  refine ⟨fun x=>if x=b then M else ht x,fun x m hx hf v hv=>?_⟩
  have hvb:v≠b:=by
   rcases hG x m hx with ⟨rfl,rfl⟩ | ⟨g,hx⟩
   ·obtain ⟨m',hm'⟩:=hc hf v hv; exact hnb v m' hm'
   ·obtain ⟨m',hm'⟩:=h.clo x m hx hf v hv; exact hnb v m' hm'
  simp only [if_neg hvb]
  rcases hG x m hx with ⟨rfl,rfl⟩ | ⟨g,hx⟩
  ·rw [if_pos rfl]; exact hM v hv
  ·rw [if_neg g]; exact hh x m hx hf v hv
theorem D0.put (h:D0 N T G K) {b:Nat} {n:Nd} (hb:G b=none):D0 N (T.put b n) G K:=by
 refine ⟨h.n1,h.n2,h.cnt,h.tok,h.z,fun x m hx=>?_,h.vin,h.clo,h.hgt,h.lfv⟩
 have:=h.dom x m hx
 refine ⟨this.1,this.2.1,this.2.2.1,?_,this.2.2.2.2⟩
 have hne:x≠b:=fun e=>by subst e; rw [hb] at hx; cases hx
 simp only [TS.put,if_neg hne]; exact this.2.2.2.1
theorem D0.now' (h:D0 N T G K) {x c:Nat} (hT:T'={ T with now:=T.now.set x c }) (hx:x<N) (hc:c=K'.count x+rf G x N) (ho:∀ y,y≠x→K'.count y=K.count y) (hd:G x=none∨0<c) (hz:0∈K'):D0 N T' G K':=by
 subst hT
 have h1:=h.n1
 refine ⟨by simp [h1],h.n2,fun y hy=>?_,fun y hy=>?_,hz,fun b n hb=>?_,h.vin,h.clo,h.hgt,h.lfv⟩
 ·by_cases g:y=x
  ·subst g; rw [List.getElem?_set_self (by omega),hc]
  ·rw [List.getElem?_set_ne (by omega),h.cnt y hy,ho y g]
 ·by_cases g:y=x
  ·omega
  ·have:=List.count_pos_iff.2 hy
   rw [ho y g] at this
   exact h.tok y (List.count_pos_iff.1 this)
 ·have:=h.dom b n hb
  refine ⟨this.1,this.2.1,?_,this.2.2.2⟩
  by_cases g:b=x
  ·subst g
   rcases hd with hd | hd
   ·rw [hd] at hb; cases hb
   ·omega
  ·rw [ho b g]; exact this.2.2.1
theorem hY {now was:List Nat} {a:Nat} (h:XL now was=some a):now[a]?=some 0∧was[a]?=some 0:=by
 unfold XL at h
 rw [List.findIdx?_eq_some_iff_getElem] at h
 obtain ⟨hl,he,_⟩:=h
 have:(UA now was)[a]?=some true:=by rw [List.getElem?_eq_getElem hl]; simpa using he
 unfold UA at this
 rw [List.getElem?_zipWith] at this
 cases h1:now[a]? with
 | none=>rw [h1] at this; simp at this
 | some x =>
   cases h2:was[a]? with
   | none=>rw [h1,h2] at this; simp at this
   | some y =>
     rw [h1,h2] at this
     simp at this
     exact ⟨by rw [this.1],by rw [this.2]⟩
theorem D0.alloc (h:D0 N T G K):T.alloc=.err 8 T∨∃ a T',T.alloc=.ok a T'∧D0 N T' G (a::K)∧T.now[a]?=some 0∧T'.now[a]?=some 1∧T'.was[a]?=some 0∧T'.was=T.was∧T'.g=T.g:=by
 unfold TS.alloc
 cases hl:XL T.now T.was with
 | none=>exact .inl rfl
 | some a =>
   right
   obtain ⟨h0,hw⟩:=hY hl
   have ha:a<N:=h.n1▸(List.getElem?_eq_some_iff.1 h0).1
   obtain ⟨k0,r0,g0⟩:=h.now0 h0
   refine ⟨a,_,rfl,h.now' rfl ha (by simp [k0,r0]) (fun y hy=>by rw [List.count_cons_of_ne (Ne.symm hy)]) (.inl g0) (by simp [h.z]),h0,?_,hw,rfl,rfl⟩
   have h1:=h.n1
   simp only
   rw [List.getElem?_set_self (by omega)]
theorem D0.inc (h:D0 N T G K) {v:Nat} (hv:v<N) (hl:0<K.count v+rf G v N):T.inc v=.err 8 T∨∃ T',T.inc v=.ok () T'∧D0 N T' G (v::K)∧T'.was=T.was∧T'.g=T.g:=by
 unfold TS.inc
 rw [h.cnt v hv]
 simp only
 rw [if_neg (by omega)]
 split
 ·exact .inl rfl
 ·right
  refine ⟨_,rfl,h.now' rfl hv (by simp; omega) (fun y hy=>by rw [List.count_cons_of_ne (Ne.symm hy)]) (.inr (by omega)) (by simp [h.z]),rfl,rfl⟩
theorem D0.incs:∀ {vs:List Nat} {T:TS} {K:List Nat},D0 N T G K→(∀ v∈vs,v<N∧0<rf G v N)→(∃ T',incs vs T=.err 8 T')∨∃ T',incs vs T=.ok () T'∧D0 N T' G (vs++K)∧T'.was=T.was∧T'.g=T.g
 | [],T,K,h,_=>.inr ⟨T,rfl,h,rfl,rfl⟩
 | v::vs,T,K,h,hv=>by
   simp only [Go.Ax.C.incs]
   have h0:=hv v (by simp)
   rcases h.inc h0.1 (by omega) with he | ⟨T1,he,h1,w1,g1⟩
   ·rw [he]; exact .inl ⟨T,rfl⟩
   ·rw [he]
    simp only [R.bind]
    rcases D0.incs (vs:=vs) h1 (fun x hx=>hv x (by simp [hx])) with ⟨T2,h2⟩ | ⟨T2,e2,h2,w2,g2⟩
    ·exact .inl ⟨T2,h2⟩
    ·exact .inr ⟨T2,e2,h2.perm fun x=>by simp [List.count_append,List.count_cons]; omega,by rw [w2,w1],by rw [g2,g1]⟩
theorem D0.dec {a:Nat} (h:D0 N T G (a::K)) (hz:0∈K) (hd:G a=none∨0<K.count a+rf G a N):∃ T',T.dec a=.ok (decide (K.count a+rf G a N=0)) T'∧D0 N T' G K∧T'.was=T.was∧T'.g=T.g:=by
 have ha:=h.tok a (by simp)
 unfold TS.dec
 rw [h.cnt a ha]
 simp only [List.count_cons_self]
 rw [if_neg (by omega)]
 refine ⟨_,?_,h.now' (K':=K) rfl ha (c:=K.count a+1+rf G a N - 1) (by omega) (fun y hy=>by rw [List.count_cons_of_ne (Ne.symm hy)]) ?_ hz,rfl,rfl⟩
 ·congr 1
  exact decide_eq_decide.2 (by omega)
 ·rcases hd with hd | hd
  ·exact .inl hd
  ·exact .inr (by omega)
end Go.Ax.C
set_option maxRecDepth 100000
namespace Go.Ax.C
open Go.Proofs Go.RowKit
variable {N:Nat} {T T':TS} {G:Gh} {K K':List Nat}
theorem YN {T:TS} {b:Nat} {n:Nd} (hg:T.g b=.nd n) (hf:n.fits):T.node b=some n:=by
 unfold TS.node; rw [hg]; simp only; rw [if_pos hf]
theorem D0.shadow {a:Nat} {n:Nd} (h:D0 N T G (a::K)) (hz:0∈K) (hG:G a=some n) :
 (∃ T',T.shadow a=.err 8 T')∨∃ CB T' G',T.shadow a=.ok (CB,n) T'∧D0 N T' G' (CB::(n.vals++K))∧T'.now[CB]?=some 1∧T'.was[CB]?=some 0∧T'.was=T.was∧T'.g CB=.nd n∧G' CB=none∧(G'=G∨(G'=gset G a none∧K.count a=0∧rf G a N=0))∧(∀ x,x≠CB→T'.g x=T.g x)∧(CB=a∨T.now[CB]?=some 0):=by
 obtain ⟨haN,ha0,hal,hag,haf⟩:=h.dom a n hG
 have hna:=h.cnt a haN
 have hwa:∃ y,T.was[a]?=some y:=⟨_,List.getElem?_eq_getElem (by rw [h.n2]; exact haN)⟩
 obtain ⟨y,hy⟩:=hwa
 unfold TS.shadow
 rw [YN hag haf,hna,hy]
 simp only
 by_cases g1:List.count a (a::K)+rf G a N=1∧y=0
 ·rw [if_pos g1]
  right
  have hc:K.count a=0∧rf G a N=0:=by have:=g1.1; rw [List.count_cons_self] at this; omega
  refine ⟨a,T,gset G a none,rfl,(h.open' hG hc.2).perm fun x=>?_,?_,?_,rfl,hag,D4,.inr ⟨rfl,hc⟩,fun _ _=>rfl,.inl rfl⟩
  ·simp [List.count_append,List.count_cons]; omega
  ·rw [hna,g1.1]
  ·rw [hy,g1.2]
 rw [if_neg g1,if_neg (by rw [List.count_cons_self]; omega)]
 rcases h.alloc with he | ⟨CB,T1,he,h1,hz1,ho1,hw1,w1,e1⟩
 ·rw [he]; exact .inl ⟨T,rfl⟩
 rw [he]
 simp only [R.bind]
 obtain ⟨ko,ro,go⟩:=h.now0 hz1
 have hoa:CB≠a:=fun e=>by subst e; rw [hG] at go; cases go
 have hov:CB∉n.vals:=fun hv=>by have:=Q5 haN hG hv; omega
 have hko:K.count CB=0:=by rw [List.count_cons_of_ne (Ne.symm hoa)] at ko; exact ko
 have hcv:n.vals.count CB=0:=List.count_eq_zero.2 hov
 have hoN:CB<N:=h1.tok CB (by simp)
 by_cases g2:1<List.count a (a::K)+rf G a N
 ·rw [if_pos g2]
  rcases D0.incs (vs:=n.vals) h1 (fun v hv=>⟨h.vin a n hG v hv,Q5 haN hG hv⟩) with ⟨T2,e2⟩ | ⟨T2,e2,h2,w2,f2⟩
  ·rw [e2]; exact .inl ⟨T2,rfl⟩
  rw [e2]
  simp only
  have h3:D0 N T2 G (a::(CB::(n.vals++K))):=h2.perm fun x=>by simp [List.count_append,List.count_cons]; omega
  rw [List.count_cons_self] at g2
  obtain ⟨T3,e3,h4,w3,f3⟩:=h3.dec (by simp [hz]) (.inr (by simp [List.count_append,List.count_cons]; omega))
  rw [e3]
  right
  refine ⟨CB,_,G,rfl,h4.put go,?_,?_,?_,?_,go,.inl rfl,fun x hx=>?_,.inr hz1⟩
  ·have:=h4.cnt CB hoN
   simp only [TS.put]
   rw [this]
   simp [List.count_append,List.count_cons,hcv,hko,ro]
  ·simp only [TS.put]; rw [w3,w2]; exact hw1
  ·simp only [TS.put]; rw [w3,w2,w1]
  ·simp [TS.put]
  ·simp only [TS.put,if_neg hx]; rw [f3,f2,e1]
 ·rw [if_neg g2]
  simp only
  rw [List.count_cons_self] at g2
  have hc:K.count a=0∧rf G a N=0:=by omega
  have h2:D0 N T1 (gset G a none) (a::(CB::(n.vals++K))):=(h1.open' hG hc.2).perm fun x=>by simp [List.count_append,List.count_cons]; omega
  obtain ⟨T3,e3,h4,w3,f3⟩:=h2.dec (by simp [hz]) (.inl D4)
  rw [e3]
  right
  have go':gset G a none CB=none:=by rw [BV hoa]; exact go
  have hr':rf (gset G a none) CB N=0:=by
   have:=X1 (G:=G) (o:=none) (x:=CB) haN
   rw [hG] at this; simp only [vc] at this; omega
  refine ⟨CB,_,gset G a none,rfl,h4.put go',?_,?_,?_,?_,go',.inr ⟨rfl,hc⟩,fun x hx=>?_,.inr hz1⟩
  ·have:=h4.cnt CB hoN
   simp only [TS.put]
   rw [this]
   simp [List.count_append,List.count_cons,hcv,hko,hr']
  ·simp only [TS.put]; rw [w3]; exact hw1
  ·simp only [TS.put]; rw [w3,w1]
  ·simp [TS.put]
  ·simp only [TS.put,if_neg hx]; rw [f3,e1]
abbrev KV:=Nat×Nat
def hd (L:List KV):Nat :=
 match L with
 | []=>0
 | p::_=>p.1
inductive CV (t:Nat→List KV→Prop):List Nat→List Nat→List KV→Prop
 | nil:CV t [] [] []
 | cons {k v:Nat} {ks vs:List Nat} {l L:List KV}:t v l→l≠[]→hd l=k→CV t ks vs L→CV t (k::ks) (v::vs) (l++L)
def KE (G:Gh):Nat→Nd→List KV→Prop
 | 0,n,L=>n.leaf=true∧n.vals.length=n.keys.length∧L=n.keys.zip n.vals
 | h+1,n,L=>n.leaf=false∧CV (fun v l=>∃ m,G v=some m∧4≤m.keys.length∧KE G h m l) n.keys n.vals L
def G9 (G:Gh) (h:Nat) (v:Nat) (l:List KV):Prop:=∃ m,G v=some m∧4≤m.keys.length∧KE G h m l
theorem IR {h:Nat} {n:Nd} {L:List KV}:KE G (h+1) n L↔n.leaf=false∧CV (G9 G h) n.keys n.vals L:=Iff.rfl
variable {t t':Nat→List KV→Prop} {ks vs ks2 vs2:List Nat} {L L2:List KV}
theorem CV.len (h:CV t ks vs L):vs.length=ks.length:=by
 induction h with
 | nil=>rfl
 | cons _ _ _ _ ih=>simp [ih]
theorem CV.mono (h:CV t ks vs L) (hm:∀ v∈vs,∀ l,t v l→t' v l):CV t' ks vs L:=by
 induction h with
 | nil=>exact .nil
 | cons h1 h2 h3 _ ih=>exact .cons (hm _ (by simp) _ h1) h2 h3 (ih fun v hv=>hm v (by simp [hv]))
theorem CV.append (h:CV t ks vs L) (h2:CV t ks2 vs2 L2):CV t (ks++ks2) (vs++vs2) (L++L2):=by
 induction h with
 | nil=>exact h2
 | cons a b c _ ih=>rw [List.append_assoc]; exact .cons a b c ih
theorem CV.take_drop:∀ {ks vs:List Nat} {L:List KV} (i:Nat),CV t ks vs L→∃ A B,L=A++B∧CV t (ks.take i) (vs.take i) A∧CV t (ks.drop i) (vs.drop i) B
 | _,_,_,0,h=>⟨[],_,rfl,.nil,h⟩
 | _,_,_,_+1,.nil=>⟨[],[],rfl,.nil,.nil⟩
 | _,_,_,i+1,.cons h1 h2 h3 h4=>by
   obtain ⟨A,B,rfl,ha,hb⟩:=h4.take_drop i
   exact ⟨_,B,by rw [← List.append_assoc],.cons h1 h2 h3 ha,hb⟩
theorem CV.at' {i v:Nat} (h:CV t ks vs L) (hv:vs[i]?=some v):∃ k A l B,L=A++(l++B)∧ks[i]?=some k∧hd l=k∧l≠[]∧t v l∧CV t (ks.take i) (vs.take i) A∧CV t (ks.drop (i+1)) (vs.drop (i+1)) B:=by
 obtain ⟨A,B,rfl,ha,hb⟩:=h.take_drop i
 obtain ⟨hi,hv⟩:=List.getElem?_eq_some_iff.1 hv
 rw [List.drop_eq_getElem_cons hi,hv,List.drop_eq_getElem_cons (by rw [← h.len]; exact hi)] at hb
 cases hb with
 | cons h1 h2 h3 h4=>exact ⟨_,A,_,_,rfl,List.getElem?_eq_getElem (by rw [← h.len]; exact hi),h3,h2,h1,ha,h4⟩
theorem CV.ne (h:CV t ks vs L):L≠[]↔ks≠[]:=by
 cases h with
 | nil=>simp
 | cons h1 h2=>simp [h2]
theorem lO {A B:List KV} (h:A≠[]):hd (A++B)=hd A:=by
 cases A with
 | nil=>exact absurd rfl h
 | cons=>rfl
theorem CV.hd (h:CV t ks vs L):ks.head?.getD 0=hd L:=by
 cases h with
 | nil=>rfl
 | cons h1 h2 h3=>rw [lO h2]; exact h3.symm
theorem ZX {h:Nat} {n:Nd} {L:List KV} (hb:KE G h n L):n.vals.length=n.keys.length:=by
 cases h with
 | zero=>exact hb.2.1
 | succ h=>exact hb.2.len
theorem RD {h:Nat} {n:Nd} {L:List KV} (hb:KE G h n L):n.keys.head?.getD 0=hd L:=by
 cases h with
 | zero =>
   obtain ⟨_,h2,rfl⟩:=hb
   cases hk:n.keys with
   | nil=>rfl
   | cons k ks =>
     cases hv:n.vals with
     | nil=>rw [hk,hv] at h2; simp at h2
     | cons v vs=>rfl
 | succ h=>exact hb.2.hd
theorem KZ {h:Nat} {n:Nd} {L:List KV} (hb:KE G h n L):L≠[]↔n.keys≠[]:=by
 cases h with
 | zero =>
   obtain ⟨_,h2,rfl⟩:=hb
   cases hk:n.keys with
   | nil=>simp
   | cons k ks =>
     cases hv:n.vals with
     | nil=>rw [hk,hv] at h2; simp at h2
     | cons v vs=>simp
 | succ h=>exact hb.2.ne
theorem G9.del (hI:D0 N T G K) {a:Nat} (h0:rf G a N=0):∀ {h v:Nat} {l:List KV},v≠a→G9 G h v l→G9 (gset G a none) h v l
 | h,v,l,hv,⟨m,hm,h4,hb⟩=>by
   refine ⟨m,by rw [BV hv]; exact hm,h4,?_⟩
   cases h with
   | zero=>exact hb
   | succ h=>exact ⟨hb.1,hb.2.mono fun w hw l' hl=>G9.del hI h0 (fun e=>by subst e; have:=Q5 (hI.dom v m hm).1 hm hw; omega) hl⟩
theorem G9.set {b:Nat} {o:Option Nd} (h0:G b=none):∀ {h v:Nat} {l:List KV},G9 G h v l→G9 (gset G b o) h v l
 | h,v,l,⟨m,hm,h4,hb⟩=>by
   refine ⟨m,by rw [BV (fun e=>by subst e; rw [h0] at hm; cases hm)]; exact hm,h4,?_⟩
   cases h with
   | zero=>exact hb
   | succ h=>exact ⟨hb.1,hb.2.mono fun w hw l' hl=>G9.set h0 hl⟩
end Go.Ax.C
set_option maxRecDepth 100000
namespace Go.Ax.C
open Go.Proofs Go.RowKit
variable {N:Nat} {T T':TS} {G:Gh} {K K':List Nat}
def C4 (L:List KV):Prop:=(L.map (·.1)).Pairwise (·<·)∧∀ p∈L,p.2≠0
theorem C4.left {A B:List KV} (h:C4 (A++B)):C4 A:=by
 obtain ⟨h1,h2⟩:=h
 rw [List.map_append,List.pairwise_append] at h1
 exact ⟨h1.1,fun p hp=>h2 p (by simp [hp])⟩
theorem C4.right {A B:List KV} (h:C4 (A++B)):C4 B:=by
 obtain ⟨h1,h2⟩:=h
 rw [List.map_append,List.pairwise_append] at h1
 exact ⟨h1.2.1,fun p hp=>h2 p (by simp [hp])⟩
theorem C4.lt {A B:List KV} (h:C4 (A++B)) {p q:KV} (hp:p∈A) (hq:q∈B):p.1<q.1:=by
 have h1:=h.1
 rw [List.map_append,List.pairwise_append] at h1
 exact h1.2.2 _ (List.mem_map_of_mem hp) _ (List.mem_map_of_mem hq)
theorem YM {L:List KV} (h:L≠[]):∃ p∈L,p.1=hd L:=by
 cases L with
 | nil=>exact absurd rfl h
 | cons p L=>exact ⟨p,by simp,rfl⟩
theorem C4.hd_le {L:List KV} (h:C4 L) {p:KV} (hp:p∈L):hd L≤p.1:=by
 cases L with
 | nil=>simp at hp
 | cons q L =>
   rcases List.mem_cons.1 hp with rfl | hp
   ·exact Nat.le_refl _
   ·exact Nat.le_of_lt (h.lt (A:=[q]) (B:=L) (by simp) hp)
theorem CV.keys {t:Nat→List KV→Prop} {ks vs:List Nat} {L:List KV} (h:CV t ks vs L):∀ k∈ks,∃ p∈L,p.1=k:=by
 induction h with
 | nil=>simp
 | cons h1 h2 h3 _ ih =>
   intro k hk
   rcases List.mem_cons.1 hk with rfl | hk
   ·obtain ⟨p,hp,e⟩:=YM h2
    exact ⟨p,by simp [hp],by rw [e,h3]⟩
   ·obtain ⟨p,hp,e⟩:=ih k hk
    exact ⟨p,by simp [hp],e⟩
theorem CV.sorted {t:Nat→List KV→Prop} {ks vs:List Nat} {L:List KV} (h:CV t ks vs L) (hg:C4 L):ks.Pairwise (·<·):=by
 induction h with
 | nil=>exact .nil
 | cons h1 h2 h3 h4 ih =>
   refine List.Pairwise.cons (fun k hk=>?_) (ih hg.right)
   obtain ⟨p,hp,e⟩:=YM h2
   obtain ⟨q,hq,f⟩:=h4.keys k hk
   have:=hg.lt hp hq
   omega
theorem WD:∀ {ks vs:List Nat},vs.length=ks.length→(ks.zip vs).map (·.1)=ks
 | [],[],_=>rfl
 | [],_::_,h=>by simp at h
 | _::_,[],h=>by simp at h
 | k::ks,v::vs,h=>by simp [WD (ks:=ks) (vs:=vs) (by simpa using h)]
theorem wA:∀ {ks vs:List Nat} {v:Nat},vs.length=ks.length→v∈vs→∃ k,(k,v)∈ks.zip vs
 | [],[],_,_,h=>by simp at h
 | [],_::_,_,h,_=>by simp at h
 | _::_,[],_,h,_=>by simp at h
 | k::ks,w::vs,v,h,hv=>by
   rcases List.mem_cons.1 hv with rfl | hv
   ·exact ⟨k,by simp⟩
   ·obtain ⟨k',hk⟩:=wA (ks:=ks) (vs:=vs) (by simpa using h) hv
    exact ⟨k',by simp [hk]⟩
theorem CV.kid {t:Nat→List KV→Prop} {ks vs:List Nat} {L:List KV} (h:CV t ks vs L):∀ v∈vs,∃ l,t v l:=by
 induction h with
 | nil=>simp
 | cons h1 _ _ _ ih =>
   intro v hv
   rcases List.mem_cons.1 hv with rfl | hv
   ·exact ⟨_,h1⟩
   ·exact ih v hv
theorem IJ (hI:D0 N T G K) {h:Nat} {n:Nd} {L:List KV} (hb:KE G h n L) (hg:C4 L) (h1:1≤n.keys.length) (h8:n.keys.length≤8):n.May:=by
 refine ⟨⟨h1,h8,ZX hb⟩,?_,?_⟩
 ·cases h with
  | zero =>
    obtain ⟨_,h2,rfl⟩:=hb
    have:=hg.1
    rw [WD h2] at this
    exact this
  | succ h=>exact hb.2.sorted hg
 ·intro v hv
  cases h with
  | zero =>
    obtain ⟨_,h2,rfl⟩:=hb
    obtain ⟨k,hk⟩:=wA h2 hv
    exact hg.2 _ hk
  | succ h =>
    obtain ⟨l,m,hm,_⟩:=hb.2.kid v hv
    exact (hI.dom v m hm).2.1
inductive jT (G:Gh) (sp:List KV→Nat):List Wp→Nat→Nat→List KV→List KV→List KV→List Nat→Prop
 | top (h b:Nat) (Lf:List KV):jT G sp [] h b Lf [] [] []
 | down {P:List Wp} {s:Wp} {h:Nat} {Lf L1 L2 A B:List KV} {W ks1 ks2 vs1 vs2:List Nat} {k v:Nat}:jT G sp P (h+1) s.at' (A++(Lf++B)) L1 L2 W→s.n=⟨false,ks1++k::ks2,vs1++v::vs2⟩→s.nx=ks1.length→vs1.length=ks1.length→CV (G9 G h) ks1 vs1 A→CV (G9 G h) ks2 vs2 B→k=sp Lf→s.n.keys.length≤8→(P=[]→2≤s.n.keys.length)→(P≠[]→4≤s.n.keys.length)→jT G sp (P++[s]) h v Lf (L1++A) (B++L2) (W++(vs1++vs2))
variable {sp:List KV→Nat} {P:List Wp} {h b:Nat} {Lf L1 L2:List KV} {W:List Nat}
theorem jT.mono {G':Gh} (hz:jT G sp P h b Lf L1 L2 W) (hm:∀ v∈W,∀ h l,G9 G h v l→G9 G' h v l):jT G' sp P h b Lf L1 L2 W:=by
 induction hz with
 | top=>exact .top _ _ _
 | down h0 h1 h2 h3 h4 h5 h6 h7 h8 h9 ih =>
   exact .down (ih fun v hv=>hm v (by simp [hv])) h1 h2 h3 (h4.mono fun v hv l=>hm v (by simp [hv]) _ l) (h5.mono fun v hv l=>hm v (by simp [hv]) _ l) h6 h7 h8 h9
def HM (T:TS) (G:Gh) (P:List Wp):Prop:=∀ s∈P,s.n.May∧T.g s.at'=.nd s.n∧T.now[s.at']?=some 1∧T.was[s.at']?=some 0∧G s.at'=none
def E7 (G G':Gh) (X:List Nat):Prop:=∀ r∈X,(G r=none→G' r=none)∧∀ n,G r=some n→G' r=some n∧∀ h l,KE G h n l→KE G' h n l
theorem E7.refl {X:List Nat}:E7 G G X:=fun _ _=>⟨id,fun _ h=>⟨h,fun _ _ h=>h⟩⟩
theorem E7.trans {G1 G2 G3:Gh} {X:List Nat} (h1:E7 G1 G2 X) (h2:E7 G2 G3 X):E7 G1 G3 X:=fun r hr =>
 ⟨fun h=>(h2 r hr).1 ((h1 r hr).1 h),fun n hn =>
 have a:=(h1 r hr).2 n hn
 have c:=(h2 r hr).2 n a.1
 ⟨c.1,fun h l hb=>c.2 h l (a.2 h l hb)⟩⟩
theorem E7.set {X:List Nat} {b:Nat} {o:Option Nd} (h0:G b=none) (hX:b∉X):E7 G (gset G b o) X:=fun r hr=>by
 have hne:r≠b:=fun e=>hX (e▸hr)
 refine ⟨fun h=>by rw [BV hne]; exact h,fun n hn=>⟨by rw [BV hne]; exact hn,fun h l hb=>?_⟩⟩
 cases h with
 | zero=>exact hb
 | succ h=>exact ⟨hb.1,hb.2.mono fun w hw l' hl=>G9.set h0 hl⟩
theorem E7.del {X:List Nat} (hI:D0 N T G K) {a:Nat} (h0:rf G a N=0) (ha:X.count a=0):E7 G (gset G a none) X:=fun r hr=>by
 have hne:r≠a:=fun e=>by subst e; have:=List.count_pos_iff.2 hr; omega
 refine ⟨fun h=>by rw [BV hne]; exact h,fun n hn=>⟨by rw [BV hne]; exact hn,fun h l hb=>?_⟩⟩
 cases h with
 | zero=>exact hb
 | succ h=>exact ⟨hb.1,hb.2.mono fun w hw l' hl=>G9.del hI h0 (fun e=>by subst e; have:=Q5 (hI.dom r n hn).1 hn hw; omega) hl⟩
theorem SR {T:TS} {a:Nat} {n:Nd} (hm:n.May) (ha:a<T.now.length):lS T a n=.ok () (T.put a n):=by
 unfold lS
 rw [if_pos (show n.fits from ⟨hm.1.1,hm.1.2.1⟩),if_pos hm,if_pos ha]
theorem cT {T:TS} {P:List Wp} {s:Wp} {i key val:Nat} (hi:i<s.n.keys.length) (hm:(s.n.setN i key val).May) (ha:s.at'<T.now.length) :
 QI (P++[s]) ((P++[s]).length - 1) i key val T=.ok (P++[{ s with n:=s.n.setN i key val }]) (T.put s.at' (s.n.setN i key val)):=by
 unfold QI
 have e:(P++[s]).length - 1=P.length:=by simp
 rw [e,List.getElem?_append_right (Nat.le_refl _)]
 simp only [Nat.sub_self,List.getElem?_cons_zero]
 rw [if_pos hi,SR hm ha]
 simp [R.bind,List.set_append]
theorem bG:∀ {xs:List Nat} {key:Nat},xs.Pairwise (·<·)→xs≠[]→CU xs key<xs.length∧(∀ i x,xs[i]?=some x→CU xs key<i→key<x)∧(∀ x,xs[CU xs key]?=some x→x≤key∨CU xs key=0):=by
 intro xs key hp hne
 have hl:(xs.takeWhile fun x=>decide (x≤key)).length≤xs.length:=(List.takeWhile_prefix _).length_le
 have h0:0<xs.length:=List.length_pos_iff.2 hne
 refine ⟨by unfold CU; omega,fun i x hx hi=>?_,fun x hx=>?_⟩
 ·unfold CU at hi
  have hil:i<xs.length:=(List.getElem?_eq_some_iff.1 hx).1
  by_cases g:key<x
  ·exact g
  exfalso
  have hall:∀ j,j≤i→∀ y,xs[j]?=some y→y≤key:=fun j hj y hy=>by
   rcases Nat.lt_or_eq_of_le hj with hj | rfl
   ·obtain ⟨h1,h2⟩:=List.getElem?_eq_some_iff.1 hy
    obtain ⟨h3,h4⟩:=List.getElem?_eq_some_iff.1 hx
    have:=List.pairwise_iff_getElem.1 hp j i h1 h3 hj
    omega
   ·rw [hx] at hy; cases hy; omega
  have ht:(xs.take (i+1)).all (fun x=>decide (x≤key))=true:=by
   rw [List.all_eq_true]
   intro y hy
   obtain ⟨j,hj,rfl⟩:=List.getElem_of_mem hy
   rw [List.length_take] at hj
   simpa using hall j (by omega) _ (by rw [List.getElem?_eq_getElem (show j<xs.length by omega)])
  have e:xs.takeWhile (fun x=>decide (x≤key))=xs.take (i+1)++(xs.drop (i+1)).takeWhile (fun x=>decide (x≤key)):=by
   conv=>lhs; rw [← List.take_append_drop (i+1) xs]
   rw [List.takeWhile_append_of_pos]
   intro y hy
   exact List.all_eq_true.1 ht y hy
  rw [e,List.length_append,List.length_take] at hi
  omega
 ·by_cases g:CU xs key=0
  ·exact .inr g
  left
  unfold CU at hx g
  have hlt:(xs.takeWhile fun x=>decide (x≤key)).length - 1<(xs.takeWhile fun x=>decide (x≤key)).length:=by omega
  have:=List.all_eq_true.1 (List.all_takeWhile (l:=xs) (p:=fun x=>decide (x≤key))) _ (List.getElem_mem hlt)
  have e:=List.IsPrefix.getElem (List.takeWhile_prefix (p:=fun x=>decide (x≤key)) (l:=xs)) hlt
  obtain ⟨h1,h2⟩:=List.getElem?_eq_some_iff.1 hx
  rw [e,h2] at this
  simpa using this
end Go.Ax.C
set_option maxRecDepth 100000
namespace Go.Ax.C
open Go.Proofs Go.RowKit
variable {N:Nat} {T T':TS} {G:Gh} {sp:List KV→Nat} {P:List Wp} {h b:Nat} {Lf L1 L2:List KV} {W X:List Nat}
def ADb (P:List Wp) (n:Nd):Prop:=1≤n.keys.length∧n.keys.length≤8∧(P≠[]→4≤n.keys.length)∧(P=[]→n.leaf=false→2≤n.keys.length)
structure Way (N:Nat) (T:TS) (G:Gh) (sp:List KV→Nat) (P:List Wp) (h b:Nat) (n:Nd) (Lf L1 L2:List KV) (W X:List Nat):Prop where
 inv:D0 N T G (b::(X++(P.map (·.at')++W)))
 z:0∈X
 zip:jT G sp P h b Lf L1 L2 W
 ok:HM T G P
 gb:G b=some n
 bod:KE G h n Lf
 sz:ADb P n
def dQ (G:Gh) (n:Nd):Prop:=n.leaf=true→∀ v∈n.vals,G v=none
theorem dQ.set {n:Nd} {o:Option Nd} (h:dQ G n) (hb:b∉n.vals):dQ (gset G b o) n:=fun hl v hv=>by
 rw [BV (show v≠b from fun e=>hb (e▸hv))]; exact h hl v hv
structure oA (N:Nat) (T:TS) (G:Gh) (sp:List KV→Nat) (P:List Wp) (h:Nat) (s:Wp) (Lf L1 L2:List KV) (W X:List Nat):Prop where
 inv:D0 N T G (X++((P.map (·.at')++[s.at'])++(W++s.n.vals)))
 z:0∈X
 zip:jT G sp P h s.at' Lf L1 L2 W
 ok:HM T G P
 me:T.now[s.at']?=some 1∧T.was[s.at']?=some 0∧G s.at'=none∧s.at'≠0
 lv:dQ G s.n
theorem ABW {α:Type} {A B:List α} {a b:α} (h:A++[a]=B++[b]):A=B∧a=b:=by
 obtain ⟨h1,h2⟩:=List.append_inj' h rfl
 exact ⟨h1,by simpa using h2⟩
theorem jT.last {s:Wp} (hz:jT G sp (P++[s]) h b Lf L1 L2 W):∃ L1' L2' A B W' ks1 k ks2 vs1 vs2,jT G sp P (h+1) s.at' (A++(Lf++B)) L1' L2' W'∧s.n=⟨false,ks1++k::ks2,vs1++b::vs2⟩∧s.nx=ks1.length∧vs1.length=ks1.length∧CV (G9 G h) ks1 vs1 A∧CV (G9 G h) ks2 vs2 B∧k=sp Lf∧s.n.keys.length≤8∧(P=[]→2≤s.n.keys.length)∧(P≠[]→4≤s.n.keys.length)∧L1=L1'++A∧L2=B++L2'∧W=W'++(vs1++vs2):=by
 generalize hP:P++[s]=P' at hz
 cases hz with
 | top=>simp at hP
 | down h0 h1 h2 h3 h4 h5 h6 h7 h8 h9 =>
   obtain ⟨rfl,rfl⟩:=ABW hP
   exact ⟨_,_,_,_,_,_,_,_,_,_,h0,h1,h2,h3,h4,h5,h6,h7,h8,h9,rfl,rfl,rfl⟩
theorem jT.relink {s:Wp} (hz:jT G sp (P++[s]) h b Lf L1 L2 W) (CB:Nat):∃ ks1 k ks2 vs1 vs2,s.n=⟨false,ks1++k::ks2,vs1++b::vs2⟩∧s.nx=ks1.length∧vs1.length=ks1.length∧jT G sp (P++[{ s with n:=⟨false,ks1++k::ks2,vs1++CB::vs2⟩ }]) h CB Lf L1 L2 W:=by
 obtain ⟨_,_,_,_,_,ks1,k,ks2,vs1,vs2,h0,h1,h2,h3,h4,h5,h6,h7,h8,h9,rfl,rfl,rfl⟩:=hz.last
 rw [h1] at h7 h8 h9
 exact ⟨ks1,k,ks2,vs1,vs2,h1,h2,h3,.down h0 rfl h2 h3 h4 h5 h6 h7 h8 h9⟩
theorem jT.reroot {CB:Nat} (hz:jT G sp [] h b Lf L1 L2 W):jT G sp [] h CB Lf L1 L2 W:=by
 generalize hP:([]:List Wp)=P' at hz
 cases hz with
 | top=>exact .top _ _ _
 | down=>simp at hP
theorem fA {α:Type} {A B:List α} {a b:α} {i:Nat} (h:i=A.length):(A++a::B).set i b=A++b::B:=by
 subst h; simp
theorem dR {n:Nd} (hw:Way N T G sp P h b n Lf L1 L2 W X) :
 (∃ T',T.shadow b=.err 8 T')∨∃ CB T1 P1 T2 G',T.shadow b=.ok (CB,n) T1∧nN P b CB T1=.ok P1 T2∧oA N T2 G' sp P1 h ⟨CB,n,0⟩ Lf L1 L2 W X∧T2.g CB=.nd n∧KE G' h n Lf∧E7 G G' X∧(P1=[]↔P=[])∧P1.map (·.at')=P.map (·.at')∧T2.was=T.was:=by
 obtain ⟨hI,hz,hzip,hok,hgb,hbod,hsz⟩:=hw
 rcases hI.shadow (by simp [hz]) hgb with h1 | ⟨CB,T1,G',e1,hI1,ho1,hw1,hw,hg1,hGo,hG',hgf,hown⟩
 ·exact .inl h1
 right
 have hbN:=(hI.dom b n hgb).1
 have hoN:CB<N:=hI1.tok CB (by simp)
 have hoc:=hI1.now1 ho1 (by simp)
 rw [List.count_cons_self] at hoc
 have ho0:CB≠0:=fun e=>by
  have:=List.count_pos_iff.2 hz
  subst e
  simp only [List.count_append] at hoc; omega
 -- what was subtree stays
 have hbW:G'=gset G b none→b∉W:=fun e hbw=>by
  rcases hG' with rfl | ⟨_,hc,_⟩
  ·have:=congrFun e b
   rw [D4,hgb] at this; cases this
  ·have:=List.count_pos_iff.2 hbw
   simp only [List.count_append] at hc; omega
 have hkeep:E7 G G' X:=by
  rcases hG' with rfl | ⟨rfl,hc,hr⟩
  ·exact .refl
  ·exact .del hI hr (by simp only [List.count_append] at hc; omega)
 have hkid:∀ v,v≠b∨G'=G→∀ h l,G9 G h v l→G9 G' h v l:=fun v hv h l hk=>by
  rcases hG' with rfl | ⟨rfl,hc,hr⟩
  ·exact hk
  ·rcases hv with hv | hv
   ·exact hk.del hI hr hv
   ·rw [hv]; exact hk
 have hzip1:jT G' sp P h b Lf L1 L2 W:=by
  refine hzip.mono fun v hv=>hkid v ?_
  rcases hG' with rfl | ⟨rfl,hc,hr⟩
  ·exact .inr rfl
  ·exact .inl fun e=>by subst e; exact hbW rfl hv
 have hbod1:KE G' h n Lf:=by
  cases h with
  | zero=>exact hbod
  | succ h =>
    refine ⟨hbod.1,hbod.2.mono fun v hv=>hkid v ?_ h⟩
    rcases hG' with rfl | ⟨rfl,hc,hr⟩
    ·exact .inr rfl
    ·exact .inl fun e=>by subst e; have:=Q5 hbN hgb hv; omega
 have hGn:∀ x,G x=none→G' x=none:=fun x hx=>by
  rcases hG' with rfl | ⟨rfl,_,_⟩
  ·exact hx
  ·by_cases g:x=b
   ·subst g; rw [D4]
   ·rw [BV g]; exact hx
 have hrl:∀ x,rf G x N=0→rf G' x N=0:=fun x hx=>by
  rcases hG' with rfl | ⟨rfl,_,_⟩
  ·exact hx
  ·have:=X1 (G:=G) (o:=none) (x:=x) hbN
   rw [hgb] at this; simp only [vc] at this; omega
 have hok1:HM T1 G' P:=fun s hs=>by
  obtain ⟨a1,a2,a3,a4,a5⟩:=hok s hs
  have hsm:s.at'∈X++(P.map (·.at')++W):=by simp; exact .inr (.inl ⟨s,hs,rfl⟩)
  have hso:s.at'≠CB:=fun e=>by
   rw [e] at hsm
   rcases hown with hown | hown
   ·subst hown
    rw [e] at a5; rw [hgb] at a5; cases a5
   ·rw [e,hown] at a3; cases a3
  have hc:=hI.now1 a3 (by simp only [List.mem_cons]; exact .inr hsm)
  have hsn:s.at'∉n.vals:=fun hv=>by have:=Q5 hbN hgb hv; omega
  have hsN:s.at'<N:=hI.tok _ (by simp only [List.mem_cons]; exact .inr hsm)
  refine ⟨a1,by rw [hgf _ hso]; exact a2,?_,by rw [hw]; exact a4,hGn _ a5⟩
  rw [hI1.cnt _ hsN,hrl _ hc.2,List.count_cons_of_ne (Ne.symm hso),List.count_append,List.count_eq_zero.2 hsn]
  have hsb:s.at'≠b:=fun e=>by rw [e,hgb] at a5; cases a5
  rw [List.count_cons_of_ne (Ne.symm hsb)] at hc
  rw [hc.1]
 have hlv:dQ G' n:=fun hl v hv=>hGn v (hI.lfv b n hgb hl v hv)
 -- the node above
 rcases List.eq_nil_or_concat P with rfl | ⟨P0,s,rfl⟩
 ·refine ⟨CB,T1,[],T1,G',e1,rfl,⟨hI1.perm fun x=>?_,hz,hzip1.reroot,hok1,⟨ho1,hw1,hGo,ho0⟩,hlv⟩,hg1,hbod1,hkeep,by simp,rfl,hw⟩
  simp [List.count_append,List.count_cons]; omega
 ·rw [List.concat_eq_append] at *
  obtain ⟨ks1,k,ks2,vs1,vs2,h1,h2,h3,hz2⟩:=hzip1.relink CB
  by_cases ge:CB=b
  ·subst ge
   have hs:({ s with n:=⟨false,ks1++k::ks2,vs1++CB::vs2⟩ }:Wp)=s:=by cases s; simp_all
   refine ⟨CB,T1,P0++[s],T1,G',e1,?_,⟨hI1.perm fun x=>?_,hz,hzip1,hok1,⟨ho1,hw1,hGo,ho0⟩,hlv⟩,hg1,hbod1,hkeep,by simp,rfl,hw⟩
   ·unfold nN
    simp
   ·simp [List.count_append,List.count_cons]; omega
  ·have hsok:=hok1 s (by simp)
   have hset:s.n.setN s.nx k CB=⟨false,ks1++k::ks2,vs1++CB::vs2⟩:=by
    unfold Nd.setN setF
    rw [h1]
    simp only [if_true,Bool.false_eq_true,if_false]
    rw [fA h2,fA (h2.trans h3.symm)]
   have hmay:(s.n.setN s.nx k CB).May:=by
    rw [hset]
    have:=hsok.1
    rw [h1] at this
    refine ⟨by simpa using this.1,this.2.1,fun v hv=>?_⟩
    simp only [List.mem_append,List.mem_cons] at hv
    rcases hv with hv | rfl | hv
    ·exact this.2.2 v (by simp [hv])
    ·exact ho0
    ·exact this.2.2 v (by simp [hv])
   have hsN:s.at'<T1.now.length:=by rw [hI1.n1]; exact hI1.tok _ (by simp)
   have hln:nN (P0++[s]) b CB T1=.ok (P0++[{ s with n:=⟨false,ks1++k::ks2,vs1++CB::vs2⟩ }]) (T1.put s.at' ⟨false,ks1++k::ks2,vs1++CB::vs2⟩):=by
    unfold nN
    have e:(P0++[s])[(P0++[s]).length - 1]?=some s:=by simp
    rw [e]
    simp only
    rw [if_neg ge]
    have ek:s.n.keys[s.nx]?=some k:=by rw [h1,h2]; simp
    rw [ek]
    simp only
    rw [cT (by rw [h1,h2]; simp) hmay hsN,hset]
   have hso:CB≠s.at':=fun e=>by rw [← e] at hsok; rcases hown with ho | ho
                                ·exact ge ho
                                ·have:=(hok s (by simp)).2.2.1
                                 rw [← e,ho] at this; cases this
   refine ⟨CB,T1,_,_,G',e1,hln,⟨(hI1.put hsok.2.2.2.2).perm fun x=>?_,hz,hz2,?_,⟨ho1,hw1,hGo,ho0⟩,hlv⟩,?_,hbod1,hkeep,by simp,by simp,hw⟩
   ·simp [List.count_append,List.count_cons]; omega
   ·intro t ht
    rcases List.mem_append.1 ht with ht | ht
    ·have:=hok1 t (by simp [ht])
     refine ⟨this.1,?_,this.2.2⟩
     simp only [TS.put]
     split
     ·rename_i e
      -- two steps at one block: not so
      exfalso
      have hc:=hI1.now1 this.2.2.1 (by simp; exact .inr (.inr (.inr (.inl ⟨t,ht,rfl⟩))))
      simp only [List.count_cons,List.count_append,List.map_append,List.map_cons,List.map_nil] at hc
      have h1:=List.count_pos_iff.2 (List.mem_map_of_mem (f:=(·.at')) ht)
      rw [e] at hc h1
      simp at hc
      omega
     ·exact this.2.1
    ·simp only [List.mem_singleton] at ht
     subst ht
     refine ⟨?_,by simp [TS.put],hsok.2.2⟩
     rw [hset] at hmay; exact hmay
   ·simp only [TS.put,if_neg hso]; exact hg1
end Go.Ax.C
set_option maxRecDepth 100000
namespace Go.Ax.C
open Go.Proofs Go.RowKit
variable {N:Nat} {sp:List KV→Nat} {X:List Nat}
theorem Z4 {α:Type} {xs:List α} {i:Nat} {x:α} (h:xs[i]?=some x):xs=xs.take i++x::xs.drop (i+1):=by
 obtain ⟨h1,h2⟩:=List.getElem?_eq_some_iff.1 h
 conv=>lhs; rw [← List.take_append_drop i xs]
 rw [List.drop_eq_getElem_cons h1,h2]
theorem ACn {xs:List Nat} {key k0:Nat} (hs:xs.Pairwise (·<·)) (h0:xs[0]?=some k0) (hk:key<k0):(xs.set 0 key).Pairwise (·<·):=by
 cases xs with
 | nil=>simp at h0
 | cons a xs =>
   simp only [List.getElem?_cons_zero,Option.some.injEq] at h0
   subst h0
   rw [List.pairwise_cons] at hs
   rw [List.set_cons_zero,List.pairwise_cons]
   exact ⟨fun y hy=>by have:=hs.1 y hy; omega,hs.2⟩
theorem WP {lower:Bool} {key:Nat} (hsp:sp=if lower=true then fun L=>min key (hd L) else hd):∀ (h f:Nat) (P:List Wp) (b:Nat) (n:Nd) (T:TS) (G:Gh) (Lf L1 L2:List KV) (W:List Nat),Way N T G sp P h b n Lf L1 L2 W X→C4 (L1++(Lf++L2))→(∀ p∈L1,p.1<key)→(∀ p∈L2,key<p.1)→h<f→(∃ T',HG lower key f P b T=.err 8 T')∨∃ P' s T' G' W' Lf' L1' L2',HG lower key f P b T=.ok (P'++[s]) T'∧oA N T' G' sp P' 0 s Lf' L1' L2' W' X∧T'.g s.at'=.nd s.n∧KE G' 0 s.n Lf'∧ADb P' s.n∧E7 G G' X∧L1'++(Lf'++L2')=L1++(Lf++L2)∧(∀ p∈L1',p.1<key)∧(∀ p∈L2',key<p.1)∧T'.was=T.was
 | _,0,_,_,_,_,_,_,_,_,_,_,_,_,_,hf=>by omega
 | 0,f+1,P,b,n,T,G,Lf,L1,L2,W,hw,hg,hl1,hl2,hf=>by
   rcases dR hw with ⟨T',e⟩ | ⟨CB,T1,P1,T2,G',e1,e2,ho,hg2,hb,hk,hp,hpm,hws⟩
   ·left; unfold HG; rw [e]; exact ⟨T',rfl⟩
   right
   refine ⟨P1,⟨CB,n,0⟩,T2,G',W,Lf,L1,L2,?_,ho,hg2,hb,?_,hk,rfl,hl1,hl2,hws⟩
   ·unfold HG
    rw [e1]; simp only [R.bind]; rw [e2]; simp only [hb.1,if_true]
   ·have:=hw.sz
    exact ⟨this.1,this.2.1,fun h=>this.2.2.1 fun e=>h (hp.2 e),fun h=>this.2.2.2 (hp.1 h)⟩
 | h+1,f+1,P,b,n,T,G,Lf,L1,L2,W,hw,hg,hl1,hl2,hf=>by
   rcases dR hw with ⟨T',e⟩ | ⟨CB,T1,P1,T2,G',e1,e2,ho,hg2,hb,hk,hp,hpm,hws⟩
   ·left; unfold HG; rw [e]; exact ⟨T',rfl⟩
   have hsz:=hw.sz
   have hgf:C4 Lf:=hg.right.left
   have hmay:=IJ ho.inv hb hgf hsz.1 hsz.2.1
   have hlen:=ZX hb
   obtain ⟨k0,hk0⟩:∃ k0,n.keys[0]?=some k0:=⟨_,List.getElem?_eq_getElem (by have:=hsz.1; omega)⟩
   obtain ⟨v0,hv0⟩:∃ v0,n.vals[0]?=some v0:=⟨_,List.getElem?_eq_getElem (by have:=hsz.1; omega)⟩
   have hoN:CB<N:=ho.inv.tok CB (by simp)
   -- the XL key
   obtain ⟨n1,T3,e3,hn1l,hn1v,hn1k,hn1m,hg3,hi3,hgo3,hw3⟩:∃ n1 T3,uN lower key (P1++[⟨CB,n,0⟩]) n T2=.ok (P1++[⟨CB,n1,0⟩]) T3∧n1.leaf=false∧n1.vals=n.vals∧((n1.keys=n.keys∧(lower=true→k0≤key))∨(n1.keys=n.keys.set 0 key∧lower=true∧key<k0))∧n1.May∧T3.g CB=.nd n1∧D0 N T3 G' (X++((P1.map (·.at')++[CB])++(W++n.vals)))∧(∀ x,x≠CB→T3.g x=T2.g x)∧T3.was=T2.was∧T3.now=T2.now:=by
    unfold uN
    rw [hk0,hv0]
    simp only
    by_cases gl:lower=true∧key<k0
    ·rw [if_pos gl]
     have hset:n.setN 0 key v0=⟨false,n.keys.set 0 key,n.vals⟩:=by
      unfold Nd.setN setF
      simp only [if_true,Bool.false_eq_true,if_false]
      rw [set_self hv0,hb.1]
     have hm:(n.setN 0 key v0).May:=by
      rw [hset]
      exact ⟨by simpa using hmay.1,ACn hmay.2.1 hk0 gl.2,hmay.2.2⟩
     have hs:=cT (T:=T2) (P:=P1) (s:=⟨CB,n,0⟩) (i:=0) (key:=key) (val:=v0) (by have:=hsz.1; show 0<n.keys.length; omega) hm (by rw [ho.inv.n1]; exact hoN)
     refine ⟨_,_,hs,by rw [hset],by rw [hset],.inr ⟨by rw [hset],gl⟩,hm,by simp [TS.put],ho.inv.put ho.me.2.2.1,fun x hx=>by simp [TS.put,hx],rfl,rfl⟩
    ·rw [if_neg gl]
     exact ⟨n,T2,rfl,hb.1,rfl,.inl ⟨rfl,fun hl=>by by_cases g:key<k0; exact absurd ⟨hl,g⟩ gl; omega⟩,hmay,hg2,ho.inv,fun _ _=>rfl,rfl,rfl⟩
   obtain ⟨hw3,hnow3⟩:=hw3
   -- the child
   have hn1len:n1.keys.length=n.keys.length:=by rcases hn1k with ⟨e,_⟩ | ⟨e,_⟩<;>rw [e]<;>simp
   have hn1ne:n1.keys≠[]:=fun e=>by rw [e] at hn1len; have:=hsz.1; simp at hn1len; omega
   obtain ⟨c1,c2,c3⟩:=bG (key:=key) hn1m.2.1 hn1ne
   generalize hi:CU n1.keys key=i at c1 c2 c3
   obtain ⟨v,hv⟩:∃ v,n.vals[i]?=some v:=⟨_,List.getElem?_eq_getElem (by omega)⟩
   obtain ⟨k,A,l,B,hL,hki,hdl,hlne,hkid,hA,hB⟩:=hb.2.at' hv
   obtain ⟨m,hGv,h4,hbm⟩:=hkid
   obtain ⟨k',hk'⟩:∃ k',n1.keys[i]?=some k':=⟨_,List.getElem?_eq_getElem c1⟩
   have hi0:lower=true→key<k0→i=0:=fun hl hlt=>by
    rcases hn1k with ⟨e,g⟩ | ⟨e,_,_⟩
    ·have:=g hl; omega
    ·rcases c3 k' hk' with h1 | h1
     ·by_cases g0:i=0
      ·exact g0
      exfalso
      rw [e,List.getElem?_set_ne (by omega)] at hk'
      obtain ⟨a1,a2⟩:=List.getElem?_eq_some_iff.1 hk'
      obtain ⟨b1,b2⟩:=List.getElem?_eq_some_iff.1 hk0
      have:=List.pairwise_iff_getElem.1 hmay.2.1 0 i b1 a1 (by omega)
      omega
     ·exact h1
   have hkk:∀ j,j≠0→n1.keys[j]?=n.keys[j]?:=fun j hj=>by
    rcases hn1k with ⟨e,_⟩ | ⟨e,_⟩
    ·rw [e]
    ·rw [e,List.getElem?_set_ne (by omega)]
   have hksp:k'=sp l:=by
    rw [hsp]
    rcases hn1k with ⟨e,g⟩ | ⟨e,hl,hlt⟩
    ·rw [e,hki] at hk'; cases hk'
     cases lower with
     | false=>simp [hdl]
     | true =>
       have:=g rfl
       simp only [if_true]
       have hle:k≤key:=by
        rcases c3 k (by rw [e]; exact hki) with h1 | h1
        ·exact h1
        ·subst h1; rw [hk0] at hki; cases hki; exact this
       rw [hdl]; omega
    ·have h0:=hi0 hl hlt
     subst h0
     rw [hk0] at hki; cases hki
     rw [e,List.getElem?_set_self (by have:=hsz.1; omega)] at hk'
     cases hk'
     rw [if_pos hl]
     (try simp only)
     rw [hdl]; omega
   have hgl:C4 (A++(l++B)):=by rw [← hL]; exact hgf
   have hA1:∀ p∈A,p.1<key:=fun p hp=>by
    have hi0':i≠0:=fun e=>by subst e; cases hA with | nil=>simp at hp
    have hle:k≤key:=by
     rcases c3 k (by rw [hkk i hi0']; exact hki) with h1 | h1
     ·exact h1
     ·exact absurd h1 hi0'
    obtain ⟨q,hq,e⟩:=YM hlne
    have:=hgl.lt hp (q:=q) (by simp [hq])
    omega
   have hB1:∀ p∈B,key<p.1:=fun p hp=>by
    have hbne:B≠[]:=fun e=>by subst e; simp at hp
    have hdrop:=hB.ne.1 hbne
    have hil:i+1<n.keys.length:=by
     by_cases g:i+1<n.keys.length
     ·exact g
     ·exact absurd (List.drop_eq_nil_of_le (by omega)) hdrop
    have e1:=hB.hd
    rw [List.drop_eq_getElem_cons hil] at e1
    simp only [List.head?_cons,Option.getD_some] at e1
    have:=c2 (i+1) _ (by rw [hkk (i+1) (by omega)]; exact List.getElem?_eq_getElem hil) (by omega)
    have h5:=hgl.right.right.hd_le hp
    omega
   have hs1:n1=⟨false,n1.keys.take i++k'::n1.keys.drop (i+1),n.vals.take i++v::n.vals.drop (i+1)⟩:=by
    rw [← Z4 hk',← Z4 hv,← hn1v,← hn1l]
   have hA':CV (G9 G' h) (n1.keys.take i) (n.vals.take i) A:=by
    rcases hn1k with ⟨e,_⟩ | ⟨e,hl,hlt⟩
    ·rw [e]; exact hA
    ·have h0:=hi0 hl hlt
     subst h0; exact hA
   have hB':CV (G9 G' h) (n1.keys.drop (i+1)) (n.vals.drop (i+1)) B:=by
    have:n1.keys.drop (i+1)=n.keys.drop (i+1):=by
     apply List.ext_getElem?
     intro j
     rw [List.getElem?_drop,List.getElem?_drop,hkk _ (by omega)]
    rw [this]; exact hB
   have hz3:jT G' sp (P1++[⟨CB,n1,i⟩]) h v l (L1++A) (B++L2) (W++(n.vals.take i++n.vals.drop (i+1))):=by
    have hzz:=ho.zip
    rw [hL] at hzz
    refine .down (s:=⟨CB,n1,i⟩) hzz hs1 (by simp; omega) (by rw [List.length_take,List.length_take]; omega) hA' hB' hksp (by have:=hsz.2.1; simp only; omega) (fun e=>?_) (fun e=>?_)
    ·have:=hsz.2.2.2 (hp.1 e) hb.1
     simp only; omega
    ·have:=hsz.2.2.1 (fun g=>e (hp.2 g))
     simp only; omega
   have hvn:n.vals=n.vals.take i++v::n.vals.drop (i+1):=Z4 hv
   have hcv:∀ x,n.vals.count x=(n.vals.take i).count x+((n.vals.drop (i+1)).count x+if v=x then 1 else 0):=fun x=>by
    conv=>lhs; rw [hvn]
    simp [List.count_append,List.count_cons]
   have hm8:=(hi3.dom v m hGv).2.2.2.2
   have hw2:Way N T3 G' sp (P1++[⟨CB,n1,i⟩]) h v m l (L1++A) (B++L2) (W++(n.vals.take i++n.vals.drop (i+1))) X:=by
    refine ⟨hi3.perm fun x=>?_,ho.z,hz3,fun s hs=>?_,hGv,hbm,hm8.1,hm8.2,fun _=>h4,fun e=>by simp at e⟩
    ·simp only [List.count_cons,List.count_append,List.map_append,List.map_cons,List.map_nil,List.count_nil,hcv x,beq_iff_eq]
     omega
    ·rcases List.mem_append.1 hs with hs | hs
     ·have:=ho.ok s hs
      refine ⟨this.1,?_,by rw [hnow3]; exact this.2.2.1,by rw [hw3]; exact this.2.2.2.1,this.2.2.2.2⟩
      rw [hgo3 _ fun e=>?_]
      ·exact this.2.1
      ·have hc:=ho.inv.now1 ho.me.1 (by simp)
       have h1:=List.count_pos_iff.2 (List.mem_map_of_mem (f:=(·.at')) hs)
       rw [e] at h1
       simp only [List.count_append,List.count_cons,List.count_nil] at hc
       simp at hc
       omega
     ·simp only [List.mem_singleton] at hs
      subst hs
      exact ⟨hn1m,hg3,by rw [hnow3]; exact ho.me.1,by rw [hw3]; exact ho.me.2.1,ho.me.2.2.1⟩
   have hstep:HG lower key (f+1) P b T=HG lower key f (P1++[⟨CB,n1,i⟩]) v T3:=by
    conv=>lhs; unfold HG
    rw [e1]; simp only [R.bind]; rw [e2]
    simp only [hb.1,Bool.false_eq_true,if_false]
    rw [e3]
    simp only
    unfold kZ
    have e:(P1++[(⟨CB,n1,0⟩:Wp)])[(P1++[(⟨CB,n1,0⟩:Wp)]).length - 1]?=some ⟨CB,n1,0⟩:=by simp
    rw [e]
    simp only
    rw [hi,hn1v,hv]
    simp only
    congr 1
    simp [List.set_append]
   rw [hstep]
   have hLL:(L1++A)++(l++(B++L2))=L1++(Lf++L2):=by rw [hL]; simp
   have hq1:∀ p∈L1++A,p.1<key:=fun p hp=>by
    rcases List.mem_append.1 hp with hp | hp
    ·exact hl1 p hp
    ·exact hA1 p hp
   have hq2:∀ p∈B++L2,key<p.1:=fun p hp=>by
    rcases List.mem_append.1 hp with hp | hp
    ·exact hB1 p hp
    ·exact hl2 p hp
   rcases WP hsp h f _ v m T3 G' l (L1++A) (B++L2) _ hw2 (by rw [hLL]; exact hg) hq1 hq2 (by omega) with he | ⟨P',s,T',G2,W',Lf',L1',L2',e,ho',h1,h2,h3,h4',h5,h6,h7,h8⟩
   ·exact .inl he
   ·exact .inr ⟨P',s,T',G2,W',Lf',L1',L2',e,ho',h1,h2,h3,hk.trans h4',by rw [h5,hLL],h6,h7,by rw [h8,hw3,hws]⟩
end Go.Ax.C
set_option maxRecDepth 100000
namespace Go.Ax.C
open Go.Proofs Go.RowKit
def ins (key val:Nat):List KV→List KV
 | []=>[(key,val)]
 | p::L=>if p.1<key then p::ins key val L else if p.1=key then (key,val)::L else (key,val)::p::L
def del (key:Nat):List KV→List KV
 | []=>[]
 | p::L=>if p.1<key then p::del key L else if p.1=key then L else p::L
def GN (key:Nat):List KV→Option Nat
 | []=>none
 | p::L=>if p.1=key then some p.2 else GN key L
variable {key val:Nat} {A B L:List KV}
theorem rT (h:∀ p∈A,p.1<key):ins key val (A++B)=A++ins key val B:=by
 induction A with
 | nil=>rfl
 | cons p A ih =>
   rw [List.cons_append,ins,if_pos (h p (by simp)),ih fun q hq=>h q (by simp [hq])]; rfl
theorem lH (h:∀ p∈B,key<p.1) (hA:A≠[]∨True):ins key val (A++B)=ins key val A++B:=by
 induction A with
 | nil =>
   cases B with
   | nil=>rfl
   | cons q B =>
     have:=h q (by simp)
     simp only [List.nil_append,ins]
     rw [if_neg (by omega),if_neg (by omega)]; rfl
 | cons p A ih =>
   rw [List.cons_append,ins,ins,ih (.inr trivial)]
   split
   ·rfl
   ·split<;>rfl
theorem qN (h:∀ p∈A,p.1<key):del key (A++B)=A++del key B:=by
 induction A with
 | nil=>rfl
 | cons p A ih =>
   rw [List.cons_append,del,if_pos (h p (by simp)),ih fun q hq=>h q (by simp [hq])]; rfl
theorem kV (h:∀ p∈B,key<p.1):del key (A++B)=del key A++B:=by
 induction A with
 | nil =>
   cases B with
   | nil=>rfl
   | cons q B =>
     have:=h q (by simp)
     simp only [List.nil_append,del]
     rw [if_neg (by omega),if_neg (by omega)]
 | cons p A ih =>
   rw [List.cons_append,del,del,ih]
   split
   ·rfl
   ·split<;>rfl
theorem gM (h:∀ p∈A,p.1<key):GN key (A++B)=GN key B:=by
 induction A with
 | nil=>rfl
 | cons p A ih =>
   have:=h p (by simp)
   rw [List.cons_append,GN,if_neg (by omega),ih fun q hq=>h q (by simp [hq])]
theorem WF (h:∀ p∈B,key<p.1):GN key (A++B)=GN key A:=by
 induction A with
 | nil =>
   induction B with
   | nil=>rfl
   | cons q B ih =>
     have:=h q (by simp)
     have ih':GN key B=none:=ih fun p hp=>h p (by simp [hp])
     show GN key (q::B)=none
     simp only [GN]
     rw [if_neg (by omega),ih']
 | cons p A ih=>rw [List.cons_append,GN,GN,ih]
theorem ADh (hL:L≠[]):hd (ins key val L)=min key (hd L):=by
 cases L with
 | nil=>exact absurd rfl hL
 | cons p L =>
   simp only [ins]
   split
   ·simp only [hd]; omega
   ·split
    ·simp only [hd]; omega
    ·simp only [hd]; omega
theorem AES:ins key val L≠[]:=by
 cases L with
 | nil=>simp [ins]
 | cons p L=>unfold ins; split<;>(try split)<;>simp
theorem ACD {p:KV} (h:p∈ins key val L):p=(key,val)∨p∈L:=by
 induction L with
 | nil=>simpa [ins] using h
 | cons q L ih =>
   unfold ins at h
   split at h
   ·rcases List.mem_cons.1 h with h | h
    ·exact .inr (by simp [h])
    ·rcases ih h with h | h
     ·exact .inl h
     ·exact .inr (by simp [h])
   ·split at h
    ·rcases List.mem_cons.1 h with h | h
     ·exact .inl h
     ·exact .inr (by simp [h])
    ·rcases List.mem_cons.1 h with h | h
     ·exact .inl h
     ·exact .inr h
theorem GZ {p:KV}:C4 (p::L)↔p.2≠0∧(∀ q∈L,p.1<q.1)∧C4 L:=by
 constructor
 ·intro h
  exact ⟨h.2 p (by simp),fun q hq=>h.lt (A:=[p]) (by simp) hq,C4.right (A:=[p]) h⟩
 ·rintro ⟨h1,h2,h3⟩
  refine ⟨?_,fun q hq=>?_⟩
  ·rw [List.map_cons,List.pairwise_cons]
   refine ⟨fun k hk=>?_,h3.1⟩
   obtain ⟨q,hq,rfl⟩:=List.mem_map.1 hk
   exact h2 q hq
  ·rcases List.mem_cons.1 hq with rfl | hq
   ·exact h1
   ·exact h3.2 q hq
theorem UE (hg:C4 L) (hv:val≠0):C4 (ins key val L):=by
 induction L with
 | nil=>exact ⟨by simp [ins],by simpa [ins] using hv⟩
 | cons p L ih =>
   obtain ⟨h1,h2,h3⟩:=GZ.1 hg
   unfold ins
   split
   ·rename_i g
    refine GZ.2 ⟨h1,fun q hq=>?_,ih h3⟩
    rcases ACD hq with rfl | hq
    ·exact g
    ·exact h2 q hq
   ·split
    ·rename_i g
     exact GZ.2 ⟨hv,fun q hq=>by have:=h2 q hq; show key<q.1; omega,h3⟩
    ·exact GZ.2 ⟨hv,fun q hq=>by
      rcases List.mem_cons.1 hq with rfl | hq
      ·show key<q.1; omega
      ·have:=h2 q hq; show key<q.1; omega,hg⟩
theorem ADB {p:KV} (h:p∈del key L):p∈L:=by
 induction L with
 | nil=>simp [del] at h
 | cons q L ih =>
   unfold del at h
   split at h
   ·rcases List.mem_cons.1 h with h | h
    ·simp [h]
    ·simp [ih h]
   ·split at h
    ·simp [h]
    ·exact h
theorem iN (hg:C4 L):C4 (del key L):=by
 induction L with
 | nil=>exact hg
 | cons p L ih =>
   obtain ⟨h1,h2,h3⟩:=GZ.1 hg
   unfold del
   split
   ·exact GZ.2 ⟨h1,fun q hq=>h2 q (ADB hq),ih h3⟩
   ·split
    ·exact h3
    ·exact hg
theorem S2 {k:Nat} {ks:List Nat}:BA (k::ks) key=if k<key then BA ks key+1 else 0:=by
 unfold BA
 rw [List.takeWhile_cons]
 by_cases h:k<key<;>simp [h]
theorem pC:∀ {ks vs:List Nat},vs.length=ks.length→ks[BA ks key]?≠some key→(SA (BA ks key) key val true ks).zip (SA (BA ks key) key val false vs)=ins key val (ks.zip vs)
 | [],[],_,_=>by simp [SA,ins]
 | [],_::_,h,_=>by simp at h
 | _::_,[],h,_=>by simp at h
 | k::ks,v::vs,h,hk=>by
   rw [S2] at hk ⊢
   by_cases g:k<key
   ·rw [if_pos g] at hk ⊢
    rw [List.getElem?_cons_succ] at hk
    have:=pC (ks:=ks) (vs:=vs) (by simpa using h) hk
    simp only [List.zip_cons_cons,ins,if_pos g]
    rw [← this]
    simp [SA]
   ·rw [if_neg g] at hk ⊢
    simp only [List.getElem?_cons_zero,ne_eq,Option.some.injEq] at hk
    simp only [List.zip_cons_cons,ins,if_neg g,if_neg hk]
    simp [SA]
theorem rS:∀ {ks vs:List Nat},vs.length=ks.length→ks[BA ks key]?=some key→(setF (BA ks key) key val true ks).zip (setF (BA ks key) key val false vs)=ins key val (ks.zip vs)
 | [],[],_,hk=>by simp at hk
 | [],_::_,h,_=>by simp at h
 | _::_,[],h,_=>by simp at h
 | k::ks,v::vs,h,hk=>by
   rw [S2] at hk ⊢
   by_cases g:k<key
   ·rw [if_pos g] at hk ⊢
    rw [List.getElem?_cons_succ] at hk
    have:=rS (ks:=ks) (vs:=vs) (by simpa using h) hk
    simp only [List.zip_cons_cons,ins,if_pos g]
    rw [← this]
    simp [setF]
   ·rw [if_neg g] at hk ⊢
    simp only [List.getElem?_cons_zero,Option.some.injEq] at hk
    simp only [List.zip_cons_cons,ins,if_neg g,if_pos hk]
    simp [setF]
theorem WS:∀ {ks vs:List Nat},vs.length=ks.length→ks.Pairwise (·<·)→GN key (ks.zip vs)=if ks[BA ks key]?=some key then vs[BA ks key]? else none
 | [],[],_,_=>by simp [GN]
 | [],_::_,h,_=>by simp at h
 | _::_,[],h,_=>by simp at h
 | k::ks,v::vs,h,hp=>by
   rw [List.pairwise_cons] at hp
   rw [S2]
   by_cases g:k<key
   ·rw [if_pos g,List.getElem?_cons_succ,List.getElem?_cons_succ,List.zip_cons_cons,GN,if_neg (by simp only; omega)]
    exact WS (by simpa using h) hp.2
   ·rw [if_neg g,List.zip_cons_cons,GN]
    simp only [List.getElem?_cons_zero,Option.some.injEq]
    by_cases e:k=key
    ·rw [if_pos e,if_pos e]
    ·rw [if_neg e,if_neg e]
     have:∀ p∈ks.zip vs,key<p.1:=fun p hp'=>by
      have h1:p.1∈ks:=(List.of_mem_zip (a:=p.1) (b:=p.2) hp').1
      have:=hp.1 _ h1
      omega
     have h2:=WF (key:=key) (A:=[]) this
     simpa [GN] using h2
theorem p8:∀ {ks vs:List Nat},vs.length=ks.length→ks[BA ks key]?=some key→(W1 (BA ks key) true ks).zip (W1 (BA ks key) false vs)=del key (ks.zip vs)
 | [],[],_,hk=>by simp at hk
 | [],_::_,h,_=>by simp at h
 | _::_,[],h,_=>by simp at h
 | k::ks,v::vs,h,hk=>by
   rw [S2] at hk ⊢
   by_cases g:k<key
   ·rw [if_pos g] at hk ⊢
    rw [List.getElem?_cons_succ] at hk
    have:=p8 (ks:=ks) (vs:=vs) (by simpa using h) hk
    simp only [List.zip_cons_cons,del,if_pos g]
    rw [← this]
    simp [W1]
   ·rw [if_neg g] at hk ⊢
    simp only [List.getElem?_cons_zero,Option.some.injEq] at hk
    simp only [List.zip_cons_cons,del,if_neg g,if_pos hk]
    simp [W1]
end Go.Ax.C
set_option maxRecDepth 100000
namespace Go.Ax.C
open Go.Proofs Go.RowKit
variable {N:Nat} {T T':TS} {G:Gh} {sp:List KV→Nat} {P:List Wp} {h b:Nat} {Lf L1 L2 L:List KV} {W X K:List Nat} {s:Wp} {n:Nd}
theorem ABD (hb:KE G h n L) (hl:n.leaf=false):∀ v∈n.vals,∃ m,G v=some m:=by
 cases h with
 | zero=>rw [hb.1] at hl; cases hl
 | succ h =>
   intro v hv
   obtain ⟨l,m,hm,_⟩:=hb.2.kid v hv
   exact ⟨m,hm⟩
theorem QV (hb:KE G h n L) (hl:dQ G n):Kd G n:=⟨ABD hb,hl⟩
theorem dQ.of {m:Nd} (h:dQ G n) (hs:m.leaf=true→n.leaf=true∧∀ v∈m.vals,v∈n.vals):dQ G m:=fun hl v hv=>h (hs hl).1 v ((hs hl).2 v hv)
theorem dQ.inner {m:Nd} (h:m.leaf=false):dQ G m:=fun hl=>by rw [h] at hl; cases hl
theorem dQ.lo (h:dQ G n):dQ G n.lo:=h.of fun hl=>⟨hl,fun _ hv=>List.mem_of_mem_take hv⟩
theorem dQ.hi (h:dQ G n):dQ G n.hi:=h.of fun hl=>⟨hl,fun _ hv=>List.mem_of_mem_drop hv⟩
theorem FX {o:Option Nd} (hG:G b=none) (hb:KE G h n L):KE (gset G b o) h n L:=by
 cases h with
 | zero=>exact hb
 | succ h=>exact ⟨hb.1,hb.2.mono fun v _ l hk=>G9.set hG hk⟩
theorem pD:∀ (i:Nat) (ks vs:List Nat),(ks.zip vs).take i=(ks.take i).zip (vs.take i)
 | 0,_,_=>by simp
 | _+1,[],_=>by simp
 | _+1,_::_,[]=>by simp
 | i+1,k::ks,v::vs=>by simp [pD i ks vs]
theorem oV:∀ (i:Nat) (ks vs:List Nat),(ks.zip vs).drop i=(ks.drop i).zip (vs.drop i)
 | 0,_,_=>by simp
 | _+1,[],_=>by simp
 | _+1,_::_,[]=>by simp
 | i+1,k::ks,v::vs=>by simp [oV i ks vs]
theorem nS (i:Nat) (hb:KE G h n L):∃ A B,L=A++B∧KE G h ⟨n.leaf,n.keys.take i,n.vals.take i⟩ A∧KE G h ⟨n.leaf,n.keys.drop i,n.vals.drop i⟩ B:=by
 cases h with
 | zero =>
   obtain ⟨h1,h2,rfl⟩:=hb
   exact ⟨(n.keys.zip n.vals).take i,(n.keys.zip n.vals).drop i,(List.take_append_drop i _).symm,⟨h1,by simp [h2],pD _ _ _⟩,⟨h1,by simp [h2],oV _ _ _⟩⟩
 | succ h =>
   obtain ⟨h1,h2⟩:=hb
   obtain ⟨A,B,rfl,ha,hb⟩:=h2.take_drop i
   exact ⟨A,B,rfl,⟨h1,ha⟩,⟨h1,hb⟩⟩
theorem oA.ne (ho:oA N T G sp P h s Lf L1 L2 W X):∀ t∈P,t.at'≠s.at':=fun t ht e=>by
 have hc:=ho.inv.now1 ho.me.1 (by simp)
 have h1:=List.count_pos_iff.2 (List.mem_map_of_mem (f:=(·.at')) ht)
 rw [e] at h1
 simp only [List.count_append,List.count_cons,List.count_nil] at hc
 simp at hc
 omega
theorem oA.nv (ho:oA N T G sp P h s Lf L1 L2 W X):s.at'∉s.n.vals:=fun hx=>by
 have hc:=ho.inv.now1 ho.me.1 (by simp)
 have h1:=List.count_pos_iff.2 hx
 simp only [List.count_append,List.count_cons,List.count_nil] at hc
 simp at hc
 omega
theorem oA.nX (ho:oA N T G sp P h s Lf L1 L2 W X):s.at'∉X:=fun hx=>by
 have hc:=ho.inv.now1 ho.me.1 (by simp)
 have h1:=List.count_pos_iff.2 hx
 simp only [List.count_append,List.count_cons,List.count_nil] at hc
 simp at hc
 omega
theorem HM.put {x:Nat} {m:Nd} (hp:HM T G P) (hn:∀ t∈P,t.at'≠x):HM (T.put x m) G P:=fun t ht=>by
 have:=hp t ht
 exact ⟨this.1,by simp only [TS.put,if_neg (hn t ht)]; exact this.2.1,this.2.2⟩
theorem HM.gset {x:Nat} {o:Option Nd} (hp:HM T G P) (hn:∀ t∈P,t.at'≠x):HM T (gset G x o) P:=fun t ht=>by
 have:=hp t ht
 exact ⟨this.1,this.2.1,this.2.2.1,this.2.2.2.1,by rw [BV (hn t ht)]; exact this.2.2.2.2⟩
theorem WO {a:Nat} (he:T.alloc=.ok a T'):T'={ T with now:=T.now.set a 1 }∧T.now[a]?=some 0:=by
 unfold TS.alloc at he
 cases hl:XL T.now T.was with
 | none=>rw [hl] at he; cases he
 | some c=>rw [hl] at he; cases he; exact ⟨rfl,(hY hl).1⟩
theorem HM.alloc {a:Nat} (he:T.alloc=.ok a T') (hp:HM T G P):HM T' G P∧∀ t∈P,t.at'≠a:=by
 obtain ⟨rfl,h0⟩:=WO he
 have hne:∀ t∈P,t.at'≠a:=fun t ht e=>by
  have:=(hp t ht).2.2.1
  rw [e,h0] at this; cases this
 refine ⟨fun t ht=>?_,hne⟩
 have:=hp t ht
 refine ⟨this.1,this.2.1,?_,this.2.2.2⟩
 simp only
 rw [List.getElem?_set_ne (Ne.symm (hne t ht))]
 exact this.2.2.1
theorem jT.nil (hz:jT G sp [] h b Lf L1 L2 W):L1=[]∧L2=[]∧W=[]:=by
 generalize hP:([]:List Wp)=P' at hz
 cases hz with
 | top=>exact ⟨rfl,rfl,rfl⟩
 | down=>simp at hP
def Rt (G:Gh) (r:Nat) (L:List KV):Prop:=∃ h n,G r=some n∧KE G h n L∧(n.leaf=false→2≤n.keys.length)
theorem gT {f:List Wp→Nat→TS→R (List Wp)} {k:Nat} {P:List Wp} {T:TS}:jJ f (k+1) P T=(f P k T).bind fun P T=>jJ f k P T:=rfl
theorem wV {A B:List Wp}:(A++s::B)[A.length]?=some s:=by simp
theorem AAv {A B:List Wp} {s':Wp}:(A++s::B).set A.length s'=A++s'::B:=by simp
theorem oA.close (ho:oA N T G sp P h s Lf L1 L2 W X) (hb:KE G h s.n L) (hsv:T.g s.at'=.nd s.n) (hf:s.n.fits):D0 N T (gset G s.at' (some s.n)) (X++((P.map (·.at')++[s.at'])++W)):=by
 refine D0.close (ho.inv.perm fun x=>?_) ho.me.2.2.1 (by simp) ho.me.1 hsv hf ho.me.2.2.2 (QV hb ho.lv) (by simp [ho.z])
 simp only [List.count_append]; omega
theorem AAQ {key val:Nat} (hv:val≠0) (hsp:sp=fun L=>min key (hd L)):∀ (k:Nat) (P Rs:List Wp) (h:Nat) (s:Wp) (T:TS) (G:Gh) (Lf L1 L2:List KV) (W:List Nat),P.length=k→oA N T G sp P h s Lf L1 L2 W X→(s.n.fits→T.g s.at'=.nd s.n)→KE G h s.n (ins key val Lf)→1≤s.n.keys.length∧s.n.keys.length≤9→(P≠[]→4≤s.n.keys.length)→(P=[]→s.n.leaf=false→2≤s.n.keys.length)→Lf≠[]→C4 (L1++(Lf++L2))→(∀ p∈L1,p.1<key)→(∀ p∈L2,key<p.1)→(∃ T',jJ HP (P.length+1) (P++s::Rs) T=.err 8 T')∨∃ p Q T' G',jJ HP (P.length+1) (P++s::Rs) T=.ok (p::Q) T'∧D0 N T' G' (p.at'::X)∧Rt G' p.at' (ins key val (L1++(Lf++L2)))∧E7 G G' X∧T'.was=T.was:=by
 intro k
 induction k with
 | zero =>
   intro P Rs h s T G Lf L1 L2 W hk ho hsv hb h9 h4 h2 hne hg hl1 hl2
   obtain rfl:=List.length_eq_zero_iff.1 hk
   obtain ⟨rfl,rfl,rfl⟩:=ho.zip.nil
   have hgi:C4 (ins key val Lf):=UE (by simpa using hg) hv
   simp only [List.length_nil,Nat.zero_add,List.nil_append,List.append_nil]
   rw [gT]
   unfold HP
   simp only [List.getElem?_cons_zero]
   by_cases g8:s.n.keys.length≤8
   ·rw [if_pos g8]
    right
    have hf:s.n.fits:=⟨h9.1,g8⟩
    refine ⟨s,Rs,T,gset G s.at' (some s.n),rfl,(ho.close hb (hsv hf) hf).perm fun x=>?_,⟨h,s.n,D4,FX ho.me.2.2.1 hb,h2 rfl⟩,.set ho.me.2.2.1 ho.nX,rfl⟩
    simp [List.count_append,List.count_cons]
   rw [if_neg g8]
   have hlen:s.n.keys.length=9:=by omega
   have hvl:=ZX hb
   obtain ⟨A,B,hAB,hbA,hbB⟩:=nS (EB s.n) hb
   have hh:EB s.n=5:=by unfold EB; rw [hlen]
   rw [hAB] at hgi
   have kA:s.n.lo.keys.length=5:=by simp [Nd.lo,hh,hlen]
   have kB:s.n.hi.keys.length=4:=by simp [Nd.hi,hh,hlen]
   have mA:s.n.lo.May:=IJ ho.inv hbA hgi.left (by show 1≤s.n.lo.keys.length; omega) (by show s.n.lo.keys.length≤8; omega)
   have mB:s.n.hi.May:=IJ ho.inv hbB hgi.right (by show 1≤s.n.hi.keys.length; omega) (by show s.n.hi.keys.length≤8; omega)
   have hsN:s.at'<N:=ho.inv.tok _ (by simp)
   unfold D6
   simp only [List.getElem?_cons_zero]
   rw [SR mA (by rw [ho.inv.n1]; exact hsN)]
   simp only [R.bind,List.set_cons_zero]
   have i1:D0 N (T.put s.at' s.n.lo) G (X++((([]:List Wp).map (·.at')++[s.at'])++([]++s.n.vals))):=ho.inv.put ho.me.2.2.1
   unfold TS.make
   rw [if_pos mB]
   rcases i1.alloc with e2 | ⟨a,T2,e2,i2,a0,a1,aw,w2,g2⟩
   ·rw [e2]; exact .inl ⟨_,rfl⟩
   rw [e2]
   simp only [R.bind]
   have hsne:s.at'≠a:=fun e=>by
    have:=ho.me.1
    rw [e] at this; simp only [TS.put] at a0; rw [a0] at this; cases this
   have ga:G a=none:=(i1.now0 a0).2.2
   have haX:a∉X:=fun hx=>by have:=List.count_pos_iff.2 hx; have h0:=(i1.now0 a0).1; rw [List.count_append] at h0; omega
   have i3:D0 N (T2.put a s.n.hi) G (a::(X++((([]:List Wp).map (·.at')++[s.at'])++([]++s.n.vals)))):=i2.put ga
   have hsv3:(T2.put a s.n.hi).g s.at'=.nd s.n.lo:=by simp only [TS.put,if_neg hsne]; rw [g2]; simp [TS.put]
   have hcv:∀ x,s.n.vals.count x=s.n.lo.vals.count x+s.n.hi.vals.count x:=fun x=>by
    conv=>lhs; rw [← List.take_append_drop (EB s.n) s.n.vals]
    rw [List.count_append]; rfl
   have hns:T2.now[s.at']?=some 1:=by
    rw [(WO e2).1]
    simp only
    rw [List.getElem?_set_ne (Ne.symm hsne)]
    exact ho.me.1
   have i4:D0 N (T2.put a s.n.hi) (gset G s.at' (some s.n.lo)) (s.n.hi.vals++(a::s.at'::X)):=by
    refine D0.close (i3.perm fun x=>?_) ho.me.2.2.1 (by simp) hns hsv3 ⟨by omega,by omega⟩ ho.me.2.2.2 (QV hbA ho.lv.lo) (by simp [ho.z])
    simp only [List.count_append,List.count_cons,List.map_nil,List.count_nil,hcv x]; omega
   have hbB4:=FX (o:=some s.n.lo) ho.me.2.2.1 hbB
   have ga4:gset G s.at' (some s.n.lo) a=none:=by rw [BV (Ne.symm hsne)]; exact ga
   have a0':a≠0:=fun e=>by
    have:=i2.now1 a1 (by simp)
    have h0:=List.count_pos_iff.2 ho.z
    rw [e] at this
    simp only [List.count_cons,List.count_append] at this
    simp at this
    omega
   have i5:D0 N (T2.put a s.n.hi) (gset (gset G s.at' (some s.n.lo)) a (some s.n.hi)) (a::s.at'::X):=by
    exact D0.close i4 ga4 (by simp) a1 (by simp [TS.put]) ⟨by omega,by omega⟩ a0' (QV hbB4 (ho.lv.hi.set fun hv=>ho.nv (List.mem_of_mem_drop hv))) (by simp [ho.z])
   have hkA:G9 (gset (gset G s.at' (some s.n.lo)) a (some s.n.hi)) h s.at' A:=⟨s.n.lo,by rw [BV hsne,D4],by omega,FX ga4 (FX ho.me.2.2.1 hbA)⟩
   have hkB:G9 (gset (gset G s.at' (some s.n.lo)) a (some s.n.hi)) h a B:=⟨s.n.hi,D4,by omega,FX ga4 hbB4⟩
   obtain ⟨q0,hq0⟩:∃ q0,s.n.lo.keys[0]?=some q0:=⟨_,List.getElem?_eq_getElem (by omega)⟩
   obtain ⟨r0,hr0⟩:∃ r0,s.n.hi.keys[0]?=some r0:=⟨_,List.getElem?_eq_getElem (by omega)⟩
   have hdA:hd A=q0:=by rw [← RD hbA]; show s.n.lo.keys.head?.getD 0=q0; rw [List.head?_eq_getElem?,hq0]; rfl
   have hdB:hd B=r0:=by rw [← RD hbB]; show s.n.hi.keys.head?.getD 0=r0; rw [List.head?_eq_getElem?,hr0]; rfl
   have neA:A≠[]:=(KZ hbA).2 fun e=>by have:s.n.lo.keys=[]:=e; rw [this] at kA; simp at kA
   have neB:B≠[]:=(KZ hbB).2 fun e=>by have:s.n.hi.keys=[]:=e; rw [this] at kB; simp at kB
   rw [hq0,hr0]
   simp only [Nat.lt_irrefl,if_false]
   have hlt:q0<r0:=by
    obtain ⟨p,hp,e1⟩:=YM neA
    obtain ⟨q,hq,e2⟩:=YM neB
    have:=hgi.lt hp hq
    omega
   have hmt:Nd.May ⟨false,[q0,r0],[s.at',a]⟩:=⟨by simp,by simp [hlt],by simp [ho.me.2.2.2,a0']⟩
   rw [if_pos hmt]
   rcases i5.alloc with e6 | ⟨top,T6,e6,i6,t0,t1,tw,w6,g6⟩
   ·rw [e6]; exact .inl ⟨_,rfl⟩
   rw [e6]
   right
   have gt:=(i5.now0 t0).2.2
   have htX:top∉X:=fun hx=>by have:=List.count_pos_iff.2 hx; have h0:=(i5.now0 t0).1; simp only [List.count_cons] at h0; omega
   have tz:top≠0:=fun e=>by
    have:=i6.now1 t1 (by simp)
    have h0:=List.count_pos_iff.2 ho.z
    rw [e] at this
    simp only [List.count_cons] at this
    simp at this
    omega
   refine ⟨⟨top,⟨false,[q0,r0],[s.at',a]⟩,0⟩,_,_,gset (gset (gset G s.at' (some s.n.lo)) a (some s.n.hi)) top (some ⟨false,[q0,r0],[s.at',a]⟩),rfl,?_,⟨h+1,_,D4,IR.2 ⟨rfl,?_⟩,by simp⟩,?_,?_⟩
   ·refine D0.close (n:=⟨false,[q0,r0],[s.at',a]⟩) ((i6.put gt).perm fun x=>?_) gt (by simp) t1 (by simp [TS.put]) ⟨by simp,by simp⟩ tz ⟨fun _ v hv=>?_,fun hl=>by simp at hl⟩ (by simp [ho.z])
    ·simp only [List.count_append,List.count_cons,List.count_nil]; omega
    ·simp only [List.mem_cons,List.not_mem_nil,or_false] at hv
     rcases hv with rfl | rfl
     ·exact ⟨_,hkA.choose_spec.1⟩
     ·exact ⟨_,hkB.choose_spec.1⟩
   ·rw [hAB]
    have:=CV.cons (G9.set (o:=some ⟨false,[q0,r0],[s.at',a]⟩) gt hkA) neA hdA (.cons (G9.set (o:=some ⟨false,[q0,r0],[s.at',a]⟩) gt hkB) neB hdB .nil)
    simpa using this
   ·exact (E7.set ho.me.2.2.1 ho.nX).trans ((E7.set ga4 haX).trans (E7.set gt htX))
   ·simp only [TS.put]; rw [w6]; simp only [TS.put]; rw [w2]; simp only [TS.put]
 | succ k ih =>
   intro P Rs h s T G Lf L1 L2 W hk ho hsv hb h9 h4 h2 hne hg hl1 hl2
   obtain ⟨P0,u,rfl⟩:∃ P0 u,P=P0++[u]:=by
    rcases List.eq_nil_or_concat P with rfl | ⟨P0,u,rfl⟩
    ·simp at hk
    ·exact ⟨P0,u,List.concat_eq_append⟩
   have hk0:P0.length=k:=by simpa using hk
   obtain ⟨M1,M2,A,B,W',ks1,kk,ks2,vs1,vs2,z0,z1,z2,z3,z4,z5,z6,z7,z8,z9,rfl,rfl,rfl⟩:=ho.zip.last
   have hLL:M1++((A++(Lf++B))++M2)=(M1++A)++(Lf++(B++M2)):=by simp
   have hgT:C4 ((M1++A)++(ins key val Lf++(B++M2))):=by
    rw [← lH hl2 (.inr trivial),← rT hl1]; exact UE hg hv
   have hgi:C4 (ins key val Lf):=hgT.right.left
   have hinsL:ins key val (A++(Lf++B))=A++(ins key val Lf++B):=by
    rw [rT fun p hp=>hl1 p (by simp [hp]),lH (fun p hp=>hl2 p (by simp [hp])) (.inr trivial)]
   have hhd:hd (ins key val Lf)=kk:=by rw [z6,hsp,ADh hne]
   have hu:=ho.ok u (by simp)
   have hus:u.at'≠s.at':=ho.ne u (by simp)
   have huc:=ho.inv.now1 hu.2.2.1 (by simp)
   have huP:∀ t∈P0,t.at'≠u.at':=fun t ht e=>by
    have h1:=List.count_pos_iff.2 (List.mem_map_of_mem (f:=(·.at')) ht)
    rw [e] at h1
    simp only [List.map_append,List.map_cons,List.map_nil,List.count_append,List.count_cons,List.count_nil] at huc
    simp at huc
    omega
   have hu0:u.at'≠0:=fun e=>by
    have h0:=List.count_pos_iff.2 ho.z
    rw [e] at huc
    simp only [List.map_append,List.map_cons,List.map_nil,List.count_append,List.count_cons,List.count_nil] at huc
    simp [e] at huc
    omega
   have hsP:∀ t∈P0,t.at'≠s.at':=fun t ht=>ho.ne t (by simp [ht])
   have hokP:HM T G P0:=fun t ht=>ho.ok t (by simp [ht])
   have huv:u.n.vals=vs1++s.at'::vs2:=by rw [z1]
   have huk:u.n.keys=ks1++kk::ks2:=by rw [z1]
   have hul:u.n.leaf=false:=by rw [z1]
   have hlenP:(P0++[u]).length=P0.length+1:=by simp
   have hl1':∀ p∈M1,p.1<key:=fun p hp=>hl1 p (by simp [hp])
   have hl2':∀ p∈M2,key<p.1:=fun p hp=>hl2 p (by simp [hp])
   rw [gT]
   unfold HP
   rw [wV]
   simp only
   by_cases g8:s.n.keys.length≤8
   ·rw [if_pos g8]
    simp only [R.bind]
    have hf:s.n.fits:=⟨h9.1,g8⟩
    have hG0:=ho.me.2.2.1
    have hop:oA N T (gset G s.at' (some s.n)) sp P0 (h+1) u (A++(Lf++B)) M1 M2 W' X:=by
     refine ⟨(ho.close hb (hsv hf) hf).perm fun x=>?_,ho.z,z0.mono fun v _ h l hk=>G9.set hG0 hk,hokP.gset hsP,⟨hu.2.2.1,hu.2.2.2.1,by rw [BV hus]; exact hu.2.2.2.2,hu0⟩,.inner hul⟩
     rw [huv]
     simp only [List.map_append,List.map_cons,List.map_nil,List.count_append,List.count_cons,List.count_nil]; omega
    have hbu:KE (gset G s.at' (some s.n)) (h+1) u.n (ins key val (A++(Lf++B))):=by
     refine IR.2 ⟨hul,?_⟩
     rw [hinsL,huv,huk]
     exact (z4.mono fun v _ l hk=>G9.set hG0 hk).append (.cons ⟨s.n,D4,h4 (by simp),FX hG0 hb⟩ AES hhd (z5.mono fun v _ l hk=>G9.set hG0 hk))
    have:=ih P0 (s::Rs) (h+1) u T _ _ M1 M2 W' hk0 hop (fun _=>hu.2.1) hbu ⟨hu.1.1.1,by omega⟩ z9 (fun e _=>z8 e) (by simp [hne]) (by rw [hLL]; exact hg) hl1' hl2'
    rw [hlenP,List.append_assoc]
    rcases this with h1 | ⟨p,Q,T',G',e,i,r,kp,w⟩
    ·exact .inl h1
    ·exact .inr ⟨p,Q,T',G',e,i,by rw [← hLL]; exact r,(E7.set hG0 ho.nX).trans kp,w⟩
   rw [if_neg g8]
   have hlen:s.n.keys.length=9:=by omega
   have hvl:=ZX hb
   obtain ⟨A1,B1,hAB,hbA,hbB⟩:=nS (EB s.n) hb
   have hh:EB s.n=5:=by unfold EB; rw [hlen]
   rw [hAB] at hgi hgT hhd
   have kA:s.n.lo.keys.length=5:=by simp [Nd.lo,hh,hlen]
   have kB:s.n.hi.keys.length=4:=by simp [Nd.hi,hh,hlen]
   have mA:s.n.lo.May:=IJ ho.inv hbA hgi.left (by show 1≤s.n.lo.keys.length; omega) (by show s.n.lo.keys.length≤8; omega)
   have mB:s.n.hi.May:=IJ ho.inv hbB hgi.right (by show 1≤s.n.hi.keys.length; omega) (by show s.n.hi.keys.length≤8; omega)
   have hsN:s.at'<N:=ho.inv.tok _ (by simp)
   have huN:u.at'<N:=ho.inv.tok _ (by simp)
   have hw1:D6 (P0++[u]++s::Rs) (P0++[u]).length s.n.lo T=.ok (P0++[u]++{ s with n:=s.n.lo }::Rs) (T.put s.at' s.n.lo):=by
    unfold D6
    rw [wV]
    simp only
    rw [SR mA (by rw [ho.inv.n1]; exact hsN)]
    simp only [R.bind,AAv]
   rw [hw1]
   simp only [R.bind]
   have i1:=ho.inv.put (n:=s.n.lo) ho.me.2.2.1
   unfold TS.make
   rw [if_pos mB]
   rcases i1.alloc with e2 | ⟨a,T2,e2,i2,a0,a1,aw,w2,g2⟩
   ·rw [e2]; exact .inl ⟨_,rfl⟩
   rw [e2]
   simp only [R.bind]
   have hsne:s.at'≠a:=fun e=>by
    have:=ho.me.1
    rw [e] at this; simp only [TS.put] at a0; rw [a0] at this; cases this
   have hune:u.at'≠a:=fun e=>by
    have:=hu.2.2.1
    rw [e] at this; simp only [TS.put] at a0; rw [a0] at this; cases this
   have ga:G a=none:=(i1.now0 a0).2.2
   have haX:a∉X:=fun hx=>by have:=List.count_pos_iff.2 hx; have h0:=(i1.now0 a0).1; rw [List.count_append] at h0; omega
   have i3:=i2.put (n:=s.n.hi) ga
   have hsv3:(T2.put a s.n.hi).g s.at'=.nd s.n.lo:=by simp only [TS.put,if_neg hsne]; rw [g2]; simp [TS.put]
   have hcv:∀ x,s.n.vals.count x=s.n.lo.vals.count x+s.n.hi.vals.count x:=fun x=>by
    conv=>lhs; rw [← List.take_append_drop (EB s.n) s.n.vals]
    rw [List.count_append]; rfl
   have hns:T2.now[s.at']?=some 1:=by
    rw [(WO e2).1]
    simp only
    rw [List.getElem?_set_ne (Ne.symm hsne)]
    exact ho.me.1
   have i4:D0 N (T2.put a s.n.hi) (gset G s.at' (some s.n.lo)) (s.n.hi.vals++(a::(X++(((P0++[u]).map (·.at')++[s.at'])++(W'++(vs1++vs2)))))):=by
    refine D0.close (i3.perm fun x=>?_) ho.me.2.2.1 (by simp) hns hsv3 ⟨by omega,by omega⟩ ho.me.2.2.2 (QV hbA ho.lv.lo) (by simp [ho.z])
    simp only [List.count_append,List.count_cons,List.map_nil,List.count_nil,hcv x]; omega
   have hbB4:=FX (o:=some s.n.lo) ho.me.2.2.1 hbB
   have ga4:gset G s.at' (some s.n.lo) a=none:=by rw [BV (Ne.symm hsne)]; exact ga
   have a0':a≠0:=fun e=>by
    have:=i2.now1 a1 (by simp)
    have h0:=List.count_pos_iff.2 ho.z
    rw [e] at this
    simp only [List.count_cons,List.count_append] at this
    simp at this
    omega
   have i5:D0 N (T2.put a s.n.hi) (gset (gset G s.at' (some s.n.lo)) a (some s.n.hi)) (a::(X++(((P0++[u]).map (·.at')++[s.at'])++(W'++(vs1++vs2))))):=by
    exact D0.close i4 ga4 (by simp) a1 (by simp [TS.put]) ⟨by omega,by omega⟩ a0' (QV hbB4 (ho.lv.hi.set fun hv=>ho.nv (List.mem_of_mem_drop hv))) (by simp [ho.z])
   have hkA:G9 (gset (gset G s.at' (some s.n.lo)) a (some s.n.hi)) h s.at' A1:=⟨s.n.lo,by rw [BV hsne,D4],by omega,FX ga4 (FX ho.me.2.2.1 hbA)⟩
   have hkB:G9 (gset (gset G s.at' (some s.n.lo)) a (some s.n.hi)) h a B1:=⟨s.n.hi,D4,by omega,FX ga4 hbB4⟩
   have hkm:∀ v h l,G9 G h v l→G9 (gset (gset G s.at' (some s.n.lo)) a (some s.n.hi)) h v l:=fun v h l hk=>G9.set ga4 (G9.set ho.me.2.2.1 hk)
   obtain ⟨q0,hq0⟩:∃ q0,s.n.lo.keys[0]?=some q0:=⟨_,List.getElem?_eq_getElem (by omega)⟩
   obtain ⟨r0,hr0⟩:∃ r0,s.n.hi.keys[0]?=some r0:=⟨_,List.getElem?_eq_getElem (by omega)⟩
   have hdB:hd B1=r0:=by rw [← RD hbB]; show s.n.hi.keys.head?.getD 0=r0; rw [List.head?_eq_getElem?,hr0]; rfl
   have neA:A1≠[]:=(KZ hbA).2 fun e=>by have:s.n.lo.keys=[]:=e; rw [this] at kA; simp at kA
   have neB:B1≠[]:=(KZ hbB).2 fun e=>by have:s.n.hi.keys=[]:=e; rw [this] at kB; simp at kB
   rw [lO neA] at hhd
   rw [hq0,hr0]
   simp only
   rw [if_pos (by simp:0<(P0++[u]).length)]
   have hgu:(P0++[u]++({ s with n:=s.n.lo }:Wp)::Rs)[(P0++[u]).length - 1]?=some u:=by simp
   rw [hgu]
   simp only
   rw [if_pos (by rw [z2,huk]; simp; have:=z7; rw [huk] at this; simp at this; omega)]
   -- the node above
   have hin:u.n.insN (u.nx+1) r0 a=⟨false,ks1++kk::r0::ks2,vs1++s.at'::a::vs2⟩:=by
    unfold Nd.insN SA
    rw [huv,huk,hul,z2]
    have e1:(ks1++kk::ks2).take (ks1.length+1)=ks1++[kk]:=by rw [List.take_append,List.take_of_length_le (by omega)]; simp
    have e2:(ks1++kk::ks2).drop (ks1.length+1)=ks2:=by rw [List.drop_append]; simp
    have e3:(vs1++s.at'::vs2).take (ks1.length+1)=vs1++[s.at']:=by rw [← z3,List.take_append,List.take_of_length_le (by omega)]; simp
    have e4:(vs1++s.at'::vs2).drop (ks1.length+1)=vs2:=by rw [← z3,List.drop_append]; simp
    rw [e1,e2,e3,e4]; simp
   generalize hu':({ u with n:=u.n.insN (u.nx+1) r0 a }:Wp)=u'
   have hu'a:u'.at'=u.at':=by rw [← hu']
   have hu'n:u'.n=⟨false,ks1++kk::r0::ks2,vs1++s.at'::a::vs2⟩:=by rw [← hu',← hin]
   have hbu:KE (gset (gset G s.at' (some s.n.lo)) a (some s.n.hi)) (h+1) u'.n (ins key val (A++(Lf++B))):=by
    refine IR.2 ⟨by rw [hu'n],?_⟩
    rw [hinsL,hu'n,hAB,List.append_assoc]
    exact (z4.mono fun v _ l hk=>hkm v h l hk).append (.cons hkA neA hhd (.cons hkB neB hdB (z5.mono fun v _ l hk=>hkm v h l hk)))
   have hukl:u'.n.keys.length=u.n.keys.length+1:=by rw [hu'n,huk]; simp; omega
   have hgu':C4 (A++(ins key val Lf++B)):=by
    have e:(M1++A)++((A1++B1)++(B++M2))=M1++((A++(ins key val Lf++B))++M2):=by rw [hAB]; simp
    rw [e] at hgT
    exact hgT.right.left
   obtain ⟨T4,hT4,hg4,hT4n,hT4w,hT4p⟩:∃ T4,lS (T2.put a s.n.hi) u.at' (u.n.insN (u.nx+1) r0 a)=.ok () T4∧(u'.n.fits→T4.g u'.at'=.nd u'.n)∧T4.now=T2.now∧T4.was=T2.was∧(T4=T2.put a s.n.hi∨T4=(T2.put a s.n.hi).put u.at' u'.n):=by
    have e:u.n.insN (u.nx+1) r0 a=u'.n:=by rw [← hu']
    rw [e]
    by_cases gf:u'.n.keys.length≤8
    ·have hm:u'.n.May:=IJ i5 hbu (by rw [hinsL]; exact hgu') (by omega) gf
     exact ⟨_,SR hm (by rw [i5.n1]; exact huN),fun _=>by rw [hu'a]; simp [TS.put],rfl,rfl,.inr rfl⟩
    ·refine ⟨T2.put a s.n.hi,?_,fun hf=>absurd hf.2 gf,rfl,rfl,.inl rfl⟩
     unfold lS
     rw [if_neg fun hf=>gf hf.2]
   have hw3:D6 (P0++[u]++({ s with n:=s.n.lo }:Wp)::Rs) ((P0++[u]).length - 1) (u.n.insN (u.nx+1) r0 a) (T2.put a s.n.hi)=.ok (P0++u'::{ s with n:=s.n.lo }::Rs) T4:=by
    unfold D6
    rw [hgu]
    simp only
    rw [hT4]
    simp only [R.bind,hu']
    congr 1
    have e:(P0++[u]).length - 1=P0.length:=by simp
    rw [e,List.append_assoc]
    simp
   rw [hw3]
   simp only
   have gu5:gset (gset G s.at' (some s.n.lo)) a (some s.n.hi) u.at'=none:=by rw [BV hune,BV hus]; exact hu.2.2.2.2
   have hok1:HM (T.put s.at' s.n.lo) G P0:=hokP.put hsP
   obtain ⟨hok2,haP⟩:=hok1.alloc e2
   have hok3:HM (T2.put a s.n.hi) (gset (gset G s.at' (some s.n.lo)) a (some s.n.hi)) P0:=((hok2.put haP).gset hsP).gset haP
   have hok4:HM T4 (gset (gset G s.at' (some s.n.lo)) a (some s.n.hi)) P0:=by
    rcases hT4p with e | e
    ·rw [e]; exact hok3
    ·rw [e]; exact hok3.put huP
   have i6:D0 N T4 (gset (gset G s.at' (some s.n.lo)) a (some s.n.hi)) (a::(X++(((P0++[u]).map (·.at')++[s.at'])++(W'++(vs1++vs2))))):=by
    rcases hT4p with e | e
    ·rw [e]; exact i5
    ·rw [e]; exact i5.put gu5
   have hnow2:T2.now[u.at']?=some 1:=by
    rw [(WO e2).1]
    simp only
    rw [List.getElem?_set_ne (Ne.symm hune)]
    exact hu.2.2.1
   have hop:oA N T4 (gset (gset G s.at' (some s.n.lo)) a (some s.n.hi)) sp P0 (h+1) u' (A++(Lf++B)) M1 M2 W' X:=by
    refine ⟨i6.perm fun x=>?_,ho.z,by rw [hu'a]; exact z0.mono fun v _ h l hk=>hkm v h l hk,hok4,⟨by rw [hu'a,hT4n]; exact hnow2,by rw [hu'a,hT4w,w2]; exact hu.2.2.2.1,by rw [hu'a]; exact gu5,by rw [hu'a]; exact hu0⟩,.inner (by rw [hu'n])⟩
    rw [hu'n,hu'a]
    simp only [List.map_append,List.map_cons,List.map_nil,List.count_append,List.count_cons,List.count_nil]; omega
   have:=ih P0 ({ s with n:=s.n.lo }::Rs) (h+1) u' T4 _ _ M1 M2 W' hk0 hop hg4 hbu ⟨by omega,by omega⟩ (fun e=>by have:=z9 e; omega) (fun e _=>by have:=z8 e; omega) (by simp [hne]) (by rw [hLL]; exact hg) hl1' hl2'
   rw [hlenP]
   rcases this with h1 | ⟨p,Q,T',G',e,i,r,kp,w⟩
   ·exact .inl h1
   ·exact .inr ⟨p,Q,T',G',e,i,by rw [← hLL]; exact r,((E7.set ho.me.2.2.1 ho.nX).trans (E7.set ga4 haX)).trans kp,by rw [w,hT4w,w2]; simp [TS.put]⟩
end Go.Ax.C
