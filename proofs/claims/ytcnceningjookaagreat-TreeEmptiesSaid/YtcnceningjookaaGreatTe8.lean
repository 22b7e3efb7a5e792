/- Texts of one proof,joined. No statement of the seat is proved here. -/
import Derived.Test.YtcnceningjookaaGreatTe7
set_option linter.unusedVariables false
set_option linter.unusedSimpArgs false
set_option linter.unnecessarySimpa false
set_option linter.constructorNameAsVariable false
set_option maxRecDepth 100000
namespace Go.Ax.C
open Go.Proofs Go.RowKit
variable {l r r2 m:List AJ} {σ:AHeap} {Q:RK}
def oC (P:List Wp) (old:Nat) (T:TS):R (Nat×Nat×Bool) :=
 match P[0]? with
 | none=>.stuck
 | some s =>
   if s.n.keys.length=0 then (T.dec s.at').bind fun _ T=>.ok (0,old,true) T
   else if s.n.leaf=false∧s.n.keys.length=1 then match s.n.vals[0]? with
    | none=>.stuck
    | some v=>(T.dec s.at').bind fun _ T=>.ok (v,old,true) T
   else .ok (s.at',old,true) T
def cZ (T:TS) (root key:Nat):R (Nat×Nat×Bool) :=
 (CB key 12 root T).bind fun q T =>
  if q.2=false then .ok (root,0,false) T
  else (F1 false key 12 [] root T).bind fun P T=>match P[P.length - 1]? with
   | none=>.stuck
   | some s =>
     if A7 s.n.keys key<s.n.keys.length then (DD P (P.length - 1) (s.n.remN (A7 s.n.keys key)) T).bind fun P T=>(dJ Q9 P.length P T).bind fun P T=>oC P q.1 T
     else .stuck
theorem nW {b1 b3 b5 b7:Nat} {K:AHeap→Prop} (h:K σ):Dv P C0 [.pointer (some ⟨b1,0,none⟩),.pointer (some ⟨b3,0,none⟩),.pointer (some ⟨b5,0,none⟩),.pointer (some ⟨b7,0,none⟩)] none σ K:=by
 apply QV; unfold H9
 refine ABe ?_
 rw [A6]
 refine CY (fun g=>absurd rfl g) fun _=>?_
 exact h
theorem oY {b1 b3 b5 b7 e to old e0:Nat} {had:Bool} {K:AHeap→Prop} (h:H (OJ b1 b3 b5 b7 to old had e0 l) σ) (he:e≠0) (hK:∀ σ',H (OJ b1 b3 b5 b7 0 0 false e l) σ'→K σ'):Dv P C0 [.pointer (some ⟨b1,0,none⟩),.pointer (some ⟨b3,0,none⟩),.pointer (some ⟨b5,0,none⟩),.pointer (some ⟨b7,0,none⟩)] (some (flt e)) σ K:=by
 apply QV; unfold H9
 refine ABw h ?_
 intro σ1 h1
 rw [A6]
 refine CY (fun _=>?_) fun g=>absurd g (by omega)
 refine st h1 rfl ?_
 intro σ2 h2
 refine st h2 rfl ?_
 intro σ3 h3
 refine st h3 rfl ?_
 intro σ4 h4
 refine st h4 rfl ?_
 intro σ5 h5
 exact hK σ5 h5.re
set_option maxHeartbeats 4000000 in
theorem AAP {sb rb root key:Nat} {T:TS} {M:Nat} (h:H (A2 sb rb T M::l) σ) (hM:M≤70000000000) (hroot:root<18446744073709551616) (hkey:key<18446744073709551616) (hst:cZ T root key≠.stuck)
 (hno:∀ e T' σ',e≠0→cZ T root key=.err e T'→H (A2 sb rb T' (M+200)::l) σ'→Q (.ret (.tuple #[.int .u64 0,.int .u64 0,.bool false,.int .i64 e])) σ')
 (hyes:∀ to old had T' σ',cZ T root key=.ok (to,old,had) T'→H (A2 sb rb T' (M+200)::l) σ'→Q (.ret (.tuple #[.int .u64 to,.int .u64 old,.bool had,.int .i64 0])) σ') :
 E PO [.pointer (some ⟨sb,0,none⟩),.int .u64 root,.int .u64 key] σ Q:=by
 apply hS; unfold WJ
 refine nw h ?_
 intro b1 σ1 h1
 refine nw h1 ?_
 intro b3 σ2 h2
 refine nw h2 ?_
 intro b5 σ3 h3
 refine nw h3 ?_
 intro b7 σ4 h4
 have h4:H (A2 sb rb T M::OJ b1 b3 b5 b7 0 0 false 0 l) σ4:=h4.re
 unfold cZ at hst hno hyes
 refine kS h4 (by omega) hroot (fun e=>hst (by rw [e]; rfl)) ?_ ?_
 ·intro e T' τ1 he hlk g1
  rw [PW,AP,EL,AP]
  refine st g1 rfl ?_
  intro τ2 g2
  refine st g2 rfl ?_
  intro τ3 g3
  refine st g3 rfl ?_
  intro τ4 g4
  rw [LI g4]
  refine CY (fun _=>?_) fun g=>absurd g (by omega)
  rw [LI g4]
  refine st g4 rfl ?_
  intro τ5 g5
  rw [LI g5,CK]
  refine st g5 rfl ?_
  intro τ6 g6
  rw [LI g6,CK]
  refine st g6 rfl ?_
  intro τ7 g7
  rw [LI g7,CK]
  refine st g7 rfl ?_
  intro τ8 g8
  have g9:H (OJ b1 b3 b5 b7 0 0 false e (A2 sb rb T (M+12)::l)) τ8:=g8.re
  refine RW (e:=e) g9 fun g10=>?_
  have hT:T'=T:=by
   have key2:∀ (f a:Nat) (T T':TS) (e:Nat),CB key f a T=.err e T'→T'=T:=by
    intro f
    induction f with
    | zero =>
      intro a T T' e h
      unfold CB at h
      split at h
      ·cases h
      ·cases h; rfl
    | succ f ih =>
      intro a T T' e h
      unfold CB at h
      split at h
      ·cases h
      ·split at h
       ·cases h
       ·split at h
        ·split at h
         ·split at h<;>cases h
         ·cases h
        ·split at h
         ·exact ih _ _ _ _ h
         ·cases h
   exact key2 _ _ _ _ _ hlk
  subst hT
  exact hno e _ τ8 he (by rw [hlk]; rfl) (CV (by omega) g10)
 intro v0 had0 T' τ1 hlk g1
 have hT:=jU hlk
 subst hT
 rw [hlk] at hst hno hyes
 simp only [R.bind_ok] at hst hno hyes
 rw [PW,AP,EL,AP]
 refine st g1 rfl ?_
 intro τ2 g2
 refine st g2 rfl ?_
 intro τ3 g3
 refine st g3 rfl ?_
 intro τ4 g4
 rw [LI g4]
 refine CY (fun g=>absurd rfl g) fun _=>?_
 rw [LB g4]
 cases had0 with
 | false =>
   rw [if_pos rfl] at hyes
   refine IM rfl ?_
   refine st g4 rfl ?_
   intro τ5 g5
   refine st g5 rfl ?_
   intro τ6 g6
   refine st g6 rfl ?_
   intro τ7 g7
   refine st g7 rfl ?_
   intro τ8 g8
   have g9:H (OJ b1 b3 b5 b7 root 0 false 0 (A2 sb rb T' (M+12)::l)) τ8:=g8.re
   refine RW (e:=0) g9 fun g10=>?_
   exact hyes root 0 false T' τ8 rfl (CV (by omega) g10)
 | true =>
 rw [if_neg (by decide)] at hst hno hyes
 refine C8 rfl ?_
 have h4:H (A2 sb rb T' (M+12)::OJ b1 b3 b5 b7 0 v0 true 0 l) τ4:=g4.re
 -- errors end here
 have pan:∀ {e:Nat} {T':TS} {τ:AHeap} {to old:Nat} {had:Bool} {N:Nat} {A:List AJ},e≠0→N≤M+200→H (A2 sb rb T' N::OJ b1 b3 b5 b7 to old had 0 l) τ→(∀ σ',H (A2 sb rb T' (M+200)::l) σ'→Q (.ret (.tuple #[.int .u64 0,.int .u64 0,.bool false,.int .i64 e])) σ') →
  qd P C0 [(.pointer (some ⟨b1,0,none⟩)),(.pointer (some ⟨b3,0,none⟩)),(.pointer (some ⟨b5,0,none⟩)),(.pointer (some ⟨b7,0,none⟩))] (fun τ66 =>
   pu (AD false 1 (.pointer (some ⟨b1,0,none⟩)) τ66) fun v67 =>
   pu (AD false 1 (.pointer (some ⟨b3,0,none⟩)) τ66) fun v68 =>
   pu (AD false 1 (.pointer (some ⟨b5,0,none⟩)) τ66) fun v69 =>
   pu (AD false 1 (.pointer (some ⟨b7,0,none⟩)) τ66) fun v70 =>
   Q (.ret (.tuple #[v67,v68,v69,v70])) τ66) (.pan (flt e)) τ:=by
  intro e T' τ to old had N A he hN ht hq
  have g1:H (OJ b1 b3 b5 b7 to old had 0 (A2 sb rb T' N::l)) τ:=ht.re
  refine oY g1 he ?_
  intro τ1 g2
  refine RW (e:=e) g2 fun g3=>?_
  exact hq τ1 (CV hN g3)
 unfold QK
 refine ABb h4 (by omega) hroot hkey (fun e=>hst (by rw [e]; rfl)) ?_ ?_
 ·intro e T1 τ5 he hd g1
  rw [yM]
  refine pan (A:=[]) he (by omega) g1 ?_
  intro τ6 g2
  exact hno e T1 τ6 he (by rw [hd]; rfl) g2
 intro wb L T1 τ5 hd hL12 g1
 rw [hd] at hst hno hyes
 simp only [R.bind_ok] at hst hno hyes
 rw [B4]
 simp only [DX,AF,AM,Nat.zero_add]
 obtain ⟨wv,hok,g2⟩:=HS.1 g1
 rw [List.length_map,List.getElem?_map] at hst hno hyes
 cases hs:L[L.length - 1]? with
 | none=>rw [hs] at hst; exact absurd rfl hst
 | some s =>
 have hLl:=(List.getElem?_eq_some_iff.1 hs).1
 have hso:=hok s (List.mem_of_getElem? hs)
 have hwu:s.w=⟨s.at',s.n,s.nx⟩:=rfl
 rw [hs] at hst hno hyes
 simp only [Option.map_some,hwu] at hst hno hyes
 rw [AV g2,ZY g2,AH]
 refine GA ((L.length - 1:Nat):Int) (by omega) ?_
 obtain ⟨b',c',hwv',u1,u2,u3,u4,u5,u6⟩:=MI g2 hs
 rw [AV g2,u1,AF]
 simp only [AM,AF,Nat.add_assoc,Nat.reduceAdd,Nat.add_zero]
 rw [u3,BY,u4,AF,u5,AF]
 have g3:H (BU L::pt wb (.cells [.pointer (some ⟨sb,0,none⟩),wv] AZ false)::A5 AA 5 wv L.length (L.map IF).flatten::A2 sb rb T1 (M+12+60)::OJ b1 b3 b5 b7 0 v0 true 0 l) τ5:=g2.re
 have g4:=HL g3 (List.mem_of_getElem? hs)
 have hle:=hso.le
 have hfle:=fF s.n.keys key
 refine yH (lf:=s.n.leaf) g4 LX.two hso.eq.symm (by omega) ?_
 intro τ6 g5
 rw [BQ,AP,EL]
 have g6:H (dG wb sb wv L (AO s.kv s.n.keys::AO s.vv s.n.vals::A2 sb rb T1 (M+12+60)::OJ b1 b3 b5 b7 0 v0 true 0 l)) τ6:=g5.re
 obtain ⟨b2',c2',hwv2',w1,w2,w3,w4,w5,w6⟩:=MI g6 hs
 rw [AV g6,w1,AF]
 simp only [AM,AF,Nat.add_assoc,Nat.reduceAdd,Nat.add_zero]
 rw [w3,BY,w4,AF,w5,AF]
 by_cases hfk:A7 s.n.keys key<s.n.keys.length
 case neg=>rw [if_neg hfk] at hst; exact absurd rfl hst
 rw [if_pos hfk] at hst hno hyes
 refine s4 (lf:=s.n.leaf) (n:=s.n) g5 LX.two hso.eq.symm (by omega) hfk ?_
 intro kv' vv' τ7 g7
 rw [B4]
 have g7:H (AO kv' (s.n.remN (A7 s.n.keys key)).keys::AO vv' (s.n.remN (A7 s.n.keys key)).vals::AO s.kv s.n.keys::AO s.vv s.n.vals::BU L::pt wb (.cells [.pointer (some ⟨sb,0,none⟩),wv] AZ false)::A5 AA 5 wv L.length (L.map IF).flatten::A2 sb rb T1 (M+12+60)::OJ b1 b3 b5 b7 0 v0 true 0 l) τ7:=g7
 have g8:H (DK wb sb L::A2 sb rb T1 (M+12+60)::AO kv' (s.n.remN (A7 s.n.keys key)).keys::AO vv' (s.n.remN (A7 s.n.keys key)).vals::OJ b1 b3 b5 b7 0 v0 true 0 l) τ7:=HS.2 ⟨wv,hok,g7.re⟩
 have hrl:(s.n.remN (A7 s.n.keys key)).keys.length=s.n.keys.length - 1∧(s.n.remN (A7 s.n.keys key)).vals.length=s.n.keys.length - 1:=by have:=hso.eq; simp [Nd.remN,VY]; omega
 refine aA (n:=s.n.remN (A7 s.n.keys key)) g8 (by omega) (iX hso.sm) (by omega) (by omega) (fun e=>hst (by rw [e]; rfl)) ?_ ?_
 ·intro e T6 τ8 he hw g10
  rw [EE]
  refine pan (A:=[]) he (by omega) g10 ?_
  intro τ9 q2
  exact hno e T6 τ9 he (by rw [hw]; rfl) q2
 intro T5 L5 τ8 hl5 hw g9
 rw [hw] at hst hno hyes
 simp only [R.bind_ok] at hst hno hyes
 rw [List.length_map] at hst hno hyes
 rw [B5]
 refine wup (f:=Q9) (cost:=6) (fun L k T M τ Q' h1 h2 h3 h4 h5 h6=>?_) g9 (by omega) (by omega) (fun e=>hst (by rw [e]; rfl)) ?_ ?_
 ·exact ADe L k T M τ Q' h1 h2 h3 h4 h5 h6
 ·intro e T6 τ9 he hu q1
  rw [EE]
  refine pan (A:=[]) he (by omega) q1 ?_
  intro τ10 q2
  exact hno e T6 τ10 he (by rw [hu]; rfl) q2
 intro T6 L6 τ9 hl6 hu q1
 rw [hu] at hst hno hyes
 simp only [R.bind_ok] at hst hno hyes
 rw [B5]
 obtain ⟨wv6,hok6,q2⟩:=HS.1 q1
 unfold oC at hst hno hyes
 rw [List.getElem?_map] at hst hno hyes
 cases hs6:L6[0]? with
 | none=>rw [hs6] at hst; exact absurd rfl hst
 | some s6 =>
 have hw6:s6.w=⟨s6.at',s6.n,s6.nx⟩:=rfl
 rw [hs6] at hst hno hyes
 simp only [Option.map_some,hw6] at hst hno hyes
 have hso6:=hok6 s6 (List.mem_of_getElem? hs6)
 obtain ⟨b6,c6,hwv6,y1,y2,y3,y4,y5,y6⟩:=MI q2 hs6
 rw [AV q2,show (0:Int)=((0:Nat):Int) from rfl,y1,AF]
 simp only [AM,AF,Nat.add_zero,Nat.zero_mul,Nat.zero_add]
 simp only [Nat.zero_mul,Nat.zero_add] at y2
 simp only [Nat.zero_mul,Nat.zero_add] at y3
 simp only [Nat.zero_mul,Nat.zero_add] at y4
 simp only [Nat.zero_mul,Nat.zero_add] at y5
 simp only [Nat.zero_mul,Nat.zero_add] at y6
 rw [y2,AH,y3,BY,y4,AF,y5,AF,y6,AH]
 have q3:H (AO s6.kv s6.n.keys::AO s6.vv s6.n.vals::A2 sb rb T6 (M+12+60+1+6*L5.length)::OJ b1 b3 b5 b7 0 v0 true 0 l) τ9:=by
  have q:H (BU L6::A2 sb rb T6 (M+12+60+1+6*L5.length)::OJ b1 b3 b5 b7 0 v0 true 0 l) τ9:=q2.re
  exact (HL q (List.mem_of_getElem? hs6)).re
 refine nw q3 ?_
 intro bt τ10 q4
 refine J5 (vs:=HT s6.at' s6.n s6.kv s6.vv s6.nx) q4 rfl rfl (by simp only [List.all_cons,hso6.o1,hso6.o2,List.all_nil]; rfl) ?_
 intro τ11 q5
 have q5:H (OJ b1 b3 b5 b7 0 v0 true 0 (pt bt (.cells (HT s6.at' s6.n s6.kv s6.vv s6.nx) AA false)::AO s6.kv s6.n.keys::AO s6.vv s6.n.vals::A2 sb rb T6 (M+12+60+1+6*L5.length)::l)) τ11:=q5.re
 rw [LI q5]
 refine st q5 rfl ?_
 intro τ12 q6
 have hlk6:BJ s6.kv=some (.int .i64 s6.n.keys.length):=by obtain ⟨a,c,hv⟩:=AS (q6.fnd (AO s6.kv s6.n.keys)); rw [hv]; rfl
 rw [LV q6,hlk6,AH]
 -- the end
 have k20:∀ {τ:AHeap} {to:Nat} {T7:TS},(∀ σ',H (A2 sb rb T7 (M+200)::l) σ'→Q (.ret (.tuple #[.int .u64 to,.int .u64 v0,.bool true,.int .i64 0])) σ')→H (OJ b1 b3 b5 b7 to v0 true 0 (A2 sb rb T7 (M+12+60+1+6*L5.length)::l)) τ →
  HK E (qd P C0 [(.pointer (some ⟨b1,0,none⟩)),(.pointer (some ⟨b3,0,none⟩)),(.pointer (some ⟨b5,0,none⟩)),(.pointer (some ⟨b7,0,none⟩))] fun τ66 =>
   pu (AD false 1 (.pointer (some ⟨b1,0,none⟩)) τ66) fun v67 =>
   pu (AD false 1 (.pointer (some ⟨b3,0,none⟩)) τ66) fun v68 =>
   pu (AD false 1 (.pointer (some ⟨b5,0,none⟩)) τ66) fun v69 =>
   pu (AD false 1 (.pointer (some ⟨b7,0,none⟩)) τ66) fun v70 =>
   Q (.ret (.tuple #[v67,v68,v69,v70])) τ66) b1 b3 b5 b7 τ:=by
  intro τ to T7 hq ht
  unfold HK
  rw [LI ht,LI ht]
  refine st ht rfl ?_
  intro τ1 g1
  rw [LI g1,CK]
  refine st g1 rfl ?_
  intro τ2 g2
  refine st g2 rfl ?_
  intro τ3 g3
  refine st g3 rfl ?_
  intro τ4 g4
  have g5:H (OJ b1 b3 b5 b7 to v0 true 0 (A2 sb rb T7 (M+12+60+1+6*L5.length)::l)) τ4:=g4.re
  refine nW ?_
  refine RW g5 fun g6=>?_
  exact hq τ4 (CV (by omega) g6)
 -- the root goes
 have k18:∀ {τ:AHeap} {to:Nat},(T6.dec s6.at').bind (fun _ T=>R.ok (to,v0,true) T)≠.stuck→(∀ e T' σ',e≠0→(T6.dec s6.at').bind (fun _ T=>R.ok (to,v0,true) T)=.err e T'→H (A2 sb rb T' (M+200)::l) σ'→Q (.ret (.tuple #[.int .u64 0,.int .u64 0,.bool false,.int .i64 e])) σ') →
  (∀ to' old had T' σ',(T6.dec s6.at').bind (fun _ T=>R.ok (to,v0,true) T)=.ok (to',old,had) T'→H (A2 sb rb T' (M+200)::l) σ'→Q (.ret (.tuple #[.int .u64 to',.int .u64 old,.bool had,.int .i64 0])) σ') →
  H (OJ b1 b3 b5 b7 to v0 true 0 (pt bt (.cells (HT s6.at' s6.n s6.kv s6.vv s6.nx) AA false)::AO s6.kv s6.n.keys::AO s6.vv s6.n.vals::A2 sb rb T6 (M+12+60+1+6*L5.length)::l)) τ →
  HQ E (qd P C0 [(.pointer (some ⟨b1,0,none⟩)),(.pointer (some ⟨b3,0,none⟩)),(.pointer (some ⟨b5,0,none⟩)),(.pointer (some ⟨b7,0,none⟩))] fun τ66 =>
   pu (AD false 1 (.pointer (some ⟨b1,0,none⟩)) τ66) fun v67 =>
   pu (AD false 1 (.pointer (some ⟨b3,0,none⟩)) τ66) fun v68 =>
   pu (AD false 1 (.pointer (some ⟨b5,0,none⟩)) τ66) fun v69 =>
   pu (AD false 1 (.pointer (some ⟨b7,0,none⟩)) τ66) fun v70 =>
   Q (.ret (.tuple #[v67,v68,v69,v70])) τ66) sb bt b1 b3 b5 b7 τ:=by
  intro τ to hst hno hyes ht
  unfold HQ
  have g1:H (A2 sb rb T6 (M+12+60+1+6*L5.length)::OJ b1 b3 b5 b7 to v0 true 0 (pt bt (.cells (HT s6.at' s6.n s6.kv s6.vv s6.nx) AA false)::l)) τ:=ht.re
  rw [rW g1,AF,LI g1]
  have:=hso6.at8
  refine GA (s6.at':Int) (by omega) ?_
  refine oZ g1 rfl (fun e=>hst (by rw [e]; rfl)) ?_ ?_
  ·intro e τ1 he hdc g2
   rw [BQ,EL,AP]
   refine SS he ?_
   rw [EE]
   have g3:H (A2 sb rb T6 (M+12+60+1+6*L5.length)::OJ b1 b3 b5 b7 to v0 true 0 l) τ1:=g2.re
   refine pan (A:=[]) he (by omega) g3 ?_
   intro τ2 g4
   exact hno e T6 τ2 he (by rw [hdc]; rfl) g4
  ·intro bd T7 τ1 hdc g2
   rw [BQ,EL,AP]
   refine UE ?_
   rw [B5]
   refine k20 (T7:=T7) (fun σ' hh=>hyes to v0 true T7 σ' (by rw [hdc]; rfl) hh) ?_
   exact g2.re
 have q7:H (OJ b1 b3 b5 b7 s6.at' v0 true 0 (pt bt (.cells (HT s6.at' s6.n s6.kv s6.vv s6.nx) AA false)::AO s6.kv s6.n.keys::AO s6.vv s6.n.vals::A2 sb rb T6 (M+12+60+1+6*L5.length)::l)) τ12:=q6.re
 refine AT (fun g0=>?_) fun g0=>?_
 ·rw [if_pos (by omega)] at hst hno hyes
  refine ⟨by decide,?_⟩
  unfold DG
  refine IM rfl ?_
  refine st q7 rfl ?_
  intro τ13 q8
  rw [LV q8,hlk6,AH]
  refine AT (fun g=>absurd g (by omega)) fun _=>?_
  exact k18 (to:=0) hst hno hyes q8.re
 ·rw [if_neg (by omega)] at hst hno hyes
  rw [LB q7]
  have keep:(s6.n.leaf=true∨s6.n.keys.length≠1)→DG E (qd P C0 [(.pointer (some ⟨b1,0,none⟩)),(.pointer (some ⟨b3,0,none⟩)),(.pointer (some ⟨b5,0,none⟩)),(.pointer (some ⟨b7,0,none⟩))] fun τ66 =>
   pu (AD false 1 (.pointer (some ⟨b1,0,none⟩)) τ66) fun v67 =>
   pu (AD false 1 (.pointer (some ⟨b3,0,none⟩)) τ66) fun v68 =>
   pu (AD false 1 (.pointer (some ⟨b5,0,none⟩)) τ66) fun v69 =>
   pu (AD false 1 (.pointer (some ⟨b7,0,none⟩)) τ66) fun v70 =>
   Q (.ret (.tuple #[v67,v68,v69,v70])) τ66) false b1 bt sb b3 b5 b7 τ12:=by
   intro hor
   rw [if_neg (fun hh=>by rcases hor with h | h; rw [h] at hh; exact absurd hh.1 (by decide); exact h hh.2)] at hyes
   unfold DG
   refine C8 rfl ?_
   exact k20 (T7:=T6) (fun σ' hh=>hyes s6.at' v0 true T6 σ' rfl hh) q7.re
  refine iK (fun gl=>?_) fun gl=>?_
  ·have gl:s6.n.leaf=false:=by simpa using gl
   rw [LV q7,hlk6,AH]
   by_cases h1:s6.n.keys.length=1
   ·rw [if_pos ⟨gl,h1⟩] at hst hno hyes
    have:decide ((s6.n.keys.length:Int)=1)=true:=by simp; omega
    rw [this]
    unfold DG
    refine IM rfl ?_
    refine st q7 rfl ?_
    intro τ13 q8
    rw [LV q8,hlk6,AH]
    refine AT (fun _=>?_) fun g=>absurd (by omega) g
    cases hv0:s6.n.vals[0]? with
    | none=>rw [hv0] at hst; exact absurd rfl hst
    | some v =>
    rw [hv0] at hst hno hyes
    simp only at hst hno hyes
    obtain ⟨p,ia,la⟩:=FY (DF (q8.fnd (AO s6.vv s6.n.vals))) hv0
    rw [LV q8,show (0:Int)=((0:Nat):Int) from rfl,ia,AF,la,AH]
    refine st q8 rfl ?_
    intro τ14 q9
    exact k18 (to:=v) hst hno hyes q9.re
   ·have:decide ((s6.n.keys.length:Int)=1)=false:=by simp; omega
    rw [this]
    exact keep (.inr h1)
  ·exact keep (.inl (by simpa using gl))
end Go.Ax.C
set_option maxRecDepth 100000
namespace Go.Ax.C
open Go.Proofs Go.RowKit
open O (CacheA Disk It DPlain)
variable {l r r2 m:List AJ} {σ:AHeap} {Q:RK}
theorem vY {A:AJ} (h:H (A::l) σ):H [A,AW l] σ :=
 (BC.2 (h.perm (List.perm_append_comm (l₁:=[A]) (l₂:=l)))).perm (List.perm_append_comm (l₁:=[AW l]) (l₂:=[A]))
theorem AEl {n:Nat} (h:H l σ) (hn:1≤n∧n≤1024) (hQ:∀ v σ',H (Disk v (.new n)::l) σ'→Q (.ret (.tuple #[v,.int .i64 0])) σ'):E SD [.int .i64 (n:Nat)] σ Q:=by
 refine O.up (O.ABE h (by omega) ?_)
 intro v σ' h1
 exact hQ v σ' h1.unsnoc
theorem jC {n:Nat} (hn:1≤n∧n≤1024):DPlain (.new n) n:=by
 refine ⟨⟨hn.1,hn.2,?_,?_⟩,rfl,rfl⟩
 ·simp [DM.new]
 ·intro f hf; simp [DM.new] at hf
theorem AE2 {dv:Value} {D:DM} {n k:Nat} (h:H l σ) [k1:pH l dv (Disk dv D) r] (hD:D.Ok n) (hk:1≤k∧k≤1024) (hQ:∀ v σ',H (CacheA v dv 0 ⟨k,[]⟩::Disk dv D::r) σ'→Q (.ret (.tuple #[v,.int .i64 0])) σ'):E OY [dv,.int .i64 k] σ Q:=by
 have h1:H [Disk dv D,AW r] σ:=vY (h.atv dv)
 refine O.up (O.AAR h1 hD hk ?_)
 intro v σ' h2
 exact hQ v σ' (xT.2 h2)
theorem wK {n k:Nat} (hn:1≤n∧n≤1024) (hk:1≤k∧k≤1024):fE ⟨k,[]⟩ (.new n) n :=
 ⟨⟨hk.1,hk.2,by simp,by simp,by simp⟩,jC hn,by simp⟩
def PU (n:Nat):List Nat:=1::1::List.replicate (n - 2) 0
def dB:List UInt8:=List.replicate 256 0
def TS.new (n:Nat):TS:=⟨PU n,PU n,fun _=>.raw dB⟩
theorem wJ {n:Nat} (h:2≤n):(PU n).length=n:=by simp [PU]; omega
theorem uO {n a:Nat} (h:a<n):(DM.new n).block a=dB:=by
 unfold DM.block DM.new QM dB
 simp only [List.foldl_nil,List.drop_replicate,List.take_replicate]
 congr 1; omega
theorem ABm {n k:Nat} (h:H l σ) (hn:2≤n∧n≤1024) (hk:1≤k∧k≤1024) (hQ:∀ xb rb sb σ',H (pt xb (.cells [.pointer (some ⟨rb,0,none⟩),.pointer (some ⟨sb,0,none⟩)] BI false)::A2 sb rb (TS.new n) 0::l) σ'→Q (.ret (.pointer (some ⟨xb,0,none⟩))) σ') :
 E NE [.int .i64 n,.int .i64 k] σ Q:=by
 apply lY; unfold YB
 refine AEl h (by omega) ?_
 intro dv σ1 h1
 rw [BQ,AP]
 refine RR h1 (by omega) ?_
 intro b σ2 h2
 have h2:=h2.unsnoc
 have e0:reps ((n:Int).toNat) [.int .u8 0]=n8 (List.replicate n 0):=by rw [QO]; simp
 rw [e0] at h2
 have h3:H (A5 AI 1 (.slice (some ⟨b,0,none⟩) n n) n (n8 (List.replicate n 0))::Disk dv (.new n)::l) σ2:=h2.to_own (n:=n) (z:=1) 0 rfl (by simp) (by unfold AX; omega)
 have h3:H (A5 AI 1 (.slice (some ⟨b,0,none⟩) n n) (List.replicate n 0).length (n8 (List.replicate n 0))::Disk dv (.new n)::l) σ2:=by rw [List.length_replicate]; exact h3
 simp only [Int.toNat_natCast]
 rw [show (0:Int)=((0:Nat):Int) from rfl]
 refine gst (f:=fun n:Nat=>Value.int .u8 (n:Nat)) (y:=1) h3 rfl (by simp; omega) ?_
 intro σ3 h4
 rw [show (1:Int)=((1:Nat):Int) from rfl]
 refine gst (f:=fun n:Nat=>Value.int .u8 (n:Nat)) (y:=1) h4 rfl (by simp; omega) ?_
 intro σ4 h5
 have e1:((List.replicate n 0).set 0 1).set 1 1=PU n:=by
  obtain ⟨j,rfl⟩:∃ j,n=j+2:=⟨n - 2,by omega⟩
  simp [List.replicate_succ,PU]
 rw [e1] at h5
 have hlen:=wJ hn.1
 have h8:∀ x∈PU n,x<256:=by
  intro x hx
  simp [PU,List.mem_replicate] at hx
  omega
 refine AEn h5 (by omega) (by omega) h8 ?_
 intro rb σ5 h6
 rw [BQ,AP]
 refine C8 (by simp) ?_
 unfold MZ
 refine C8 (by simp) ?_
 have h7:H (Disk dv (.new n)::WE rb (PU n) (PU n)::l) σ5:=h6.re
 refine AE2 h7 (jC (by omega)).ok hk ?_
 intro cv σ6 h8
 rw [BQ,AP]
 obtain ⟨cb,mb,now,rowv,R,M,hcv,_⟩:=O.K5 (vY h8)
 subst hcv
 apply qL; unfold f8
 refine C8 rfl ?_
 refine nw h8 ?_
 intro sb σ7 h9
 rw [B4]
 refine CY (fun g=>absurd rfl g) fun _=>?_
 rw [TM,BY]
 unfold KK
 refine C8 rfl (FA rfl (FA rfl ?_))
 refine nw h9 ?_
 intro xb σ8 h10
 refine hQ xb rb sb σ8 ?_
 have h11:H (StL sb rb cb dv 0 ⟨k,[]⟩ (.new n) (TS.new n) (pt xb (.cells [.pointer (some ⟨rb,0,none⟩),.pointer (some ⟨sb,0,none⟩)] BI false)::l)) σ8:=by
  have q:H (pt sb (.cells [.pointer (some ⟨rb,0,none⟩),.pointer (some ⟨cb,0,none⟩)] DW false)::WE rb (PU n) (PU n)::CacheA (.pointer (some ⟨cb,0,none⟩)) dv 0 ⟨k,[]⟩::Disk dv (.new n)::pt xb (.cells [.pointer (some ⟨rb,0,none⟩),.pointer (some ⟨sb,0,none⟩)] BI false)::l) σ8:=h10.re
  exact q
 have h12:H (A2 sb rb (TS.new n) 0::pt xb (.cells [.pointer (some ⟨rb,0,none⟩),.pointer (some ⟨sb,0,none⟩)] BI false)::l) σ8:=by
  refine OF.2 ⟨cb,dv,0,⟨k,[]⟩,.new n,⟨?_,by simp [DM.new],by omega,fun a ha=>?_⟩,h11⟩
  ·show fE _ _ (PU n).length
   rw [hlen]; exact wK (by omega) hk
  ·have:a<n:=by
    have ha:a<(PU n).length:=ha
    omega
   show mN a (.raw dB) _
   rw [CN (by simp),uO this]
   rfl
 exact h12.perm (.swap _ _ _)
end Go.Ax.C
set_option maxRecDepth 100000
namespace Go.Ax.C
open Go.Proofs Go.RowKit
abbrev Gh:=Nat→Option Nd
def vc (o:Option Nd) (x:Nat):Nat :=
 match o with
 | none=>0
 | some n=>n.vals.count x
def rf (G:Gh) (x:Nat):Nat→Nat
 | 0=>0
 | N+1=>rf G x N+vc (G N) x
def gset (G:Gh) (b:Nat) (o:Option Nd):Gh:=fun x=>if x=b then o else G x
theorem DL {G:Gh} {b:Nat} {o:Option Nd}:gset G b o b=o:=by simp [gset]
theorem BO {G:Gh} {b x:Nat} {o:Option Nd} (h:x≠b):gset G b o x=G x:=by simp [gset,h]
theorem zK {G:Gh} {b x:Nat} {o:Option Nd}:∀ {N:Nat},N≤b→rf (gset G b o) x N=rf G x N
 | 0,_=>rfl
 | N+1,h=>by simp only [rf]; rw [zK (N:=N) (by omega),BO (by omega)]
theorem Z7 {G:Gh} {b x:Nat} {o:Option Nd}:∀ {N:Nat},b<N→rf (gset G b o) x N+vc (G b) x=rf G x N+vc o x
 | 0,h=>by omega
 | N+1,h=>by
   simp only [rf]
   by_cases g:b=N
   ·subst g; rw [zK (by omega),DL]; omega
   ·have:=Z7 (G:=G) (o:=o) (x:=x) (N:=N) (b:=b) (by omega)
    rw [BO (by omega)]; omega
theorem ABk {G:Gh} {b x:Nat}:∀ {N:Nat},b<N→vc (G b) x≤rf G x N
 | 0,h=>by omega
 | N+1,h=>by
   simp only [rf]
   by_cases g:b=N
   ·subst g; omega
   ·have:=ABk (G:=G) (x:=x) (N:=N) (b:=b) (by omega); omega
theorem PT {G:Gh} {b x N:Nat} {n:Nd} (hb:b<N) (hG:G b=some n) (hx:x∈n.vals):0<rf G x N:=by
 have:=ABk (G:=G) (x:=x) hb
 rw [hG] at this
 have h2:=List.count_pos_iff.2 hx
 simp only [vc] at this; omega
theorem mE {G:Gh} {x:Nat}:∀ {N:Nat},0<rf G x N→∃ b n,b<N∧G b=some n∧x∈n.vals
 | 0,h=>by simp [rf] at h
 | N+1,h=>by
   simp only [rf] at h
   by_cases g:0<rf G x N
   ·obtain ⟨b,n,h1,h2,h3⟩:=mE g
    exact ⟨b,n,by omega,h2,h3⟩
   ·cases hN:G N with
    | none=>rw [hN] at h; simp only [vc] at h; omega
    | some n =>
      rw [hN] at h; simp only [vc] at h
      exact ⟨N,n,by omega,hN,List.count_pos_iff.1 (by omega)⟩
structure ES (N:Nat) (T:TS) (G:Gh) (K:List Nat):Prop where
 n1:T.now.length=N
 n2:T.was.length=N
 cnt:∀ x,x<N→T.now[x]?=some (K.count x+rf G x N)
 tok:∀ x∈K,x<N
 z:0∈K
 dom:∀ b n,G b=some n→b<N∧b≠0∧0<K.count b+rf G b N∧T.g b=.nd n∧n.fits
 vin:∀ b n,G b=some n→∀ v∈n.vals,v<N
 clo:∀ b n,G b=some n→n.leaf=false→∀ v∈n.vals,∃ m,G v=some m
 hgt:∃ ht:Nat→Nat,∀ b n,G b=some n→n.leaf=false→∀ v∈n.vals,ht v<ht b
 lfv:∀ b n,G b=some n→n.leaf=true→∀ v∈n.vals,G v=none
variable {N:Nat} {T T':TS} {G:Gh} {K K':List Nat}
theorem ES.perm (h:ES N T G K) (hc:∀ x,K'.count x=K.count x):ES N T G K':=by
 have hm:∀ x,x∈K'↔x∈K:=fun x=>by rw [← List.count_pos_iff,← List.count_pos_iff,hc]
 exact ⟨h.n1,h.n2,fun x hx=>by rw [hc]; exact h.cnt x hx,fun x hx=>h.tok x ((hm x).1 hx),(hm 0).2 h.z,fun b n hb=>by rw [hc]; exact h.dom b n hb,h.vin,h.clo,h.hgt,h.lfv⟩
theorem ES.now0 (h:ES N T G K) {x:Nat} (hx:T.now[x]?=some 0):K.count x=0∧rf G x N=0∧G x=none:=by
 have hl:x<N:=h.n1▸(List.getElem?_eq_some_iff.1 hx).1
 have:=h.cnt x hl
 rw [hx] at this
 simp only [Option.some.injEq] at this
 refine ⟨by omega,by omega,?_⟩
 cases hG:G x with
 | none=>rfl
 | some n=>have:=(h.dom x n hG).2.2.1; omega
theorem ES.now1 (h:ES N T G K) {x:Nat} (hx:T.now[x]?=some 1) (hk:x∈K):K.count x=1∧rf G x N=0:=by
 have hl:x<N:=h.n1▸(List.getElem?_eq_some_iff.1 hx).1
 have:=h.cnt x hl
 rw [hx] at this
 simp only [Option.some.injEq] at this
 have:=List.count_pos_iff.2 hk
 omega
theorem ES.open' (h:ES N T G K) {b:Nat} {n:Nd} (hb:G b=some n) (h0:rf G b N=0):ES N T (gset G b none) (n.vals++K):=by
 have hl:=(h.dom b n hb).1
 have hr:∀ x,rf (gset G b none) x N+n.vals.count x=rf G x N:=fun x=>by
  have:=Z7 (G:=G) (o:=none) (x:=x) hl
  rw [hb] at this; simpa [vc] using this
 have hG:∀ x m,gset G b none x=some m→G x=some m∧x≠b:=fun x m hx=>by
  by_cases g:x=b
  ·subst g; rw [DL] at hx; cases hx
  ·rw [BO g] at hx; exact ⟨hx,g⟩
 refine ⟨h.n1,h.n2,fun x hx=>?_,fun x hx=>?_,by simp [h.z],fun x m hx=>?_,fun x m hx=>h.vin x m (hG x m hx).1,fun x m hx hf v hv=>?_,?_,fun x m hx hf v hv=>by
  by_cases g:v=b
  ·subst g; exact DL
  ·rw [BO g]; exact h.lfv x m (hG x m hx).1 hf v hv⟩
 ·rw [h.cnt x hx,List.count_append,← hr x]; congr 1; omega
 ·rcases List.mem_append.1 hx with hx | hx
  ·exact h.vin b n hb x hx
  ·exact h.tok x hx
 ·have:=h.dom x m (hG x m hx).1
  have h2:=hr x
  rw [List.count_append]
  exact ⟨this.1,this.2.1,by omega,this.2.2.2⟩
 ·obtain ⟨hx1,hx2⟩:=hG x m hx
  obtain ⟨m',hm'⟩:=h.clo x m hx1 hf v hv
  refine ⟨m',?_⟩
  rw [BO]
  ·exact hm'
  ·intro e; subst e
   have:=PT (h.dom x m hx1).1 hx1 hv
   omega
 ·obtain ⟨ht,hh⟩:=h.hgt
  exact ⟨ht,fun x m hx=>hh x m (hG x m hx).1⟩
theorem qJ (ht:Nat→Nat):∀ (l:List Nat),∃ M,∀ v∈l,ht v<M
 | []=>⟨0,by simp⟩
 | a::l=>by
   obtain ⟨M,hM⟩:=qJ ht l
   refine ⟨max M (ht a+1),fun v hv=>?_⟩
   rcases List.mem_cons.1 hv with rfl | hv
   ·omega
   ·have:=hM v hv; omega
def Kd (G:Gh) (n:Nd):Prop:=(n.leaf=false→∀ v∈n.vals,∃ m,G v=some m)∧(n.leaf=true→∀ v∈n.vals,G v=none)
theorem ES.close {b:Nat} {n:Nd} (h:ES N T G (n.vals++K)) (hb:G b=none) (hk:b∈K) (hb1:T.now[b]?=some 1) (hg:T.g b=.nd n) (hfi:n.fits) (hb0:b≠0) (hcd:Kd G n) (hz:0∈K):ES N T (gset G b (some n)) K:=by
 obtain ⟨hc,hlv⟩:=hcd
 have hc1:=h.now1 hb1 (by simp [hk])
 have h0:=hc1.2
 have hbv:b∉n.vals:=fun hv=>by
  have h1:=List.count_pos_iff.2 hv
  have h2:=List.count_pos_iff.2 hk
  rw [List.count_append] at hc1
  omega
 have hl:=h.tok b (by simp [hk])
 have hr:∀ x,rf (gset G b (some n)) x N=rf G x N+n.vals.count x:=fun x=>by
  have:=Z7 (G:=G) (o:=some n) (x:=x) hl
  rw [hb] at this; simpa [vc] using this
 have hnb:∀ x m,G x=some m→x≠b:=fun x m hx e=>by subst e; rw [hb] at hx; cases hx
 have V0:∀ v,(∃ m,G v=some m)→∃ m,gset G b (some n) v=some m:=fun v ⟨m,hm⟩=>⟨m,by rw [BO (hnb v m hm)]; exact hm⟩
 have hG:∀ x m,gset G b (some n) x=some m→(x=b∧m=n)∨(x≠b∧G x=some m):=fun x m hx=>by
  by_cases g:x=b
  ·subst g; rw [DL] at hx; cases hx; exact .inl ⟨rfl,rfl⟩
  ·rw [BO g] at hx; exact .inr ⟨g,hx⟩
 refine ⟨h.n1,h.n2,fun x hx=>?_,fun x hx=>h.tok x (by simp [hx]),hz,fun x m hx=>?_,fun x m hx v hv=>?_,fun x m hx hf v hv=>?_,?_,fun x m hx hf v hv=>by
  rcases hG x m hx with ⟨e1,e2⟩ | ⟨g,hx'⟩
  ·rw [e2] at hf hv
   rw [BO (fun e=>hbv (by rw [← e]; exact hv))]; exact hlv hf v hv
  ·rw [BO (fun e=>by rw [e] at hv; have:=PT (h.dom x m hx').1 hx' hv; omega)]; exact h.lfv x m hx' hf v hv⟩
 ·rw [h.cnt x hx,List.count_append,hr x]; congr 1; omega
 ·rw [hr x]
  rcases hG x m hx with ⟨rfl,rfl⟩ | ⟨g,hx⟩
  ·have:=List.count_pos_iff.2 hk
   exact ⟨hl,hb0,by omega,hg,hfi⟩
  ·have:=h.dom x m hx
   rw [List.count_append] at this
   exact ⟨this.1,this.2.1,by omega,this.2.2.2⟩
 ·rcases hG x m hx with ⟨rfl,rfl⟩ | ⟨g,hx⟩
  ·exact h.tok v (by simp [hv])
  ·exact h.vin x m hx v hv
 ·apply V0
  rcases hG x m hx with ⟨rfl,rfl⟩ | ⟨g,hx⟩
  ·exact hc hf v hv
  ·exact h.clo x m hx hf v hv
 ·obtain ⟨ht,hh⟩:=h.hgt
  obtain ⟨M,hM⟩:=qJ ht n.vals
  refine ⟨fun x=>if x=b then M else ht x,fun x m hx hf v hv=>?_⟩
  have hvb:v≠b:=by
   rcases hG x m hx with ⟨rfl,rfl⟩ | ⟨g,hx⟩
   ·obtain ⟨m',hm'⟩:=hc hf v hv; exact hnb v m' hm'
   ·obtain ⟨m',hm'⟩:=h.clo x m hx hf v hv; exact hnb v m' hm'
  simp only [if_neg hvb]
  rcases hG x m hx with ⟨rfl,rfl⟩ | ⟨g,hx⟩
  ·rw [if_pos rfl]; exact hM v hv
  ·rw [if_neg g]; exact hh x m hx hf v hv
theorem ES.put (h:ES N T G K) {b:Nat} {n:Nd} (hb:G b=none):ES N (T.put b n) G K:=by
 refine ⟨h.n1,h.n2,h.cnt,h.tok,h.z,fun x m hx=>?_,h.vin,h.clo,h.hgt,h.lfv⟩
 have:=h.dom x m hx
 refine ⟨this.1,this.2.1,this.2.2.1,?_,this.2.2.2.2⟩
 have hne:x≠b:=fun e=>by subst e; rw [hb] at hx; cases hx
 simp only [TS.put,if_neg hne]; exact this.2.2.2.1
theorem ES.now' (h:ES N T G K) {x c:Nat} (hT:T'={ T with now:=T.now.set x c }) (hx:x<N) (hc:c=K'.count x+rf G x N) (ho:∀ y,y≠x→K'.count y=K.count y) (hd:G x=none∨0<c) (hz:0∈K'):ES N T' G K':=by
 subst hT
 have h1:=h.n1
 refine ⟨by simp [h1],h.n2,fun y hy=>?_,fun y hy=>?_,hz,fun b n hb=>?_,h.vin,h.clo,h.hgt,h.lfv⟩
 ·by_cases g:y=x
  ·subst g; rw [List.getElem?_set_self (by omega),hc]
  ·rw [List.getElem?_set_ne (by omega),h.cnt y hy,ho y g]
 ·by_cases g:y=x
  ·omega
  ·have:=List.count_pos_iff.2 hy
   rw [ho y g] at this
   exact h.tok y (List.count_pos_iff.1 this)
 ·have:=h.dom b n hb
  refine ⟨this.1,this.2.1,?_,this.2.2.2⟩
  by_cases g:b=x
  ·subst g
   rcases hd with hd | hd
   ·rw [hd] at hb; cases hb
   ·omega
  ·rw [ho b g]; exact this.2.2.1
theorem XG {now was:List Nat} {a:Nat} (h:SM now was=some a):now[a]?=some 0∧was[a]?=some 0:=by
 unfold SM at h
 rw [List.findIdx?_eq_some_iff_getElem] at h
 obtain ⟨hl,he,_⟩:=h
 have:(O4 now was)[a]?=some true:=by rw [List.getElem?_eq_getElem hl]; simpa using he
 unfold O4 at this
 rw [List.getElem?_zipWith] at this
 cases h1:now[a]? with
 | none=>rw [h1] at this; simp at this
 | some x =>
   cases h2:was[a]? with
   | none=>rw [h1,h2] at this; simp at this
   | some y =>
     rw [h1,h2] at this
     simp at this
     exact ⟨by rw [this.1],by rw [this.2]⟩
theorem ES.alloc (h:ES N T G K):T.alloc=.err 8 T∨∃ a T',T.alloc=.ok a T'∧ES N T' G (a::K)∧T.now[a]?=some 0∧T'.now[a]?=some 1∧T'.was[a]?=some 0∧T'.was=T.was∧T'.g=T.g:=by
 unfold TS.alloc
 cases hl:SM T.now T.was with
 | none=>exact .inl rfl
 | some a =>
   right
   obtain ⟨h0,hw⟩:=XG hl
   have ha:a<N:=h.n1▸(List.getElem?_eq_some_iff.1 h0).1
   obtain ⟨k0,r0,g0⟩:=h.now0 h0
   refine ⟨a,_,rfl,h.now' rfl ha (by simp [k0,r0]) (fun y hy=>by rw [List.count_cons_of_ne (Ne.symm hy)]) (.inl g0) (by simp [h.z]),h0,?_,hw,rfl,rfl⟩
   have h1:=h.n1
   simp only
   rw [List.getElem?_set_self (by omega)]
theorem ES.inc (h:ES N T G K) {v:Nat} (hv:v<N) (hl:0<K.count v+rf G v N):T.inc v=.err 8 T∨∃ T',T.inc v=.ok () T'∧ES N T' G (v::K)∧T'.was=T.was∧T'.g=T.g:=by
 unfold TS.inc
 rw [h.cnt v hv]
 simp only
 rw [if_neg (by omega)]
 split
 ·exact .inl rfl
 ·right
  refine ⟨_,rfl,h.now' rfl hv (by simp; omega) (fun y hy=>by rw [List.count_cons_of_ne (Ne.symm hy)]) (.inr (by omega)) (by simp [h.z]),rfl,rfl⟩
theorem ES.incs:∀ {vs:List Nat} {T:TS} {K:List Nat},ES N T G K→(∀ v∈vs,v<N∧0<rf G v N)→(∃ T',incs vs T=.err 8 T')∨∃ T',incs vs T=.ok () T'∧ES N T' G (vs++K)∧T'.was=T.was∧T'.g=T.g
 | [],T,K,h,_=>.inr ⟨T,rfl,h,rfl,rfl⟩
 | v::vs,T,K,h,hv=>by
   simp only [Go.Ax.C.incs]
   have h0:=hv v (by simp)
   rcases h.inc h0.1 (by omega) with he | ⟨T1,he,h1,w1,g1⟩
   ·rw [he]; exact .inl ⟨T,rfl⟩
   ·rw [he]
    simp only [R.bind]
    rcases ES.incs (vs:=vs) h1 (fun x hx=>hv x (by simp [hx])) with ⟨T2,h2⟩ | ⟨T2,e2,h2,w2,g2⟩
    ·exact .inl ⟨T2,h2⟩
    ·exact .inr ⟨T2,e2,h2.perm fun x=>by simp [List.count_append,List.count_cons]; omega,by rw [w2,w1],by rw [g2,g1]⟩
theorem ES.dec {a:Nat} (h:ES N T G (a::K)) (hz:0∈K) (hd:G a=none∨0<K.count a+rf G a N):∃ T',T.dec a=.ok (decide (K.count a+rf G a N=0)) T'∧ES N T' G K∧T'.was=T.was∧T'.g=T.g:=by
 have ha:=h.tok a (by simp)
 unfold TS.dec
 rw [h.cnt a ha]
 simp only [List.count_cons_self]
 rw [if_neg (by omega)]
 refine ⟨_,?_,h.now' (K':=K) rfl ha (c:=K.count a+1+rf G a N - 1) (by omega) (fun y hy=>by rw [List.count_cons_of_ne (Ne.symm hy)]) ?_ hz,rfl,rfl⟩
 ·congr 1
  exact decide_eq_decide.2 (by omega)
 ·rcases hd with hd | hd
  ·exact .inl hd
  ·exact .inr (by omega)
end Go.Ax.C
set_option maxRecDepth 100000
namespace Go.Ax.C
open Go.Proofs Go.RowKit
variable {N:Nat} {T T':TS} {G:Gh} {K K':List Nat}
theorem WW {T:TS} {b:Nat} {n:Nd} (hg:T.g b=.nd n) (hf:n.fits):T.node b=some n:=by
 unfold TS.node; rw [hg]; simp only; rw [if_pos hf]
theorem ES.shadow {a:Nat} {n:Nd} (h:ES N T G (a::K)) (hz:0∈K) (hG:G a=some n) :
 (∃ T',T.shadow a=.err 8 T')∨∃ B0 T' G',T.shadow a=.ok (B0,n) T'∧ES N T' G' (B0::(n.vals++K))∧T'.now[B0]?=some 1∧T'.was[B0]?=some 0∧T'.was=T.was∧T'.g B0=.nd n∧G' B0=none∧(G'=G∨(G'=gset G a none∧K.count a=0∧rf G a N=0))∧(∀ x,x≠B0→T'.g x=T.g x)∧(B0=a∨T.now[B0]?=some 0):=by
 obtain ⟨haN,ha0,hal,hag,haf⟩:=h.dom a n hG
 have hna:=h.cnt a haN
 have hwa:∃ y,T.was[a]?=some y:=⟨_,List.getElem?_eq_getElem (by rw [h.n2]; exact haN)⟩
 obtain ⟨y,hy⟩:=hwa
 unfold TS.shadow
 rw [WW hag haf,hna,hy]
 simp only
 by_cases g1:List.count a (a::K)+rf G a N=1∧y=0
 ·rw [if_pos g1]
  right
  have hc:K.count a=0∧rf G a N=0:=by have:=g1.1; rw [List.count_cons_self] at this; omega
  refine ⟨a,T,gset G a none,rfl,(h.open' hG hc.2).perm fun x=>?_,?_,?_,rfl,hag,DL,.inr ⟨rfl,hc⟩,fun _ _=>rfl,.inl rfl⟩
  ·simp [List.count_append,List.count_cons]; omega
  ·rw [hna,g1.1]
  ·rw [hy,g1.2]
 rw [if_neg g1,if_neg (by rw [List.count_cons_self]; omega)]
 rcases h.alloc with he | ⟨B0,T1,he,h1,hz1,ho1,hw1,w1,e1⟩
 ·rw [he]; exact .inl ⟨T,rfl⟩
 rw [he]
 simp only [R.bind]
 obtain ⟨ko,ro,go⟩:=h.now0 hz1
 have hoa:B0≠a:=fun e=>by subst e; rw [hG] at go; cases go
 have hov:B0∉n.vals:=fun hv=>by have:=PT haN hG hv; omega
 have hko:K.count B0=0:=by rw [List.count_cons_of_ne (Ne.symm hoa)] at ko; exact ko
 have hcv:n.vals.count B0=0:=List.count_eq_zero.2 hov
 have hoN:B0<N:=h1.tok B0 (by simp)
 by_cases g2:1<List.count a (a::K)+rf G a N
 ·rw [if_pos g2]
  rcases ES.incs (vs:=n.vals) h1 (fun v hv=>⟨h.vin a n hG v hv,PT haN hG hv⟩) with ⟨T2,e2⟩ | ⟨T2,e2,h2,w2,f2⟩
  ·rw [e2]; exact .inl ⟨T2,rfl⟩
  rw [e2]
  simp only
  have h3:ES N T2 G (a::(B0::(n.vals++K))):=h2.perm fun x=>by simp [List.count_append,List.count_cons]; omega
  rw [List.count_cons_self] at g2
  obtain ⟨T3,e3,h4,w3,f3⟩:=h3.dec (by simp [hz]) (.inr (by simp [List.count_append,List.count_cons]; omega))
  rw [e3]
  right
  refine ⟨B0,_,G,rfl,h4.put go,?_,?_,?_,?_,go,.inl rfl,fun x hx=>?_,.inr hz1⟩
  ·have:=h4.cnt B0 hoN
   simp only [TS.put]
   rw [this]
   simp [List.count_append,List.count_cons,hcv,hko,ro]
  ·simp only [TS.put]; rw [w3,w2]; exact hw1
  ·simp only [TS.put]; rw [w3,w2,w1]
  ·simp [TS.put]
  ·simp only [TS.put,if_neg hx]; rw [f3,f2,e1]
 ·rw [if_neg g2]
  simp only
  rw [List.count_cons_self] at g2
  have hc:K.count a=0∧rf G a N=0:=by omega
  have h2:ES N T1 (gset G a none) (a::(B0::(n.vals++K))):=(h1.open' hG hc.2).perm fun x=>by simp [List.count_append,List.count_cons]; omega
  obtain ⟨T3,e3,h4,w3,f3⟩:=h2.dec (by simp [hz]) (.inl DL)
  rw [e3]
  right
  have go':gset G a none B0=none:=by rw [BO hoa]; exact go
  have hr':rf (gset G a none) B0 N=0:=by
   have:=Z7 (G:=G) (o:=none) (x:=B0) haN
   rw [hG] at this; simp only [vc] at this; omega
  refine ⟨B0,_,gset G a none,rfl,h4.put go',?_,?_,?_,?_,go',.inr ⟨rfl,hc⟩,fun x hx=>?_,.inr hz1⟩
  ·have:=h4.cnt B0 hoN
   simp only [TS.put]
   rw [this]
   simp [List.count_append,List.count_cons,hcv,hko,hr']
  ·simp only [TS.put]; rw [w3]; exact hw1
  ·simp only [TS.put]; rw [w3,w1]
  ·simp [TS.put]
  ·simp only [TS.put,if_neg hx]; rw [f3,e1]
abbrev KV:=Nat×Nat
def hd (L:List KV):Nat :=
 match L with
 | []=>0
 | p::_=>p.1
inductive DQ (t:Nat→List KV→Prop):List Nat→List Nat→List KV→Prop
 | nil:DQ t [] [] []
 | cons {k v:Nat} {ks vs:List Nat} {l L:List KV}:t v l→l≠[]→hd l=k→DQ t ks vs L→DQ t (k::ks) (v::vs) (l++L)
def MQ (G:Gh):Nat→Nd→List KV→Prop
 | 0,n,L=>n.leaf=true∧n.vals.length=n.keys.length∧L=n.keys.zip n.vals
 | h+1,n,L=>n.leaf=false∧DQ (fun v l=>∃ m,G v=some m∧4≤m.keys.length∧MQ G h m l) n.keys n.vals L
def JA (G:Gh) (h:Nat) (v:Nat) (l:List KV):Prop:=∃ m,G v=some m∧4≤m.keys.length∧MQ G h m l
theorem QE {h:Nat} {n:Nd} {L:List KV}:MQ G (h+1) n L↔n.leaf=false∧DQ (JA G h) n.keys n.vals L:=Iff.rfl
variable {t t':Nat→List KV→Prop} {ks vs ks2 vs2:List Nat} {L L2:List KV}
theorem DQ.len (h:DQ t ks vs L):vs.length=ks.length:=by
 induction h with
 | nil=>rfl
 | cons _ _ _ _ ih=>simp [ih]
theorem DQ.mono (h:DQ t ks vs L) (hm:∀ v∈vs,∀ l,t v l→t' v l):DQ t' ks vs L:=by
 induction h with
 | nil=>exact .nil
 | cons h1 h2 h3 _ ih=>exact .cons (hm _ (by simp) _ h1) h2 h3 (ih fun v hv=>hm v (by simp [hv]))
theorem DQ.append (h:DQ t ks vs L) (h2:DQ t ks2 vs2 L2):DQ t (ks++ks2) (vs++vs2) (L++L2):=by
 induction h with
 | nil=>exact h2
 | cons a b c _ ih=>rw [List.append_assoc]; exact .cons a b c ih
theorem DQ.take_drop:∀ {ks vs:List Nat} {L:List KV} (i:Nat),DQ t ks vs L→∃ A B,L=A++B∧DQ t (ks.take i) (vs.take i) A∧DQ t (ks.drop i) (vs.drop i) B
 | _,_,_,0,h=>⟨[],_,rfl,.nil,h⟩
 | _,_,_,_+1,.nil=>⟨[],[],rfl,.nil,.nil⟩
 | _,_,_,i+1,.cons h1 h2 h3 h4=>by
   obtain ⟨A,B,rfl,ha,hb⟩:=h4.take_drop i
   exact ⟨_,B,by rw [← List.append_assoc],.cons h1 h2 h3 ha,hb⟩
theorem DQ.at' {i v:Nat} (h:DQ t ks vs L) (hv:vs[i]?=some v):∃ k A l B,L=A++(l++B)∧ks[i]?=some k∧hd l=k∧l≠[]∧t v l∧DQ t (ks.take i) (vs.take i) A∧DQ t (ks.drop (i+1)) (vs.drop (i+1)) B:=by
 obtain ⟨A,B,rfl,ha,hb⟩:=h.take_drop i
 obtain ⟨hi,hv⟩:=List.getElem?_eq_some_iff.1 hv
 rw [List.drop_eq_getElem_cons hi,hv,List.drop_eq_getElem_cons (by rw [← h.len]; exact hi)] at hb
 cases hb with
 | cons h1 h2 h3 h4=>exact ⟨_,A,_,_,rfl,List.getElem?_eq_getElem (by rw [← h.len]; exact hi),h3,h2,h1,ha,h4⟩
theorem DQ.ne (h:DQ t ks vs L):L≠[]↔ks≠[]:=by
 cases h with
 | nil=>simp
 | cons h1 h2=>simp [h2]
theorem i7 {A B:List KV} (h:A≠[]):hd (A++B)=hd A:=by
 cases A with
 | nil=>exact absurd rfl h
 | cons=>rfl
theorem DQ.hd (h:DQ t ks vs L):ks.head?.getD 0=hd L:=by
 cases h with
 | nil=>rfl
 | cons h1 h2 h3=>rw [i7 h2]; exact h3.symm
theorem ZL {h:Nat} {n:Nd} {L:List KV} (hb:MQ G h n L):n.vals.length=n.keys.length:=by
 cases h with
 | zero=>exact hb.2.1
 | succ h=>exact hb.2.len
theorem TZ {h:Nat} {n:Nd} {L:List KV} (hb:MQ G h n L):n.keys.head?.getD 0=hd L:=by
 cases h with
 | zero =>
   obtain ⟨_,h2,rfl⟩:=hb
   cases hk:n.keys with
   | nil=>rfl
   | cons k ks =>
     cases hv:n.vals with
     | nil=>rw [hk,hv] at h2; simp at h2
     | cons v vs=>rfl
 | succ h=>exact hb.2.hd
theorem M7 {h:Nat} {n:Nd} {L:List KV} (hb:MQ G h n L):L≠[]↔n.keys≠[]:=by
 cases h with
 | zero =>
   obtain ⟨_,h2,rfl⟩:=hb
   cases hk:n.keys with
   | nil=>simp
   | cons k ks =>
     cases hv:n.vals with
     | nil=>rw [hk,hv] at h2; simp at h2
     | cons v vs=>simp
 | succ h=>exact hb.2.ne
theorem JA.del (hI:ES N T G K) {a:Nat} (h0:rf G a N=0):∀ {h v:Nat} {l:List KV},v≠a→JA G h v l→JA (gset G a none) h v l
 | h,v,l,hv,⟨m,hm,h4,hb⟩=>by
   refine ⟨m,by rw [BO hv]; exact hm,h4,?_⟩
   cases h with
   | zero=>exact hb
   | succ h=>exact ⟨hb.1,hb.2.mono fun w hw l' hl=>JA.del hI h0 (fun e=>by subst e; have:=PT (hI.dom v m hm).1 hm hw; omega) hl⟩
theorem JA.set {b:Nat} {o:Option Nd} (h0:G b=none):∀ {h v:Nat} {l:List KV},JA G h v l→JA (gset G b o) h v l
 | h,v,l,⟨m,hm,h4,hb⟩=>by
   refine ⟨m,by rw [BO (fun e=>by subst e; rw [h0] at hm; cases hm)]; exact hm,h4,?_⟩
   cases h with
   | zero=>exact hb
   | succ h=>exact ⟨hb.1,hb.2.mono fun w hw l' hl=>JA.set h0 hl⟩
end Go.Ax.C
set_option maxRecDepth 100000
namespace Go.Ax.C
open Go.Proofs Go.RowKit
variable {N:Nat} {T T':TS} {G:Gh} {K K':List Nat}
def ET (L:List KV):Prop:=(L.map (·.1)).Pairwise (·<·)∧∀ p∈L,p.2≠0
theorem ET.left {A B:List KV} (h:ET (A++B)):ET A:=by
 obtain ⟨h1,h2⟩:=h
 rw [List.map_append,List.pairwise_append] at h1
 exact ⟨h1.1,fun p hp=>h2 p (by simp [hp])⟩
theorem ET.right {A B:List KV} (h:ET (A++B)):ET B:=by
 obtain ⟨h1,h2⟩:=h
 rw [List.map_append,List.pairwise_append] at h1
 exact ⟨h1.2.1,fun p hp=>h2 p (by simp [hp])⟩
theorem ET.lt {A B:List KV} (h:ET (A++B)) {p q:KV} (hp:p∈A) (hq:q∈B):p.1<q.1:=by
 have h1:=h.1
 rw [List.map_append,List.pairwise_append] at h1
 exact h1.2.2 _ (List.mem_map_of_mem hp) _ (List.mem_map_of_mem hq)
theorem W0 {L:List KV} (h:L≠[]):∃ p∈L,p.1=hd L:=by
 cases L with
 | nil=>exact absurd rfl h
 | cons p L=>exact ⟨p,by simp,rfl⟩
theorem ET.hd_le {L:List KV} (h:ET L) {p:KV} (hp:p∈L):hd L≤p.1:=by
 cases L with
 | nil=>simp at hp
 | cons q L =>
   rcases List.mem_cons.1 hp with rfl | hp
   ·exact Nat.le_refl _
   ·exact Nat.le_of_lt (h.lt (A:=[q]) (B:=L) (by simp) hp)
theorem DQ.keys {t:Nat→List KV→Prop} {ks vs:List Nat} {L:List KV} (h:DQ t ks vs L):∀ k∈ks,∃ p∈L,p.1=k:=by
 induction h with
 | nil=>simp
 | cons h1 h2 h3 _ ih =>
   intro k hk
   rcases List.mem_cons.1 hk with rfl | hk
   ·obtain ⟨p,hp,e⟩:=W0 h2
    exact ⟨p,by simp [hp],by rw [e,h3]⟩
   ·obtain ⟨p,hp,e⟩:=ih k hk
    exact ⟨p,by simp [hp],e⟩
theorem DQ.sorted {t:Nat→List KV→Prop} {ks vs:List Nat} {L:List KV} (h:DQ t ks vs L) (hg:ET L):ks.Pairwise (·<·):=by
 induction h with
 | nil=>exact .nil
 | cons h1 h2 h3 h4 ih =>
   refine List.Pairwise.cons (fun k hk=>?_) (ih hg.right)
   obtain ⟨p,hp,e⟩:=W0 h2
   obtain ⟨q,hq,f⟩:=h4.keys k hk
   have:=hg.lt hp hq
   omega
theorem X7:∀ {ks vs:List Nat},vs.length=ks.length→(ks.zip vs).map (·.1)=ks
 | [],[],_=>rfl
 | [],_::_,h=>by simp at h
 | _::_,[],h=>by simp at h
 | k::ks,v::vs,h=>by simp [X7 (ks:=ks) (vs:=vs) (by simpa using h)]
theorem l7:∀ {ks vs:List Nat} {v:Nat},vs.length=ks.length→v∈vs→∃ k,(k,v)∈ks.zip vs
 | [],[],_,_,h=>by simp at h
 | [],_::_,_,h,_=>by simp at h
 | _::_,[],_,h,_=>by simp at h
 | k::ks,w::vs,v,h,hv=>by
   rcases List.mem_cons.1 hv with rfl | hv
   ·exact ⟨k,by simp⟩
   ·obtain ⟨k',hk⟩:=l7 (ks:=ks) (vs:=vs) (by simpa using h) hv
    exact ⟨k',by simp [hk]⟩
theorem DQ.kid {t:Nat→List KV→Prop} {ks vs:List Nat} {L:List KV} (h:DQ t ks vs L):∀ v∈vs,∃ l,t v l:=by
 induction h with
 | nil=>simp
 | cons h1 _ _ _ ih =>
   intro v hv
   rcases List.mem_cons.1 hv with rfl | hv
   ·exact ⟨_,h1⟩
   ·exact ih v hv
theorem HG (hI:ES N T G K) {h:Nat} {n:Nd} {L:List KV} (hb:MQ G h n L) (hg:ET L) (h1:1≤n.keys.length) (h8:n.keys.length≤8):n.May:=by
 refine ⟨⟨h1,h8,ZL hb⟩,?_,?_⟩
 ·cases h with
  | zero =>
    obtain ⟨_,h2,rfl⟩:=hb
    have:=hg.1
    rw [X7 h2] at this
    exact this
  | succ h=>exact hb.2.sorted hg
 ·intro v hv
  cases h with
  | zero =>
    obtain ⟨_,h2,rfl⟩:=hb
    obtain ⟨k,hk⟩:=l7 h2 hv
    exact hg.2 _ hk
  | succ h =>
    obtain ⟨l,m,hm,_⟩:=hb.2.kid v hv
    exact (hI.dom v m hm).2.1
inductive hJ (G:Gh) (sp:List KV→Nat):List Wp→Nat→Nat→List KV→List KV→List KV→List Nat→Prop
 | top (h b:Nat) (Lf:List KV):hJ G sp [] h b Lf [] [] []
 | down {P:List Wp} {s:Wp} {h:Nat} {Lf L1 L2 A B:List KV} {W ks1 ks2 vs1 vs2:List Nat} {k v:Nat}:hJ G sp P (h+1) s.at' (A++(Lf++B)) L1 L2 W →
  s.n=⟨false,ks1++k::ks2,vs1++v::vs2⟩→s.nx=ks1.length→vs1.length=ks1.length →
  DQ (JA G h) ks1 vs1 A→DQ (JA G h) ks2 vs2 B→k=sp Lf→s.n.keys.length≤8→(P=[]→2≤s.n.keys.length)→(P≠[]→4≤s.n.keys.length) →
  hJ G sp (P++[s]) h v Lf (L1++A) (B++L2) (W++(vs1++vs2))
variable {sp:List KV→Nat} {P:List Wp} {h b:Nat} {Lf L1 L2:List KV} {W:List Nat}
theorem hJ.mono {G':Gh} (hz:hJ G sp P h b Lf L1 L2 W) (hm:∀ v∈W,∀ h l,JA G h v l→JA G' h v l):hJ G' sp P h b Lf L1 L2 W:=by
 induction hz with
 | top=>exact .top _ _ _
 | down h0 h1 h2 h3 h4 h5 h6 h7 h8 h9 ih =>
   exact .down (ih fun v hv=>hm v (by simp [hv])) h1 h2 h3 (h4.mono fun v hv l=>hm v (by simp [hv]) _ l) (h5.mono fun v hv l=>hm v (by simp [hv]) _ l) h6 h7 h8 h9
def GR (T:TS) (G:Gh) (P:List Wp):Prop:=∀ s∈P,s.n.May∧T.g s.at'=.nd s.n∧T.now[s.at']?=some 1∧T.was[s.at']?=some 0∧G s.at'=none
def EU (G G':Gh) (X:List Nat):Prop:=∀ r∈X,(G r=none→G' r=none)∧∀ n,G r=some n→G' r=some n∧∀ h l,MQ G h n l→MQ G' h n l
theorem EU.refl {X:List Nat}:EU G G X:=fun _ _=>⟨id,fun _ h=>⟨h,fun _ _ h=>h⟩⟩
theorem EU.trans {G1 G2 G3:Gh} {X:List Nat} (h1:EU G1 G2 X) (h2:EU G2 G3 X):EU G1 G3 X:=fun r hr =>
 ⟨fun h=>(h2 r hr).1 ((h1 r hr).1 h),fun n hn =>
 have a:=(h1 r hr).2 n hn
 have c:=(h2 r hr).2 n a.1
 ⟨c.1,fun h l hb=>c.2 h l (a.2 h l hb)⟩⟩
theorem EU.set {X:List Nat} {b:Nat} {o:Option Nd} (h0:G b=none) (hX:b∉X):EU G (gset G b o) X:=fun r hr=>by
 have hne:r≠b:=fun e=>hX (e▸hr)
 refine ⟨fun h=>by rw [BO hne]; exact h,fun n hn=>⟨by rw [BO hne]; exact hn,fun h l hb=>?_⟩⟩
 cases h with
 | zero=>exact hb
 | succ h=>exact ⟨hb.1,hb.2.mono fun w hw l' hl=>JA.set h0 hl⟩
theorem EU.del {X:List Nat} (hI:ES N T G K) {a:Nat} (h0:rf G a N=0) (ha:X.count a=0):EU G (gset G a none) X:=fun r hr=>by
 have hne:r≠a:=fun e=>by subst e; have:=List.count_pos_iff.2 hr; omega
 refine ⟨fun h=>by rw [BO hne]; exact h,fun n hn=>⟨by rw [BO hne]; exact hn,fun h l hb=>?_⟩⟩
 cases h with
 | zero=>exact hb
 | succ h=>exact ⟨hb.1,hb.2.mono fun w hw l' hl=>JA.del hI h0 (fun e=>by subst e; have:=PT (hI.dom r n hn).1 hn hw; omega) hl⟩
theorem R4 {T:TS} {a:Nat} {n:Nd} (hm:n.May) (ha:a<T.now.length):gP T a n=.ok () (T.put a n):=by
 unfold gP
 rw [if_pos (show n.fits from ⟨hm.1.1,hm.1.2.1⟩),if_pos hm,if_pos ha]
theorem aP {T:TS} {P:List Wp} {s:Wp} {i key val:Nat} (hi:i<s.n.keys.length) (hm:(s.n.setN i key val).May) (ha:s.at'<T.now.length) :
 ND (P++[s]) ((P++[s]).length - 1) i key val T=.ok (P++[{ s with n:=s.n.setN i key val }]) (T.put s.at' (s.n.setN i key val)):=by
 unfold ND
 have e:(P++[s]).length - 1=P.length:=by simp
 rw [e,List.getElem?_append_right (Nat.le_refl _)]
 simp only [Nat.sub_self,List.getElem?_cons_zero]
 rw [if_pos hi,R4 hm ha]
 simp [R.bind,List.set_append]
theorem aT:∀ {xs:List Nat} {key:Nat},xs.Pairwise (·<·)→xs≠[]→CC xs key<xs.length∧(∀ i x,xs[i]?=some x→CC xs key<i→key<x)∧(∀ x,xs[CC xs key]?=some x→x≤key∨CC xs key=0):=by
 intro xs key hp hne
 have hl:(xs.takeWhile fun x=>decide (x≤key)).length≤xs.length:=(List.takeWhile_prefix _).length_le
 have h0:0<xs.length:=List.length_pos_iff.2 hne
 refine ⟨by unfold CC; omega,fun i x hx hi=>?_,fun x hx=>?_⟩
 ·unfold CC at hi
  have hil:i<xs.length:=(List.getElem?_eq_some_iff.1 hx).1
  by_cases g:key<x
  ·exact g
  exfalso
  have hall:∀ j,j≤i→∀ y,xs[j]?=some y→y≤key:=fun j hj y hy=>by
   rcases Nat.lt_or_eq_of_le hj with hj | rfl
   ·obtain ⟨h1,h2⟩:=List.getElem?_eq_some_iff.1 hy
    obtain ⟨h3,h4⟩:=List.getElem?_eq_some_iff.1 hx
    have:=List.pairwise_iff_getElem.1 hp j i h1 h3 hj
    omega
   ·rw [hx] at hy; cases hy; omega
  have ht:(xs.take (i+1)).all (fun x=>decide (x≤key))=true:=by
   rw [List.all_eq_true]
   intro y hy
   obtain ⟨j,hj,rfl⟩:=List.getElem_of_mem hy
   rw [List.length_take] at hj
   simpa using hall j (by omega) _ (by rw [List.getElem?_eq_getElem (show j<xs.length by omega)])
  have e:xs.takeWhile (fun x=>decide (x≤key))=xs.take (i+1)++(xs.drop (i+1)).takeWhile (fun x=>decide (x≤key)):=by
   conv=>lhs; rw [← List.take_append_drop (i+1) xs]
   rw [List.takeWhile_append_of_pos]
   intro y hy
   exact List.all_eq_true.1 ht y hy
  rw [e,List.length_append,List.length_take] at hi
  omega
 ·by_cases g:CC xs key=0
  ·exact .inr g
  left
  unfold CC at hx g
  have hlt:(xs.takeWhile fun x=>decide (x≤key)).length - 1<(xs.takeWhile fun x=>decide (x≤key)).length:=by omega
  have:=List.all_eq_true.1 (List.all_takeWhile (l:=xs) (p:=fun x=>decide (x≤key))) _ (List.getElem_mem hlt)
  have e:=List.IsPrefix.getElem (List.takeWhile_prefix (p:=fun x=>decide (x≤key)) (l:=xs)) hlt
  obtain ⟨h1,h2⟩:=List.getElem?_eq_some_iff.1 hx
  rw [e,h2] at this
  simpa using this
end Go.Ax.C
set_option maxRecDepth 100000
namespace Go.Ax.C
open Go.Proofs Go.RowKit
variable {N:Nat} {T T':TS} {G:Gh} {sp:List KV→Nat} {P:List Wp} {h b:Nat} {Lf L1 L2:List KV} {W X:List Nat}
def ABZ (P:List Wp) (n:Nd):Prop:=1≤n.keys.length∧n.keys.length≤8∧(P≠[]→4≤n.keys.length)∧(P=[]→n.leaf=false→2≤n.keys.length)
structure Way (N:Nat) (T:TS) (G:Gh) (sp:List KV→Nat) (P:List Wp) (h b:Nat) (n:Nd) (Lf L1 L2:List KV) (W X:List Nat):Prop where
 inv:ES N T G (b::(X++(P.map (·.at')++W)))
 z:0∈X
 zip:hJ G sp P h b Lf L1 L2 W
 ok:GR T G P
 gb:G b=some n
 bod:MQ G h n Lf
 sz:ABZ P n
def cF (G:Gh) (n:Nd):Prop:=n.leaf=true→∀ v∈n.vals,G v=none
theorem cF.set {n:Nd} {o:Option Nd} (h:cF G n) (hb:b∉n.vals):cF (gset G b o) n:=fun hl v hv=>by
 rw [BO (show v≠b from fun e=>hb (e▸hv))]; exact h hl v hv
structure lZ (N:Nat) (T:TS) (G:Gh) (sp:List KV→Nat) (P:List Wp) (h:Nat) (s:Wp) (Lf L1 L2:List KV) (W X:List Nat):Prop where
 inv:ES N T G (X++((P.map (·.at')++[s.at'])++(W++s.n.vals)))
 z:0∈X
 zip:hJ G sp P h s.at' Lf L1 L2 W
 ok:GR T G P
 me:T.now[s.at']?=some 1∧T.was[s.at']?=some 0∧G s.at'=none∧s.at'≠0
 lv:cF G s.n
theorem wM {α:Type} {A B:List α} {a b:α} (h:A++[a]=B++[b]):A=B∧a=b:=by
 obtain ⟨h1,h2⟩:=List.append_inj' h rfl
 exact ⟨h1,by simpa using h2⟩
theorem hJ.last {s:Wp} (hz:hJ G sp (P++[s]) h b Lf L1 L2 W):∃ L1' L2' A B W' ks1 k ks2 vs1 vs2,hJ G sp P (h+1) s.at' (A++(Lf++B)) L1' L2' W'∧s.n=⟨false,ks1++k::ks2,vs1++b::vs2⟩∧s.nx=ks1.length∧vs1.length=ks1.length∧DQ (JA G h) ks1 vs1 A∧DQ (JA G h) ks2 vs2 B∧k=sp Lf∧s.n.keys.length≤8∧(P=[]→2≤s.n.keys.length)∧(P≠[]→4≤s.n.keys.length)∧L1=L1'++A∧L2=B++L2'∧W=W'++(vs1++vs2):=by
 generalize hP:P++[s]=P' at hz
 cases hz with
 | top=>simp at hP
 | down h0 h1 h2 h3 h4 h5 h6 h7 h8 h9 =>
   obtain ⟨rfl,rfl⟩:=wM hP
   exact ⟨_,_,_,_,_,_,_,_,_,_,h0,h1,h2,h3,h4,h5,h6,h7,h8,h9,rfl,rfl,rfl⟩
theorem hJ.relink {s:Wp} (hz:hJ G sp (P++[s]) h b Lf L1 L2 W) (B0:Nat):∃ ks1 k ks2 vs1 vs2,s.n=⟨false,ks1++k::ks2,vs1++b::vs2⟩∧s.nx=ks1.length∧vs1.length=ks1.length∧hJ G sp (P++[{ s with n:=⟨false,ks1++k::ks2,vs1++B0::vs2⟩ }]) h B0 Lf L1 L2 W:=by
 obtain ⟨_,_,_,_,_,ks1,k,ks2,vs1,vs2,h0,h1,h2,h3,h4,h5,h6,h7,h8,h9,rfl,rfl,rfl⟩:=hz.last
 rw [h1] at h7 h8 h9
 exact ⟨ks1,k,ks2,vs1,vs2,h1,h2,h3,.down h0 rfl h2 h3 h4 h5 h6 h7 h8 h9⟩
theorem hJ.reroot {B0:Nat} (hz:hJ G sp [] h b Lf L1 L2 W):hJ G sp [] h B0 Lf L1 L2 W:=by
 generalize hP:([]:List Wp)=P' at hz
 cases hz with
 | top=>exact .top _ _ _
 | down=>simp at hP
theorem dD {α:Type} {A B:List α} {a b:α} {i:Nat} (h:i=A.length):(A++a::B).set i b=A++b::B:=by
 subst h; simp
theorem cA {n:Nd} (hw:Way N T G sp P h b n Lf L1 L2 W X) :
 (∃ T',T.shadow b=.err 8 T')∨∃ B0 T1 P1 T2 G',T.shadow b=.ok (B0,n) T1∧fD P b B0 T1=.ok P1 T2∧lZ N T2 G' sp P1 h ⟨B0,n,0⟩ Lf L1 L2 W X∧T2.g B0=.nd n∧MQ G' h n Lf∧EU G G' X∧(P1=[]↔P=[])∧P1.map (·.at')=P.map (·.at')∧T2.was=T.was:=by
 obtain ⟨hI,hz,hzip,hok,hgb,hbod,hsz⟩:=hw
 rcases hI.shadow (by simp [hz]) hgb with h1 | ⟨B0,T1,G',e1,hI1,ho1,hw1,hw,hg1,hGo,hG',hgf,hown⟩
 ·exact .inl h1
 right
 have hbN:=(hI.dom b n hgb).1
 have hoN:B0<N:=hI1.tok B0 (by simp)
 have hoc:=hI1.now1 ho1 (by simp)
 rw [List.count_cons_self] at hoc
 have ho0:B0≠0:=fun e=>by
  have:=List.count_pos_iff.2 hz
  subst e
  simp only [List.count_append] at hoc; omega
 -- what was subtree stays
 have hbW:G'=gset G b none→b∉W:=fun e hbw=>by
  rcases hG' with rfl | ⟨_,hc,_⟩
  ·have:=congrFun e b
   rw [DL,hgb] at this; cases this
  ·have:=List.count_pos_iff.2 hbw
   simp only [List.count_append] at hc; omega
 have hkeep:EU G G' X:=by
  rcases hG' with rfl | ⟨rfl,hc,hr⟩
  ·exact .refl
  ·exact .del hI hr (by simp only [List.count_append] at hc; omega)
 have hkid:∀ v,v≠b∨G'=G→∀ h l,JA G h v l→JA G' h v l:=fun v hv h l hk=>by
  rcases hG' with rfl | ⟨rfl,hc,hr⟩
  ·exact hk
  ·rcases hv with hv | hv
   ·exact hk.del hI hr hv
   ·rw [hv]; exact hk
 have hzip1:hJ G' sp P h b Lf L1 L2 W:=by
  refine hzip.mono fun v hv=>hkid v ?_
  rcases hG' with rfl | ⟨rfl,hc,hr⟩
  ·exact .inr rfl
  ·exact .inl fun e=>by subst e; exact hbW rfl hv
 have hbod1:MQ G' h n Lf:=by
  cases h with
  | zero=>exact hbod
  | succ h =>
    refine ⟨hbod.1,hbod.2.mono fun v hv=>hkid v ?_ h⟩
    rcases hG' with rfl | ⟨rfl,hc,hr⟩
    ·exact .inr rfl
    ·exact .inl fun e=>by subst e; have:=PT hbN hgb hv; omega
 have hGn:∀ x,G x=none→G' x=none:=fun x hx=>by
  rcases hG' with rfl | ⟨rfl,_,_⟩
  ·exact hx
  ·by_cases g:x=b
   ·subst g; rw [DL]
   ·rw [BO g]; exact hx
 have hrl:∀ x,rf G x N=0→rf G' x N=0:=fun x hx=>by
  rcases hG' with rfl | ⟨rfl,_,_⟩
  ·exact hx
  ·have:=Z7 (G:=G) (o:=none) (x:=x) hbN
   rw [hgb] at this; simp only [vc] at this; omega
 have hok1:GR T1 G' P:=fun s hs=>by
  obtain ⟨a1,a2,a3,a4,a5⟩:=hok s hs
  have hsm:s.at'∈X++(P.map (·.at')++W):=by simp; exact .inr (.inl ⟨s,hs,rfl⟩)
  have hso:s.at'≠B0:=fun e=>by
   rw [e] at hsm
   rcases hown with hown | hown
   ·subst hown
    rw [e] at a5; rw [hgb] at a5; cases a5
   ·rw [e,hown] at a3; cases a3
  have hc:=hI.now1 a3 (by simp only [List.mem_cons]; exact .inr hsm)
  have hsn:s.at'∉n.vals:=fun hv=>by have:=PT hbN hgb hv; omega
  have hsN:s.at'<N:=hI.tok _ (by simp only [List.mem_cons]; exact .inr hsm)
  refine ⟨a1,by rw [hgf _ hso]; exact a2,?_,by rw [hw]; exact a4,hGn _ a5⟩
  rw [hI1.cnt _ hsN,hrl _ hc.2,List.count_cons_of_ne (Ne.symm hso),List.count_append,List.count_eq_zero.2 hsn]
  have hsb:s.at'≠b:=fun e=>by rw [e,hgb] at a5; cases a5
  rw [List.count_cons_of_ne (Ne.symm hsb)] at hc
  rw [hc.1]
 have hlv:cF G' n:=fun hl v hv=>hGn v (hI.lfv b n hgb hl v hv)
 -- the node above
 rcases List.eq_nil_or_concat P with rfl | ⟨P0,s,rfl⟩
 ·refine ⟨B0,T1,[],T1,G',e1,rfl,⟨hI1.perm fun x=>?_,hz,hzip1.reroot,hok1,⟨ho1,hw1,hGo,ho0⟩,hlv⟩,hg1,hbod1,hkeep,by simp,rfl,hw⟩
  simp [List.count_append,List.count_cons]; omega
 ·rw [List.concat_eq_append] at *
  obtain ⟨ks1,k,ks2,vs1,vs2,h1,h2,h3,hz2⟩:=hzip1.relink B0
  by_cases ge:B0=b
  ·subst ge
   have hs:({ s with n:=⟨false,ks1++k::ks2,vs1++B0::vs2⟩ }:Wp)=s:=by cases s; simp_all
   refine ⟨B0,T1,P0++[s],T1,G',e1,?_,⟨hI1.perm fun x=>?_,hz,hzip1,hok1,⟨ho1,hw1,hGo,ho0⟩,hlv⟩,hg1,hbod1,hkeep,by simp,rfl,hw⟩
   ·unfold fD
    simp
   ·simp [List.count_append,List.count_cons]; omega
  ·have hsok:=hok1 s (by simp)
   have hset:s.n.setN s.nx k B0=⟨false,ks1++k::ks2,vs1++B0::vs2⟩:=by
    unfold Nd.setN setF
    rw [h1]
    simp only [if_true,Bool.false_eq_true,if_false]
    rw [dD h2,dD (h2.trans h3.symm)]
   have hmay:(s.n.setN s.nx k B0).May:=by
    rw [hset]
    have:=hsok.1
    rw [h1] at this
    refine ⟨by simpa using this.1,this.2.1,fun v hv=>?_⟩
    simp only [List.mem_append,List.mem_cons] at hv
    rcases hv with hv | rfl | hv
    ·exact this.2.2 v (by simp [hv])
    ·exact ho0
    ·exact this.2.2 v (by simp [hv])
   have hsN:s.at'<T1.now.length:=by rw [hI1.n1]; exact hI1.tok _ (by simp)
   have hln:fD (P0++[s]) b B0 T1=.ok (P0++[{ s with n:=⟨false,ks1++k::ks2,vs1++B0::vs2⟩ }]) (T1.put s.at' ⟨false,ks1++k::ks2,vs1++B0::vs2⟩):=by
    unfold fD
    have e:(P0++[s])[(P0++[s]).length - 1]?=some s:=by simp
    rw [e]
    simp only
    rw [if_neg ge]
    have ek:s.n.keys[s.nx]?=some k:=by rw [h1,h2]; simp
    rw [ek]
    simp only
    rw [aP (by rw [h1,h2]; simp) hmay hsN,hset]
   have hso:B0≠s.at':=fun e=>by rw [← e] at hsok; rcases hown with ho | ho
                                ·exact ge ho
                                ·have:=(hok s (by simp)).2.2.1
                                 rw [← e,ho] at this; cases this
   refine ⟨B0,T1,_,_,G',e1,hln,⟨(hI1.put hsok.2.2.2.2).perm fun x=>?_,hz,hz2,?_,⟨ho1,hw1,hGo,ho0⟩,hlv⟩,?_,hbod1,hkeep,by simp,by simp,hw⟩
   ·simp [List.count_append,List.count_cons]; omega
   ·intro t ht
    rcases List.mem_append.1 ht with ht | ht
    ·have:=hok1 t (by simp [ht])
     refine ⟨this.1,?_,this.2.2⟩
     simp only [TS.put]
     split
     ·rename_i e
      -- two steps at one block: not so
      exfalso
      have hc:=hI1.now1 this.2.2.1 (by simp; exact .inr (.inr (.inr (.inl ⟨t,ht,rfl⟩))))
      simp only [List.count_cons,List.count_append,List.map_append,List.map_cons,List.map_nil] at hc
      have h1:=List.count_pos_iff.2 (List.mem_map_of_mem (f:=(·.at')) ht)
      rw [e] at hc h1
      simp at hc
      omega
     ·exact this.2.1
    ·simp only [List.mem_singleton] at ht
     subst ht
     refine ⟨?_,by simp [TS.put],hsok.2.2⟩
     rw [hset] at hmay; exact hmay
   ·simp only [TS.put,if_neg hso]; exact hg1
end Go.Ax.C
set_option maxRecDepth 100000
namespace Go.Ax.C
open Go.Proofs Go.RowKit
variable {N:Nat} {sp:List KV→Nat} {X:List Nat}
theorem TI {α:Type} {xs:List α} {i:Nat} {x:α} (h:xs[i]?=some x):xs=xs.take i++x::xs.drop (i+1):=by
 obtain ⟨h1,h2⟩:=List.getElem?_eq_some_iff.1 h
 conv=>lhs; rw [← List.take_append_drop i xs]
 rw [List.drop_eq_getElem_cons h1,h2]
theorem ABH {xs:List Nat} {key k0:Nat} (hs:xs.Pairwise (·<·)) (h0:xs[0]?=some k0) (hk:key<k0):(xs.set 0 key).Pairwise (·<·):=by
 cases xs with
 | nil=>simp at h0
 | cons a xs =>
   simp only [List.getElem?_cons_zero,Option.some.injEq] at h0
   subst h0
   rw [List.pairwise_cons] at hs
   rw [List.set_cons_zero,List.pairwise_cons]
   exact ⟨fun y hy=>by have:=hs.1 y hy; omega,hs.2⟩
theorem VL {lower:Bool} {key:Nat} (hsp:sp=if lower=true then fun L=>min key (hd L) else hd):∀ (h f:Nat) (P:List Wp) (b:Nat) (n:Nd) (T:TS) (G:Gh) (Lf L1 L2:List KV) (W:List Nat),Way N T G sp P h b n Lf L1 L2 W X→ET (L1++(Lf++L2))→(∀ p∈L1,p.1<key)→(∀ p∈L2,key<p.1)→h<f →
 (∃ T',F1 lower key f P b T=.err 8 T')∨∃ P' s T' G' W' Lf' L1' L2',F1 lower key f P b T=.ok (P'++[s]) T'∧lZ N T' G' sp P' 0 s Lf' L1' L2' W' X∧T'.g s.at'=.nd s.n∧MQ G' 0 s.n Lf'∧ABZ P' s.n∧EU G G' X∧L1'++(Lf'++L2')=L1++(Lf++L2)∧(∀ p∈L1',p.1<key)∧(∀ p∈L2',key<p.1)∧T'.was=T.was
 | _,0,_,_,_,_,_,_,_,_,_,_,_,_,_,hf=>by omega
 | 0,f+1,P,b,n,T,G,Lf,L1,L2,W,hw,hg,hl1,hl2,hf=>by
   rcases cA hw with ⟨T',e⟩ | ⟨B0,T1,P1,T2,G',e1,e2,ho,hg2,hb,hk,hp,hpm,hws⟩
   ·left; unfold F1; rw [e]; exact ⟨T',rfl⟩
   right
   refine ⟨P1,⟨B0,n,0⟩,T2,G',W,Lf,L1,L2,?_,ho,hg2,hb,?_,hk,rfl,hl1,hl2,hws⟩
   ·unfold F1
    rw [e1]; simp only [R.bind]; rw [e2]; simp only [hb.1,if_true]
   ·have:=hw.sz
    exact ⟨this.1,this.2.1,fun h=>this.2.2.1 fun e=>h (hp.2 e),fun h=>this.2.2.2 (hp.1 h)⟩
 | h+1,f+1,P,b,n,T,G,Lf,L1,L2,W,hw,hg,hl1,hl2,hf=>by
   rcases cA hw with ⟨T',e⟩ | ⟨B0,T1,P1,T2,G',e1,e2,ho,hg2,hb,hk,hp,hpm,hws⟩
   ·left; unfold F1; rw [e]; exact ⟨T',rfl⟩
   have hsz:=hw.sz
   have hgf:ET Lf:=hg.right.left
   have hmay:=HG ho.inv hb hgf hsz.1 hsz.2.1
   have hlen:=ZL hb
   obtain ⟨k0,hk0⟩:∃ k0,n.keys[0]?=some k0:=⟨_,List.getElem?_eq_getElem (by have:=hsz.1; omega)⟩
   obtain ⟨v0,hv0⟩:∃ v0,n.vals[0]?=some v0:=⟨_,List.getElem?_eq_getElem (by have:=hsz.1; omega)⟩
   have hoN:B0<N:=ho.inv.tok B0 (by simp)
   -- the SM key
   obtain ⟨n1,T3,e3,hn1l,hn1v,hn1k,hn1m,hg3,hi3,hgo3,hw3⟩:∃ n1 T3,lX lower key (P1++[⟨B0,n,0⟩]) n T2=.ok (P1++[⟨B0,n1,0⟩]) T3∧n1.leaf=false∧n1.vals=n.vals∧((n1.keys=n.keys∧(lower=true→k0≤key))∨(n1.keys=n.keys.set 0 key∧lower=true∧key<k0))∧n1.May∧T3.g B0=.nd n1∧ES N T3 G' (X++((P1.map (·.at')++[B0])++(W++n.vals)))∧(∀ x,x≠B0→T3.g x=T2.g x)∧T3.was=T2.was∧T3.now=T2.now:=by
    unfold lX
    rw [hk0,hv0]
    simp only
    by_cases gl:lower=true∧key<k0
    ·rw [if_pos gl]
     have hset:n.setN 0 key v0=⟨false,n.keys.set 0 key,n.vals⟩:=by
      unfold Nd.setN setF
      simp only [if_true,Bool.false_eq_true,if_false]
      rw [set_self hv0,hb.1]
     have hm:(n.setN 0 key v0).May:=by
      rw [hset]
      exact ⟨by simpa using hmay.1,ABH hmay.2.1 hk0 gl.2,hmay.2.2⟩
     have hs:=aP (T:=T2) (P:=P1) (s:=⟨B0,n,0⟩) (i:=0) (key:=key) (val:=v0) (by have:=hsz.1; show 0<n.keys.length; omega) hm (by rw [ho.inv.n1]; exact hoN)
     refine ⟨_,_,hs,by rw [hset],by rw [hset],.inr ⟨by rw [hset],gl⟩,hm,by simp [TS.put],ho.inv.put ho.me.2.2.1,fun x hx=>by simp [TS.put,hx],rfl,rfl⟩
    ·rw [if_neg gl]
     exact ⟨n,T2,rfl,hb.1,rfl,.inl ⟨rfl,fun hl=>by by_cases g:key<k0; exact absurd ⟨hl,g⟩ gl; omega⟩,hmay,hg2,ho.inv,fun _ _=>rfl,rfl,rfl⟩
   obtain ⟨hw3,hnow3⟩:=hw3
   -- the child
   have hn1len:n1.keys.length=n.keys.length:=by rcases hn1k with ⟨e,_⟩ | ⟨e,_⟩<;>rw [e]<;>simp
   have hn1ne:n1.keys≠[]:=fun e=>by rw [e] at hn1len; have:=hsz.1; simp at hn1len; omega
   obtain ⟨c1,c2,c3⟩:=aT (key:=key) hn1m.2.1 hn1ne
   generalize hi:CC n1.keys key=i at c1 c2 c3
   obtain ⟨v,hv⟩:∃ v,n.vals[i]?=some v:=⟨_,List.getElem?_eq_getElem (by omega)⟩
   obtain ⟨k,A,l,B,hL,hki,hdl,hlne,hkid,hA,hB⟩:=hb.2.at' hv
   obtain ⟨m,hGv,h4,hbm⟩:=hkid
   obtain ⟨k',hk'⟩:∃ k',n1.keys[i]?=some k':=⟨_,List.getElem?_eq_getElem c1⟩
   have hi0:lower=true→key<k0→i=0:=fun hl hlt=>by
    rcases hn1k with ⟨e,g⟩ | ⟨e,_,_⟩
    ·have:=g hl; omega
    ·rcases c3 k' hk' with h1 | h1
     ·by_cases g0:i=0
      ·exact g0
      exfalso
      rw [e,List.getElem?_set_ne (by omega)] at hk'
      obtain ⟨a1,a2⟩:=List.getElem?_eq_some_iff.1 hk'
      obtain ⟨b1,b2⟩:=List.getElem?_eq_some_iff.1 hk0
      have:=List.pairwise_iff_getElem.1 hmay.2.1 0 i b1 a1 (by omega)
      omega
     ·exact h1
   have hkk:∀ j,j≠0→n1.keys[j]?=n.keys[j]?:=fun j hj=>by
    rcases hn1k with ⟨e,_⟩ | ⟨e,_⟩
    ·rw [e]
    ·rw [e,List.getElem?_set_ne (by omega)]
   have hksp:k'=sp l:=by
    rw [hsp]
    rcases hn1k with ⟨e,g⟩ | ⟨e,hl,hlt⟩
    ·rw [e,hki] at hk'; cases hk'
     cases lower with
     | false=>simp [hdl]
     | true =>
       have:=g rfl
       simp only [if_true]
       have hle:k≤key:=by
        rcases c3 k (by rw [e]; exact hki) with h1 | h1
        ·exact h1
        ·subst h1; rw [hk0] at hki; cases hki; exact this
       rw [hdl]; omega
    ·have h0:=hi0 hl hlt
     subst h0
     rw [hk0] at hki; cases hki
     rw [e,List.getElem?_set_self (by have:=hsz.1; omega)] at hk'
     cases hk'
     rw [if_pos hl]
     (try simp only)
     rw [hdl]; omega
   have hgl:ET (A++(l++B)):=by rw [← hL]; exact hgf
   have hA1:∀ p∈A,p.1<key:=fun p hp=>by
    have hi0':i≠0:=fun e=>by subst e; cases hA with | nil=>simp at hp
    have hle:k≤key:=by
     rcases c3 k (by rw [hkk i hi0']; exact hki) with h1 | h1
     ·exact h1
     ·exact absurd h1 hi0'
    obtain ⟨q,hq,e⟩:=W0 hlne
    have:=hgl.lt hp (q:=q) (by simp [hq])
    omega
   have hB1:∀ p∈B,key<p.1:=fun p hp=>by
    have hbne:B≠[]:=fun e=>by subst e; simp at hp
    have hdrop:=hB.ne.1 hbne
    have hil:i+1<n.keys.length:=by
     by_cases g:i+1<n.keys.length
     ·exact g
     ·exact absurd (List.drop_eq_nil_of_le (by omega)) hdrop
    have e1:=hB.hd
    rw [List.drop_eq_getElem_cons hil] at e1
    simp only [List.head?_cons,Option.getD_some] at e1
    have:=c2 (i+1) _ (by rw [hkk (i+1) (by omega)]; exact List.getElem?_eq_getElem hil) (by omega)
    have h5:=hgl.right.right.hd_le hp
    omega
   have hs1:n1=⟨false,n1.keys.take i++k'::n1.keys.drop (i+1),n.vals.take i++v::n.vals.drop (i+1)⟩:=by
    rw [← TI hk',← TI hv,← hn1v,← hn1l]
   have hA':DQ (JA G' h) (n1.keys.take i) (n.vals.take i) A:=by
    rcases hn1k with ⟨e,_⟩ | ⟨e,hl,hlt⟩
    ·rw [e]; exact hA
    ·have h0:=hi0 hl hlt
     subst h0; exact hA
   have hB':DQ (JA G' h) (n1.keys.drop (i+1)) (n.vals.drop (i+1)) B:=by
    have:n1.keys.drop (i+1)=n.keys.drop (i+1):=by
     apply List.ext_getElem?
     intro j
     rw [List.getElem?_drop,List.getElem?_drop,hkk _ (by omega)]
    rw [this]; exact hB
   have hz3:hJ G' sp (P1++[⟨B0,n1,i⟩]) h v l (L1++A) (B++L2) (W++(n.vals.take i++n.vals.drop (i+1))):=by
    have hzz:=ho.zip
    rw [hL] at hzz
    refine .down (s:=⟨B0,n1,i⟩) hzz hs1 (by simp; omega) (by rw [List.length_take,List.length_take]; omega) hA' hB' hksp (by have:=hsz.2.1; simp only; omega) (fun e=>?_) (fun e=>?_)
    ·have:=hsz.2.2.2 (hp.1 e) hb.1
     simp only; omega
    ·have:=hsz.2.2.1 (fun g=>e (hp.2 g))
     simp only; omega
   have hvn:n.vals=n.vals.take i++v::n.vals.drop (i+1):=TI hv
   have hcv:∀ x,n.vals.count x=(n.vals.take i).count x+((n.vals.drop (i+1)).count x+if v=x then 1 else 0):=fun x=>by
    conv=>lhs; rw [hvn]
    simp [List.count_append,List.count_cons]
   have hm8:=(hi3.dom v m hGv).2.2.2.2
   have hw2:Way N T3 G' sp (P1++[⟨B0,n1,i⟩]) h v m l (L1++A) (B++L2) (W++(n.vals.take i++n.vals.drop (i+1))) X:=by
    refine ⟨hi3.perm fun x=>?_,ho.z,hz3,fun s hs=>?_,hGv,hbm,hm8.1,hm8.2,fun _=>h4,fun e=>by simp at e⟩
    ·simp only [List.count_cons,List.count_append,List.map_append,List.map_cons,List.map_nil,List.count_nil,hcv x,beq_iff_eq]
     omega
    ·rcases List.mem_append.1 hs with hs | hs
     ·have:=ho.ok s hs
      refine ⟨this.1,?_,by rw [hnow3]; exact this.2.2.1,by rw [hw3]; exact this.2.2.2.1,this.2.2.2.2⟩
      rw [hgo3 _ fun e=>?_]
      ·exact this.2.1
      ·have hc:=ho.inv.now1 ho.me.1 (by simp)
       have h1:=List.count_pos_iff.2 (List.mem_map_of_mem (f:=(·.at')) hs)
       rw [e] at h1
       simp only [List.count_append,List.count_cons,List.count_nil] at hc
       simp at hc
       omega
     ·simp only [List.mem_singleton] at hs
      subst hs
      exact ⟨hn1m,hg3,by rw [hnow3]; exact ho.me.1,by rw [hw3]; exact ho.me.2.1,ho.me.2.2.1⟩
   have hstep:F1 lower key (f+1) P b T=F1 lower key f (P1++[⟨B0,n1,i⟩]) v T3:=by
    conv=>lhs; unfold F1
    rw [e1]; simp only [R.bind]; rw [e2]
    simp only [hb.1,Bool.false_eq_true,if_false]
    rw [e3]
    simp only
    unfold fV
    have e:(P1++[(⟨B0,n1,0⟩:Wp)])[(P1++[(⟨B0,n1,0⟩:Wp)]).length - 1]?=some ⟨B0,n1,0⟩:=by simp
    rw [e]
    simp only
    rw [hi,hn1v,hv]
    simp only
    congr 1
    simp [List.set_append]
   rw [hstep]
   have hLL:(L1++A)++(l++(B++L2))=L1++(Lf++L2):=by rw [hL]; simp
   have hq1:∀ p∈L1++A,p.1<key:=fun p hp=>by
    rcases List.mem_append.1 hp with hp | hp
    ·exact hl1 p hp
    ·exact hA1 p hp
   have hq2:∀ p∈B++L2,key<p.1:=fun p hp=>by
    rcases List.mem_append.1 hp with hp | hp
    ·exact hB1 p hp
    ·exact hl2 p hp
   rcases VL hsp h f _ v m T3 G' l (L1++A) (B++L2) _ hw2 (by rw [hLL]; exact hg) hq1 hq2 (by omega) with he | ⟨P',s,T',G2,W',Lf',L1',L2',e,ho',h1,h2,h3,h4',h5,h6,h7,h8⟩
   ·exact .inl he
   ·exact .inr ⟨P',s,T',G2,W',Lf',L1',L2',e,ho',h1,h2,h3,hk.trans h4',by rw [h5,hLL],h6,h7,by rw [h8,hw3,hws]⟩
end Go.Ax.C
set_option maxRecDepth 100000
namespace Go.Ax.C
open Go.Proofs Go.RowKit
def ins (key val:Nat):List KV→List KV
 | []=>[(key,val)]
 | p::L=>if p.1<key then p::ins key val L else if p.1=key then (key,val)::L else (key,val)::p::L
def del (key:Nat):List KV→List KV
 | []=>[]
 | p::L=>if p.1<key then p::del key L else if p.1=key then L else p::L
def NP (key:Nat):List KV→Option Nat
 | []=>none
 | p::L=>if p.1=key then some p.2 else NP key L
variable {key val:Nat} {A B L:List KV}
theorem pF (h:∀ p∈A,p.1<key):ins key val (A++B)=A++ins key val B:=by
 induction A with
 | nil=>rfl
 | cons p A ih =>
   rw [List.cons_append,ins,if_pos (h p (by simp)),ih fun q hq=>h q (by simp [hq])]; rfl
theorem jT (h:∀ p∈B,key<p.1) (hA:A≠[]∨True):ins key val (A++B)=ins key val A++B:=by
 induction A with
 | nil =>
   cases B with
   | nil=>rfl
   | cons q B =>
     have:=h q (by simp)
     simp only [List.nil_append,ins]
     rw [if_neg (by omega),if_neg (by omega)]; rfl
 | cons p A ih =>
   rw [List.cons_append,ins,ins,ih (.inr trivial)]
   split
   ·rfl
   ·split<;>rfl
theorem nE (h:∀ p∈A,p.1<key):del key (A++B)=A++del key B:=by
 induction A with
 | nil=>rfl
 | cons p A ih =>
   rw [List.cons_append,del,if_pos (h p (by simp)),ih fun q hq=>h q (by simp [hq])]; rfl
theorem jG (h:∀ p∈B,key<p.1):del key (A++B)=del key A++B:=by
 induction A with
 | nil =>
   cases B with
   | nil=>rfl
   | cons q B =>
     have:=h q (by simp)
     simp only [List.nil_append,del]
     rw [if_neg (by omega),if_neg (by omega)]
 | cons p A ih =>
   rw [List.cons_append,del,del,ih]
   split
   ·rfl
   ·split<;>rfl
theorem dV (h:∀ p∈A,p.1<key):NP key (A++B)=NP key B:=by
 induction A with
 | nil=>rfl
 | cons p A ih =>
   have:=h p (by simp)
   rw [List.cons_append,NP,if_neg (by omega),ih fun q hq=>h q (by simp [hq])]
theorem VA (h:∀ p∈B,key<p.1):NP key (A++B)=NP key A:=by
 induction A with
 | nil =>
   induction B with
   | nil=>rfl
   | cons q B ih =>
     have:=h q (by simp)
     have ih':NP key B=none:=ih fun p hp=>h p (by simp [hp])
     show NP key (q::B)=none
     simp only [NP]
     rw [if_neg (by omega),ih']
 | cons p A ih=>rw [List.cons_append,NP,NP,ih]
theorem AB1 (hL:L≠[]):hd (ins key val L)=min key (hd L):=by
 cases L with
 | nil=>exact absurd rfl hL
 | cons p L =>
   simp only [ins]
   split
   ·simp only [hd]; omega
   ·split
    ·simp only [hd]; omega
    ·simp only [hd]; omega
theorem ACB:ins key val L≠[]:=by
 cases L with
 | nil=>simp [ins]
 | cons p L=>unfold ins; split<;>(try split)<;>simp
theorem AAm {p:KV} (h:p∈ins key val L):p=(key,val)∨p∈L:=by
 induction L with
 | nil=>simpa [ins] using h
 | cons q L ih =>
   unfold ins at h
   split at h
   ·rcases List.mem_cons.1 h with h | h
    ·exact .inr (by simp [h])
    ·rcases ih h with h | h
     ·exact .inl h
     ·exact .inr (by simp [h])
   ·split at h
    ·rcases List.mem_cons.1 h with h | h
     ·exact .inl h
     ·exact .inr (by simp [h])
    ·rcases List.mem_cons.1 h with h | h
     ·exact .inl h
     ·exact .inr h
theorem JC {p:KV}:ET (p::L)↔p.2≠0∧(∀ q∈L,p.1<q.1)∧ET L:=by
 constructor
 ·intro h
  exact ⟨h.2 p (by simp),fun q hq=>h.lt (A:=[p]) (by simp) hq,ET.right (A:=[p]) h⟩
 ·rintro ⟨h1,h2,h3⟩
  refine ⟨?_,fun q hq=>?_⟩
  ·rw [List.map_cons,List.pairwise_cons]
   refine ⟨fun k hk=>?_,h3.1⟩
   obtain ⟨q,hq,rfl⟩:=List.mem_map.1 hk
   exact h2 q hq
  ·rcases List.mem_cons.1 hq with rfl | hq
   ·exact h1
   ·exact h3.2 q hq
theorem UK (hg:ET L) (hv:val≠0):ET (ins key val L):=by
 induction L with
 | nil=>exact ⟨by simp [ins],by simpa [ins] using hv⟩
 | cons p L ih =>
   obtain ⟨h1,h2,h3⟩:=JC.1 hg
   unfold ins
   split
   ·rename_i g
    refine JC.2 ⟨h1,fun q hq=>?_,ih h3⟩
    rcases AAm hq with rfl | hq
    ·exact g
    ·exact h2 q hq
   ·split
    ·rename_i g
     exact JC.2 ⟨hv,fun q hq=>by have:=h2 q hq; show key<q.1; omega,h3⟩
    ·exact JC.2 ⟨hv,fun q hq=>by
      rcases List.mem_cons.1 hq with rfl | hq
      ·show key<q.1; omega
      ·have:=h2 q hq; show key<q.1; omega,hg⟩
theorem AAo {p:KV} (h:p∈del key L):p∈L:=by
 induction L with
 | nil=>simp [del] at h
 | cons q L ih =>
   unfold del at h
   split at h
   ·rcases List.mem_cons.1 h with h | h
    ·simp [h]
    ·simp [ih h]
   ·split at h
    ·simp [h]
    ·exact h
theorem eV (hg:ET L):ET (del key L):=by
 induction L with
 | nil=>exact hg
 | cons p L ih =>
   obtain ⟨h1,h2,h3⟩:=JC.1 hg
   unfold del
   split
   ·exact JC.2 ⟨h1,fun q hq=>h2 q (AAo hq),ih h3⟩
   ·split
    ·exact h3
    ·exact hg
theorem SC {k:Nat} {ks:List Nat}:A7 (k::ks) key=if k<key then A7 ks key+1 else 0:=by
 unfold A7
 rw [List.takeWhile_cons]
 by_cases h:k<key<;>simp [h]
theorem mX:∀ {ks vs:List Nat},vs.length=ks.length→ks[A7 ks key]?≠some key→(Q3 (A7 ks key) key val true ks).zip (Q3 (A7 ks key) key val false vs)=ins key val (ks.zip vs)
 | [],[],_,_=>by simp [Q3,ins]
 | [],_::_,h,_=>by simp at h
 | _::_,[],h,_=>by simp at h
 | k::ks,v::vs,h,hk=>by
   rw [SC] at hk ⊢
   by_cases g:k<key
   ·rw [if_pos g] at hk ⊢
    rw [List.getElem?_cons_succ] at hk
    have:=mX (ks:=ks) (vs:=vs) (by simpa using h) hk
    simp only [List.zip_cons_cons,ins,if_pos g]
    rw [← this]
    simp [Q3]
   ·rw [if_neg g] at hk ⊢
    simp only [List.getElem?_cons_zero,ne_eq,Option.some.injEq] at hk
    simp only [List.zip_cons_cons,ins,if_neg g,if_neg hk]
    simp [Q3]
theorem mR:∀ {ks vs:List Nat},vs.length=ks.length→ks[A7 ks key]?=some key→(setF (A7 ks key) key val true ks).zip (setF (A7 ks key) key val false vs)=ins key val (ks.zip vs)
 | [],[],_,hk=>by simp at hk
 | [],_::_,h,_=>by simp at h
 | _::_,[],h,_=>by simp at h
 | k::ks,v::vs,h,hk=>by
   rw [SC] at hk ⊢
   by_cases g:k<key
   ·rw [if_pos g] at hk ⊢
    rw [List.getElem?_cons_succ] at hk
    have:=mR (ks:=ks) (vs:=vs) (by simpa using h) hk
    simp only [List.zip_cons_cons,ins,if_pos g]
    rw [← this]
    simp [setF]
   ·rw [if_neg g] at hk ⊢
    simp only [List.getElem?_cons_zero,Option.some.injEq] at hk
    simp only [List.zip_cons_cons,ins,if_neg g,if_pos hk]
    simp [setF]
theorem U3:∀ {ks vs:List Nat},vs.length=ks.length→ks.Pairwise (·<·)→NP key (ks.zip vs)=if ks[A7 ks key]?=some key then vs[A7 ks key]? else none
 | [],[],_,_=>by simp [NP]
 | [],_::_,h,_=>by simp at h
 | _::_,[],h,_=>by simp at h
 | k::ks,v::vs,h,hp=>by
   rw [List.pairwise_cons] at hp
   rw [SC]
   by_cases g:k<key
   ·rw [if_pos g,List.getElem?_cons_succ,List.getElem?_cons_succ,List.zip_cons_cons,NP,if_neg (by simp only; omega)]
    exact U3 (by simpa using h) hp.2
   ·rw [if_neg g,List.zip_cons_cons,NP]
    simp only [List.getElem?_cons_zero,Option.some.injEq]
    by_cases e:k=key
    ·rw [if_pos e,if_pos e]
    ·rw [if_neg e,if_neg e]
     have:∀ p∈ks.zip vs,key<p.1:=fun p hp'=>by
      have h1:p.1∈ks:=(List.of_mem_zip (a:=p.1) (b:=p.2) hp').1
      have:=hp.1 _ h1
      omega
     have h2:=VA (key:=key) (A:=[]) this
     simpa [NP] using h2
theorem mY:∀ {ks vs:List Nat},vs.length=ks.length→ks[A7 ks key]?=some key→(VY (A7 ks key) true ks).zip (VY (A7 ks key) false vs)=del key (ks.zip vs)
 | [],[],_,hk=>by simp at hk
 | [],_::_,h,_=>by simp at h
 | _::_,[],h,_=>by simp at h
 | k::ks,v::vs,h,hk=>by
   rw [SC] at hk ⊢
   by_cases g:k<key
   ·rw [if_pos g] at hk ⊢
    rw [List.getElem?_cons_succ] at hk
    have:=mY (ks:=ks) (vs:=vs) (by simpa using h) hk
    simp only [List.zip_cons_cons,del,if_pos g]
    rw [← this]
    simp [VY]
   ·rw [if_neg g] at hk ⊢
    simp only [List.getElem?_cons_zero,Option.some.injEq] at hk
    simp only [List.zip_cons_cons,del,if_neg g,if_pos hk]
    simp [VY]
end Go.Ax.C
set_option maxRecDepth 100000
namespace Go.Ax.C
open Go.Proofs Go.RowKit
variable {N:Nat} {T T':TS} {G:Gh} {sp:List KV→Nat} {P:List Wp} {h b:Nat} {Lf L1 L2 L:List KV} {W X K:List Nat} {s:Wp} {n:Nd}
theorem wZ (hb:MQ G h n L) (hl:n.leaf=false):∀ v∈n.vals,∃ m,G v=some m:=by
 cases h with
 | zero=>rw [hb.1] at hl; cases hl
 | succ h =>
   intro v hv
   obtain ⟨l,m,hm,_⟩:=hb.2.kid v hv
   exact ⟨m,hm⟩
theorem PS (hb:MQ G h n L) (hl:cF G n):Kd G n:=⟨wZ hb,hl⟩
theorem cF.of {m:Nd} (h:cF G n) (hs:m.leaf=true→n.leaf=true∧∀ v∈m.vals,v∈n.vals):cF G m:=fun hl v hv=>h (hs hl).1 v ((hs hl).2 v hv)
theorem cF.inner {m:Nd} (h:m.leaf=false):cF G m:=fun hl=>by rw [h] at hl; cases hl
theorem cF.lo (h:cF G n):cF G n.lo:=h.of fun hl=>⟨hl,fun _ hv=>List.mem_of_mem_take hv⟩
theorem cF.hi (h:cF G n):cF G n.hi:=h.of fun hl=>⟨hl,fun _ hv=>List.mem_of_mem_drop hv⟩
theorem FJ {o:Option Nd} (hG:G b=none) (hb:MQ G h n L):MQ (gset G b o) h n L:=by
 cases h with
 | zero=>exact hb
 | succ h=>exact ⟨hb.1,hb.2.mono fun v _ l hk=>JA.set hG hk⟩
theorem nO:∀ (i:Nat) (ks vs:List Nat),(ks.zip vs).take i=(ks.take i).zip (vs.take i)
 | 0,_,_=>by simp
 | _+1,[],_=>by simp
 | _+1,_::_,[]=>by simp
 | i+1,k::ks,v::vs=>by simp [nO i ks vs]
theorem o5:∀ (i:Nat) (ks vs:List Nat),(ks.zip vs).drop i=(ks.drop i).zip (vs.drop i)
 | 0,_,_=>by simp
 | _+1,[],_=>by simp
 | _+1,_::_,[]=>by simp
 | i+1,k::ks,v::vs=>by simp [o5 i ks vs]
theorem j1 (i:Nat) (hb:MQ G h n L):∃ A B,L=A++B∧MQ G h ⟨n.leaf,n.keys.take i,n.vals.take i⟩ A∧MQ G h ⟨n.leaf,n.keys.drop i,n.vals.drop i⟩ B:=by
 cases h with
 | zero =>
   obtain ⟨h1,h2,rfl⟩:=hb
   exact ⟨(n.keys.zip n.vals).take i,(n.keys.zip n.vals).drop i,(List.take_append_drop i _).symm,⟨h1,by simp [h2],nO _ _ _⟩,⟨h1,by simp [h2],o5 _ _ _⟩⟩
 | succ h =>
   obtain ⟨h1,h2⟩:=hb
   obtain ⟨A,B,rfl,ha,hb⟩:=h2.take_drop i
   exact ⟨A,B,rfl,⟨h1,ha⟩,⟨h1,hb⟩⟩
theorem lZ.ne (ho:lZ N T G sp P h s Lf L1 L2 W X):∀ t∈P,t.at'≠s.at':=fun t ht e=>by
 have hc:=ho.inv.now1 ho.me.1 (by simp)
 have h1:=List.count_pos_iff.2 (List.mem_map_of_mem (f:=(·.at')) ht)
 rw [e] at h1
 simp only [List.count_append,List.count_cons,List.count_nil] at hc
 simp at hc
 omega
theorem lZ.nv (ho:lZ N T G sp P h s Lf L1 L2 W X):s.at'∉s.n.vals:=fun hx=>by
 have hc:=ho.inv.now1 ho.me.1 (by simp)
 have h1:=List.count_pos_iff.2 hx
 simp only [List.count_append,List.count_cons,List.count_nil] at hc
 simp at hc
 omega
theorem lZ.nX (ho:lZ N T G sp P h s Lf L1 L2 W X):s.at'∉X:=fun hx=>by
 have hc:=ho.inv.now1 ho.me.1 (by simp)
 have h1:=List.count_pos_iff.2 hx
 simp only [List.count_append,List.count_cons,List.count_nil] at hc
 simp at hc
 omega
theorem GR.put {x:Nat} {m:Nd} (hp:GR T G P) (hn:∀ t∈P,t.at'≠x):GR (T.put x m) G P:=fun t ht=>by
 have:=hp t ht
 exact ⟨this.1,by simp only [TS.put,if_neg (hn t ht)]; exact this.2.1,this.2.2⟩
theorem GR.gset {x:Nat} {o:Option Nd} (hp:GR T G P) (hn:∀ t∈P,t.at'≠x):GR T (gset G x o) P:=fun t ht=>by
 have:=hp t ht
 exact ⟨this.1,this.2.1,this.2.2.1,this.2.2.2.1,by rw [BO (hn t ht)]; exact this.2.2.2.2⟩
theorem VJ {a:Nat} (he:T.alloc=.ok a T'):T'={ T with now:=T.now.set a 1 }∧T.now[a]?=some 0:=by
 unfold TS.alloc at he
 cases hl:SM T.now T.was with
 | none=>rw [hl] at he; cases he
 | some c=>rw [hl] at he; cases he; exact ⟨rfl,(XG hl).1⟩
theorem GR.alloc {a:Nat} (he:T.alloc=.ok a T') (hp:GR T G P):GR T' G P∧∀ t∈P,t.at'≠a:=by
 obtain ⟨rfl,h0⟩:=VJ he
 have hne:∀ t∈P,t.at'≠a:=fun t ht e=>by
  have:=(hp t ht).2.2.1
  rw [e,h0] at this; cases this
 refine ⟨fun t ht=>?_,hne⟩
 have:=hp t ht
 refine ⟨this.1,this.2.1,?_,this.2.2.2⟩
 simp only
 rw [List.getElem?_set_ne (Ne.symm (hne t ht))]
 exact this.2.2.1
theorem hJ.nil (hz:hJ G sp [] h b Lf L1 L2 W):L1=[]∧L2=[]∧W=[]:=by
 generalize hP:([]:List Wp)=P' at hz
 cases hz with
 | top=>exact ⟨rfl,rfl,rfl⟩
 | down=>simp at hP
def Rt (G:Gh) (r:Nat) (L:List KV):Prop:=∃ h n,G r=some n∧MQ G h n L∧(n.leaf=false→2≤n.keys.length)
theorem eJ {f:List Wp→Nat→TS→R (List Wp)} {k:Nat} {P:List Wp} {T:TS}:dJ f (k+1) P T=(f P k T).bind fun P T=>dJ f k P T:=rfl
theorem tQ {A B:List Wp}:(A++s::B)[A.length]?=some s:=by simp
theorem xU {A B:List Wp} {s':Wp}:(A++s::B).set A.length s'=A++s'::B:=by simp
theorem lZ.close (ho:lZ N T G sp P h s Lf L1 L2 W X) (hb:MQ G h s.n L) (hsv:T.g s.at'=.nd s.n) (hf:s.n.fits):ES N T (gset G s.at' (some s.n)) (X++((P.map (·.at')++[s.at'])++W)):=by
 refine ES.close (ho.inv.perm fun x=>?_) ho.me.2.2.1 (by simp) ho.me.1 hsv hf ho.me.2.2.2 (PS hb ho.lv) (by simp [ho.z])
 simp only [List.count_append]; omega
theorem zX {key val:Nat} (hv:val≠0) (hsp:sp=fun L=>min key (hd L)):∀ (k:Nat) (P Rs:List Wp) (h:Nat) (s:Wp) (T:TS) (G:Gh) (Lf L1 L2:List KV) (W:List Nat),P.length=k →
 lZ N T G sp P h s Lf L1 L2 W X→(s.n.fits→T.g s.at'=.nd s.n)→MQ G h s.n (ins key val Lf)→1≤s.n.keys.length∧s.n.keys.length≤9→(P≠[]→4≤s.n.keys.length)→(P=[]→s.n.leaf=false→2≤s.n.keys.length)→Lf≠[] →
 ET (L1++(Lf++L2))→(∀ p∈L1,p.1<key)→(∀ p∈L2,key<p.1) →
 (∃ T',dJ FX (P.length+1) (P++s::Rs) T=.err 8 T')∨∃ p Q T' G',dJ FX (P.length+1) (P++s::Rs) T=.ok (p::Q) T'∧ES N T' G' (p.at'::X)∧Rt G' p.at' (ins key val (L1++(Lf++L2)))∧EU G G' X∧T'.was=T.was:=by
 intro k
 induction k with
 | zero =>
   intro P Rs h s T G Lf L1 L2 W hk ho hsv hb h9 h4 h2 hne hg hl1 hl2
   obtain rfl:=List.length_eq_zero_iff.1 hk
   obtain ⟨rfl,rfl,rfl⟩:=ho.zip.nil
   have hgi:ET (ins key val Lf):=UK (by simpa using hg) hv
   simp only [List.length_nil,Nat.zero_add,List.nil_append,List.append_nil]
   rw [eJ]
   unfold FX
   simp only [List.getElem?_cons_zero]
   by_cases g8:s.n.keys.length≤8
   ·rw [if_pos g8]
    right
    have hf:s.n.fits:=⟨h9.1,g8⟩
    refine ⟨s,Rs,T,gset G s.at' (some s.n),rfl,(ho.close hb (hsv hf) hf).perm fun x=>?_,⟨h,s.n,DL,FJ ho.me.2.2.1 hb,h2 rfl⟩,.set ho.me.2.2.1 ho.nX,rfl⟩
    simp [List.count_append,List.count_cons]
   rw [if_neg g8]
   have hlen:s.n.keys.length=9:=by omega
   have hvl:=ZL hb
   obtain ⟨A,B,hAB,hbA,hbB⟩:=j1 (DV s.n) hb
   have hh:DV s.n=5:=by unfold DV; rw [hlen]
   rw [hAB] at hgi
   have kA:s.n.lo.keys.length=5:=by simp [Nd.lo,hh,hlen]
   have kB:s.n.hi.keys.length=4:=by simp [Nd.hi,hh,hlen]
   have mA:s.n.lo.May:=HG ho.inv hbA hgi.left (by show 1≤s.n.lo.keys.length; omega) (by show s.n.lo.keys.length≤8; omega)
   have mB:s.n.hi.May:=HG ho.inv hbB hgi.right (by show 1≤s.n.hi.keys.length; omega) (by show s.n.hi.keys.length≤8; omega)
   have hsN:s.at'<N:=ho.inv.tok _ (by simp)
   unfold DD
   simp only [List.getElem?_cons_zero]
   rw [R4 mA (by rw [ho.inv.n1]; exact hsN)]
   simp only [R.bind,List.set_cons_zero]
   have i1:ES N (T.put s.at' s.n.lo) G (X++((([]:List Wp).map (·.at')++[s.at'])++([]++s.n.vals))):=ho.inv.put ho.me.2.2.1
   unfold TS.make
   rw [if_pos mB]
   rcases i1.alloc with e2 | ⟨a,T2,e2,i2,a0,a1,aw,w2,g2⟩
   ·rw [e2]; exact .inl ⟨_,rfl⟩
   rw [e2]
   simp only [R.bind]
   have hsne:s.at'≠a:=fun e=>by
    have:=ho.me.1
    rw [e] at this; simp only [TS.put] at a0; rw [a0] at this; cases this
   have ga:G a=none:=(i1.now0 a0).2.2
   have haX:a∉X:=fun hx=>by have:=List.count_pos_iff.2 hx; have h0:=(i1.now0 a0).1; rw [List.count_append] at h0; omega
   have i3:ES N (T2.put a s.n.hi) G (a::(X++((([]:List Wp).map (·.at')++[s.at'])++([]++s.n.vals)))):=i2.put ga
   have hsv3:(T2.put a s.n.hi).g s.at'=.nd s.n.lo:=by simp only [TS.put,if_neg hsne]; rw [g2]; simp [TS.put]
   have hcv:∀ x,s.n.vals.count x=s.n.lo.vals.count x+s.n.hi.vals.count x:=fun x=>by
    conv=>lhs; rw [← List.take_append_drop (DV s.n) s.n.vals]
    rw [List.count_append]; rfl
   have hns:T2.now[s.at']?=some 1:=by
    rw [(VJ e2).1]
    simp only
    rw [List.getElem?_set_ne (Ne.symm hsne)]
    exact ho.me.1
   have i4:ES N (T2.put a s.n.hi) (gset G s.at' (some s.n.lo)) (s.n.hi.vals++(a::s.at'::X)):=by
    refine ES.close (i3.perm fun x=>?_) ho.me.2.2.1 (by simp) hns hsv3 ⟨by omega,by omega⟩ ho.me.2.2.2 (PS hbA ho.lv.lo) (by simp [ho.z])
    simp only [List.count_append,List.count_cons,List.map_nil,List.count_nil,hcv x]; omega
   have hbB4:=FJ (o:=some s.n.lo) ho.me.2.2.1 hbB
   have ga4:gset G s.at' (some s.n.lo) a=none:=by rw [BO (Ne.symm hsne)]; exact ga
   have a0':a≠0:=fun e=>by
    have:=i2.now1 a1 (by simp)
    have h0:=List.count_pos_iff.2 ho.z
    rw [e] at this
    simp only [List.count_cons,List.count_append] at this
    simp at this
    omega
   have i5:ES N (T2.put a s.n.hi) (gset (gset G s.at' (some s.n.lo)) a (some s.n.hi)) (a::s.at'::X):=by
    exact ES.close i4 ga4 (by simp) a1 (by simp [TS.put]) ⟨by omega,by omega⟩ a0' (PS hbB4 (ho.lv.hi.set fun hv=>ho.nv (List.mem_of_mem_drop hv))) (by simp [ho.z])
   have hkA:JA (gset (gset G s.at' (some s.n.lo)) a (some s.n.hi)) h s.at' A:=⟨s.n.lo,by rw [BO hsne,DL],by omega,FJ ga4 (FJ ho.me.2.2.1 hbA)⟩
   have hkB:JA (gset (gset G s.at' (some s.n.lo)) a (some s.n.hi)) h a B:=⟨s.n.hi,DL,by omega,FJ ga4 hbB4⟩
   obtain ⟨q0,hq0⟩:∃ q0,s.n.lo.keys[0]?=some q0:=⟨_,List.getElem?_eq_getElem (by omega)⟩
   obtain ⟨r0,hr0⟩:∃ r0,s.n.hi.keys[0]?=some r0:=⟨_,List.getElem?_eq_getElem (by omega)⟩
   have hdA:hd A=q0:=by rw [← TZ hbA]; show s.n.lo.keys.head?.getD 0=q0; rw [List.head?_eq_getElem?,hq0]; rfl
   have hdB:hd B=r0:=by rw [← TZ hbB]; show s.n.hi.keys.head?.getD 0=r0; rw [List.head?_eq_getElem?,hr0]; rfl
   have neA:A≠[]:=(M7 hbA).2 fun e=>by have:s.n.lo.keys=[]:=e; rw [this] at kA; simp at kA
   have neB:B≠[]:=(M7 hbB).2 fun e=>by have:s.n.hi.keys=[]:=e; rw [this] at kB; simp at kB
   rw [hq0,hr0]
   simp only [Nat.lt_irrefl,if_false]
   have hlt:q0<r0:=by
    obtain ⟨p,hp,e1⟩:=W0 neA
    obtain ⟨q,hq,e2⟩:=W0 neB
    have:=hgi.lt hp hq
    omega
   have hmt:Nd.May ⟨false,[q0,r0],[s.at',a]⟩:=⟨by simp,by simp [hlt],by simp [ho.me.2.2.2,a0']⟩
   rw [if_pos hmt]
   rcases i5.alloc with e6 | ⟨top,T6,e6,i6,t0,t1,tw,w6,g6⟩
   ·rw [e6]; exact .inl ⟨_,rfl⟩
   rw [e6]
   right
   have gt:=(i5.now0 t0).2.2
   have htX:top∉X:=fun hx=>by have:=List.count_pos_iff.2 hx; have h0:=(i5.now0 t0).1; simp only [List.count_cons] at h0; omega
   have tz:top≠0:=fun e=>by
    have:=i6.now1 t1 (by simp)
    have h0:=List.count_pos_iff.2 ho.z
    rw [e] at this
    simp only [List.count_cons] at this
    simp at this
    omega
   refine ⟨⟨top,⟨false,[q0,r0],[s.at',a]⟩,0⟩,_,_,gset (gset (gset G s.at' (some s.n.lo)) a (some s.n.hi)) top (some ⟨false,[q0,r0],[s.at',a]⟩),rfl,?_,⟨h+1,_,DL,QE.2 ⟨rfl,?_⟩,by simp⟩,?_,?_⟩
   ·refine ES.close (n:=⟨false,[q0,r0],[s.at',a]⟩) ((i6.put gt).perm fun x=>?_) gt (by simp) t1 (by simp [TS.put]) ⟨by simp,by simp⟩ tz ⟨fun _ v hv=>?_,fun hl=>by simp at hl⟩ (by simp [ho.z])
    ·simp only [List.count_append,List.count_cons,List.count_nil]; omega
    ·simp only [List.mem_cons,List.not_mem_nil,or_false] at hv
     rcases hv with rfl | rfl
     ·exact ⟨_,hkA.choose_spec.1⟩
     ·exact ⟨_,hkB.choose_spec.1⟩
   ·rw [hAB]
    have:=DQ.cons (JA.set (o:=some ⟨false,[q0,r0],[s.at',a]⟩) gt hkA) neA hdA (.cons (JA.set (o:=some ⟨false,[q0,r0],[s.at',a]⟩) gt hkB) neB hdB .nil)
    simpa using this
   ·exact (EU.set ho.me.2.2.1 ho.nX).trans ((EU.set ga4 haX).trans (EU.set gt htX))
   ·simp only [TS.put]; rw [w6]; simp only [TS.put]; rw [w2]; simp only [TS.put]
 | succ k ih =>
   intro P Rs h s T G Lf L1 L2 W hk ho hsv hb h9 h4 h2 hne hg hl1 hl2
   obtain ⟨P0,u,rfl⟩:∃ P0 u,P=P0++[u]:=by
    rcases List.eq_nil_or_concat P with rfl | ⟨P0,u,rfl⟩
    ·simp at hk
    ·exact ⟨P0,u,List.concat_eq_append⟩
   have hk0:P0.length=k:=by simpa using hk
   obtain ⟨M1,M2,A,B,W',ks1,kk,ks2,vs1,vs2,z0,z1,z2,z3,z4,z5,z6,z7,z8,z9,rfl,rfl,rfl⟩:=ho.zip.last
   have hLL:M1++((A++(Lf++B))++M2)=(M1++A)++(Lf++(B++M2)):=by simp
   have hgT:ET ((M1++A)++(ins key val Lf++(B++M2))):=by
    rw [← jT hl2 (.inr trivial),← pF hl1]; exact UK hg hv
   have hgi:ET (ins key val Lf):=hgT.right.left
   have hinsL:ins key val (A++(Lf++B))=A++(ins key val Lf++B):=by
    rw [pF fun p hp=>hl1 p (by simp [hp]),jT (fun p hp=>hl2 p (by simp [hp])) (.inr trivial)]
   have hhd:hd (ins key val Lf)=kk:=by rw [z6,hsp,AB1 hne]
   have hu:=ho.ok u (by simp)
   have hus:u.at'≠s.at':=ho.ne u (by simp)
   have huc:=ho.inv.now1 hu.2.2.1 (by simp)
   have huP:∀ t∈P0,t.at'≠u.at':=fun t ht e=>by
    have h1:=List.count_pos_iff.2 (List.mem_map_of_mem (f:=(·.at')) ht)
    rw [e] at h1
    simp only [List.map_append,List.map_cons,List.map_nil,List.count_append,List.count_cons,List.count_nil] at huc
    simp at huc
    omega
   have hu0:u.at'≠0:=fun e=>by
    have h0:=List.count_pos_iff.2 ho.z
    rw [e] at huc
    simp only [List.map_append,List.map_cons,List.map_nil,List.count_append,List.count_cons,List.count_nil] at huc
    simp [e] at huc
    omega
   have hsP:∀ t∈P0,t.at'≠s.at':=fun t ht=>ho.ne t (by simp [ht])
   have hokP:GR T G P0:=fun t ht=>ho.ok t (by simp [ht])
   have huv:u.n.vals=vs1++s.at'::vs2:=by rw [z1]
   have huk:u.n.keys=ks1++kk::ks2:=by rw [z1]
   have hul:u.n.leaf=false:=by rw [z1]
   have hlenP:(P0++[u]).length=P0.length+1:=by simp
   have hl1':∀ p∈M1,p.1<key:=fun p hp=>hl1 p (by simp [hp])
   have hl2':∀ p∈M2,key<p.1:=fun p hp=>hl2 p (by simp [hp])
   rw [eJ]
   unfold FX
   rw [tQ]
   simp only
   by_cases g8:s.n.keys.length≤8
   ·rw [if_pos g8]
    simp only [R.bind]
    have hf:s.n.fits:=⟨h9.1,g8⟩
    have hG0:=ho.me.2.2.1
    have hop:lZ N T (gset G s.at' (some s.n)) sp P0 (h+1) u (A++(Lf++B)) M1 M2 W' X:=by
     refine ⟨(ho.close hb (hsv hf) hf).perm fun x=>?_,ho.z,z0.mono fun v _ h l hk=>JA.set hG0 hk,hokP.gset hsP,⟨hu.2.2.1,hu.2.2.2.1,by rw [BO hus]; exact hu.2.2.2.2,hu0⟩,.inner hul⟩
     rw [huv]
     simp only [List.map_append,List.map_cons,List.map_nil,List.count_append,List.count_cons,List.count_nil]; omega
    have hbu:MQ (gset G s.at' (some s.n)) (h+1) u.n (ins key val (A++(Lf++B))):=by
     refine QE.2 ⟨hul,?_⟩
     rw [hinsL,huv,huk]
     exact (z4.mono fun v _ l hk=>JA.set hG0 hk).append (.cons ⟨s.n,DL,h4 (by simp),FJ hG0 hb⟩ ACB hhd (z5.mono fun v _ l hk=>JA.set hG0 hk))
    have:=ih P0 (s::Rs) (h+1) u T _ _ M1 M2 W' hk0 hop (fun _=>hu.2.1) hbu ⟨hu.1.1.1,by omega⟩ z9 (fun e _=>z8 e) (by simp [hne]) (by rw [hLL]; exact hg) hl1' hl2'
    rw [hlenP,List.append_assoc]
    rcases this with h1 | ⟨p,Q,T',G',e,i,r,kp,w⟩
    ·exact .inl h1
    ·exact .inr ⟨p,Q,T',G',e,i,by rw [← hLL]; exact r,(EU.set hG0 ho.nX).trans kp,w⟩
   rw [if_neg g8]
   have hlen:s.n.keys.length=9:=by omega
   have hvl:=ZL hb
   obtain ⟨A1,B1,hAB,hbA,hbB⟩:=j1 (DV s.n) hb
   have hh:DV s.n=5:=by unfold DV; rw [hlen]
   rw [hAB] at hgi hgT hhd
   have kA:s.n.lo.keys.length=5:=by simp [Nd.lo,hh,hlen]
   have kB:s.n.hi.keys.length=4:=by simp [Nd.hi,hh,hlen]
   have mA:s.n.lo.May:=HG ho.inv hbA hgi.left (by show 1≤s.n.lo.keys.length; omega) (by show s.n.lo.keys.length≤8; omega)
   have mB:s.n.hi.May:=HG ho.inv hbB hgi.right (by show 1≤s.n.hi.keys.length; omega) (by show s.n.hi.keys.length≤8; omega)
   have hsN:s.at'<N:=ho.inv.tok _ (by simp)
   have huN:u.at'<N:=ho.inv.tok _ (by simp)
   have hw1:DD (P0++[u]++s::Rs) (P0++[u]).length s.n.lo T=.ok (P0++[u]++{ s with n:=s.n.lo }::Rs) (T.put s.at' s.n.lo):=by
    unfold DD
    rw [tQ]
    simp only
    rw [R4 mA (by rw [ho.inv.n1]; exact hsN)]
    simp only [R.bind,xU]
   rw [hw1]
   simp only [R.bind]
   have i1:=ho.inv.put (n:=s.n.lo) ho.me.2.2.1
   unfold TS.make
   rw [if_pos mB]
   rcases i1.alloc with e2 | ⟨a,T2,e2,i2,a0,a1,aw,w2,g2⟩
   ·rw [e2]; exact .inl ⟨_,rfl⟩
   rw [e2]
   simp only [R.bind]
   have hsne:s.at'≠a:=fun e=>by
    have:=ho.me.1
    rw [e] at this; simp only [TS.put] at a0; rw [a0] at this; cases this
   have hune:u.at'≠a:=fun e=>by
    have:=hu.2.2.1
    rw [e] at this; simp only [TS.put] at a0; rw [a0] at this; cases this
   have ga:G a=none:=(i1.now0 a0).2.2
   have haX:a∉X:=fun hx=>by have:=List.count_pos_iff.2 hx; have h0:=(i1.now0 a0).1; rw [List.count_append] at h0; omega
   have i3:=i2.put (n:=s.n.hi) ga
   have hsv3:(T2.put a s.n.hi).g s.at'=.nd s.n.lo:=by simp only [TS.put,if_neg hsne]; rw [g2]; simp [TS.put]
   have hcv:∀ x,s.n.vals.count x=s.n.lo.vals.count x+s.n.hi.vals.count x:=fun x=>by
    conv=>lhs; rw [← List.take_append_drop (DV s.n) s.n.vals]
    rw [List.count_append]; rfl
   have hns:T2.now[s.at']?=some 1:=by
    rw [(VJ e2).1]
    simp only
    rw [List.getElem?_set_ne (Ne.symm hsne)]
    exact ho.me.1
   have i4:ES N (T2.put a s.n.hi) (gset G s.at' (some s.n.lo)) (s.n.hi.vals++(a::(X++(((P0++[u]).map (·.at')++[s.at'])++(W'++(vs1++vs2)))))):=by
    refine ES.close (i3.perm fun x=>?_) ho.me.2.2.1 (by simp) hns hsv3 ⟨by omega,by omega⟩ ho.me.2.2.2 (PS hbA ho.lv.lo) (by simp [ho.z])
    simp only [List.count_append,List.count_cons,List.map_nil,List.count_nil,hcv x]; omega
   have hbB4:=FJ (o:=some s.n.lo) ho.me.2.2.1 hbB
   have ga4:gset G s.at' (some s.n.lo) a=none:=by rw [BO (Ne.symm hsne)]; exact ga
   have a0':a≠0:=fun e=>by
    have:=i2.now1 a1 (by simp)
    have h0:=List.count_pos_iff.2 ho.z
    rw [e] at this
    simp only [List.count_cons,List.count_append] at this
    simp at this
    omega
   have i5:ES N (T2.put a s.n.hi) (gset (gset G s.at' (some s.n.lo)) a (some s.n.hi)) (a::(X++(((P0++[u]).map (·.at')++[s.at'])++(W'++(vs1++vs2))))):=by
    exact ES.close i4 ga4 (by simp) a1 (by simp [TS.put]) ⟨by omega,by omega⟩ a0' (PS hbB4 (ho.lv.hi.set fun hv=>ho.nv (List.mem_of_mem_drop hv))) (by simp [ho.z])
   have hkA:JA (gset (gset G s.at' (some s.n.lo)) a (some s.n.hi)) h s.at' A1:=⟨s.n.lo,by rw [BO hsne,DL],by omega,FJ ga4 (FJ ho.me.2.2.1 hbA)⟩
   have hkB:JA (gset (gset G s.at' (some s.n.lo)) a (some s.n.hi)) h a B1:=⟨s.n.hi,DL,by omega,FJ ga4 hbB4⟩
   have hkm:∀ v h l,JA G h v l→JA (gset (gset G s.at' (some s.n.lo)) a (some s.n.hi)) h v l:=fun v h l hk=>JA.set ga4 (JA.set ho.me.2.2.1 hk)
   obtain ⟨q0,hq0⟩:∃ q0,s.n.lo.keys[0]?=some q0:=⟨_,List.getElem?_eq_getElem (by omega)⟩
   obtain ⟨r0,hr0⟩:∃ r0,s.n.hi.keys[0]?=some r0:=⟨_,List.getElem?_eq_getElem (by omega)⟩
   have hdB:hd B1=r0:=by rw [← TZ hbB]; show s.n.hi.keys.head?.getD 0=r0; rw [List.head?_eq_getElem?,hr0]; rfl
   have neA:A1≠[]:=(M7 hbA).2 fun e=>by have:s.n.lo.keys=[]:=e; rw [this] at kA; simp at kA
   have neB:B1≠[]:=(M7 hbB).2 fun e=>by have:s.n.hi.keys=[]:=e; rw [this] at kB; simp at kB
   rw [i7 neA] at hhd
   rw [hq0,hr0]
   simp only
   rw [if_pos (by simp:0<(P0++[u]).length)]
   have hgu:(P0++[u]++({ s with n:=s.n.lo }:Wp)::Rs)[(P0++[u]).length - 1]?=some u:=by simp
   rw [hgu]
   simp only
   rw [if_pos (by rw [z2,huk]; simp; have:=z7; rw [huk] at this; simp at this; omega)]
   -- the node above
   have hin:u.n.insN (u.nx+1) r0 a=⟨false,ks1++kk::r0::ks2,vs1++s.at'::a::vs2⟩:=by
    unfold Nd.insN Q3
    rw [huv,huk,hul,z2]
    have e1:(ks1++kk::ks2).take (ks1.length+1)=ks1++[kk]:=by rw [List.take_append,List.take_of_length_le (by omega)]; simp
    have e2:(ks1++kk::ks2).drop (ks1.length+1)=ks2:=by rw [List.drop_append]; simp
    have e3:(vs1++s.at'::vs2).take (ks1.length+1)=vs1++[s.at']:=by rw [← z3,List.take_append,List.take_of_length_le (by omega)]; simp
    have e4:(vs1++s.at'::vs2).drop (ks1.length+1)=vs2:=by rw [← z3,List.drop_append]; simp
    rw [e1,e2,e3,e4]; simp
   generalize hu':({ u with n:=u.n.insN (u.nx+1) r0 a }:Wp)=u'
   have hu'a:u'.at'=u.at':=by rw [← hu']
   have hu'n:u'.n=⟨false,ks1++kk::r0::ks2,vs1++s.at'::a::vs2⟩:=by rw [← hu',← hin]
   have hbu:MQ (gset (gset G s.at' (some s.n.lo)) a (some s.n.hi)) (h+1) u'.n (ins key val (A++(Lf++B))):=by
    refine QE.2 ⟨by rw [hu'n],?_⟩
    rw [hinsL,hu'n,hAB,List.append_assoc]
    exact (z4.mono fun v _ l hk=>hkm v h l hk).append (.cons hkA neA hhd (.cons hkB neB hdB (z5.mono fun v _ l hk=>hkm v h l hk)))
   have hukl:u'.n.keys.length=u.n.keys.length+1:=by rw [hu'n,huk]; simp; omega
   have hgu':ET (A++(ins key val Lf++B)):=by
    have e:(M1++A)++((A1++B1)++(B++M2))=M1++((A++(ins key val Lf++B))++M2):=by rw [hAB]; simp
    rw [e] at hgT
    exact hgT.right.left
   obtain ⟨T4,hT4,hg4,hT4n,hT4w,hT4p⟩:∃ T4,gP (T2.put a s.n.hi) u.at' (u.n.insN (u.nx+1) r0 a)=.ok () T4∧(u'.n.fits→T4.g u'.at'=.nd u'.n)∧T4.now=T2.now∧T4.was=T2.was∧(T4=T2.put a s.n.hi∨T4=(T2.put a s.n.hi).put u.at' u'.n):=by
    have e:u.n.insN (u.nx+1) r0 a=u'.n:=by rw [← hu']
    rw [e]
    by_cases gf:u'.n.keys.length≤8
    ·have hm:u'.n.May:=HG i5 hbu (by rw [hinsL]; exact hgu') (by omega) gf
     exact ⟨_,R4 hm (by rw [i5.n1]; exact huN),fun _=>by rw [hu'a]; simp [TS.put],rfl,rfl,.inr rfl⟩
    ·refine ⟨T2.put a s.n.hi,?_,fun hf=>absurd hf.2 gf,rfl,rfl,.inl rfl⟩
     unfold gP
     rw [if_neg fun hf=>gf hf.2]
   have hw3:DD (P0++[u]++({ s with n:=s.n.lo }:Wp)::Rs) ((P0++[u]).length - 1) (u.n.insN (u.nx+1) r0 a) (T2.put a s.n.hi)=.ok (P0++u'::{ s with n:=s.n.lo }::Rs) T4:=by
    unfold DD
    rw [hgu]
    simp only
    rw [hT4]
    simp only [R.bind,hu']
    congr 1
    have e:(P0++[u]).length - 1=P0.length:=by simp
    rw [e,List.append_assoc]
    simp
   rw [hw3]
   simp only
   have gu5:gset (gset G s.at' (some s.n.lo)) a (some s.n.hi) u.at'=none:=by rw [BO hune,BO hus]; exact hu.2.2.2.2
   have hok1:GR (T.put s.at' s.n.lo) G P0:=hokP.put hsP
   obtain ⟨hok2,haP⟩:=hok1.alloc e2
   have hok3:GR (T2.put a s.n.hi) (gset (gset G s.at' (some s.n.lo)) a (some s.n.hi)) P0:=((hok2.put haP).gset hsP).gset haP
   have hok4:GR T4 (gset (gset G s.at' (some s.n.lo)) a (some s.n.hi)) P0:=by
    rcases hT4p with e | e
    ·rw [e]; exact hok3
    ·rw [e]; exact hok3.put huP
   have i6:ES N T4 (gset (gset G s.at' (some s.n.lo)) a (some s.n.hi)) (a::(X++(((P0++[u]).map (·.at')++[s.at'])++(W'++(vs1++vs2))))):=by
    rcases hT4p with e | e
    ·rw [e]; exact i5
    ·rw [e]; exact i5.put gu5
   have hnow2:T2.now[u.at']?=some 1:=by
    rw [(VJ e2).1]
    simp only
    rw [List.getElem?_set_ne (Ne.symm hune)]
    exact hu.2.2.1
   have hop:lZ N T4 (gset (gset G s.at' (some s.n.lo)) a (some s.n.hi)) sp P0 (h+1) u' (A++(Lf++B)) M1 M2 W' X:=by
    refine ⟨i6.perm fun x=>?_,ho.z,by rw [hu'a]; exact z0.mono fun v _ h l hk=>hkm v h l hk,hok4,⟨by rw [hu'a,hT4n]; exact hnow2,by rw [hu'a,hT4w,w2]; exact hu.2.2.2.1,by rw [hu'a]; exact gu5,by rw [hu'a]; exact hu0⟩,.inner (by rw [hu'n])⟩
    rw [hu'n,hu'a]
    simp only [List.map_append,List.map_cons,List.map_nil,List.count_append,List.count_cons,List.count_nil]; omega
   have:=ih P0 ({ s with n:=s.n.lo }::Rs) (h+1) u' T4 _ _ M1 M2 W' hk0 hop hg4 hbu ⟨by omega,by omega⟩ (fun e=>by have:=z9 e; omega) (fun e _=>by have:=z8 e; omega) (by simp [hne]) (by rw [hLL]; exact hg) hl1' hl2'
   rw [hlenP]
   rcases this with h1 | ⟨p,Q,T',G',e,i,r,kp,w⟩
   ·exact .inl h1
   ·exact .inr ⟨p,Q,T',G',e,i,by rw [← hLL]; exact r,((EU.set ho.me.2.2.1 ho.nX).trans (EU.set ga4 haX)).trans kp,by rw [w,hT4w,w2]; simp [TS.put]⟩
end Go.Ax.C
set_option maxRecDepth 100000
namespace Go.Ax.C
open Go.Proofs Go.RowKit
variable {N:Nat} {T T':TS} {G:Gh} {L:List KV} {X K:List Nat} {n:Nd}
theorem f9:∀ (N:Nat) (l:List Nat),l.Nodup→(∀ x∈l,x<N)→l.length≤N
 | 0,[],_,_=>Nat.le_refl _
 | 0,x::l,_,h=>absurd (h x (by simp)) (by omega)
 | N+1,l,hn,h=>by
   by_cases g:N∈l
   ·have:=f9 N (l.erase N) (hn.erase N) fun x hx=>by
     have h1:=(hn.mem_erase_iff).1 hx
     have:=h x h1.2
     omega
    rw [List.length_erase_of_mem g] at this
    omega
   ·have:=f9 N l hn fun x hx=>by
     have h1:=h x hx
     have:x≠N:=fun e=>by subst e; exact g hx
     omega
    omega
def Lvs (G:Gh) (l:List KV) (bs:List Nat):Prop:=bs.Nodup∧∀ b∈bs,∃ m,G b=some m∧∃ p∈l,m.keys.head?.getD 0=p.1
theorem Lvs.app {A B:List KV} {bs cs:List Nat} (h1:Lvs G A bs) (h2:Lvs G B cs) (hg:ET (A++B)):Lvs G (A++B) (bs++cs):=by
 refine ⟨List.nodup_append.2 ⟨h1.1,h2.1,fun b hb c hc e=>?_⟩,fun b hb=>?_⟩
 ·subst e
  obtain ⟨m,hm,p,hp,e1⟩:=h1.2 b hb
  obtain ⟨m',hm',q,hq,e2⟩:=h2.2 b hc
  rw [hm] at hm'; cases hm'
  have:=hg.lt hp hq
  omega
 ·rcases List.mem_append.1 hb with hb | hb
  ·obtain ⟨m,hm,p,hp,e⟩:=h1.2 b hb
   exact ⟨m,hm,p,by simp [hp],e⟩
  ·obtain ⟨m,hm,p,hp,e⟩:=h2.2 b hb
   exact ⟨m,hm,p,by simp [hp],e⟩
theorem DQ.lvs {c:Nat} {t:Nat→List KV→Prop} {ks vs:List Nat} (h:DQ t ks vs L) (ht:∀ v l,t v l→ET l→∃ bs,Lvs G l bs∧c≤bs.length) (hg:ET L):∃ bs,Lvs G L bs∧ks.length*c≤bs.length:=by
 induction h with
 | nil=>exact ⟨[],⟨.nil,by simp⟩,by simp⟩
 | cons h1 h2 h3 _ ih =>
   obtain ⟨bs,hb,hc⟩:=ht _ _ h1 hg.left
   obtain ⟨cs,hb2,hc2⟩:=ih hg.right
   exact ⟨bs++cs,hb.app hb2 hg,by rw [List.length_append,List.length_cons,Nat.add_mul]; omega⟩
theorem tU:∀ (h v:Nat) (l:List KV),JA G h v l→ET l→∃ bs,Lvs G l bs∧4 ^ h≤bs.length
 | 0,v,l,⟨m,hm,h4,hb⟩,hg=>by
   have hne:l≠[]:=(M7 hb).2 fun e=>by rw [e] at h4; simp at h4
   obtain ⟨p,hp,e⟩:=W0 hne
   exact ⟨[v],⟨by simp,fun b hb'=>by simp only [List.mem_singleton] at hb'; subst hb'; exact ⟨m,hm,p,hp,by rw [TZ hb,e]⟩⟩,by simp⟩
 | h+1,v,l,⟨m,hm,h4,hb⟩,hg=>by
   obtain ⟨bs,h1,h2⟩:=DQ.lvs hb.2 (fun v l hk hg=>tU h v l hk hg) hg
   refine ⟨bs,h1,?_⟩
   have:=Nat.mul_le_mul_right (4 ^ h) h4
   rw [Nat.pow_succ]; omega
theorem aM (hI:ES N T G K) (hN:N≤1024) {h:Nat} (hb:MQ G h n L) (hg:ET L) (h2:n.leaf=false→2≤n.keys.length):h<6:=by
 cases h with
 | zero=>omega
 | succ h =>
   obtain ⟨bs,h1,h3⟩:=DQ.lvs hb.2 (fun v l hk hg=>tU h v l hk hg) hg
   have hle:=f9 N bs h1.1 fun b hb=>by
    obtain ⟨m,hm,_⟩:=h1.2 b hb
    exact (hI.dom b m hm).1
   by_cases g:h<5
   ·omega
   exfalso
   have h5:4 ^ 5≤4 ^ h:=Nat.pow_le_pow_right (by omega) (by omega)
   have:=Nat.mul_le_mul (h2 hb.1) h5
   have e:4 ^ 5=1024:=rfl
   omega
def tk (root:Nat) (X:List Nat):List Nat:=if root=0 then X else root::X
def S0 (G:Gh) (root:Nat) (L:List KV):Prop:=if root=0 then L=[] else Rt G root L
theorem EU.sub {G':Gh} {X Y:List Nat} (h:EU G G' X) (hs:∀ x∈Y,x∈X):EU G G' Y:=fun r hr=>h r (hs r hr)
theorem count_set:∀ {xs:List Nat} {i a:Nat} {b x:Nat},xs[i]?=some a→(xs.set i b).count x+(if a=x then 1 else 0)=xs.count x+(if b=x then 1 else 0)
 | [],i,a,b,x,h=>by simp at h
 | c::xs,0,a,b,x,h=>by
   simp only [List.getElem?_cons_zero,Option.some.injEq] at h
   subst h
   simp only [List.set_cons_zero,List.count_cons,beq_iff_eq]
   omega
 | c::xs,i+1,a,b,x,h=>by
   rw [List.getElem?_cons_succ] at h
   have:=count_set (b:=b) (x:=x) h
   simp only [List.set_cons_succ,List.count_cons,beq_iff_eq]
   omega
theorem uD {xs:List Nat} {i b x:Nat}:(xs.take i++b::xs.drop i).count x=xs.count x+if b=x then 1 else 0:=by
 conv=>rhs; rw [← List.take_append_drop i xs]
 simp only [List.count_append,List.count_cons,beq_iff_eq]
 omega
theorem AAW {root key val:Nat} (hI:ES N T G (tk root (val::X))) (hz:0∈X) (ht:S0 G root L) (hg:ET L) (hv:val≠0) (hGv:G val=none) (hN:N≤1024) :
 (∃ T',Y4 T root key val=.err 8 T')∨∃ to T' G',Y4 T root key val=.ok (to,(NP key L).getD 0,(NP key L).isSome) T'∧to≠0∧ES N T' G' (to::((NP key L).toList++X))∧Rt G' to (ins key val L)∧EU G G' X∧T'.was=T.was∧∀ o,NP key L=some o→G' o=none:=by
 unfold Y4
 rw [if_neg hv]
 by_cases hr:root=0
 ·subst hr
  rw [if_pos rfl]
  unfold S0 at ht
  rw [if_pos rfl] at ht
  subst ht
  unfold tk at hI
  rw [if_pos rfl] at hI
  unfold TS.make
  rw [if_pos (show Nd.May ⟨true,[key],[val]⟩ from ⟨by simp,by simp,by simp [hv]⟩)]
  rcases hI.alloc with e | ⟨a,T1,e,i1,a0,a1,aw,w1,g1⟩
  ·rw [e]; exact .inl ⟨_,rfl⟩
  rw [e]
  right
  have ga:=(hI.now0 a0).2.2
  have hc:=i1.now1 a1 (by simp)
  have az:a≠0:=fun e=>by
   have h0:=List.count_pos_iff.2 hz
   rw [e] at hc
   simp only [List.count_cons] at hc
   simp at hc
   omega
  refine ⟨a,T1.put a ⟨true,[key],[val]⟩,gset G a (some ⟨true,[key],[val]⟩),rfl,az,?_,⟨0,_,DL,⟨rfl,rfl,rfl⟩,by simp⟩,.set ga (fun hx=>by have:=List.count_pos_iff.2 hx; have h0:=(hI.now0 a0).1; simp only [List.count_cons] at h0; omega),w1,fun o ho=>by cases ho⟩
  refine ES.close (n:=⟨true,[key],[val]⟩) ((i1.put ga).perm fun x=>?_) ga (by simp) a1 (by simp [TS.put]) ⟨by simp,by simp⟩ az ⟨fun h=>by simp at h,fun _ v hv=>by simp only [List.mem_singleton] at hv; subst hv; exact hGv⟩ (by simp [hz])
  simp only [NP,Option.toList,List.nil_append,List.count_append,List.count_cons,List.count_nil]; omega
 rw [if_neg hr]
 unfold S0 at ht
 rw [if_neg hr] at ht
 unfold tk at hI
 rw [if_neg hr] at hI
 obtain ⟨h,n,hG,hb,h2⟩:=ht
 have hh:=aM hI hN hb hg h2
 have hf:=(hI.dom root n hG).2.2.2.2
 have hw:Way N T G (if true=true then fun L=>min key (hd L) else hd) [] h root n L [] [] [] (val::X) :=
  ⟨hI.perm fun x=>by simp [List.count_append,List.count_cons],by simp [hz],.top _ _ _,fun s hs=>by simp at hs,hG,hb,hf.1,hf.2,fun e=>absurd rfl e,fun _=>h2⟩
 rcases VL (lower:=true) (key:=key) rfl h 12 [] root n T G L [] [] [] hw (by simpa using hg) (by simp) (by simp) (by omega) with ⟨T',e⟩ | ⟨P',s,T1,G1,W,Lf,L1,L2,e,ho,hsv,hb1,hsz,hk,hL,hl1,hl2,hws⟩
 ·rw [e]; exact .inl ⟨T',rfl⟩
 rw [e]
 simp only [R.bind]
 have hlast:(P'++[s])[(P'++[s]).length - 1]?=some s:=by simp
 rw [hlast]
 simp only
 have hL':L=L1++(Lf++L2):=by simpa using hL.symm
 have hlkp:NP key L=NP key Lf:=by rw [hL',dV hl1,VA hl2]
 have hgL:=hg
 rw [hL'] at hgL
 have hgf:ET Lf:=hgL.right.left
 obtain ⟨hb0,hbl,hbz⟩:=hb1
 have hks:s.n.keys.Pairwise (·<·):=by have:=hgf.1; rw [hbz,X7 hbl] at this; exact this
 have hne:Lf≠[]:=(M7 (G:=G1) (h:=0) ⟨hb0,hbl,hbz⟩).2 fun e=>by have:=hsz.1; rw [e] at this; simp at this
 have hfind:=U3 (key:=key) hbl hks
 rw [← hbz] at hfind
 have hsN:s.at'<N:=ho.inv.tok _ (by simp)
 have hlv0:=ho.lv hb0
 have hGv1:G1 val=none:=(hk val (by simp)).1 hGv
 have hlenP:(P'++[s]).length=P'.length+1:=by simp
 by_cases gk:s.n.keys[A7 s.n.keys key]?=some key
 ·rw [if_pos gk]
  have hil:=(List.getElem?_eq_some_iff.1 gk).1
  obtain ⟨old,hold⟩:∃ old,s.n.vals[A7 s.n.keys key]?=some old:=⟨_,List.getElem?_eq_getElem (by omega)⟩
  rw [if_pos gk,hold] at hfind
  rw [hold]
  simp only
  have hbn:MQ G1 0 (s.n.setN (A7 s.n.keys key) key val) (ins key val Lf):=⟨hb0,by simp [Nd.setN,setF,hbl],by rw [hbz]; exact (mR hbl gk).symm⟩
  have hkl:(s.n.setN (A7 s.n.keys key) key val).keys.length=s.n.keys.length:=by simp [Nd.setN,setF]
  have hmay:(s.n.setN (A7 s.n.keys key) key val).May:=HG ho.inv hbn (UK hgf hv) (by rw [hkl]; exact hsz.1) (by rw [hkl]; exact hsz.2.1)
  rw [aP hil hmay (by rw [ho.inv.n1]; exact hsN)]
  simp only
  have hop:lZ N (T1.put s.at' (s.n.setN (A7 s.n.keys key) key val)) G1 (fun L=>min key (hd L)) P' 0 { s with n:=s.n.setN (A7 s.n.keys key) key val } Lf L1 L2 W (old::X):=by
   refine ⟨(ho.inv.put ho.me.2.2.1).perm fun x=>?_,by simp [hz],ho.zip,ho.ok.put ho.ne,ho.me,fun _ v hv=>by
    rcases List.mem_or_eq_of_mem_set hv with hv | hv
    ·exact ho.lv hb0 v hv
    ·simp only [Bool.false_eq_true,if_false] at hv; rw [hv]; exact hGv1⟩
   have:=count_set (b:=val) (x:=x) hold
   simp only [Nd.setN,setF,Bool.false_eq_true,if_false,List.count_append,List.count_cons,beq_iff_eq]
   omega
  have V0:=zX hv rfl P'.length P' [] 0 _ _ _ Lf L1 L2 W rfl hop (fun _=>by simp [TS.put]) hbn ⟨by have:=hsz.1; simp only [hkl]; exact this,by have:=hsz.2.1; simp only [hkl]; omega⟩ (fun e=>by have:=hsz.2.2.1 e; simp only [hkl]; exact this) (fun _ hl=>by have:s.n.leaf=false:=hl; rw [hb0] at this; cases this) hne hgL hl1 hl2
  have hlenP2:(P'++[({ s with n:=s.n.setN (A7 s.n.keys key) key val }:Wp)]).length=P'.length+1:=by simp
  rw [hlenP2]
  rcases V0 with ⟨T',e⟩ | ⟨p,Q,T',G',e,i,r,kp,w⟩
  ·rw [e]; exact .inl ⟨T',rfl⟩
  ·rw [e]
   right
   refine ⟨p.at',T',G',?_,?_,?_,by rw [hL']; exact r,hk.sub (fun x hx=>by simp [hx]) |>.trans (kp.sub fun x hx=>by simp [hx]),by rw [w,← hws]; rfl,fun o ho=>by
    rw [hlkp,hfind] at ho; cases ho
    exact (kp old (by simp)).1 (hlv0 old (List.mem_of_getElem? hold))⟩
   ·rw [hlkp,hfind]; rfl
   ·obtain ⟨h',n',hG',_⟩:=r
    exact (i.dom _ _ hG').2.1
   ·rw [hlkp,hfind]; exact i
 ·rw [if_neg gk]
  rw [if_neg gk] at hfind
  rw [if_pos (by have:=hsz.2.1; omega)]
  have hbn:MQ G1 0 (s.n.insN (A7 s.n.keys key) key val) (ins key val Lf):=⟨hb0,by simp [Nd.insN,Q3,hbl],by rw [hbz]; exact (mX hbl gk).symm⟩
  have hkl:(s.n.insN (A7 s.n.keys key) key val).keys.length=s.n.keys.length+1:=by
   simp only [Nd.insN,Q3,if_true,List.length_append,List.length_cons,List.length_take,List.length_drop]
   have:A7 s.n.keys key≤s.n.keys.length:=(List.takeWhile_prefix _).length_le
   omega
  obtain ⟨T4,hT4,hg4,hT4p⟩:∃ T4,gP T1 s.at' (s.n.insN (A7 s.n.keys key) key val)=.ok () T4∧((s.n.insN (A7 s.n.keys key) key val).fits→T4.g s.at'=.nd (s.n.insN (A7 s.n.keys key) key val))∧(T4=T1∨T4=T1.put s.at' (s.n.insN (A7 s.n.keys key) key val)):=by
   by_cases gf:(s.n.insN (A7 s.n.keys key) key val).keys.length≤8
   ·have hm:=HG ho.inv hbn (UK hgf hv) (by rw [hkl]; omega) gf
    exact ⟨_,R4 hm (by rw [ho.inv.n1]; exact hsN),fun _=>by simp [TS.put],.inr rfl⟩
   ·refine ⟨T1,?_,fun hf=>absurd hf.2 gf,.inl rfl⟩
    unfold gP
    rw [if_neg fun hf=>gf hf.2]
  have hws3:DD (P'++[s]) ((P'++[s]).length - 1) (s.n.insN (A7 s.n.keys key) key val) T1=.ok (P'++[{ s with n:=s.n.insN (A7 s.n.keys key) key val }]) T4:=by
   unfold DD
   rw [hlast]
   simp only
   rw [hT4]
   simp [R.bind,List.set_append]
  rw [hws3]
  simp only
  have hop:lZ N T4 G1 (fun L=>min key (hd L)) P' 0 { s with n:=s.n.insN (A7 s.n.keys key) key val } Lf L1 L2 W X:=by
   have hc:∀ x,(s.n.insN (A7 s.n.keys key) key val).vals.count x=s.n.vals.count x+if val=x then 1 else 0:=fun x=>by
    simp only [Nd.insN,Q3,Bool.false_eq_true,if_false]
    exact uD
   have hperm:∀ x,(X++((P'.map (·.at')++[s.at'])++(W++(s.n.insN (A7 s.n.keys key) key val).vals))).count x=(val::X++((P'.map (·.at')++[s.at'])++(W++s.n.vals))).count x:=fun x=>by
    simp only [List.count_append,List.count_cons,beq_iff_eq,hc x,List.count_nil,List.cons_append]
    omega
   have hlv:cF G1 (s.n.insN (A7 s.n.keys key) key val):=fun _ v hv=>by
    simp only [Nd.insN,Q3,Bool.false_eq_true,if_false,List.mem_append,List.mem_cons] at hv
    rcases hv with hv | hv | hv
    ·exact ho.lv hb0 v (List.mem_of_mem_take hv)
    ·rw [hv]; exact hGv1
    ·exact ho.lv hb0 v (List.mem_of_mem_drop hv)
   rcases hT4p with e | e
   ·rw [e]; exact ⟨ho.inv.perm hperm,hz,ho.zip,ho.ok,ho.me,hlv⟩
   ·rw [e]; exact ⟨(ho.inv.put ho.me.2.2.1).perm hperm,hz,ho.zip,ho.ok.put ho.ne,ho.me,hlv⟩
  have hw4:T4.was=T1.was:=by rcases hT4p with e | e<;>rw [e]<;>rfl
  have V0:=zX hv rfl P'.length P' [] 0 _ _ _ Lf L1 L2 W rfl hop hg4 hbn ⟨by simp only [hkl]; omega,by have:=hsz.2.1; simp only [hkl]; omega⟩ (fun e=>by have:=hsz.2.2.1 e; simp only [hkl]; omega) (fun _ hl=>by have:s.n.leaf=false:=hl; rw [hb0] at this; cases this) hne hgL hl1 hl2
  have hlenP2:(P'++[({ s with n:=s.n.insN (A7 s.n.keys key) key val }:Wp)]).length=P'.length+1:=by simp
  rw [hlenP2]
  rcases V0 with ⟨T',e⟩ | ⟨p,Q,T',G',e,i,r,kp,w⟩
  ·rw [e]; exact .inl ⟨T',rfl⟩
  ·rw [e]
   right
   refine ⟨p.at',T',G',?_,?_,?_,by rw [hL']; exact r,(hk.sub fun x hx=>by simp [hx]).trans kp,by rw [w,hw4,hws],fun o ho=>by rw [hlkp,hfind] at ho; cases ho⟩
   ·rw [hlkp,hfind]; rfl
   ·obtain ⟨h',n',hG',_⟩:=r
    exact (i.dom _ _ hG').2.1
   ·rw [hlkp,hfind]; exact i
end Go.Ax.C
set_option maxRecDepth 100000
namespace Go.Ax.C
open Go.Proofs Go.RowKit
variable {N:Nat} {T T':TS} {G:Gh} {L:List KV} {X K:List Nat} {n:Nd}
theorem oS {t:Nat→List KV→Prop} {ks vs:List Nat} {key v:Nat} (h:DQ t ks vs L) (hg:ET L) (hv:vs[CC ks key]?=some v):∃ k A l B,L=A++(l++B)∧ks[CC ks key]?=some k∧hd l=k∧l≠[]∧t v l∧(∀ p∈A,p.1<key)∧(∀ p∈B,key<p.1):=by
 have hne:ks≠[]:=fun e=>by subst e; cases h; simp at hv
 obtain ⟨c1,c2,c3⟩:=aT (key:=key) (h.sorted hg) hne
 generalize hi:CC ks key=i at c1 c2 c3 hv
 obtain ⟨k,A,l,B,hL,hki,hdl,hlne,hkid,hA,hB⟩:=h.at' hv
 subst hL
 refine ⟨k,A,l,B,rfl,hki,hdl,hlne,hkid,fun p hp=>?_,fun p hp=>?_⟩
 ·have hi0:i≠0:=fun e=>by subst e; cases hA with | nil=>simp at hp
  have hle:k≤key:=(c3 k hki).resolve_right hi0
  obtain ⟨q,hq,e⟩:=W0 hlne
  have:=hg.lt hp (q:=q) (by simp [hq])
  omega
 ·have hbne:B≠[]:=fun e=>by subst e; simp at hp
  have hdrop:=hB.ne.1 hbne
  have hil:i+1<ks.length:=by
   by_cases g:i+1<ks.length
   ·exact g
   ·exact absurd (List.drop_eq_nil_of_le (by omega)) hdrop
  have e1:=hB.hd
  rw [List.drop_eq_getElem_cons hil] at e1
  simp only [List.head?_cons,Option.getD_some] at e1
  have:=c2 (i+1) _ (List.getElem?_eq_getElem hil) (by omega)
  have h5:=hg.right.right.hd_le hp
  omega
theorem jL {key:Nat} (hI:ES N T G K):∀ (h f a:Nat) (n:Nd) (L:List KV),G a=some n→MQ G h n L→ET L→h<f→CB key f a T=.ok ((NP key L).getD 0,(NP key L).isSome) T
 | _,0,_,_,_,_,_,_,hf=>by omega
 | 0,f+1,a,n,L,hG,hb,hg,hf=>by
   obtain ⟨haN,ha0,_,hag,haf⟩:=hI.dom a n hG
   unfold CB
   rw [if_neg ha0]
   have:T.ld a=some n:=by unfold TS.ld; rw [if_pos (by rw [hI.n1]; exact haN),WW hag haf]
   rw [this]
   obtain ⟨h0,hl,rfl⟩:=hb
   simp only [h0,if_true]
   have hks:n.keys.Pairwise (·<·):=by have:=hg.1; rw [X7 hl] at this; exact this
   rw [U3 hl hks]
   by_cases gk:n.keys[A7 n.keys key]?=some key
   ·rw [if_pos gk,if_pos gk]
    have hil:=(List.getElem?_eq_some_iff.1 gk).1
    rw [List.getElem?_eq_getElem (show A7 n.keys key<n.vals.length by omega)]
    rfl
   ·rw [if_neg gk,if_neg gk]; rfl
 | h+1,f+1,a,n,L,hG,hb,hg,hf=>by
   obtain ⟨haN,ha0,_,hag,haf⟩:=hI.dom a n hG
   unfold CB
   rw [if_neg ha0]
   have:T.ld a=some n:=by unfold TS.ld; rw [if_pos (by rw [hI.n1]; exact haN),WW hag haf]
   rw [this]
   simp only [hb.1,Bool.false_eq_true,if_false]
   have hne:n.keys≠[]:=fun e=>by have:=haf.1; rw [e] at this; simp at this
   have c1:=(aT (key:=key) (hb.2.sorted hg) hne).1
   have hvl:=hb.2.len
   obtain ⟨v,hv⟩:∃ v,n.vals[CC n.keys key]?=some v:=⟨_,List.getElem?_eq_getElem (by omega)⟩
   obtain ⟨k,A,l,B,hL,hki,hdl,hlne,⟨m,hm,h4,hbm⟩,hA,hB⟩:=oS hb.2 hg hv
   subst hL
   rw [hv]
   simp only
   rw [jL hI h f v m l hm hbm hg.right.left (by omega),dV hA,VA hB]
theorem wX {key root:Nat} (hI:ES N T G K) (ht:S0 G root L) (hg:ET L) (hN:N≤1024):CB key 12 root T=.ok ((NP key L).getD 0,(NP key L).isSome) T:=by
 unfold S0 at ht
 by_cases hr:root=0
 ·rw [if_pos hr] at ht; subst ht; subst hr; rfl
 ·rw [if_neg hr] at ht
  obtain ⟨h,n,hG,hb,h2⟩:=ht
  have:=aM hI hN hb hg h2
  exact jL hI h 12 root n L hG hb hg (by omega)
theorem nS {h:Nat} (hb:MQ G h n L):n.leaf=decide (h=0):=by
 cases h with
 | zero=>simp [hb.1]
 | succ h=>simp [hb.1]
theorem tR:∀ {ks vs ks2 vs2:List Nat},vs.length=ks.length→(ks++ks2).zip (vs++vs2)=ks.zip vs++ks2.zip vs2
 | [],[],_,_,_=>rfl
 | [],_::_,_,_,h=>by simp at h
 | _::_,[],_,_,h=>by simp at h
 | k::ks,v::vs,ks2,vs2,h=>by simp [tR (ks:=ks) (vs:=vs) (ks2:=ks2) (vs2:=vs2) (by simpa using h)]
theorem gE {h:Nat} {an bn:Nd} {A B:List KV} (ha:MQ G h an A) (hb:MQ G h bn B):MQ G h (an.join bn) (A++B):=by
 cases h with
 | zero =>
   obtain ⟨a1,a2,rfl⟩:=ha
   obtain ⟨b1,b2,rfl⟩:=hb
   exact ⟨a1,by simp [Nd.join,a2,b2],(tR a2).symm⟩
 | succ h=>exact ⟨ha.1,ha.2.append hb.2⟩
theorem kM {T:TS} {a:Nat} {n:Nd} (hm:n.May) (ha:a<T.now.length):YO T a n=.ok () (T.put a n):=by
 unfold YO
 rw [if_pos hm,if_pos ha]
structure uK (N:Nat) (T:TS) (G:Gh) (h aa ab:Nat) (an bn:Nd) (A B:List KV) (Y:List Nat):Prop where
 inv:ES N T G (Y++(aa::ab::(an.vals++bn.vals)))
 z:0∈Y
 ga:G aa=none
 gb:G ab=none
 na:T.now[aa]?=some 1
 nb:T.now[ab]?=some 1
 ba:MQ G h an A
 bb:MQ G h bn B
 good:ET (A++B)
 a3:3≤an.keys.length∧an.keys.length≤8
 b3:3≤bn.keys.length∧bn.keys.length≤8
 la:cF G an
 lb:cF G bn
 s7:7≤an.keys.length+bn.keys.length∧an.keys.length+bn.keys.length≤11
variable {h aa ab:Nat} {an bn:Nd} {A B:List KV} {Y:List Nat}
theorem uK.ne (ht:uK N T G h aa ab an bn A B Y):aa≠ab∧aa≠0∧ab≠0∧aa<N∧ab<N∧rf G aa N=0∧rf G ab N=0:=by
 have h1:=ht.inv.now1 ht.na (by simp)
 have h2:=ht.inv.now1 ht.nb (by simp)
 have h0:=List.count_pos_iff.2 ht.z
 refine ⟨fun e=>?_,fun e=>?_,fun e=>?_,ht.inv.tok _ (by simp),ht.inv.tok _ (by simp),h1.2,h2.2⟩
 ·rw [e] at h1
  simp only [List.count_append,List.count_cons] at h1
  simp at h1; omega
 ·rw [e] at h1
  simp only [List.count_append,List.count_cons] at h1
  simp at h1; omega
 ·rw [e] at h2
  simp only [List.count_append,List.count_cons] at h2
  simp at h2; omega
theorem uK.nvs (ht:uK N T G h aa ab an bn A B Y):aa∉an.vals++bn.vals:=fun hx=>by
 have hc:=ht.inv.now1 ht.na (by simp)
 have h1:=List.count_pos_iff.2 hx
 simp only [List.count_append,List.count_cons] at hc h1
 simp at hc
 omega
theorem uK.lj (ht:uK N T G h aa ab an bn A B Y):cF G (an.join bn):=fun hl v hv=>by
 rcases List.mem_append.1 hv with hv | hv
 ·exact ht.la hl v hv
 ·exact ht.lb (by rw [nS ht.bb,← nS ht.ba]; exact hl) v hv
theorem nF {a:Nat} {b:Bool} (he:T.dec a=.ok b T'):(∀ x,x≠a→T'.now[x]?=T.now[x]?)∧T'.g=T.g∧T'.was=T.was:=by
 unfold TS.dec at he
 cases hl:T.now[a]? with
 | none=>rw [hl] at he; cases he
 | some c =>
   rw [hl] at he
   simp only at he
   split at he
   ·cases he
   ·cases he
    exact ⟨fun x hx=>by simp only; rw [List.getElem?_set_ne (Ne.symm hx)],rfl,rfl⟩
theorem y9 (ht:uK N T G h aa ab an bn A B Y) (g8:an.keys.length+bn.keys.length≤8):∃ T2,(YO T aa (an.join bn)=.ok () (T.put aa (an.join bn)))∧(∃ b,(T.put aa (an.join bn)).dec ab=.ok b T2)∧ES N T2 (gset G aa (some (an.join bn))) (Y++[aa])∧JA (gset G aa (some (an.join bn))) h aa (A++B)∧T2.was=T.was∧T2.g=(T.put aa (an.join bn)).g:=by
 obtain ⟨hab,ha0,hb0,haN,hbN,ra,rb⟩:=ht.ne
 have hbj:=gE ht.ba ht.bb
 have hl:(an.join bn).keys.length=an.keys.length+bn.keys.length:=by simp [Nd.join]
 have hmay:=HG ht.inv hbj ht.good (by have:=ht.s7; omega) (by omega)
 have i1:ES N (T.put aa (an.join bn)) G (ab::(Y++(aa::(an.vals++bn.vals)))):=(ht.inv.put ht.ga).perm fun x=>by simp only [List.count_append,List.count_cons]; omega
 obtain ⟨T2,e2,i2,w2,g2⟩:=i1.dec (by simp [ht.z]) (.inl ht.gb)
 refine ⟨T2,kM hmay (by rw [ht.inv.n1]; exact haN),⟨_,e2⟩,?_,⟨_,DL,by have:=ht.s7; omega,FJ ht.ga hbj⟩,w2,g2⟩
 refine ES.close (n:=an.join bn) (i2.perm fun x=>?_) ht.ga (by simp) (by rw [(nF e2).1 _ hab]; exact ht.na) (by rw [g2]; simp [TS.put]) ⟨by have:=ht.s7; omega,by omega⟩ ha0 (PS hbj (ht.lj.of fun h=>⟨h,fun _ h=>h⟩)) (by simp [ht.z])
 simp only [Nd.join,List.count_append,List.count_cons,List.count_nil]; omega
theorem xP (ht:uK N T G h aa ab an bn A B Y) (g8:¬ an.keys.length+bn.keys.length≤8):∃ A' B',A++B=A'++B'∧YO T aa (an.evA bn)=.ok () (T.put aa (an.evA bn))∧YO (T.put aa (an.evA bn)) ab (an.evB bn)=.ok () ((T.put aa (an.evA bn)).put ab (an.evB bn))∧ES N ((T.put aa (an.evA bn)).put ab (an.evB bn)) (gset (gset G aa (some (an.evA bn))) ab (some (an.evB bn))) (Y++[aa,ab])∧JA (gset (gset G aa (some (an.evA bn))) ab (some (an.evB bn))) h aa A'∧JA (gset (gset G aa (some (an.evA bn))) ab (some (an.evB bn))) h ab B'∧MQ G h (an.evA bn) A'∧MQ G h (an.evB bn) B'∧4≤(an.evA bn).keys.length∧4≤(an.evB bn).keys.length:=by
 obtain ⟨hab,ha0,hb0,haN,hbN,ra,rb⟩:=ht.ne
 obtain ⟨A',B',hAB,ha,hb⟩:=j1 (GZ an bn) (gE ht.ba ht.bb)
 have ha':MQ G h (an.evA bn) A':=ha
 have hb':MQ G h (an.evB bn) B':=hb
 have hs:=ht.s7
 have la:(an.evA bn).keys.length=GZ an bn:=by simp [Nd.evA,GZ]; omega
 have lb:(an.evB bn).keys.length=an.keys.length+bn.keys.length - GZ an bn:=by simp [Nd.evB]
 have he:GZ an bn=(an.keys.length+bn.keys.length+1) / 2:=rfl
 have hgd:=ht.good
 rw [hAB] at hgd
 have mA:=HG ht.inv ha' hgd.left (by omega) (by omega)
 have mB:=HG ht.inv hb' hgd.right (by omega) (by omega)
 have gb1:gset G aa (some (an.evA bn)) ab=none:=by rw [BO (Ne.symm hab)]; exact ht.gb
 have hcv:∀ x,an.vals.count x+bn.vals.count x=(an.evA bn).vals.count x+(an.evB bn).vals.count x:=fun x=>by
  rw [← List.count_append]
  conv=>lhs; rw [← List.take_append_drop (GZ an bn) (an.vals++bn.vals)]
  rw [List.count_append]; rfl
 have i1:=(ht.inv.put (n:=an.evA bn) ht.ga).put (n:=an.evB bn) ht.gb
 have i2:ES N ((T.put aa (an.evA bn)).put ab (an.evB bn)) (gset G aa (some (an.evA bn))) ((an.evB bn).vals++(Y++[aa,ab])):=by
  refine ES.close (n:=an.evA bn) (i1.perm fun x=>?_) ht.ga (by simp) ht.na (by simp [TS.put,hab]) ⟨by omega,by omega⟩ ha0 (PS ha' (ht.lj.of fun h=>⟨h,fun _ h=>List.mem_of_mem_take h⟩)) (by simp [ht.z])
  have:=hcv x
  simp only [List.count_append,List.count_cons,List.count_nil]; omega
 have hb2:=FJ (o:=some (an.evA bn)) ht.ga hb'
 refine ⟨A',B',hAB,kM mA (by rw [ht.inv.n1]; exact haN),kM mB (by show ab<T.now.length; rw [ht.inv.n1]; exact hbN),?_,⟨_,by rw [BO hab,DL],by omega,FJ gb1 (FJ ht.ga ha')⟩,⟨_,DL,by omega,FJ gb1 hb2⟩,ha',hb',by omega,by omega⟩
 exact ES.close (n:=an.evB bn) i2 gb1 (by simp) ht.nb (by simp [TS.put]) ⟨by omega,by omega⟩ hb0 (PS hb2 (cF.set (ht.lj.of fun h=>⟨h,fun _ h=>List.mem_of_mem_drop h⟩) fun hv=>ht.nvs (List.mem_of_mem_drop hv))) (by simp [ht.z])
end Go.Ax.C
set_option maxRecDepth 100000
namespace Go.Ax.C
open Go.Proofs Go.RowKit
variable {N:Nat} {T T':TS} {G:Gh} {L:List KV} {X K:List Nat} {n:Nd}
variable {h aa ab:Nat} {an bn:Nd} {A B LA LB:List KV} {Y k1 k2 v1 v2:List Nat}
theorem uK.nY (ht:uK N T G h aa ab an bn A B Y):aa∉Y∧ab∉Y:=by
 have h1:=ht.inv.now1 ht.na (by simp)
 have h2:=ht.inv.now1 ht.nb (by simp)
 simp only [List.count_append,List.count_cons] at h1 h2
 simp at h1 h2
 exact ⟨fun hx=>by have:=List.count_pos_iff.2 hx; omega,fun hx=>by have:=List.count_pos_iff.2 hx; omega⟩
theorem YX {α:Type} {A B:List α} {a b c:α}:(A++a::b::B).set A.length c=A++c::b::B:=by simp
theorem oM {α:Type} {A B:List α} {a b c:α}:(A++a::b::B).set (A.length+1) c=A++a::c::B:=by
 rw [List.set_append,if_neg (by omega)]; simp
theorem sB {α:Type} {A B:List α} {a b:α}:(A++a::b::B).take (A.length+1)++(A++a::b::B).drop (A.length+1+1)=A++a::B:=by
 rw [List.take_append,List.take_of_length_le (by omega),List.drop_append,List.drop_of_length_le (by omega)]
 have e1:A.length+1 - A.length=1:=by omega
 have e2:A.length+1+1 - A.length=2:=by omega
 rw [e1,e2]; simp
theorem oI {P0 Rs:List Wp} {u:Wp} {ka kb va vb:Nat} (ht:uK N T G h aa ab an bn A B Y)
 (hu:u.n=⟨false,k1++ka::kb::k2,v1++va::vb::v2⟩) (hlen:v1.length=k1.length)
 (h1:DQ (JA G h) k1 v1 LA) (h2:DQ (JA G h) k2 v2 LB) (hg:ET (LA++((A++B)++LB))) (h8:u.n.keys.length≤8)
 (huY:u.at'∈Y) (gu:G u.at'=none) (hua:u.at'≠aa) (hub:u.at'≠ab) :
 ∃ u' T' G' vs',IH (P0++u::Rs) (P0.length+1) u.n k1.length (k1.length+1) aa an ab bn T=.ok (P0++u'::Rs) T'∧u'.at'=u.at'∧u'.n.vals=v1++(vs'++v2)∧MQ G' (h+1) u'.n (LA++((A++B)++LB))∧ES N T' G' (Y++vs')∧u.n.keys.length≤u'.n.keys.length+1∧u'.n.keys.length≤u.n.keys.length∧T'.g u.at'=.nd u'.n∧G' u.at'=none∧(∀ v h l,JA G h v l→JA G' h v l)∧(∀ X,(∀ x∈X,x∈Y)→EU G G' X)∧T'.was=T.was∧(∀ x,x≠ab→T'.now[x]?=T.now[x]?)∧(∀ x,x≠aa→x≠ab→x≠u.at'→T'.g x=T.g x)∧(∀ x,G x=none→x≠aa→x≠ab→G' x=none):=by
 obtain ⟨hab,ha0,hb0,haN,hbN,ra,rb⟩:=ht.ne
 have huN:u.at'<N:=ht.inv.tok _ (by simp [huY])
 have huk:u.n.keys=k1++ka::kb::k2:=by rw [hu]
 have huv:u.n.vals=v1++va::vb::v2:=by rw [hu]
 have hukl:u.n.keys.length=k1.length+(k2.length+2):=by rw [huk]; simp
 have hget:(P0++u::Rs)[P0.length+1 - 1]?=some u:=by simp
 unfold IH
 rw [if_pos (by rw [hukl]; omega)]
 by_cases g8:an.keys.length+bn.keys.length≤8
 ·rw [if_pos g8]
  obtain ⟨T2,e1,⟨b,e2⟩,i2,kd,w2,g2⟩:=y9 ht g8
  obtain ⟨n2,_,_⟩:=nF e2
  have hbj:=gE ht.ba ht.bb
  have hjl:(an.join bn).keys.length=an.keys.length+bn.keys.length:=by simp [Nd.join]
  rw [e1]
  simp only [R.bind]
  rw [e2]
  simp only
  obtain ⟨j0,hj0⟩:∃ j0,(an.join bn).keys[0]?=some j0:=⟨_,List.getElem?_eq_getElem (by have:=ht.s7; omega)⟩
  rw [hj0]
  simp only
  have hdj:hd (A++B)=j0:=by rw [← TZ hbj,List.head?_eq_getElem?,hj0]; rfl
  have hne:A++B≠[]:=(M7 hbj).2 fun e=>by rw [e] at hjl; have:=ht.s7; simp at hjl; omega
  have hn:(u.n.setN k1.length j0 aa).remN (k1.length+1)=⟨false,k1++j0::k2,v1++aa::v2⟩:=by
   unfold Nd.setN Nd.remN setF VY
   rw [hu]
   simp only [if_true,Bool.false_eq_true,if_false]
   rw [YX,sB]
   conv=>lhs; rw [← hlen]
   rw [YX,sB]
  have hkm:∀ v h l,JA G h v l→JA (gset G aa (some (an.join bn))) h v l:=fun v h l hk=>JA.set ht.ga hk
  have hbu:MQ (gset G aa (some (an.join bn))) (h+1) ⟨false,k1++j0::k2,v1++aa::v2⟩ (LA++((A++B)++LB)) :=
   QE.2 ⟨rfl,(h1.mono fun v _ l hk=>hkm v h l hk).append (.cons kd hne hdj (h2.mono fun v _ l hk=>hkm v h l hk))⟩
  have hm:Nd.May ⟨false,k1++j0::k2,v1++aa::v2⟩:=HG i2 hbu hg (by simp; omega) (by simp; omega)
  have hw:DD (P0++u::Rs) (P0.length+1 - 1) ((u.n.setN k1.length j0 aa).remN (k1.length+1)) T2=.ok (P0++{ u with n:=⟨false,k1++j0::k2,v1++aa::v2⟩ }::Rs) (T2.put u.at' ⟨false,k1++j0::k2,v1++aa::v2⟩):=by
   unfold DD
   rw [hget,hn]
   simp only
   rw [R4 hm (by rw [i2.n1]; exact huN)]
   simp [R.bind]
  refine ⟨_,_,gset G aa (some (an.join bn)),[aa],hw,rfl,by simp,hbu,i2.put (by rw [BO hua]; exact gu),by simp [hukl]; omega,by simp [hukl],by simp [TS.put],by rw [BO hua]; exact gu,hkm,fun X hX=>.set ht.ga fun hx=>ht.nY.1 (hX _ hx),w2,n2,fun x x1 x2 x3=>?_,fun x x0 x1 x2=>by rw [BO x1]; exact x0⟩
  simp only [TS.put,if_neg x3]
  rw [g2]
  simp only [TS.put,if_neg x1]
 ·rw [if_neg g8]
  obtain ⟨A',B',hAB,e1,e2,i2,kA,kB,bA,bB,lA,lB⟩:=xP ht g8
  rw [e1]
  simp only [R.bind]
  rw [e2]
  simp only
  obtain ⟨c0,hc0⟩:∃ c0,(an.evA bn).keys[0]?=some c0:=⟨_,List.getElem?_eq_getElem (by omega)⟩
  obtain ⟨d0,hd0⟩:∃ d0,(an.evB bn).keys[0]?=some d0:=⟨_,List.getElem?_eq_getElem (by omega)⟩
  rw [hc0,hd0]
  simp only
  have hdA:hd A'=c0:=by rw [← TZ bA,List.head?_eq_getElem?,hc0]; rfl
  have hdB:hd B'=d0:=by rw [← TZ bB,List.head?_eq_getElem?,hd0]; rfl
  have neA:A'≠[]:=(M7 bA).2 fun e=>by rw [e] at lA; simp at lA
  have neB:B'≠[]:=(M7 bB).2 fun e=>by rw [e] at lB; simp at lB
  have hn:(u.n.setN k1.length c0 aa).setN (k1.length+1) d0 ab=⟨false,k1++c0::d0::k2,v1++aa::ab::v2⟩:=by
   unfold Nd.setN setF
   rw [hu]
   simp only [if_true,Bool.false_eq_true,if_false]
   rw [YX,oM]
   conv=>lhs; rw [← hlen]
   rw [YX,oM]
  have gb1:gset G aa (some (an.evA bn)) ab=none:=by rw [BO (Ne.symm hab)]; exact ht.gb
  have hkm:∀ v h l,JA G h v l→JA (gset (gset G aa (some (an.evA bn))) ab (some (an.evB bn))) h v l:=fun v h l hk=>JA.set gb1 (JA.set ht.ga hk)
  have hbu:MQ (gset (gset G aa (some (an.evA bn))) ab (some (an.evB bn))) (h+1) ⟨false,k1++c0::d0::k2,v1++aa::ab::v2⟩ (LA++((A++B)++LB)):=by
   rw [hAB,List.append_assoc A']
   exact QE.2 ⟨rfl,(h1.mono fun v _ l hk=>hkm v h l hk).append (.cons kA neA hdA (.cons kB neB hdB (h2.mono fun v _ l hk=>hkm v h l hk)))⟩
  have hm:Nd.May ⟨false,k1++c0::d0::k2,v1++aa::ab::v2⟩:=HG i2 hbu hg (by simp; omega) (by simp; omega)
  have hw:DD (P0++u::Rs) (P0.length+1 - 1) ((u.n.setN k1.length c0 aa).setN (k1.length+1) d0 ab) ((T.put aa (an.evA bn)).put ab (an.evB bn))=.ok (P0++{ u with n:=⟨false,k1++c0::d0::k2,v1++aa::ab::v2⟩ }::Rs) (((T.put aa (an.evA bn)).put ab (an.evB bn)).put u.at' ⟨false,k1++c0::d0::k2,v1++aa::ab::v2⟩):=by
   unfold DD
   rw [hget,hn]
   simp only
   rw [R4 hm (by rw [i2.n1]; exact huN)]
   simp [R.bind]
  have gu2:gset (gset G aa (some (an.evA bn))) ab (some (an.evB bn)) u.at'=none:=by rw [BO hub,BO hua]; exact gu
  refine ⟨_,_,gset (gset G aa (some (an.evA bn))) ab (some (an.evB bn)),[aa,ab],hw,rfl,by simp,hbu,i2.put gu2,by simp [hukl],by simp [hukl],by simp [TS.put],gu2,hkm,fun X hX=>(EU.set ht.ga fun hx=>ht.nY.1 (hX _ hx)).trans (EU.set gb1 fun hx=>ht.nY.2 (hX _ hx)),rfl,fun x _=>rfl,fun x x1 x2 x3=>?_,fun x x0 x1 x2=>by rw [BO x2,BO x1]; exact x0⟩
  simp only [TS.put,if_neg x3,if_neg x2,if_neg x1]
end Go.Ax.C
set_option maxRecDepth 100000
namespace Go.Ax.C
open Go.Proofs Go.RowKit
variable {N:Nat} {T T':TS} {G:Gh} {L:List KV} {X K:List Nat} {n:Nd}
theorem dT {a hh:Nat} {l:List KV} (h:ES N T G (a::K)) (hz:0∈K) (hG:G a=some n) (hb:MQ G hh n l) :
 (∃ T',T.shadow a=.err 8 T')∨∃ B0 T' G',T.shadow a=.ok (B0,n) T'∧ES N T' G' (B0::(n.vals++K))∧T'.now[B0]?=some 1∧T'.was[B0]?=some 0∧T'.was=T.was∧G' B0=none∧(B0≠0∧cF G' n)∧B0∉K∧MQ G' hh n l∧(∀ w∈K,∀ h l,JA G h w l→JA G' h w l)∧(∀ h m l,MQ G h m l→(∀ v∈m.vals,v∈K)→MQ G' h m l)∧(∀ X,(∀ x∈X,x∈K)→EU G G' X)∧(∀ p∈K,T.now[p]?=some 1→T'.now[p]?=some 1)∧(∀ x,x≠B0→T'.g x=T.g x)∧(∀ x,G x=none→G' x=none):=by
 rcases h.shadow hz hG with h1 | ⟨B0,T1,G',e1,hI1,ho1,hw1,hw,hg1,hGo,hG',hgf,hown⟩
 ·exact .inl h1
 right
 have haN:=(h.dom a n hG).1
 have hoc:=hI1.now1 ho1 (by simp)
 rw [List.count_cons_self,List.count_append] at hoc
 have hoK:B0∉K:=fun hk=>by have:=List.count_pos_iff.2 hk; omega
 have ho0:B0≠0:=fun e=>hoK (e▸hz)
 have hkid:∀ w∈K,∀ h l,JA G h w l→JA G' h w l:=fun w hw h' l hk=>by
  rcases hG' with rfl | ⟨rfl,hc,hr⟩
  ·exact hk
  ·exact hk.del h hr fun e=>by subst e; have:=List.count_pos_iff.2 hw; omega
 have hGn:∀ x,G x=none→G' x=none:=fun x hx=>by
  rcases hG' with rfl | ⟨rfl,_,_⟩
  ·exact hx
  ·by_cases g:x=a
   ·subst g; rw [DL]
   ·rw [BO g]; exact hx
 refine ⟨B0,T1,G',e1,hI1,ho1,hw1,hw,hGo,⟨ho0,fun hl v hv=>hGn v (h.lfv a n hG hl v hv)⟩,hoK,?_,hkid,fun h' m l hm hv=>?_,fun X hX=>?_,fun p hp hnow=>?_,hgf,hGn⟩
 ·cases hh with
  | zero=>exact hb
  | succ hh =>
    refine ⟨hb.1,hb.2.mono fun w hw l' hl=>?_⟩
    rcases hG' with rfl | ⟨rfl,hc,hr⟩
    ·exact hl
    ·exact JA.del h hr (fun e=>by subst e; have:=PT haN hG hw; omega) hl
 ·cases h' with
  | zero=>exact hm
  | succ h'=>exact ⟨hm.1,hm.2.mono fun w hw l' hl=>hkid w (hv w hw) _ _ hl⟩
 ·rcases hG' with rfl | ⟨rfl,hc,hr⟩
  ·exact .refl
  ·exact .del h hr (List.count_eq_zero.2 fun hx=>by have:=List.count_pos_iff.2 (hX _ hx); omega)
 ·have hpN:=h.tok p (by simp [hp])
  have hc:=h.now1 hnow (by simp [hp])
  have hpa:p≠a:=fun e=>by subst e; rw [List.count_cons_self] at hc; have:=List.count_pos_iff.2 hp; omega
  have hpo:p≠B0:=fun e=>hoK (e▸hp)
  have hpn:p∉n.vals:=fun hv=>by have:=PT haN hG hv; omega
  rw [List.count_cons_of_ne (Ne.symm hpa)] at hc
  have hr:rf G' p N=0:=by
   rcases hG' with rfl | ⟨rfl,_,_⟩
   ·exact hc.2
   ·have:=Z7 (G:=G) (o:=none) (x:=p) haN
    rw [hG] at this; simp only [vc] at this; omega
  rw [hI1.cnt p hpN,List.count_cons_of_ne (Ne.symm hpo),List.count_append,List.count_eq_zero.2 hpn,hc.1,hr]
theorem DQ.snoc {t:Nat→List KV→Prop} {ks vs:List Nat} (h:DQ t ks vs L):ks≠[]→∃ ks0 k vs0 v A0 l,ks=ks0++[k]∧vs=vs0++[v]∧L=A0++l∧DQ t ks0 vs0 A0∧t v l∧l≠[]∧Go.Ax.C.hd l=k:=by
 induction h with
 | nil=>simp
 | cons h1 h2 h3 h4 ih =>
   rename_i k v ks vs l L
   intro _
   by_cases g:ks=[]
   ·subst g
    cases h4
    exact ⟨[],k,[],v,[],l,rfl,rfl,by simp,.nil,h1,h2,h3⟩
   ·obtain ⟨ks0,k',vs0,v',A0,l',rfl,rfl,rfl,a,b,c,d⟩:=ih g
    exact ⟨k::ks0,k',v::vs0,v',l++A0,l',rfl,rfl,by simp,.cons h1 h2 h3 a,b,c,d⟩
theorem DQ.any {t:Nat→List KV→Prop} {ks vs:List Nat} (h:DQ t ks vs L):DQ (fun _ _=>True) ks vs L:=h.mono fun _ _ _ _=>trivial
set_option maxHeartbeats 1000000 in
theorem ACV {key:Nat}:∀ (k:Nat) (P Rs:List Wp) (h:Nat) (s:Wp) (T:TS) (G:Gh) (Lf L1 L2:List KV) (W:List Nat),P.length=k →
 lZ N T G hd P h s Lf L1 L2 W X→(s.n.fits→T.g s.at'=.nd s.n)→MQ G h s.n (del key Lf)→s.n.keys.length≤8→(P≠[]→3≤s.n.keys.length)→(P=[]→s.n.leaf=false→1≤s.n.keys.length) →
 ET (L1++(Lf++L2))→(∀ p∈L1,p.1<key)→(∀ p∈L2,key<p.1) →
 (∃ T',dJ Q9 (P.length+1) (P++s::Rs) T=.err 8 T')∨∃ p Q T' G' H,dJ Q9 (P.length+1) (P++s::Rs) T=.ok (p::Q) T'∧ES N T' G' (X++(p.at'::p.n.vals))∧T'.now[p.at']?=some 1∧G' p.at'=none∧p.at'≠0∧MQ G' H p.n (del key (L1++(Lf++L2)))∧p.n.keys.length≤8∧(p.n.leaf=false→1≤p.n.keys.length)∧(p.n.fits→T'.g p.at'=.nd p.n)∧EU G G' X∧T'.was=T.was∧cF G' p.n:=by
 intro k
 induction k with
 | zero =>
   intro P Rs h s T G Lf L1 L2 W hk ho hsv hb h8 h3 h2 hg hl1 hl2
   obtain rfl:=List.length_eq_zero_iff.1 hk
   obtain ⟨rfl,rfl,rfl⟩:=ho.zip.nil
   right
   refine ⟨s,Rs,T,G,h,rfl,ho.inv.perm fun x=>?_,ho.me.1,ho.me.2.2.1,ho.me.2.2.2,by simpa using hb,h8,h2 rfl,hsv,.refl,rfl,ho.lv⟩
   simp [List.count_append,List.count_cons]
 | succ k ih =>
   intro P Rs h s T G Lf L1 L2 W hk ho hsv hb h8 h3 h2 hg hl1 hl2
   obtain ⟨P0,u,rfl⟩:∃ P0 u,P=P0++[u]:=by
    rcases List.eq_nil_or_concat P with rfl | ⟨P0,u,rfl⟩
    ·simp at hk
    ·exact ⟨P0,u,List.concat_eq_append⟩
   have hk0:P0.length=k:=by simpa using hk
   obtain ⟨M1,M2,A,B,W',ks1,kk,ks2,vs1,vs2,z0,z1,z2,z3,z4,z5,z6,z7,z8,z9,rfl,rfl,rfl⟩:=ho.zip.last
   have hs3:=h3 (by simp)
   have hLL:M1++((A++(Lf++B))++M2)=(M1++A)++(Lf++(B++M2)):=by simp
   have hgT:ET (M1++((A++(del key Lf++B))++M2)):=by
    have e:(M1++A)++(del key Lf++(B++M2))=M1++((A++(del key Lf++B))++M2):=by simp
    rw [← e,← jG hl2,← nE hl1]; exact eV hg
   have hgA:ET (A++(del key Lf++B)):=hgT.right.left
   have hgd:ET (del key Lf):=hgA.right.left
   have hdelL:del key (A++(Lf++B))=A++(del key Lf++B):=by
    rw [nE fun p hp=>hl1 p (by simp [hp]),jG (fun p hp=>hl2 p (by simp [hp]))]
   have hdne:del key Lf≠[]:=(M7 hb).2 fun e=>by rw [e] at hs3; simp at hs3
   have hu:=ho.ok u (by simp)
   have hus:u.at'≠s.at':=ho.ne u (by simp)
   have huc:=ho.inv.now1 hu.2.2.1 (by simp)
   have huP:∀ t∈P0,t.at'≠u.at':=fun t ht e=>by
    have h1:=List.count_pos_iff.2 (List.mem_map_of_mem (f:=(·.at')) ht)
    rw [e] at h1
    simp only [List.map_append,List.map_cons,List.map_nil,List.count_append,List.count_cons,List.count_nil] at huc
    simp at huc
    omega
   have hu0:u.at'≠0:=fun e=>by
    have h0:=List.count_pos_iff.2 ho.z
    rw [e] at huc
    simp only [List.map_append,List.map_cons,List.map_nil,List.count_append,List.count_cons,List.count_nil] at huc
    simp [e] at huc
    omega
   have hsP:∀ t∈P0,t.at'≠s.at':=fun t ht=>ho.ne t (by simp [ht])
   have hokP:GR T G P0:=fun t ht=>ho.ok t (by simp [ht])
   have huv:u.n.vals=vs1++s.at'::vs2:=by rw [z1]
   have huk:u.n.keys=ks1++kk::ks2:=by rw [z1]
   have hul:u.n.leaf=false:=by rw [z1]
   have huN:u.at'<N:=ho.inv.tok _ (by simp)
   have hlenP:(P0++[u]).length=P0.length+1:=by simp
   have hl1':∀ p∈M1,p.1<key:=fun p hp=>hl1 p (by simp [hp])
   have hl2':∀ p∈M2,key<p.1:=fun p hp=>hl2 p (by simp [hp])
   have hukl:u.n.keys.length=ks1.length+(ks2.length+1):=by rw [huk]; simp
   obtain ⟨x0,hx0⟩:∃ x0,s.n.keys[0]?=some x0:=⟨_,List.getElem?_eq_getElem (by omega)⟩
   have hhd:hd (del key Lf)=x0:=by rw [← TZ hb,List.head?_eq_getElem?,hx0]; rfl
   rw [eJ,hlenP,List.append_assoc,List.singleton_append]
   unfold Q9
   have hg1:(P0++u::s::Rs)[P0.length+1]?=some s:=by rw [List.getElem?_append_right (by omega)]; simp
   have hg0:(P0++u::s::Rs)[P0.length+1 - 1]?=some u:=by simp
   rw [if_neg (by omega),hg1,hg0]
   simp only
   -- the SM key
   have hmu:Nd.May ⟨false,ks1++x0::ks2,vs1++s.at'::vs2⟩:=by
    have hm:=hu.1
    rw [z1] at hm
    refine ⟨by simpa using hm.1,?_,hm.2.2⟩
    exact DQ.sorted (z4.any.append (.cons (v:=s.at') trivial hdne hhd z5.any)) hgA
   obtain ⟨T1,hT1,hgu1,hn1,hw1,hgo1,hi1⟩:∃ T1,fU (P0++u::s::Rs) (P0.length+1) s u T=.ok (P0++{ u with n:=⟨false,ks1++x0::ks2,vs1++s.at'::vs2⟩ }::s::Rs) T1∧T1.g u.at'=.nd ⟨false,ks1++x0::ks2,vs1++s.at'::vs2⟩∧T1.now=T.now∧T1.was=T.was∧(∀ x,x≠u.at'→T1.g x=T.g x)∧ES N T1 G (X++(((P0++[u]).map (·.at')++[s.at'])++((W'++(vs1++vs2))++s.n.vals))):=by
    unfold fU
    have ek:u.n.keys[u.nx]?=some kk:=by rw [huk,z2]; simp
    rw [if_pos (by omega),ek,hx0]
    simp only
    by_cases e:kk=x0
    ·rw [if_pos e]
     subst e
     have:({ u with n:=⟨false,ks1++kk::ks2,vs1++s.at'::vs2⟩ }:Wp)=u:=by cases u; simp_all
     rw [this]
     exact ⟨T,rfl,by rw [← z1]; exact hu.2.1,rfl,rfl,fun _ _=>rfl,ho.inv⟩
    ·rw [if_neg e]
     have hset:u.n.setN u.nx x0 s.at'=⟨false,ks1++x0::ks2,vs1++s.at'::vs2⟩:=by
      unfold Nd.setN setF
      rw [z1]
      simp only [if_true,Bool.false_eq_true,if_false]
      rw [dD z2,dD (z2.trans z3.symm)]
     refine ⟨T.put u.at' ⟨false,ks1++x0::ks2,vs1++s.at'::vs2⟩,?_,by simp [TS.put],rfl,rfl,fun x hx=>by simp [TS.put,hx],ho.inv.put hu.2.2.2.2⟩
     unfold ND
     rw [hg0]
     simp only
     rw [if_pos (by rw [z2,hukl]; omega),hset,R4 hmu (by rw [ho.inv.n1]; exact huN)]
     simp [R.bind]
   rw [hT1]
   simp only [R.bind]
   generalize hu1:({ u with n:=⟨false,ks1++x0::ks2,vs1++s.at'::vs2⟩ }:Wp)=u1
   have u1a:u1.at'=u.at':=by rw [← hu1]
   have u1n:u1.n=⟨false,ks1++x0::ks2,vs1++s.at'::vs2⟩:=by rw [← hu1]
   have u1x:u1.nx=ks1.length:=by rw [← hu1]; exact z2
   have u1l:u1.n.keys.length=u.n.keys.length:=by rw [u1n,hukl]; simp
   have hok1:GR T1 G P0:=fun t ht=>by
    have:=hokP t ht
    exact ⟨this.1,by rw [hgo1 _ (huP t ht)]; exact this.2.1,by rw [hn1]; exact this.2.2.1,by rw [hw1]; exact this.2.2.2.1,this.2.2.2.2⟩
   by_cases g4:4≤s.n.keys.length
   ·rw [if_pos g4]
    have hf:s.n.fits:=⟨by omega,h8⟩
    have hG0:=ho.me.2.2.1
    have hclose:ES N T1 (gset G s.at' (some s.n)) (X++(((P0++[u]).map (·.at')++[s.at'])++(W'++(vs1++vs2)))):=by
     refine ES.close (hi1.perm fun x=>?_) hG0 (by simp) (by rw [hn1]; exact ho.me.1) (by rw [hgo1 _ (Ne.symm hus)]; exact hsv hf) hf ho.me.2.2.2 (PS hb ho.lv) (by simp [ho.z])
     simp only [List.count_append]; omega
    have hop:lZ N T1 (gset G s.at' (some s.n)) hd P0 (h+1) u1 (A++(Lf++B)) M1 M2 W' X:=by
     refine ⟨hclose.perm fun x=>?_,ho.z,by rw [u1a]; exact z0.mono fun v _ h l hk=>JA.set hG0 hk,hok1.gset hsP,⟨by rw [u1a,hn1]; exact hu.2.2.1,by rw [u1a,hw1]; exact hu.2.2.2.1,by rw [u1a,BO hus]; exact hu.2.2.2.2,by rw [u1a]; exact hu0⟩,.inner (by rw [u1n])⟩
     rw [u1n,u1a]
     simp only [List.map_append,List.map_cons,List.map_nil,List.count_append,List.count_cons,List.count_nil]; omega
    have hbu:MQ (gset G s.at' (some s.n)) (h+1) u1.n (del key (A++(Lf++B))):=by
     refine QE.2 ⟨by rw [u1n],?_⟩
     rw [hdelL,u1n]
     exact (z4.mono fun v _ l hk=>JA.set hG0 hk).append (.cons ⟨s.n,DL,g4,FJ hG0 hb⟩ hdne hhd (z5.mono fun v _ l hk=>JA.set hG0 hk))
    have:=ih P0 (s::Rs) (h+1) u1 T1 _ _ M1 M2 W' hk0 hop (fun _=>by rw [u1a,u1n]; exact hgu1) hbu (by omega) (fun e=>by have:=z9 e; omega) (fun e _=>by have:=z8 e; omega) (by rw [hLL]; exact hg) hl1' hl2'
    rcases this with h1 | ⟨p,Q,T',G',H,e,i,a1,a2,a3,a4,a5,a6,a7,a8,a9,a10⟩
    ·exact .inl h1
    ·exact .inr ⟨p,Q,T',G',H,e,i,a1,a2,a3,by rw [← hLL]; exact a4,a5,a6,a7,(EU.set hG0 ho.nX).trans a8,by rw [a9,hw1],a10⟩
   rw [if_neg g4]
   have hs3':s.n.keys.length=3:=by omega
   have hg01:(P0++u1::s::Rs)[P0.length+1 - 1]?=some u1:=by simp
   rw [hg01]
   simp only
   -- what is alike on both sides
   have hrest:∀ (u2:Wp) (T3:TS) (G3:Gh),u2.at'=u.at'→ES N T3 G3 (X++((P0.map (·.at')++[u.at'])++(W'++u2.n.vals)))→MQ G3 (h+1) u2.n (A++(del key Lf++B))→u.n.keys.length≤u2.n.keys.length+1→u2.n.keys.length≤u.n.keys.length→T3.g u.at'=.nd u2.n→G3 u.at'=none→(∀ v∈W',∀ h l,JA G h v l→JA G3 h v l)→EU G G3 X→T3.was=T1.was→GR T3 G3 P0→T3.now[u.at']?=some 1 →
    (∃ T',dJ Q9 (P0.length+1) (P0++u2::s::Rs) T3=.err 8 T')∨∃ p Q T' G' H,dJ Q9 (P0.length+1) (P0++u2::s::Rs) T3=.ok (p::Q) T'∧ES N T' G' (X++(p.at'::p.n.vals))∧T'.now[p.at']?=some 1∧G' p.at'=none∧p.at'≠0∧MQ G' H p.n (del key ((M1++A)++(Lf++(B++M2))))∧p.n.keys.length≤8∧(p.n.leaf=false→1≤p.n.keys.length)∧(p.n.fits→T'.g p.at'=.nd p.n)∧EU G G' X∧T'.was=T.was∧cF G' p.n:=by
    intro u2 T3 G3 b1 b2 b3 b4 b5 b6 b7 b8 b9 b10 b11 b12
    have hop:lZ N T3 G3 hd P0 (h+1) u2 (A++(Lf++B)) M1 M2 W' X :=
     ⟨by rw [b1]; exact b2,ho.z,by rw [b1]; exact z0.mono b8,b11,⟨by rw [b1]; exact b12,by rw [b1,b10,hw1]; exact hu.2.2.2.1,by rw [b1]; exact b7,by rw [b1]; exact hu0⟩,.inner b3.1⟩
    have:=ih P0 (s::Rs) (h+1) u2 T3 _ _ M1 M2 W' hk0 hop (fun _=>by rw [b1]; exact b6) (by rw [hdelL]; exact b3) (by omega) (fun e=>by have:=z9 e; omega) (fun e _=>by have:=z8 e; omega) (by rw [hLL]; exact hg) hl1' hl2'
    rcases this with h1 | ⟨p,Q,T',G',H,e,i,a1,a2,a3,a4,a5,a6,a7,a8,a9,a10⟩
    ·exact .inl h1
    ·exact .inr ⟨p,Q,T',G',H,e,i,a1,a2,a3,by rw [← hLL]; exact a4,a5,a6,a7,b9.trans a8,by rw [a9,b10,hw1],a10⟩
   have hnow1:∀ x:Nat,T.now[x]?=some 1→T1.now[x]?=some 1:=fun x hx=>by rw [hn1]; exact hx
   unfold VK
   by_cases gl:u1.nx+1=u1.n.keys.length
   ·rw [if_pos gl]
    have k20:ks2=[]:=by
     rw [u1x,u1l,hukl] at gl
     exact List.length_eq_zero_iff.1 (by omega)
    have hks1:ks1≠[]:=fun e=>by
     rw [hukl,e,k20] at z8 z9
     by_cases g:P0=[]
     ·have:=z8 g; simp at this
     ·have:=z9 g; simp at this
    have hx1:u1.nx≠0:=by rw [u1x]; intro e; exact hks1 (List.length_eq_zero_iff.1 e)
    rw [if_neg hx1]
    obtain ⟨ks0,kv,vs0,v,A0,l,e1,e2,e3,za,⟨m,hGv,hm4,hbm⟩,hlne,hhl⟩:=z4.snoc hks1
    have hl0:vs0.length=ks0.length:=za.len
    subst e1 e2 e3
    have hnx:u1.nx - 1=ks0.length:=by rw [u1x]; simp
    have hnx2:u1.nx=ks0.length+1:=by rw [u1x]; simp
    have hvv:u1.n.vals[u1.nx - 1]?=some v:=by rw [u1n,hnx,← hl0]; simp
    rw [hvv]
    simp only
    have i1:ES N T1 G (v::(X++((P0.map (·.at')++[u.at'])++(s.at'::(W'++(vs0++(vs2++s.n.vals))))))):=hi1.perm fun x=>by
     simp only [List.map_append,List.map_cons,List.map_nil,List.count_append,List.count_cons,List.count_nil]; omega
    rcases dT i1 (by simp [ho.z]) hGv hbm with ⟨T',e⟩ | ⟨B0,T2,G2,e,i2,o1,o2,w2,go,o0,oK,bm2,kid2,bod2,keep2,now2,g2,gn2⟩
    ·rw [e]; exact .inl ⟨T',rfl⟩
    rw [e]
    simp only [R.bind]
    have hm8:=(hi1.dom v m hGv).2.2.2.2.2
    have ht:uK N T2 G2 h B0 s.at' m s.n l (del key Lf) (X++((P0.map (·.at')++[u.at'])++(W'++(vs0++vs2)))):=by
     refine ⟨i2.perm fun x=>?_,by simp [ho.z],go,gn2 _ ho.me.2.2.1,o1,now2 _ (by simp) (hnow1 _ ho.me.1),bm2,bod2 _ _ _ hb fun v hv=>by simp [hv],?_,⟨by omega,hm8⟩,⟨by omega,h8⟩,o0.2,fun hl v hv=>gn2 v (ho.lv hl v hv),⟨by omega,by omega⟩⟩
     ·simp only [List.count_append,List.count_cons,List.count_nil]; omega
     ·have e:(A0++l)++(del key Lf++B)=A0++((l++del key Lf)++B):=by simp
      rw [e] at hgA
      exact hgA.right.left
    have huo:u.at'≠B0:=fun e=>oK (by rw [← e]; simp)
    obtain ⟨u2,T3,G3,vs',c1,c2,c3,c4,c5,c6,c7,c8,c9,c10,c11,c12,c13,c14,c15⟩:=oI (P0:=P0) (Rs:=s::Rs) (u:=u1) (k1:=ks0) (k2:=ks2) (v1:=vs0) (v2:=vs2) (LA:=A0) (LB:=B) (ka:=kv) (kb:=x0) (va:=v) (vb:=s.at') ht (by rw [u1n]; simp) hl0 (za.mono fun w hw l'=>kid2 w (by simp [hw]) _ l') (z5.mono fun w hw l'=>kid2 w (by simp [hw]) _ l') (by
     have e:(A0++l)++(del key Lf++B)=A0++((l++del key Lf)++B):=by simp
     rw [← e]; exact hgA) (by omega) (by rw [u1a]; simp) (by rw [u1a]; exact gn2 _ hu.2.2.2.2) (by rw [u1a]; exact huo) (by rw [u1a]; exact hus)
    rw [hnx,hnx2,c1]
    simp only [R.bind]
    rw [u1a] at c2 c8 c9 c14
    refine hrest u2 T3 G3 c2 (c5.perm fun x=>?_) (by
     have e:(A0++l)++(del key Lf++B)=A0++((l++del key Lf)++B):=by simp
     rw [e]; exact c4) (by omega) (by omega) c8 c9 (fun w hw h' l' hk=>c10 w h' l' (kid2 w (by simp [hw]) h' l' hk)) ((keep2 X fun x hx=>by simp [hx]).trans (c11 X fun x hx=>by simp [hx])) (by rw [c12,w2]) (fun t ht'=>?_) ?_
    ·rw [c3]
     simp only [List.count_append,List.count_cons,List.count_nil]; omega
    ·have hp:=hok1 t ht'
     have hK:t.at'∈X++((P0.map (·.at')++[u.at'])++(s.at'::(W'++(vs0++(vs2++s.n.vals))))):=by simp; exact .inr (.inl ⟨t,ht',rfl⟩)
     have hto:t.at'≠B0:=fun e=>oK (e▸hK)
     refine ⟨hp.1,?_,?_,by rw [c12,w2]; exact hp.2.2.2.1,c15 _ (gn2 _ hp.2.2.2.2) hto (hsP t ht')⟩
     ·rw [c14 _ hto (hsP t ht') (huP t ht'),g2 _ hto]; exact hp.2.1
     ·rw [c13 _ (hsP t ht')]; exact now2 _ hK hp.2.2.1
    ·rw [c13 _ hus]; exact now2 _ (by simp) (hnow1 _ hu.2.2.1)
   ·rw [if_neg gl]
    cases z5 with
    | nil=>exact absurd (by rw [u1x,u1l,hukl]; rfl) gl
    | cons hkv hlne hhl zb =>
    rename_i kv v ks3 vs3 l B3
    obtain ⟨m,hGv,hm4,hbm⟩:=hkv
    have hvv:u1.n.vals[u1.nx+1]?=some v:=by
     rw [u1n,u1x,← z3,List.getElem?_append_right (by omega)]
     have:vs1.length+1 - vs1.length=1:=by omega
     rw [this]; rfl
    rw [hvv]
    simp only
    have i1:ES N T1 G (v::(X++((P0.map (·.at')++[u.at'])++(s.at'::(W'++(vs1++(vs3++s.n.vals))))))):=hi1.perm fun x=>by
     simp only [List.map_append,List.map_cons,List.map_nil,List.count_append,List.count_cons,List.count_nil]; omega
    rcases dT i1 (by simp [ho.z]) hGv hbm with ⟨T',e⟩ | ⟨B0,T2,G2,e,i2,o1,o2,w2,go,o0,oK,bm2,kid2,bod2,keep2,now2,g2,gn2⟩
    ·rw [e]; exact .inl ⟨T',rfl⟩
    rw [e]
    simp only [R.bind]
    have hm8:=(hi1.dom v m hGv).2.2.2.2.2
    have eg:A++(del key Lf++(l++B3))=A++((del key Lf++l)++B3):=by simp
    have ht:uK N T2 G2 h s.at' B0 s.n m (del key Lf) l (X++((P0.map (·.at')++[u.at'])++(W'++(vs1++vs3)))):=by
     refine ⟨i2.perm fun x=>?_,by simp [ho.z],gn2 _ ho.me.2.2.1,go,now2 _ (by simp) (hnow1 _ ho.me.1),o1,bod2 _ _ _ hb fun v hv=>by simp [hv],bm2,?_,⟨by omega,h8⟩,⟨by omega,hm8⟩,fun hl v hv=>gn2 v (ho.lv hl v hv),o0.2,⟨by omega,by omega⟩⟩
     ·simp only [List.count_append,List.count_cons,List.count_nil]; omega
     ·rw [eg] at hgA
      exact hgA.right.left
    have huo:u.at'≠B0:=fun e=>oK (by rw [← e]; simp)
    obtain ⟨u2,T3,G3,vs',c1,c2,c3,c4,c5,c6,c7,c8,c9,c10,c11,c12,c13,c14,c15⟩:=oI (P0:=P0) (Rs:=s::Rs) (u:=u1) (k1:=ks1) (k2:=ks3) (v1:=vs1) (v2:=vs3) (LA:=A) (LB:=B3) (ka:=x0) (kb:=kv) (va:=s.at') (vb:=v) ht (by rw [u1n]) z3 (z4.mono fun w hw l'=>kid2 w (by simp [hw]) _ l') (zb.mono fun w hw l'=>kid2 w (by simp [hw]) _ l') (by rw [← eg]; exact hgA) (by omega) (by rw [u1a]; simp) (by rw [u1a]; exact gn2 _ hu.2.2.2.2) (by rw [u1a]; exact hus) (by rw [u1a]; exact huo)
    rw [u1x,c1]
    simp only [R.bind]
    rw [u1a] at c2 c8 c9 c14
    refine hrest u2 T3 G3 c2 (c5.perm fun x=>?_) (by rw [eg]; exact c4) (by omega) (by omega) c8 c9 (fun w hw h' l' hk=>c10 w h' l' (kid2 w (by simp [hw]) h' l' hk)) ((keep2 X fun x hx=>by simp [hx]).trans (c11 X fun x hx=>by simp [hx])) (by rw [c12,w2]) (fun t ht'=>?_) ?_
    ·rw [c3]
     simp only [List.count_append,List.count_cons,List.count_nil]; omega
    ·have hp:=hok1 t ht'
     have hK:t.at'∈X++((P0.map (·.at')++[u.at'])++(s.at'::(W'++(vs1++(vs3++s.n.vals))))):=by simp; exact .inr (.inl ⟨t,ht',rfl⟩)
     have hto:t.at'≠B0:=fun e=>oK (e▸hK)
     refine ⟨hp.1,?_,?_,by rw [c12,w2]; exact hp.2.2.2.1,c15 _ (gn2 _ hp.2.2.2.2) (hsP t ht') hto⟩
     ·rw [c14 _ (hsP t ht') hto (huP t ht'),g2 _ hto]; exact hp.2.1
     ·rw [c13 _ hto]; exact now2 _ hK hp.2.2.1
    ·rw [c13 _ huo]; exact now2 _ (by simp) (hnow1 _ hu.2.2.1)
end Go.Ax.C
set_option maxRecDepth 100000
namespace Go.Ax.C
open Go.Proofs Go.RowKit
variable {N:Nat} {T T':TS} {G:Gh} {L:List KV} {X K:List Nat} {n:Nd}
theorem vT {xs:List Nat} {i a x:Nat} (h:xs[i]?=some a):(xs.take i++xs.drop (i+1)).count x+(if a=x then 1 else 0)=xs.count x:=by
 conv=>rhs; rw [TI h]
 simp only [List.count_append,List.count_cons,beq_iff_eq]
 omega
theorem ES.decs {a:Nat} (h:ES N T G (a::K)) (hz:0∈K) (hd:G a=none):∃ b T',T.dec a=.ok b T'∧ES N T' G K∧T'.was=T.was:=by
 obtain ⟨T',e,i,w,_⟩:=h.dec hz (.inl hd)
 exact ⟨_,T',e,i,w⟩
theorem AA0 {root key:Nat} (hI:ES N T G (tk root X)) (hz:0∈X) (ht:S0 G root L) (hg:ET L) (hN:N≤1024) :
 (NP key L=none→cZ T root key=.ok (root,0,false) T)∧∀ old,NP key L=some old→(∃ T',cZ T root key=.err 8 T')∨∃ to T' G',cZ T root key=.ok (to,old,true) T'∧ES N T' G' (tk to (old::X))∧S0 G' to (del key L)∧EU G G' X∧T'.was=T.was∧G' old=none:=by
 have hlook:=wX (key:=key) hI ht hg hN
 constructor
 ·intro hnone
  unfold cZ
  rw [hlook,hnone]
  simp only [R.bind,Option.isSome_none,if_true]
 intro old hold
 unfold cZ
 rw [hlook,hold]
 simp only [R.bind,Option.isSome_some,Bool.true_eq_false,if_false,Option.getD_some]
 unfold S0 at ht
 by_cases hr:root=0
 ·rw [if_pos hr] at ht; subst ht; simp [NP] at hold
 rw [if_neg hr] at ht
 unfold tk at hI
 rw [if_neg hr] at hI
 obtain ⟨h,n,hG,hb,h2⟩:=ht
 have hh:=aM hI hN hb hg h2
 have hf:=(hI.dom root n hG).2.2.2.2
 have hw:Way N T G hd [] h root n L [] [] [] X :=
  ⟨hI.perm fun x=>by simp [List.count_append,List.count_cons],hz,.top _ _ _,fun s hs=>by simp at hs,hG,hb,hf.1,hf.2,fun e=>absurd rfl e,fun _=>h2⟩
 rcases VL (lower:=false) (key:=key) rfl h 12 [] root n T G L [] [] [] hw (by simpa using hg) (by simp) (by simp) (by omega) with ⟨T',e⟩ | ⟨P',s,T1,G1,W,Lf,L1,L2,e,ho,hsv,hb1,hsz,hk,hL,hl1,hl2,hws⟩
 ·rw [e]; exact .inl ⟨T',rfl⟩
 rw [e]
 simp only
 have hlast:(P'++[s])[(P'++[s]).length - 1]?=some s:=by simp
 rw [hlast]
 simp only
 have hL':L=L1++(Lf++L2):=by simpa using hL.symm
 have hlkp:NP key L=NP key Lf:=by rw [hL',dV hl1,VA hl2]
 have hgL:=hg
 rw [hL'] at hgL
 have hgf:ET Lf:=hgL.right.left
 obtain ⟨hb0,hbl,hbz⟩:=hb1
 have hks:s.n.keys.Pairwise (·<·):=by have:=hgf.1; rw [hbz,X7 hbl] at this; exact this
 have hfind:=U3 (key:=key) hbl hks
 rw [← hbz,← hlkp,hold] at hfind
 have hsN:s.at'<N:=ho.inv.tok _ (by simp)
 have hlv0:=ho.lv hb0
 have gk:s.n.keys[A7 s.n.keys key]?=some key:=by
  by_cases g:s.n.keys[A7 s.n.keys key]?=some key
  ·exact g
  ·rw [if_neg g] at hfind; cases hfind
 rw [if_pos gk] at hfind
 have hil:=(List.getElem?_eq_some_iff.1 gk).1
 rw [if_pos hil]
 have hbn:MQ G1 0 (s.n.remN (A7 s.n.keys key)) (del key Lf):=⟨hb0,by simp [Nd.remN,VY,hbl],by rw [hbz]; exact (mY hbl gk).symm⟩
 have hkl:(s.n.remN (A7 s.n.keys key)).keys.length+1=s.n.keys.length:=by
  simp only [Nd.remN,VY,List.length_append,List.length_take,List.length_drop]; omega
 have h8:=hsz.2.1
 obtain ⟨T4,hT4,hg4,hT4p⟩:∃ T4,gP T1 s.at' (s.n.remN (A7 s.n.keys key))=.ok () T4∧((s.n.remN (A7 s.n.keys key)).fits→T4.g s.at'=.nd (s.n.remN (A7 s.n.keys key)))∧(T4=T1∨T4=T1.put s.at' (s.n.remN (A7 s.n.keys key))):=by
  by_cases gf:1≤(s.n.remN (A7 s.n.keys key)).keys.length
  ·have hm:=HG ho.inv hbn (eV hgf) gf (by omega)
   exact ⟨_,R4 hm (by rw [ho.inv.n1]; exact hsN),fun _=>by simp [TS.put],.inr rfl⟩
  ·refine ⟨T1,?_,fun hf=>absurd hf.1 gf,.inl rfl⟩
   unfold gP
   rw [if_neg fun hf=>gf hf.1]
 have hws3:DD (P'++[s]) ((P'++[s]).length - 1) (s.n.remN (A7 s.n.keys key)) T1=.ok (P'++[{ s with n:=s.n.remN (A7 s.n.keys key) }]) T4:=by
  unfold DD
  rw [hlast]
  simp only
  rw [hT4]
  simp [R.bind,List.set_append]
 rw [hws3]
 simp only
 have hop:lZ N T4 G1 hd P' 0 { s with n:=s.n.remN (A7 s.n.keys key) } Lf L1 L2 W (old::X):=by
  have hperm:∀ x,(old::X++((P'.map (·.at')++[s.at'])++(W++(s.n.remN (A7 s.n.keys key)).vals))).count x=(X++((P'.map (·.at')++[s.at'])++(W++s.n.vals))).count x:=fun x=>by
   have:(s.n.remN (A7 s.n.keys key)).vals.count x+(if old=x then 1 else 0)=s.n.vals.count x:=vT hfind.symm
   simp only [List.count_append,List.count_cons,beq_iff_eq,List.count_nil,List.cons_append]
   omega
  have hlv:cF G1 (s.n.remN (A7 s.n.keys key)):=ho.lv.of fun _=>⟨hb0,fun v hv=>by
   rcases List.mem_append.1 hv with hv | hv
   ·exact List.mem_of_mem_take hv
   ·exact List.mem_of_mem_drop hv⟩
  rcases hT4p with e | e
  ·rw [e]; exact ⟨ho.inv.perm hperm,by simp [hz],ho.zip,ho.ok,ho.me,hlv⟩
  ·rw [e]; exact ⟨(ho.inv.put ho.me.2.2.1).perm hperm,by simp [hz],ho.zip,ho.ok.put ho.ne,ho.me,hlv⟩
 have hw4:T4.was=T1.was:=by rcases hT4p with e | e<;>rw [e]<;>rfl
 have V0:=ACV P'.length P' [] 0 _ _ _ Lf L1 L2 W rfl hop hg4 hbn (by simp only; omega) (fun e=>by have:=hsz.2.2.1 e; simp only; omega) (fun _ hl=>by have:s.n.leaf=false:=hl; rw [hb0] at this; cases this) hgL hl1 hl2
 have hlenP2:(P'++[({ s with n:=s.n.remN (A7 s.n.keys key) }:Wp)]).length=P'.length+1:=by simp
 rw [hlenP2]
 rcases V0 with ⟨T',e⟩ | ⟨p,Q,T',G',H,e,i,a1,a2,a3,a4,a5,a6,a7,a8,a9,a10⟩
 ·rw [e]; exact .inl ⟨T',rfl⟩
 rw [e]
 right
 simp only
 rw [← hL'] at a4
 have hkeep:EU G G' X:=hk.trans (a8.sub fun x hx=>by simp [hx])
 have hwas:T'.was=T.was:=by rw [a9,hw4,hws]
 have hGo:G' old=none:=(a8 old (by simp)).1 (hlv0 old (List.mem_of_getElem? hfind.symm))
 have hpl:=ZL a4
 unfold oC
 simp only [List.getElem?_cons_zero]
 by_cases g0:p.n.keys.length=0
 ·rw [if_pos g0]
  have hv0:p.n.vals=[]:=List.length_eq_zero_iff.1 (by omega)
  rw [hv0] at i
  have i1:ES N T' G' (p.at'::(old::X)):=i.perm fun x=>by simp only [List.count_append,List.count_cons,List.count_nil]; omega
  obtain ⟨b,T5,e5,i5,w5⟩:=i1.decs (by simp [hz]) a2
  rw [e5]
  simp only [R.bind]
  refine ⟨0,T5,G',rfl,by unfold tk; rw [if_pos rfl]; exact i5,?_,hkeep,by rw [w5,hwas],hGo⟩
  unfold S0
  rw [if_pos rfl]
  by_cases gd:del key L=[]
  ·exact gd
  ·exact absurd (List.length_eq_zero_iff.1 g0) ((M7 a4).1 gd)
 rw [if_neg g0]
 by_cases g1:p.n.leaf=false∧p.n.keys.length=1
 ·rw [if_pos g1]
  cases H with
  | zero=>rw [a4.1] at g1; cases g1.1
  | succ H =>
  obtain ⟨v,hv⟩:∃ v,p.n.vals=[v]:=List.length_eq_one_iff.1 (by omega)
  obtain ⟨k0,hk0⟩:∃ k0,p.n.keys=[k0]:=List.length_eq_one_iff.1 g1.2
  have hkid:JA G' H v (del key L):=by
   have hkk:=a4.2
   rw [hv,hk0] at hkk
   generalize hdl:del key L=D at hkk
   cases hkk with
   | cons b1 b2 b3 b4=>cases b4; rw [List.append_nil]; exact b1
  rw [hv]
  simp only [List.getElem?_cons_zero]
  rw [hv] at i
  have i1:ES N T' G' (p.at'::(v::old::X)):=i.perm fun x=>by simp only [List.count_append,List.count_cons,List.count_nil]; omega
  obtain ⟨b,T5,e5,i5,w5⟩:=i1.decs (by simp [hz]) a2
  rw [e5]
  simp only [R.bind]
  obtain ⟨m,hm,hm4,hmb⟩:=hkid
  have hv0:=(i5.dom v m hm).2.1
  refine ⟨v,T5,G',rfl,by unfold tk; rw [if_neg hv0]; exact i5,?_,hkeep,by rw [w5,hwas],hGo⟩
  unfold S0
  rw [if_neg hv0]
  exact ⟨H,m,hm,hmb,fun _=>by omega⟩
 rw [if_neg g1]
 have hfit:p.n.fits:=⟨by omega,a5⟩
 refine ⟨p.at',T',gset G' p.at' (some p.n),rfl,?_,?_,hkeep.trans (.set a2 fun hx=>by have:=List.count_pos_iff.2 hx; have h0:=(i.now1 a1 (by simp)).1; simp only [List.count_append,List.count_cons] at h0; simp at h0; omega),hwas,((EU.set a2 fun hx=>by have:=List.count_pos_iff.2 hx; have h0:=(i.now1 a1 (by simp)).1; rw [List.count_append,List.count_cons_self] at h0; omega:EU G' _ (old::X)) old (by simp)).1 hGo⟩
 ·unfold tk
  rw [if_neg a3]
  refine ES.close (i.perm fun x=>?_) a2 (by simp) a1 (a7 hfit) hfit a3 (PS a4 a10) (by simp [hz])
  simp only [List.count_append,List.count_cons]; omega
 ·unfold S0
  rw [if_neg a3]
  refine ⟨H,p.n,DL,FJ a2 a4,fun hl=>?_⟩
  have:=a6 hl
  have:p.n.keys.length≠1:=fun e=>g1 ⟨hl,e⟩
  omega
end Go.Ax.C
set_option maxRecDepth 100000
namespace Go.Ax.C
open Go.Proofs Go.RowKit
variable {T T':TS} {α β:Type} {k k':Nat}
def sZ (T:TS):Nat:=(O4 T.now T.was).count true
structure IA (k:Nat) (T:TS):Prop where
 len:T.was.length=T.now.length
 one:∀ (x c:Nat),T.now[x]?=some c→c≤1
 fr:k≤sZ T
def JG (k:Nat) (p:α→Prop):R α→Prop
 | .ok a T=>p a∧IA k T
 | .err e _=>e≠8
 | .stuck=>True
variable {p:α→Prop} {q:β→Prop}
theorem IA.mono (h:IA k T) (hk:k'≤k):IA k' T:=⟨h.len,h.one,Nat.le_trans hk h.fr⟩
theorem BF {r:R α} {f:α→TS→R β} (h:JG k p r) (hf:∀ a T,p a→IA k T→JG k' q (f a T)):JG k' q (r.bind f):=by
 cases r with
 | ok a T=>exact hf a T h.1 h.2
 | err e T=>exact h
 | stuck=>trivial
theorem Y6 {r:R α} (h:JG k p r):JG k (fun _=>True) r:=by
 cases r with
 | ok a T=>exact ⟨trivial,h.2⟩
 | err e T=>exact h
 | stuck=>trivial
theorem IA.put {a:Nat} {n:Nd} (h:IA k T):IA k (T.put a n):=⟨h.len,h.one,h.fr⟩
theorem sX {a c x y:Nat} (hx:T.now[a]?=some x) (hy:T.was[a]?=some y):sZ { T with now:=T.now.set a c }+(if (x == 0 && y == 0)=true then 1 else 0)=sZ T+(if (c == 0 && y == 0)=true then 1 else 0):=by
 unfold sZ
 simp only
 rw [ZP hy]
 have hf:=OZ hx hy
 obtain ⟨h1,h2⟩:=List.getElem?_eq_some_iff.1 hf
 rw [List.count_set h1,h2]
 have:=List.count_pos_iff (a:=true) (l:=O4 T.now T.was)
 by_cases g:(x == 0 && y == 0)=true
 ·rw [g] at h2 ⊢
  have hm:true∈O4 T.now T.was:=h2▸List.getElem_mem h1
  have:=List.count_pos_iff.2 hm
  by_cases g2:(c == 0 && y == 0)=true
  ·rw [g2]; simp; omega
  ·rw [Bool.not_eq_true] at g2; rw [g2]; simp; omega
 ·rw [Bool.not_eq_true] at g; rw [g]
  by_cases g2:(c == 0 && y == 0)=true
  ·rw [g2]; simp
  ·rw [Bool.not_eq_true] at g2; rw [g2]; simp
theorem sU {a c:Nat} (h:∀ (x c:Nat),T.now[x]?=some c→c≤1) (hc:c≤1):∀ (x d:Nat),(T.now.set a c)[x]?=some d→d≤1:=fun x d hd=>by
 by_cases g:x=a
 ·subst g
  rw [List.getElem?_set_self'] at hd
  cases hn:T.now[x]? with
  | none=>rw [hn] at hd; cases hd
  | some z=>rw [hn] at hd; cases hd; exact hc
 ·rw [List.getElem?_set_ne (Ne.symm g)] at hd; exact h x d hd
theorem R5 (h:IA (k+1) T):JG k (fun _=>True) T.alloc:=by
 unfold TS.alloc
 cases hl:SM T.now T.was with
 | none =>
   exfalso
   unfold SM at hl
   rw [List.findIdx?_eq_none_iff] at hl
   have:(O4 T.now T.was).count true=0:=List.count_eq_zero.2 fun hm=>by have:=hl true hm; simp at this
   have h1:=h.fr
   unfold sZ at h1
   omega
 | some a =>
   obtain ⟨h0,hw⟩:=XG hl
   have:=sX (c:=1) h0 hw
   have h1:=h.fr
   refine ⟨trivial,by simp [h.len],sU h.one (by omega),?_⟩
   simp at this
   omega
theorem QC {a:Nat} (h:IA k T):JG k (fun _=>True) (T.dec a):=by
 unfold TS.dec
 cases hl:T.now[a]? with
 | none=>trivial
 | some x =>
   simp only
   split
   ·show 6≠8; omega
   ·rename_i hx
    have h1:=h.one a x hl
    have ha:=(List.getElem?_eq_some_iff.1 hl).1
    obtain ⟨y,hy⟩:∃ y,T.was[a]?=some y:=⟨_,List.getElem?_eq_getElem (by rw [h.len]; exact ha)⟩
    have:=sX (c:=x - 1) hl hy
    have h2:=h.fr
    refine ⟨trivial,by simp [h.len],sU h.one (by omega),?_⟩
    have e:x=1:=by omega
    subst e
    simp at this
    have:sZ { T with now:=T.now.set a (1 - 1) } ≥ sZ T:=by simp only [Nat.sub_self]; rw [this]; split<;>omega
    omega
theorem UN {a:Nat} (h:IA (k+1) T):JG k (fun _=>True) (T.shadow a):=by
 unfold TS.shadow
 cases T.node a with
 | none=>trivial
 | some n =>
   cases hx:T.now[a]? with
   | none=>trivial
   | some x =>
     cases hy:T.was[a]? with
     | none=>trivial
     | some y =>
       simp only
       split
       ·exact ⟨trivial,h.mono (by omega)⟩
       ·split
        ·trivial
        ·refine BF (R5 h) fun B0 T1 _ h1=>?_
         have:=h.one a x hx
         rw [if_neg (by omega)]
         simp only [R.bind]
         exact BF (QC h1) fun _ T2 _ h2=>⟨trivial,h2.put⟩
theorem pG {a:Nat} {n:Nd} (h:IA k T):JG k (fun _=>True) (gP T a n):=by
 unfold gP
 split
 ·split
  ·split
   ·exact ⟨trivial,h.put⟩
   ·trivial
  ·show 1≠8; omega
 ·exact ⟨trivial,h⟩
theorem aF {a:Nat} {n:Nd} (h:IA k T):JG k (fun _=>True) (YO T a n):=by
 unfold YO
 split
 ·split
  ·exact ⟨trivial,h.put⟩
  ·trivial
 ·show 1≠8; omega
variable {P:List Wp} {m:Nat}
theorem VD {i j key val:Nat} (h:IA k T) (hm:P.length≤m):JG k (fun P:List Wp=>P.length≤m) (ND P j i key val T):=by
 unfold ND
 split
 ·trivial
 ·split
  ·exact BF (pG h) fun _ T _ h=>⟨by simpa using hm,h⟩
  ·trivial
theorem LD {j:Nat} {n:Nd} (h:IA k T) (hm:P.length≤m):JG k (fun P:List Wp=>P.length≤m) (DD P j n T):=by
 unfold DD
 split
 ·trivial
 ·exact BF (pG h) fun _ T _ h=>⟨by simpa using hm,h⟩
theorem xB {a B0:Nat} (h:IA k T) (hm:P.length≤m):JG k (fun P:List Wp=>P.length≤m) (fD P a B0 T):=by
 unfold fD
 split
 ·exact ⟨hm,h⟩
 ·split
  ·exact ⟨hm,h⟩
  ·split
   ·trivial
   ·exact VD h hm
theorem AAF {lower:Bool} {key:Nat} {n:Nd} (h:IA k T) (hm:P.length≤m):JG k (fun P:List Wp=>P.length≤m) (lX lower key P n T):=by
 unfold lX
 split
 ·split
  ·exact VD h hm
  ·exact ⟨hm,h⟩
 ·trivial
theorem ZZ {lower:Bool} {key:Nat}:∀ (f:Nat) (P:List Wp) (a:Nat) (T:TS),IA (f+k) T→P.length+f≤m→JG k (fun P:List Wp=>P.length≤m) (F1 lower key f P a T)
 | 0,P,a,T,h,hm=>by show 23≠8; omega
 | f+1,P,a,T,h,hm=>by
   unfold F1
   refine BF (UN (k:=f+k) (h.mono (by omega))) fun q T1 _ h1=>?_
   refine BF (xB (m:=P.length) h1 (Nat.le_refl _)) fun P1 T2 hP h2=>?_
   split
   ·exact ⟨by simp only [List.length_append,List.length_cons,List.length_nil]; omega,h2.mono (by omega)⟩
   ·refine BF (AAF (m:=P.length+1) h2 (by simp only [List.length_append,List.length_cons,List.length_nil]; omega)) fun P2 T3 hP2 h3=>?_
    unfold fV
    split
    ·trivial
    ·split
     ·trivial
     ·exact ZZ f _ _ _ h3 (by rw [List.length_set]; omega)
theorem Z1 {n:Nd} (h:IA (k+1) T):JG k (fun _=>True) (T.make n):=by
 unfold TS.make
 split
 ·exact BF (R5 h) fun a T1 _ h1=>⟨trivial,h1.put⟩
 ·show 1≠8; omega
theorem gJ {i:Nat} (h:IA (k+2) T):JG k (fun _=>True) (FX P i T):=by
 unfold FX
 split
 ·trivial
 ·split
  ·exact ⟨trivial,h.mono (by omega)⟩
  ·refine BF (LD (m:=P.length) h (Nat.le_refl _)) fun P1 T1 _ h1=>?_
   refine BF (Z1 (k:=k+1) h1) fun a T2 _ h2=>?_
   split
   ·split
    ·split
     ·trivial
     ·split
      ·exact Y6 (LD (m:=P1.length) (h2.mono (Nat.le_succ k)) (Nat.le_refl _))
      ·trivial
    ·exact BF (Z1 h2) fun top T3 _ h3=>⟨trivial,h3⟩
   ·trivial
theorem sP {f:List Wp→Nat→TS→R (List Wp)} {c:Nat} (hf:∀ (k:Nat) (P:List Wp) (i:Nat) (T:TS),IA (k+c) T→JG k (fun _=>True) (f P i T)):∀ (n k:Nat) (P:List Wp) (T:TS),IA (n*c+k) T→JG k (fun _=>True) (dJ f n P T)
 | 0,k,P,T,h=>⟨trivial,h.mono (by omega)⟩
 | n+1,k,P,T,h=>BF (hf (n*c+k) P n T (h.mono (by rw [Nat.add_mul]; omega))) fun P T _ h=>sP hf n k P T h
theorem eT {f:List Wp→Nat→TS→R (List Wp)} {c:Nat} (hf:∀ (k:Nat) (P:List Wp) (i:Nat) (T:TS),IA (k+c) T→JG k (fun _=>True) (f P i T)) {n:Nat} (hn:n≤12) (h:IA (12*c+k) T):JG k (fun _=>True) (dJ f n P T) :=
 sP hf n k P T (h.mono (by have:=Nat.mul_le_mul_right c hn; omega))
theorem nT {old:Nat} {had:Bool} (h:IA k T):JG k (fun _=>True) (oE P old had T):=by
 unfold oE
 split
 ·trivial
 ·exact ⟨trivial,h⟩
theorem yV {root key val:Nat} (h:IA (k+40) T):JG k (fun _=>True) (Y4 T root key val):=by
 unfold Y4
 split
 ·show 1≠8; omega
 ·split
  ·exact BF (Z1 (k:=k) (h.mono (by omega))) fun a T _ h=>⟨trivial,h⟩
  ·refine BF (ZZ (k:=k+24) (m:=12) 12 [] _ _ (h.mono (by omega)) (by simp)) fun P1 T1 hP h1=>?_
   split
   ·trivial
   ·split
    ·split
     ·trivial
     ·refine BF (VD (m:=12) h1 hP) fun P2 T2 hP2 h2=>?_
      exact BF (eT (k:=k) (c:=2) (fun k P i T h=>gJ h) hP2 (h2.mono (by omega))) fun P3 T3 _ h3=>nT h3
    ·split
     ·refine BF (LD (m:=12) h1 hP) fun P2 T2 hP2 h2=>?_
      exact BF (eT (k:=k) (c:=2) (fun k P i T h=>gJ h) hP2 (h2.mono (by omega))) fun P3 T3 _ h3=>nT h3
     ·trivial
theorem yO {j:Nat} {x up:Wp} (h:IA k T):JG k (fun _=>True) (fU P j x up T):=by
 unfold fU
 split
 ·split
  ·split
   ·exact ⟨trivial,h⟩
   ·exact Y6 (VD (m:=P.length) h (Nat.le_refl _))
  ·trivial
 ·exact ⟨trivial,h⟩
theorem e9 {j left right aa ab:Nat} {upn an bn:Nd} (h:IA k T):JG k (fun _=>True) (IH P j upn left right aa an ab bn T):=by
 unfold IH
 split
 ·split
  ·refine BF (aF h) fun _ T1 _ h1=>?_
   refine BF (QC h1) fun _ T2 _ h2=>?_
   split
   ·trivial
   ·exact Y6 (LD (m:=P.length) h2 (Nat.le_refl _))
  ·refine BF (aF h) fun _ T1 _ h1=>?_
   refine BF (aF h1) fun _ T2 _ h2=>?_
   split
   ·exact Y6 (LD (m:=P.length) h2 (Nat.le_refl _))
   ·trivial
 ·trivial
theorem mT {j:Nat} {x up:Wp} (h:IA (k+1) T):JG k (fun _=>True) (VK P j x up T):=by
 unfold VK
 split
 ·split
  ·show 23≠8; omega
  ·split
   ·trivial
   ·exact BF (UN h) fun q T1 _ h1=>e9 h1
 ·split
  ·trivial
  ·exact BF (UN h) fun q T1 _ h1=>e9 h1
theorem vR {i:Nat} (h:IA (k+1) T):JG k (fun _=>True) (Q9 P i T):=by
 unfold Q9
 split
 ·exact ⟨trivial,h.mono (by omega)⟩
 ·split
  ·refine BF (yO h) fun P1 T1 _ h1=>?_
   split
   ·exact ⟨trivial,h1.mono (by omega)⟩
   ·split
    ·trivial
    ·exact mT h1
  ·trivial
theorem iV {key:Nat}:∀ (f a:Nat),IA k T→JG k (fun _=>True) (CB key f a T)
 | 0,a,h=>by
   unfold CB
   split
   ·exact ⟨trivial,h⟩
   ·show 23≠8; omega
 | f+1,a,h=>by
   unfold CB
   split
   ·exact ⟨trivial,h⟩
   ·split
    ·trivial
    ·split
     ·split
      ·split
       ·exact ⟨trivial,h⟩
       ·trivial
      ·exact ⟨trivial,h⟩
     ·split
      ·exact iV f _ h
      ·trivial
theorem uL {old:Nat} (h:IA k T):JG k (fun _=>True) (oC P old T):=by
 unfold oC
 split
 ·trivial
 ·split
  ·exact BF (QC h) fun _ T _ h=>⟨trivial,h⟩
  ·split
   ·split
    ·trivial
    ·exact BF (QC h) fun _ T _ h=>⟨trivial,h⟩
   ·exact ⟨trivial,h⟩
theorem wY {root key:Nat} (h:IA (k+40) T):JG k (fun _=>True) (cZ T root key):=by
 unfold cZ
 refine BF (iV 12 _ h) fun q T1 _ h1=>?_
 split
 ·exact ⟨trivial,h1.mono (by omega)⟩
 ·refine BF (ZZ (k:=k+12) (m:=12) 12 [] _ _ (h1.mono (by omega)) (by simp)) fun P1 T2 hP h2=>?_
  split
  ·trivial
  ·split
   ·refine BF (LD (m:=12) h2 hP) fun P2 T3 hP2 h3=>?_
    exact BF (eT (k:=k) (c:=1) (fun k P i T h=>vR h) hP2 (h3.mono (by omega))) fun P4 T4 _ h4=>uL h4
   ·trivial
end Go.Ax.C
