/- Proved: 'TreeEmpties' returns true,for every input; no condition. By a calculus of weakest preconditions over an abstract heap,which is sound for the machine. -/
import Derived.Test.YtcnceningjookaaGreatTe8
import Derived.Test.YtcnceningjookaaGreatRows
import Derived.WalkKit
import Derived.ProofKit
import Derived.OpenShut
import Derived.SizedLaws
set_option linter.unusedVariables false
set_option linter.unusedSimpArgs false
set_option linter.unnecessarySimpa false
set_option linter.constructorNameAsVariable false
set_option maxRecDepth 100000
namespace Go.Ax.C
open Go.Proofs Go.RowKit
variable {N:Nat} {T T':TS} {G:Gh} {L:List KV} {X K:List Nat} {n:Nd}
theorem sD {V:Nat→Prop} (h:ES N T G K) (hr:∀ r∈K,G r≠none→V r) (hc:∀ b n,V b→G b=some n→n.leaf=false→∀ v∈n.vals,V v):∀ b n,G b=some n→V b:=by
 obtain ⟨ht,hh⟩:=h.hgt
 obtain ⟨M,hM⟩:=qJ ht (List.range N)
 have key:∀ (d b:Nat) (n:Nd),G b=some n→M - ht b≤d→V b:=by
  intro d
  induction d with
  | zero =>
    intro b n hb hd
    have:=hM b (List.mem_range.2 (h.dom b n hb).1)
    omega
  | succ d ih =>
    intro b n hb hd
    have hbM:=hM b (List.mem_range.2 (h.dom b n hb).1)
    by_cases g:0<K.count b
    ·exact hr b (List.count_pos_iff.1 g) (by rw [hb]; simp)
    ·have:=(h.dom b n hb).2.2.1
     obtain ⟨b',n',h1,h2,h3⟩:=mE (G:=G) (x:=b) (N:=N) (by omega)
     have hl:n'.leaf=false:=by
      cases hl:n'.leaf with
      | false=>rfl
      | true=>have:=h.lfv b' n' h2 hl b h3; rw [hb] at this; cases this
     have hlt:=hh b' n' h2 hl b h3
     have hb'M:=hM b' (List.mem_range.2 h1)
     exact hc b' n' (ih b' n' h2 (by omega)) h2 hl b h3
 exact fun b n hb=>key _ b n hb (Nat.le_refl _)
def aL (G:Gh) (l:List KV) (bs:List Nat):Prop:=∀ b∈bs,∀ n,G b=some n→(n.leaf=false→∀ w∈n.vals,w∈bs)∧(n.leaf=true→∀ w∈n.vals,w∈l.map (·.2))
theorem aL.app {A B:List KV} {bs cs:List Nat} (h1:aL G A bs) (h2:aL G B cs):aL G (A++B) (bs++cs):=fun b hb n hn=>by
 rcases List.mem_append.1 hb with hb | hb
 ·exact ⟨fun hl w hw=>by simp [(h1 b hb n hn).1 hl w hw],fun hl w hw=>by rw [List.map_append]; exact List.mem_append_left _ ((h1 b hb n hn).2 hl w hw)⟩
 ·exact ⟨fun hl w hw=>by simp [(h2 b hb n hn).1 hl w hw],fun hl w hw=>by rw [List.map_append]; exact List.mem_append_right _ ((h2 b hb n hn).2 hl w hw)⟩
theorem aL.one {b:Nat} {bs:List Nat} (h:aL G L bs) (hb:G b=some n) (hl:n.leaf=false) (hv:∀ v∈n.vals,v∈bs):aL G L (b::bs):=fun x hx m hm=>by
 rcases List.mem_cons.1 hx with rfl | hx
 ·rw [hb] at hm; cases hm
  exact ⟨fun _ w hw=>by simp [hv w hw],fun h'=>by rw [hl] at h'; cases h'⟩
 ·exact ⟨fun hl w hw=>by simp [(h x hx m hm).1 hl w hw],(h x hx m hm).2⟩
theorem DQ.blocks {t:Nat→List KV→Prop} {ks vs:List Nat} (h:DQ t ks vs L) (ht:∀ v l,t v l→∃ bs,v∈bs∧3*bs.length+1≤l.length∧aL G l bs):∃ bs,(∀ v∈vs,v∈bs)∧3*bs.length+ks.length≤L.length∧aL G L bs:=by
 induction h with
 | nil=>exact ⟨[],by simp,by simp,fun b hb=>by simp at hb⟩
 | cons h1 _ _ _ ih =>
   obtain ⟨bs,b1,b2,b3⟩:=ht _ _ h1
   obtain ⟨cs,c1,c2,c3⟩:=ih
   refine ⟨bs++cs,fun v hv=>?_,by simp only [List.length_append,List.length_cons]; omega,b3.app c3⟩
   rcases List.mem_cons.1 hv with rfl | hv
   ·simp [b1]
   ·simp [c1 v hv]
theorem iS {b:Nat} (hb:G b=some n) (h0:MQ G 0 n L):aL G L [b]:=fun x hx m hm=>by
 simp only [List.mem_singleton] at hx
 subst hx
 rw [hb] at hm; cases hm
 refine ⟨fun h=>absurd (h0.1.symm.trans h) (by simp),fun _ w hw=>?_⟩
 obtain ⟨_,h2,rfl⟩:=h0
 obtain ⟨k,hk⟩:=l7 h2 hw
 exact List.mem_map.2 ⟨_,hk,rfl⟩
theorem fN:∀ (h v:Nat) (l:List KV),JA G h v l→∃ bs,v∈bs∧3*bs.length+1≤l.length∧aL G l bs
 | 0,v,l,⟨m,hm,h4,hb⟩=>by
   refine ⟨[v],by simp,?_,iS hm hb⟩
   obtain ⟨_,h2,rfl⟩:=hb
   simp only [List.length_zip,List.length_cons,List.length_nil]; omega
 | h+1,v,l,⟨m,hm,h4,hb⟩=>by
   obtain ⟨bs,b1,b2,b3⟩:=hb.2.blocks (G:=G) fun v l hk=>fN h v l hk
   exact ⟨v::bs,by simp,by simp only [List.length_cons]; omega,b3.one hm hb.1 b1⟩
theorem uV {r:Nat} (h:Rt G r L):∃ bs,r∈bs∧3*bs.length≤L.length+3∧aL G L bs:=by
 obtain ⟨h,n,hG,hb,h2⟩:=h
 cases h with
 | zero=>exact ⟨[r],by simp,by simp,iS hG hb⟩
 | succ h =>
   obtain ⟨bs,b1,b2,b3⟩:=hb.2.blocks (G:=G) fun v l hk=>fN h v l hk
   have:=h2 hb.1
   exact ⟨r::bs,by simp,by simp only [List.length_cons]; omega,b3.one hG hb.1 b1⟩
theorem xE {root:Nat} (hI:ES N T G (tk root X)) (ht:S0 G root L) (hX:∀ x∈X,G x=none):∃ bs,3*bs.length≤L.length+3∧(∀ b n,G b=some n→b∈bs)∧∀ x c,T.now[x]?=some c→c≠0→x∈X++(bs++L.map (·.2)):=by
 obtain ⟨bs,hr,hl,hc⟩:∃ bs,(root≠0→root∈bs)∧3*bs.length≤L.length+3∧aL G L bs:=by
  unfold S0 at ht
  by_cases h0:root=0
  ·exact ⟨[],fun h=>absurd h0 h,by simp,fun b hb=>by simp at hb⟩
  ·rw [if_neg h0] at ht
   obtain ⟨bs,a,b,c⟩:=uV ht
   exact ⟨bs,fun _=>a,b,c⟩
 have hdom:∀ b n,G b=some n→b∈bs:=sD (V:=fun b=>b∈bs) hI (fun r hr' hne=>by
  unfold tk at hr'
  by_cases h0:root=0
  ·rw [if_pos h0] at hr'; exact absurd (hX r hr') hne
  ·rw [if_neg h0] at hr'
   rcases List.mem_cons.1 hr' with rfl | hr'
   ·exact hr h0
   ·exact absurd (hX r hr') hne) fun b n hb hn hl v hv=>(hc b hb n hn).1 hl v hv
 refine ⟨bs,hl,hdom,fun x c hx h0=>?_⟩
 have hxN:x<N:=hI.n1▸(List.getElem?_eq_some_iff.1 hx).1
 rw [hI.cnt x hxN] at hx
 simp only [Option.some.injEq] at hx
 by_cases g:0<(tk root X).count x
 ·have:=List.count_pos_iff.1 g
  unfold tk at this
  by_cases hr0:root=0
  ·rw [if_pos hr0] at this; simp [this]
  ·rw [if_neg hr0] at this
   rcases List.mem_cons.1 this with rfl | this
   ·simp [hr hr0]
   ·simp [this]
 ·obtain ⟨b,n,h1,h2,h3⟩:=mE (G:=G) (x:=x) (N:=N) (by omega)
  have hb:=hdom b n h2
  cases hlf:n.leaf with
  | false=>have:=(hc b hb n h2).1 hlf x h3; simp [this]
  | true=>have:=(hc b hb n h2).2 hlf x h3; rw [List.mem_append,List.mem_append]; exact .inr (.inr this)
theorem XR:∀ (xs:List Bool) (o:Nat) (U:List Nat),(∀ i,xs[i]?=some false→o+i∈U)→xs.length≤xs.count true+U.length
 | [],_,_,_=>by simp
 | true::xs,o,U,h=>by
   have:=XR xs (o+1) U fun i hi=>by
    have:=h (i+1) (by simpa using hi)
    rw [show o+1+i=o+(i+1) by omega]; exact this
   simp only [List.length_cons,List.count_cons_self]; omega
 | false::xs,o,U,h=>by
   have ho:o∈U:=by simpa using h 0 rfl
   have:=XR xs (o+1) (U.erase o) fun i hi=>by
    have:=h (i+1) (by simpa using hi)
    rw [show o+1+i=o+(i+1) by omega]
    exact (List.mem_erase_of_ne (by omega)).2 this
   rw [List.length_erase_of_mem ho] at this
   have hpos:=List.length_pos_of_mem ho
   simp only [List.length_cons]
   rw [List.count_cons_of_ne (by simp)]
   omega
theorem ACC {U:List Nat} (hl:T.was.length=T.now.length) (h:∀ (x a b:Nat),T.now[x]?=some a→T.was[x]?=some b→(a≠0∨b≠0)→x∈U):T.now.length≤sZ T+U.length:=by
 have:=XR (O4 T.now T.was) 0 U fun i hi=>by
  have hil:=(List.getElem?_eq_some_iff.1 hi).1
  rw [X9 hl] at hil
  obtain ⟨a,ha⟩:∃ a,T.now[i]?=some a:=⟨_,List.getElem?_eq_getElem hil⟩
  obtain ⟨b,hb⟩:∃ b,T.was[i]?=some b:=⟨_,List.getElem?_eq_getElem (by omega)⟩
  rw [OZ ha hb] at hi
  rw [Nat.zero_add]
  refine h i a b ha hb ?_
  by_cases g:a=0
  ·right; intro e; rw [g,e] at hi; simp at hi
  ·exact .inl g
 rw [X9 hl] at this
 exact this
end Go.Ax.C
set_option maxRecDepth 100000
namespace Go.Ax.C
open Go.Proofs Go.RowKit
variable {N:Nat} {T T':TS} {G:Gh} {L:List KV} {key val:Nat}
theorem tL {o:Nat} (h:NP key L=some o):(key,o)∈L:=by
 induction L with
 | nil=>cases h
 | cons p L ih =>
   unfold NP at h
   split at h
   ·rename_i e
    cases h
    exact List.mem_cons.2 (.inl (by rw [← e]))
   ·exact List.mem_cons_of_mem _ (ih h)
theorem xG (h:key∈L.map (·.1)):∃ o,NP key L=some o:=by
 induction L with
 | nil=>simp at h
 | cons p L ih =>
   unfold NP
   split
   ·exact ⟨_,rfl⟩
   ·rename_i g
    rw [List.map_cons] at h
    rcases List.mem_cons.1 h with e | h
    ·exact absurd e.symm g
    ·exact ih h
theorem iN (h:NP key L=none):((ins key val L).map (·.1)).Perm (key::L.map (·.1)):=by
 induction L with
 | nil=>exact .refl _
 | cons p L ih =>
   unfold NP at h
   split at h
   ·cases h
   rename_i g
   unfold ins
   split
   ·simp only [List.map_cons]
    exact ((ih h).cons p.1).trans (.swap _ _ _)
   ·(try rw [if_neg g])
    exact .refl _
theorem gW (hg:ET L) {o:Nat} (h:NP key L=some o):(ins key val L).map (·.1)=L.map (·.1):=by
 induction L with
 | nil=>cases h
 | cons p L ih =>
   obtain ⟨h1,h2,h3⟩:=JC.1 hg
   unfold NP at h
   unfold ins
   split at h
   ·rename_i e
    rw [if_neg (by omega),if_pos e]
    simp [e]
   ·rename_i g
    have:=h2 _ (tL h)
    simp only at this
    rw [if_pos this]
    simp [ih h3 h]
theorem wE (hg:ET L) {o:Nat} (h:NP key L=some o):(L.map (·.1)).Perm (key::(del key L).map (·.1)):=by
 induction L with
 | nil=>cases h
 | cons p L ih =>
   obtain ⟨h1,h2,h3⟩:=JC.1 hg
   unfold NP at h
   unfold del
   split at h
   ·rename_i e
    rw [if_neg (by omega),if_pos e]
    simp [e]
   ·rename_i g
    have:=h2 _ (tL h)
    simp only at this
    rw [if_pos this]
    simp only [List.map_cons]
    exact ((ih h3 h).cons p.1).trans (.swap _ _ _)
structure pK (T:TS) (G:Gh) (root:Nat) (L:List KV):Prop where
 inv:ES 500 T G (tk root [0,1])
 tree:S0 G root L
 good:ET L
 g0:∀ x∈[0,1],G x=none
 one:∀ (x c:Nat),T.now[x]?=some c→c≤1
def WB (T:TS):Prop:=∃ U:List Nat,U.length≤203∧∀ x c:Nat,T.was[x]?=some c→c≠0→x∈U
variable {root:Nat}
theorem pK.used (he:pK T G root L) (hl:L.length≤150):∃ U:List Nat,U.length≤203∧∀ x c:Nat,T.now[x]?=some c→c≠0→x∈U:=by
 obtain ⟨bs,h1,_,h3⟩:=xE he.inv he.tree he.g0
 exact ⟨_,by simp only [List.length_append,List.length_cons,List.length_nil,List.length_map]; omega,h3⟩
theorem pK.room (he:pK T G root L) (hw:WB T) (hl:L.length≤150):IA 90 T:=by
 obtain ⟨U1,u1,v1⟩:=he.used hl
 obtain ⟨U2,u2,v2⟩:=hw
 have hlen:T.was.length=T.now.length:=by rw [he.inv.n1,he.inv.n2]
 refine ⟨hlen,he.one,?_⟩
 have:=ACC (U:=U1++U2) hlen fun x a b ha hb h=>by
  rcases h with h | h
  ·exact List.mem_append_left _ (v1 x a ha h)
  ·exact List.mem_append_right _ (v2 x b hb h)
 rw [he.inv.n1,List.length_append] at this
 omega
theorem WB.of (hw:WB T) (h:T'.was=T.was):WB T':=by
 obtain ⟨U,u,v⟩:=hw
 exact ⟨U,u,by rw [h]; exact v⟩
theorem QA {r x:Nat} {X:List Nat} (h:r≠0∨True):(tk r X).count x=(if r=0 then 0 else if r=x then 1 else 0)+X.count x:=by
 unfold tk
 split
 ·simp
 ·simp only [List.count_cons,beq_iff_eq]; omega
theorem ABU (he:pK T G root L) (hw:WB T) (hl:L.length≤149) (key:Nat):∃ v T1 to T2 G',T.alloc=.ok v T1∧v≠0∧v<500∧root<500∧Y4 T1 root key v=.ok (to,(NP key L).getD 0,(NP key L).isSome) T2 ∧
 ((NP key L=none∧pK T2 G' to (ins key v L)∧WB T2)∨∃ old b T3,NP key L=some old∧old<500∧T2.dec old=.ok b T3∧pK T3 G' to (ins key v L)∧WB T3):=by
 have hr:=he.room hw (by omega)
 have hroot:root<500:=by
  by_cases h0:root=0
  ·omega
  ·exact he.inv.tok root (by unfold tk; rw [if_neg h0]; simp)
 rcases he.inv.alloc with e | ⟨v,T1,e1,i1,a0,a1,aw,w1,g1⟩
 ·have:=R5 (k:=89) hr; rw [e] at this; exact absurd rfl this
 have r1:=R5 (k:=89) hr
 rw [e1] at r1
 obtain ⟨k0,_,gv⟩:=he.inv.now0 a0
 have hvz:v≠0:=fun e=>by rw [e,QA (.inr trivial)] at k0; simp at k0
 have hvN:=i1.tok v (by simp)
 have i1':ES 500 T1 G (tk root (v::[0,1])):=i1.perm fun x=>by
  rw [QA (X:=v::[0,1]) (.inr trivial),show (v::tk root [0,1]).count x=(tk root [0,1]).count x+if v == x then 1 else 0 from List.count_cons,QA (X:=[0,1]) (.inr trivial),show (v::[0,1]).count x=[0,1].count x+if v == x then 1 else 0 from List.count_cons]; omega
 have hf:=yV (k:=49) (root:=root) (key:=key) (val:=v) r1.2
 rcases AAW (X:=[0,1]) (key:=key) (val:=v) i1' (by simp) he.tree he.good hvz gv (by omega) with ⟨T',e⟩ | ⟨to,T2,G',e2,t0,i2,rt,kp,w2,go⟩
 ·rw [e] at hf; exact absurd rfl hf
 rw [e2] at hf
 have hgood:=UK (key:=key) (val:=v) he.good hvz
 have hg0:∀ x∈[0,1],G' x=none:=fun x hx=>(kp x hx).1 (he.g0 x hx)
 have htree:S0 G' to (ins key v L):=by unfold S0; rw [if_neg t0]; exact rt
 refine ⟨v,T1,to,T2,G',e1,hvz,hvN,hroot,e2,?_⟩
 cases hk:NP key L with
 | none =>
   rw [hk] at i2
   exact .inl ⟨rfl,⟨by unfold tk; rw [if_neg t0]; exact i2,htree,hgood,hg0,hf.2.one⟩,hw.of (by rw [w2,w1])⟩
 | some old =>
   rw [hk] at i2
   have i3:ES 500 T2 G' (old::(to::[0,1])):=i2.perm fun x=>by simp [List.count_cons]; omega
   obtain ⟨b,T3,e3,i4,w4⟩:=i3.decs (by simp) (go old hk)
   have hf3:=QC (a:=old) hf.2
   rw [e3] at hf3
   exact .inr ⟨old,b,T3,rfl,i3.tok old (by simp),e3,⟨by unfold tk; rw [if_neg t0]; exact i4,htree,hgood,hg0,hf3.2.one⟩,hw.of (by rw [w4,w2,w1])⟩
theorem ABP (he:pK T G root L) (hw:WB T) (hl:L.length≤150) {old:Nat} (hk:NP key L=some old):∃ to T2 G' b T3,root<500∧cZ T root key=.ok (to,old,true) T2∧old<500∧T2.dec old=.ok b T3∧pK T3 G' to (del key L)∧WB T3:=by
 have hr:=he.room hw hl
 have hroot:root<500:=by
  by_cases h0:root=0
  ·omega
  ·exact he.inv.tok root (by unfold tk; rw [if_neg h0]; simp)
 have hf:=wY (k:=50) (root:=root) (key:=key) hr
 rcases (AA0 (X:=[0,1]) (key:=key) he.inv (by simp) he.tree he.good (by omega)).2 old hk with ⟨T',e⟩ | ⟨to,T2,G',e2,i2,rt,kp,w2,go⟩
 ·rw [e] at hf; exact absurd rfl hf
 rw [e2] at hf
 have i3:ES 500 T2 G' (old::(tk to [0,1])):=i2.perm fun x=>by
  rw [QA (X:=old::[0,1]) (.inr trivial),show (old::tk to [0,1]).count x=(tk to [0,1]).count x+if old == x then 1 else 0 from List.count_cons,QA (X:=[0,1]) (.inr trivial),show (old::[0,1]).count x=[0,1].count x+if old == x then 1 else 0 from List.count_cons]; omega
 obtain ⟨b,T3,e3,i4,w4⟩:=i3.decs (by unfold tk; split<;>simp) go
 have hf3:=QC (a:=old) hf.2
 rw [e3] at hf3
 exact ⟨to,T2,G',b,T3,hroot,e2,i3.tok old (by simp),e3,⟨i4,rt,eV he.good,fun x hx=>(kp x hx).1 (he.g0 x hx),hf3.2.one⟩,hw.of (by rw [w4,w2])⟩
theorem pZ (he:pK T G root L) (hl:L.length≤150):pK { T with was:=T.now } G root L∧WB { T with was:=T.now } :=
 ⟨⟨⟨he.inv.n1,he.inv.n1,he.inv.cnt,he.inv.tok,he.inv.z,he.inv.dom,he.inv.vin,he.inv.clo,he.inv.hgt,he.inv.lfv⟩,he.tree,he.good,he.g0,he.one⟩,he.used hl⟩
theorem emp_end (he:pK T G root []):root=0∧T.now=PU 500:=by
 have h0:root=0:=by
  by_cases h:root=0
  ·exact h
  ·have:=he.tree
   unfold S0 at this
   rw [if_neg h] at this
   obtain ⟨hh,n,hG,hb,_⟩:=this
   have:=(M7 hb)
   have hf:=(he.inv.dom root n hG).2.2.2.2.1
   exact absurd rfl (this.2 fun e=>by rw [e] at hf; simp at hf)
 refine ⟨h0,?_⟩
 have hdom:=sD (V:=fun _=>False) he.inv (fun r hr hne=>by
  subst h0
  unfold tk at hr
  rw [if_pos rfl] at hr
  exact hne (he.g0 r hr)) (fun _ _ h=>h.elim)
 apply List.ext_getElem?
 intro x
 have hcl:(PU 500).length=500:=rfl
 by_cases hx:x<500
 ·have hr0:rf G x 500=0:=by
   by_cases g:rf G x 500=0
   ·exact g
   ·obtain ⟨b,n,_,h2,_⟩:=mE (G:=G) (x:=x) (N:=500) (by omega)
    exact (hdom b n h2).elim
  rw [he.inv.cnt x hx,hr0,QA (.inr trivial),if_pos h0]
  match x,hx with
  | 0,_=>rfl
  | 1,_=>rfl
  | x+2,hx =>
    have e1:List.count (x+2) [0,1]=0:=List.count_eq_zero.2 (by simp)
    rw [e1]
    simp only [PU,List.getElem?_cons_succ,List.getElem?_replicate]
    rw [if_pos (by omega)]
 ·rw [List.getElem?_eq_none (by rw [he.inv.n1]; omega),List.getElem?_eq_none (by rw [hcl]; omega)]
theorem tC {x:Nat}:∀ {N:Nat},rf (fun _=>none) x N=0
 | 0=>rfl
 | N+1=>by simp [rf,tC,vc]
theorem AA7:pK (TS.new 500) (fun _=>none) 0 []∧WB (TS.new 500):=by
 have hcnt:∀ x,x<500→(PU 500)[x]?=some (List.count x [0,1]):=fun x hx=>by
  match x,hx with
  | 0,_=>rfl
  | 1,_=>rfl
  | x+2,hx =>
    have e1:List.count (x+2) [0,1]=0:=List.count_eq_zero.2 (by simp)
    rw [e1]
    simp only [PU,List.getElem?_cons_succ,List.getElem?_replicate]
    rw [if_pos (by omega)]
 refine ⟨⟨⟨rfl,rfl,fun x hx=>?_,fun x hx=>?_,by simp [tk],?_,?_,?_,⟨fun _=>0,?_⟩,?_⟩,rfl,⟨by simp,by simp⟩,fun _ _=>rfl,fun x c hx=>?_⟩,[0,1],by simp,fun x c hx hc=>?_⟩
 ·rw [tC]; exact hcnt x hx
 ·simp [tk] at hx; omega
 ·intro b n h; cases h
 ·intro b n h; cases h
 ·intro b n h; cases h
 ·intro b n h; cases h
 ·intro b n h; cases h
 ·have hl:x<500:=(List.getElem?_eq_some_iff.1 hx).1
  have:=hcnt x hl
  rw [show (TS.new 500).now=PU 500 from rfl,this] at hx
  cases hx
  simp only [List.count_cons,List.count_nil,beq_iff_eq]
  split<;>split<;>omega
 ·have hl:x<500:=(List.getElem?_eq_some_iff.1 hx).1
  have:=hcnt x hl
  rw [show (TS.new 500).was=PU 500 from rfl,this] at hx
  cases hx
  exact List.count_pos_iff.1 (by omega)
end Go.Ax.C
set_option maxRecDepth 100000
namespace Go.Ax.C
open Go.Proofs Go.RowKit
variable {l r r2 m:List AJ} {σ:AHeap} {Q:RK}
def AAD (T:TS):Bool :=
 match Y4 T 0 5 1 with
 | .ok (root,old,had) T1=>had == false && old == 0 && root != 0 && decide (root<1024) && match T1.inc root with
   | .ok _ T2=>match T2.inc 1 with
     | .ok _ T3=>match Y4 T3 root 5 1 with
       | .ok (other,old,had) T4=>had && old == 1 && other != root && decide (other<1024) && (match CB 5 12 root T4 with
        | .ok (a,b) _=>a == 1 && b
        | _=>false) && match CB 6 12 other T4 with
        | .ok (_,c) _=>!c
        | _=>false
       | _=>false
     | _=>false
   | _=>false
 | _=>false
theorem uY:AAD (TS.new 40)=true:=by decide +kernel
theorem AAb (h:H l σ) (hQ:∀ σ',H l σ'→Q (.ret (.bool true)) σ'):E PV [] σ Q:=by
 apply iD; unfold WM
 refine ABm (n:=40) (k:=4) h (by omega) (by omega) ?_
 intro xb rb sb σ1 h1
 have hA:=uY
 unfold AAD at hA
 rw [B4,TM,BY]
 refine C8 rfl ?_
 (try simp only [DX,AF,AM,Nat.zero_add])
 rw [Ld h1,AF]
 cases e1:Y4 (TS.new 40) 0 5 1 with
 | stuck=>rw [e1] at hA; cases hA
 | err e T=>rw [e1] at hA; cases hA
 | ok q T1 =>
 obtain ⟨root,old,had⟩:=q
 rw [e1] at hA
 simp only [Bool.and_eq_true,beq_iff_eq,bne_iff_ne,ne_eq,decide_eq_true_eq] at hA
 obtain ⟨⟨⟨⟨rfl,rfl⟩,hr0⟩,hrl⟩,hA⟩:=hA
 have h1:H (A2 sb rb (TS.new 40) 0::pt xb (.cells [.pointer (some ⟨rb,0,none⟩),.pointer (some ⟨sb,0,none⟩)] BI false)::l) σ1:=h1.perm (.swap _ _ _)
 refine lI (root:=0) (key:=5) (val:=1) h1 (by omega) (by omega) (by omega) (by omega) (by rw [e1]; exact fun h=>by cases h) ?_ ?_
 ·intro e T' σ' _ he; rw [e1] at he; cases he
 intro to old had T' σ2 he h2
 rw [e1] at he
 cases he
 rw [kN,AP,AP,EL,AP]
 refine C8 rfl (C8 rfl (C8 rfl ?_))
 refine AT (fun g=>absurd (by omega) hr0) fun _=>?_
 (try simp only [DX,AF,AM,Nat.zero_add])
 rw [Ld h2,AF]
 refine GA (root:Int) (by omega) ?_
 cases e2:T1.inc root with
 | stuck=>rw [e2] at hA; cases hA
 | err e T=>rw [e2] at hA; cases hA
 | ok u T2 =>
 rw [e2] at hA
 simp only at hA
 refine yA h2 rfl (by rw [e2]; exact fun h=>by cases h) ?_ ?_
 ·intro e σ' _ he; rw [e2] at he; cases he
 intro T' σ3 he h3
 rw [e2] at he; cases he
 rw [A6]
 refine C8 rfl ?_
 (try simp only [DX,AF,AM,Nat.zero_add])
 rw [Ld h3,AF]
 cases e3:T2.inc 1 with
 | stuck=>rw [e3] at hA; cases hA
 | err e T=>rw [e3] at hA; cases hA
 | ok u T3 =>
 rw [e3] at hA
 simp only at hA
 refine yA (a:=1) h3 rfl (by rw [e3]; exact fun h=>by cases h) ?_ ?_
 ·intro e σ' _ he; rw [e3] at he; cases he
 intro T' σ4 he h4
 rw [e3] at he; cases he
 rw [A6]
 unfold DR
 refine C8 rfl ?_
 (try simp only [DX,AF,AM,Nat.zero_add])
 rw [Ld h4,AF]
 cases e4:Y4 T3 root 5 1 with
 | stuck=>rw [e4] at hA; cases hA
 | err e T=>rw [e4] at hA; cases hA
 | ok q T4 =>
 obtain ⟨other,old2,had2⟩:=q
 rw [e4] at hA
 simp only [Bool.and_eq_true,beq_iff_eq,bne_iff_ne,ne_eq,decide_eq_true_eq] at hA
 obtain ⟨⟨⟨⟨⟨rfl,rfl⟩,hor⟩,hol⟩,hL1⟩,hL2⟩:=hA
 refine lI (root:=root) (key:=5) (val:=1) h4 (by omega) (by omega) (by omega) (by omega) (by rw [e4]; exact fun h=>by cases h) ?_ ?_
 ·intro e T' σ' _ he; rw [e4] at he; cases he
 intro to old had T' σ5 he h5
 rw [e4] at he
 cases he
 rw [kN,AP,AP,EL,AP]
 (try simp only [DX,AF,AM,Nat.zero_add])
 rw [Ld h5,AF]
 cases e5:CB 5 12 root T4 with
 | stuck=>rw [e5] at hL1; cases hL1
 | err e T=>rw [e5] at hL1; cases hL1
 | ok q T5 =>
 obtain ⟨a,b⟩:=q
 rw [e5] at hL1
 simp only [Bool.and_eq_true,beq_iff_eq] at hL1
 obtain ⟨rfl,rfl⟩:=hL1
 refine kS (root:=root) (key:=5) h5 (by omega) (by omega) (by rw [e5]; exact fun h=>by cases h) ?_ ?_
 ·intro e T' σ' _ he; rw [e5] at he; cases he
 intro v b T' σ6 he h6
 rw [e5] at he
 cases he
 rw [PW,AP,EL,AP]
 (try simp only [DX,AF,AM,Nat.zero_add])
 rw [Ld h6,AF]
 cases e6:CB 6 12 other T4 with
 | stuck=>rw [e6] at hL2; cases hL2
 | err e T=>rw [e6] at hL2; cases hL2
 | ok q T6 =>
 obtain ⟨a,c⟩:=q
 rw [e6] at hL2
 simp only [Bool.not_eq_true'] at hL2
 subst hL2
 refine kS (root:=other) (key:=6) h6 (by omega) (by omega) (by rw [e6]; exact fun h=>by cases h) ?_ ?_
 ·intro e T' σ' _ he; rw [e6] at he; cases he
 intro v b T' σ7 he h7
 rw [e6] at he
 cases he
 rw [PW,AP,EL,AP]
 refine IM rfl (IM rfl (IM rfl ?_))
 refine IM (by simp; omega) ?_
 refine IM rfl (IM rfl (IM rfl (IM rfl ?_)))
 exact hQ σ7 h7.tail.tail
end Go.Ax.C
set_option maxRecDepth 100000
namespace Go.Ax.C
open Go.Proofs Go.RowKit O
variable {l r r2 m:List AJ} {σ:AHeap} {Q:RK}
theorem oJ {sb rb:Nat} {T:TS} {M:Nat} (h:H (A2 sb rb T M::l) σ) {v:Value} (hv:v=.pointer (some ⟨rb,0,none⟩)) (hQ:∀ σ',H (A2 sb rb { T with was:=T.now } M::l) σ'→Q (.ret (.int .i64 0)) σ'):E EW [v] σ Q:=by
 subst hv
 obtain ⟨cb,dv,K,C,D,hok,h2⟩:=OF.1 h
 have h3:H (WE rb T.now T.was::pt sb (.cells [.pointer (some ⟨rb,0,none⟩),.pointer (some ⟨cb,0,none⟩)] DW false)::CacheA (.pointer (some ⟨cb,0,none⟩)) dv K C::Disk dv D::l) σ:=h2.re
 refine ABR h3 fun σ' h4=>?_
 exact hQ σ' (OF.2 ⟨cb,dv,K,C,D,⟨hok.inv,hok.fly,hok.k,hok.bk⟩,h4.re⟩)
theorem xA {sb rb:Nat} {T:TS} {M:Nat} (h:H (A2 sb rb T M::l) σ) {v:Value} (hv:v=.pointer (some ⟨rb,0,none⟩)) (hQ:Q (.ret (.int .i64 (sZ T))) σ):E GI [v] σ Q:=by
 subst hv
 obtain ⟨cb,dv,K,C,D,hok,h2⟩:=OF.1 h
 exact ADL h2.tail hQ
def zP (v:Value):Prop:=∃ a n c,v=.slice a n c∧(c<AX∨c / AX=1)
theorem zL {e n:Nat} {v:Value} {xs:List Nat} (h:H (A5 e 1 v n (uv xs)::l) σ):H (AO v xs::l) σ∧zP v:=by
 refine ⟨I1 h,?_⟩
 rcases EX.1 h with ⟨⟨_,_,h2⟩,_⟩ | ⟨b,c,opn,rest,_,_,_,rfl,_,h5⟩
 ·rcases h2 with rfl | rfl
  ·exact ⟨_,_,_,rfl,.inl (by unfold AX; omega)⟩
  ·exact ⟨_,_,_,rfl,.inl (by unfold AX; omega)⟩
 ·rcases h5 with ⟨_,_,h5⟩ | h5
  ·exact ⟨_,_,_,rfl,.inr h5⟩
  ·exact ⟨_,_,_,rfl,.inl h5⟩
theorem AA6 {v:Value} {xs:List Nat} {k:Nat} (h:Us σ v xs) (hc:zP v) (hne:xs≠[]) (hk:k≤xs.length):∃ w,AY 1 v (some (.int .i64 k)) none none=some w∧DC 1 w σ=some ((xs.drop k).length,uv (xs.drop k)):=by
 rcases h with ⟨h0,_⟩ | ⟨b,o,c,row,rfl,hcn,h1,h2,h3⟩
 ·exact absurd h0 hne
 obtain ⟨a',n',c1,e,hz⟩:=hc
 cases e
 obtain ⟨a,c',e2,ha⟩:=kX (b:=b) (o:=o) (k:=.i64) hz hcn hk (List.length_pos_iff.2 hne)
 refine ⟨_,e2,?_⟩
 by_cases hlt:k<xs.length
 ·obtain ⟨rfl,_⟩:=ha hlt
  rw [E3 h1 (by omega),Nat.mul_one,List.length_drop,sC,← h2,List.drop_take,List.drop_drop]
 ·have h0:xs.length - k=0:=by omega
  rw [h0,List.drop_of_length_le (by omega)]
  exact UG σ 1 c' a
theorem AAv {v x:Value} {xs ys:List Nat} {k:Nat} (h:H (AO v xs::l) σ) (hne:xs≠[]) (hk:k≤xs.length) (hs:DC 1 x σ=some (ys.length,uv ys)) (hb:xs.length+ys.length≤1099511627776) :
 ∃ w,AY 1 v none (some (.int .i64 k)) (some (.int .i64 k))=some w∧∀ K:Value×AHeap→Prop,(∀ v' σ',H (AO v' (xs.take k++ys)::l) σ'→zP v'→K (v',σ'))→pu (BN AL 1 8 w x σ) K:=by
 obtain ⟨w,e,hw⟩:=sM (kd:=.i64) (kd':=.i64) h hk
 obtain ⟨w',e',hu⟩:=eE (kd:=.i64) (kd':=.i64) (DF h) hk
 rw [e] at e'; cases e'
 refine ⟨w,e,fun K hK=>?_⟩
 rcases DF h with ⟨h0,_⟩ | ⟨b,o,c,row,rfl,hc,h1,h2,h3⟩
 ·exact absurd h0 hne
 have hkn:BH c<AX:=Nat.mod_lt _ (by unfold AX; omega)
 have ew:w=.slice (some ⟨b,o,none⟩) k k:=by
  simp only [AY,IQ] at e
  rw [CS (y:=BH c) (by omega)] at e
  simp only [Option.bind_some] at e
  rw [CS (by simp)] at e
  simpa [EP] using e.symm
 have hkk:BH k=k:=CI (by omega)
 unfold BN
 rw [hs]
 simp only [Option.bind_some]
 cases ys with
 | nil =>
   have:D2 AL 1 8 w 0 (uv []) σ=some (w,σ):=by
    rw [ew]
    simp [D2,hkk,uv,NA]
   simp only [List.length_nil]
   rw [this,A4]
   exact hK _ _ (by simpa using hw) ⟨_,_,_,ew,.inl (by omega)⟩
 | cons y ys =>
   have hold:SI 1 (some ⟨b,o,none⟩) k σ=some (uv (xs.take k)):=by
    have:=l9 hu
    rw [ew] at this
    simp only [DC,Option.map_eq_some_iff] at this
    obtain ⟨l0,h5,h6⟩:=this
    simp only [SI]
    rw [h5,(Prod.mk.inj h6).2]
   have hlt:(xs.take k).length=k:=by rw [List.length_take]; omega
   have he:D2 AL 1 8 w (y::ys).length (uv (y::ys)) σ=some (.slice (some ⟨σ.size,0,none⟩) (k+(y::ys).length) (AX*1+(k+(y::ys).length)),σ.push (.cells (uv (xs.take k)++uv (y::ys)) AL true)):=by
    rw [ew]
    simp only [D2]
    rw [if_neg (by rw [hkk]; simp),if_pos ⟨by omega,by omega,by omega⟩,hold]
    simp only [Option.bind_some]
    rw [if_pos (by omega)]
   rw [he,A4]
   refine hK _ _ ?_ ⟨_,_,_,rfl,.inr ?_⟩
   rotate_left
   ·have:(1099511627776:Nat)<AX:=by unfold AX; omega
    rw [Nat.mul_one,Nat.add_div_left _ (by omega),Nat.div_eq_of_lt (by omega)]
   have h7:=(hw.tail.push (.cells (uv (xs.take k)++uv (y::ys)) AL true)).unsnoc
   have hOP:(1099511627776:Nat)<AX:=by unfold AX; omega
   have hkn2:BH (AX*1+(k+(y::ys).length))=k+(y::ys).length:=by
    unfold BH
    rw [Nat.mul_add_mod,Nat.mod_eq_of_lt (by omega)]
   have:=gD (o:=0) (c:=AX*1+(k+(y::ys).length)) (xs:=xs.take k++y::ys) (by rw [hkn2,List.length_append,hlt]; exact Nat.le_refl _) (by rw [List.drop_zero,List.take_of_length_le (by simp [uv])]; simp [uv]) (by simp [uv]) h7
   rw [List.length_append,hlt] at this
   exact this
end Go.Ax.C
set_option maxRecDepth 100000
namespace Go.Ax
open Go.Proofs Go.RowKit
theorem Ev.law {P:Program} {f:FuncId} {fn:Func} (hf:P.funcs[f]?=some fn) (hb:fn.body.isNone=false) {args args':List Value} {ρ:List RB} {σ:AHeap} {W:World}
 (hr:B7 W.heap.size W ρ σ W) (ha:LR ρ args args') (h:Ev P f args σ fun r _=>r=.ret (.bool true)):Calls P f args'.toArray W fun e w'=>e=.returned (.bool true)∧Below W.heap.size W w':=by
 obtain ⟨fn',h1,h2,h3⟩:=h _ _ _ _ _ hr ha
 rw [hf] at h1; cases h1
 rcases h3 with ⟨_,hc⟩ | ⟨v,v',ρ',σ',w',_,hrun,_⟩
 ·refine hc.mono fun e w' he=>?_
  obtain ⟨r,ρ',σ',hq,hres,_,hr'⟩:=he
  subst hq
  obtain ⟨v',rfl,hv⟩:=hres
  rw [hv.bool_inv]
  exact ⟨rfl,hr'.below⟩
 ·rw [RV hf h2 hb] at hrun
  simp at hrun
variable {l:List AJ} {σ:AHeap}
def AAw:List Value→Nat→AJ:=fun cs n=>IU (cs=[.int .u64 (n:Nat)]∧n<18446744073709551616)
def AAi:List Value→Nat→AJ:=fun cs n=>IU (cs=[.int .u16 (n:Nat)]∧n<65536)
variable {P:Program}
theorem L8.u64 {t:TypeId} (ht:P.underlying t=some (.int .u64)) (hc:P.cellsOf t=1):L8 P t (M:=Nat) AAw:=by
 refine L8.imp Int.toNat (L8.int (P:=P) (t:=t) (k:=.u64) ht hc) ?_
 intro cs m l σ h
 obtain ⟨⟨h1,h2⟩,h⟩:=BZ.1 h
 simp [Lit.wf,IntKind.min,IntKind.max,IntKind.signed,IntKind.bits] at h2
 refine BZ.2 ⟨⟨?_,by omega⟩,h⟩
 rw [h1,Int.toNat_of_nonneg (by omega)]
theorem L8.u16 {t:TypeId} (ht:P.underlying t=some (.int .u16)) (hc:P.cellsOf t=1):L8 P t (M:=Nat) AAi:=by
 refine L8.imp Int.toNat (L8.int (P:=P) (t:=t) (k:=.u16) ht hc) ?_
 intro cs m l σ h
 obtain ⟨⟨h1,h2⟩,h⟩:=BZ.1 h
 simp [Lit.wf,IntKind.min,IntKind.max,IntKind.signed,IntKind.bits] at h2
 refine BZ.2 ⟨⟨?_,by omega⟩,h⟩
 rw [h1,Int.toNat_of_nonneg (by omega)]
theorem L8.rows {t e:TypeId} {M:Type} {A:List Value→M→AJ} {z by':Nat} (ht:P.underlying t=some (.slice e)) (hc:P.cellsOf t=1) (hz:P.cellsOf e=z) (hb:P.bytesOf e=by') (h0:0<z) (hE:L8 P e A) :
 L8 P t (M:=List M) fun cs L=>ex fun v=>sep (IU (cs=[v])) (gL z by' A v L):=by
 subst hz; subst hb
 exact L8.slice ht hc h0 hE
end Go.Ax
set_option maxRecDepth 100000
namespace Go.Ax.C
open Go.Proofs Go.RowKit
variable {l r r2 m:List AJ} {σ:AHeap} {Q:RK}
def aS (v:Value) (xs:List Nat):AJ:=gL 1 8 AAw v xs
theorem tP:∀ {css:List (List Value)} {x:List Nat} {l:List AJ} {σ:AHeap},css.length=x.length→H (tT AAw css x::l) σ→css.flatten=uv x∧∀ y∈x,y<18446744073709551616
 | [],[],l,σ,_,_=>⟨rfl,by simp⟩
 | [],_::_,l,σ,h,_=>by simp at h
 | _::_,[],l,σ,h,_=>by simp at h
 | c::css,b::x,l,σ,hl,h=>by
   simp only [tT,BE,AAw,BZ] at h
   obtain ⟨⟨rfl,hb⟩,h⟩:=h
   obtain ⟨e1,e2⟩:=tP (by simpa using hl) h
   refine ⟨by simp [e1,uv],fun y hy=>?_⟩
   rcases List.mem_cons.1 hy with rfl | hy
   ·exact hb
   ·exact e2 y hy
theorem sW {v:Value} {xs:List Nat} (h:H (aS v xs::l) σ):Us σ v xs∧(∀ y∈xs,y<18446744073709551616)∧xs.length<1000000000000000:=by
 rcases Z5.1 h with ⟨⟨rfl,rfl | rfl⟩,_⟩ | ⟨id,cap,e,css,h1,rfl,h2,h3,h4,h5,h6⟩
 ·exact ⟨.inl ⟨rfl,_,_,rfl⟩,by simp,by simp⟩
 ·exact ⟨.inl ⟨rfl,_,_,rfl⟩,by simp,by simp⟩
 ·have hrow:=kQ h1.rget0.1
  obtain ⟨e1,e2⟩:=tP h4 h1.tail
  rw [e1] at hrow
  refine ⟨.inr ⟨id,0,cap,uv xs,rfl,?_,hrow,?_,?_⟩,e2,?_⟩
  ·rw [CI h3]; exact h2
  ·rw [List.drop_zero,List.take_of_length_le (by simp [uv])]
  ·simp [uv]
  ·have:reachBytes=140737488351232:=rfl
   omega
end Go.Ax.C
set_option maxRecDepth 100000
namespace Go.Ax.C
open Go.Proofs Go.RowKit O
variable {l r r2 m:List AJ} {σ:AHeap} {Q:RK}
def YT (v:Value) (xs:List Nat):AJ:=gL 1 2 AAi v xs
theorem mH:∀ {css:List (List Value)} {x:List Nat} {l:List AJ} {σ:AHeap},css.length=x.length→H (Go.Ax.tT AAi css x::l) σ→css.flatten=x.map (fun n:Nat=>Value.int .u16 (n:Int))∧∀ y∈x,y<65536
 | [],[],l,σ,_,_=>⟨rfl,by simp⟩
 | [],_::_,l,σ,h,_=>by simp at h
 | _::_,[],l,σ,h,_=>by simp at h
 | c::css,b::x,l,σ,hl,h=>by
   simp only [Go.Ax.tT,BE,AAi,BZ] at h
   obtain ⟨⟨rfl,hb⟩,h⟩:=h
   obtain ⟨e1,e2⟩:=mH (by simpa using hl) h
   refine ⟨by simp [e1],fun y hy=>?_⟩
   rcases List.mem_cons.1 hy with rfl | hy
   ·exact hb
   ·exact e2 y hy
theorem yL {v:Value} {xs:List Nat} (h:H (YT v xs::l) σ):BJ v=some (.int .i64 xs.length)∧(∀ y∈xs,y<65536)∧xs.length<1000000000000000:=by
 rcases Z5.1 h with ⟨⟨rfl,rfl | rfl⟩,_⟩ | ⟨id,cap,e,css,h1,rfl,h2,h3,h4,h5,h6⟩
 ·exact ⟨rfl,by simp,by simp⟩
 ·exact ⟨rfl,by simp,by simp⟩
 ·obtain ⟨e1,e2⟩:=mH h4 h1.tail
  refine ⟨rfl,e2,?_⟩
  have:reachBytes=140737488351232:=rfl
  omega
theorem xX {v:Value} {xs:List Nat} (h:H (YT v xs::l) σ) {k x:Nat} (hk:xs[k]?=some x):∃ p,AG 1 v (.int .i64 k)=some (.pointer (some p))∧AD false 1 (.pointer (some p)) σ=some (.int .u16 x):=by
 rcases Z5.1 h with ⟨⟨rfl,_⟩,_⟩ | ⟨id,cap,e,css,h1,rfl,h2,h3,h4,h5,h6⟩
 ·simp at hk
 ·have hrow:=kQ h1.rget0.1
  obtain ⟨e1,e2⟩:=mH h4 h1.tail
  rw [e1] at hrow
  have hlt:=(List.getElem?_eq_some_iff.1 hk).1
  refine ⟨⟨id,0+k,none⟩,by rw [TG (by omega)]; simp,?_⟩
  rw [BK hrow,Nat.zero_add,List.getElem?_map,hk]; rfl
set_option maxHeartbeats 2000000 in
theorem dU {v0 v1:Value} {ks ts:List Nat} (h:H (aS v0 ks::YT v1 ts::l) σ) (hQ:∀ σ',Q (.ret (.bool true)) σ'):E NB [v0,v1] σ Q:=by
 apply VS; unfold M8
 refine ABm (n:=500) (k:=6) h (by omega) (by omega) ?_
 intro xb rb sb σ1 h1
 rw [B4]
 refine AAb h1 ?_
 intro σ2 h2
 rw [E8]
 refine C8 rfl ?_
 rw [TM,BY]
 unfold GX
 refine C8 rfl ?_
 (try simp only [DX,AF,AM,Nat.zero_add])
 rw [Ld h2,AF]
 have h2:H (A2 sb rb (TS.new 500) 0::pt xb (.cells [.pointer (some ⟨rb,0,none⟩),.pointer (some ⟨sb,0,none⟩)] BI false)::aS v0 ks::YT v1 ts::l) σ2:=h2.perm (.swap _ _ _)
 refine xA h2 rfl ?_
 rw [A6]
 rw [MV (sW h2.tail.tail).1,AH]
 have h0:=(h2.own_nil AL 1).unsnoc
 obtain ⟨en,wn⟩:=AA7
 refine ⟨fun m a v i τ=>∃ (k root:Nat) (T:TS) (G:Gh) (L:List KV) (th:List Nat),a=root∧i=k∧m=151 - k∧k≤150∧k≤ks.length∧pK T G root L∧WB T∧L.length≤k∧th.Perm (L.map (·.1))∧(∀ y∈th,y<18446744073709551616)∧H (A5 AL 1 v th.length (uv th)::A2 sb rb T (200*k)::pt xb (.cells [.pointer (some ⟨rb,0,none⟩),.pointer (some ⟨sb,0,none⟩)] BI false)::aS v0 ks::YT v1 ts::l) τ,
  ⟨_,0,0,TS.new 500,_,[],[],rfl,rfl,rfl,by omega,by omega,en,wn,by simp,.refl _,by simp,h0⟩,?_⟩
 clear h0 h1 h2 h
 rintro m _ v _ τ ⟨k,root,T,G,L,th,rfl,rfl,hm,hk,hkl,he,hw,hL,hth,h64,h⟩
 have k12:D8 E Q (.pointer (some ⟨xb,0,none⟩)) v1 ((sZ (TS.new 500):Nat):Int) root v τ:=by
  unfold D8
  (try simp only [DX,AF,AM,Nat.zero_add])
  rw [Ld h,AF]
  obtain ⟨hr,hcv⟩:=zL h
  have h:H (A2 sb rb T (200*k)::AO v th::pt xb (.cells [.pointer (some ⟨rb,0,none⟩),.pointer (some ⟨sb,0,none⟩)] BI false)::aS v0 ks::YT v1 ts::l) τ:=hr.perm (.swap _ _ _)
  clear hr
  refine oJ h rfl fun τ1 h1=>?_
  rw [A6]
  obtain ⟨he1,hw1⟩:=pZ he (by omega)
  refine ⟨fun m a v i τ=>∃ (j root:Nat) (T:TS) (G:Gh) (L:List KV) (th:List Nat),a=root∧i=j∧m=L.length∧L.length+j≤150∧pK T G root L∧WB T∧th.Perm (L.map (·.1))∧(∀ y∈th,y<18446744073709551616)∧zP v∧H (A2 sb rb T (30000+200*j)::AO v th::pt xb (.cells [.pointer (some ⟨rb,0,none⟩),.pointer (some ⟨sb,0,none⟩)] BI false)::aS v0 ks::YT v1 ts::l) τ,
   ⟨_,0,root,_,G,L,th,rfl,rfl,rfl,by omega,he1,hw1,hth,h64,hcv,CV (by omega) h1⟩,?_⟩
  clear h h1 he1 hw1 he hw hth hcv h64
  rintro m _ v _ τ ⟨j,root,T,G,L,th,rfl,rfl,rfl,hj,he,hw,hth,h64,hcv,h⟩
  have htl:th.length=L.length:=by rw [hth.length_eq,List.length_map]
  have hus:=DF h.tail
  unfold JN
  rw [MV hus,AH]
  have k19:∀ c:Nat,c<th.length→D6 (fun a v i τ=>∃ m',m'<L.length∧∃ (j root:Nat) (T:TS) (G:Gh) (L:List KV) (th:List Nat),a=root∧i=j∧m'=L.length∧L.length+j≤150∧pK T G root L∧WB T∧th.Perm (L.map (·.1))∧(∀ y∈th,y<18446744073709551616)∧zP v∧H (A2 sb rb T (30000+200*j)::AO v th::pt xb (.cells [.pointer (some ⟨rb,0,none⟩),.pointer (some ⟨sb,0,none⟩)] BI false)::aS v0 ks::YT v1 ts::l) τ) E Q (.pointer (some ⟨xb,0,none⟩)) root v c ((sZ (TS.new 500):Nat):Int) j τ:=by
   intro c hc
   obtain ⟨key,hkey⟩:∃ key,th[c]?=some key:=⟨_,List.getElem?_eq_getElem hc⟩
   have hmem:key∈L.map (·.1):=hth.mem_iff.1 (List.mem_of_getElem? hkey)
   obtain ⟨old,hold⟩:=xG hmem
   obtain ⟨to,T2,G',b,T3,hrN,e2,hoN,e3,he3,hw3⟩:=ABP he hw (by omega) hold
   obtain ⟨p,i1,l1⟩:=FY hus hkey
   unfold D6
   (try simp only [DX,AF,AM,Nat.zero_add])
   rw [Ld h,AF,i1,AF,l1,AH]
   refine AAP h (by omega) (by omega) ?_ (by rw [e2]; exact fun h=>by cases h) (fun e T' τ4 _ hx h5=>by rw [e2] at hx; cases hx) (fun to' old' had' T' τ2 hx h3=>?_)
   ·exact h64 key (List.mem_of_getElem? hkey)
   rw [e2] at hx
   cases hx
   rw [kN,AP,AP,EL,AP]
   refine C8 rfl ?_
   unfold GH
   refine C8 rfl ?_
   (try simp only [DX,AF,AM,Nat.zero_add])
   rw [Ld h3,AF]
   refine GA (old:Int) (by omega) ?_
   refine oZ h3 rfl (by rw [e3]; exact fun h=>by cases h) (fun e σ' _ hx _=>by rw [e3] at hx; cases hx) fun b' T' τ3 hx h4=>?_
   rw [e3] at hx
   cases hx
   rw [BQ,EL,AP]
   have h5:H (AO v th::A2 sb rb T3 (30000+200*j+200)::pt xb (.cells [.pointer (some ⟨rb,0,none⟩),.pointer (some ⟨sb,0,none⟩)] BI false)::aS v0 ks::YT v1 ts::l) τ3:=h4.perm (.swap _ _ _)
   have hne:th≠[]:=fun e=>by rw [e] at hc; simp at hc
   obtain ⟨w2,e5,hs⟩:=AA6 (k:=c+1) (DF h5) hcv hne (by omega)
   obtain ⟨w,e4,happ⟩:=AAv (x:=w2) (ys:=th.drop (c+1)) (k:=c) h5 hne (by omega) hs (by rw [List.length_drop]; omega)
   rw [e4,AF]
   refine GA ((c+1:Nat):Int) (by omega) ?_
   rw [e5,AF]
   refine happ _ fun v' τ4 h6 hcv'=>?_
   refine GA ((j+1:Nat):Int) (by omega) ?_
   have hdk:=wE he.good hold
   have hp1:th.Perm (key::(th.take c++th.drop (c+1))):=by
    conv=>lhs; rw [TI hkey]
    exact List.perm_middle
   have hp2:(th.take c++th.drop (c+1)).Perm ((del key L).map (·.1)):=((hp1.symm.trans hth).trans hdk).cons_inv
   have hdl:(del key L).length+1=L.length:=by have:=hdk.length_eq; simpa using this.symm
   exact ⟨(del key L).length,by omega,j+1,to,T3,G',del key L,_,rfl,rfl,rfl,by omega,he3,hw3,hp2,fun y hy=>h64 y (hp1.mem_iff.2 (List.mem_cons_of_mem _ hy)),hcv',CV (by omega) (h6.perm (.swap _ _ _))⟩
  refine AT (fun g=>?_) fun g=>?_
  ·obtain ⟨u1,u2,u3⟩:=yL h.tail.tail.tail.tail
   rw [u1,AH]
   refine AT (fun g1=>?_) fun g1=>?_
   ·obtain ⟨x,hx⟩:∃ x,ts[j]?=some x:=⟨_,List.getElem?_eq_getElem (by omega)⟩
    obtain ⟨p,i1,l1⟩:=xX h.tail.tail.tail.tail hx
    have hx16:=u2 x (List.mem_of_getElem? hx)
    rw [i1,AF,l1,AH]
    refine GA (x:Int) (by omega) ?_
    rw [AH,ABX,if_neg (by omega),AH]
    have:=k19 (x % th.length) (Nat.mod_lt _ (by omega))
    rwa [show (x:Int).tmod (th.length:Int)=((x % th.length:Nat):Int) from rfl]
   ·exact k19 0 (by omega)
  ·have hl0:L=[]:=List.length_eq_zero_iff.1 (by omega)
   subst hl0
   obtain ⟨hr0,hnow⟩:=emp_end he
   (try simp only [DX,AF,AM,Nat.zero_add])
   rw [Ld h,AF]
   refine oJ h rfl fun τ1 h1=>?_
   rw [A6]
   refine IM (by simp [hr0]) ?_
   (try simp only [DX,AF,AM,Nat.zero_add])
   rw [Ld h1,AF]
   refine xA h1 rfl ?_
   rw [A6]
   have:sZ { T with was:=T.now }=sZ (TS.new 500):=by
    unfold sZ
    show (O4 T.now T.now).count true=_
    rw [hnow]; rfl
   rw [this]
   simpa using hQ τ1
 unfold JR
 refine AT (fun g=>?_) fun g=>k12
 obtain ⟨hu0,hu1,hu2⟩:=sW h.tail.tail.tail
 obtain ⟨key,hkey⟩:∃ key,ks[k]?=some key:=⟨_,List.getElem?_eq_getElem (by omega)⟩
 have hk64:=hu1 key (List.mem_of_getElem? hkey)
 obtain ⟨p,i1,l1⟩:=FY hu0 hkey
 rw [i1,AF,l1,AH]
 refine AT (fun g1=>?_) fun g1=>?_
 ·exact k12
 clear k12
 obtain ⟨vv,T1,to,T2,G',e1,hvz,hvN,hrN,e2,hcase⟩:=ABU he hw (by omega) key
 (try simp only [DX,AF,AM,Nat.zero_add])
 rw [Ld h,AF]
 have h:H (A2 sb rb T (200*k)::A5 AL 1 v th.length (uv th)::pt xb (.cells [.pointer (some ⟨rb,0,none⟩),.pointer (some ⟨sb,0,none⟩)] BI false)::aS v0 ks::YT v1 ts::l) τ:=h.perm (.swap _ _ _)
 refine lC h rfl (fun hx=>by rw [e1] at hx; cases hx) fun a τ1 hx _ _ h1=>?_
 rw [e1] at hx
 cases hx
 rw [BQ,AP,AP]
 (try simp only [DX,AF,AM,Nat.zero_add])
 rw [Ld h1,AF]
 refine YG (vv:Int) (by omega) ?_
 refine lI h1 (by omega) (by omega) (by omega) (by omega) (by rw [e2]; exact fun h=>by cases h) (fun e T' τ4 _ hx h5=>by rw [e2] at hx; cases hx) (fun to' old' had' T' τ2 hx h2=>?_)
 rw [e2] at hx
 cases hx
 rw [kN,AP,AP,EL,AP]
 refine C8 rfl ?_
 rcases hcase with ⟨hk0,he2,hw2⟩ | ⟨old,b,T3,hk0,hoN,e3,he3,hw3⟩
 ·rw [hk0]
  refine C8 rfl ?_
  refine nw h2 ?_
  intro bk τ3 h3
  have h4:H (A5 AL 1 v th.length (uv th)::pt bk (.cells [.int .u64 key] AL false)::A2 sb rb T2 (200*k+200)::pt xb (.cells [.pointer (some ⟨rb,0,none⟩),.pointer (some ⟨sb,0,none⟩)] BI false)::aS v0 ks::YT v1 ts::l) τ3:=h3.re
  refine XS 0 (x:=key) h4 rfl (by have:=hth.length_eq; rw [List.length_map] at this; omega) (j:=1) rfl fun v' τ4 h5=>?_
  unfold EA
  refine GA ((k+1:Nat):Int) (by omega) ?_
  have hkeys:=iN (val:=vv) hk0
  have hll:(ins key vv L).length=L.length+1:=by have:=hkeys.length_eq; simpa using this
  have h6:H (A5 AL 1 v' (th++[key]).length (uv (th++[key]))::A2 sb rb T2 (200*(k+1))::pt xb (.cells [.pointer (some ⟨rb,0,none⟩),.pointer (some ⟨sb,0,none⟩)] BI false)::aS v0 ks::YT v1 ts::l) τ4:=by
   have h7:H (A5 AL 1 v' (th++[key]).length (uv (th++[key]))::pt bk (.cells [.int .u64 key] AL false)::A2 sb rb T2 (200*k+200)::pt xb (.cells [.pointer (some ⟨rb,0,none⟩),.pointer (some ⟨sb,0,none⟩)] BI false)::aS v0 ks::YT v1 ts::l) τ4:=h5
   exact h7.re
  exact ⟨_,by omega,k+1,to,T2,G',ins key vv L,_,rfl,rfl,rfl,by omega,by omega,he2,hw2,by omega,((List.perm_append_singleton key th).trans (hth.cons key)).trans hkeys.symm,fun y hy=>by
   rcases List.mem_append.1 hy with hy | hy
   ·exact h64 y hy
   ·simp only [List.mem_singleton] at hy; rw [hy]; exact hk64,h6⟩
 ·rw [hk0]
  refine IM rfl ?_
  (try simp only [DX,AF,AM,Nat.zero_add,Option.getD_some])
  rw [Ld h2,AF]
  refine GA (old:Int) (by omega) ?_
  refine oZ h2 rfl (by rw [e3]; exact fun h=>by cases h) (fun e σ' _ hx _=>by rw [e3] at hx; cases hx) fun b' T' τ3 hx h4=>?_
  rw [e3] at hx
  cases hx
  rw [BQ,EL,AP]
  unfold EA
  refine GA ((k+1:Nat):Int) (by omega) ?_
  have hkeys:=gW (val:=vv) he.good hk0
  have hll:(ins key vv L).length=L.length:=by have:=congrArg List.length hkeys; simpa using this
  exact ⟨_,by omega,k+1,to,T3,G',ins key vv L,th,rfl,rfl,rfl,by omega,by omega,he3,hw3,by omega,by rw [hkeys]; exact hth,h64,h4.perm (.swap _ _ _)⟩
end Go.Ax.C
/- Proved: 'TreeEmpties' returns true,for every input; no condition. By a calculus of weakest preconditions over an abstract heap,which is sound for the machine. -/
namespace Go.Proofs.YtcnceningjookaaGreat.treeEmpties
open Go.ChangeShapes Go.WideShapes Go.ChangeAt Go.RowKit
set_option linter.unusedVariables false
set_option maxRecDepth 100000
theorem B0:ownKnob Tryz.prog.godebug=none:=by kernel_rfl
theorem AEH:Ax.L8 Tryz.prog 22 (M:=List Nat) fun cs x=>Ax.ex fun v=>Ax.sep (Ax.IU (cs=[v])) (Ax.C.aS v x) :=
 Ax.L8.rows (t:=22) (e:=25) (z:=1) (by':=8) (by kernel_rfl) (by kernel_rfl) (by kernel_rfl) (by kernel_rfl) (by decide) (Ax.L8.u64 (by kernel_rfl) (by kernel_rfl))
theorem ADQ:Ax.L8 Tryz.prog 85 (M:=List Nat) fun cs x=>Ax.ex fun v=>Ax.sep (Ax.IU (cs=[v])) (Ax.C.YT v x) :=
 Ax.L8.rows (t:=85) (e:=87) (z:=1) (by':=2) (by kernel_rfl) (by kernel_rfl) (by kernel_rfl) (by kernel_rfl) (by decide) (Ax.L8.u16 (by kernel_rfl) (by kernel_rfl))
theorem AEi {H:Type} {enc:TypeId×Value→H} {W:World} {base:Nat} {v0 v1:Value} {x0 x1:DataW H} {p0 p1:List MemPlace} (o0:∃ a l c,v0=.slice a l c) (o1:∃ a l c,v1=.slice a l c) (h0:DataW.Trod enc Tryz.prog W 0 (fun _=>true) true 22 v0 x0 p0) (h1:DataW.Trod enc Tryz.prog W 0 (fun _=>true) true 85 v1 x1 p1) (hw:(DataW.weightsEach Tryz.prog [22,85] [x0,x1]).all (·≤reachBytes)=true) :
 Calls Tryz.prog 7 #[v0,v1] W fun e w'=>e=.returned (.bool true)∧Below W.heap.size W w':=by
 obtain ⟨n0,h0⟩:=h0
 obtain ⟨n1,h1⟩:=h1
 obtain ⟨sa0,sl0,sc0,rfl⟩:=o0
 obtain ⟨sa1,sl1,sc1,rfl⟩:=o1
 simp only [List.all_eq_true,DataW.weightsEach,List.mem_append,List.append_nil,decide_eq_true_eq] at hw
 obtain ⟨ρ0,σ0,c0,m0,q0_1,q0_2,q0_3,q0_4,q0_5⟩:=AEH (Ax.B7.start W) h0 fun w hm=>hw w (.inl hm)
 obtain ⟨ρ1,σ1,c1,m1,q1_1,q1_2,q1_3,q1_4,q1_5⟩:=ADQ q0_2 h1 fun w hm=>hw w (.inr hm)
 have hg0:=q1_5 _ (q0_5 [] (Ax.H.nil _))
 obtain ⟨w1,hg1⟩:=Ax.KN.1 hg0
 rw [Ax.BE] at hg1
 obtain ⟨e1,hg2⟩:=Ax.BZ.1 hg1
 subst e1
 have hg3:=hg2.snoc
 simp only [List.cons_append,List.nil_append] at hg3
 obtain ⟨w0,hg4⟩:=Ax.KN.1 hg3
 rw [Ax.BE] at hg4
 obtain ⟨e0,hg5⟩:=Ax.BZ.1 hg4
 subst e0
 have hg6:=hg5.snoc
 simp only [List.cons_append,List.nil_append] at hg6
 have hh:=hg6
 have ha:Ax.LR ρ1 [w0,w1] [.slice sa0 sl0 sc0,.slice sa1 sl1 sc1]:=((q0_3.mono q1_1).append q1_3)
 refine Ax.Ev.law Tryz.func7 (by kernel_rfl) q1_2 ha ?_
 rw [← Ax.C.gU]
 exact Ax.C.dU (hh.perm (.swap _ _ _)) fun _=>rfl
theorem AB8 (os:Os) (started:os.Started) (H:Type) (enc:TypeId×Value→H) :
 ReturnsInHanded {} Tryz.checked os 7 .any (Rows.treeEmptiesSpec.pre6 enc Tryz.prog Tryz.f7 Rows.treeEmptiesRow.domain false) (Rows.treeEmptiesSpec.post enc Tryz.prog Tryz.f7 false true false false):=by
 refine returnsInHanded_of_change_sized (C:=Tryz.checked) B0 started (by kernel_rfl) Tryz.func7
  (ChangeSpec.witness6 (enc:=enc) (C:=Tryz.checked) false ⟨#[],#[.slice none 0 0,.slice none 0 0],[]⟩ 8 (by kernel_rfl) (by kernel_rfl) (by kernel_rfl) (by kernel_rfl)) ?_
 intro W base args ds gs before hval0 hW hcnd hwt _
 have hW':=hW
 obtain ⟨p,q,hA0,hV,rfl,hfz,hnd⟩:=hW
 have hA:DataW.TrodAll enc Tryz.prog W 0 (fun _=>true) true Tryz.f7.params.toList args.toList ds p:=hA0
 have hval:∀ (j:Nat) t v,Tryz.f7.params[j]?=some t→args[j]?=some v→Value.okWide Tryz.prog W .any base t v:=hval0
 have hA1:=hA
 rw [Tryz.params7] at hA1 hval
 obtain ⟨v0,vs0,d0,ds0,p0,q0,hargs,rfl,rfl,h0,r0⟩:=trodAll_cons hA1
 obtain ⟨v1,vs1,d1,ds1,p1,q1,rfl,rfl,rfl,h1,r1⟩:=trodAll_cons r0
 obtain ⟨rfl,rfl,rfl⟩:=trodAll_nil r1
 obtain rfl:args=#[v0,v1]:=by cases args; simp_all
 obtain ⟨rfl,rfl⟩:=trodVars_none hV
 clear hA0 hval0
 refine (AEi (base:=base) (okWide_slice (show Tryz.prog.underlying 22=some (.slice 25) by kernel_rfl) (hval 0 22 v0 rfl rfl)) (okWide_slice (show Tryz.prog.underlying 85=some (.slice 87) by kernel_rfl) (hval 1 85 v1 rfl rfl)) h0 h1 (by
  have e:Tryz.f7.params.toList++Rows.treeEmptiesSpec.plain.varTypes Tryz.checked.prog=[22,85]:=by rw [Tryz.params7]; rfl
  rw [e] at hwt
  exact hwt)).mono fun e W' ⟨he,hb⟩=>?_
 subst he
 refine ⟨_,rfl,⟨_,[],_,[],(p0++(p1++[])),[],hW',trodAll_cons_mk (shut_bool Tryz.underlying4 _) trodAll_mk0,?_,rfl,hb.frame _,fun h=>by cases h⟩⟩
 refine Ax.WN (by kernel_rfl) (by kernel_rfl) (by kernel_rfl) hb (fun t ht=>of_decide_eq_true (List.all_eq_true.1 (show (Tryz.f7.params.toList.all fun t=>decide (t<Tryz.checked.prog.types.size))=true by kernel_rfl) t ht)) hA ?_
 intro x hx
 simpa using hA.lt x hx
theorem QM:Rows.treeEmptiesRow.holds Tryz.pinned (OpenSpec.ofChange Rows.treeEmptiesSpec) :=
 OpenClaim.holds_of_wide 7 Tryz.f7 rfl rfl rfl rfl rfl rfl rfl ⟨rfl,rfl,rfl,rfl,rfl⟩ rfl rfl rfl rfl rfl (by kernel_rfl) Tryz.func7 (by kernel_rfl)
  (of_decide_eq_true (by kernel_rfl)) (by unfold Func.isWrapper; first | (rw [if_pos (by decide +kernel)]; kernel_rfl) | (rw [if_neg (by decide +kernel)]; exact ⟨rfl,rfl⟩))
  (fun os started H enc _=>AB8 os started H enc)
theorem proved:Rows.TreeEmptiesSaid:=QM
#print axioms proved
end Go.Proofs.YtcnceningjookaaGreat.treeEmpties
