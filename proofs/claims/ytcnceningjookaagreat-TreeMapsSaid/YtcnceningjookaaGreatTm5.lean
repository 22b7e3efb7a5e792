/- Texts of one proof,joined. No statement of the seat is proved here. -/
import Derived.Test.YtcnceningjookaaGreatTm4
import Derived.Lib.Overlaps
set_option linter.unusedVariables false
set_option linter.unusedSimpArgs false
set_option linter.unnecessarySimpa false
set_option linter.constructorNameAsVariable false
namespace Go.Ax
open Go.RowKit
theorem Ev.opened {P:Program} {f:FuncId} {rest:List Value} {σ:AHeap} {Q:RK} {b n c:Nat} {row:List Value} {e:TypeId} (hg:σ.get b=some (.cells row e true)) (hc:A4≤c) (hz:c / A4=1) (hl:row.length=c % A4)
 (hf:∃ fn,P.funcs[f]?=some fn∧(fn.name == "runtime.NumGoroutine")=false)
 (h:∀ c1 k,c % A4≤c1→c1≤row.length+k→c1≤9223372036854775807→Ev P f (.slice (some ⟨b,0,none⟩) n c1::rest) (σ.set b (.cells (row++List.replicate k undef) e false)) Q) :
 Ev P f (.slice (some ⟨b,0,none⟩) n c::rest) σ Q:=by
 intro B w0 ρ w args' hr ha
 obtain ⟨v',l2,rfl,hv,hrest⟩:=ha.cons_inv
 cases hv with
 | slice _ _ _ _ c' r hr2 hcr =>
   unfold Y9 at hcr
   rw [if_neg (by omega),hz] at hcr
   obtain ⟨q1,q2,q3⟩:=hcr
   obtain ⟨r0,hr0,⟨cc,fz,hh,hfz,hsz,hop,hle,hlr⟩,hB,hB2⟩:=hr.obj b _ hg
   rw [hr2] at hr0; cases hr0
   have hk:row.length+(r.n - r.s - row.length)=r.n - r.s:=by omega
   have hur:CF B w0 ρ (σ.set b (.cells (row++List.replicate (r.n - r.s - row.length) undef) e false)) w:=by
    refine hr.update (o:=.cells row e true) hg rfl rfl hr2 ⟨cc,fz,hh,hfz,hsz,fun _=>by simp; omega,by simp; omega,?_⟩ (fun _ _=>rfl) rfl rfl rfl rfl
    have hlen:(cc.toList.drop r.s).length=r.n - r.s:=by simp; omega
    refine ⟨by simp; omega,fun i v u h1 h2=>?_⟩
    rw [List.getElem?_append] at h1
    split at h1
    ·rename_i hi
     refine hlr.2 i v u h1 ?_
     rw [List.getElem?_take] at h2 ⊢
     rw [if_pos hi]
     split at h2
     ·exact h2
     ·cases h2
    ·rw [List.getElem?_replicate] at h1
     split at h1
     ·cases h1; exact .dead _
     ·cases h1
   refine h c' (r.n - r.s - row.length) q1 (by omega) q3 B w0 ρ w _ hur (LR.cons ?_ hrest)
   refine .slice b 0 n c' c' r hr2 ?_
   unfold Y9
   rw [if_pos (by unfold A4; omega)]
theorem rA {P:Program} {f:FuncId} {params results:Array TypeId} {t e:TypeId} {i:TypeInfo} (hb:AAX P f (Extern.SlicesOverlaps.overlaps params results)) (ht:params[0]?=some t) (hu:P.underlying t=some (.slice e)) (hi:P.info? e=some i)
 {σ:AHeap} {Q:RK} {b1 o1 n1 c1 b2 o2 n2 c2:Nat} {x1 x2:List Value} {e1 e2:TypeId} {q1 q2:Bool} (g1:σ.get b1=some (.cells x1 e1 q1)) (g2:σ.get b2=some (.cells x2 e2 q2)) (hne:b1≠b2) (hx1:o1<x1.length) (hx2:o2<x2.length)
 (hQ:∀ b,Q (.ret (.bool b)) σ):Ev P f [.slice (some ⟨b1,o1,none⟩) n1 c1,.slice (some ⟨b2,o2,none⟩) n2 c2] σ Q:=by
 intro B w0 ρ w args' hr ha
 obtain ⟨fn,hfn,hname,hbody,hnext,hfind⟩:=hb.fn
 refine ⟨fn,hfn,hname,.inr ?_⟩
 obtain ⟨v1,l2,rfl,hv1,ha⟩:=ha.cons_inv
 obtain ⟨v2,l3,rfl,hv2,ha⟩:=ha.cons_inv
 rw [ha.nil_inv]
 cases hv1 with
 | slice _ _ _ _ c1' r1 hr1 hc1 =>
 cases hv2 with
 | slice _ _ _ _ c2' r2 hr2 hc2 =>
 obtain ⟨r0,hr0,⟨cc1,fz1,hh1,hfz1,hsz1,hop1,hle1,hlr1⟩,hB1,_⟩:=hr.obj b1 _ g1
 rw [hr1] at hr0; cases hr0
 obtain ⟨r0,hr0,⟨cc2,fz2,hh2,hfz2,hsz2,hop2,hle2,hlr2⟩,hB2,_⟩:=hr.obj b2 _ g2
 rw [hr2] at hr0; cases hr0
 have hb12:r1.b≠r2.b:=fun h=>hne (hr.inj b1 b2 _ _ r1 r2 g1 g2 rfl rfl hr1 hr2 h)
 have hnb:(r1.b != r2.b)=true:=by simpa using hb12
 have hnb':(r1.b == r2.b)=false:=by simpa using hb12
 have hf1:w.frozen? ⟨r1.b,r1.s+o1,none⟩=false:=by
  simp only [World.frozen?,hh1]; exact hfz1.at _ (by omega)
 have hf2:w.frozen? ⟨r2.b,r2.s+o2,none⟩=false:=by
  simp only [World.frozen?,hh2]; exact hfz2.at _ (by omega)
 have hs1:w.shape? r1.b=some (e1,cc1.size):=by simp [World.shape?,hh1]
 have hs2:w.shape? r2.b=some (e2,cc2.size):=by simp [World.shape?,hh2]
 obtain ⟨m1,hm1⟩:∃ m,cc1.size=m+1:=⟨cc1.size - 1,by omega⟩
 obtain ⟨m2,hm2⟩:∃ m,cc2.size=m+1:=⟨cc2.size - 1,by omega⟩
 rw [hm1] at hs1
 rw [hm2] at hs2
 have hsz:=fun (w:World)=>CN (P:=P) (w:=w) hi
 suffices hrun:∃ b w1,(Extern.SlicesOverlaps.overlaps params results #[.slice (some ⟨r1.b,r1.s+o1,none⟩) n1 c1',.slice (some ⟨r2.b,r2.s+o2,none⟩) n2 c2']).run P w=.ok (.bool b) w1∧CF B w0 ρ σ w1 by
  obtain ⟨b,w1,h1,h2⟩:=hrun
  refine ⟨.bool b,.bool b,ρ,σ,w1,hQ b,?_,EJ.refl _,h2,.bool b⟩
  rw [run_callFunc_extern hfn hname hbody hnext hfind,h1]; rfl
 have key:∃ b w1,Sem.run P (α:=Value) (do
  let some t:=params[0]? | stuck "slices.overlaps: no parameter types"
  let .slice elem ← underlying t | stuck "slices.overlaps: slice type expected"
  let size ← sizeOf elem
  match (some (⟨r1.b,r1.s+o1,none⟩:Addr)),(some (⟨r2.b,r2.s+o2,none⟩:Addr)) with
  | some a,some b =>
    if n1=0∨n2=0∨size=0 then pure (Value.bool false)
    else if a.block != b.block && (← frozen a) && (← frozen b) then unsupported .addressObserved
    else do
     if a.block != b.block then do
      noView a; noView b
      if ← mayBeOne a b then return Value.bool ((← Go.choose (.extern "sameAddr.stringBytes" 2)) == 1)
     pure (Value.bool (a.block == b.block && a.off<b.off+n2*size && b.off<a.off+n1*size))
  | _,_=>pure (Value.bool false)) w=.ok (.bool b) w1∧CF B w0 ρ σ w1:=by
  by_cases h0:n1=0∨n2=0∨i.size=0
  ·exact ⟨false,w,by simp [ht,run_underlying hu,hsz,h0],hr⟩
  ·cases ha:w.frozen? ⟨r1.b,m1+1,none⟩ with
   | false=>exact ⟨false,w,by simp [ht,run_underlying hu,hsz,h0,hnb,hnb',frozen,noView,viewAt,mayBeOne,stringish,shape,Sem.run,hs1,hs2,hf1,hf2,ha],hr⟩
   | true =>
     cases hb:w.frozen? ⟨r2.b,m2+1,none⟩ with
     | false=>exact ⟨false,w,by simp [ht,run_underlying hu,hsz,h0,hnb,hnb',frozen,noView,viewAt,mayBeOne,stringish,shape,Sem.run,hs1,hs2,hf1,hf2,ha,hb],hr⟩
     | true=>exact ⟨_,w.drew,by
      simp [ht,run_underlying hu,hsz,h0,hnb,hnb',frozen,noView,viewAt,mayBeOne,stringish,shape,Sem.run,hs1,hs2,hf1,hf2,ha,hb]
      rfl,hr.drew⟩
 exact key
end Go.Ax
set_option maxRecDepth 100000
namespace Go.Ax.C
open Go.Proofs Go.RowKit
variable {l r m:List AK} {σ:AHeap} {Q:RK}
def uv (xs:List Nat):List Value:=xs.map fun n=>.int .u64 (n:Nat)
@[simp] theorem PO (xs:List Nat):(uv xs).length=xs.length:=by simp [uv]
theorem OX (xs ys:List Nat):uv (xs++ys)=uv xs++uv ys:=by simp [uv]
theorem vL (xs:List Nat) (n:Nat):uv (xs.take n)=(uv xs).take n:=by simp [uv,List.map_take]
theorem ACI (xs:List Nat) (n:Nat):uv (xs.drop n)=(uv xs).drop n:=by simp [uv,List.map_drop]
theorem mO (xs:List Nat) (i n:Nat):uv (xs.set i n)=(uv xs).set i (.int .u64 (n:Nat)):=by simp [uv,List.map_set]
theorem QW (xs:List Nat) (i:Nat):(uv xs)[i]?=xs[i]?.map fun n=>.int .u64 (n:Nat):=by simp [uv]
theorem OY (xs:List Nat):(uv xs).all one=true:=by
 simp only [uv,List.all_map,List.all_eq_true]
 intro x _; rfl
def Us (σ:AHeap) (v:Value) (xs:List Nat):Prop:=(xs=[]∧∃ a c,v=.slice a 0 c) ∨
 ∃ b o c row,v=.slice (some ⟨b,o,none⟩) xs.length c∧xs.length≤BU c∧σ.row b=some row∧(row.drop o).take xs.length=uv xs∧o+xs.length≤row.length
theorem ZD {v:Value} {xs:List Nat} (h:Us σ v xs):∃ a c,v=.slice a xs.length c:=by
 rcases h with ⟨rfl,a,c,rfl⟩ | ⟨b,o,c,row,rfl,_⟩
 ·exact ⟨a,c,rfl⟩
 ·exact ⟨_,_,rfl⟩
theorem MG {v:Value} {xs:List Nat} (h:Us σ v xs):BH v=some (.int .i64 xs.length):=by obtain ⟨a,c,rfl⟩:=ZD h; rfl
theorem tH {v:Value} {xs:List Nat} (h:Us σ v xs):D5 1 v σ=some (xs.length,uv xs):=by
 rcases h with ⟨rfl,a,c,rfl⟩ | ⟨b,o,c,row,rfl,hc,h1,h2,h3⟩
 ·cases a with
  | none=>exact ACX σ 1 c
  | some a=>exact aM σ 1 c a
 ·rw [FO h1 (by omega),Nat.mul_one,h2]
theorem M7 {v:Value} {xs:List Nat} (h:Us σ v xs) {k x:Nat} (hk:xs[k]?=some x):∃ p,(∀ kd,AE 1 v (.int kd k)=some (.pointer (some p)))∧∀ z,AF false z (.pointer (some p)) σ=some (.int .u64 x):=by
 rcases h with ⟨rfl,_⟩ | ⟨b,o,c,row,rfl,hc,h1,h2,h3⟩
 ·simp at hk
 ·have hlt:=(List.getElem?_eq_some_iff.1 hk).1
  refine ⟨⟨b,o+k,none⟩,fun kd=>by rw [S6 (by omega)]; simp,fun z=>?_⟩
  rw [BO h1]
  have:((row.drop o).take xs.length)[k]?=(uv xs)[k]?:=by rw [h2]
  rw [List.getElem?_take,if_pos hlt,List.getElem?_drop,QW,hk] at this
  exact this
theorem oF {v:Value} {xs:List Nat} {k:Nat} {kd kd':IntKind} (h:Us σ v xs) (hk:k≤xs.length):∃ w,A7 1 v none (some (.int kd (k:Nat))) (some (.int kd' (k:Nat)))=some w∧Us σ w (xs.take k):=by
 rcases h with ⟨rfl,a,c,rfl⟩ | ⟨b,o,c,row,rfl,hc,h1,h2,h3⟩
 ·have:k=0:=by simpa using hk
  subst this
  refine ⟨.slice a 0 0,?_,.inl ⟨rfl,_,_,rfl⟩⟩
  simp [A7,bnd,J2]
 ·have e:A7 1 (.slice (some ⟨b,o,none⟩) xs.length c) none (some (.int kd (k:Nat))) (some (.int kd' (k:Nat)))=some (.slice (some ⟨b,o,none⟩) k k):=by
   simp only [A7,J2]
   rw [DG (y:=BU c) (by omega)]
   simp only [Option.bind_some]
   rw [DG (by simp)]
   simp [FF]
  refine ⟨_,e,?_⟩
  by_cases h0:k=0
  ·subst h0; exact .inl ⟨rfl,_,_,rfl⟩
  ·refine .inr ⟨b,o,k,row,by rw [List.length_take,Nat.min_eq_left hk],?_,h1,?_,?_⟩
   ·rw [List.length_take,Nat.min_eq_left hk]
    have:BU k=k:=by
     refine C6 ?_
     have:BU c<A4:=Nat.mod_lt _ (by unfold A4; omega)
     omega
    omega
   ·rw [List.length_take,Nat.min_eq_left hk,vL,← h2,List.take_take,Nat.min_eq_left hk]
   ·rw [List.length_take,Nat.min_eq_left hk]; omega
def AEg (row:List Value) (o:C9):Prop:=(∃ e q,o=.cells row e q)∨∃ e,o=.ro row e
def AQ (v:Value) (xs:List Nat):AK:=ex fun p:Option (Nat×Nat×Nat×List Value×C9) =>
 match p with
 | none=>HZ (xs=[]∧∃ a c,v=.slice a 0 c)
 | some p=>sep (HZ (v=.slice (some ⟨p.1,p.2.1,none⟩) xs.length p.2.2.1∧xs.length≤BU p.2.2.1∧(p.2.2.2.1.drop p.2.1).take xs.length=uv xs∧p.2.1+xs.length≤p.2.2.2.1.length∧AEg p.2.2.2.1 p.2.2.2.2)) (ro p.1 p.2.2.2.2)
theorem AQ.dup (v:Value) (xs:List Nat):Y5 (AQ v xs):=Y5.ex fun p=>match p with
 | none=>Y5.pure _
 | some _=>Y5.sep (Y5.pure _) (Y5.ro _ _)
theorem CX {v:Value} {xs:List Nat} (h:H (AQ v xs::l) σ):Us σ v xs:=by
 obtain ⟨p,h⟩:=JM.1 h
 cases p with
 | none=>exact .inl (BK.1 h).1
 | some p =>
   simp only [BB] at h
   obtain ⟨⟨h1,h2,h3,h4,h5⟩,h⟩:=BK.1 h
   refine .inr ⟨p.1,p.2.1,p.2.2.1,p.2.2.2.1,h1,h2,?_,h3,h4⟩
   rcases h5 with ⟨e,q,h5⟩ | ⟨e,h5⟩
   ·rw [h5] at h; exact MR h.rget0.1
   ·rw [h5] at h; exact uO h.rget0.1
theorem OO {v:Value} {a:Option Addr} {c:Nat} (hv:v=.slice a 0 c) (h:H l σ):H (AQ v []::l) σ:=JM.2 ⟨none,BK.2 ⟨⟨by trivial,a,c,hv⟩,h⟩⟩
theorem m3 {b o c:Nat} {xs:List Nat} {row:List Value} {e:TypeId} {q:Bool} (hc:xs.length≤BU c) (hx:(row.drop o).take xs.length=uv xs) (hl:o+xs.length≤row.length) (h:H (pt b (.cells row e q)::l) σ) :
 H (AQ (.slice (some ⟨b,o,none⟩) xs.length c) xs::l) σ:=by
 refine JM.2 ⟨some (b,o,c,row,.cells row e q),?_⟩
 simp only [BB]
 exact BK.2 ⟨⟨by trivial,hc,hx,hl,.inl ⟨e,q,rfl⟩⟩,h.freeze0⟩
theorem aI {v:Value} {xs:List Nat} (h:H (AQ v xs::l) σ):H (AQ v xs::AQ v xs::l) σ:=by
 have:=h.map0 (AQ.dup v xs)
 rwa [BB] at this
theorem KY {e n:Nat} {v:Value} {xs:List Nat} (h:H (AU e 1 v n (uv xs)::l) σ):H (AQ v xs::l) σ:=by
 rcases FT.1 h with ⟨⟨h0,e1,h2⟩,hh⟩ | ⟨b,c,opn,rest,h1,h2,h3,rfl,h4,h5⟩
 ·have:xs=[]:=by
   cases xs with
   | nil=>rfl
   | cons x xs=>simp [uv] at e1
  subst this
  rcases h2 with rfl | rfl
  ·exact OO rfl hh
  ·exact OO rfl hh
 ·have hn:xs.length=n:=by simpa using h2
  subst hn
  exact m3 h4 (by rw [List.drop_zero,List.take_append_of_le_length (by simp),List.take_of_length_le (by simp)]) (by simp) h1
theorem AAw {v:Value} {xs:List Nat} (h:H l σ) (hv:Us σ v xs) (hn:xs.length≤1099511627776)
 (hQ:∀ w σ',H (AU AJ 1 w xs.length (uv xs)::l) σ'→Q (.ret w) σ'):E CL [v] σ Q:=by
 apply LL; unfold GL
 have hs:=tH hv
 obtain ⟨a,c,rfl⟩:=ZD hv
 cases a with
 | none =>
   have:xs=[]:=by
    rcases hv with ⟨rfl,_⟩ | ⟨b,o,c,row,h1,_⟩
    ·rfl
    ·cases h1
   subst this
   show DF (some (.bool true)) _
   rw [BR]
   refine G8 rfl ?_
   exact hQ _ _ (h.own_nil AJ 1).unsnoc
 | some a =>
   show DF (some (.bool false)) _
   rw [BR]
   refine B7 rfl ?_
   refine DR (n:=0) (xs:=[]) (h.own_zb AJ 1) l.length (by simp) hs (by omega) (by omega) (OY _) ?_
   intro v' σ' h'
   simp only [List.set_append_right _ _ (Nat.le_refl _),Nat.sub_self,List.set_cons_zero,Nat.zero_add,List.nil_append] at h'
   exact hQ _ _ h'.unsnoc
end Go.Ax.C
set_option maxRecDepth 100000
namespace Go.Ax.C
open Go.Proofs Go.RowKit
variable {l r m:List AK} {σ:AHeap} {Q:RK}
theorem zR {A C:List Value} {ys:List Nat} {k x:Nat} (hk:ys[k]?=some x):(A++uv ys++C)[A.length+k]?=some (.int .u64 (x:Nat)):=by
 have hlt:=(List.getElem?_eq_some_iff.1 hk).1
 rw [List.append_assoc,List.getElem?_append_right (by omega),Nat.add_sub_cancel_left,List.getElem?_append_left (by simpa using hlt),QW,hk]; rfl
theorem vP {A C:List Value} {ys:List Nat} {k x:Nat} (hk:k<ys.length):(A++uv ys++C).set (A.length+k) (.int .u64 (x:Nat))=A++uv (ys.set k x)++C:=by
 rw [List.append_assoc,List.set_append_right _ _ (by omega),Nat.add_sub_cancel_left,List.set_append_left _ _ (by simpa using hk),mO,List.append_assoc]
theorem AEN {b c e:Nat} {A C:List Value} {xs:List Nat} {q:Bool} (h:H (pt b (.cells (A++uv xs++C) e q)::l) σ) (hn:xs.length≤1099511627776)
 (hQ:∀ σ',H (pt b (.cells (A++uv xs.reverse++C) e q)::l) σ'→Q (.ret (.tuple #[])) σ'):E BY [.slice (some ⟨b,A.length,none⟩) xs.length c] σ Q:=by
 apply KD; unfold FS
 show A2 .i64 (some (.int .i64 xs.length)) _
 rw [AH]
 refine E1 ((xs.length:Int) - 1) (by omega) ?_
 refine ⟨fun m i j τ=>∃ (k:Nat) (ys:List Nat),i=k∧j=(xs.length:Int) - 1 - k∧m=xs.length - k∧2*k≤xs.length+1∧ys.length=xs.length∧(∀ t,t<xs.length→ys[t]?=if t<k∨xs.length<t+k+1 then xs[xs.length - 1 - t]? else xs[t]?)∧H (pt b (.cells (A++uv ys++C) e q)::l) τ,
  ⟨xs.length,0,xs,by simp,by simp,by simp,by omega,rfl,fun t ht=>by rw [if_neg (by omega)],h⟩,?_⟩
 rintro m i j τ ⟨k,ys,rfl,rfl,rfl,hk,hl,hy,h1⟩
 unfold EY
 refine AS (fun hlt=>?_) (fun hge=>?_)
 ·obtain ⟨jj,hjj⟩:∃ jj:Nat,(xs.length:Int) - 1 - k=jj:=⟨xs.length - 1 - k,by omega⟩
  rw [hjj]
  have hj1:jj=xs.length - 1 - k:=by omega
  have hkl:k<ys.length:=by omega
  have hjl:jj<ys.length:=by omega
  have ia:∀ t:Nat,t<xs.length→AE 1 (.slice (some ⟨b,A.length,none⟩) xs.length c) (.int .i64 (t:Nat))=some (.pointer (some ⟨b,A.length+t,none⟩)):=fun t ht=>by
   rw [S6 (by omega)]; simp
  rw [ia jj (by omega),AD,BO (h1.row 0 rfl),zR (List.getElem?_eq_getElem hjl),AH,ia k (by omega),AD,BO (h1.row 0 rfl),zR (List.getElem?_eq_getElem hkl),AH,AD]
  refine FU h1 0 rfl rfl (by simp; omega) ?_
  intro σ1 h2
  rw [List.set_cons_zero,vP hkl] at h2
  rw [AD]
  refine FU h2 0 rfl rfl (by simp; omega) ?_
  intro σ2 h3
  rw [List.set_cons_zero,vP (by simpa using hjl)] at h3
  refine E1 ((k+1:Nat):Int) (by omega) ?_
  refine E1 ((xs.length:Int) - 1 - (k+1:Nat)) (by omega) ?_
  refine ⟨xs.length - (k+1),by omega,k+1,_,rfl,rfl,rfl,by omega,by simp [hl],fun t ht=>?_,h3⟩
  have e1:ys[k]=xs[k]:=by
   have:=hy k (by omega)
   rw [if_neg (by omega),List.getElem?_eq_getElem hkl,List.getElem?_eq_getElem (by omega)] at this
   exact Option.some.inj this
  have e2:ys[jj]=xs[jj]:=by
   have:=hy jj (by omega)
   rw [if_neg (by omega),List.getElem?_eq_getElem hjl,List.getElem?_eq_getElem (by omega)] at this
   exact Option.some.inj this
  rw [e1,e2]
  by_cases ht1:t=jj
  ·subst ht1
   rw [List.getElem?_set_self (by simpa using hjl),if_pos (by omega),List.getElem?_eq_getElem (by omega)]
   congr 2; omega
  ·rw [List.getElem?_set_ne (Ne.symm ht1)]
   by_cases ht2:t=k
   ·subst ht2
    rw [List.getElem?_set_self (by simpa using hkl),if_pos (by omega),List.getElem?_eq_getElem (by omega)]
    congr 2
   ·rw [List.getElem?_set_ne (Ne.symm ht2),hy t ht]
    by_cases hc:t<k∨xs.length<t+k+1
    ·rw [if_pos hc,if_pos (by omega)]
    ·rw [if_neg hc,if_neg (by omega)]
 ·refine hQ τ ?_
  have:ys=xs.reverse:=by
   apply List.ext_getElem?
   intro t
   by_cases ht:t<xs.length
   ·rw [hy t ht,List.getElem?_reverse ht]
    by_cases hc:t<k∨xs.length<t+k+1
    ·rw [if_pos hc]
    ·rw [if_neg hc]
     congr 1; omega
   ·rw [List.getElem?_eq_none (by omega),List.getElem?_eq_none (by simp; omega)]
  rw [← this]; exact h1
theorem TF {b o n c lo:Nat} {k:IntKind} (hc:c<A4) (h:lo<c) (hn:lo≤n) (hnc:n≤c):A7 1 (.slice (some ⟨b,o,none⟩) n c) (some (.int k (lo:Nat))) none none=some (.slice (some ⟨b,o+lo,none⟩) (n - lo) (c - lo)):=by
 simp only [A7,J2]
 simp only [Option.bind_some]
 rw [DG (by omega)]
 simp only [Option.bind_some,Int.toNat_natCast]
 rw [if_pos hc,if_pos hnc,if_neg (by omega)]
 simp [FF]
theorem zZ {b o n c hi:Nat} {k:IntKind} (hc:c<A4) (h:hi≤c):A7 1 (.slice (some ⟨b,o,none⟩) n c) none (some (.int k (hi:Nat))) none=some (.slice (some ⟨b,o,none⟩) hi c):=by
 simp only [A7,J2]
 rw [C6 hc,DG (by omega)]
 simp only [Option.bind_some,Int.toNat_natCast]
 rw [if_pos hc,if_pos h]
 simp [FF]
theorem AGx {b c e:Nat} {A C:List Value} {xs:List Nat} {x:Nat} {q:Bool} (h:H (pt b (.cells (A++uv (xs++[x])++C) e q)::l) σ) (hn:xs.length<1099511627776) (hc:c<A4) (hc2:xs.length+1≤c)
 (hQ:∀ σ',H (pt b (.cells (A++uv (x::xs)++C) e q)::l) σ'→Q (.ret (.tuple #[])) σ'):E E6 [.slice (some ⟨b,A.length,none⟩) (xs.length+1) c,.int .i64 1] σ Q:=by
 apply ON; unfold IE
 show A2 .i64 (some (.int .i64 ((xs.length+1:Nat):Int))) _
 rw [AH]
 refine E1 (xs.length:Int) (by omega) ?_
 apply OZ; unfold IY
 rw [zZ hc (by omega),AD]
 have h0:H (pt b (.cells (A++uv xs++(uv [x]++C)) e q)::l) σ:=by
  have e:A++uv (xs++[x])++C=A++uv xs++(uv [x]++C):=by simp [OX]
  rw [← e]; exact h
 refine AEN h0 (by omega) ?_
 intro σ1 h1
 rw [CD,TF hc (by omega) (by omega) hc2,AD]
 have h2:H (pt b (.cells ((A++uv xs.reverse)++uv [x]++C) e q)::l) σ1:=by
  have e:A++uv xs.reverse++(uv [x]++C)=(A++uv xs.reverse)++uv [x]++C:=by simp
  rw [← e]; exact h1
 have el:A.length+xs.length=(A++uv xs.reverse).length:=by simp
 have el2:xs.length+1 - xs.length=[x].length:=by simp
 rw [el,el2]
 refine AEN h2 (by simp) ?_
 intro σ2 h3
 rw [CD]
 have h4:H (pt b (.cells (A++uv (xs.reverse++[x])++C) e q)::l) σ2:=by
  have e:(A++uv xs.reverse)++uv [x].reverse++C=A++uv (xs.reverse++[x])++C:=by simp [OX]
  rw [← e]; exact h3
 have el3:xs.length+1=(xs.reverse++[x]).length:=by simp
 rw [el3]
 refine AEN h4 (by simp; omega) ?_
 intro σ3 h5
 rw [CD,CD]
 refine hQ σ3 ?_
 have e:(xs.reverse++[x]).reverse=x::xs:=by simp
 rw [e] at h5
 exact h5
theorem ACe:AAX P JP (Extern.SlicesOverlaps.overlaps #[UG,UG] #[CQ]):=⟨Tryz.f168,by kernel_rfl,by kernel_rfl,by kernel_rfl,by kernel_rfl,by kernel_rfl⟩
theorem gB {A B:AK} {X:AK} (h:H (X::A::B::l) σ):H (X::l) σ:=(((h.perm (.swap _ _ _)).tail).perm (.swap _ _ _)).tail
theorem Y3 (xs:List Nat) (i:Nat) (rest:List Value):uv xs++rest=uv (xs.take i)++(uv (xs.drop i)++rest):=by
 rw [← List.append_assoc,← OX,List.take_append_drop]
theorem fN {b c e i x:Nat} {xs:List Nat} {rest:List Value} {q:Bool} (h:H (pt b (.cells (uv (xs.take i)++(uv (x::xs.drop i)++rest)) e q)::l) σ) (hi:i≤xs.length) (hc:xs.length+1≤BU c) :
 H (AQ (.slice (some ⟨b,0,none⟩) (xs.length+1) c) (xs.take i++x::xs.drop i)::l) σ:=by
 have hl:(xs.take i++x::xs.drop i).length=xs.length+1:=by simp; omega
 have:=m3 (o:=0) (xs:=xs.take i++x::xs.drop i) (c:=c) (by omega) (by
  rw [List.drop_zero,← List.append_assoc,← OX,List.take_append_of_le_length (by simp),List.take_of_length_le (by simp)]) (by simp; try omega) h
 rw [hl] at this
 exact this
set_option maxHeartbeats 1000000 in
theorem wY {b c e vb i x:Nat} {xs:List Nat} {rest:List Value} {q:Bool} (h:H (pt b (.cells (uv xs++rest) e q)::pt vb (.cells (uv [x]) AJ false)::l) σ) (hn:xs.length≤1099511627000) (hco:c<A4) (hi:i<xs.length) (hnc:xs.length≤c) (hcr:c≤xs.length+rest.length)
 (hQ:∀ w σ',H (AQ w (xs.take i++x::xs.drop i)::l) σ'→Q (.ret w) σ'):E CI [.slice (some ⟨b,0,none⟩) xs.length c,.int .i64 i,.slice (some ⟨vb,0,none⟩) 1 1] σ Q:=by
 have hsl:∀ (τ:AHeap) (n:Nat) (L:List AK),H L τ→(∃ k:Nat,L[k]?=some (pt vb (.cells (uv [x]) AJ false)))→1≤n→D5 1 (.slice (some ⟨vb,0,none⟩) (Nat.min 1 n) 1) τ=some (1,uv [x]):=by
  intro τ n L hL ⟨k,hk⟩ hn1
  have:Nat.min 1 n=1:=Nat.min_eq_left hn1
  rw [this,FO (hL.row k hk) (by simp)]; rfl
 apply F9; unfold DV
 rw [TF hco (by omega) (by omega) hnc,AD]
 show A2 .i64 (some (.int .i64 1)) _
 rw [AH]
 refine B7 rfl ?_
 show A2 .i64 (some (.int .i64 xs.length)) _
 rw [AH]
 refine AS (fun g=>absurd g (by omega)) fun _=>?_
 refine E1 ((xs.length:Int)+1) (by omega) ?_
 have hcap:oX (.slice (some ⟨b,0,none⟩) xs.length c)=some (.int .i64 c):=by
  simp only [oX]
  have:Nat.blt c A4=true:=by simpa [Nat.blt_eq] using hco
  rw [this]; rfl
 rw [hcap,AH]
 have hdl:(uv (xs.drop i)).length=xs.length - i:=by simp
 have htl:(uv (xs.take i)).length=i:=by simp; omega
 refine AS (fun hlt=>?_) (fun hge=>?_)
 ·-- a new row
  rw [zZ hco (by omega),AD]
  refine E1 ((xs.length:Int)+1) (by omega) ?_
  refine E1 ((xs.length+1 - i:Nat):Int) (by omega) ?_
  have hold:XJ 1 (some ⟨b,0,none⟩) i σ=some (uv (xs.take i)):=by
   have hs:=FO (z:=1) (n:=i) (o:=0) (cap:=c) (h.row 0 rfl) (by simp; omega)
   simp only [D5,Option.map_eq_some_iff,Prod.mk.injEq] at hs
   obtain ⟨y,hy,_,rfl⟩:=hs
   simp only [XJ]
   rw [hy,List.drop_zero,Nat.mul_one,Y3 xs i,List.take_append_of_le_length (by omega),List.take_of_length_le (by omega)]
  have he:O0 AJ 1 8 [.int .u64 0] (.slice (some ⟨b,0,none⟩) i c) (.int .i64 ((xs.length+1 - i:Nat):Int)) σ =
   some (.slice (some ⟨σ.size,0,none⟩) (xs.length+1) (A4*1+(xs.length+1)),σ.push (.cells (uv (xs.take i)++reps (xs.length+1 - i) [.int .u64 0]) AJ true)):=by
   have e1:i+(xs.length+1 - i)=xs.length+1:=by omega
   simp only [O0,Int.toNat_natCast]
   rw [if_pos (by omega)]
   simp only [G5,e1]
   rw [if_neg (by rw [C6 hco]; omega),if_pos (by omega),hold]
   simp only [Option.bind_some]
   rw [if_pos hco]
  rw [he,A5]
  have h1:=(h.push (.cells (uv (xs.take i)++reps (xs.length+1 - i) [.int .u64 0]) AJ true)).unsnoc
  generalize σ.size=B at h1 ⊢
  generalize σ.push (.cells (uv (xs.take i)++reps (xs.length+1 - i) [.int .u64 0]) AJ true)=σ1 at h1 ⊢
  have hrl:(reps (xs.length+1 - i) [Value.int .u64 0]).length=xs.length+1 - i:=by rw [P8]; simp
  generalize reps (xs.length+1 - i) [Value.int .u64 0]=Z at h1 hrl
  have hcap2:HF 1 (xs.length+1) (A4*1+(xs.length+1)):=HF.open' (by unfold A4; omega)
  obtain ⟨c1,s1,_⟩:=O6 (b:=B) (o:=0) (k:=.i64) (lo:=((i:Nat):Int)) hcap2 (by omega)
  simp only [Int.toNat_natCast,Nat.mul_one] at s1
  simp only []
  rw [Nat.mul_one,s1,AD]
  refine WL h1 0 (o:=0+i) rfl (hsl σ1 _ _ h1 ⟨2,rfl⟩ (by omega)) (OY _) (by simp; omega) ?_
  intro σ2 h2
  simp only [List.set_cons_zero] at h2
  rw [Nat.zero_add,IV _ _ _ _ htl.symm (by simp; omega)] at h2
  refine E1 ((i+1:Nat):Int) (by omega) ?_
  obtain ⟨c2,s2,_⟩:=O6 (b:=B) (o:=0) (k:=.i64) (lo:=((i+1:Nat):Int)) hcap2 (by omega)
  simp only [Int.toNat_natCast,Nat.mul_one] at s2
  rw [s2,AD,AD]
  have hs3:D5 1 (.slice (some ⟨b,0+i,none⟩) (Nat.min (xs.length - i) (xs.length+1 - (i+1))) (c - i)) σ2=some (xs.length - i,uv (xs.drop i)):=by
   have:Nat.min (xs.length - i) (xs.length+1 - (i+1))=xs.length - i:=Nat.min_eq_left (by omega)
   rw [this,FO (h2.row 1 rfl) (by simp; omega),Nat.zero_add,Nat.mul_one,Y3 xs i rest,List.drop_append_of_le_length (by omega),List.drop_of_length_le (by omega),List.nil_append,List.take_append_of_le_length (by omega),List.take_of_length_le (by omega)]
  refine WL h2 0 (o:=0+(i+1)) rfl hs3 (OY _) (by simp; omega) ?_
  intro σ3 h3
  simp only [List.set_cons_zero] at h3
  rw [Nat.zero_add,IV _ _ _ _ (by simp; omega) (by simp; omega)] at h3
  have h4:=gB h3
  have e4:uv (xs.take i)++uv [x]++uv (xs.drop i)++((Z.drop (uv [x]).length).drop (uv (xs.drop i)).length)=uv (xs.take i)++(uv (x::xs.drop i)++((Z.drop (uv [x]).length).drop (uv (xs.drop i)).length)):=by
   have:uv (x::xs.drop i)=uv [x]++uv (xs.drop i):=rfl
   rw [this]; simp
  rw [e4] at h4
  refine hQ _ _ (fN h4 (by omega) ?_)
  unfold BU A4; omega
 ·refine E1 ((xs.length+1:Nat):Int) (by omega) ?_
  rw [zZ hco (by omega),AD]
  refine E1 ((i+1:Nat):Int) (by omega) ?_
  rw [TF hco (by omega) (by omega) (by omega),AD]
  obtain ⟨y,rest,rfl⟩:∃ y r2,rest=y::r2:=by
   cases rest with
   | nil=>simp at hcr; omega
   | cons y r2=>exact ⟨y,r2,rfl⟩
  rw [j6]
  refine rA (o1:=0) (o2:=0+(i+1)) ACe (t:=UG) (e:=AJ) rfl (by kernel_rfl) (i:=(P.info? AJ).get!) (by kernel_rfl) (h.perm (.swap _ _ _)).get0.1 h.get0.1 (Ne.symm h.ne2) (by simp) (by simp; omega) ?_
  intro ov
  rw [GY,← j6]
  refine cN (fun hov=>?_) (fun hov=>?_)
  ·refine E1 ((i+1:Nat):Int) (by omega) ?_
   rw [TF hco (by omega) (by omega) (by omega),AD,TF hco (by omega) (by omega) (by omega),AD]
   have hs3:D5 1 (.slice (some ⟨b,0+i,none⟩) (Nat.min (xs.length+1 - i) (xs.length+1 - (i+1))) (c - i)) σ=some (xs.length - i,uv (xs.drop i)):=by
    have:Nat.min (xs.length+1 - i) (xs.length+1 - (i+1))=xs.length - i:=by simp only [Nat.min_def]; split<;>omega
    rw [this,FO (h.row 0 rfl) (by simp; omega),Nat.zero_add,Nat.mul_one,Y3 xs i,List.drop_append_of_le_length (by omega),List.drop_of_length_le (by omega),List.nil_append,List.take_append_of_le_length (by omega),List.take_of_length_le (by omega)]
   refine WL h 0 (o:=0+(i+1)) rfl hs3 (OY _) (by simp; omega) ?_
   intro σ2 h2
   simp only [List.set_cons_zero] at h2
   rw [Nat.zero_add,Y3 xs (i+1),IV _ _ _ _ (by simp; omega) (by simp; omega)] at h2
   have e2:uv (xs.take (i+1))++uv (xs.drop i)++(uv (xs.drop (i+1))++y::rest).drop (uv (xs.drop i)).length=uv (xs.take i)++(uv [xs[i]]++(uv (xs.drop i)++rest)):=by
    have a1:uv (xs.take (i+1))=uv (xs.take i)++uv [xs[i]]:=by rw [← OX,List.take_append_getElem hi]
    have a2:(uv (xs.drop (i+1))++y::rest).drop (uv (xs.drop i)).length=rest:=by
     have:(uv (xs.drop i)).length=(uv (xs.drop (i+1))++[y]).length:=by simp; omega
     rw [this,show uv (xs.drop (i+1))++y::rest=(uv (xs.drop (i+1))++[y])++rest by simp,List.drop_left]
    rw [a1,a2]; simp
   rw [e2] at h2
   simp only []
   rw [AD]
   refine WL h2 0 (o:=0+i) rfl (hsl σ2 _ _ h2 ⟨1,rfl⟩ (by omega)) (OY _) (by simp; omega) ?_
   intro σ3 h3
   simp only [List.set_cons_zero] at h3
   rw [Nat.zero_add,IV _ _ _ _ htl.symm (by simp)] at h3
   have e3:uv (xs.take i)++uv [x]++(uv [xs[i]]++(uv (xs.drop i)++rest)).drop (uv [x]).length=uv (xs.take i)++(uv (x::xs.drop i)++rest):=by
    have:uv (x::xs.drop i)=uv [x]++uv (xs.drop i):=rfl
    rw [this,show (uv [x]).length=(uv [xs[i]]).length from rfl,List.drop_left]; simp
   rw [e3] at h3
   refine hQ _ _ (fN (h3.perm (.swap _ _ _)).tail (by omega) ?_)
   rw [C6 hco]; omega
  ·rw [TF hco (by omega) (by omega) (by omega),AD]
   refine WL h 0 (o:=0+xs.length) rfl (hsl σ _ _ h ⟨1,rfl⟩ (by omega)) (OY _) (by simp) ?_
   intro σ2 h2
   simp only [List.set_cons_zero] at h2
   rw [Nat.zero_add,IV _ _ _ _ (by simp) (by simp)] at h2
   rw [TF hco (by omega) (by omega) (by omega),AD]
   have e2:uv xs++uv [x]++(y::rest).drop (uv [x]).length=uv (xs.take i)++uv (xs.drop i++[x])++rest:=by
    have:=Y3 xs i (uv [x]++rest)
    rw [OX]
    simp only [List.append_assoc] at this ⊢
    rw [← this]; rfl
   rw [e2] at h2
   have el:xs.length+1 - i=(xs.drop i).length+1:=by simp; omega
   have ei:(0+i)=(uv (xs.take i)).length:=by omega
   rw [el,ei]
   refine AGx h2 (by simp; omega) (by omega) (by simp; omega) ?_
   intro σ3 h3
   rw [CD]
   rw [List.append_assoc] at h3
   refine hQ _ _ (fN (h3.perm (.swap _ _ _)).tail (by omega) ?_)
   rw [C6 hco]; omega
theorem AGf {s:Value} {vb i x:Nat} {xs:List Nat} (h:H (AU AJ 1 s xs.length (uv xs)::pt vb (.cells (uv [x]) AJ false)::l) σ) (hn:xs.length≤1099511627000) (hi:i≤xs.length)
 (hQ:∀ w σ',H (AQ w (xs.take i++x::xs.drop i)::l) σ'→Q (.ret w) σ'):E CI [s,.int .i64 i,.slice (some ⟨vb,0,none⟩) 1 1] σ Q:=by
 rcases Nat.lt_or_ge i xs.length with hlt | hge
 ·rcases FT.1 h with ⟨⟨h0,_⟩,_⟩ | ⟨b,c,opn,rest,h1,h2,h3,rfl,h4,h5⟩
  ·omega
  ·rcases h5 with ⟨rfl,hc1,hc2⟩ | hc
   ·rw [j6]
    have hlen:(uv xs++rest).length=c % A4:=by
     simp only [List.length_append,PO,h3]; unfold BU; unfold BU at h4; omega
    refine Ev.opened h1.get0.1 hc1 hc2 hlen ⟨Tryz.f134,by kernel_rfl,by kernel_rfl⟩ ?_
    intro c1 k k1 k2 k3
    rw [← j6]
    have h6:=h1.set0 (.cells ((uv xs++rest)++List.replicate k undef) AJ false)
    rw [List.append_assoc] at h6 ⊢
    refine wY h6 hn (by unfold A4; omega) hlt ?_ ?_ hQ
    ·unfold BU at h4; omega
    ·simp only [List.length_append,List.length_replicate] at k2 ⊢
     simp only [PO] at k2; omega
   ·have hkc:=C6 hc
    rw [hkc] at h3 h4
    exact wY h1 hn hc hlt h4 (by omega) hQ
 ·have hie:i=xs.length:=by omega
  subst hie
  have hsl:∃ w,A7 1 s (some (.int .i64 (xs.length:Nat))) none none=some w:=by
   rcases FT.1 h with ⟨⟨h0,_,h2⟩,_⟩ | ⟨b,c,opn,rest,h1,h2,h3,rfl,h4,h5⟩
   ·rw [h0]
    rcases h2 with rfl | rfl
    ·exact ⟨_,rfl⟩
    ·exact ⟨_,rfl⟩
   ·simp only [A7,J2,Option.bind_some]
    rw [DG (by omega)]
    simp only [Option.bind_some,Int.toNat_natCast]
    by_cases hc:c<A4
    ·rw [if_pos hc,if_pos (by rw [C6 hc] at h4; exact h4)]; exact ⟨_,rfl⟩
    ·rw [if_neg hc]
     split
     ·exact ⟨_,rfl⟩
     ·rw [if_pos trivial]; exact ⟨_,rfl⟩
  obtain ⟨w,hw⟩:=hsl
  have hlen:BH s=some (.int .i64 xs.length):=by
   obtain ⟨_,_,a,c,rfl⟩:=h.own_src 0 rfl; rfl
  apply F9; unfold DV
  rw [hw,AD]
  show A2 .i64 (some (.int .i64 1)) _
  rw [AH]
  refine B7 rfl ?_
  rw [hlen,AH]
  refine AS (fun _=>?_) fun g=>absurd rfl g
  have hs:D5 1 (.slice (some ⟨vb,0,none⟩) 1 1) σ=some (1,uv [x]):=by rw [FO (h.row 1 rfl) (by simp)]; rfl
  refine DR h 0 rfl hs (by omega) (by omega) (OY _) ?_
  intro v' σ' h2
  simp only [List.set_cons_zero] at h2
  refine hQ v' σ' ?_
  rw [← OX] at h2
  have h3:=KY h2
  have e:xs.take xs.length++x::xs.drop xs.length=xs++[x]:=by simp
  rw [e]
  exact (h3.perm (.swap _ _ _)).tail
theorem AG1 {b o n c lo hi:Nat} {k k':IntKind} (hz:c<A4∨c / A4=1) (h1:lo<BU c) (h2:lo≤hi) (h3:hi≤BU c) :
 A7 1 (.slice (some ⟨b,o,none⟩) n c) (some (.int k (lo:Nat))) (some (.int k' (hi:Nat))) none=some (.slice (some ⟨b,o+lo,none⟩) (hi - lo) (c - lo)):=by
 simp only [A7,J2]
 rw [DG (by omega)]
 simp only [Option.bind_some,Int.toNat_natCast]
 rw [DG (by omega)]
 simp only [Option.bind_some,Int.toNat_natCast]
 by_cases hc:c<A4
 ·rw [C6 hc] at h1 h3
  rw [if_pos hc,if_pos h3,if_neg (by omega)]; simp [FF]
 ·rw [if_neg hc,if_pos ⟨h1,hz.resolve_left hc⟩]; simp [FF]
theorem AFK {b o n c hi:Nat} {k':IntKind} (hz:c<A4∨c / A4=1) (h1:0<BU c) (h3:hi≤BU c) :
 A7 1 (.slice (some ⟨b,o,none⟩) n c) none (some (.int k' (hi:Nat))) none=some (.slice (some ⟨b,o,none⟩) hi c):=by
 simp only [A7,J2]
 rw [DG (by omega)]
 simp only [Option.bind_some,Int.toNat_natCast]
 by_cases hc:c<A4
 ·rw [C6 hc] at h1 h3
  rw [if_pos hc,if_pos h3,if_neg (by omega)]; simp [FF]
 ·rw [if_neg hc,if_pos ⟨h1,hz.resolve_left hc⟩]; simp [FF]
theorem vZ {b o n c lo:Nat} {k:IntKind} (hz:c<A4∨c / A4=1) (hn:n≤BU c) (h1:lo≤n) (h0:0<n) :
 ∃ a c',A7 1 (.slice (some ⟨b,o,none⟩) n c) (some (.int k (lo:Nat))) none none=some (.slice (some a) (n - lo) c')∧(lo<n→a=⟨b,o+lo,none⟩∧n - lo≤BU c'):=by
 rcases Nat.lt_or_ge lo n with hlt | hge
 ·obtain ⟨c',e,hc'⟩:=O6 (b:=b) (o:=o) (k:=k) (lo:=(lo:Nat)) ⟨hn,hz⟩ (by omega)
  simp only [Int.toNat_natCast,Nat.mul_one] at e hc'
  exact ⟨_,c',e,fun _=>⟨rfl,hc'.1⟩⟩
 ·have:lo=n:=by omega
  subst this
  rw [Nat.sub_self]
  simp only [A7,J2,Option.bind_some]
  rw [DG (by omega)]
  simp only [Option.bind_some,Int.toNat_natCast,Nat.sub_self]
  by_cases hc:c<A4
  ·rw [if_pos hc,if_pos (by rw [C6 hc] at hn; exact hn)]
   split
   ·exact ⟨_,_,rfl,fun g=>absurd g (by omega)⟩
   ·exact ⟨_,_,rfl,fun g=>absurd g (by omega)⟩
  ·rw [if_neg hc]
   split
   ·exact ⟨_,_,rfl,fun g=>absurd g (by omega)⟩
   ·rw [if_pos trivial]; exact ⟨_,_,rfl,fun g=>absurd g (by omega)⟩
theorem AGs {s:Value} {i:Nat} {xs:List Nat} (h:H (AU AJ 1 s xs.length (uv xs)::l) σ) (hn:xs.length≤1099511627000) (hi:i<xs.length)
 (hQ:∀ w σ',H (AQ w (xs.take i++xs.drop (i+1))::l) σ'→Q (.ret w) σ'):E DN [s,.int .i64 i,.int .i64 ((i+1:Nat):Int)] σ Q:=by
 rcases FT.1 h with ⟨⟨h0,_⟩,_⟩ | ⟨b,c,opn,rest,h1,h2,h3,rfl,h4,h5⟩
 ·omega
 ·have hz:c<A4∨c / A4=1:=by
   rcases h5 with ⟨_,_,h5⟩ | h5
   ·exact .inr h5
   ·exact .inl h5
  apply LC; unfold GC
  show A2 .i64 (some (.int .i64 xs.length)) _
  rw [AH]
  have e1:=vU (z:=1) (b:=b) (o:=0) (n:=xs.length) (c:=c) (lo:=(i:Nat)) (hi:=((i+1:Nat):Int)) (mx:=(xs.length:Nat)) (k:=.i64) (k':=.i64) (k'':=.i64) ⟨h4,hz⟩ (by omega)
  rw [e1,AD]
  refine AS (fun g=>absurd g (by omega)) fun _=>?_
  show A2 .i64 (some (.int .i64 xs.length)) _
  rw [AH,AFK hz (by omega) (by omega),AD]
  obtain ⟨a,c',e2,ha⟩:=vZ (b:=b) (o:=0) (k:=.i64) hz h4 (lo:=i+1) (by omega) (by omega)
  rw [e2,AD]
  have hs:D5 1 (.slice (some a) (xs.length - (i+1)) c') σ=some (xs.length - (i+1),uv (xs.drop (i+1))):=by
   rcases Nat.lt_or_ge (i+1) xs.length with hlt | hge
   ·obtain ⟨rfl,_⟩:=ha hlt
    rw [FO (h1.row 0 rfl) (by simp; omega),Nat.zero_add,Nat.mul_one,Y3 xs (i+1),List.drop_append_of_le_length (by simp; omega),List.drop_of_length_le (by simp; omega),List.nil_append,List.take_append_of_le_length (by simp),List.take_of_length_le (by simp)]
   ·have hz0:xs.length - (i+1)=0:=by omega
    rw [hz0,aM,List.drop_of_length_le (by omega)]; rfl
  obtain ⟨σ1,hp,h6⟩:=ZR (o:=i) h1 (OY (xs.drop (i+1))) (by simp; omega)
  have hap:BZ AJ 1 8 (.slice (some ⟨b,0,none⟩) i c) (.slice (some a) (xs.length - (i+1)) c') σ=some (.slice (some ⟨b,0,none⟩) (xs.length - 1) c,σ1):=by
   simp only [BZ,hs,Option.bind_some,G5]
   have e3:i+(xs.length - (i+1))=xs.length - 1:=by omega
   rw [e3,if_pos (by omega),Nat.mul_one,FF,Nat.zero_add,hp]; rfl
  rw [hap,A5]
  show A2 .i64 (some (.int .i64 ((xs.length - 1:Nat):Int))) _
  rw [AH,AG1 hz (by omega) (by omega) h4,AD]
  have hrow:splice (uv xs++rest) i (uv (xs.drop (i+1)))=uv (xs.take i++xs.drop (i+1))++((uv (xs.drop i)++rest).drop (uv (xs.drop (i+1))).length):=by
   rw [Y3 xs i,IV _ _ _ _ (by simp; omega) (by simp; omega),OX]
  rw [hrow] at h6
  obtain ⟨y,hy⟩:∃ y,(uv (xs.drop i)++rest).drop (uv (xs.drop (i+1))).length=y:=⟨_,rfl⟩
  have hyl:1≤y.length:=by rw [← hy]; simp; omega
  rw [hy] at h6
  obtain ⟨σ2,hp2,h7⟩:=ZR (o:=0+(xs.length - 1)) (ys:=reps 1 [.int .u64 0]) h6 rfl (by simp [reps]; omega)
  have hcl:cA [.int .u64 0] (.slice (some ⟨b,0+(xs.length - 1),none⟩) (xs.length - (xs.length - 1)) (c - (xs.length - 1))) σ1=some σ2:=by
   have:xs.length - (xs.length - 1)=1:=by omega
   rw [this]; exact hp2
  rw [hcl,A5]
  have hl2:(xs.take i++xs.drop (i+1)).length=xs.length - 1:=by simp; omega
  refine hQ _ _ ?_
  rw [IV _ _ _ _ (by simp; omega) (by simpa [reps] using hyl)] at h7
  have:=m3 (o:=0) (c:=c) (xs:=xs.take i++xs.drop (i+1)) (by omega) (by
   rw [List.drop_zero,List.append_assoc,List.take_append_of_le_length (by simp),List.take_of_length_le (by simp)]) (by simp; try omega) h7
  rw [hl2] at this
  exact this
end Go.Ax.C
namespace Go.Ax
open Go.RowKit
class Tl (l m:List AK):Prop where
 ex:∃ k,l.Perm (m++k)
instance (priority:=1000) Tl.refl (l:List AK):Tl l l:=⟨[],by simp⟩
instance (priority:=900) Tl.nil (l:List AK):Tl l []:=⟨l,.refl _⟩
instance (priority:=100) Tl.drop (A:AK) (l m:List AK) [h:Tl l m]:Tl (A::l) m:=⟨by
 obtain ⟨k,hk⟩:=h.ex
 exact ⟨A::k,(hk.cons A).trans List.perm_middle.symm⟩⟩
class Sb (l m:List AK):Prop where
 ex:∃ k,l.Perm (m++k)
instance (priority:=1000) Sb.step (A:AK) (l m r:List AK) [h:Fnd l A r] [k:Sb r m]:Sb l (A::m):=⟨by
 obtain ⟨x,hx⟩:=k.ex
 exact ⟨x,h.perm.trans (hx.cons A)⟩⟩
instance (priority:=100) Sb.tl (l m:List AK) [h:Tl l m]:Sb l m:=⟨h.ex⟩
theorem H.re {l m:List AK} {σ:AHeap} (h:H l σ) [k:Sb l m]:H m σ:=by
 obtain ⟨x,hx⟩:=k.ex
 exact (h.perm hx).left
theorem Ld {l:List AK} {σ:AHeap} {b o:Nat} {c:List Value} {v:Value} (h:H l σ) [k:sC l b c] [g:m6 c o v]:AF false 1 (.pointer (some ⟨b,o,none⟩)) σ=some v:=by
 rw [BO (k.row σ h),g.eq]
section
variable {l:List AK} {σ:AHeap} {b o:Nat} {c:List Value}
theorem LI {ik:IntKind} {n:Int} {K:Int→Prop} (h:H l σ) [sC l b c] [m6 c o (.int ik n)]:A2 ik (L b o σ) K=K n:=by rw [t4 h,AH]
theorem LB {n:Bool} {K:Bool→Prop} (h:H l σ) [sC l b c] [m6 c o (.bool n)]:DF (L b o σ) K=K n:=by rw [t4 h,BR]
theorem LV {v:Value} {K:Value→Prop} (h:H l σ) [sC l b c] [m6 c o v]:om (L b o σ) K=K v:=by rw [t4 h,AD]
theorem AV {v:Value} {K:Value→Prop} (h:H l σ) [sC l b c] [m6 c o v]:om (AF false 1 (.pointer (some ⟨b,o,none⟩)) σ) K=K v:=by rw [Ld h,AD]
theorem CE {k:IntKind} {n:Int} {p:Prop}:(AX (.int k n) (.int k n)=true∧p)=p:=by simp [AX,xE,aQ]
theorem ZF {n:Bool} {p:Prop}:(AX (.bool n) (.bool n)=true∧p)=p:=by simp [AX,xE,aQ]
end
end Go.Ax
set_option maxRecDepth 100000
namespace Go.Ax.C
open Go.Proofs Go.RowKit
variable {l r m:List AK} {σ:AHeap} {Q:RK}
structure Nd where
 leaf:Bool
 keys:List Nat
 vals:List Nat
deriving DecidableEq,Repr
theorem iP {pre:List AK} (h:H (pre++l) σ):H l σ:=by
 induction pre with
 | nil=>exact h
 | cons A pre ih=>exact ih h.tail
theorem LX {a:Option Addr} {n c:Nat} {p:Prop}:(AX (.slice a n c) (.slice a n c)=true∧p)=p:=by
 have:AX (.slice a n c) (.slice a n c)=true:=by simp [AX,xE,aQ]
 simp [this]
theorem AW {v:Value} {xs:List Nat} (h:H (AQ v xs::l) σ):∃ a c,v=.slice a xs.length c:=ZD (CX h)
def MV (l:List AK) (kv vv:Value) (n:Nd):Prop:=∀ τ,H l τ→Us τ kv n.keys∧Us τ vv n.vals
theorem MV.cons {kv vv:Value} {n:Nd} {A:AK} (h:MV l kv vv n):MV (A::l) kv vv n:=fun τ ht=>h τ ht.tail
theorem MV.two {kv vv:Value} {n:Nd}:MV (AQ kv n.keys::AQ vv n.vals::l) kv vv n:=fun τ ht=>⟨CX ht,CX ht.tail⟩
theorem fS {lf:Bool} {kv vv:Value} {n:Nd} (h:H l σ) (hn:MV l kv vv n) (hl:n.keys.length=n.vals.length)
 (hQ:∀ σ',H l σ'→Q (.ret (.int .i64 n.keys.length)) σ'):E HL [.agg #[.bool lf,kv,vv]] σ Q:=by
 apply mH; unfold ZC
 refine nw h ?_
 intro b σ1 h1
 obtain ⟨hk,hv⟩:=hn σ1 h1.tail
 rw [LV h1,MG hk,AH,LV h1,MG hv,AH]
 rw [if_neg (by omega)]
 exact hQ _ h1.tail
theorem gP {lf:Bool} {kv vv:Value} {n:Nd} {g:FuncId} {caps:List Value} (h:H l σ) (hn:MV l kv vv n) (hl:n.keys.length=n.vals.length) (hlen:n.keys.length≤1000) (F:Bool→List Nat→List Nat)
 (hg:∀ kf xs pre v τ (Q':RK),xs=(if kf then n.keys else n.vals)→H (AU AJ 1 v xs.length (uv xs)::(pre++l)) τ→(∀ w τ',H (AQ w (F kf xs)::(pre++l)) τ'→Q' (.ret w) τ')→E g ([]++[v,.bool kf]++caps) τ Q')
 (hQ:∀ kv' vv' σ',H (AQ kv' (F true n.keys)::AQ vv' (F false n.vals)::l) σ'→Q (.ret (.agg #[.bool lf,kv',vv'])) σ') :
 E F5 [.agg #[.bool lf,kv,vv],.func (.func g) #[] caps.toArray] σ Q:=by
 apply qZ; unfold cW
 refine nw h ?_
 intro b1 σ1 h1
 refine nw h1 ?_
 intro b3 σ2 h2
 have hn2:MV _ kv vv n:=(hn.cons (A:=pt b1 (.cells [.bool lf,kv,vv] AG false))).cons (A:=pt b3 (.cells [.bool false,.slice none 0 0,.slice none 0 0] AG false))
 rw [LB h2,LV h2,LV h2]
 refine fS h2 hn2 hl ?_
 intro σ3 h3
 obtain ⟨hk,hv⟩:=hn2 σ3 h3
 rw [A9,LB h3,LV h3]
 obtain ⟨w1,e1,u1⟩:=oF (kd:=.i64) (kd':=.i64) hk (Nat.le_refl _)
 obtain ⟨w2,e2,u2⟩:=oF (kd:=.i64) (kd':=.i64) hv (Nat.le_of_eq hl)
 rw [e1,AD,LV h3,e2,AD]
 rw [List.take_length] at u1
 rw [hl,List.take_length] at u2
 refine AAw h3 u1 (by omega) ?_
 intro v23 σ4 h4
 rw [CC,LB h4,ZF,LV h4]
 obtain ⟨a0,c0',rfl⟩:=ZD hv
 rw [LX]
 show E g _ _ _
 refine hg true n.keys [_,_] v23 σ4 _ rfl h4 ?_
 intro v27 σ5 h5
 have h5:H (AQ v27 (F true n.keys)::pt b3 (.cells [.bool false,.slice none 0 0,.slice none 0 0] AG false)::pt b1 (.cells [.bool lf,kv,.slice a0 n.vals.length c0'] AG false)::l) σ5:=h5
 rw [CC,LB h5,ZF,LV h5,LX]
 have u3:Us σ5 w2 n.vals:=by
  obtain ⟨w3,e3,u3⟩:=oF (kd:=.i64) (kd':=.i64) (hn2 σ5 h5.tail).2 (Nat.le_of_eq hl)
  rw [e2] at e3
  cases e3
  rw [hl,List.take_length] at u3
  exact u3
 refine AAw h5 u3 (by omega) ?_
 intro v31 σ6 h6
 rw [CC,LB h6,ZF]
 show E g _ _ _
 refine hg false n.vals [_,_,_] v31 σ6 _ rfl h6 ?_
 intro v34 σ7 h7
 have h7:H (AQ v34 (F false n.vals)::AQ v27 (F true n.keys)::pt b3 (.cells [.bool false,.slice none 0 0,.slice none 0 0] AG false)::pt b1 (.cells [.bool lf,kv,.slice a0 n.vals.length c0'] AG false)::l) σ7:=h7
 rw [CC,LB h7,ZF]
 obtain ⟨a1,c1,rfl⟩:=AW h7
 obtain ⟨a2,c2,rfl⟩:=AW h7.tail
 refine E5 rfl (E5 rfl ?_)
 refine VJ (vs:=[.bool lf,.slice a2 (F true n.keys).length c2,.slice a1 (F false n.vals).length c1]) h7 2 rfl rfl (by omega) rfl (by simp) ?_
 intro σ8 h8
 have h9:H (AQ (.slice a1 (F false n.vals).length c1) (F false n.vals)::AQ (.slice a2 (F true n.keys).length c2) (F true n.keys)::pt b3 (.cells [.bool lf,.slice a2 (F true n.keys).length c2,.slice a1 (F false n.vals).length c1] AG false)::pt b1 (.cells [.bool lf,kv,.slice a0 n.vals.length c0'] AG false)::l) σ8:=h8
 rw [VU (h9.row 2 rfl) (by simp),A5]
 have h10:=(h9.perm ((List.Perm.swap _ _ _).trans (((List.Perm.refl _).cons _).cons _)))
 refine hQ _ _ σ8 ?_
 have h11:H (pt b3 (.cells [.bool lf,.slice a2 (F true n.keys).length c2,.slice a1 (F false n.vals).length c1] AG false)::pt b1 (.cells [.bool lf,kv,.slice a0 n.vals.length c0'] AG false)::AQ (.slice a2 (F true n.keys).length c2) (F true n.keys)::AQ (.slice a1 (F false n.vals).length c1) (F false n.vals)::l) σ8:=by
  have:=List.perm_append_comm (l₁:=[AQ (.slice a2 (F true n.keys).length c2) (F true n.keys),AQ (.slice a1 (F false n.vals).length c1) (F false n.vals)]) (l₂:=[pt b3 (.cells [.bool lf,.slice a2 (F true n.keys).length c2,.slice a1 (F false n.vals).length c1] AG false),pt b1 (.cells [.bool lf,kv,.slice a0 n.vals.length c0'] AG false)])
  exact h10.perm (this.append_right l)
 exact h11.tail.tail
theorem AFX {b:Bool} {x y:Nat} (hQ:Q (.ret (.int .u64 (if b then x else y:Nat))) σ):E SW [.bool b,.int .u64 x,.int .u64 y] σ Q:=by
 apply tW; unfold gS
 cases b with
 | true=>exact hQ
 | false=>exact hQ
theorem AB4 {b:Nat} {q:Bool} {c:List Value} {e:TypeId} {lf:Bool} {x y:Value} {K:Value→AHeap→Prop} (h:H (pt b (.cells c e q)::l) σ) (hc:c.length=3) (hx:one x=true) (hy:one y=true) (hK:∀ σ',H l σ'→K (.agg #[.bool lf,x,y]) σ') :
 pu (AP 3 (.pointer (some ⟨b,0,none⟩)) (.agg #[.bool lf,x,y]) σ) fun τ=>pu (AF true 3 (.pointer (some ⟨b,0,none⟩)) τ) fun v=>K v τ:=by
 refine VJ (vs:=[.bool lf,x,y]) h 0 rfl rfl (by omega) (by simp only [List.all_cons,hx,hy,List.all_nil]; rfl) (by omega) ?_
 intro σ1 h1
 have hs:splice c 0 [.bool lf,x,y]=[.bool lf,x,y]:=by
  unfold splice
  rw [List.take_zero,List.nil_append,Nat.zero_add,List.drop_of_length_le (by simp; omega),List.append_nil]
 have h2:H (pt b (.cells (splice c 0 [.bool lf,x,y]) e q)::l) σ1:=h1
 rw [hs] at h2
 rw [VU (h2.row 0 rfl) (by simp),A5]
 exact hK σ1 h2.tail
def SA (i key val:Nat) (kf:Bool) (xs:List Nat):List Nat:=xs.take i++(if kf then key else val)::xs.drop i
theorem vA {lf:Bool} {kv vv:Value} {n:Nd} {i key val:Nat} (h:H l σ) (hn:MV l kv vv n) (hl:n.keys.length=n.vals.length) (hlen:n.keys.length≤1000) (hi:i≤n.keys.length)
 (hQ:∀ kv' vv' σ',H (AQ kv' (SA i key val true n.keys)::AQ vv' (SA i key val false n.vals)::l) σ'→Q (.ret (.agg #[.bool lf,kv',vv'])) σ') :
 E M6 [.agg #[.bool lf,kv,vv],.int .i64 i,.int .u64 key,.int .u64 val] σ Q:=by
 apply j1; unfold XI
 refine nw h ?_
 intro b1 σ1 h1
 refine nw h1 ?_
 intro b3 σ2 h2
 refine nw h2 ?_
 intro b5 σ3 h3
 refine nw h3 ?_
 intro b7 σ4 h4
 refine nw h4 ?_
 intro b9 σ5 h5
 rw [LI h5,LB h5,LV h5,LV h5]
 refine fS h5 (((((hn.cons).cons).cons).cons).cons) hl ?_
 intro σ6 h6
 rw [A9,LI h6,CE]
 have e:(if (n.keys.length:Int)<(if 0 > (i:Int) then 0 else (i:Int)) then (n.keys.length:Int) else (if 0 > (i:Int) then 0 else (i:Int)))=i:=by
  rw [if_neg (show ¬ (0 > (i:Int)) by omega),if_neg (by omega)]
 rw [e]
 refine st h6 rfl ?_
 intro σ7 h7
 rw [LB h7,LV h7,LV h7]
 refine gP (caps:=[.pointer (some ⟨b3,0,none⟩),.pointer (some ⟨b5,0,none⟩),.pointer (some ⟨b7,0,none⟩)]) h7 (((((hn.cons).cons).cons).cons).cons) hl hlen (SA i key val) ?_ ?_
 ·intro kf xs pre v τ Q' hxs hτ hk
  show E MC [v,.bool kf,.pointer (some ⟨b3,0,none⟩),.pointer (some ⟨b5,0,none⟩),.pointer (some ⟨b7,0,none⟩)] τ Q'
  apply bT; unfold SJ
  have hl0:=iP hτ.tail
  rw [LI hl0,LI hl0,LI hl0]
  refine AFX ?_
  rw [A9,LI hl0,CE]
  refine nw hτ ?_
  intro b13 σ8 h8
  have hl1:=iP h8.tail.tail
  rw [LI hl1,CE]
  have hxl:xs.length=n.keys.length:=by rw [hxs]; split<;>omega
  refine AGf (x:=if kf then key else val) (h8.perm (.swap _ _ _)) (by omega) (by omega) ?_
  intro w σ9 h9
  rw [CC]
  exact hk w σ9 h9
 ·intro kv' vv' σ8 h8
  rw [CC]
  obtain ⟨a1,c1,hk'⟩:=AW h8
  obtain ⟨a2,c2,hv'⟩:=AW h8.tail
  refine AB4 (K:=fun v τ=>Q (.ret v) τ) (h8.re:H (pt b9 (.cells [.bool false,.slice none 0 0,.slice none 0 0] AG false)::AQ kv' (SA i key val true n.keys)::AQ vv' (SA i key val false n.vals)::l) σ8) rfl (by rw [hk']; rfl) (by rw [hv']; rfl) ?_
  intro σ9 h9
  exact hQ _ _ _ h9
def setF (i key val:Nat) (kf:Bool) (xs:List Nat):List Nat:=xs.set i (if kf then key else val)
theorem ADq {e:Nat} {v:Value} {xs:List Nat} {i:Nat} (h:H (AU e 1 v xs.length (uv xs)::l) σ) (hi:i<xs.length) {K:AHeap→Prop} {y:Nat} (hK:∀ σ',H (AU e 1 v xs.length (uv (xs.set i y))::l) σ'→K σ') :
 om (AE 1 v (.int .i64 i)) fun p=>pu (AP 1 p (.int .u64 y) σ) K:=by
 rcases FT.1 h with ⟨⟨h0,_⟩,_⟩ | ⟨b,c,opn,rest,h1,h2,h3,rfl,h4,h5⟩
 ·omega
 ·rw [S6 (by omega),AD]
  have e:(⟨b,0+(i:Int).toNat*1,none⟩:Addr)=⟨b,i,none⟩:=by simp
  rw [e]
  refine KA h 0 rfl (by omega) rfl (by simpa using hi) ?_
  intro σ' h'
  rw [List.set_cons_zero,← mO] at h'
  exact hK σ' h'
theorem ACU {lf:Bool} {kv vv:Value} {n:Nd} {i key val:Nat} (h:H l σ) (hn:MV l kv vv n) (hl:n.keys.length=n.vals.length) (hlen:n.keys.length≤1000) (hi:i<n.keys.length)
 (hQ:∀ kv' vv' σ',H (AQ kv' (setF i key val true n.keys)::AQ vv' (setF i key val false n.vals)::l) σ'→Q (.ret (.agg #[.bool lf,kv',vv'])) σ') :
 E L4 [.agg #[.bool lf,kv,vv],.int .i64 i,.int .u64 key,.int .u64 val] σ Q:=by
 apply t8; unfold fZ
 refine nw h ?_
 intro b1 σ1 h1
 refine nw h1 ?_
 intro b3 σ2 h2
 refine nw h2 ?_
 intro b5 σ3 h3
 refine nw h3 ?_
 intro b7 σ4 h4
 refine nw h4 ?_
 intro b9 σ5 h5
 rw [LB h5,LV h5,LV h5]
 refine gP (caps:=[.pointer (some ⟨b3,0,none⟩),.pointer (some ⟨b5,0,none⟩),.pointer (some ⟨b7,0,none⟩)]) h5 (((((hn.cons).cons).cons).cons).cons) hl hlen (setF i key val) ?_ ?_
 ·intro kf xs pre v τ Q' hxs hτ hk
  show E Q0 [v,.bool kf,.pointer (some ⟨b3,0,none⟩),.pointer (some ⟨b5,0,none⟩),.pointer (some ⟨b7,0,none⟩)] τ Q'
  have hxl:xs.length=n.keys.length:=by rw [hxs]; split<;>omega
  apply jO; unfold XC
  have hl0:=iP hτ.tail
  rw [LI hl0]
  refine AS (fun _=>?_) fun g=>absurd (by omega) g
  have hlv:BH v=some (.int .i64 xs.length):=by obtain ⟨_,_,a,c,rfl⟩:=hτ.own_src 0 rfl; rfl
  rw [LI hl0,hlv,AH]
  unfold ME
  refine AS (fun _=>?_) fun g=>absurd (by omega) g
  rw [LI hl0,LI hl0,LI hl0]
  refine AFX ?_
  rw [A9,LI hl0,CE]
  refine ADq hτ (by omega) ?_
  intro σ8 h8
  unfold MS
  refine hk v σ8 ?_
  have hl8:xs.length=(setF i key val kf xs).length:=by simp [setF]
  rw [hl8] at h8
  exact KY h8
 ·intro kv' vv' σ8 h8
  rw [CC]
  obtain ⟨a1,c1,hk'⟩:=AW h8
  obtain ⟨a2,c2,hv'⟩:=AW h8.tail
  refine AB4 (K:=fun v τ=>Q (.ret v) τ) (h8.re:H (pt b9 (.cells [.bool false,.slice none 0 0,.slice none 0 0] AG false)::AQ kv' (setF i key val true n.keys)::AQ vv' (setF i key val false n.vals)::l) σ8) rfl (by rw [hk']; rfl) (by rw [hv']; rfl) ?_
  intro σ9 h9
  exact hQ _ _ _ h9
def W1 (i:Nat) (_:Bool) (xs:List Nat):List Nat:=xs.take i++xs.drop (i+1)
theorem wI {lf:Bool} {kv vv:Value} {n:Nd} {i:Nat} (h:H l σ) (hn:MV l kv vv n) (hl:n.keys.length=n.vals.length) (hlen:n.keys.length≤1000) (hi:i<n.keys.length)
 (hQ:∀ kv' vv' σ',H (AQ kv' (W1 i true n.keys)::AQ vv' (W1 i false n.vals)::l) σ'→Q (.ret (.agg #[.bool lf,kv',vv'])) σ') :
 E MX [.agg #[.bool lf,kv,vv],.int .i64 i] σ Q:=by
 apply jR; unfold XO
 refine nw h ?_
 intro b1 σ1 h1
 refine nw h1 ?_
 intro b3 σ2 h2
 refine nw h2 ?_
 intro b5 σ3 h3
 rw [LB h3,LV h3,LV h3]
 refine gP (caps:=[.pointer (some ⟨b3,0,none⟩)]) h3 (((hn.cons).cons).cons) hl hlen (W1 i) ?_ ?_
 ·intro kf xs pre v τ Q' hxs hτ hk
  show E LU [v,.bool kf,.pointer (some ⟨b3,0,none⟩)] τ Q'
  have hxl:xs.length=n.keys.length:=by rw [hxs]; split<;>omega
  apply bJ; unfold RG
  have hl0:=iP hτ.tail
  rw [LI hl0]
  refine AS (fun g=>absurd g (by omega)) fun _=>?_
  have hlv:BH v=some (.int .i64 xs.length):=by obtain ⟨_,_,a,c,rfl⟩:=hτ.own_src 0 rfl; rfl
  rw [LI hl0,hlv,AH]
  unfold JL
  refine AS (fun g=>absurd g (by omega)) fun _=>?_
  rw [LI hl0,LI hl0]
  refine E1 ((i+1:Nat):Int) (by omega) ?_
  refine AGs hτ (by omega) (by omega) ?_
  intro w σ9 h9
  rw [CC]
  exact hk w σ9 h9
 ·intro kv' vv' σ8 h8
  rw [CC]
  obtain ⟨a1,c1,hk'⟩:=AW h8
  obtain ⟨a2,c2,hv'⟩:=AW h8.tail
  refine AB4 (K:=fun v τ=>Q (.ret v) τ) (h8.re:H (pt b5 (.cells [.bool false,.slice none 0 0,.slice none 0 0] AG false)::AQ kv' (W1 i true n.keys)::AQ vv' (W1 i false n.vals)::l) σ8) rfl (by rw [hk']; rfl) (by rw [hv']; rfl) ?_
  intro σ9 h9
  exact hQ _ _ _ h9
end Go.Ax.C
set_option maxRecDepth 100000
namespace Go.Ax.C
open Go.Proofs Go.RowKit
variable {l r m:List AK} {σ:AHeap} {Q:RK}
theorem AAG {e:Nat} {v:Value} {xs:List Nat} {k:Nat} {kd:IntKind} (h:H (AU e 1 v xs.length (uv xs)::l) σ) (hk:k≤xs.length) :
 ∃ w,A7 1 v (some (.int kd (k:Nat))) none none=some w∧H (AQ w (xs.drop k)::l) σ:=by
 rcases FT.1 h with ⟨⟨h0,_,h2⟩,hh⟩ | ⟨b,c,opn,rest,h1,h2,h3,rfl,h4,h5⟩
 ·have:k=0:=by omega
  subst this
  have:xs=[]:=List.length_eq_zero_iff.1 h0
  subst this
  rcases h2 with rfl | rfl
  ·exact ⟨_,rfl,OO rfl hh⟩
  ·exact ⟨_,rfl,OO rfl hh⟩
 ·by_cases hpos:0<xs.length
  ·have hz:c<A4∨c / A4=1:=by
    rcases h5 with ⟨_,_,h5⟩ | h5
    ·exact .inr h5
    ·exact .inl h5
   obtain ⟨a,c',e2,ha⟩:=vZ (b:=b) (o:=0) (k:=kd) hz h4 hk hpos
   refine ⟨_,e2,?_⟩
   by_cases hlt:k<xs.length
   ·obtain ⟨rfl,hc'⟩:=ha hlt
    have:=m3 (o:=0+k) (c:=c') (xs:=xs.drop k) (by simpa using hc') (by
     rw [Nat.zero_add,List.drop_append_of_le_length (by simpa using hk),← ACI,List.take_append_of_le_length (by simp),List.take_of_length_le (by simp)]) (by simp; omega) h1
    rw [List.length_drop] at this
    exact this
   ·have h0:xs.length - k=0:=by omega
    rw [h0,List.drop_of_length_le (by omega)]
    exact OO rfl h1.tail
  ·have:xs=[]:=List.length_eq_zero_iff.1 (by omega)
   subst this
   have:k=0:=by simpa using hk
   subst this
   simp only [A7,J2,Option.bind_some]
   rw [DG (by simp)]
   simp only [Option.bind_some]
   by_cases hc:c<A4
   ·rw [if_pos hc,if_pos (by simp)]
    exact ⟨_,rfl,OO rfl h1.tail⟩
   ·rw [if_neg hc]
    split
    ·exact ⟨_,rfl,OO rfl h1.tail⟩
    ·exact ⟨ZA,by simp,OO rfl h1.tail⟩
theorem ACZ {v:Value} {xs:List Nat} {k:Nat} {kd kd':IntKind} (h:H (AQ v xs::l) σ) (hk:k≤xs.length) :
 ∃ w,A7 1 v none (some (.int kd (k:Nat))) (some (.int kd' (k:Nat)))=some w∧H (AQ w (xs.take k)::l) σ:=by
 obtain ⟨w,e,_⟩:=oF (kd:=kd) (kd':=kd') (CX h) hk
 refine ⟨w,e,?_⟩
 obtain ⟨p,hp⟩:=JM.1 h
 cases p with
 | none =>
   obtain ⟨⟨rfl,a,c,rfl⟩,hh⟩:=BK.1 hp
   have:k=0:=by simpa using hk
   subst this
   simp only [A7,J2] at e
   rw [DG (by simp)] at e
   simp only [Option.bind_some] at e
   rw [DG (by simp)] at e
   cases e
   exact OO rfl hh
 | some p =>
   simp only [BB] at hp
   obtain ⟨⟨h1,h2,h3,h4,h5⟩,hh⟩:=BK.1 hp
   rw [h1] at e
   simp only [A7,J2] at e
   rw [DG (by omega)] at e
   simp only [Option.bind_some] at e
   rw [DG (by simp)] at e
   simp only [Option.bind_some,Int.toNat_natCast,Nat.sub_zero,Nat.zero_mul,Option.map_some,FF,Nat.add_zero,ite_self,Option.some.injEq] at e
   subst e
   refine JM.2 ⟨some (p.1,p.2.1,k,p.2.2.2.1,p.2.2.2.2),?_⟩
   simp only [BB]
   have hkl:(xs.take k).length=k:=by simp; omega
   refine BK.2 ⟨⟨by rw [hkl],?_,?_,by rw [hkl]; omega,h5⟩,hh⟩
   ·rw [hkl]
    have:BU k=k:=by
     refine C6 ?_
     have:BU p.2.2.1<A4:=Nat.mod_lt _ (by unfold A4; omega)
     omega
    omega
   ·rw [hkl,vL,← h3,List.take_take,Nat.min_eq_left hk]
theorem bH {b:Nat} {q:Bool} {c:List Value} {e:TypeId} {lf:Bool} {x y:Value} {K:AHeap→Prop} (h:H l σ) [f:AtB l b (pt b (.cells c e q)) r] (hc:c.length=3) (hx:one x=true) (hy:one y=true)
 (hK:∀ σ',H (pt b (.cells [.bool lf,x,y] e q)::r) σ'→K σ'):pu (AP 3 (.pointer (some ⟨b,0,none⟩)) (.agg #[.bool lf,x,y]) σ) K:=by
 have h:=h.atb b
 refine VJ (vs:=[.bool lf,x,y]) h 0 rfl rfl (by omega) (by simp only [List.all_cons,hx,hy,List.all_nil]; rfl) (by omega) ?_
 intro σ1 h1
 have hs:splice c 0 [.bool lf,x,y]=[.bool lf,x,y]:=by
  unfold splice
  rw [List.take_zero,List.nil_append,Nat.zero_add,List.drop_of_length_le (by simp; omega),List.append_nil]
 have h2:H (pt b (.cells (splice c 0 [.bool lf,x,y]) e q)::r) σ1:=h1
 rw [hs] at h2
 exact hK σ1 h2
def EB (n:Nd):Nat:=(n.keys.length+1) / 2
set_option maxHeartbeats 1000000 in
theorem AAj {lf:Bool} {kv vv:Value} {n:Nd} (h:H l σ) (hn:MV l kv vv n) (hl:n.keys.length=n.vals.length) (hlen:n.keys.length≤1000)
 (hQ:∀ k1 v1 k2 v2 σ',H (AQ k1 (n.keys.take (EB n))::AQ v1 (n.vals.take (EB n))::AQ k2 (n.keys.drop (EB n))::AQ v2 (n.vals.drop (EB n))::l) σ'→Q (.ret (.tuple #[.agg #[.bool lf,k1,v1],.agg #[.bool lf,k2,v2]])) σ') :
 E OU [.agg #[.bool lf,kv,vv]] σ Q:=by
 apply oD; unfold aS
 refine nw h ?_
 intro b1 σ1 h1
 refine nw h1 ?_
 intro b3 σ2 h2
 refine nw h2 ?_
 intro b5 σ3 h3
 rw [LB h3,LV h3,LV h3]
 refine fS h3 (((hn.cons).cons).cons) hl ?_
 intro σ4 h4
 rw [A9]
 refine E1 ((n.keys.length:Int)+1) (by omega) ?_
 have hhalf:Int.tdiv ((n.keys.length:Int)+1) 2=((EB n:Nat):Int):=by
  unfold EB
  rw [Int.tdiv_eq_ediv_of_nonneg (by omega)]; omega
 have hhl:EB n≤1000:=by unfold EB; omega
 rw [hhalf]
 refine E1 ((EB n:Nat):Int) (by omega) ?_
 refine nw h4 ?_
 intro b16 σ5 h5
 refine st h5 rfl ?_
 intro σ6 h6
 rw [LB h6,LV h6,LV h6]
 have hhk:EB n≤n.keys.length:=by unfold EB; omega
 refine gP (caps:=[.pointer (some ⟨b16,0,none⟩)]) h6 ((((hn.cons).cons).cons).cons) hl hlen (fun _ xs=>xs.take (EB n)) ?_ ?_
 ·intro kf xs pre v τ Q' hxs hτ hk
  show E N5 [v,.bool kf,.pointer (some ⟨b16,0,none⟩)] τ Q'
  have hxl:xs.length=n.keys.length:=by rw [hxs]; split<;>omega
  apply eL; unfold TQ
  have hl0:=iP hτ.tail
  rw [LI hl0,LI hl0]
  obtain ⟨w,e,hw⟩:=ACZ (k:=EB n) (kd:=.i64) (kd':=.i64) (KY hτ) (by omega)
  rw [e,AD]
  exact hk w τ hw
 intro k1 v1 σ7 h7
 rw [CC]
 obtain ⟨a1,c1,hk1⟩:=AW h7
 obtain ⟨a2,c2,hv1⟩:=AW h7.tail
 refine nw h7 ?_
 intro b27 σ8 h8
 refine bH h8 rfl (by rw [hk1]; rfl) (by rw [hv1]; rfl) ?_
 intro σ9 h9
 rw [LB h9,LV h9,LV h9]
 refine gP (caps:=[.pointer (some ⟨b16,0,none⟩)]) h9 (((((((hn.cons).cons).cons).cons).cons).cons).cons) hl hlen (fun _ xs=>xs.drop (EB n)) ?_ ?_
 ·intro kf xs pre v τ Q' hxs hτ hk
  show E N0 [v,.bool kf,.pointer (some ⟨b16,0,none⟩)] τ Q'
  have hxl:xs.length=n.keys.length:=by rw [hxs]; split<;>omega
  apply eA; unfold TT
  have hl0:=iP hτ.tail
  rw [LI hl0]
  obtain ⟨w,e,hw⟩:=AAG (k:=EB n) (kd:=.i64) hτ (by omega)
  rw [e,AD]
  exact hk w τ hw
 intro k2 v2 σ10 h10
 rw [CC]
 obtain ⟨a3,c3,hk2⟩:=AW h10
 obtain ⟨a4,c4,hv2⟩:=AW h10.tail
 refine nw h10 ?_
 intro b38 σ11 h11
 refine bH h11 rfl (by rw [hk2]; rfl) (by rw [hv2]; rfl) ?_
 intro σ12 h12
 rw [LB h12,LV h12,LV h12,LB h12,LV h12,LV h12]
 refine bH h12 rfl (by rw [hk1]; rfl) (by rw [hv1]; rfl) ?_
 intro σ13 h13
 rw [LB h13,LV h13,LV h13]
 have hve:∀ p:Prop,(AX (.agg #[.bool lf,k2,v2]) (.agg #[.bool lf,k2,v2])=true∧p)=p:=by
  intro p
  have:AX (.agg #[.bool lf,k2,v2]) (.agg #[.bool lf,k2,v2])=true:=by rw [hk2,hv2]; simp [AX,qI,xE,aQ]
  simp [this]
 rw [hve]
 refine bH h13 rfl (by rw [hk2]; rfl) (by rw [hv2]; rfl) ?_
 intro σ14 h14
 have r3:σ14.row b3=some [.bool lf,k1,v1]:=sC.row σ14 h14
 have r5:σ14.row b5=some [.bool lf,k2,v2]:=sC.row σ14 h14
 rw [VU r3 (by simp),A5,VU r5 (by simp),A5]
 exact hQ _ _ _ _ _ h14.re
end Go.Ax.C
set_option maxRecDepth 100000
namespace Go.Ax.C
open Go.Proofs Go.RowKit
variable {l r m:List AK} {σ:AHeap} {Q:RK}
theorem ADI {lf lg:Bool} {kv vv kw vw:Value} {n p:Nd} (h:H l σ) (hn:MV l kv vv n) (hp:MV l kw vw p) (hl:n.keys.length=n.vals.length) (hlp:p.keys.length=p.vals.length) (hlen:n.keys.length≤500) (hlenp:p.keys.length≤500)
 (hQ:∀ k1 v1 σ',H (AQ k1 (n.keys++p.keys)::AQ v1 (n.vals++p.vals)::l) σ'→Q (.ret (.agg #[.bool lf,k1,v1])) σ') :
 E QE [.agg #[.bool lf,kv,vv],.agg #[.bool lg,kw,vw]] σ Q:=by
 apply rR; unfold dT
 refine nw h ?_
 intro b1 σ1 h1
 refine nw h1 ?_
 intro b3 σ2 h2
 refine nw h2 ?_
 intro b5 σ3 h3
 rw [LB h3,LV h3,LV h3]
 refine gP (caps:=[]) h3 (((hp.cons).cons).cons) hlp (by omega) (fun _ xs=>xs) ?_ ?_
 ·intro kf xs pre v τ Q' hxs hτ hk
  show E PH [v,.bool kf] τ Q'
  apply f7; unfold UF
  exact hk v τ (KY hτ)
 intro k1 v1 σ7 h7
 rw [CC]
 obtain ⟨a1,c1,hk1⟩:=AW h7
 obtain ⟨a2,c2,hv1⟩:=AW h7.tail
 refine nw h7 ?_
 intro b14 σ8 h8
 refine bH h8 rfl (by rw [hk1]; rfl) (by rw [hv1]; rfl) ?_
 intro σ9 h9
 rw [LB h9,LV h9,LV h9]
 refine gP (caps:=[.pointer (some ⟨b14,0,none⟩)]) h9 ((((((hn.cons).cons).cons).cons).cons).cons) hl (by omega) (fun kf xs=>xs++(if kf then p.keys else p.vals)) ?_ ?_
 ·intro kf xs pre v τ Q' hxs hτ hk
  show E PA [v,.bool kf,.pointer (some ⟨b14,0,none⟩)] τ Q'
  have hxl:xs.length=n.keys.length:=by rw [hxs]; split<;>omega
  apply iF; unfold UO
  have hl0:=iP hτ.tail
  have u1:Us τ k1 p.keys:=CX hl0.tail
  have u2:Us τ v1 p.vals:=CX hl0.tail.tail
  cases kf with
  | true =>
    refine G8 rfl ?_
    rw [LV hl0]
    refine DR hτ 0 rfl (tH u1) (by omega) (by omega) (OY _) ?_
    intro v' σ' h'
    simp only [List.set_cons_zero,← OX] at h'
    exact hk v' σ' (KY h')
  | false =>
    refine B7 rfl ?_
    rw [LV hl0]
    refine DR hτ 0 rfl (tH u2) (by omega) (by omega) (OY _) ?_
    intro v' σ' h'
    simp only [List.set_cons_zero,← OX] at h'
    exact hk v' σ' (KY h')
 intro k2 v2 σ10 h10
 rw [CC]
 obtain ⟨a3,c3,hk2⟩:=AW h10
 obtain ⟨a4,c4,hv2⟩:=AW h10.tail
 have h10:H (AQ k2 (n.keys++p.keys)::AQ v2 (n.vals++p.vals)::pt b14 (.cells [.bool lg,k1,v1] AG false)::AQ k1 p.keys::AQ v1 p.vals::pt b5 (.cells [.bool false,.slice none 0 0,.slice none 0 0] AG false)::pt b3 (.cells [.bool lg,kw,vw] AG false)::pt b1 (.cells [.bool lf,kv,vv] AG false)::l) σ10:=h10
 refine bH h10 rfl (by rw [hk2]; rfl) (by rw [hv2]; rfl) ?_
 intro σ14 h14
 have r3:σ14.row b5=some [.bool lf,k2,v2]:=sC.row σ14 h14
 rw [VU r3 (by simp),A5]
 exact hQ _ _ _ h14.re
def H0 (n p:Nd):Nat:=(n.keys.length+p.keys.length+1) / 2
theorem AFp {lf lg:Bool} {kv vv kw vw:Value} {n p:Nd} (h:H l σ) (hn:MV l kv vv n) (hp:MV l kw vw p) (hl:n.keys.length=n.vals.length) (hlp:p.keys.length=p.vals.length) (hlen:n.keys.length≤500) (hlenp:p.keys.length≤500)
 (hQ:∀ k1 v1 k2 v2 σ',H (AQ k1 ((n.keys++p.keys).take (H0 n p))::AQ v1 ((n.vals++p.vals).take (H0 n p))::AQ k2 ((n.keys++p.keys).drop (H0 n p))::AQ v2 ((n.vals++p.vals).drop (H0 n p))::l) σ'→Q (.ret (.tuple #[.agg #[.bool lf,k1,v1],.agg #[.bool lf,k2,v2]])) σ') :
 E U2 [.agg #[.bool lf,kv,vv],.agg #[.bool lg,kw,vw]] σ Q:=by
 apply qJ; unfold dH
 refine nw h ?_
 intro b1 σ1 h1
 refine nw h1 ?_
 intro b3 σ2 h2
 refine nw h2 ?_
 intro b5 σ3 h3
 refine nw h3 ?_
 intro b7 σ4 h4
 rw [LB h4,LV h4,LV h4,LB h4,LV h4,LV h4]
 refine ADI h4 ((((hn.cons).cons).cons).cons) ((((hp.cons).cons).cons).cons) hl hlp hlen hlenp ?_
 intro k0 v0 σ5 h5
 rw [CC]
 refine AAj (n:=⟨lf,n.keys++p.keys,n.vals++p.vals⟩) h5 (fun τ ht=>⟨CX ht,CX ht.tail⟩) (by simp; omega) (by simp; omega) ?_
 intro k1 v1 k2 v2 σ6 h6
 rw [BS]
 have he:EB ⟨lf,n.keys++p.keys,n.vals++p.vals⟩=H0 n p:=by simp [EB,H0]
 rw [he] at h6
 obtain ⟨a1,c1,hk1⟩:=AW h6
 obtain ⟨a2,c2,hv1⟩:=AW h6.tail
 obtain ⟨a3,c3,hk2⟩:=AW h6.tail.tail
 obtain ⟨a4,c4,hv2⟩:=AW h6.tail.tail.tail
 refine bH h6 rfl (by rw [hk1]; rfl) (by rw [hv1]; rfl) ?_
 intro σ7 h7
 refine bH h7 rfl (by rw [hk2]; rfl) (by rw [hv2]; rfl) ?_
 intro σ8 h8
 have r5:σ8.row b5=some [.bool lf,k1,v1]:=sC.row σ8 h8
 have r7:σ8.row b7=some [.bool lf,k2,v2]:=sC.row σ8 h8
 rw [VU r5 (by simp),A5,VU r7 (by simp),A5]
 exact hQ _ _ _ _ _ h8.re
def BA (xs:List Nat) (key:Nat):Nat:=(xs.takeWhile fun x=>decide (x<key)).length
theorem fO (xs:List Nat) (key:Nat):BA xs key≤xs.length:=(List.takeWhile_sublist _).length_le
theorem AA3 {lf:Bool} {kv vv:Value} {n:Nd} {key:Nat} (h:H l σ) (hn:MV l kv vv n) (hl:n.keys.length=n.vals.length) (hlen:n.keys.length≤1000)
 (hQ:∀ σ',H l σ'→Q (.ret (.tuple #[.int .i64 (BA n.keys key:Nat),.bool (decide (n.keys[BA n.keys key]?=some key))])) σ') :
 E NK [.agg #[.bool lf,kv,vv],.int .u64 key] σ Q:=by
 apply qR; unfold dG
 refine nw h ?_
 intro b1 σ1 h1
 rw [LB h1,LV h1,LV h1]
 refine fS h1 hn.cons hl ?_
 intro σ2 h2
 rw [A9]
 refine ⟨fun m i τ=>∃ k:Nat,i=k∧m=n.keys.length - k∧k≤n.keys.length∧(∀ t x,t<k→n.keys[t]?=some x→x<key)∧H (pt b1 (.cells [.bool lf,kv,vv] AG false)::l) τ,
  ⟨n.keys.length,0,rfl,rfl,by omega,fun t x ht=>by omega,h2⟩,?_⟩
 rintro m i τ ⟨k,rfl,rfl,hk,hall,h3⟩
 have hfk:∀ x,n.keys[k]?=some x→¬ x<key→BA n.keys key=k:=by
  intro x hx hge
  have e:n.keys=n.keys.take k++x::n.keys.drop (k+1):=by
   have hlt:=(List.getElem?_eq_some_iff.1 hx).1
   have:=List.getElem?_eq_some_iff.1 hx
   rw [← this.2,← List.drop_eq_getElem_cons hlt,List.take_append_drop]
  unfold BA
  rw [e,List.takeWhile_append_of_pos,List.takeWhile_cons_of_neg (by simpa using hge)]
  ·simp; omega
  ·intro y hy
   obtain ⟨t,ht,rfl⟩:=List.getElem_of_mem hy
   simp only [List.length_take] at ht
   rw [List.getElem_take]
   simpa using hall t _ (by omega) (List.getElem?_eq_getElem (by omega))
 unfold VX
 refine AS (fun hlt=>?_) (fun hge=>?_)
 ·have hlt2:k<n.keys.length:=by omega
  obtain ⟨p,hp,hload⟩:=M7 (hn τ h3.tail).1 (List.getElem?_eq_getElem hlt2)
  rw [LV h3,hp,AD,hload,AH]
  refine AS (fun hle=>?_) (fun hgt=>?_)
  ·rw [LV h3,hp,AD,hload,AH]
   have:=hfk _ (List.getElem?_eq_getElem hlt2) (by omega)
   have hq:=hQ τ h3.tail
   rw [this,List.getElem?_eq_getElem hlt2] at hq
   have e:decide ((n.keys[k]:Int)=(key:Int))=decide (some n.keys[k]=some key):=by
    apply decide_eq_decide.2
    rw [Option.some.injEq]; omega
   rw [e]
   exact hq
  ·refine E1 ((k+1:Nat):Int) (by omega) ?_
   refine ⟨n.keys.length - (k+1),by omega,k+1,rfl,rfl,by omega,fun t x ht hx=>?_,h3⟩
   rcases Nat.lt_or_ge t k with h' | h'
   ·exact hall t x h' hx
   ·have:t=k:=by omega
    subst this
    rw [List.getElem?_eq_getElem hlt2] at hx
    cases hx
    omega
 ·have hk2:k=n.keys.length:=by omega
  have hall2:BA n.keys key=n.keys.length:=by
   unfold BA
   have h9:=List.takeWhile_append_of_pos (p:=fun x=>decide (x<key)) (l₁:=n.keys) (l₂:=[]) (fun y hy=>by
    obtain ⟨t,ht,rfl⟩:=List.getElem_of_mem hy
    simpa using hall t _ (by omega) (List.getElem?_eq_getElem ht))
   rw [List.append_nil,List.takeWhile_nil,List.append_nil] at h9
   rw [h9]
  have hq:=hQ τ h3.tail
  rw [hall2,List.getElem?_eq_none (Nat.le_refl _)] at hq
  exact hq
def CU (xs:List Nat) (key:Nat):Nat:=(xs.takeWhile fun x=>decide (x≤key)).length - 1
theorem zU {lf:Bool} {kv vv:Value} {n:Nd} {key:Nat} (h:H l σ) (hn:MV l kv vv n) (hl:n.keys.length=n.vals.length) (hlen:n.keys.length≤1000)
 (hQ:∀ σ',H l σ'→Q (.ret (.int .i64 (CU n.keys key:Nat))) σ') :
 E OR [.agg #[.bool lf,kv,vv],.int .u64 key] σ Q:=by
 apply mF; unfold aO
 refine nw h ?_
 intro b1 σ1 h1
 rw [LB h1,LV h1,LV h1]
 refine fS h1 hn.cons hl ?_
 intro σ2 h2
 rw [A9]
 refine ⟨fun m at' i τ=>∃ k:Nat,i=k∧at'=((k - 1:Nat):Int)∧m=n.keys.length - k∧k≤n.keys.length∧(∀ t x,t<k→n.keys[t]?=some x→x≤key)∧H (pt b1 (.cells [.bool lf,kv,vv] AG false)::l) τ,
  ⟨n.keys.length,0,rfl,rfl,rfl,by omega,fun t x ht=>by omega,h2⟩,?_⟩
 rintro m at' i τ ⟨k,rfl,rfl,rfl,hk,hall,h3⟩
 have htw:((n.keys.take k).takeWhile fun x=>decide (x≤key))=n.keys.take k:=by
  have h9:=List.takeWhile_append_of_pos (p:=fun x=>decide (x≤key)) (l₁:=n.keys.take k) (l₂:=[]) (fun y hy=>by
   obtain ⟨t,ht,rfl⟩:=List.getElem_of_mem hy
   simp only [List.length_take] at ht
   rw [List.getElem_take]
   simpa using hall t _ (by omega) (List.getElem?_eq_getElem (by omega)))
  rw [List.append_nil,List.takeWhile_nil,List.append_nil] at h9
  exact h9
 have hend:(k=n.keys.length∨∃ x,n.keys[k]?=some x∧¬ x≤key)→CU n.keys key=k - 1:=by
  intro hor
  unfold CU
  congr 1
  rcases hor with rfl | ⟨x,hx,hgt⟩
  ·rw [List.take_length] at htw
   rw [htw]
  ·have e:n.keys=n.keys.take k++x::n.keys.drop (k+1):=by
    have hlt:=(List.getElem?_eq_some_iff.1 hx).1
    have:=List.getElem?_eq_some_iff.1 hx
    rw [← this.2,← List.drop_eq_getElem_cons hlt,List.take_append_drop]
   rw [e,List.takeWhile_append_of_pos,List.takeWhile_cons_of_neg (by simpa using hgt)]
   ·simp; omega
   ·intro y hy
    obtain ⟨t,ht,rfl⟩:=List.getElem_of_mem hy
    simp only [List.length_take] at ht
    rw [List.getElem_take]
    simpa using hall t _ (by omega) (List.getElem?_eq_getElem (by omega))
 unfold TR
 refine AS (fun hlt=>?_) (fun hge=>?_)
 ·have hlt2:k<n.keys.length:=by omega
  obtain ⟨p,hp,hload⟩:=M7 (hn τ h3.tail).1 (List.getElem?_eq_getElem hlt2)
  rw [LV h3,hp,AD,hload,AH]
  refine AS (fun hgt=>?_) (fun hle=>?_)
  ·unfold JX
   have hq:=hQ τ h3.tail
   rw [hend (.inr ⟨_,List.getElem?_eq_getElem hlt2,by omega⟩)] at hq
   exact hq
  ·refine E1 ((k+1:Nat):Int) (by omega) ?_
   refine ⟨n.keys.length - (k+1),by omega,k+1,rfl,by simp,rfl,by omega,fun t x ht hx=>?_,h3⟩
   rcases Nat.lt_or_ge t k with h' | h'
   ·exact hall t x h' hx
   ·have:t=k:=by omega
    subst this
    rw [List.getElem?_eq_getElem hlt2] at hx
    cases hx
    omega
 ·unfold JX
  have hq:=hQ τ h3.tail
  rw [hend (.inl (by omega))] at hq
  exact hq
end Go.Ax.C
set_option maxRecDepth 100000
namespace Go.Ax.C
open Go.Proofs Go.RowKit
variable {l r m:List AK} {σ:AHeap} {Q:RK}
def Nd.May (n:Nd):Prop:=(1≤n.keys.length∧n.keys.length≤8∧n.vals.length=n.keys.length)∧n.keys.Pairwise (·<·)∧∀ v∈n.vals,v≠0
instance (n:Nd):Decidable n.May:=by unfold Nd.May; infer_instance
theorem kQ {xs:List Nat} {x:Nat} (h:xs.Pairwise (·<·)) (hl:∀ y,xs.getLast?=some y→y<x):(xs++[x]).Pairwise (·<·):=by
 rw [List.pairwise_append]
 refine ⟨h,by simp,fun a ha b hb=>?_⟩
 simp at hb; subst hb
 cases hx:xs.getLast? with
 | none=>rw [List.getLast?_eq_none_iff] at hx; subst hx; simp at ha
 | some y =>
   have hy:=hl y hx
   have:a≤y:=by
    obtain ⟨ys,rfl⟩:=List.getLast?_eq_some_iff.1 hx
    rw [List.pairwise_append] at h
    rcases List.mem_append.1 ha with ha | ha
    ·exact Nat.le_of_lt (h.2.2 a ha y (by simp))
    ·simp at ha; omega
   omega
theorem AGA {lf:Bool} {kv vv:Value} {n:Nd} (h:H l σ) (hn:MV l kv vv n) (hk9:n.keys.length<9223372036854775808) (hv9:n.vals.length<9223372036854775808)
 (hQ:∀ σ',H l σ'→Q (.ret (.bool (decide n.May))) σ'):E S4 [.agg #[.bool lf,kv,vv]] σ Q:=by
 apply uU; unfold gR
 refine nw h ?_
 intro b1 σ1 h1
 obtain ⟨hk,hv⟩:=hn σ1 h1.tail
 have hbad:¬ n.May→H4 E Q true b1 σ1:=by
  intro hb
  unfold H4
  refine G8 rfl ?_
  have:=hQ σ1 h1.tail
  rw [decide_eq_false hb] at this
  exact this
 rw [LV h1,MG hk,AH]
 refine AS (fun hlt=>hbad fun hm=>by have:=hm.1.1; omega) fun hge=>?_
 rw [LV h1,MG hk,AH]
 refine AS (fun hlt=>hbad fun hm=>by have:=hm.1.2.1; omega) fun hge8=>?_
 rw [LV h1,MG hv,AH,LV h1,MG hk,AH]
 by_cases hvl:n.vals.length=n.keys.length
 ·have e:(!decide ((n.vals.length:Int)=(n.keys.length:Int)))=false:=by simp; omega
  rw [e]
  unfold H4
  refine B7 rfl ?_
  rw [LV h1,MG hk,AH]
  refine ⟨fun m i τ=>∃ k:Nat,i=k∧m=n.keys.length - k∧k≤n.keys.length∧(n.keys.take k).Pairwise (·<·)∧(∀ v∈n.vals.take k,v≠0)∧H (pt b1 (.cells [.bool lf,kv,vv] AG false)::l) τ,
   ⟨n.keys.length,0,rfl,rfl,by omega,by simp,by simp,h1⟩,?_⟩
  rintro m i τ ⟨k,rfl,rfl,hkl,hp,hz,h2⟩
  have hno:∀ τ,H (pt b1 (.cells [.bool lf,kv,vv] AG false)::l) τ→¬ n.May→Q (.ret (.bool false)) τ:=fun τ ht hb=>by
   have:=hQ τ ht.tail
   rw [decide_eq_false hb] at this
   exact this
  unfold XH
  refine AS (fun hlt=>?_) (fun hge=>?_)
  ·have hk2:k<n.keys.length:=by omega
   have hv2:k<n.vals.length:=by omega
   obtain ⟨hk',hv'⟩:=hn τ h2.tail
   obtain ⟨p,ip,lp⟩:=M7 hk' (List.getElem?_eq_getElem hk2)
   obtain ⟨q,iq,lq⟩:=M7 hv' (List.getElem?_eq_getElem hv2)
   rw [ip,AD,lp,AH]
   -- what is said of the value
   have hval:(n.keys.take (k+1)).Pairwise (·<·)→H2 (fun n15 σ'=>∃ m',m'<n.keys.length - k∧∃ k:Nat,n15=k∧m'=n.keys.length - k∧k≤n.keys.length∧(n.keys.take k).Pairwise (·<·)∧(∀ v∈n.vals.take k,v≠0)∧H (pt b1 (.cells [.bool lf,kv,vv] AG false)::l) σ') E Q (decide ((n.vals[k]:Int)=0)) k τ:=by
    intro hp2
    unfold H2
    refine AS (fun h0=>?_) (fun h0=>?_)
    ·refine hno τ h2 fun hm=>?_
     exact hm.2.2 _ (List.getElem_mem hv2) (by omega)
    ·refine E1 ((k+1:Nat):Int) (by omega) ?_
     refine ⟨n.keys.length - (k+1),by omega,k+1,rfl,rfl,by omega,hp2,fun v hv=>?_,h2⟩
     rw [List.take_add_one,List.getElem?_eq_getElem hv2,Option.toList_some] at hv
     rcases List.mem_append.1 hv with hv | hv
     ·exact hz v hv
     ·simp at hv; subst hv; omega
   refine AS (fun hpos=>?_) (fun h0=>?_)
   ·obtain ⟨j,rfl⟩:∃ j,k=j+1:=⟨k - 1,by omega⟩
    have hj:j<n.keys.length:=by omega
    obtain ⟨p1,ip1,lp1⟩:=M7 hk' (List.getElem?_eq_getElem hj)
    rw [LV h2]
    refine E1 ((j:Nat):Int) (by omega) ?_
    rw [ip1,AD,lp1,AH]
    refine AS (fun hle=>?_) (fun hgt=>?_)
    ·unfold H2
     refine G8 rfl ?_
     refine hno τ h2 fun hm=>?_
     have:=List.pairwise_iff_getElem.1 hm.2.1 j (j+1) hj hk2 (by omega)
     omega
    ·rw [LV h2,iq,AD,lq,AH]
     refine hval ?_
     rw [List.take_add_one,List.getElem?_eq_getElem hk2,Option.toList_some]
     refine kQ hp fun y hy=>?_
     rw [List.getLast?_take,if_neg (by omega)] at hy
     simp only [Nat.add_sub_cancel,List.getElem?_eq_getElem hj,Option.some_or,Option.some.injEq] at hy
     omega
   ·have:k=0:=by omega
    subst this
    rw [LV h2,iq,AD,lq,AH]
    refine hval ?_
    rw [List.take_add_one,List.getElem?_eq_getElem hk2]
    simp
  ·have hke:k=n.keys.length:=by omega
   subst hke
   rw [List.take_length] at hp
   rw [← hvl,List.take_length] at hz
   have hm:n.May:=⟨⟨by omega,by omega,hvl⟩,hp,hz⟩
   have:=hQ τ h2.tail
   rw [decide_eq_true hm] at this
   exact this
 ·have e:(!decide ((n.vals.length:Int)=(n.keys.length:Int)))=true:=by simp; omega
  rw [e]
  exact hbad fun hm=>hvl hm.1.2.2
end Go.Ax.C
set_option maxRecDepth 100000
namespace Go.Ax.C
open Go.Proofs Go.RowKit
variable {l r m:List AK} {σ:AHeap} {Q:RK}
theorem vR {v:Value} {x:List UInt8} (h:H (jI v x::l) σ):bS σ v x:=by
 obtain ⟨b,o,cap,c,h1,h2,h3,h4,h5⟩:=h.rob0
 exact .inr ⟨b,o,cap,c,h1,h2,h3,h4,h5⟩
theorem AC3 {e n:Nat} {v:Value} {x:List UInt8} (h:H (AU e 1 v n (bv x)::l) σ) (hx:0<x.length):H (jI v x::l) σ:=by
 rcases FT.1 h with ⟨⟨_,e1,h2⟩,_⟩ | ⟨b,c,opn,rest,h1,h2,h3,rfl,h4,h5⟩
 ·cases x with
  | nil=>simp at hx
  | cons y x=>simp [bv] at e1
 ·have hn:x.length=n:=by simpa using h2
  subst hn
  refine nQ ⟨h4,?_⟩ (by rw [List.drop_zero,List.take_append_of_le_length (by simp),List.take_of_length_le (by simp)]) (by simp) h1.freeze0
  rcases h5 with h5 | h5
  ·exact .inr h5.2.2
  ·exact .inl h5
def lG (p:Nat×Nat):List UInt8:=be p.1 8++be p.2 8
def GX (l:List (Nat×Nat)):List UInt8:=l.flatMap lG
def Nd.pairs (n:Nd):List (Nat×Nat):=n.keys.zip n.vals
def Nd.form (n:Nd):List UInt8:=[if n.leaf then 1 else 0,UInt8.ofNat n.keys.length]++GX n.pairs
theorem TC:∀ (l:List (Nat×Nat)),(GX l).length=16*l.length
 | []=>rfl
 | p::l=>by
   have:=TC l
   simp only [GX,List.flatMap_cons,List.length_append,List.length_cons] at this ⊢
   rw [this]; simp [lG,G0]; omega
theorem i7 (n:Nd) (h:n.vals.length=n.keys.length):n.form.length=2+16*n.keys.length:=by
 simp only [Nd.form,List.length_append,TC,Nd.pairs,List.length_zip,h]; simp<;>omega
theorem AGu {kv vv:Value} {n:Nd} (h:H l σ) (hn:MV l kv vv n) (hk9:n.keys.length<9223372036854775808) (hv9:n.vals.length<9223372036854775808)
 (hno:¬ n.May→∀ σ',H l σ'→Q (.ret (.tuple #[.slice none 0 0,.int .i64 1])) σ')
 (hyes:n.May→∀ w σ',H (jI w n.form::l) σ'→Q (.ret (.tuple #[w,.int .i64 0])) σ'):E X2 [.agg #[.bool n.leaf,kv,vv]] σ Q:=by
 apply tJ; unfold iM
 refine nw h ?_
 intro b1 σ1 h1
 rw [LB h1,LV h1,LV h1]
 refine AGA h1 hn.cons hk9 hv9 ?_
 intro σ2 h2
 rw [GY]
 by_cases hm:n.May
 ·rw [decide_eq_true hm]
  refine B7 rfl ?_
  obtain ⟨⟨hm1,hm8,hmv⟩,_,_⟩:=hm
  rw [LV h2,MG (hn σ2 h2.tail).1,AH]
  refine bu8 ((n.keys.length:Nat):Int) (by omega) ?_
  refine nw h2 ?_
  intro b18 σ3 h3
  -- the loop
  have hloop:∀ σ4,H (jI (.slice (some ⟨b18,0,none⟩) 2 2) [if n.leaf then 1 else 0,UInt8.ofNat n.keys.length]::pt b1 (.cells [.bool n.leaf,kv,vv] AG false)::l) σ4→MY E Q b1 (.slice (some ⟨b18,0,none⟩) 2 2) σ4:=by
   intro σ4 h4
   unfold MY
   rw [LV h4,MG (hn σ4 h4.tail.tail).1,AH]
   refine ⟨fun m v i τ=>∃ k:Nat,i=k∧m=n.keys.length - k∧k≤n.keys.length∧H (jI v ([if n.leaf then 1 else 0,UInt8.ofNat n.keys.length]++GX (n.pairs.take k))::pt b1 (.cells [.bool n.leaf,kv,vv] AG false)::l) τ,
    ⟨n.keys.length,0,rfl,rfl,by omega,by simpa [GX] using h4⟩,?_⟩
   rintro m v i τ ⟨k,rfl,rfl,hk,h5⟩
   unfold XG
   refine AS (fun hlt=>?_) (fun hge=>?_)
   ·have hk2:k<n.keys.length:=by omega
    have hv2:k<n.vals.length:=by omega
    obtain ⟨hk',hv'⟩:=hn τ h5.tail.tail
    obtain ⟨p,ip,lp⟩:=M7 hk' (List.getElem?_eq_getElem hk2)
    obtain ⟨q,iq,lq⟩:=M7 hv' (List.getElem?_eq_getElem hv2)
    rw [ip,AD,lp,AH,LV h5,iq,AD,lq,AH]
    have hpl:(n.pairs.take k).length=k:=by simp [Nd.pairs]; omega
    have hxl:([if n.leaf then 1 else 0,UInt8.ofNat n.keys.length]++GX (n.pairs.take k)).length=2+16*k:=by
     rw [List.length_append,TC,hpl]; simp
    refine ABp h5 (vR h5) (k:=8) (by omega) (by omega) ?_
    intro w1 τ1 h6
    rw [CC,LV h6]
    obtain ⟨a0,c0',hvv⟩:=ZD hv'
    have hve:∀ p:Prop,(AX vv vv=true∧p)=p:=fun p=>by rw [hvv]; exact LX
    rw [hve]
    have lq2:AF false 1 (.pointer (some q)) τ1=some (.int .u64 n.vals[k]):=by
     obtain ⟨q2,iq2,lq2⟩:=M7 (hn τ1 h6.tail.tail.tail).2 (List.getElem?_eq_getElem hv2)
     have:=(iq .i64).symm.trans (iq2 .i64)
     cases this
     exact lq2 1
    rw [lq2,AH,CE]
    refine ABp h6 (WB h6) (k:=8) (by omega) (by rw [List.length_append,hxl,G0]; omega) ?_
    intro w2 τ2 h7
    rw [CC]
    refine E1 ((k+1:Nat):Int) (by omega) ?_
    refine ⟨n.keys.length - (k+1),by omega,k+1,rfl,rfl,by omega,?_⟩
    have h8:=AC3 h7 (by rw [List.length_append,List.length_append,hxl]; omega)
    have h9:=gB h8
    have e:[if n.leaf then 1 else 0,UInt8.ofNat n.keys.length]++GX (n.pairs.take k)++be n.keys[k] 8++be n.vals[k] 8=[if n.leaf then 1 else 0,UInt8.ofNat n.keys.length]++GX (n.pairs.take (k+1)):=by
     have hpk:n.pairs[k]?=some (n.keys[k],n.vals[k]):=by
      unfold Nd.pairs
      rw [List.getElem?_zip_eq_some]
      exact ⟨List.getElem?_eq_getElem hk2,List.getElem?_eq_getElem hv2⟩
     rw [List.take_add_one,hpk,Option.toList_some]
     simp [GX,lG]
    rw [e] at h9
    exact h9
   ·have hke:k=n.keys.length:=by omega
    subst hke
    have e:n.pairs.take n.keys.length=n.pairs:=List.take_of_length_le (by simp [Nd.pairs]; omega)
    rw [e] at h5
    refine hyes ⟨⟨hm1,hm8,hmv⟩,by assumption,by assumption⟩ v τ ?_
    exact (h5.perm (.swap _ _ _)).tail
  have hfr:∀ (lf:UInt8) τ,H (pt b18 (.cells [.int .u8 lf.toNat,.int .u8 (n.keys.length:Nat)] AL false)::pt b1 (.cells [.bool n.leaf,kv,vv] AG false)::l) τ→H (jI (.slice (some ⟨b18,0,none⟩) 2 2) [lf,UInt8.ofNat n.keys.length]::pt b1 (.cells [.bool n.leaf,kv,vv] AG false)::l) τ:=by
   intro lf τ ht
   refine nQ (x:=[lf,UInt8.ofNat n.keys.length]) (HF.exact (by unfold A4; simp)) ?_ (by simp) ht.freeze0
   have:(UInt8.ofNat n.keys.length).toNat=n.keys.length:=by rw [UInt8.toNat_ofNat']; omega
   simp [bv,by8,this]
  rw [LB h3]
  refine cN (fun hl=>?_) (fun hl=>?_)
  ·show om (AE 1 (.slice (some ⟨b18,0,none⟩) 2 2) (.int .i64 0)) _
   rw [S6 (by omega),AD]
   refine FU h3 0 (o:=0+(0:Int).toNat*1) rfl rfl (by simp) ?_
   intro σ4 h4
   refine hloop σ4 ?_
   have e:(if n.leaf then (1:UInt8) else 0)=1:=by rw [hl]; rfl
   rw [e]
   exact hfr 1 σ4 h4
  ·refine hloop σ3 ?_
   have e:(if n.leaf then (1:UInt8) else 0)=0:=by rw [hl]; rfl
   rw [e]
   exact hfr 0 σ3 h3
 ·rw [decide_eq_false hm]
  refine G8 rfl ?_
  exact hno hm σ2 h2.tail
end Go.Ax.C
set_option maxRecDepth 100000
namespace Go.Ax.C
open Go.Proofs Go.RowKit
variable {l r m:List AK} {σ:AHeap} {Q:RK}
def DI (p:List UInt8):List UInt8:=p++List.replicate (240 - p.length) 0
def QF (p:List UInt8) (a kind:Nat):List UInt8:=DI p++be a 8++be kind 4
def KC (p:List UInt8) (a kind:Nat):List UInt8:=QF p a kind++be (jS (QF p a kind)) 4
theorem S0 {p:List UInt8} (h:p.length≤240):(DI p).length=240:=by simp [DI]; omega
theorem SD {p:List UInt8} {a k:Nat} (h:p.length≤240):(QF p a k).length=252:=by simp [QF,S0 h,G0]
theorem zK {p:List UInt8} {a k:Nat} (h:p.length≤240):(KC p a k).length=256:=by simp [KC,SD h,G0]
theorem mI (x:List UInt8):jS x<4294967296:=by have:=qX x; unfold jS; omega
def RO (x:List UInt8) (a kind:Nat):Nat :=
 if LQ ((x.drop 252).take 4)≠jS (x.take 252) then 20 else if LQ ((x.drop 240).take 8)≠a then 21 else if LQ ((x.drop 248).take 4)≠kind then 22 else 0
theorem xZ {p:List UInt8} {a kind:Nat} (h:p.length≤240) (ha:a<18446744073709551616) (hk:kind<4294967296):RO (KC p a kind) a kind=0∧(KC p a kind).take 240=DI p:=by
 have hp:=S0 h
 have hq:=SD (a:=a) (k:=kind) h
 have e1:(KC p a kind).take 252=QF p a kind:=by unfold KC; rw [← hq,List.take_left]
 have e2:(KC p a kind).drop 252=be (jS (QF p a kind)) 4:=by unfold KC; rw [← hq,List.drop_left]
 have e3:(KC p a kind).take 240=DI p:=by
  unfold KC QF; rw [List.append_assoc,List.append_assoc,← hp,List.take_left]
 have e4:((KC p a kind).drop 240).take 8=be a 8:=by
  unfold KC QF
  rw [List.append_assoc,List.append_assoc,← hp,List.drop_left]
  rw [List.take_append_of_le_length (by rw [G0]; exact Nat.le_refl _),List.take_of_length_le (by rw [G0]; exact Nat.le_refl _)]
 have e5:((KC p a kind).drop 248).take 4=be kind 4:=by
  have h8:(DI p++be a 8).length=248:=by rw [List.length_append,hp,G0]
  have:KC p a kind=(DI p++be a 8)++(be kind 4++be (jS (QF p a kind)) 4):=by simp [KC,QF]
  rw [this,← h8,List.drop_left,List.take_append_of_le_length (by rw [G0]; exact Nat.le_refl _),List.take_of_length_le (by rw [G0]; exact Nat.le_refl _)]
 refine ⟨?_,e3⟩
 unfold RO
 rw [e1,e2,e4,e5,List.take_of_length_le (by rw [G0]; exact Nat.le_refl _),bI,bI,bI]
 have:=mI (QF p a kind)
 rw [Nat.mod_eq_of_lt (by omega),Nat.mod_eq_of_lt (by omega),Nat.mod_eq_of_lt (by omega)]
 simp
theorem xW (n:Nat):reps n [.int .u8 0]=bv (List.replicate n 0):=by rw [PD]; simp [bv,by8]
theorem AE9 {v:Value} {p:List UInt8} {a kind:Nat} (h:H l σ) (hb:∀ τ,H l τ→bS τ v p) (hp:p.length≤240) (ha:a<9223372036854775808) (hk:kind<256)
 (hQ:∀ w σ',H (AU AL 1 w 256 (bv (KC p a kind))::l) σ'→Q (.ret (.tuple #[w,.int .i64 0])) σ'):E TA [v,.int .i64 a,.int .u8 kind] σ Q:=by
 apply mQ; unfold ZI
 obtain ⟨va,vc,hv⟩:=IT (hb σ h)
 have hlen:BH v=some (.int .i64 p.length):=by rw [hv]; rfl
 rw [hlen,AH]
 refine AS (fun g=>absurd g (by omega)) fun _=>?_
 refine QO h (by omega) ?_
 intro b σ1 h1
 replace h1:=h1.unsnoc
 have e0:(256:Int).toNat=256:=rfl
 have e1:(240:Int).toNat=240:=rfl
 rw [e0,xW] at h1
 rw [e0,e1]
 have hsrc:D5 1 (.slice va (Nat.min p.length 240) vc) σ1=some (p.length,bv p):=by
  have:=(SU (hb σ1 h1.tail)).src
  rw [hv] at this
  have e:Nat.min p.length 240=p.length:=Nat.min_eq_left hp
  rw [e]; exact this
 simp only []
 rw [hv]
 refine WL h1 0 rfl hsrc (uK _) (by simp; omega) ?_
 intro σ2 h2
 simp only [List.set_cons_zero] at h2
 have hrow:splice (bv (List.replicate 256 0)) 0 (bv p)=bv (DI p)++bv (List.replicate 16 0):=by
  rw [yR,List.take_zero,List.nil_append,Nat.zero_add,List.drop_replicate,← xR]
  congr 1
  unfold DI
  rw [List.append_assoc,List.replicate_append_replicate]
  congr 2; omega
 rw [hrow] at h2
 have hbt:bS σ2 (.slice (some ⟨b,0,none⟩) 240 256) (DI p):=by
  refine .inr ⟨b,0,256,_,by rw [S0 hp],?_,h2.row 0 rfl,?_,?_⟩
  ·rw [S0 hp]; exact ⟨by rw [C6 (by unfold A4; omega)]; omega,.inl (by unfold A4; omega)⟩
  ·rw [List.drop_zero,List.take_append_of_le_length (by simp),List.take_of_length_le (by simp)]
  ·simp
 refine PQ (a:Int) (by omega) ?_
 refine ABp h2 hbt (k:=8) (by omega) (by rw [S0 hp]; omega) ?_
 intro w1 σ3 h3
 rw [CC]
 refine PQ (kind:Int) (by omega) ?_
 refine ABp h3 (WB h3) (k:=4) (by omega) (by rw [List.length_append,S0 hp,G0]; omega) ?_
 intro w2 σ4 h4
 rw [CC]
 have h4':H (AU AL 1 w2 252 (bv (QF p a kind))::AU AL 1 w1 ((DI p).length+8) (bv (DI p++be a 8))::pt b (.cells (bv (DI p)++bv (List.replicate 16 0)) AL false)::l) σ4:=by
  have:(DI p++be a 8).length+4=252:=by rw [List.length_append,S0 hp,G0]
  rw [this] at h4
  exact h4
 refine AFj (WB h4') (by rw [SD hp]; omega) ?_
 rw [A9,wS]
 have hcl:=mI (QF p a kind)
 refine PQ ((jS (QF p a kind):Nat):Int) (by omega) ?_
 refine ABp h4' (WB h4') (k:=4) (by omega) (by rw [SD hp]; omega) ?_
 intro w3 σ5 h5
 rw [CC]
 rw [SD hp] at h5
 refine hQ w3 σ5 ?_
 exact (gB ((h5.perm (.swap _ _ _)).tail))
theorem ACP {v:Value} {x:List UInt8} {k:Nat} {kd kd':IntKind} (h:bS σ v x) (hk:k≤x.length) (h0:0<k):∃ w,A7 1 v none (some (.int kd (k:Nat))) (some (.int kd' (k:Nat)))=some w∧bS σ w (x.take k):=by
 rcases h with ⟨rfl,_⟩ | ⟨b,o,c,row,rfl,hc,h1,h2,h3⟩
 ·simp at hk; omega
 ·have hkc:k≤BU c:=Nat.le_trans hk hc.1
  have e:A7 1 (.slice (some ⟨b,o,none⟩) x.length c) none (some (.int kd (k:Nat))) (some (.int kd' (k:Nat)))=some (.slice (some ⟨b,o,none⟩) k k):=by
   simp only [A7,J2]
   rw [DG (y:=BU c) (by omega)]
   simp only [Option.bind_some]
   rw [DG (by simp)]
   simp [FF]
  have hkl:(x.take k).length=k:=by simp; omega
  have hkO:k<A4:=by
   have:BU c<A4:=Nat.mod_lt _ (by unfold A4; omega)
   omega
  refine ⟨_,e,.inr ⟨b,o,k,row,by rw [hkl],?_,h1,?_,by rw [hkl]; omega⟩⟩
  ·rw [hkl]; exact ⟨by rw [C6 hkO]; exact Nat.le_refl _,.inl hkO⟩
  ·rw [hkl,← mT,← h2,List.take_take,Nat.min_eq_left hk]
theorem AFa {v:Value} {x:List UInt8} {a kind:Nat} (h:H l σ) (hb:∀ τ,H l τ→bS τ v x) (hx:x.length=256) (ha:a<9223372036854775808) (hk:kind<256)
 (hno:RO x a kind≠0→∀ σ',H l σ'→Q (.ret (.tuple #[.slice none 0 0,.int .i64 (RO x a kind:Nat)])) σ')
 (hyes:RO x a kind=0→∀ w σ',H (AU AL 1 w 240 (bv (x.take 240))::l) σ'→Q (.ret (.tuple #[w,.int .i64 0])) σ'):E TB [v,.int .i64 a,.int .u8 kind] σ Q:=by
 apply mZ; unfold ZG
 have hbt:=hb σ h
 have hlen:BH v=some (.int .i64 x.length):=by obtain ⟨va,vc,rfl⟩:=IT hbt; rfl
 rw [hlen,AH]
 refine AS (fun g=>absurd g (by omega)) fun _=>?_
 rw [AH]
 refine AS (fun g=>absurd g (by omega)) fun _=>?_
 obtain ⟨w1,e1,b1⟩:=O7 (k:=.i64) (a:=252) hbt (by omega)
 rw [show (252:Int)=((252:Nat):Int) from rfl,e1,AD]
 refine AC9 b1 (k:=4) (by omega) (by simp; omega) (fun g=>absurd g (by simp; omega)) fun _=>?_
 rw [BS,AT,AT]
 obtain ⟨w2,e2,b2⟩:=O7 (k:=.i64) (a:=240) hbt (by omega)
 rw [show (240:Int)=((240:Nat):Int) from rfl,e2,AD]
 refine AC9 b2 (k:=8) (by omega) (by simp; omega) (fun g=>absurd g (by simp; omega)) fun _=>?_
 rw [BS,AT,AT]
 obtain ⟨w3,e3,b3⟩:=O7 (k:=.i64) (a:=248) hbt (by omega)
 rw [show (248:Int)=((248:Nat):Int) from rfl,e3,AD]
 refine AC9 b3 (k:=4) (by omega) (by simp; omega) (fun g=>absurd g (by simp; omega)) fun _=>?_
 rw [BS,AT,AT]
 obtain ⟨w4,e4,b4⟩:=ABn (k:=.i64) (a:=252) hbt (by omega) (by omega)
 rw [e4,AD]
 refine AFj b4 (by simp; omega) ?_
 rw [A9,wS]
 have hcl:=mI (x.take 252)
 refine PQ ((jS (x.take 252):Nat):Int) (by omega) ?_
 unfold RO at hno hyes
 refine CA (fun g1=>?_) fun g1=>?_
 ·rw [if_pos (by omega)] at hno
  exact hno (by omega) σ h
 rw [if_neg (by omega)] at hno hyes
 refine PQ (a:Int) (by omega) ?_
 refine CA (fun g2=>?_) fun g2=>?_
 ·rw [if_pos (by omega)] at hno
  exact hno (by omega) σ h
 rw [if_neg (by omega)] at hno hyes
 refine PQ (kind:Int) (by omega) ?_
 refine CA (fun g3=>?_) fun g3=>?_
 ·rw [if_pos (by omega)] at hno
  exact hno (by omega) σ h
 rw [if_neg (by omega)] at hno hyes
 obtain ⟨w5,e5,b5⟩:=ACP (k:=240) (kd:=.i64) (kd':=.i64) hbt (by omega) (by omega)
 rw [e5,AD]
 have hl5:(x.take 240).length=240:=by simp; omega
 obtain ⟨a5,c5,rfl⟩:=IT b5
 have hs5:=(SU b5).src
 rw [hl5] at hs5 ⊢
 refine O.up (O.NE h hs5 (by omega) ?_)
 intro w σ' h'
 rw [CC]
 exact hyes rfl w σ' h'.unsnoc
end Go.Ax.C
set_option maxRecDepth 100000
namespace Go.Ax.C
open Go.Proofs Go.RowKit
variable {l r m:List AK} {σ:AHeap} {Q:RK}
theorem vT:∀ {x y:List UInt8},x.length=y.length→LQ x=LQ y→x=y
 | [],[],_,_=>rfl
 | a::x,b::y,hl,h=>by
   rw [aH,aH] at h
   simp only [List.length_cons,Nat.add_right_cancel_iff] at hl
   have h1:=hJ x
   have h2:=hJ y
   rw [hl] at h h1
   have hpos:0<256 ^ y.length:=Nat.pow_pos (by omega)
   have e1:a.toNat=b.toNat:=by
    have q1:(a.toNat*256 ^ y.length+LQ x) / 256 ^ y.length=a.toNat:=by
     rw [Nat.mul_comm,Nat.mul_add_div hpos,Nat.div_eq_of_lt h1,Nat.add_zero]
    have q2:(b.toNat*256 ^ y.length+LQ y) / 256 ^ y.length=b.toNat:=by
     rw [Nat.mul_comm,Nat.mul_add_div hpos,Nat.div_eq_of_lt h2,Nat.add_zero]
    rw [← q1,← q2,h]
   have e2:a=b:=UInt8.toNat_inj.1 e1
   subst e2
   rw [vT hl (by omega)]
 | [],_::_,h,_=>by simp at h
 | _::_,[],h,_=>by simp at h
theorem AAa (x:List UInt8):be (LQ x) x.length=x:=by
 refine vT (G0 _ _) ?_
 rw [bI,Nat.mod_eq_of_lt (hJ x)]
def Nd.small (n:Nd):Prop:=(∀ k∈n.keys,k<18446744073709551616)∧∀ v∈n.vals,v<18446744073709551616
theorem AEI:(256:Nat) ^ 8=18446744073709551616:=by decide
theorem TE {n:Nd} {x:List UInt8} (hm:n.May) (hs:n.small) (h:x=DI n.form) {i:Nat} (hi:i<n.keys.length) :
 LQ ((x.drop (2+16*i)).take 8)=n.keys[i]∧LQ ((x.drop (2+16*i+8)).take 8)=n.vals[i]'(by have:=hm.1.2.2; omega):=by
 have hvl:=hm.1.2.2
 have hi2:i<n.vals.length:=by omega
 have hpl:(n.pairs.take i).length=i:=by simp [Nd.pairs]; omega
 have hpi:n.pairs[i]?=some (n.keys[i],n.vals[i]):=by
  unfold Nd.pairs
  rw [List.getElem?_zip_eq_some]
  exact ⟨List.getElem?_eq_getElem hi,List.getElem?_eq_getElem hi2⟩
 have hpx:n.pairs=n.pairs.take i++(n.keys[i],n.vals[i])::n.pairs.drop (i+1):=by
  have hlt:=(List.getElem?_eq_some_iff.1 hpi).1
  have:=(List.getElem?_eq_some_iff.1 hpi).2
  rw [← this,← List.drop_eq_getElem_cons hlt,List.take_append_drop]
 obtain ⟨A,hA⟩:∃ A,A=[if n.leaf then (1:UInt8) else 0,UInt8.ofNat n.keys.length]++GX (n.pairs.take i):=⟨_,rfl⟩
 obtain ⟨B,hB⟩:∃ B,B=GX (n.pairs.drop (i+1))++List.replicate (240 - n.form.length) 0:=⟨_,rfl⟩
 have hx:x=A++(be n.keys[i] 8++(be n.vals[i] 8++B)):=by
  rw [h,hA,hB]
  unfold DI
  have:n.form=[if n.leaf then (1:UInt8) else 0,UInt8.ofNat n.keys.length]++(GX (n.pairs.take i)++(lG (n.keys[i],n.vals[i])++GX (n.pairs.drop (i+1)))):=by
   unfold Nd.form
   congr 1
   conv=>lhs; rw [hpx]
   simp [GX]
  conv=>lhs; arg 1; rw [this]
  simp [lG]
 have hAl:A.length=2+16*i:=by rw [hA,List.length_append,TC,hpl]; rfl
 constructor
 ·rw [hx,← hAl,List.drop_left,List.take_append_of_le_length (by rw [G0]; exact Nat.le_refl _),List.take_of_length_le (by rw [G0]; exact Nat.le_refl _),bI,AEI,Nat.mod_eq_of_lt (hs.1 _ (List.getElem_mem hi))]
 ·have hx2:x=(A++be n.keys[i] 8)++(be n.vals[i] 8++B):=by rw [hx]; simp
  have hAl2:(A++be n.keys[i] 8).length=2+16*i+8:=by rw [List.length_append,hAl,G0]
  rw [hx2,← hAl2,List.drop_left,List.take_append_of_le_length (by rw [G0]; exact Nat.le_refl _),List.take_of_length_le (by rw [G0]; exact Nat.le_refl _),bI,AEI,Nat.mod_eq_of_lt (hs.2 _ (List.getElem_mem hi2))]
theorem WW {n:Nd} {x:List UInt8} (hm:n.May) (h:x=DI n.form):x[0]?=some (if n.leaf then 1 else 0)∧x[1]?=some (UInt8.ofNat n.keys.length)∧(UInt8.ofNat n.keys.length).toNat=n.keys.length:=by
 refine ⟨by rw [h]; simp [DI,Nd.form],by rw [h]; simp [DI,Nd.form],?_⟩
 rw [UInt8.toNat_ofNat']; have:=hm.1.2.1; omega
theorem xT {n:Nd} {x:List UInt8} (hm:n.May) (h:x=DI n.form):x.drop (2+16*n.keys.length)=List.replicate (240 - (2+16*n.keys.length)) 0:=by
 have:=i7 n hm.1.2.2
 rw [h]; unfold DI
 rw [← this,List.drop_left]
theorem ABM {n p:Nd} (hn:n.May) (hp:p.May) (sn:n.small) (sp:p.small) (h:DI n.form=DI p.form):n=p:=by
 obtain ⟨a0,a1,a2⟩:=WW hn rfl
 obtain ⟨b0,b1,b2⟩:=WW hp rfl
 rw [h,b0] at a0
 rw [h,b1] at a1
 have hlen:n.keys.length=p.keys.length:=by
  have:=Option.some.inj a1
  rw [← a2,← b2,this]
 have hleaf:n.leaf=p.leaf:=by
  have:=Option.some.inj a0
  cases e1:n.leaf<;>cases e2:p.leaf<;>simp [e1,e2] at this ⊢
 have hk:n.keys=p.keys:=by
  apply List.ext_getElem hlen
  intro i h1 h2
  rw [← (TE hn sn rfl h1).1,← (TE hp sp rfl h2).1,h]
 have hv:n.vals=p.vals:=by
  have l1:=hn.1.2.2
  have l2:=hp.1.2.2
  apply List.ext_getElem (by omega)
  intro i h1 h2
  rw [← (TE hn sn rfl (i:=i) (by omega)).2,← (TE hp sp rfl (i:=i) (by omega)).2,h]
 cases n; cases p
 simp only at hleaf hk hv
 subst hleaf; subst hk; subst hv; rfl
theorem vK {rb:Nat} {rv:Value} {y:List UInt8} (h:H (pt rb (.cells [rv] H5 false)::l) σ) (hlm:∀ τ,H l τ→H m τ) (hb:∀ τ,H m τ→bS τ rv y) (hy:8<y.length) (hy2:y.length≤1000)
 (hQ:∀ rv' σ',(∀ τ,H m τ→bS τ rv' (y.drop 8))→H (pt rb (.cells [rv'] H5 false)::l) σ'→Q (.ret (.tuple #[.int .u64 (LQ (y.take 8):Nat),.int .i64 0])) σ'):E CR [.pointer (some ⟨rb,0,none⟩)] σ Q:=by
 apply U0; unfold NI
 rw [LV h]
 refine AC9 (hb σ (hlm σ h.tail)) (k:=8) (by omega) (by omega) (fun g=>absurd g (by omega)) fun _=>?_
 rw [BS,AT,AT]
 refine AS (fun _=>?_) fun g=>absurd rfl g
 rw [LV h]
 obtain ⟨w,e,_⟩:=O7 (k:=.i64) (a:=8) (hb σ (hlm σ h.tail)) hy
 have hw:∀ τ,H m τ→bS τ w (y.drop 8):=fun τ ht=>by
  obtain ⟨w2,e2,h2⟩:=O7 (k:=.i64) (a:=8) (hb τ ht) hy
  rw [e] at e2
  cases e2
  exact h2
 rw [show (8:Int)=((8:Nat):Int) from rfl,e,AD]
 obtain ⟨a',c',hwv⟩:=IT (hw σ (hlm σ h.tail))
 refine st h (by rw [hwv]; rfl) ?_
 intro σ1 h1
 unfold GW
 exact hQ w σ1 hw h1
end Go.Ax.C
set_option maxRecDepth 100000
namespace Go.Ax.C
open Go.Proofs Go.RowKit
variable {l r m:List AK} {σ:AHeap} {Q:RK}
theorem ADw {e:Nat} {v:Value} {n:Nat} {xs:List Nat} (h:H (AU e 1 v n (uv xs)::l) σ):Us σ v xs:=CX (KY h)
structure xX (x:List UInt8) (k:Nat) (ks vs:List Nat):Prop where
 kl:ks.length=k
 vl:vs.length=k
 ke:∀ t,t<k→ks[t]?=some (LQ ((x.drop (2+16*t)).take 8))
 ve:∀ t,t<k→vs[t]?=some (LQ ((x.drop (2+16*t+8)).take 8))
 kp:ks.Pairwise (·<·)
 vz:∀ v∈vs,v≠0
theorem xH {x:List UInt8}:LQ (x.take 8)<18446744073709551616:=by
 have h:=hJ (x.take 8)
 have:(x.take 8).length≤8:=by simp; omega
 have h2:(256:Nat) ^ (x.take 8).length≤256 ^ 8:=Nat.pow_le_pow_right (by omega) this
 rw [AEI] at h2
 omega
theorem xX.small {x:List UInt8} {k:Nat} {ks vs:List Nat} (h:xX x k ks vs) (lf:Bool):(Nd.mk lf ks vs).small:=by
 refine ⟨fun a ha=>?_,fun a ha=>?_⟩
 ·obtain ⟨t,ht,rfl⟩:=List.getElem_of_mem ha
  simp only at ht
  have:=h.ke t (by rw [← h.kl]; exact ht)
  rw [List.getElem?_eq_getElem ht] at this
  rw [Option.some.inj this]
  exact xH
 ·obtain ⟨t,ht,rfl⟩:=List.getElem_of_mem ha
  simp only at ht
  have:=h.ve t (by rw [← h.vl]; exact ht)
  rw [List.getElem?_eq_getElem ht] at this
  rw [Option.some.inj this]
  exact xH
theorem xX.pairs {x:List UInt8} {ks vs:List Nat}:∀ {k:Nat},xX x k ks vs→2+16*k≤x.length→GX (ks.zip vs)=(x.drop 2).take (16*k):=by
 intro k h hx
 have key:∀ j,j≤k→GX ((ks.zip vs).take j)=(x.drop 2).take (16*j):=by
  intro j
  induction j with
  | zero=>intro _; simp [GX]
  | succ j ih =>
    intro hj
    have hz:(ks.zip vs)[j]?=some (LQ ((x.drop (2+16*j)).take 8),LQ ((x.drop (2+16*j+8)).take 8)):=by
     rw [List.getElem?_zip_eq_some]
     exact ⟨h.ke j (by omega),h.ve j (by omega)⟩
    rw [List.take_add_one,hz,Option.toList_some]
    have:GX ((ks.zip vs).take j++[(LQ ((x.drop (2+16*j)).take 8),LQ ((x.drop (2+16*j+8)).take 8))])=GX ((ks.zip vs).take j)++(be (LQ ((x.drop (2+16*j)).take 8)) 8++be (LQ ((x.drop (2+16*j+8)).take 8)) 8):=by simp [GX,lG]
    rw [this,ih (by omega)]
    have l1:((x.drop (2+16*j)).take 8).length=8:=by simp; omega
    have l2:((x.drop (2+16*j+8)).take 8).length=8:=by simp; omega
    have b1:=AAa ((x.drop (2+16*j)).take 8)
    have b2:=AAa ((x.drop (2+16*j+8)).take 8)
    rw [l1] at b1
    rw [l2] at b2
    rw [b1,b2,show 16*(j+1)=16*j+(8+8) by omega,List.take_add,List.drop_drop,List.take_add,List.drop_drop]
 have:=key k (Nat.le_refl _)
 rw [List.take_of_length_le (by simp [h.kl,h.vl])] at this
 exact this
theorem xX.form {x:List UInt8} {k:Nat} {ks vs:List Nat} {lf:Bool} (h:xX x k ks vs) (hx:x.length=240) (hk:2+16*k≤240) (h0:x[0]?=some (if lf then 1 else 0)) (h1:x[1]?=some (UInt8.ofNat k)) (hz:∀ b∈x.drop (2+16*k),b=0):x=DI (Nd.mk lf ks vs).form:=by
 have hp:=h.pairs (by omega)
 have hf:(Nd.mk lf ks vs).form=x.take (2+16*k):=by
  unfold Nd.form Nd.pairs
  simp only
  rw [hp,h.kl,List.take_add]
  congr 1
  match x,hx,h0,h1 with
  | a::b::x,_,h0,h1 =>
    simp at h0 h1
    subst h0; subst h1
    rfl
 unfold DI
 rw [hf]
 have hl:(x.take (2+16*k)).length=2+16*k:=by simp; omega
 rw [hl]
 have:x.drop (2+16*k)=List.replicate (240 - (2+16*k)) 0:=by
  rw [List.eq_replicate_iff]
  exact ⟨by simp; omega,hz⟩
 rw [← this,List.take_append_drop]
theorem xX.snoc {x:List UInt8} {k:Nat} {ks vs:List Nat} (h:xX x k ks vs) (hkey:∀ y,ks.getLast?=some y→y<LQ ((x.drop (2+16*k)).take 8)) (hval:LQ ((x.drop (2+16*k+8)).take 8)≠0) :
 xX x (k+1) (ks++[LQ ((x.drop (2+16*k)).take 8)]) (vs++[LQ ((x.drop (2+16*k+8)).take 8)]):=by
 refine ⟨by simp [h.kl],by simp [h.vl],fun t ht=>?_,fun t ht=>?_,kQ h.kp hkey,fun v hv=>?_⟩
 ·rcases Nat.lt_or_ge t k with h' | h'
  ·rw [List.getElem?_append_left (by rw [h.kl]; exact h')]; exact h.ke t h'
  ·have:t=k:=by omega
   subst this
   rw [List.getElem?_append_right (by rw [h.kl]; exact Nat.le_refl _),h.kl,Nat.sub_self]; rfl
 ·rcases Nat.lt_or_ge t k with h' | h'
  ·rw [List.getElem?_append_left (by rw [h.vl]; exact h')]; exact h.ve t h'
  ·have:t=k:=by omega
   subst this
   rw [List.getElem?_append_right (by rw [h.vl]; exact Nat.le_refl _),h.vl,Nat.sub_self]; rfl
 ·rcases List.mem_append.1 hv with hv | hv
  ·exact h.vz v hv
  ·simp at hv; subst hv; exact hval
end Go.Ax.C
set_option maxRecDepth 100000
namespace Go.Ax.C
open Go.Proofs Go.RowKit
variable {l r m:List AK} {σ:AHeap} {Q:RK}
def cD:Value:=.agg #[.bool false,.slice none 0 0,.slice none 0 0]
abbrev TkL (b41 b49 b55:Nat) (rv:Value) (lf:Bool) (kvv vvv:Value) (ks vs:List Nat) (l:List AK):List AK :=
 pt b55 (.cells [rv] H5 false)::AU AJ 1 kvv ks.length (uv ks)::AU AJ 1 vvv vs.length (uv vs)::pt b49 (.cells [.bool lf,kvv,vvv] AG false)::pt b41 (.cells [.bool false,.slice none 0 0,.slice none 0 0] AG false)::l
theorem AF3 {b41 b49 b55:Nat} {rv:Value} {lf:Bool} {kvv vvv:Value} {ks vs:List Nat} (h:H (TkL b41 b49 b55 rv lf kvv vvv ks vs l) σ):H l σ:=h.tail.tail.tail.tail.tail
theorem f8 {b41:Nat} {L:List AK} {e:Int} (h:H L σ) [AtB L b41 (pt b41 (.cells [.bool false,.slice none 0 0,.slice none 0 0] AG false)) r] (hr:∀ τ,H r τ→H l τ) (hQ:∀ σ',H l σ'→Q (.ret (.tuple #[cD,.int .i64 e])) σ') :
 pu (AP 3 (.pointer (some ⟨b41,0,none⟩)) (.agg #[(.bool false),(.slice none 0 0),(.slice none 0 0)]) σ) fun τ143 =>
  pu (AF true 3 (.pointer (some ⟨b41,0,none⟩)) τ143) fun v149=>Q (.ret (.tuple #[v149,(.int .i64 e)])) τ143:=by
 refine bH h rfl rfl rfl ?_
 intro σ1 h1
 rw [VU (h1.row 0 rfl) (by simp),A5]
 exact hQ σ1 (hr σ1 h1.tail)
theorem X4 {bk:Nat} {K:Value×AHeap→Prop} (i:Nat) {L:List AK} (h:H L σ) {e:TypeId} {w:Value} {xs:List Nat}
 (hi:L[i]?=some (AU e 1 w xs.length (uv xs))) (hx:xs.length≤1000) {j:Nat} {x:Nat} (hj:L[j]?=some (pt bk (.cells [.int .u64 (x:Nat)] AJ false)))
 (hK:∀ v' σ',H (L.set i (AU e 1 v' (xs++[x]).length (uv (xs++[x])))) σ'→K (v',σ')):pu (BZ e 1 8 w (.slice (some ⟨bk,0,none⟩) 1 1) σ) K:=by
 have hs:D5 1 (.slice (some ⟨bk,0,none⟩) 1 1) σ=some (1,uv [x]):=by rw [FO (h.row j hj) (by simp)]; rfl
 refine DR h i hi hs (by omega) (by omega) (OY _) ?_
 intro v' σ' h'
 rw [← OX] at h'
 refine hK v' σ' ?_
 rw [List.length_append]; exact h'
set_option maxHeartbeats 1000000 in
theorem AGt {b41 b49 b55:Nat} {rv:Value} {lf:Bool} {kvv vvv:Value} {ks vs:List Nat} {x:List UInt8} {k key:Nat} {N:Int→AHeap→Prop} (h:H (TkL b41 b49 b55 rv lf kvv vvv ks vs l) σ) (hx:x.length=240) (hk:k<8) (hg:xX x k ks vs)
 (hb:∀ τ,H l τ→bS τ rv (x.drop (2+16*k+8))) (hkey:key=LQ ((x.drop (2+16*k)).take 8)) (hlt:∀ y,ks.getLast?=some y→y<key)
 (hz:LQ ((x.drop (2+16*k+8)).take 8)=0→∀ σ',H l σ'→Q (.ret (.tuple #[cD,.int .i64 5])) σ')
 (hN:∀ rv' kvv' vvv' ks' vs' σ',xX x (k+1) ks' vs'→(∀ τ,H l τ→bS τ rv' (x.drop (2+16*(k+1))))→H (TkL b41 b49 b55 rv' lf kvv' vvv' ks' vs' l) σ'→N ((k+1:Nat):Int) σ') :
 FV N E Q false b41 b49 b55 k (.func (.func CR) #[(.pointer (some ⟨b55,0,none⟩))] #[]) key σ:=by
 unfold FV
 refine B7 rfl ?_
 show E CR [.pointer (some ⟨b55,0,none⟩)] _ _
 refine vK (m:=l) (y:=x.drop (2+16*k+8)) h (fun τ ht=>ht.tail.tail.tail.tail) hb (by simp; omega) (by simp; omega) ?_
 intro rv' σ1 hb' h1
 rw [BS,AT,AT]
 refine CA (fun g=>absurd rfl g) fun _=>?_
 refine AS (fun h0=>?_) (fun h0=>?_)
 ·exact f8 h1 (fun τ ht=>ht.tail.tail.tail.tail) (hz (by omega))
 have hgs:=hg.snoc (by rw [← hkey]; exact hlt) (by omega)
 rw [← hkey] at hgs
 have hbn:∀ τ,H l τ→bS τ rv' (x.drop (2+16*(k+1))):=fun τ ht=>by
  have:=hb' τ ht
  rw [List.drop_drop] at this
  exact this
 rw [LV h1,LV h1]
 obtain ⟨_,_,ka,kc,hkv⟩:=h1.own_src 1 rfl
 obtain ⟨_,_,va,vc,hvv⟩:=h1.own_src 2 rfl
 have vk:∀ p:Prop,(AX kvv kvv=true∧p)=p:=fun p=>by rw [hkv]; exact LX
 have vv:∀ p:Prop,(AX vvv vvv=true∧p)=p:=fun p=>by rw [hvv]; exact LX
 have hkl:ks.length≤1000:=by rw [hg.kl]; omega
 have hvl:vs.length≤1000:=by rw [hg.vl]; omega
 -- the end of each way
 have fin:∀ (bx by':Nat) (ox oy:C9) kvv' vvv' σ',H (pt bx ox::pt by' oy::pt b55 (.cells [rv'] H5 false)::AU AJ 1 kvv' (ks++[key]).length (uv (ks++[key]))::AU AJ 1 vvv' (vs++[LQ ((x.drop (2+16*k+8)).take 8)]).length (uv (vs++[LQ ((x.drop (2+16*k+8)).take 8)]))::pt b49 (.cells [.bool lf,kvv,vvv] AG false)::pt b41 (.cells [.bool false,.slice none 0 0,.slice none 0 0] AG false)::l) σ'→St b49 1 kvv' σ' fun τ=>St b49 2 vvv' τ fun τ2=>HX N E Q k b41 b49 b55 τ2:=by
  intro bx by' ox oy kvv' vvv' σ' h'
  have h':=h'.tail.tail
  obtain ⟨_,_,ka',kc',hkv'⟩:=h'.own_src 1 rfl
  obtain ⟨_,_,va',vc',hvv'⟩:=h'.own_src 2 rfl
  refine st h' (by rw [hkv']; rfl) ?_
  intro τ2 h2
  refine st h2 (by rw [hvv']; rfl) ?_
  intro τ3 h3
  unfold HX
  refine E1 ((k+1:Nat):Int) (by omega) ?_
  exact hN rv' kvv' vvv' _ _ τ3 hgs hbn h3.re
 refine ⟨?_,?_⟩
 ·refine nw h1 ?_
  intro c1 τ1 h2
  rw [LV h2,vk,LV h2,vv]
  refine ⟨?_,?_⟩
  ·refine X4 (bk:=c1) (xs:=ks) (x:=key) 2 h2 (j:=0) rfl hkl rfl ?_
   intro v' τ2 h3
   simp only [List.set_cons_succ,List.set_cons_zero] at h3
   rw [LV h3,vv]
   refine nw h3 ?_
   intro c2 τ3 h4
   rw [LV h4,vk,LV h4,vv]
   refine X4 (bk:=c2) (xs:=vs) (x:=LQ ((x.drop (2+16*k+8)).take 8)) 4 h4 (j:=0) rfl hvl rfl ?_
   intro w' τ4 h5
   simp only [List.set_cons_succ,List.set_cons_zero] at h5
   exact fin _ _ _ _ _ _ _ h5
  ·refine nw h2 ?_
   intro c2 τ3 h4
   rw [LV h4,vk,LV h4,vv]
   refine X4 (bk:=c1) (xs:=ks) (x:=key) 3 h4 (j:=1) rfl hkl rfl ?_
   intro v' τ2 h3
   simp only [List.set_cons_succ,List.set_cons_zero] at h3
   rw [LV h3,vv]
   refine X4 (bk:=c2) (xs:=vs) (x:=LQ ((x.drop (2+16*k+8)).take 8)) 4 h3 (j:=0) rfl hvl rfl ?_
   intro w' τ4 h5
   simp only [List.set_cons_succ,List.set_cons_zero] at h5
   exact fin _ _ _ _ _ _ _ h5
 ·refine nw h1 ?_
  intro c2 τ1 h2
  rw [LV h2,vk,LV h2,vv]
  refine nw h2 ?_
  intro c1 τ3 h4
  rw [LV h4,vk,LV h4,vv]
  refine X4 (bk:=c1) (xs:=ks) (x:=key) 3 h4 (j:=0) rfl hkl rfl ?_
  intro v' τ2 h3
  simp only [List.set_cons_succ,List.set_cons_zero] at h3
  rw [LV h3,vv]
  refine X4 (bk:=c2) (xs:=vs) (x:=LQ ((x.drop (2+16*k+8)).take 8)) 4 h3 (j:=1) rfl hvl rfl ?_
  intro w' τ4 h5
  simp only [List.set_cons_succ,List.set_cons_zero] at h5
  exact fin _ _ _ _ _ _ _ h5
end Go.Ax.C
set_option maxRecDepth 100000
namespace Go.Ax.C
open Go.Proofs Go.RowKit
variable {l r m:List AK} {σ:AHeap} {Q:RK}
def ABR (x:List UInt8):Prop:=∀ n:Nd,n.May→n.small→x≠DI n.form
set_option maxHeartbeats 1000000 in
theorem AFu {v:Value} {x:List UInt8} (h:H l σ) (hb:∀ τ,H l τ→bS τ v x) (hx:x.length=240)
 (hno:∀ e:Int,e≠0→ABR x→∀ σ',H l σ'→Q (.ret (.tuple #[cD,.int .i64 e])) σ')
 (hyes:∀ (n:Nd) kv vv σ',n.May→n.small→x=DI n.form→H (AQ kv n.keys::AQ vv n.vals::l) σ'→Q (.ret (.tuple #[.agg #[.bool n.leaf,kv,vv],.int .i64 0])) σ') :
 E UH [v] σ Q:=by
 apply pZ; unfold dU
 refine nw h ?_
 intro b41 σ1 h1
 have hbt:=hb σ1 h1.tail
 have hlen:BH v=some (.int .i64 x.length):=by obtain ⟨va,vc,rfl⟩:=IT hbt; rfl
 rw [hlen,AH]
 refine AS (fun g=>absurd g (by omega)) fun _=>?_
 obtain ⟨a,hxa⟩:∃ a,x[0]?=some a:=⟨_,List.getElem?_eq_getElem (by omega)⟩
 obtain ⟨c,hxc⟩:∃ c,x[1]?=some c:=⟨_,List.getElem?_eq_getElem (by omega)⟩
 obtain ⟨pa,ia,la⟩:=(SU hbt).elem 0 a hxa
 obtain ⟨pc,ic,lc⟩:=(SU hbt).elem 1 c hxc
 have ia':=ia .i64
 have ic':=ic .i64
 simp only [Int.natCast_zero,Int.natCast_one] at ia' ic'
 have ca:=a.toNat_lt
 have cc:=c.toNat_lt
 rw [ia',AD,la]
 show A2 .u8 (some (.int .u8 (a.toNat:Int))) _
 rw [AH]
 refine AS (fun g=>?_) fun ga=>?_
 ·refine f8 h1 (fun τ ht=>ht) (hno 5 (by omega) fun n hm hs he=>?_)
  have:=(WW hm he).1
  rw [hxa] at this
  have:=Option.some.inj this
  rw [this] at g
  cases hl:n.leaf<;>simp [hl] at g
 rw [AH]
 refine AS (fun g=>absurd g (by omega)) fun _=>?_
 rw [ic',AD,lc]
 show A2 .u8 (some (.int .u8 (c.toNat:Int))) _
 rw [AH]
 have hcnt:∀ n:Nd,n.May→x=DI n.form→c.toNat=n.keys.length:=by
  intro n hm he
  obtain ⟨_,q1,q2⟩:=WW hm he
  rw [hxc] at q1
  rw [Option.some.inj q1,q2]
 have hbad:∀ τ,H (pt b41 (.cells [.bool false,.slice none 0 0,.slice none 0 0] AG false)::l) τ→¬ (1≤c.toNat∧c.toNat≤8)→IQ E Q true b41 v τ:=by
  intro τ ht g
  unfold IQ
  refine G8 rfl ?_
  refine f8 ht (fun τ ht=>ht) (hno 5 (by omega) fun n hm hs he=>?_)
  have:=hcnt n hm he
  have:=hm.1.1
  have:=hm.1.2.1
  omega
 refine AS (fun g=>hbad σ1 h1 (by omega)) fun g1=>?_
 rw [AD,lc]
 show A2 .u8 (some (.int .u8 (c.toNat:Int))) _
 rw [AH]
 by_cases g8:8<c.toNat
 ·have e:decide ((8:Int)<(c.toNat:Int))=true:=by simp; omega
  rw [e]
  exact hbad σ1 h1 (by omega)
 have e:decide ((8:Int)<(c.toNat:Int))=false:=by simp; omega
 rw [e]
 unfold IQ
 refine B7 rfl ?_
 rw [ia',AD,la]
 show A2 .u8 (some (.int .u8 (a.toNat:Int))) _
 rw [AH]
 refine nw h1 ?_
 intro b49 σ2 h2
 refine bH h2 rfl rfl rfl ?_
 intro σ3 h3
 obtain ⟨w,ew,_⟩:=O7 (k:=.i64) (a:=2) hbt (by omega)
 have hw:∀ τ,H l τ→bS τ w (x.drop 2):=fun τ ht=>by
  obtain ⟨w2,e2,h2⟩:=O7 (k:=.i64) (a:=2) (hb τ ht) (by omega)
  rw [ew] at e2
  cases e2
  exact h2
 rw [show (2:Int)=((2:Nat):Int) from rfl,ew,AD]
 obtain ⟨wa,wc,hwv⟩:=IT (hw σ1 h1.tail)
 refine E5 (by rw [hwv]; rfl) ?_
 refine nw h3 ?_
 intro b55 σ4 h4
 obtain ⟨pc2,ic2,lc2⟩:=(SU (hb σ4 h4.tail.tail.tail)).elem 1 c hxc
 have:pc2=pc:=by
  have:=(ic2 .i64).symm.trans (ic .i64)
  cases this; rfl
 subst this
 rw [ic',AD,lc2]
 show A2 .u8 (some (.int .u8 (c.toNat:Int))) _
 rw [AH]
 refine E1 (c.toNat:Int) (by omega) ?_
 obtain ⟨lf,hlf⟩:∃ lf,lf=decide ((a.toNat:Int)=1):=⟨_,rfl⟩
 rw [← hlf] at h4
 have h5:H (TkL b41 b49 b55 w lf (.slice none 0 0) (.slice none 0 0) [] [] l) σ4:=by
  have q:=(h4.own_nil AJ 1).unsnoc
  have q2:H (AU AJ 1 (.slice none 0 0) ([]:List Nat).length (uv [])::AU AJ 1 (.slice none 0 0) ([]:List Nat).length (uv [])::pt b55 (.cells [w] H5 false)::pt b49 (.cells [.bool lf,.slice none 0 0,.slice none 0 0] AG false)::pt b41 (.cells [.bool false,.slice none 0 0,.slice none 0 0] AG false)::l) σ4:=(q.own_nil AJ 1).unsnoc
  exact q2.re
 refine ⟨fun m i τ=>∃ (k:Nat) (rv kvv vvv:Value) (ks vs:List Nat),i=k∧m=c.toNat - k∧k≤c.toNat∧xX x k ks vs∧(∀ τ,H l τ→bS τ rv (x.drop (2+16*k)))∧H (TkL b41 b49 b55 rv lf kvv vvv ks vs l) τ,
  ⟨c.toNat,0,w,_,_,[],[],rfl,rfl,by omega,⟨rfl,rfl,fun t ht=>by omega,fun t ht=>by omega,by simp,by simp⟩,hw,h5⟩,?_⟩
 rintro m i τ ⟨k,rv,kvv,vvv,ks,vs,rfl,rfl,hk,hg,hbr,h6⟩
 unfold VE
 refine AS (fun hlt=>?_) (fun hge=>?_)
 ·have hk8:k<8:=by omega
  show E CR [.pointer (some ⟨b55,0,none⟩)] _ _
  refine vK (m:=l) (y:=x.drop (2+16*k)) h6 (fun τ ht=>ht.tail.tail.tail.tail) hbr (by simp; omega) (by simp; omega) ?_
  intro rv' τ1 hb' h7
  rw [BS,AT,AT]
  refine CA (fun g=>absurd rfl g) fun _=>?_
  have hb2:∀ τ,H l τ→bS τ rv' (x.drop (2+16*k+8)):=fun τ ht=>by
   have:=hb' τ ht
   rw [List.drop_drop] at this
   exact this
  have h20:(∀ y,ks.getLast?=some y→y<LQ ((x.drop (2+16*k)).take 8))→FV _ E Q false b41 b49 b55 k (.func (.func CR) #[(.pointer (some ⟨b55,0,none⟩))] #[]) (LQ ((x.drop (2+16*k)).take 8):Nat) τ1:=fun hl =>
   AGt (N:=fun n66 σ'=>∃ m',m'<c.toNat - k∧∃ (k:Nat) (rv kvv vvv:Value) (ks vs:List Nat),n66=k∧m'=c.toNat - k∧k≤c.toNat∧xX x k ks vs∧(∀ τ,H l τ→bS τ rv (x.drop (2+16*k)))∧H (TkL b41 b49 b55 rv lf kvv vvv ks vs l) σ') h7 hx hk8 hg hb2 rfl hl (fun h0 σ' hh=>hno 5 (by omega) (fun n hm hs he=>by
    have hkn:=hcnt n hm he
    have:=(TE hm hs he (i:=k) (by omega)).2
    rw [h0] at this
    exact hm.2.2 _ (List.getElem_mem (by have:=hm.1.2.2; omega)) this.symm) σ' hh)
    (fun rv2 kvv2 vvv2 ks2 vs2 σ' hg2 hb3 hh=>⟨c.toNat - (k+1),by omega,k+1,rv2,kvv2,vvv2,ks2,vs2,rfl,rfl,by omega,hg2,hb3,hh⟩)
  refine AS (fun hpos=>?_) (fun h0=>?_)
  ·obtain ⟨j,rfl⟩:∃ j,k=j+1:=⟨k - 1,by omega⟩
   have hj:j<ks.length:=by rw [hg.kl]; omega
   obtain ⟨pp,ip,lp⟩:=M7 (ADw h7.tail) (List.getElem?_eq_getElem hj)
   rw [LV h7]
   refine E1 ((j:Nat):Int) (by omega) ?_
   rw [ip,AD,lp,AH]
   by_cases hle:LQ ((x.drop (2+16*(j+1))).take 8)≤ks[j]
   ·have e:decide (((LQ ((x.drop (2+16*(j+1))).take 8):Nat):Int)≤(ks[j]:Int))=true:=by simp; omega
    rw [e]
    unfold FV
    refine G8 rfl ?_
    refine f8 h7 (fun τ ht=>ht.tail.tail.tail.tail) (hno 5 (by omega) fun n hm hs he=>?_)
    have hkn:=hcnt n hm he
    have q1:=(TE hm hs he (i:=j+1) (by omega)).1
    have q2:=(TE hm hs he (i:=j) (by omega)).1
    have q3:=hg.ke j (by omega)
    rw [List.getElem?_eq_getElem hj] at q3
    have q3:=Option.some.inj q3
    have:=List.pairwise_iff_getElem.1 hm.2.1 j (j+1) (by omega) (by omega) (by omega)
    omega
   ·have e:decide (((LQ ((x.drop (2+16*(j+1))).take 8):Nat):Int)≤(ks[j]:Int))=false:=by simp; omega
    rw [e]
    refine h20 fun y hy=>?_
    rw [List.getLast?_eq_getElem?,hg.kl,Nat.add_sub_cancel,List.getElem?_eq_getElem hj] at hy
    have:=Option.some.inj hy
    omega
  ·have:k=0:=by omega
   subst this
   refine h20 fun y hy=>?_
   have:=hg.kl
   rw [List.length_eq_zero_iff.1 this] at hy
   simp at hy
 ·have hkc:k=c.toNat:=by omega
  have hrl:BH rv=some (.int .i64 ((x.drop (2+16*k)).length:Nat)):=by obtain ⟨ra,rc,rfl⟩:=IT (hbr τ (AF3 h6)); rfl
  rw [LV h6,hrl,AH]
  refine ⟨fun m i τ=>∃ j:Nat,i=j∧m=(x.drop (2+16*k)).length - j∧j≤(x.drop (2+16*k)).length∧(∀ t,t<j→(x.drop (2+16*k))[t]?=some 0)∧H (TkL b41 b49 b55 rv lf kvv vvv ks vs l) τ,
   ⟨(x.drop (2+16*k)).length,0,rfl,rfl,by omega,fun t ht=>by omega,h6⟩,?_⟩
  rintro m i τ ⟨j,rfl,rfl,hj,hz,h7⟩
  have hyl:(x.drop (2+16*k)).length=240 - (2+16*k):=by simp; omega
  unfold VS
  refine AS (fun hlt=>?_) (fun hge=>?_)
  ·obtain ⟨y,hy⟩:∃ y,(x.drop (2+16*k))[j]?=some y:=⟨_,List.getElem?_eq_getElem (by omega)⟩
   obtain ⟨pp,ip,lp⟩:=(SU (hbr τ (AF3 h7))).elem j y hy
   rw [ip,AD,lp]
   show A2 .u8 (some (.int .u8 (y.toNat:Int))) _
   rw [AH]
   refine CA (fun g=>?_) fun g=>?_
   ·refine f8 h7 (fun τ ht=>ht.tail.tail.tail.tail) (hno 5 (by omega) fun n hm hs he=>?_)
    have hkn:=hcnt n hm he
    have q:=xT hm he
    rw [← hkn,← hkc] at q
    rw [q,List.getElem?_replicate] at hy
    split at hy
    ·cases hy; simp at g
    ·cases hy
   ·refine E1 ((j+1:Nat):Int) (by omega) ?_
    refine ⟨(x.drop (2+16*k)).length - (j+1),by omega,j+1,rfl,rfl,by omega,fun t ht=>?_,h7⟩
    rcases Nat.lt_or_ge t j with h' | h'
    ·exact hz t h'
    ·have:t=j:=by omega
     subst this
     rw [hy]
     congr 1
     apply UInt8.toNat_inj.1
     show y.toNat=0
     omega
  ·have hall:∀ b∈x.drop (2+16*k),b=0:=by
    intro b hb'
    obtain ⟨t,ht,rfl⟩:=List.getElem_of_mem hb'
    have:=hz t (by omega)
    rw [List.getElem?_eq_getElem ht] at this
    exact Option.some.inj this
   have ha01:a=if lf then 1 else 0:=by
    apply UInt8.toNat_inj.1
    rw [hlf]
    by_cases h1:a.toNat=1
    ·simp [h1]
    ·have:a.toNat=0:=by omega
     simp [this]
   have hform:=hg.form (lf:=lf) hx (by omega) (by rw [hxa,ha01]) (by
    rw [hxc,hkc]; congr 1; apply UInt8.toNat_inj.1; rw [UInt8.toNat_ofNat']; omega) hall
   have hmay:(Nd.mk lf ks vs).May:=⟨⟨by simp only [hg.kl]; omega,by simp only [hg.kl]; omega,by simp only [hg.kl,hg.vl]⟩,hg.kp,hg.vz⟩
   obtain ⟨_,_,ka,kc,hkv⟩:=h7.own_src 1 rfl
   obtain ⟨_,_,va,vc,hvv⟩:=h7.own_src 2 rfl
   rw [LB h7,LV h7,LV h7]
   refine bH h7 rfl (by rw [hkv]; rfl) (by rw [hvv]; rfl) ?_
   intro τ2 h8
   rw [VU (h8.row 0 rfl) (by simp),A5]
   refine hyes ⟨lf,ks,vs⟩ kvv vvv τ2 hmay (hg.small lf) hform ?_
   have h9:H (AU AJ 1 kvv ks.length (uv ks)::AU AJ 1 vvv vs.length (uv vs)::l) τ2:=h8.re
   have h10:=(KY h9).perm (.swap _ _ _)
   exact (KY h10).perm (.swap _ _ _)
end Go.Ax.C
set_option linter.unusedVariables false
set_option maxRecDepth 100000
namespace Go.Ax.C
open Go.Proofs
def M5 (E:BP) (Q:RK) (b17:Nat) (τ16:AHeap):Prop :=
 E HI [(.pointer (some ⟨b17,0,none⟩))] τ16 (c0 Q fun τ18 =>
 Q (.ret (.tuple #[(.pointer (some ⟨b17,0,none⟩)),(.int .i64 0)])) τ18)
def Q7 (E:BP) (Q:RK) (c5:Bool) (v7:Value) (τ4:AHeap):Prop :=
 If c5 (
 Q (.ret (.tuple #[(.pointer none),(.int .i64 1)])) τ4) (
 A2 .i64 (BH v7) fun n9 =>
 (
 E C5 [v7] τ4 (cV Q fun v11 τ10 =>
 A2 .i64 (BH v7) fun n12 =>
 AX (.int .i64 n12) (.int .i64 n9)=true∧pu (PC AL 1 [(.int .u8 0)] (.int .i64 n9) (.int .i64 n9) τ10) fun r13 =>
 On v11 (
 On r13.1 (
 BE r13.2 (.cells [v11,r13.1,(.slice none 0 0),(.pointer none)] BT false) fun b14 τ15 =>
 (M5 E Q b14 τ15)))))∧(
 pu (PC AL 1 [(.int .u8 0)] (.int .i64 n9) (.int .i64 n9) τ4) fun r21 =>
 E C5 [v7] r21.2 (cV Q fun v23 τ22 =>
 A2 .i64 (BH v7) fun n24 =>
 AX (.int .i64 n24) (.int .i64 n9)=true∧On v23 (
 On r21.1 (
 BE τ22 (.cells [v23,r21.1,(.slice none 0 0),(.pointer none)] BT false) fun b25 τ26 =>
 (M5 E Q b25 τ26))))))
def gU (E:BP) (Q:RK) (x0:Value) (σ:AHeap):Prop :=
 A2 .i64 (BH x0) fun n3 =>
 If (decide (n3<1)) (
 (Q7 E Q true x0 σ)) (
 A2 .i64 (BH x0) fun n27 =>
 (Q7 E Q (decide (1024<n27)) x0 σ))
theorem sR {Q:RK} {x0:Value} {σ:AHeap} (h:gU E Q x0 σ):E X9 [x0] σ Q :=
 B0 Tryz.func59 (hl [(1,.tree (.step 0 [] (.step 2 [] (.step 3 [] (.alt (.step 1 [3] (.step 4 [] (.step 5 [] (.step 6 [] (.step 7 [] .nil))))) (.step 4 [] (.step 1 [3] (.step 5 [] (.step 6 [] (.step 7 [] .nil))))))))))]) (fun _=>.v) (by kernel_rfl) (Eq.mpr (by kernel_rfl) h)
def FN (N1:Int→AHeap→Prop) (E:BP) (Q:RK) (n57:Int) (τ54:AHeap):Prop :=
 Bi (FC (n57+1)) fun n58 =>
 N1 n58 τ54
def LO (N1:Int→AHeap→Prop) (E:BP) (Q:RK) (b26:Nat) (v28:Value) (n30 n24:Int) (τ31:AHeap):Prop :=
 If (decide (n24<n30)) (
 om (AE 1 v28 (.int .i64 n24)) fun v39 =>
 A2 .u8 (AF false 1 v39 τ31) fun n40 =>
 If (decide (0<n40)) (
 om (L b26 3 τ31) fun v49 =>
 E J1 [v49,(.int .i64 n24)] τ31 (cI Q .i64 fun n53 τ52 =>
 (FN N1 E Q n24 τ52))) (
 (FN N1 E Q n24 τ31))) (
 Q (.ret (.tuple #[])) τ31)
def PB (E:BP) (Q:RK) (x0:Nat) (σ:AHeap):Prop :=
 om (L x0 1 σ) fun v1 =>
 om (L x0 0 σ) fun v2 =>
 pu (LM 1 v1 v2 σ) fun r3 =>
 om (L x0 0 r3.2) fun v6 =>
 A2 .i64 (BH v6) fun n7 =>
 pu (PC CQ 1 [(.bool false)] (.int .i64 n7) (.int .i64 n7) r3.2) fun r8 =>
 St x0 2 r8.1 r8.2 fun τ9 =>
 om (L x0 0 τ9) fun v12 =>
 A2 .i64 (BH v12) fun n13 =>
 E YE [(.int .i64 n13)] τ9 (c2 Q fun v15 v16 τ14 =>
 tI .i64 (fun n17 =>
 St x0 3 v15 τ14 fun τ18 =>
 om (L x0 0 τ18) fun v21 =>
 A2 .i64 (BH v21) fun n22 =>
 ∃ I59:Nat→Int→AHeap→Prop,(∃ m,I59 m 0 τ18)∧∀ m (n24:Int) (σ':AHeap),I59 m n24 σ'→(LO (fun n24 σ'=>∃ m',m'<m∧I59 m' n24 σ') E Q x0 v21 n22 n24 σ')) v16)
theorem YB {Q:RK} {x0:Nat} {σ:AHeap} (h:PB E Q x0 σ):E HI [(.pointer (some ⟨x0,0,none⟩))] σ Q :=
 B0 Tryz.func89 (hl [(0,.ord (il 0 9)),(2,.loopr [0,37,38] [39] [] [39])]) (fun | 39=>(.i .i64) | _=>.v) (by kernel_rfl) (Eq.mpr (by kernel_rfl) h)
def PY (E:BP) (Q:RK) (x0:Nat) (σ:AHeap):Prop :=
 om (L x0 0 σ) fun v3 =>
 A2 .i64 (BH v3) fun n4 =>
 Q (.ret (.bool (decide (0<n4)))) σ
theorem aE {Q:RK} {x0:Nat} {σ:AHeap} (h:PY E Q x0 σ):E DW [(.pointer (some ⟨x0,0,none⟩))] σ Q :=
 B0 Tryz.func70 (fun _=>none) (fun _=>.v) (by kernel_rfl) (Eq.mpr (by kernel_rfl) h)
def P6 (E:BP) (Q:RK) (x0:Nat) (σ:AHeap):Prop :=
 E DW [(.pointer (some ⟨x0,0,none⟩))] σ (cB Q fun c4 τ3 =>
 If (!c4) (
 Q (.ret (.tuple #[(.int .i64 0),(.int .i64 2)])) τ3) (
 om (L x0 3 τ3) fun v10 =>
 E LF [v10] τ3 (c2 Q fun v12 v14 τ11 =>
 tI .i64 (fun n13 =>
 tI .i64 (fun n15 =>
 If (!decide (n15=0)) (
 Q (.ret (.tuple #[(.int .i64 0),(.int .i64 8)])) τ11) (
 om (L x0 0 τ11) fun v24 =>
 om (L x0 2 τ11) fun v28 =>
 om (AE 1 v24 (.int .i64 n13)) fun v29 =>
 pu (AP 1 v29 (.int .u8 1) τ11) fun τ30 =>
 om (AE 1 v28 (.int .i64 n13)) fun v31 =>
 pu (AP 1 v31 (.bool true) τ30) fun τ32 =>
 Q (.ret (.tuple #[(.int .i64 n13),(.int .i64 0)])) τ32)) v14) v12)))
theorem Z3 {Q:RK} {x0:Nat} {σ:AHeap} (h:P6 E Q x0 σ):E EQ [(.pointer (some ⟨x0,0,none⟩))] σ Q :=
 B0 Tryz.func23 (hl [(2,.ord (il 0 14))]) (fun _=>.v) (by kernel_rfl) (Eq.mpr (by kernel_rfl) h)
def JJ (E:BP) (Q:RK) (c10:Bool) (b12:Nat) (n14:Int) (v22:Value) (τ9:AHeap):Prop :=
 If c10 (
 Q (.ret (.int .i64 1)) τ9) (
 om (L b12 0 τ9) fun v13 =>
 om (AE 1 v13 (.int .i64 n14)) fun v15 =>
 A2 .u8 (AF false 1 v15 τ9) fun n16 =>
 If (decide (n16=0)) (
 Q (.ret (.int .i64 6)) τ9) (
 wF v22 fun g31 a32 c33 =>
 E g31 (a32++[(.pointer (some ⟨b12,0,none⟩)),(.int .i64 n14)]++c33) τ9 (cI Q .i64 fun n30 τ29 =>
 Q (.ret (.int .i64 n30)) τ29)))
def SH (E:BP) (Q:RK) (x0:Nat) (x1:Int) (x2:Value) (σ:AHeap):Prop :=
 E DW [(.pointer (some ⟨x0,0,none⟩))] σ (cB Q fun c4 τ3 =>
 If (!c4) (
 Q (.ret (.int .i64 2)) τ3) (
 If (decide (x1<0)) (
 (JJ E Q true x0 x1 x2 τ3)) (
 om (L x0 0 τ3) fun v34 =>
 A2 .i64 (BH v34) fun n35 =>
 (JJ E Q (decide (n35≤x1)) x0 x1 x2 τ3))))
theorem cP {Q:RK} {x0:Nat} {x1:Int} {x2:Value} {σ:AHeap} (h:SH E Q x0 x1 x2 σ):E JD [(.pointer (some ⟨x0,0,none⟩)),(.int .i64 x1),x2] σ Q :=
 B0 Tryz.func86 (fun _=>none) (fun _=>.v) (by kernel_rfl) (Eq.mpr (by kernel_rfl) h)
def R6 (E:BP) (Q:RK) (x0:Nat) (x1:Int) (σ:AHeap):Prop :=
 om (L x0 0 σ) fun v3 =>
 om (AE 1 v3 (.int .i64 x1)) fun v5 =>
 A2 .u8 (AF false 1 v5 σ) fun n6 =>
 If (decide (n6=255)) (
 Q (.ret (.int .i64 8)) σ) (
 om (L x0 0 σ) fun v12 =>
 om (AE 1 v12 (.int .i64 x1)) fun v15 =>
 A2 .u8 (AF false 1 v15 σ) fun n16 =>
 Bi (wu8 (n16+1)) fun n17 =>
 om (AE 1 v12 (.int .i64 x1)) fun v18 =>
 pu (AP 1 v18 (.int .u8 n17) σ) fun τ19 =>
 Q (.ret (.int .i64 0)) τ19)
theorem bW {Q:RK} {x0:Nat} {x1:Int} {σ:AHeap} (h:R6 E Q x0 x1 σ):E RT [(.pointer (some ⟨x0,0,none⟩)),(.int .i64 x1)] σ Q :=
 B0 Tryz.func88 (fun _=>none) (fun _=>.v) (by kernel_rfl) (Eq.mpr (by kernel_rfl) h)
def E0 (E:BP) (Q:RK) (τ32:AHeap):Prop :=
 Q (.ret (.int .i64 0)) τ32
def GR (E:BP) (Q:RK) (c20:Bool) (b21:Nat) (n23:Int) (τ19:AHeap):Prop :=
 If c20 (
 om (L b21 2 τ19) fun v22 =>
 om (AE 1 v22 (.int .i64 n23)) fun v24 =>
 pu (AP 1 v24 (.bool false) τ19) fun τ25 =>
 om (L b21 3 τ25) fun v28 =>
 E K6 [v28,(.int .i64 n23)] τ25 (cI Q .i64 fun n31 τ30 =>
 (E0 E Q τ30))) (
 (E0 E Q τ19))
def RL (E:BP) (Q:RK) (x0:Nat) (x1:Int) (σ:AHeap):Prop :=
 om (L x0 0 σ) fun v3 =>
 om (AE 1 v3 (.int .i64 x1)) fun v5 =>
 A2 .u8 (AF false 1 v5 σ) fun n6 =>
 Bi (wu8 (n6 - 1)) fun n7 =>
 om (AE 1 v3 (.int .i64 x1)) fun v8 =>
 pu (AP 1 v8 (.int .u8 n7) σ) fun τ9 =>
 om (L x0 0 τ9) fun v12 =>
 om (AE 1 v12 (.int .i64 x1)) fun v14 =>
 A2 .u8 (AF false 1 v14 τ9) fun n15 =>
 If (decide (n15=0)) (
 om (L x0 2 τ9) fun v16 =>
 om (AE 1 v16 (.int .i64 x1)) fun v17 =>
 DF (AF false 1 v17 τ9) fun c18 =>
 (GR E Q c18 x0 x1 τ9)) (
 (GR E Q false x0 x1 τ9))
theorem bU {Q:RK} {x0:Nat} {x1:Int} {σ:AHeap} (h:RL E Q x0 x1 σ):E SG [(.pointer (some ⟨x0,0,none⟩)),(.int .i64 x1)] σ Q :=
 B0 Tryz.func87 (fun _=>none) (fun _=>.v) (by kernel_rfl) (Eq.mpr (by kernel_rfl) h)
def TV (E:BP) (Q:RK) (x0:Nat) (x1:Int) (σ:AHeap):Prop :=
 E JD [(.pointer (some ⟨x0,0,none⟩)),(.int .i64 x1),(.func (.func RT) #[] #[])] σ (cI Q .i64 fun n5 τ4 =>
 Q (.ret (.int .i64 n5)) τ4)
theorem eD {Q:RK} {x0:Nat} {x1:Int} {σ:AHeap} (h:TV E Q x0 x1 σ):E EU [(.pointer (some ⟨x0,0,none⟩)),(.int .i64 x1)] σ Q :=
 B0 Tryz.func30 (fun _=>none) (fun _=>.v) (by kernel_rfl) (Eq.mpr (by kernel_rfl) h)
def TU (E:BP) (Q:RK) (x0:Nat) (x1:Int) (σ:AHeap):Prop :=
 E JD [(.pointer (some ⟨x0,0,none⟩)),(.int .i64 x1),(.func (.func SG) #[] #[])] σ (cI Q .i64 fun n5 τ4 =>
 If (decide (n5=0)) (
 om (L x0 0 τ4) fun v9 =>
 om (AE 1 v9 (.int .i64 x1)) fun v11 =>
 A2 .u8 (AF false 1 v11 τ4) fun n12 =>
 Q (.ret (.tuple #[(.bool (decide (n12=0))),(.int .i64 n5)])) τ4) (
 Q (.ret (.tuple #[(.bool false),(.int .i64 n5)])) τ4))
theorem eS {Q:RK} {x0:Nat} {x1:Int} {σ:AHeap} (h:TU E Q x0 x1 σ):E DY [(.pointer (some ⟨x0,0,none⟩)),(.int .i64 x1)] σ Q :=
 B0 Tryz.func29 (fun _=>none) (fun _=>.v) (by kernel_rfl) (Eq.mpr (by kernel_rfl) h)
def F7 (E:BP) (Q:RK) (c6:Bool) (b8:Nat) (n12:Int) (τ5:AHeap):Prop :=
 If c6 (
 Q (.ret (.int .i64 0)) τ5) (
 om (L b8 0 τ5) fun v10 =>
 om (AE 1 v10 (.int .i64 n12)) fun v14 =>
 A2 .u8 (AF false 1 v14 τ5) fun n15 =>
 Bi (FC (n15)) fun n16 =>
 Q (.ret (.int .i64 n16)) τ5)
def P2 (E:BP) (Q:RK) (x0:Nat) (x1:Int) (σ:AHeap):Prop :=
 E DW [(.pointer (some ⟨x0,0,none⟩))] σ (cB Q fun c4 τ3 =>
 If (!c4) (
 (F7 E Q true x0 x1 τ3)) (
 If (decide (x1<0)) (
 (F7 E Q true x0 x1 τ3)) (
 om (L x0 0 τ3) fun v17 =>
 A2 .i64 (BH v17) fun n18 =>
 (F7 E Q (decide (n18≤x1)) x0 x1 τ3))))
theorem aY {Q:RK} {x0:Nat} {x1:Int} {σ:AHeap} (h:P2 E Q x0 x1 σ):E EN [(.pointer (some ⟨x0,0,none⟩)),(.int .i64 x1)] σ Q :=
 B0 Tryz.func22 (fun _=>none) (fun _=>.v) (by kernel_rfl) (Eq.mpr (by kernel_rfl) h)
def QQ (E:BP) (Q:RK) (x0:Nat) (x1:Int) (σ:AHeap):Prop :=
 E DW [(.pointer (some ⟨x0,0,none⟩))] σ (cB Q fun c4 τ3 =>
 If c4 (
 If (decide (0≤x1)) (
 om (L x0 0 τ3) fun v6 =>
 A2 .i64 (BH v6) fun n7 =>
 If (decide (x1<n7)) (
 om (L x0 2 τ3) fun v8 =>
 om (AE 1 v8 (.int .i64 x1)) fun v9 =>
 DF (AF false 1 v9 τ3) fun c10 =>
 Q (.ret (.bool c10)) τ3) (
 Q (.ret (.bool false)) τ3)) (
 Q (.ret (.bool false)) τ3)) (
 Q (.ret (.bool false)) τ3))
theorem Y7 {Q:RK} {x0:Nat} {x1:Int} {σ:AHeap} (h:QQ E Q x0 x1 σ):E KQ [(.pointer (some ⟨x0,0,none⟩)),(.int .i64 x1)] σ Q :=
 B0 Tryz.func21 (fun _=>none) (fun _=>.v) (by kernel_rfl) (Eq.mpr (by kernel_rfl) h)
def PN (E:BP) (Q:RK) (x0:Nat) (σ:AHeap):Prop :=
 E DW [(.pointer (some ⟨x0,0,none⟩))] σ (cB Q fun c4 τ3 =>
 If (!c4) (
 Q (.ret (.int .i64 2)) τ3) (
 E HI [(.pointer (some ⟨x0,0,none⟩))] τ3 (c0 Q fun τ10 =>
 Q (.ret (.int .i64 0)) τ10)))
theorem XY {Q:RK} {x0:Nat} {σ:AHeap} (h:PN E Q x0 σ):E HJ [(.pointer (some ⟨x0,0,none⟩))] σ Q :=
 B0 Tryz.func31 (fun _=>none) (fun _=>.v) (by kernel_rfl) (Eq.mpr (by kernel_rfl) h)
def XM (N1:Int→AHeap→Prop) (E:BP) (Q:RK) (b17:Nat) (n19 n14:Int) (τ20:AHeap):Prop :=
 If (decide (n14<n19)) (
 om (L b17 0 τ20) fun v30 =>
 om (AE 1 v30 (.int .i64 n14)) fun v32 =>
 pu (AP 1 v32 (.bool true) τ20) fun τ33 =>
 om (L b17 2 τ33) fun v36 =>
 BE τ33 (.cells [(.int .i64 n14)] BQ false) fun b38 τ39 =>
 pu (BZ BQ 1 8 v36 (.slice (some ⟨b38,0,none⟩) 1 1) τ39) fun r40 =>
 St b17 2 r40.1 r40.2 fun τ41 =>
 Bi (FC (n14+1)) fun n46 =>
 N1 n46 τ41) (
 E V2 [(.iface DP (.pointer (some ⟨b17,2,none⟩)))] τ20 (c0 Q fun τ50 =>
 Q (.ret (.tuple #[(.pointer (some ⟨b17,0,none⟩)),(.int .i64 0)])) τ50))
def QU (E:BP) (Q:RK) (c4:Bool) (n6:Int) (τ3:AHeap):Prop :=
 If c4 (
 Q (.ret (.tuple #[(.pointer none),(.int .i64 1)])) τ3) (
 pu (PC CQ 1 [(.bool false)] (.int .i64 n6) (.int .i64 n6) τ3) fun r8 =>
 On r8.1 (
 BE r8.2 (.cells [r8.1,(.int .i64 n6),(.slice none 0 0),(.bool true)] E3 false) fun b9 τ10 =>
 ∃ I53:Nat→Int→AHeap→Prop,(∃ m,I53 m 0 τ10)∧∀ m (n14:Int) (σ':AHeap),I53 m n14 σ'→(XM (fun n14 σ'=>∃ m',m'<m∧I53 m' n14 σ') E Q b9 n6 n14 σ')))
def gZ (E:BP) (Q:RK) (x0:Int) (σ:AHeap):Prop :=
 If (decide (x0<0)) (
 (QU E Q true x0 σ)) (
 (QU E Q (decide (1024<x0)) x0 σ))
theorem sH {Q:RK} {x0:Int} {σ:AHeap} (h:gZ E Q x0 σ):E YE [(.int .i64 x0)] σ Q :=
 B0 Tryz.func143 (hl [(2,.loopr [4,17] [18] [4] [4,18])]) (fun | 18=>(.i .i64) | _=>.v) (by kernel_rfl) (Eq.mpr (by kernel_rfl) h)
def PP (E:BP) (Q:RK) (x0:Nat) (σ:AHeap):Prop :=
 DF (L x0 3 σ) fun c3 =>
 Q (.ret (.bool c3)) σ
theorem XX {Q:RK} {x0:Nat} {σ:AHeap} (h:PP E Q x0 σ):E HQ [(.pointer (some ⟨x0,0,none⟩))] σ Q :=
 B0 Tryz.func128 (fun _=>none) (fun _=>.v) (by kernel_rfl) (Eq.mpr (by kernel_rfl) h)
def NC (N1:AHeap→Prop) (E:BP) (Q:RK) (b10:Nat) (τ11:AHeap):Prop :=
 om (L b10 2 τ11) fun v12 =>
 A2 .i64 (BH v12) fun n13 =>
 If (decide (0<n13)) (
 E MM [(.iface DP (.pointer (some ⟨b10,2,none⟩)))] τ11 (cV Q fun v20 τ19 =>
 A2 .i64 (H8 P BQ false v20) fun n21 =>
 om (L b10 0 τ19) fun v24 =>
 om (AE 1 v24 (.int .i64 n21)) fun v26 =>
 DF (AF false 1 v26 τ19) fun c27 =>
 If c27 (
 om (L b10 0 τ19) fun v31 =>
 om (AE 1 v31 (.int .i64 n21)) fun v33 =>
 pu (AP 1 v33 (.bool false) τ19) fun τ34 =>
 A2 .i64 (L b10 1 τ34) fun n37 =>
 Bi (FC (n37 - 1)) fun n38 =>
 St b10 1 (.int .i64 n38) τ34 fun τ39 =>
 Q (.ret (.tuple #[(.int .i64 n21),(.int .i64 0)])) τ39) (
 N1 τ19))) (
 Q (.ret (.tuple #[(.int .i64 0),(.int .i64 8)])) τ11)
def PX (E:BP) (Q:RK) (x0:Nat) (σ:AHeap):Prop :=
 E HQ [(.pointer (some ⟨x0,0,none⟩))] σ (cB Q fun c4 τ3 =>
 If (!c4) (
 Q (.ret (.tuple #[(.int .i64 0),(.int .i64 2)])) τ3) (
 ∃ I44:Nat→AHeap→Prop,(∃ m,I44 m τ3)∧∀ m (σ':AHeap),I44 m  σ'→(NC (fun  σ'=>∃ m',m'<m∧I44 m'  σ') E Q x0  σ')))
theorem Z9 {Q:RK} {x0:Nat} {σ:AHeap} (h:PX E Q x0 σ):E LF [(.pointer (some ⟨x0,0,none⟩))] σ Q :=
 B0 Tryz.func71 (hl [(2,.loopr [0] [] [2,3] [2,3])]) (fun _=>.v) (by kernel_rfl) (Eq.mpr (by kernel_rfl) h)
def IZ (E:BP) (Q:RK) (c10:Bool) (v14:Value) (b17:Nat) (n19:Int) (τ9:AHeap):Prop :=
 If c10 (
 Q (.ret (.int .i64 1)) τ9) (
 wF v14 fun g23 a24 c25 =>
 E g23 (a24++[(.pointer (some ⟨b17,0,none⟩)),(.int .i64 n19)]++c25) τ9 (cI Q .i64 fun n22 τ21 =>
 Q (.ret (.int .i64 n22)) τ21))
def QC (E:BP) (Q:RK) (x0:Nat) (x1:Int) (x2:Value) (σ:AHeap):Prop :=
 E HQ [(.pointer (some ⟨x0,0,none⟩))] σ (cB Q fun c4 τ3 =>
 If (!c4) (
 Q (.ret (.int .i64 2)) τ3) (
 If (decide (x1<0)) (
 (IZ E Q true x2 x0 x1 τ3)) (
 om (L x0 0 τ3) fun v26 =>
 A2 .i64 (BH v26) fun n27 =>
 (IZ E Q (decide (n27≤x1)) x2 x0 x1 τ3))))
theorem Y6 {Q:RK} {x0:Nat} {x1:Int} {x2:Value} {σ:AHeap} (h:QC E Q x0 x1 x2 σ):E IC [(.pointer (some ⟨x0,0,none⟩)),(.int .i64 x1),x2] σ Q :=
 B0 Tryz.func174 (fun _=>none) (fun _=>.v) (by kernel_rfl) (Eq.mpr (by kernel_rfl) h)
def O3 (E:BP) (Q:RK) (x0:Nat) (x1:Int) (σ:AHeap):Prop :=
 om (L x0 0 σ) fun v3 =>
 om (AE 1 v3 (.int .i64 x1)) fun v5 =>
 DF (AF false 1 v5 σ) fun c6 =>
 If (!c6) (
 Q (.ret (.int .i64 6)) σ) (
 om (L x0 0 σ) fun v12 =>
 om (AE 1 v12 (.int .i64 x1)) fun v15 =>
 pu (AP 1 v15 (.bool false) σ) fun τ16 =>
 A2 .i64 (L x0 1 τ16) fun n19 =>
 Bi (FC (n19 - 1)) fun n20 =>
 St x0 1 (.int .i64 n20) τ16 fun τ21 =>
 Q (.ret (.int .i64 0)) τ21)
theorem YL {Q:RK} {x0:Nat} {x1:Int} {σ:AHeap} (h:O3 E Q x0 x1 σ):E PF [(.pointer (some ⟨x0,0,none⟩)),(.int .i64 x1)] σ Q :=
 B0 Tryz.func177 (fun _=>none) (fun _=>.v) (by kernel_rfl) (Eq.mpr (by kernel_rfl) h)
def GE (E:BP) (Q:RK) (τ34:AHeap):Prop :=
 Q (.ret (.int .i64 0)) τ34
def P9 (E:BP) (Q:RK) (x0:Nat) (x1:Int) (σ:AHeap):Prop :=
 om (L x0 0 σ) fun v3 =>
 om (AE 1 v3 (.int .i64 x1)) fun v5 =>
 DF (AF false 1 v5 σ) fun c6 =>
 If c6 (
 Q (.ret (.int .i64 7)) σ) (
 om (L x0 0 σ) fun v12 =>
 om (AE 1 v12 (.int .i64 x1)) fun v15 =>
 pu (AP 1 v15 (.bool true) σ) fun τ16 =>
 A2 .i64 (L x0 1 τ16) fun n19 =>
 Bi (FC (n19+1)) fun n20 =>
 St x0 1 (.int .i64 n20) τ16 fun τ21 =>
 om (L x0 2 τ21) fun v24 =>
 E DO [v24,(.int .i64 x1)] τ21 (cB Q fun c28 τ27 =>
 If (!c28) (
 E KB [(.iface DP (.pointer (some ⟨x0,2,none⟩))),(.iface BQ (.int .i64 x1))] τ27 (c0 Q fun τ33 =>
 (GE E Q τ33))) (
 (GE E Q τ27))))
theorem Z2 {Q:RK} {x0:Nat} {x1:Int} {σ:AHeap} (h:P9 E Q x0 x1 σ):E QR [(.pointer (some ⟨x0,0,none⟩)),(.int .i64 x1)] σ Q :=
 B0 Tryz.func175 (fun _=>none) (fun _=>.v) (by kernel_rfl) (Eq.mpr (by kernel_rfl) h)
def O4 (E:BP) (Q:RK) (x0:Nat) (x1:Int) (σ:AHeap):Prop :=
 E IC [(.pointer (some ⟨x0,0,none⟩)),(.int .i64 x1),(.func (.func PF) #[] #[])] σ (cI Q .i64 fun n5 τ4 =>
 Q (.ret (.int .i64 n5)) τ4)
theorem X7 {Q:RK} {x0:Nat} {x1:Int} {σ:AHeap} (h:O4 E Q x0 x1 σ):E J1 [(.pointer (some ⟨x0,0,none⟩)),(.int .i64 x1)] σ Q :=
 B0 Tryz.func144 (fun _=>none) (fun _=>.v) (by kernel_rfl) (Eq.mpr (by kernel_rfl) h)
def PW (E:BP) (Q:RK) (x0:Nat) (x1:Int) (σ:AHeap):Prop :=
 E IC [(.pointer (some ⟨x0,0,none⟩)),(.int .i64 x1),(.func (.func QR) #[] #[])] σ (cI Q .i64 fun n5 τ4 =>
 Q (.ret (.int .i64 n5)) τ4)
theorem aA {Q:RK} {x0:Nat} {x1:Int} {σ:AHeap} (h:PW E Q x0 x1 σ):E K6 [(.pointer (some ⟨x0,0,none⟩)),(.int .i64 x1)] σ Q :=
 B0 Tryz.func142 (fun _=>none) (fun _=>.v) (by kernel_rfl) (Eq.mpr (by kernel_rfl) h)
def SK (E:BP) (Q:RK) (x0:Value) (σ:AHeap):Prop :=
 A2 .i64 (BH x0) fun n3 =>
 Q (.ret (.int .i64 n3)) σ
theorem cF {Q:RK} {x0:Value} {σ:AHeap} (h:SK E Q x0 σ):E MA [x0] σ Q :=
 B0 Tryz.func217 (fun _=>none) (fun _=>.v) (by kernel_rfl) (Eq.mpr (by kernel_rfl) h)
def QG (E:BP) (Q:RK) (x0:Value) (x1 x2:Int) (σ:AHeap):Prop :=
 om (AE 1 x0 (.int .i64 x1)) fun v4 =>
 A2 .i64 (AF false 1 v4 σ) fun n5 =>
 om (AE 1 x0 (.int .i64 x2)) fun v7 =>
 A2 .i64 (AF false 1 v7 σ) fun n8 =>
 Q (.ret (.bool (decide (n5<n8)))) σ
theorem aK {Q:RK} {x0:Value} {x1 x2:Int} {σ:AHeap} (h:QG E Q x0 x1 x2 σ):E LK [x0,(.int .i64 x1),(.int .i64 x2)] σ Q :=
 B0 Tryz.func218 (hl [(0,.ord (il 0 10))]) (fun _=>.v) (by kernel_rfl) (Eq.mpr (by kernel_rfl) h)
def QP (E:BP) (Q:RK) (x0:Value) (x1 x2:Int) (σ:AHeap):Prop :=
 om (AE 1 x0 (.int .i64 x2)) fun v1 =>
 A2 .i64 (AF false 1 v1 σ) fun n2 =>
 om (AE 1 x0 (.int .i64 x1)) fun v3 =>
 A2 .i64 (AF false 1 v3 σ) fun n4 =>
 om (AE 1 x0 (.int .i64 x1)) fun v5 =>
 pu (AP 1 v5 (.int .i64 n2) σ) fun τ6 =>
 om (AE 1 x0 (.int .i64 x2)) fun v7 =>
 pu (AP 1 v7 (.int .i64 n4) τ6) fun τ8 =>
 Q (.ret (.tuple #[])) τ8
theorem ZO {Q:RK} {x0:Value} {x1 x2:Int} {σ:AHeap} (h:QP E Q x0 x1 x2 σ):E K3 [x0,(.int .i64 x1),(.int .i64 x2)] σ Q :=
 B0 Tryz.func219 (hl [(0,.ord (il 0 16))]) (fun _=>.v) (by kernel_rfl) (Eq.mpr (by kernel_rfl) h)
def QA (E:BP) (Q:RK) (x0 o0:Nat) (x1:Value) (σ:AHeap):Prop :=
 om (L x0 o0 σ) fun v1 =>
 A2 .i64 (H8 P BQ false x1) fun n2 =>
 BE σ (.cells [(.int .i64 n2)] BQ false) fun b3 τ4 =>
 om (L x0 o0 τ4) fun v5 =>
 AX v5 v1=true∧pu (BZ BQ 1 8 v1 (.slice (some ⟨b3,0,none⟩) 1 1) τ4) fun r6 =>
 St x0 o0 r6.1 r6.2 fun τ7 =>
 Q (.ret (.tuple #[])) τ7
theorem ZS {Q:RK} {x0 o0:Nat} {x1:Value} {σ:AHeap} (h:QA E Q x0 o0 x1 σ):E KU [(.pointer (some ⟨x0,o0,none⟩)),x1] σ Q :=
 B0 Tryz.func221 (hl [(0,.ord (il 0 6++[(6,[3]),(7,[]),(8,[]),(9,[])]))]) (fun _=>.v) (by kernel_rfl) (Eq.mpr (by kernel_rfl) h)
def SC (E:BP) (Q:RK) (x0 o0:Nat) (σ:AHeap):Prop :=
 om (L x0 o0 σ) fun v4 =>
 A2 .i64 (BH v4) fun n5 =>
 Bi (FC (n5 - 1)) fun n6 =>
 om (L x0 o0 σ) fun v10 =>
 om (AE 1 v10 (.int .i64 n6)) fun v12 =>
 A2 .i64 (AF false 1 v12 σ) fun n13 =>
 om (L x0 o0 σ) fun v17 =>
 om (A7 1 v17 none (some (.int .i64 n6)) none) fun v19 =>
 St x0 o0 v19 σ fun τ20 =>
 Q (.ret (.iface BQ (.int .i64 n13))) τ20
theorem bC {Q:RK} {x0 o0:Nat} {σ:AHeap} (h:SC E Q x0 o0 σ):E LT [(.pointer (some ⟨x0,o0,none⟩))] σ Q :=
 B0 Tryz.func220 (fun _=>none) (fun _=>.v) (by kernel_rfl) (Eq.mpr (by kernel_rfl) h)
def U6 (N1:Int→AHeap→Prop) (E:BP) (Q:RK) (v11:Value) (n13 n8:Int) (τ14:AHeap):Prop :=
 If (decide (0≤n8)) (
 E HD [v11,(.int .i64 n8),(.int .i64 n13)] τ14 (cB Q fun c25 τ24 =>
 Bi (FC (n8 - 1)) fun n28 =>
 N1 n28 τ24)) (
 Q (.ret (.tuple #[])) τ14)
def d9 (E:BP) (Q:RK) (x0:Value) (σ:AHeap):Prop :=
 pu (BX P x0 "Len" σ) fun r31 =>
 E r31.1 (r31.2::[]) σ (cI Q .i64 fun n2 τ1 =>
 Bi (FC (Int.tdiv n2 2)) fun n5 =>
 Bi (FC (n5 - 1)) fun n6 =>
 ∃ I29:Nat→Int→AHeap→Prop,(∃ m,I29 m n6 τ1)∧∀ m (n8:Int) (σ':AHeap),I29 m n8 σ'→(U6 (fun n8 σ'=>∃ m',m'<m∧I29 m' n8 σ') E Q x0 n2 n8 σ'))
theorem qM {Q:RK} {x0:Value} {σ:AHeap} (h:d9 E Q x0 σ):E V2 [x0] σ Q :=
 B0 Tryz.func176 (hl [(1,.loopr [0,2] [3] [] [3])]) (fun | 3=>(.i .i64) | _=>.v) (by kernel_rfl) (Eq.mpr (by kernel_rfl) h)
def fK (E:BP) (Q:RK) (x0:Value) (σ:AHeap):Prop :=
 pu (BX P x0 "Len" σ) fun r21 =>
 E r21.1 (r21.2::[]) σ (cI Q .i64 fun n4 τ3 =>
 Bi (FC (n4 - 1)) fun n5 =>
 pu (BX P x0 "Swap" τ3) fun r20 =>
 E r20.1 (r20.2::[(.int .i64 0),(.int .i64 n5)]) τ3 (c0 Q fun τ9 =>
 E HD [x0,(.int .i64 0),(.int .i64 n5)] τ9 (cB Q fun c14 τ13 =>
 pu (BX P x0 "Pop" τ13) fun r19 =>
 E r19.1 (r19.2::[]) τ13 (cV Q fun v18 τ17 =>
 Q (.ret v18) τ17))))
theorem tL {Q:RK} {x0:Value} {σ:AHeap} (h:fK E Q x0 σ):E MM [x0] σ Q :=
 B0 Tryz.func129 (fun _=>none) (fun _=>.v) (by kernel_rfl) (Eq.mpr (by kernel_rfl) h)
def dV (E:BP) (Q:RK) (x0 x1:Value) (σ:AHeap):Prop :=
 pu (BX P x0 "Push" σ) fun r9 =>
 E r9.1 (r9.2::[x1]) σ (c0 Q fun τ1 =>
 pu (BX P x0 "Len" τ1) fun r8 =>
 E r8.1 (r8.2::[]) τ1 (cI Q .i64 fun n5 τ4 =>
 Bi (FC (n5 - 1)) fun n6 =>
 E LZ [x0,(.int .i64 n6)] τ4 (c0 Q fun τ7 =>
 Q (.ret (.tuple #[])) τ7)))
theorem pK {Q:RK} {x0 x1:Value} {σ:AHeap} (h:dV E Q x0 x1 σ):E KB [x0,x1] σ Q :=
 B0 Tryz.func160 (fun _=>none) (fun _=>.v) (by kernel_rfl) (Eq.mpr (by kernel_rfl) h)
def K5 (E:BP) (Q:RK) (n26 n27:Int) (τ25:AHeap):Prop :=
 Q (.ret (.bool (decide (n27<n26)))) τ25
def JW (N1:Int→AHeap→Prop) (E:BP) (Q:RK) (v53:Value) (n54 n59 n68:Int) (τ51:AHeap):Prop :=
 pu (BX P v53 "Less" τ51) fun r83 =>
 E r83.1 (r83.2::[(.int .i64 n54),(.int .i64 n59)]) τ51 (cB Q fun c61 τ60 =>
 If (!c61) (
 (K5 E Q n59 n68 τ60)) (
 pu (BX P v53 "Swap" τ60) fun r82 =>
 E r82.1 (r82.2::[(.int .i64 n59),(.int .i64 n54)]) τ60 (c0 Q fun τ77 =>
 N1 n54 τ77)))
def K8 (N1:Int→AHeap→Prop) (E:BP) (Q:RK) (c49:Bool) (n50:Int) (v52:Value) (n58 n67 n86:Int) (τ48:AHeap):Prop :=
 If c49 (
 (JW N1 E Q v52 n50 n58 n67 τ48)) (
 (JW N1 E Q v52 n86 n58 n67 τ48))
def K2 (N1:Int→AHeap→Prop) (E:BP) (Q:RK) (c20:Bool) (n22 n24 n29 n36:Int) (v41:Value) (τ19:AHeap):Prop :=
 If c20 (
 (K5 E Q n24 n22 τ19)) (
 Bi (FC (n29+1)) fun n33 =>
 If (decide (n33<n36)) (
 pu (BX P v41 "Less" τ19) fun r87 =>
 E r87.1 (r87.2::[(.int .i64 n33),(.int .i64 n29)]) τ19 (cB Q fun c47 τ46 =>
 (K8 N1 E Q c47 n33 v41 n24 n22 n29 τ46))) (
 (K8 N1 E Q false n33 v41 n24 n22 n29 τ19)))
def UZ (N1:Int→AHeap→Prop) (E:BP) (Q:RK) (v7:Value) (n9 n12 n4:Int) (τ13:AHeap):Prop :=
 Bi (FC (2*n4)) fun n14 =>
 Bi (FC (n14+1)) fun n15 =>
 If (decide (n12≤n15)) (
 (K2 N1 E Q true n9 n4 n15 n12 v7 τ13)) (
 (K2 N1 E Q (decide (n15<0)) n9 n4 n15 n12 v7 τ13))
def dS (E:BP) (Q:RK) (x0:Value) (x1 x2:Int) (σ:AHeap):Prop :=
 ∃ I88:Nat→Int→AHeap→Prop,(∃ m,I88 m x1 σ)∧∀ m (n4:Int) (σ':AHeap),I88 m n4 σ'→(UZ (fun n4 σ'=>∃ m',m'<m∧I88 m' n4 σ') E Q x0 x1 x2 n4 σ')
theorem pN {Q:RK} {x0:Value} {x1 x2:Int} {σ:AHeap} (h:dS E Q x0 x1 x2 σ):E HD [x0,(.int .i64 x1),(.int .i64 x2)] σ Q :=
 B0 Tryz.func165 (hl [(1,.loopr [0,1,2] [7] [1,7] [1,7])]) (fun | 7=>(.i .i64) | _=>.v) (by kernel_rfl) (Eq.mpr (by kernel_rfl) h)
def OL (N1:Int→AHeap→Prop) (E:BP) (Q:RK) (c10:Bool) (n11:Int) (v14:Value) (n16:Int) (τ9:AHeap):Prop :=
 If c10 (
 Q (.ret (.tuple #[])) τ9) (
 pu (BX P v14 "Swap" τ9) fun r22 =>
 E r22.1 (r22.2::[(.int .i64 n16),(.int .i64 n11)]) τ9 (c0 Q fun τ19 =>
 N1 n16 τ19))
def ZZ (N1:Int→AHeap→Prop) (E:BP) (Q:RK) (v2:Value) (n1:Int) (τ3:AHeap):Prop :=
 Bi (FC (n1 - 1)) fun n4 =>
 Bi (FC (Int.tdiv n4 2)) fun n5 =>
 If (decide (n5=n1)) (
 (OL N1 E Q true n1 v2 n5 τ3)) (
 pu (BX P v2 "Less" τ3) fun r25 =>
 E r25.1 (r25.2::[(.int .i64 n1),(.int .i64 n5)]) τ3 (cB Q fun c24 τ23 =>
 (OL N1 E Q (!c24) n1 v2 n5 τ23)))
def k9 (E:BP) (Q:RK) (x0:Value) (x1:Int) (σ:AHeap):Prop :=
 ∃ I26:Nat→Int→AHeap→Prop,(∃ m,I26 m x1 σ)∧∀ m (n1:Int) (σ':AHeap),I26 m n1 σ'→(ZZ (fun n1 σ'=>∃ m',m'<m∧I26 m' n1 σ') E Q x0 n1 σ')
theorem zI {Q:RK} {x0:Value} {x1:Int} {σ:AHeap} (h:k9 E Q x0 x1 σ):E LZ [x0,(.int .i64 x1)] σ Q :=
 B0 Tryz.func186 (hl [(1,.loopr [0] [1] [] [1])]) (fun | 1=>(.i .i64) | _=>.v) (by kernel_rfl) (Eq.mpr (by kernel_rfl) h)
def F8 (E:BP) (Q:RK) (x0:Value) (x1:Int) (σ:AHeap):Prop :=
 E HE [x0,(.int .i64 x1)] σ (cI Q .i64 fun n5 τ4 =>
 Q (.ret (.bool (decide (0≤n5)))) τ4)
theorem KW {Q:RK} {x0:Value} {x1:Int} {σ:AHeap} (h:F8 E Q x0 x1 σ):E DO [x0,(.int .i64 x1)] σ Q :=
 B0 Tryz.func189 (fun _=>none) (fun _=>.v) (by kernel_rfl) (Eq.mpr (by kernel_rfl) h)
def F4 (N1:Int→AHeap→Prop) (E:BP) (Q:RK) (v7:Value) (n10 n12 n5:Int) (τ13:AHeap):Prop :=
 If (decide (n5<n12)) (
 om (AE 1 v7 (.int .i64 n5)) fun v27 =>
 A2 .i64 (AF false 1 v27 τ13) fun n28 =>
 If (decide (n10=n28)) (
 Q (.ret (.int .i64 n5)) τ13) (
 Bi (FC (n5+1)) fun n36 =>
 N1 n36 τ13)) (
 Q (.ret (.int .i64 ((-1)))) τ13)
def HB (E:BP) (Q:RK) (x0:Value) (x1:Int) (σ:AHeap):Prop :=
 A2 .i64 (BH x0) fun n3 =>
 ∃ I38:Nat→Int→AHeap→Prop,(∃ m,I38 m 0 σ)∧∀ m (n5:Int) (σ':AHeap),I38 m n5 σ'→(F4 (fun n5 σ'=>∃ m',m'<m∧I38 m' n5 σ') E Q x0 x1 n3 n5 σ')
theorem NT {Q:RK} {x0:Value} {x1:Int} {σ:AHeap} (h:HB E Q x0 x1 σ):E HE [x0,(.int .i64 x1)] σ Q :=
 B0 Tryz.func193 (hl [(1,.loopr [0,1,7] [8] [4] [4,8])]) (fun | 8=>(.i .i64) | _=>.v) (by kernel_rfl) (Eq.mpr (by kernel_rfl) h)
end Go.Ax.C
set_option maxRecDepth 100000
namespace Go.Ax.C
open Go.Proofs Go.RowKit
variable {l r m:List AK} {σ:AHeap} {Q:RK}
def nv (xs:List Nat):List Value:=xs.map fun n=>.int .i64 (n:Nat)
@[simp] theorem AGo (xs:List Nat):(nv xs).length=xs.length:=by simp [nv]
theorem AEX (xs:List Nat) (i:Nat):(nv xs)[i]?=xs[i]?.map fun n=>.int .i64 (n:Nat):=by simp [nv]
theorem AD5 (xs:List Nat) (i n:Nat):nv (xs.set i n)=(nv xs).set i (.int .i64 (n:Nat)):=by simp [nv,List.map_set]
theorem nel {e:Nat} {v:Value} {xs:List Nat} {i x:Nat} (h:H (AU e 1 v xs.length (nv xs)::l) σ) (hi:xs[i]?=some x) :
 ∃ b c,v=.slice (some ⟨b,0,none⟩) xs.length c∧(∀ kd,AE 1 v (.int kd (i:Nat))=some (.pointer (some ⟨b,i,none⟩)))∧AF false 1 (.pointer (some ⟨b,i,none⟩)) σ=some (.int .i64 x):=by
 have hlt:=(List.getElem?_eq_some_iff.1 hi).1
 rcases FT.1 h with ⟨⟨h0,_⟩,_⟩ | ⟨b,c,opn,rest,h1,h2,h3,rfl,h4,h5⟩
 ·omega
 ·refine ⟨b,c,rfl,fun kd=>by rw [S6 (by omega)]; simp,?_⟩
  rw [BO (h1.row 0 rfl),List.getElem?_append_left (by simpa using hlt),AEX,hi]; rfl
theorem ABP {hv:Value} {xs:List Nat} {i j x y:Nat} (h:H (AU BQ 1 hv xs.length (nv xs)::l) σ) (hi:xs[i]?=some x) (hj:xs[j]?=some y) (hQ:Q (.ret (.bool (decide (x<y)))) σ):E LK [hv,.int .i64 i,.int .i64 j] σ Q:=by
 apply aK; unfold QG
 obtain ⟨b,c,hvv,ia,la⟩:=nel h hi
 obtain ⟨b2,c2,hvv2,ib,lb⟩:=nel h hj
 rw [ia,AD,la,AH,ib,AD,lb,AH]
 have e:decide ((x:Int)<(y:Int))=decide (x<y):=by by_cases g:x<y<;>simp [g]
 rw [e]; exact hQ
theorem AFw {e:Nat} {v:Value} {xs:List Nat} {i y:Nat} {K:AHeap→Prop} (h:H (AU e 1 v xs.length (nv xs)::l) σ) (hi:i<xs.length) (hK:∀ σ',H (AU e 1 v (xs.set i y).length (nv (xs.set i y))::l) σ'→K σ') :
 om (AE 1 v (.int .i64 (i:Nat))) fun p=>pu (AP 1 p (.int .i64 (y:Nat)) σ) K:=by
 obtain ⟨b,c,rfl,ia,_⟩:=nel h (List.getElem?_eq_getElem hi)
 rw [ia,AD]
 refine KA h 0 rfl (by omega) rfl (by simpa using hi) ?_
 intro σ' h'
 rw [List.set_cons_zero,← AD5] at h'
 refine hK σ' ?_
 rw [List.length_set]; exact h'
theorem ABk {hv:Value} {xs:List Nat} {i j:Nat} (h:H (AU BQ 1 hv xs.length (nv xs)::l) σ) (hi:i<xs.length) (hj:j<xs.length)
 (hQ:∀ σ',H (AU BQ 1 hv xs.length (nv (jF xs i j))::l) σ'→Q (.ret (.tuple #[])) σ'):E K3 [hv,.int .i64 i,.int .i64 j] σ Q:=by
 apply ZO; unfold QP
 obtain ⟨b,c,hvv,ia,la⟩:=nel h (List.getElem?_eq_getElem hi)
 obtain ⟨b2,c2,hvv2,ib,lb⟩:=nel h (List.getElem?_eq_getElem hj)
 rw [ib,AD,lb,AH,ia,AD,la,AH,← ia .i64,← ib .i64]
 refine AFw h hi ?_
 intro σ1 h1
 refine AFw h1 (by simpa using hj) ?_
 intro σ2 h2
 refine hQ σ2 ?_
 rw [sG hi hj]
 simpa using h2
theorem tN (v:Value) (σ:AHeap):BX P (.iface DP v) "Len" σ=(AF false 1 v σ).bind fun u=>some (MA,u):=by kernel_rfl
theorem m5 (v:Value) (σ:AHeap):BX P (.iface DP v) "Less" σ=(AF false 1 v σ).bind fun u=>some (LK,u):=by kernel_rfl
theorem mC (v:Value) (σ:AHeap):BX P (.iface DP v) "Swap" σ=(AF false 1 v σ).bind fun u=>some (K3,u):=by kernel_rfl
theorem ADy (v:Value) (σ:AHeap):BX P (.iface DP v) "Pop" σ=some (LT,v):=by kernel_rfl
theorem AB5 (v:Value) (σ:AHeap):BX P (.iface DP v) "Push" σ=some (KU,v):=by kernel_rfl
abbrev UX (sb:Nat) (isv cnt hv q:Value) (xs:List Nat) (l:List AK):List AK:=pt sb (.cells [isv,cnt,hv,q] E3 false)::AU BQ 1 hv xs.length (nv xs)::l
theorem IB {e z:Nat} {v:Value} {n:Nat} {xs:List Value} (h:H (AU e z v n xs::l) σ):BH v=some (.int .i64 n):=by
 obtain ⟨_,_,a,c,rfl⟩:=h.own_src 0 rfl; rfl
theorem AEZ {hv:Value} {n:Nat} (h:BH hv=some (.int .i64 n)) (hQ:Q (.ret (.int .i64 n)) σ):E MA [hv] σ Q:=by
 apply cF; unfold SK
 rw [h,AH]; exact hQ
end Go.Ax.C
set_option maxRecDepth 100000
namespace Go.Ax.C
open Go.Proofs Go.RowKit
variable {l r m:List AK} {σ:AHeap} {Q:RK}
abbrev sD (R:List Nat) (k:Nat):Nat:=Ky (id:Nat→Nat) R k
theorem FY {R:List Nat} {k x:Nat} (h:R[k]?=some x):Ky (id:Nat→Nat) R k=x:=by unfold Ky; rw [h]; rfl
def yC (sb:Nat):Value:=.iface DP (.pointer (some ⟨sb,2,none⟩))
theorem OM {sb:Nat} {isv cnt hv q:Value} {xs:List Nat} (h:H (UX sb isv cnt hv q xs l) σ):AF false 1 (.pointer (some ⟨sb,2,none⟩)) σ=some hv:=by
 rw [BO (h.row 0 rfl)]; rfl
theorem ADK {sb n i0:Nat} {isv cnt hv q:Value} {R0:List Nat} (h:H (UX sb isv cnt hv q R0 l) σ) (hn:n≤R0.length) (hb:R0.length<1099511627776) (hi0:i0≤n) (hex:LH (id:Nat→Nat) R0 n i0)
 (hk:∀ (R':List Nat) (b:Bool) σ',R'.Perm R0→C0 (id:Nat→Nat) R' n→(∀ k,n≤k→R'[k]?=R0[k]?)→H (UX sb isv cnt hv q R' l) σ'→Q (.ret (.bool b)) σ') :
 E HD [yC sb,.int .i64 i0,.int .i64 n] σ Q:=by
 apply pN; unfold dS
 refine ⟨fun m i τ=>∃ (R:List Nat) (k:Nat),i=k∧m=n - k∧k≤n∧R.Perm R0∧LH (id:Nat→Nat) R n k∧(∀ t,n≤t→R[t]?=R0[t]?)∧H (UX sb isv cnt hv q R l) τ,
  ⟨_,R0,i0,rfl,rfl,hi0,List.Perm.refl _,hex,fun _ _=>rfl,h⟩,?_⟩
 clear h hex
 rintro m _ τ ⟨R,i,rfl,rfl,hin,hp,hex,htl,h⟩
 have hRl:=hp.length_eq
 have k5:(∀ k,0<k→k<n→(k - 1) / 2=i→Ky (id:Nat→Nat) R i≤Ky (id:Nat→Nat) R k)→∀ τ',H (UX sb isv cnt hv q R l) τ'→K5 E Q i i0 τ':=by
  intro hmin τ' h'
  unfold K5
  exact hk R _ τ' hp (hex.done hmin) htl h'
 unfold UZ
 refine E1 (2*(i:Int)) (by omega) ?_
 refine E1 ((2*i+1:Nat):Int) (by omega) ?_
 refine AS (fun g=>?_) fun g=>?_
 ·unfold K2
  refine G8 rfl ?_
  exact k5 (fun k h0 hk2 hp2=>by omega) τ h
 ·have hlt:decide (((2*i+1:Nat):Int)<0)=false:=decide_eq_false (by omega)
  rw [hlt]
  unfold K2
  refine B7 rfl ?_
  refine E1 ((2*i+2:Nat):Int) (by omega) ?_
  have hj1:2*i+1<n:=by omega
  have x1:=List.getElem?_eq_getElem (show 2*i+1<R.length by omega)
  have xi:=List.getElem?_eq_getElem (show i<R.length by omega)
  -- with the XL child
  have k10:∀ j,j<n→(j - 1) / 2=i→0<j→(∀ k,0<k→k<n→(k - 1) / 2=i→Ky (id:Nat→Nat) R j≤Ky (id:Nat→Nat) R k)→JW (fun n4 σ'=>∃ m',m'<n - i∧∃ (R:List Nat) (k:Nat),n4=k∧m'=n - k∧k≤n∧R.Perm R0∧LH (id:Nat→Nat) R n k∧(∀ t,n≤t→R[t]?=R0[t]?)∧H (UX sb isv cnt hv q R l) σ') E Q (yC sb) j i i0 τ:=by
   intro j hjn hpj hj0 hmin
   have xj:=List.getElem?_eq_getElem (show j<R.length by omega)
   unfold JW
   unfold yC
   rw [m5,OM h,Option.bind_some,A5]
   have h':=h.perm (.swap _ _ _)
   refine ABP h' xj xi ?_
   rw [GY]
   by_cases hl:R[j]<R[i]
   ·rw [decide_eq_true hl]
    refine B7 rfl ?_
    rw [mC,OM h,Option.bind_some,A5]
    refine ABk h' (by omega) (by omega) ?_
    intro τ1 h1
    rw [CD]
    refine ⟨n - j,by omega,jF R i j,j,rfl,rfl,by omega,(UR R (by omega) (by omega)).trans hp,hex.step (by omega) hjn hpj hj0 hmin (by rw [FY xj,FY xi]; exact hl),fun k hk2=>?_,?_⟩
    ·rw [QD (by omega) (by omega),if_neg (by omega),if_neg (by omega)]
     exact htl k hk2
    ·have:=h1.perm (.swap _ _ _)
     rw [← J3 R i j] at this
     exact this
   ·rw [decide_eq_false hl]
    refine G8 rfl ?_
    refine k5 (fun k h0 hk2 hp2=>?_) τ h
    have:=hmin k h0 hk2 hp2
    rw [FY xj] at this
    rw [FY xi]; omega
  refine AS (fun h2=>?_) (fun h2=>?_)
  ·have h2:2*i+2<n:=by omega
   have x2:=List.getElem?_eq_getElem (show 2*i+2<R.length by omega)
   show pu (BX P (yC sb) "Less" τ) _
   unfold yC
   rw [m5,OM h,Option.bind_some,A5]
   refine ABP (h.perm (.swap _ _ _)) x2 x1 ?_
   rw [GY]
   unfold K8
   refine AS (fun g2=>?_) fun g2=>?_
   ·refine k10 (2*i+2) h2 (by omega) (by omega) ?_
    intro k h0 hk2 hp2
    rcases (show k=2*i+1∨k=2*i+2 by omega) with rfl | rfl
    ·rw [FY x1,FY x2]; omega
    ·exact Nat.le_refl _
   ·refine k10 (2*i+1) hj1 (by omega) (by omega) ?_
    intro k h0 hk2 hp2
    rcases (show k=2*i+1∨k=2*i+2 by omega) with rfl | rfl
    ·exact Nat.le_refl _
    ·rw [FY x1,FY x2]; omega
  ·unfold K8
   refine B7 rfl ?_
   refine k10 (2*i+1) hj1 (by omega) (by omega) ?_
   intro k h0 hk2 hp2
   have:k=2*i+1:=by omega
   rw [this]; exact Nat.le_refl _
end Go.Ax.C
set_option maxRecDepth 100000
namespace Go.Ax.C
open Go.Proofs Go.RowKit
variable {l r m:List AK} {σ:AHeap} {Q:RK}
def YX (R:List Nat) (n j:Nat):Prop:=(∀ k,0<k→k<n→k≠j→sD R ((k - 1) / 2)≤sD R k)∧(∀ k,0<k→k<n→(k - 1) / 2=j→0<j→sD R ((j - 1) / 2)≤sD R k)
theorem YX.step {R:List Nat} {n j:Nat} (h:YX R n j) (hn:n≤R.length) (hj:j<n) (hj0:0<j) (hlt:sD R j<sD R ((j - 1) / 2)):YX (jF R ((j - 1) / 2) j) n ((j - 1) / 2):=by
 obtain ⟨h1,h2⟩:=h
 have hij:(j - 1) / 2<j:=by omega
 have hK:∀ k,sD (jF R ((j - 1) / 2) j) k=if k=j then sD R ((j - 1) / 2) else if k=(j - 1) / 2 then sD R j else sD R k:=fun k=>YO (by omega) (by omega) k
 refine ⟨fun k h0 hk hki=>?_,fun k h0 hk hpk hi0=>?_⟩
 ·rw [hK,hK]
  by_cases e1:k=j
  ·subst e1
   rw [if_neg (by omega),if_pos rfl,if_pos rfl]; omega
  ·by_cases e2:(k - 1) / 2=j
   ·rw [if_pos e2,if_neg e1,if_neg hki]
    exact h2 k h0 hk e2 hj0
   ·rw [if_neg e2,if_neg e1,if_neg hki]
    have:=h1 k h0 hk e1
    split
    ·rename_i e3; rw [e3] at this; omega
    ·exact this
 ·rw [hK,hK]
  have h3:=h1 ((j - 1) / 2) hi0 (by omega) (by omega)
  rw [if_neg (show ¬ ((j - 1) / 2 - 1) / 2=j by omega),if_neg (show ¬ ((j - 1) / 2 - 1) / 2=(j - 1) / 2 by omega)]
  by_cases e1:k=j
  ·rw [if_pos e1]; exact h3
  ·rw [if_neg e1,if_neg (by omega)]
   have:=h1 k h0 hk e1
   rw [hpk] at this
   exact Nat.le_trans h3 this
theorem YX.done {R:List Nat} {n j:Nat} (h:YX R n j) (hd:j=0∨sD R ((j - 1) / 2)≤sD R j):C0 (id:Nat→Nat) R n:=by
 intro k h0 hk
 by_cases e:k=j
 ·subst e
  rcases hd with h | h
  ·omega
  ·exact h
 ·exact h.1 k h0 hk e
theorem VV {sb j0:Nat} {isv cnt hv q:Value} {R0:List Nat} (h:H (UX sb isv cnt hv q R0 l) σ) (hb:R0.length<1099511627776) (hj0:j0<R0.length) (hex:YX R0 R0.length j0)
 (hk:∀ (R':List Nat) σ',R'.Perm R0→C0 (id:Nat→Nat) R' R'.length→H (UX sb isv cnt hv q R' l) σ'→Q (.ret (.tuple #[])) σ') :
 E LZ [yC sb,.int .i64 j0] σ Q:=by
 apply zI; unfold k9
 refine ⟨fun m i τ=>∃ (R:List Nat) (j:Nat),i=j∧m=j∧j<R.length∧R.Perm R0∧YX R R.length j∧H (UX sb isv cnt hv q R l) τ,
  ⟨_,R0,j0,rfl,rfl,hj0,List.Perm.refl _,hex,h⟩,?_⟩
 clear h hex
 rintro m0 _ τ ⟨R,j,rfl,hm0,hj,hp,hex,h⟩
 have hRl:=hp.length_eq
 unfold ZZ
 refine E1 ((j:Int) - 1) (by omega) ?_
 have e1:Int.tdiv ((j:Int) - 1) 2=((j - 1) / 2:Nat):=by
  rcases Nat.eq_zero_or_pos j with rfl | h0
  ·rfl
  ·rw [show (j:Int) - 1=((j - 1:Nat):Int) by omega]; rfl
 refine E1 (((j - 1) / 2:Nat):Int) ⟨e1,by omega⟩ ?_
 have fin:j=0∨sD R ((j - 1) / 2)≤sD R j→∀ τ,H (UX sb isv cnt hv q R l) τ→Q (.ret (.tuple #[])) τ:=fun hd τ ht=>hk R τ hp (hex.done hd) ht
 refine AS (fun g=>?_) fun g=>?_
 ·unfold OL
  exact fin (.inl (by omega)) τ h
 ·have xj:=List.getElem?_eq_getElem hj
  have xi:=List.getElem?_eq_getElem (show (j - 1) / 2<R.length by omega)
  unfold yC
  rw [m5,OM h,Option.bind_some,A5]
  have h':=h.perm (.swap _ _ _)
  refine ABP h' xj xi ?_
  rw [GY]
  unfold OL
  by_cases hl:R[j]<R[(j - 1) / 2]
  ·rw [decide_eq_true hl]
   refine B7 rfl ?_
   rw [mC,OM h,Option.bind_some,A5]
   refine ABk h' (by omega) (by omega) ?_
   intro τ1 h1
   rw [CD]
   have hs:=J3 R ((j - 1) / 2) j
   refine ⟨(j - 1) / 2,by omega,jF R ((j - 1) / 2) j,(j - 1) / 2,rfl,rfl,by omega,(UR R (by omega) (by omega)).trans hp,?_,?_⟩
   ·rw [hs]
    exact hex.step (Nat.le_refl _) hj (by omega) (by unfold sD; rw [FY xj,FY xi]; exact hl)
   ·have:=h1.perm (.swap _ _ _)
    rw [← hs] at this
    exact this
  ·rw [decide_eq_false hl]
   refine G8 rfl ?_
   refine fin (.inr ?_) τ h
   unfold sD; rw [FY xj,FY xi]; omega
theorem ADc (n:Int):H8 P BQ false (.iface BQ (.int .i64 n))=some (.int .i64 n):=by kernel_rfl
theorem AF9 {sb x:Nat} {isv cnt hv q:Value} {R:List Nat} (h:H (UX sb isv cnt hv q R l) σ) (hb:R.length<1099511627776)
 (hk:∀ hv' σ',H (UX sb isv cnt hv' q (R++[x]) l) σ'→Q (.ret (.tuple #[])) σ'):E KU [.pointer (some ⟨sb,2,none⟩),.iface BQ (.int .i64 x)] σ Q:=by
 apply ZS; unfold QA
 obtain ⟨_,_,a,c,rfl⟩:=h.own_src 1 rfl
 rw [LV h,ADc,AH]
 refine nw h ?_
 intro b σ1 h1
 rw [LV h1,LX]
 have ht:D5 1 (.slice (some ⟨b,0,none⟩) 1 1) σ1=some (1,[.int .i64 (x:Nat)]):=by
  rw [FO (h1.row 0 rfl) (by simp)]; rfl
 refine DR h1 2 rfl ht (by omega) (by omega) (by rfl) ?_
 intro w σ2 h2
 have ho:=O.SY h2 (i:=2) rfl
 have h2':H (pt b (.cells [.int .i64 (x:Nat)] BQ false)::pt sb (.cells [isv,cnt,.slice a R.length c,q] E3 false)::AU BQ 1 w (R.length+1) (nv R++[.int .i64 (x:Nat)])::l) σ2:=h2
 refine st h2' ho ?_
 intro σ3 h3
 refine hk w σ3 ?_
 have:nv R++[.int .i64 (x:Nat)]=nv (R++[x]):=by simp [nv]
 rw [this] at h3
 unfold UX
 rw [List.length_append]
 exact h3.re
theorem AG9 {sb n x:Nat} {isv cnt hv q:Value} {R:List Nat} (h:H (UX sb isv cnt hv q R l) σ) (hb:R.length<1099511627776) (hn:R.length=n+1) (hx:R[n]?=some x)
 (hk:∀ hv' σ',H (UX sb isv cnt hv' q (R.take n) l) σ'→Q (.ret (.iface BQ (.int .i64 x))) σ'):E LT [.pointer (some ⟨sb,2,none⟩)] σ Q:=by
 apply bC; unfold SC
 have hl:=IB h.tail
 obtain ⟨b,c,hvv,ia,la⟩:=nel h.tail hx
 rw [LV h,hl,AH]
 refine E1 (n:Int) (by omega) ?_
 rw [LV h,ia,AD,la,AH,LV h]
 obtain ⟨w,e1,ho,h2⟩:=O.ABL (k:=n) h (i:=1) rfl (by omega) (by omega)
 rw [e1,AD]
 have h2':H (pt sb (.cells [isv,cnt,hv,q] E3 false)::AU BQ 1 w n ((nv R).take (n*1))::l) σ:=h2
 refine st h2' ho ?_
 intro σ3 h3
 refine hk w σ3 ?_
 have e2:(nv R).take (n*1)=nv (R.take n):=by simp [nv,List.map_take]
 rw [e2] at h3
 unfold UX
 rw [List.length_take,Nat.min_eq_left (by omega)]
 exact h3.re
theorem AFS {sb x:Nat} {isv cnt hv q:Value} {R:List Nat} (h:H (UX sb isv cnt hv q R l) σ) (hb:R.length<1099511627000) (hok:C0 (id:Nat→Nat) R R.length)
 (hk:∀ (R':List Nat) hv' σ',R'.Perm (R++[x])→C0 (id:Nat→Nat) R' R'.length→H (UX sb isv cnt hv' q R' l) σ'→Q (.ret (.tuple #[])) σ'):E KB [yC sb,.iface BQ (.int .i64 x)] σ Q:=by
 apply pK; unfold dV
 unfold yC
 rw [AB5,A5]
 refine AF9 h (by omega) ?_
 intro hv' σ1 h1
 rw [CD,tN,OM h1,Option.bind_some,A5]
 refine AEZ (IB h1.tail) ?_
 rw [A9]
 refine E1 (R.length:Int) (by simp; omega) ?_
 refine VV h1 (by simp; omega) (by simp) ⟨fun k h0 hk2 hne=>?_,fun k h0 hk2 hp=>?_⟩ ?_
 ·simp at hk2
  have hh:=hok k h0 (by omega)
  rw [aV (S:=R++[x]) (n:=R.length) (fun i hi=>(List.getElem?_append_left hi).symm) (show (k - 1) / 2<R.length by omega),
   aV (R:=R) (S:=R++[x]) (n:=R.length) (fun i hi=>(List.getElem?_append_left hi).symm) (show k<R.length by omega)] at hh
  exact hh
 ·simp at hk2; omega
 ·intro R' σ2 hp hok2 h2
  rw [CD]
  exact hk R' hv' σ2 hp hok2 h2
theorem AGv {sb x n:Nat} {isv cnt hv q:Value} {R:List Nat} (h:H (UX sb isv cnt hv q R l) σ) (hb:R.length<1099511627776) (hn:R.length=n+1) (hx:R[0]?=some x) (hok:C0 (id:Nat→Nat) R R.length)
 (hk:∀ (R':List Nat) hv' σ',(R'++[x]).Perm R→C0 (id:Nat→Nat) R' R'.length→H (UX sb isv cnt hv' q R' l) σ'→Q (.ret (.iface BQ (.int .i64 x))) σ'):E MM [yC sb] σ Q:=by
 apply tL; unfold fK
 unfold yC
 rw [tN,OM h,Option.bind_some,A5]
 refine AEZ (IB h.tail) ?_
 rw [A9]
 refine E1 (n:Int) (by omega) ?_
 rw [mC,OM h,Option.bind_some,A5]
 refine ABk (i:=0) (j:=n) (h.perm (.swap _ _ _)) (by omega) (by omega) ?_
 intro σ1 h1
 rw [CD]
 have hsl:=J3 R 0 n
 have h2:H (UX sb isv cnt hv q (jF R 0 n) l) σ1:=by
  have:=h1.perm (.swap _ _ _)
  rw [← hsl] at this
  exact this
 rw [hn] at hok
 refine ADK (i0:=0) h2 (n:=n) (by omega) (by omega) (by omega) (hok.pop (by omega)) ?_
 intro R' c σ2 hp hok2 htl h3
 rw [GY,ADy,A5]
 have hl:R'.length=n+1:=by rw [hp.length_eq,hsl,hn]
 have hx2:R'[n]?=some x:=by rw [htl n (Nat.le_refl _),QD (by omega) (by omega),if_pos rfl,hx]
 refine AG9 h3 (by omega) hl hx2 ?_
 intro hv' σ3 h4
 rw [CC]
 refine hk (R'.take n) hv' σ3 ?_ ?_ h4
 ·have e:R'.take n++[x]=R':=by
   have h5:R'.take (n+1)=R'.take n++[x]:=by rw [List.take_add_one,hx2]; rfl
   rw [← h5,← hl,List.take_length]
  rw [e]
  exact hp.trans (UR R (by omega) (by omega))
 ·rw [List.length_take,Nat.min_eq_left (by omega)]
  refine hok2.congr fun k hk=>?_
  rw [List.getElem?_take,if_pos hk]
theorem AFY {sb:Nat} {isv cnt hv q:Value} {R:List Nat} (h:H (UX sb isv cnt hv q R l) σ) (hb:R.length<1099511627776)
 (hk:∀ (R':List Nat) σ',R'.Perm R→C0 (id:Nat→Nat) R' R'.length→H (UX sb isv cnt hv q R' l) σ'→Q (.ret (.tuple #[])) σ') (hok:C0 (id:Nat→Nat) R R.length):E V2 [yC sb] σ Q:=by
 apply qM; unfold d9
 unfold yC
 rw [tN,OM h,Option.bind_some,A5]
 refine AEZ (IB h.tail) ?_
 rw [A9]
 refine E1 ((R.length / 2:Nat):Int) ⟨by rfl,by omega⟩ ?_
 refine E1 ((R.length / 2:Nat) - 1:Int) (by omega) ?_
 refine ⟨fun m i τ=>∃ R':List Nat,i+1=m∧i<R.length∧R'.Perm R∧C0 (id:Nat→Nat) R' R'.length∧H (UX sb isv cnt hv q R' l) τ,⟨R.length / 2,R,by omega,by omega,List.Perm.refl _,hok,h⟩,?_⟩
 rintro m i τ ⟨R',hm,hi,hp,hok2,h2⟩
 have hl:=hp.length_eq
 unfold U6
 refine AS (fun g=>?_) fun g=>?_
 ·obtain ⟨k,rfl⟩:∃ k:Nat,i=k:=⟨i.toNat,by omega⟩
  rw [← hl]
  refine ADK h2 (n:=R'.length) (Nat.le_refl _) (by omega) (by omega) ⟨fun k h0 hk _=>hok2 k h0 hk,fun k' h0 hk hp' hi0=>?_⟩ ?_
  ·have e1:=hok2 k' h0 hk
   have e2:=hok2 k hi0 (by omega)
   rw [hp'] at e1
   exact Nat.le_trans e2 e1
  ·intro R2 c σ3 hp2 hok3 _ h3
   rw [GY]
   refine E1 ((k:Int) - 1) (by omega) ?_
   have hl2:=hp2.length_eq
   refine ⟨k,by omega,R2,by omega,by omega,hp2.trans hp,by rw [hl2]; exact hok3,h3⟩
 ·exact hk R' τ hp hok2 h2
end Go.Ax.C
set_option maxRecDepth 100000
namespace Go.Ax.C
open Go.Proofs Go.RowKit
variable {l r m:List AK} {σ:AHeap} {Q:RK}
section
variable {α:Type} {f:α→Value}
theorem zO {e:Nat} {v:Value} {xs:List α} {i:Nat} {x:α} (h:H (AU e 1 v xs.length (xs.map f)::l) σ) (hi:xs[i]?=some x) :
 ∃ b,(∀ kd,AE 1 v (.int kd (i:Nat))=some (.pointer (some ⟨b,i,none⟩)))∧AF false 1 (.pointer (some ⟨b,i,none⟩)) σ=some (f x):=by
 have hlt:=(List.getElem?_eq_some_iff.1 hi).1
 rcases FT.1 h with ⟨⟨h0,_⟩,_⟩ | ⟨b,c,opn,rest,h1,h2,h3,rfl,h4,h5⟩
 ·omega
 ·refine ⟨b,fun kd=>by rw [S6 (by omega)]; simp,?_⟩
  rw [BO (h1.row 0 rfl),List.getElem?_append_left (by simpa using hlt),List.getElem?_map,hi]; rfl
theorem zV {e:Nat} {v:Value} {xs:List α} {i:Nat} {y:α} {K:AHeap→Prop} (h:H (AU e 1 v xs.length (xs.map f)::l) σ) (hy:one (f y)=true) (hi:i<xs.length) (hK:∀ σ',H (AU e 1 v (xs.set i y).length ((xs.set i y).map f)::l) σ'→K σ') :
 om (AE 1 v (.int .i64 (i:Nat))) fun p=>pu (AP 1 p (f y) σ) K:=by
 rcases FT.1 h with ⟨⟨h0,_⟩,_⟩ | ⟨b,c,opn,rest,h1,h2,h3,rfl,h4,h5⟩
 ·omega
 ·rw [S6 (by omega),AD]
  have e:(⟨b,0+(i:Int).toNat*1,none⟩:Addr)=⟨b,i,none⟩:=by simp
  rw [e]
  refine KA h 0 rfl (by omega) hy (by simpa using hi) ?_
  intro σ' h'
  rw [List.set_cons_zero,← List.map_set] at h'
  refine hK σ' ?_
  rw [List.length_set]; exact h'
theorem AGy {e:Nat} {v:Value} {xs:List α} (h:H (AU e 1 v xs.length (xs.map f)::l) σ):BH v=some (.int .i64 xs.length):=IB h
end
structure ABE (is:List Bool) (xs:List Nat):Prop where
 ok:C0 (id:Nat→Nat) xs xs.length
 nd:xs.Nodup
 lt:∀ x∈xs,x<is.length
 all:∀ a,is[a]?=some true→a∈xs
theorem ABE.len {is:List Bool} {xs:List Nat} (h:ABE is xs):xs.length≤is.length:=by
 have:=List.Nodup.length_le_of_subset h.nd (l₂:=List.range is.length) fun x hx=>List.mem_range.2 (h.lt x hx)
 simpa using this
def RV (is:List Bool):Nat:=is.count true
def fE (sb:Nat) (is:List Bool):AK:=ex fun p:Value×Value×List Nat=>sep (HZ (ABE is p.2.2)) (AY (UX sb p.1 (.int .i64 (RV is)) p.2.1 (.bool true) p.2.2 [AU CQ 1 p.1 is.length (is.map .bool)]))
theorem fU {sb:Nat} {is:List Bool}:H (fE sb is::l) σ↔∃ isv hv xs,ABE is xs∧H (UX sb isv (.int .i64 (RV is)) hv (.bool true) xs (AU CQ 1 isv is.length (is.map .bool)::l)) σ:=by
 unfold fE
 rw [JM]
 constructor
 ·rintro ⟨⟨isv,hv,xs⟩,h⟩
  rw [BB,BK,A8] at h
  exact ⟨isv,hv,xs,h.1,h.2⟩
 ·rintro ⟨isv,hv,xs,h1,h2⟩
  refine ⟨⟨isv,hv,xs⟩,?_⟩
  rw [BB,BK,A8]
  exact ⟨h1,h2⟩
theorem nA {is:List Bool} {a:Nat} {b c:Bool} (h:is[a]?=some b):RV (is.set a c)+(if b then 1 else 0)=RV is+if c then 1 else 0:=by
 unfold RV
 induction is generalizing a with
 | nil=>simp at h
 | cons x is ih =>
   cases a with
   | zero=>simp at h; subst h; simp [List.count_cons]; cases x<;>cases c<;>simp
   | succ a=>simp at h; have:=ih h; simp [List.count_cons]; omega
theorem tK (is:List Bool):RV is≤is.length:=List.count_le_length
theorem wX {is:List Bool} {a:Nat} (h:is[a]?=some true):0<RV is:=List.count_pos_iff.2 (List.mem_of_getElem? h)
theorem vF {sb:Nat} {is:List Bool} (h:H (fE sb is::l) σ) (hQ:Q (.ret (.bool true)) σ):E HQ [.pointer (some ⟨sb,0,none⟩)] σ Q:=by
 apply XX; unfold PP
 obtain ⟨isv,hv,xs,h1,h2⟩:=fU.1 h
 rw [LB h2]
 exact hQ
theorem AEd {sb:Nat} {is:List Bool} (h:H (fE sb is::l) σ) (hn:is.length≤1099511627000)
 (hno:(∀ a:Nat,is[a]?≠some true)→∀ σ',H (fE sb is::l) σ'→Q (.ret (.tuple #[.int .i64 0,.int .i64 8])) σ')
 (hyes:∀ (a:Nat) σ',is[a]?=some true→(∀ b<a,is[b]?≠some true)→H (fE sb (is.set a false)::l) σ'→Q (.ret (.tuple #[.int .i64 a,.int .i64 0])) σ') :
 E LF [.pointer (some ⟨sb,0,none⟩)] σ Q:=by
 apply Z9; unfold PX
 refine vF h ?_
 rw [GY]
 refine B7 rfl ?_
 obtain ⟨isv,hv,xs,h1,h2⟩:=fU.1 h
 refine ⟨fun m τ=>∃ hv xs,xs.length=m∧ABE is xs∧H (UX sb isv (.int .i64 (RV is)) hv (.bool true) xs (AU CQ 1 isv is.length (is.map .bool)::l)) τ,⟨_,hv,xs,rfl,h1,h2⟩,?_⟩
 clear h h1 h2 hv xs
 rintro _ τ ⟨hv,xs,rfl,h1,h2⟩
 have hxl:=h1.len
 unfold NC
 rw [LV h2,IB h2.tail,AH]
 refine AS (fun g=>?_) fun g=>?_
 ·obtain ⟨x,hx⟩:∃ x,xs[0]?=some x:=⟨_,List.getElem?_eq_getElem (by omega)⟩
  refine AGv (n:=xs.length - 1) h2 (by omega) (by omega) hx h1.ok ?_
  intro R hv' σ1 hp hok h3
  have hmem:∀ y,y∈xs↔y∈R∨y=x:=fun y=>by rw [← hp.mem_iff]; simp
  have hxm:x∈xs:=(hmem x).2 (.inr rfl)
  have hxl2:=h1.lt x hxm
  have hnd:(R++[x]).Nodup:=hp.nodup_iff.2 h1.nd
  have hxR:x∉R:=fun hx2=>by
   rw [List.nodup_append] at hnd
   exact hnd.2.2 x hx2 x (by simp) rfl
  have hRnd:R.Nodup:=by rw [List.nodup_append] at hnd; exact hnd.1
  rw [CC,ADc,AH,LV h3]
  have h3':H (AU CQ 1 isv is.length (is.map .bool)::UX sb isv (.int .i64 (RV is)) hv' (.bool true) R l) σ1:=h3.re
  obtain ⟨c,hc⟩:∃ c,is[x]?=some c:=⟨_,List.getElem?_eq_getElem hxl2⟩
  obtain ⟨b,ia,la⟩:=zO h3' hc
  rw [ia,AD,la,BR]
  refine cN (fun g=>?_) fun g=>?_
  ·subst g
   rw [LV h3]
   refine zV (f:=Value.bool) (y:=false) h3' rfl hxl2 ?_
   intro σ2 h4
   have e1:=nA (c:=false) hc
   have e2:=tK is
   have e3:=wX hc
   simp at e1
   have h5:H (pt sb (.cells [isv,.int .i64 (RV is),hv',.bool true] E3 false)::AU BQ 1 hv' R.length (nv R)::AU CQ 1 isv (is.set x false).length ((is.set x false).map .bool)::l) σ2:=h4.re
   rw [LI h5]
   refine E1 ((RV (is.set x false):Nat):Int) (by omega) ?_
   refine st h5 rfl ?_
   intro σ3 h6
   refine hyes x σ3 hc (fun y hy hy2=>?_) (fU.2 ⟨isv,hv',R,⟨hok,hRnd,fun y hy=>?_,fun y hy=>?_⟩,h6⟩)
   ·have hym:=h1.all y hy2
    obtain ⟨k,hk,hky⟩:=List.getElem_of_mem hym
    have:=h1.ok.top k hk
    rw [FY hx,FY (List.getElem?_eq_getElem hk),hky] at this
    (try simp at this)
    omega
   ·rw [List.length_set]; exact h1.lt y ((hmem y).2 (.inl hy))
   ·rw [List.getElem?_set] at hy
    split at hy
    ·simp at hy
    ·rename_i hne
     rcases (hmem y).1 (h1.all y hy) with h | h
     ·exact h
     ·exact absurd h.symm hne
  ·subst g
   refine ⟨R.length,?_,hv',R,rfl,⟨hok,hRnd,fun y hy=>h1.lt y ((hmem y).2 (.inl hy)),fun y hy=>?_⟩,h3⟩
   ·have:=hp.length_eq
    simp at this; omega
   ·rcases (hmem y).1 (h1.all y hy) with h | h
    ·exact h
    ·subst h; rw [hc] at hy; cases hy
 ·refine hno (fun a ha=>?_) τ (fU.2 ⟨isv,hv,xs,h1,h2⟩)
  have:=h1.all a ha
  have:=List.length_pos_of_mem this
  omega
theorem ABI {sb a:Nat} {is:List Bool} {g:FuncId} (h:H (fE sb is::l) σ) (ha:a<is.length) (hn:is.length≤1099511627000)
 (hg:E g [.pointer (some ⟨sb,0,none⟩),.int .i64 a] σ (cI Q .i64 fun n τ=>Q (.ret (.int .i64 n)) τ)) :
 E IC [.pointer (some ⟨sb,0,none⟩),.int .i64 a,.func (.func g) #[] #[]] σ Q:=by
 apply Y6; unfold QC
 refine vF h ?_
 rw [GY]
 refine B7 rfl ?_
 obtain ⟨isv,hv,xs,h1,h2⟩:=fU.1 h
 refine AS (fun g=>absurd g (by omega)) fun _=>?_
 have h3:H (AU CQ 1 isv is.length (is.map .bool)::UX sb isv (.int .i64 (RV is)) hv (.bool true) xs l) σ:=h2.re
 rw [LV h2,AGy h3,AH]
 unfold IZ
 refine B7 (by simp; omega) ?_
 exact hg
theorem ACY {sb a:Nat} {is:List Bool} (h:H (fE sb is::l) σ) (ha:is[a]?=some true) (hn:is.length≤1099511627000)
 (hQ:∀ σ',H (fE sb (is.set a false)::l) σ'→Q (.ret (.int .i64 0)) σ'):E J1 [.pointer (some ⟨sb,0,none⟩),.int .i64 a] σ Q:=by
 apply X7; unfold O4
 have hal:=(List.getElem?_eq_some_iff.1 ha).1
 refine ABI h hal hn ?_
 apply YL; unfold O3
 obtain ⟨isv,hv,xs,h1,h2⟩:=fU.1 h
 have h3:H (AU CQ 1 isv is.length (is.map .bool)::UX sb isv (.int .i64 (RV is)) hv (.bool true) xs l) σ:=h2.re
 obtain ⟨b,ia,la⟩:=zO h3 ha
 rw [LV h2,ia,AD,la,BR]
 refine B7 rfl ?_
 rw [LV h2]
 refine zV (f:=Value.bool) (y:=false) h3 rfl hal ?_
 intro σ2 h4
 have e1:=nA (c:=false) ha
 have e2:=tK is
 have e3:=wX ha
 simp at e1
 have h5:H (pt sb (.cells [isv,.int .i64 (RV is),hv,.bool true] E3 false)::AU BQ 1 hv xs.length (nv xs)::AU CQ 1 isv (is.set a false).length ((is.set a false).map .bool)::l) σ2:=h4.re
 rw [LI h5]
 refine E1 ((RV (is.set a false):Nat):Int) (by omega) ?_
 refine st h5 rfl ?_
 intro σ3 h6
 rw [A9,A9]
 refine hQ σ3 (fU.2 ⟨isv,hv,xs,⟨h1.ok,h1.nd,fun y hy=>by rw [List.length_set]; exact h1.lt y hy,fun y hy=>?_⟩,h6⟩)
 rw [List.getElem?_set] at hy
 split at hy
 ·simp at hy
 ·exact h1.all y hy
theorem AEF {hv:Value} {xs:List Nat} {a:Nat} (h:H (AU BQ 1 hv xs.length (nv xs)::l) σ) (hn:xs.length≤1099511627000) (hQ:Q (.ret (.bool (decide (a∈xs)))) σ):E DO [hv,.int .i64 a] σ Q:=by
 apply KW; unfold F8
 apply NT; unfold HB
 rw [IB h,AH]
 refine ⟨fun m i τ=>∃ k:Nat,i=k∧m=xs.length - k∧k≤xs.length∧(∀ x∈xs.take k,x≠a)∧τ=σ,⟨_,0,rfl,rfl,by omega,by simp,rfl⟩,?_⟩
 rintro m _ _ ⟨k,rfl,hm,hk,hno,rfl⟩
 unfold F4
 refine AS (fun g=>?_) fun g=>?_
 ·have hkl:k<xs.length:=by omega
  have hx:=List.getElem?_eq_getElem hkl
  obtain ⟨b,c,hvv,ia,la⟩:=nel h hx
  rw [ia,AD,la,AH]
  refine AS (fun g2=>?_) fun g2=>?_
  ·rw [A9,decide_eq_true (by omega)]
   have:a∈xs:=by rw [show a=xs[k] by omega]; exact List.getElem_mem _
   rw [decide_eq_true this] at hQ
   exact hQ
  ·refine E1 ((k+1:Nat):Int) (by omega) ?_
   refine ⟨xs.length - (k+1),by omega,k+1,rfl,rfl,by omega,fun x hx2=>?_,rfl⟩
   rw [List.take_add_one,hx] at hx2
   rcases List.mem_append.1 hx2 with h | h
   ·exact hno x h
   ·simp at h; omega
 ·rw [A9,decide_eq_false (by omega)]
  have:a∉xs:=fun ha=>by
   have:xs.take k=xs:=List.take_of_length_le (by omega)
   exact hno a (by rw [this]; exact ha) rfl
  rw [decide_eq_false this] at hQ
  exact hQ
theorem AEK {sb a:Nat} {is:List Bool} (h:H (fE sb is::l) σ) (ha:is[a]?=some false) (hn:is.length≤1099511626000)
 (hQ:∀ σ',H (fE sb (is.set a true)::l) σ'→Q (.ret (.int .i64 0)) σ'):E K6 [.pointer (some ⟨sb,0,none⟩),.int .i64 a] σ Q:=by
 apply aA; unfold PW
 have hal:=(List.getElem?_eq_some_iff.1 ha).1
 refine ABI h hal (by omega) ?_
 apply Z2; unfold P9
 obtain ⟨isv,hv,xs,h1,h2⟩:=fU.1 h
 have hxl:=h1.len
 have h3:H (AU CQ 1 isv is.length (is.map .bool)::UX sb isv (.int .i64 (RV is)) hv (.bool true) xs l) σ:=h2.re
 obtain ⟨b,ia,la⟩:=zO h3 ha
 rw [LV h2,ia,AD,la,BR]
 refine B7 rfl ?_
 rw [LV h2]
 refine zV (f:=Value.bool) (y:=true) h3 rfl hal ?_
 intro σ2 h4
 have e1:=nA (c:=true) ha
 have e2:=tK (is.set a true)
 rw [List.length_set] at e2
 simp at e1
 have h5:H (pt sb (.cells [isv,.int .i64 (RV is),hv,.bool true] E3 false)::AU BQ 1 hv xs.length (nv xs)::AU CQ 1 isv (is.set a true).length ((is.set a true).map .bool)::l) σ2:=h4.re
 rw [LI h5]
 refine E1 ((RV (is.set a true):Nat):Int) (by omega) ?_
 refine st h5 rfl ?_
 intro σ3 h6
 rw [LV h6]
 refine AEF (a:=a) h6.tail (by omega) ?_
 rw [GY]
 have hall:∀ y,(is.set a true)[y]?=some true→y≠a→y∈xs:=by
  intro y hy hne
  rw [List.getElem?_set,if_neg (fun e=>hne e.symm)] at hy
  exact h1.all y hy
 by_cases hm:a∈xs
 ·rw [decide_eq_true hm]
  refine B7 rfl ?_
  unfold GE
  rw [A9,A9]
  refine hQ σ3 (fU.2 ⟨isv,hv,xs,⟨h1.ok,h1.nd,fun y hy=>by rw [List.length_set]; exact h1.lt y hy,fun y hy=>?_⟩,h6⟩)
  by_cases e:y=a
  ·subst e; exact hm
  ·exact hall y hy e
 ·rw [decide_eq_false hm]
  refine G8 rfl ?_
  refine AFS h6 (by omega) h1.ok ?_
  intro R hv' σ4 hp hok h7
  rw [CD]
  unfold GE
  rw [A9,A9]
  have hmem:∀ y,y∈R↔y∈xs∨y=a:=fun y=>by rw [hp.mem_iff]; simp
  refine hQ σ4 (fU.2 ⟨isv,hv',R,⟨hok,hp.nodup_iff.2 ?_,fun y hy=>?_,fun y hy=>?_⟩,h7⟩)
  ·rw [List.nodup_append]
   exact ⟨h1.nd,by simp,fun x hx y hy e=>hm (by simp at hy; subst hy; subst e; exact hx)⟩
  ·rw [List.length_set]
   rcases (hmem y).1 hy with h | h
   ·exact h1.lt y h
   ·omega
  ·by_cases e:y=a
   ·exact (hmem y).2 (.inr e)
   ·exact (hmem y).2 (.inl (hall y hy e))
theorem sP (n:Nat):C0 (id:Nat→Nat) (List.range n) (List.range n).length:=by
 intro k h0 hk
 simp at hk
 unfold Ky
 rw [List.getElem?_range (by omega),List.getElem?_range hk]
 simp; omega
theorem AFL {n:Nat} (h:H l σ) (hn:n≤1024)
 (hQ:∀ sb σ',H (fE sb (List.replicate n true)::l) σ'→Q (.ret (.tuple #[.pointer (some ⟨sb,0,none⟩),.int .i64 0])) σ'):E YE [.int .i64 n] σ Q:=by
 apply sH; unfold gZ
 refine AS (fun g=>absurd g (by omega)) fun _=>?_
 unfold QU
 refine B7 (by simp; omega) ?_
 refine QO h (by omega) ?_
 intro ib σ1 h1
 refine E5 rfl ?_
 have e0:reps ((n:Int).toNat) [.bool false]=(List.replicate n false).map .bool:=by rw [PD]; simp
 rw [e0] at h1
 have h1:=h1.unsnoc
 have h1':H (AU CQ 1 (.slice (some ⟨ib,0,none⟩) n n) n ((List.replicate n false).map .bool)::l) σ1:=h1.to_own 0 rfl (by simp) (by unfold A4; omega)
 simp only [Int.toNat_natCast]
 refine nw h1' ?_
 intro sb σ2 h2
 have h2':=(h2.own_nil BQ 1).unsnoc
 -- the loop
 refine ⟨fun m i τ=>∃ (k:Nat) (hv:Value) (is:List Bool),i=k∧m=n - k∧k≤n∧is=List.replicate k true++List.replicate (n - k) false∧H (UX sb (.slice (some ⟨ib,0,none⟩) n n) (.int .i64 n) hv (.bool true) (List.range k) (AU CQ 1 (.slice (some ⟨ib,0,none⟩) n n) is.length (is.map .bool)::l)) τ,
  ⟨n,0,.slice none 0 0,List.replicate n false,rfl,rfl,by omega,by simp,?_⟩,?_⟩
 ·have:H (pt sb (.cells [.slice (some ⟨ib,0,none⟩) n n,.int .i64 n,.slice none 0 0,.bool true] E3 false)::AU BQ 1 (.slice none 0 0) 0 []::AU CQ 1 (.slice (some ⟨ib,0,none⟩) n n) n ((List.replicate n false).map .bool)::l) σ2:=h2'.re
  simpa [UX,nv] using this
 clear h2' h2 h1' h1 h
 rintro m _ τ ⟨k,hv,is,rfl,hm,hk,his,h⟩
 have hil:is.length=n:=by rw [his]; simp; omega
 unfold XM
 refine AS (fun g=>?_) fun g=>?_
 ·rw [LV h]
  have h3:H (AU CQ 1 (.slice (some ⟨ib,0,none⟩) n n) is.length (is.map .bool)::UX sb (.slice (some ⟨ib,0,none⟩) n n) (.int .i64 n) hv (.bool true) (List.range k) l) τ:=h.re
  refine zV (f:=Value.bool) (y:=true) h3 rfl (by omega) ?_
  intro σ2 h4
  rw [LV h4]
  refine nw h4 ?_
  intro tb σ3 h5
  have ht:D5 1 (.slice (some ⟨tb,0,none⟩) 1 1) σ3=some (1,[.int .i64 (k:Nat)]):=by
   rw [FO (h5.row 0 rfl) (by simp)]; rfl
  refine DR h5 3 rfl ht (by omega) (by simp; omega) (by rfl) ?_
  intro w σ4 h6
  have ho:=O.SY h6 (i:=3) rfl
  have h6':H (pt tb (.cells [.int .i64 (k:Nat)] BQ false)::AU CQ 1 (.slice (some ⟨ib,0,none⟩) n n) (is.set k true).length ((is.set k true).map .bool)::pt sb (.cells [.slice (some ⟨ib,0,none⟩) n n,.int .i64 n,hv,.bool true] E3 false)::AU BQ 1 w ((List.range k).length+1) (nv (List.range k)++[.int .i64 (k:Nat)])::l) σ4:=h6
  refine st h6' ho ?_
  intro σ5 h7
  refine E1 ((k+1:Nat):Int) (by omega) ?_
  refine ⟨n - (k+1),by omega,k+1,w,is.set k true,rfl,rfl,by omega,?_,?_⟩
  ·rw [his]
   apply List.ext_getElem?
   intro j
   rw [List.getElem?_set]
   by_cases e:k=j
   ·subst e
    rw [if_pos rfl,if_pos (by simp; omega),List.getElem?_append_left (by simp)]
    simp
   ·rw [if_neg e]
    by_cases hj:j<k
    ·rw [List.getElem?_append_left (by simpa using hj),List.getElem?_append_left (by simp; omega)]
     rw [List.getElem?_replicate,List.getElem?_replicate,if_pos hj,if_pos (by omega)]
    ·rw [List.getElem?_append_right (by simp; omega),List.getElem?_append_right (by simp; omega)]
     simp [List.getElem?_replicate]
     by_cases hjn:j<n
     ·rw [if_pos (by omega),if_pos (by omega)]
     ·rw [if_neg (by omega),if_neg (by omega)]
  ·have e1:nv (List.range k)++[.int .i64 (k:Nat)]=nv (List.range (k+1)):=by rw [List.range_succ]; simp [nv]
   rw [e1] at h7
   unfold UX
   have e2:(List.range (k+1)).length=(List.range k).length+1:=by simp
   rw [e2]
   exact h7.re
 ·have hkn:k=n:=by omega
  subst hkn
  have his2:is=List.replicate k true:=by rw [his]; simp
  refine AFY h (by simp; omega) ?_ (sP k)
  intro R σ5 hp hok h7
  rw [CD]
  subst his2
  refine hQ sb σ5 (fU.2 ⟨.slice (some ⟨ib,0,none⟩) k k,hv,R,⟨hok,hp.nodup_iff.2 List.nodup_range,fun x hx=>?_,fun x hx=>?_⟩,?_⟩)
  ·have:=hp.mem_iff.1 hx
   simpa using this
  ·refine hp.mem_iff.2 ?_
   have:=(List.getElem?_eq_some_iff.1 hx).1
   simpa using this
  ·have:RV (List.replicate k true)=k:=by simp [RV]
   rw [this]; exact h7
end Go.Ax.C
