/- The abstract interpreter made ready: regions, code, functions; it is the same interpreter. No statement of the seat is proved here. -/
import Derived.Test.YtfeamgocomlepaaAy2
namespace Go.Ax
open Go.RowKit

abbrev K' (β : Type) := CallF → Nat → Fr → AHeap → ND β

section
variable {β : Type} (P : Program)

def isCall (o : Op) : Bool :=
  match o with
  | .call c => match c.callee with
    | .builtin _ => false
    | _ => true
  | .next _ false => true
  | _ => false

noncomputable def cval (o : Oper) : Bx (CallF → Fr → AHeap → ND (Value × AHeap)) :=
  match o.op with
  | .call c => match c.callee with
    | .value (.func g) => match evsK c.args.toList with
      | .mk es => .mk fun call fr σ => call g (es fr) σ
    | _ => .mk fun call fr σ => aval P call (fev fr) o σ
  | _ => .mk fun call fr σ => aval P call (fev fr) o σ
theorem cval_eq (o : Oper) (call : CallF) (fr : Fr) (σ : AHeap) : (cval P o).un call fr σ = aval P call (fev fr) o σ := by
  obtain ⟨dst, op, type, pos, after, guard⟩ := o
  cases op <;> try rfl
  rename_i c
  obtain ⟨callee, args, argTypes⟩ := c
  cases callee <;> try rfl
  rename_i f
  cases f <;> try rfl
  rename_i g
  have h := evsK_eq args.toList fr
  simp only [cval, aval, fev]
  cases he : evsK args.toList with
  | mk es => rw [he] at h; simp only [Bx.un_mk] at h ⊢; rw [h]; simp

theorem aval_plain {o : Oper} (h : isCall o.op = false) (call : CallF) (ev : Operand → Value) (σ : AHeap) : aval P call ev o σ = match aop P ev o σ with
    | some r => some [r]
    | none => none := by
  obtain ⟨dst, op, type, pos, after, guard⟩ := o
  cases op <;> try rfl
  case call c =>
    obtain ⟨callee, args, argTypes⟩ := c
    cases callee <;> first | rfl | (simp [isCall] at h)
  case next it str =>
    cases str <;> first | rfl | (simp [isCall] at h)

noncomputable def cput (m : Nat) (d : Option Tmp) (k : K' β) : Bx (CallF → Nat → Fr → Value → AHeap → ND β) :=
  match d with
  | none => .mk fun c n fr _ σ => k c n fr σ
  | some d => match setC d, fzM m with
    | .mk s, .mk fz => .mk fun c n fr v σ => fz v fun v => s v fr fun fr => k c n fr σ
theorem cput_eq (m : Nat) (d : Option Tmp) (k : K' β) (c : CallF) (n : Nat) (fr : Fr) (v : Value) (σ : AHeap) : (cput m d k).un c n fr v σ = k c n (fput fr d v) σ := by
  cases d with
  | none => rfl
  | some d =>
    have h := setC_eq (β := ND β) d v fr
    have h2 := fun k => fzM_eq (β := ND β) m v k
    simp only [cput]
    cases hs : setC (β := ND β) d with
    | mk s =>
      cases hz : fzM (β := ND β) m with
      | mk fz => rw [hs] at h; rw [hz] at h2; simp only [Bx.un_mk] at h h2 ⊢; rw [h2, h]; rfl

def plainOf (o : Op) : Option Operand :=
  match o with
  | .move x | .assign x => some x
  | _ => none
theorem plainOf_eq (P : Program) {o : Oper} {x : Operand} (h : plainOf o.op = some x) (ev : Operand → Value) (σ : AHeap) : aop P ev o σ = some (ev x, σ) ∧ isCall o.op = false := by
  obtain ⟨dst, op, type, pos, after, guard⟩ := o
  cases op <;> simp [plainOf] at h
  all_goals subst h; exact ⟨rfl, rfl⟩

noncomputable def cone (o : Oper) (k : K' β) : Bx (K' β) :=
  match cput (modeOf o.op) o.dst k with
  | .mk pt => match plainOf o.op with
    | some x => match evK x with
      | .mk e => .mk fun c n fr σ => pt c n fr (e fr) σ
    | none => cond (isCall o.op) (match cval P o with
      | .mk f => .mk fun c n fr σ => bindL (f c fr σ) fun r => match r with
        | (v, σ) => pt c n fr v σ)
      (match copK P o with
      | .mk f => .mk fun c n fr σ => @Option.rec (Value × AHeap) (fun _ => ND β) none (fun r => @Prod.rec Value AHeap (fun _ => ND β) (fun v σ => pt c n fr v σ) r) (f fr σ))
theorem cone_eq (o : Oper) (k : K' β) (c : CallF) (n : Nat) (fr : Fr) (σ : AHeap) : (cone P o k).un c n fr σ = aone P c o (k c n) fr σ := by
  have hp := cput_eq (modeOf o.op) o.dst k c n fr
  unfold cone aone
  cases hpt : cput (modeOf o.op) o.dst k with
  | mk pt =>
    rw [hpt] at hp
    simp only [Bx.un_mk] at hp
    simp only
    cases hpl : plainOf o.op with
    | some x =>
      obtain ⟨h1, h2⟩ := plainOf_eq P hpl (fev fr) σ
      have h3 := evK_eq x fr
      simp only
      cases he : evK x with
      | mk e =>
        rw [he] at h3
        simp only [Bx.un_mk] at h3 ⊢
        rw [aval_plain P h2, h1, hp, h3]
        rfl
    | none =>
      simp only
      cases hc : isCall o.op with
      | true =>
        have h := cval_eq P o c fr σ
        simp only [cond_true]
        cases hv : cval P o with
        | mk f => rw [hv] at h; simp only [Bx.un_mk] at h ⊢; rw [h]; simp only [hp]
      | false =>
        have h := copK_eq P o fr σ
        simp only [cond_false]
        cases hv : copK P o with
        | mk f =>
          rw [hv] at h; simp only [Bx.un_mk] at h ⊢
          rw [h, aval_plain P hc]
          cases aop P (fev fr) o σ with
          | none => rfl
          | some r => obtain ⟨v, σ'⟩ := r; simp [hp]

noncomputable def cguard (all : List Oper) (o : Oper) (yes no : Bx (K' β)) : Bx (K' β) :=
  match o.guard with
  | none => yes
  | some (j, want) => match (all[j]?).bind (·.dst) with
    | some t => match lookC t, setC (β := ND β) t, yes, no with
      | .mk g, .mk s, .mk y, .mk z => .mk fun c n fr σ => match asB (g fr) with
        | some true => s (.bool true) fr fun fr => cond want (y c n fr σ) (z c n fr σ)
        | some false => s (.bool false) fr fun fr => cond want (z c n fr σ) (y c n fr σ)
        | none => cond (isSkip (g fr)) (z c n fr σ) none
    | none => .mk fun _ _ _ _ => none
theorem cguard_eq (all : List Oper) (o : Oper) (yes no : Bx (K' β)) (c : CallF) (n : Nat) (fr : Fr) (σ : AHeap) :
    (cguard all o yes no).un c n fr σ = aguard all o (yes.un c n) (no.un c n) fr σ := by
  unfold cguard aguard
  cases o.guard with
  | none => rfl
  | some g =>
    obtain ⟨j, want⟩ := g
    simp only
    cases (all[j]?).bind (·.dst) with
    | none => rfl
    | some t =>
      have h1 := lookC_eq t fr
      have h2 := fun v => setC_eq (β := ND β) t v fr
      simp only
      cases hg : lookC t with
      | mk g =>
        cases hs : setC (β := ND β) t with
        | mk s =>
          rw [hg] at h1; rw [hs] at h2
          cases yes with
          | mk y =>
            cases no with
            | mk z =>
              simp only [Bx.un_mk] at h1 h2 ⊢
              rw [h1]
              cases asB (fget fr t) with
              | none => rfl
              | some b => cases b <;> simp only [h2]

noncomputable def cskip (o : Oper) (k : Bx (K' β)) : Bx (K' β) :=
  match k with
  | .mk k => match cput 0 o.dst k with
    | .mk pt => .mk fun c n fr σ => pt c n fr skipV σ
theorem cskip_eq (o : Oper) (k : Bx (K' β)) (c : CallF) (n : Nat) (fr : Fr) (σ : AHeap) : (cskip o k).un c n fr σ = k.un c n (fput fr o.dst skipV) σ := by
  cases k with
  | mk k =>
    have hp := cput_eq 0 o.dst k c n fr skipV σ
    simp only [cskip]
    cases hpt : cput 0 o.dst k with
    | mk pt => rw [hpt] at hp; exact hp

noncomputable def cops (all : List Oper) : List Oper → Bx (K' β) → Bx (K' β)
  | [], kn => kn
  | o :: os, kn => match cops all os kn with
    | .mk k => cguard all o (cone P o k) (cskip o (.mk k))
theorem cops_eq (all : List Oper) : ∀ (os : List Oper) (kn : Bx (K' β)) (c : CallF) (n : Nat), (cops P all os kn).un c n = aops P c all os (kn.un c n)
  | [], kn, c, n => rfl
  | o :: os, kn, c, n => by
    have ih := cops_eq all os kn c n
    funext fr σ
    simp only [cops, aops]
    cases hk : cops P all os kn with
    | mk k =>
      rw [hk] at ih
      simp only [Bx.un_mk] at ih
      rw [cguard_eq]
      congr 1
      · funext fr σ; rw [cone_eq]; show aone P c o (k c n) fr σ = _; rw [ih]
      · funext fr σ; rw [cskip_eq]; simp only [Bx.un_mk, ih]

noncomputable def crecheck (all : List Oper) : List Nat → Bx (K' β) → Bx (K' β)
  | [], k => k
  | q :: qs, k => match all[q]? with
    | none => .mk fun _ _ _ _ => none
    | some o => match crecheck all qs k, copK P o, o.dst with
      | .mk k', .mk f, some d => match lookC d with
        | .mk g => cguard all o (.mk fun c n fr σ => match f fr σ with
          | some (v, _) => cond (veq1 v (g fr)) (k' c n fr σ) none
          | none => none) (.mk k')
      | .mk k', _, none => cguard all o (.mk fun _ _ _ _ => none) (.mk k')
theorem crecheck_eq (all : List Oper) : ∀ (l : List Nat) (k : Bx (K' β)) (c : CallF) (n : Nat), (crecheck P all l k).un c n = arecheck P all l (k.un c n)
  | [], k, c, n => rfl
  | q :: qs, k, c, n => by
    have ih := crecheck_eq all qs k c n
    funext fr σ
    simp only [crecheck, arecheck]
    cases all[q]? with
    | none => rfl
    | some o =>
      simp only
      cases hk : crecheck P all qs k with
      | mk k' =>
        rw [hk] at ih
        simp only [Bx.un_mk] at ih
        cases hf : copK P o with
        | mk f =>
          cases hd : o.dst with
          | none =>
            simp only
            rw [cguard_eq]
            congr 1
            funext fr σ
            simp only [Bx.un_mk]
            cases aop P (fev fr) o σ <;> rfl
          | some d =>
            simp only
            cases hl : lookC d with
            | mk g =>
              simp only
              rw [cguard_eq]
              congr 1
              funext fr σ
              have h := copK_eq P o fr σ
              have h1 := lookC_eq d fr
              rw [hf] at h
              rw [hl] at h1
              simp only [Bx.un_mk] at h h1 ⊢
              rw [h]
              cases aop P (fev fr) o σ with
              | none => rfl
              | some r => obtain ⟨v, σ'⟩ := r; simp only [h1, ih]

noncomputable def cdops (all : List Oper) : List (Nat × List Nat) → Bx (K' β) → Bx (K' β)
  | [], kn => kn
  | (i, chk) :: os, kn => match all[i]? with
    | none => .mk fun _ _ _ _ => none
    | some o => match cdops all os kn with
      | .mk k => match crecheck P all chk (.mk k) with
        | .mk k' => cguard all o (cone P o k') (cskip o (.mk k))
theorem cdops_eq (all : List Oper) : ∀ (os : List (Nat × List Nat)) (kn : Bx (K' β)) (c : CallF) (n : Nat), (cdops P all os kn).un c n = adops P c all os (kn.un c n)
  | [], kn, c, n => rfl
  | (i, chk) :: os, kn, c, n => by
    have ih := cdops_eq all os kn c n
    funext fr σ
    simp only [cdops, adops]
    cases all[i]? with
    | none => rfl
    | some o =>
      simp only
      cases hk : cdops P all os kn with
      | mk k =>
        rw [hk] at ih
        simp only [Bx.un_mk] at ih
        have hr := crecheck_eq P all chk (.mk k) c n
        simp only [Bx.un_mk] at hr
        simp only
        cases hk' : crecheck P all chk (.mk k) with
        | mk k' =>
          rw [hk'] at hr
          simp only [Bx.un_mk] at hr
          simp only
          rw [cguard_eq]
          congr 1
          · funext fr σ; rw [cone_eq, hr, ih]
          · funext fr σ; rw [cskip_eq]; simp only [Bx.un_mk, ih]

def cdata (t : Tag) (pk : Fr → (List Value → ND JR) → ND JR) : K' JR := fun _ _ fr σ => pk fr fun vs => some [(t, vs, σ)]

theorem cdata_eq (t : Tag) (L : List Nat) (c : CallF) (n : Nat) : cdata t (pickC L).un c n = fun fr σ => some [(t, fpick L fr, σ)] := by
  funext fr σ; simp only [cdata, pickC_eq]

/-- A loop of which the body comes to its end as data. -/
def cloop (mL : List Value → (Fr → ND JR) → ND JR) (pL pLx : Fr → (List Value → ND JR) → ND JR) (mj : List Value → (Fr → ND JR) → ND JR) (body : K' JR) (c : CallF) (n : Nat) : Nat → List Value → AHeap → ND JR
  | 0, _, _ => none
  | m + 1, vs, σ => mL vs fun fr => bindL (body c n fr σ) fun r => match r with
    | (.norm, vs, σ) => mj vs fun fr => pL fr fun vs => cloop mL pL pLx mj body c n m vs σ
    | (.exit i, vs, σ) => mj vs fun fr => pLx fr fun vs => some [(.exit i, vs, σ)]
    | (.ret, vs, σ) => mj vs fun fr => pLx fr fun vs => some [(.ret, vs, σ)]
theorem cloop_eq (L Lx Lj : List Nat) (body : K' JR) (c : CallF) (n : Nat) (bd : K JR) (hb : ∀ fr σ, body c n fr σ = bd fr σ) : ∀ (m : Nat) (vs : List Value) (σ : AHeap),
    cloop (makeC L).un (pickC L).un (pickC Lx).un (makeC Lj).un body c n m vs σ =
      aloop (β := JR) L (fun k => fun fr σ => bindL (bd fr σ) fun r => match r with
        | (.norm, vs, σ) => k (fmake Lj vs) σ
        | (.exit i, vs, σ) => some [(.exit i, fpick Lx (fmake Lj vs), σ)]
        | (.ret, vs, σ) => some [(.ret, fpick Lx (fmake Lj vs), σ)]) m vs σ
  | 0, vs, σ => rfl
  | m + 1, vs, σ => by
    have ih := cloop_eq L Lx Lj body c n bd hb m
    simp only [cloop, aloop, makeC_eq, hb]
    congr 1
    funext r
    obtain ⟨t, vs, σ⟩ := r
    cases t with
    | norm => simp only [pickC_eq, makeC_eq, ih]
    | exit i => simp only [pickC_eq, makeC_eq]
    | ret => simp only [pickC_eq, makeC_eq]

noncomputable def ccode : AC → {β : Type} → Bx (K' β) → (Nat → Bx (K' β)) → Bx (K' β) → Bx (K' β)
  | .skip, _, kn, _, _ => kn
  | .region _ ops, _, kn, _, _ => cops P ops ops kn
  | .dregion _ ops ord, _, kn, _, _ => cdops P ops ord kn
  | .seq a b, _, kn, ke, kr => ccode a (ccode b kn ke kr) ke kr
  | .cond x a b, _, kn, ke, kr => match evK x, ccode a kn ke kr, ccode b kn ke kr with
    | .mk e, .mk fa, .mk fb => .mk fun c n fr σ => match asB (e fr) with
      | some true => fa c n fr σ
      | some false => fb c n fr σ
      | none => none
  | .block id b, _, kn, ke, kr => ccode b kn (fun i => cond (Nat.beq i id) kn (ke i)) kr
  | .loop L Lx (.join Lj b), β, _, ke, kr => match makeC (β := ND JR) L, pickC (β := ND JR) L, pickC (β := ND JR) Lx, makeC (β := ND JR) Lj, pickC (β := ND JR) Lj, makeC (β := ND β) Lx, pickC (β := ND β) L with
    | .mk mL, .mk pL, .mk pLx, .mk mj, .mk pj, .mk mx, .mk p0 =>
      match ccode b (β := JR) (.mk (cdata .norm pj)) (fun i => .mk (cdata (.exit i) pj)) (.mk (cdata .ret pj)), kr with
      | .mk body, .mk fr' => .mk fun c n fr σ => p0 fr fun vs => bindL (cloop mL pL pLx mj body c n n vs σ) fun r => match r with
        | (.exit i, vs, σ) => match ke i with
          | .mk f => mx vs fun fr => f c n fr σ
        | (.ret, vs, σ) => mx vs fun fr => fr' c n fr σ
        | (.norm, _, _) => none
  | .loop L Lx b, _, kn, ke, kr => .mk fun c n fr σ => acode P c n (.loop L Lx b) (kn.un c n) (fun i => (ke i).un c n) (kr.un c n) fr σ
  | .exit i, _, _, ke, _ => ke i
  | .ret, _, _, _, kr => kr
  | .other _, _, _, _, _ => .mk fun _ _ _ _ => none
  | .join L b, β, kn, ke, kr => match pickC (β := ND JR) L, makeC (β := ND β) L with
    | .mk pj, .mk mj =>
      match ccode b (β := JR) (.mk (cdata .norm pj)) (fun i => .mk (cdata (.exit i) pj)) (.mk (cdata .ret pj)), kn, kr with
      | .mk body, .mk fn, .mk fr' => .mk fun c n fr σ => bindL (body c n fr σ) fun r => match r with
        | (.norm, vs, σ) => mj vs fun fr => fn c n fr σ
        | (.exit i, vs, σ) => match ke i with
          | .mk f => mj vs fun fr => f c n fr σ
        | (.ret, vs, σ) => mj vs fun fr => fr' c n fr σ

theorem bx_eta {α : Type} (b : Bx α) : b = .mk b.un := by cases b; rfl

theorem ccode_eq : ∀ (ac : AC) {β : Type} (kn : Bx (K' β)) (ke : Nat → Bx (K' β)) (kr : Bx (K' β)) (c : CallF) (n : Nat),
    (ccode P ac kn ke kr).un c n = acode P c n ac (kn.un c n) (fun i => (ke i).un c n) (kr.un c n)
  | .skip, β, kn, ke, kr, c, n => rfl
  | .region _ ops, β, kn, ke, kr, c, n => cops_eq P ops ops kn c n
  | .dregion _ ops ord, β, kn, ke, kr, c, n => cdops_eq P ops ord kn c n
  | .seq a b, β, kn, ke, kr, c, n => by
    simp only [ccode, acode]
    rw [ccode_eq a, ccode_eq b]
  | .cond x a b, β, kn, ke, kr, c, n => by
    have ha := ccode_eq a kn ke kr c n
    have hb := ccode_eq b kn ke kr c n
    funext fr σ
    have hx := evK_eq x fr
    simp only [ccode, acode]
    cases he : evK x with
    | mk e =>
      cases hfa : ccode P a kn ke kr with
      | mk fa =>
        cases hfb : ccode P b kn ke kr with
        | mk fb =>
          rw [he] at hx; rw [hfa] at ha; rw [hfb] at hb
          simp only [Bx.un_mk] at hx ha hb ⊢
          rw [hx, ha, hb]
          cases asB (fev fr x) with
          | none => rfl
          | some v => cases v <;> rfl
  | .block id b, β, kn, ke, kr, c, n => by
    simp only [ccode, acode]
    rw [ccode_eq b]
    congr 1
    funext i fr σ
    cases Nat.beq i id <;> rfl
  | .exit i, β, kn, ke, kr, c, n => rfl
  | .ret, β, kn, ke, kr, c, n => rfl
  | .other _, β, kn, ke, kr, c, n => rfl
  | .join L b, β, kn, ke, kr, c, n => by
    have hb := ccode_eq b (β := JR) (.mk (cdata .norm (pickC L).un)) (fun i => .mk (cdata (.exit i) (pickC L).un)) (.mk (cdata .ret (pickC L).un)) c n
    funext fr σ
    simp only [ccode, acode]
    rw [bx_eta (pickC (β := ND JR) L), bx_eta (makeC (β := ND β) L)]
    simp only
    cases hbd : ccode P b (β := JR) (.mk (cdata .norm (pickC L).un)) (fun i => .mk (cdata (.exit i) (pickC L).un)) (.mk (cdata .ret (pickC L).un)) with
    | mk body =>
      rw [hbd] at hb
      simp only [Bx.un_mk, cdata_eq] at hb
      cases kn with
      | mk fn =>
        cases kr with
        | mk fr' =>
          simp only [Bx.un_mk]
          rw [hb]
          congr 1
          funext r
          obtain ⟨t, vs, σ⟩ := r
          cases t with
          | norm => simp only [makeC_eq]
          | exit i =>
            simp only
            cases ke i with
            | mk f => simp only [makeC_eq]; rfl
          | ret => simp only [makeC_eq]
  | .loop L Lx b, β, kn, ke, kr, c, n => by
    cases b
    case join Lj b =>
      have hb := ccode_eq b (β := JR) (.mk (cdata .norm (pickC Lj).un)) (fun i => .mk (cdata (.exit i) (pickC Lj).un)) (.mk (cdata .ret (pickC Lj).un)) c n
      funext fr σ
      simp only [ccode, acode]
      rw [bx_eta (pickC (β := ND JR) L), bx_eta (makeC (β := ND JR) L), bx_eta (pickC (β := ND JR) Lx), bx_eta (makeC (β := ND JR) Lj), bx_eta (pickC (β := ND JR) Lj), bx_eta (makeC (β := ND β) Lx), bx_eta (pickC (β := ND β) L)]
      simp only
      cases hbd : ccode P b (β := JR) (.mk (cdata .norm (pickC Lj).un)) (fun i => .mk (cdata (.exit i) (pickC Lj).un)) (.mk (cdata .ret (pickC Lj).un)) with
      | mk body =>
        rw [hbd] at hb
        simp only [Bx.un_mk, cdata_eq] at hb
        cases kr with
        | mk fr' =>
          simp only [Bx.un_mk, pickC_eq]
          rw [cloop_eq L Lx Lj body c n _ (fun fr σ => by rw [hb])]
          congr 1
          funext r
          obtain ⟨t, vs, σ⟩ := r
          cases t with
          | norm => rfl
          | exit i =>
            simp only
            cases ke i with
            | mk f => simp only [makeC_eq]; rfl
          | ret => simp only [makeC_eq]
    all_goals rfl

noncomputable def cret (res : List ResultVar) : Bx (K' (Value × AHeap)) := .mk fun _ _ fr σ => aret P res fr σ

noncomputable def cfun (f : AFun) : Bx (CallF → Nat → List Value → AHeap → ND (Value × AHeap)) :=
  match makeC (β := ND (Value × AHeap)) (List.range f.params), ccode P f.body (cret P f.res) (fun _ => .mk fun _ _ _ _ => none) (cret P f.res) with
  | .mk m, .mk k => .mk fun c n args σ => cond (Nat.beq args.length f.params) (m args fun fr => k c n fr σ) none

noncomputable def ccall (F : FuncId → Option AFun) (X : FuncId → Option (List Value → AHeap → ND (Value × AHeap))) : Nat → CallF
  | 0, _, _, _ => none
  | n + 1, f, args, σ => match X f with
    | some x => x args σ
    | none => match F f with
      | some af => match cfun P af with
        | .mk k => amerge σ.size (k (ccall F X n) n args σ)
      | none => none

theorem ccall_eq (F : FuncId → Option AFun) (X : FuncId → Option (List Value → AHeap → ND (Value × AHeap))) : ∀ n, ccall P F X n = acall P F X n
  | 0 => rfl
  | n + 1 => by
    have ih := ccall_eq F X n
    funext f args σ
    simp only [ccall, acall]
    cases X f with
    | some x => rfl
    | none =>
      simp only
      cases F f with
      | none => rfl
      | some af =>
        have hm := fun args k => makeC_eq (β := ND (Value × AHeap)) (List.range af.params) args k
        simp only [cfun]
        have hb := ccode_eq P af.body (cret P af.res) (fun _ => .mk fun _ _ _ _ => none) (cret P af.res) (acall P F X n) n
        cases hk : ccode P af.body (cret P af.res) (fun _ => .mk fun _ _ _ _ => none) (cret P af.res) with
        | mk k =>
          cases hmm : makeC (β := ND (Value × AHeap)) (List.range af.params) with
          | mk m =>
            rw [hk] at hb
            rw [hmm] at hm
            simp only [Bx.un_mk] at hb hm ⊢
            rw [ih]
            simp only [hm, hb]
            rfl
end
end Go.Ax
