/- What the abstract interpreter comes to is what the machine comes to: frames, regions in the order of the text. No statement of the seat is proved here. -/
import Derived.Test.YtfeamgocomlepaaAx11
namespace Go.Ax
open Go.RowKit

structure FR (N : Nat) (ρ : List RB) (fr : Fr) (a : Act) : Prop where
  val : ∀ t, VR ρ (fget fr t) (a.tmps.getD t undef)
  defers : a.defers = []
  size : a.tmps.size = N

section
variable {P : Program} {B : Nat} {w0 : World} {ρ : List RB} {σ : AHeap} {w : World} {N : Nat} {fr : Fr} {a : Act}

theorem FR.mono {ρ' : List RB} (e : Ext ρ ρ') (h : FR N ρ fr a) : FR N ρ' fr a := ⟨fun t => (h.val t).mono e, h.defers, h.size⟩

theorem FR.put (h : FR N ρ fr a) {v v' : Value} (hv : VR ρ v v') {dst : Option Tmp} (hd : ∀ d, dst = some d → d < N) : FR N ρ (fput fr dst v) (a.put dst v') := by
  cases dst with
  | none => exact h
  | some d =>
    have hdN := hd d rfl
    refine ⟨fun t => ?_, h.defers, by simp [Act.put, h.size]⟩
    simp only [fput, fget_set, Act.put]
    by_cases ht : t = d
    · subst ht
      have : t < a.tmps.size := by rw [h.size]; exact hdN
      simp [this, Array.getD_eq_getD_getElem?]
      exact hv
    · have hne : ¬ d = t := fun e => ht e.symm
      rw [if_neg ht]
      have := h.val t
      simpa [Array.getD_eq_getD_getElem?, Array.getElem?_setIfInBounds, hne] using this

theorem FR.setb (h : FR N ρ fr a) {t : Nat} {b : Bool} (ht : fget fr t = .bool b) : FR N ρ (fr.set t (.bool b)) a := by
  refine ⟨fun u => ?_, h.defers, h.size⟩
  rw [fget_set]
  split
  · rename_i e; subst e; rw [← ht]; exact h.val u
  · exact h.val u

theorem FR.ev (h : FR N ρ fr a) (x : Operand) : VR ρ (fev fr x) (a.eval x) := by
  cases x with
  | tmp t => exact h.val t
  | const v =>
    simp only [fev, Act.eval]
    cases hc : v.cells.toList.all flat1 with
    | false => exact .dead _
    | true =>
      simp only [cond_true]
      cases v with
      | agg c => exact VR.agg' (flats_refl ρ hc)
      | tuple c =>
        simp [Value.cells, flat1] at hc
      | _ => exact flat1_refl ρ (by simpa [Value.cells] using hc)
  | func f => exact .func _ _ _ _ _ rfl rfl (fun i v v' x => by simp at x) (fun i v v' x => by simp at x)
  | global g => exact .dead _

theorem fmake_get (L : List Nat) (fr : Fr) (t : Nat) : fget (fmake L (fpick L fr)) t = fget fr t ∨ fget (fmake L (fpick L fr)) t = undef := by
  induction L with
  | nil => right; exact fget_leaf t
  | cons u L ih =>
    simp only [fpick, List.map_cons, fmake, fget_set]
    split
    · rename_i e; subst e; exact .inl rfl
    · exact ih

theorem FR.make (h : FR N ρ fr a) (L : List Nat) : FR N ρ (fmake L (fpick L fr)) a := by
  refine ⟨fun t => ?_, h.defers, h.size⟩
  rcases fmake_get L fr t with e | e
  · rw [e]; exact h.val t
  · rw [e]; exact .dead _

theorem VR.bool_of {x : Value} {b : Bool} (h : VR ρ (.bool b) x) : x = .bool b := h.bool_inv

theorem FR.yielded (h : FR N ρ fr a) {all : List Oper} {j t : Nat} {b : Bool} (hj : (all[j]?).bind (·.dst) = some t) (hb : fget fr t = .bool b) : yielded all.toArray a.tmps j = some b := by
  have hv := h.val t
  rw [hb] at hv
  have hv := hv.bool_inv
  have ht : a.tmps[t]? = some (.bool b) := by
    rw [Array.getD_eq_getD_getElem?] at hv
    cases hx : a.tmps[t]? with
    | none => rw [hx] at hv; simp [undef] at hv
    | some v => rw [hx] at hv; simp at hv; rw [hv]
  unfold Go.yielded
  have hj' : ((all.toArray[j]?).bind (·.dst)) = some t := by simpa using hj
  rw [hj']
  simp [ht]

theorem yielded_skip {all : List Oper} {j t : Nat} (hj : (all[j]?).bind (·.dst) = some t) {tmps : Array Value} (hv : tmps.getD t undef = undef) : yielded all.toArray tmps j = none := by
  unfold Go.yielded
  have hj' : ((all.toArray[j]?).bind (·.dst)) = some t := by simpa using hj
  rw [hj']
  rw [Array.getD_eq_getD_getElem?] at hv
  simp only [Option.bind_some]
  cases hx : tmps[t]? with
  | none => rfl
  | some v => rw [hx] at hv; simp at hv; rw [hv]; rfl

/-- What follows: whatever frame, heap and world stand for one another there. -/
def KS (B : Nat) (w0 : World) (N : Nat) (ρ : List RB) {β : Type} (R : List β) (k : K β) (Q : Act → World → Prop) : Prop :=
  ∀ ρ' fr σ a w R', Ext ρ ρ' → FR N ρ' fr a → Rel B w0 ρ' σ w → k fr σ = some R' → (∀ r ∈ R', r ∈ R) → Q a w

theorem KS.mono {ρ' : List RB} (e : Ext ρ ρ') {β : Type} {R : List β} {k : K β} {Q : Act → World → Prop} (h : KS B w0 N ρ R k Q) : KS B w0 N ρ' R k Q :=
  fun ρ2 fr σ a w R' e2 => h ρ2 fr σ a w R' (e.trans e2)

/-- A function's contract by the abstract interpreter. -/
def CallOk (P : Program) (call : CallF) : Prop :=
  ∀ g args σ R, call g args σ = some R → ∀ B w0 ρ w args', Rel B w0 ρ σ w → LR ρ args args' →
    ∃ fn, P.funcs[g]? = some fn ∧ (fn.name == "runtime.NumGoroutine") = false ∧
      ((fn.body.isNone = false ∧ Calls P g args'.toArray w fun e w' => ∃ v v' ρ' σ', (v, σ') ∈ R ∧ e = .returned v' ∧ Ext ρ ρ' ∧ Rel B w0 ρ' σ' w' ∧ VR ρ' v v') ∨
       (∃ v v' ρ' σ' w', (v, σ') ∈ R ∧ (callFunc g args'.toArray).run P w = .ok (.value v') w' ∧ Ext ρ ρ' ∧ Rel B w0 ρ' σ' w' ∧ VR ρ' v v'))

theorem run_callFunc {g : FuncId} {fn : Func} {args : Array Value} (hf : P.funcs[g]? = some fn) (hn : (fn.name == "runtime.NumGoroutine") = false) (hb : fn.body.isNone = false) :
    (callFunc g args).run P w = .ok (.enter g args) w := by
  simp only [beq_eq_false_iff_ne, ne_eq] at hn
  cases hbb : fn.body with
  | none => rw [hbb] at hb; simp at hb
  | some c => simp [callFunc, program, Sem.run, hf, hn, hbb]

/-- What an operation's operands look at. -/
theorem aop_congr {ev ev' : Operand → Value} {o : Oper} (h : ∀ x ∈ o.op.operands, ev x = ev' x) : aop P ev o σ = aop P ev' o σ := by
  obtain ⟨dst, op, type, pos, after, guard⟩ := o
  have key : ∀ (l : List (Nat × Operand)), (∀ p ∈ l, ev p.2 = ev' p.2) → (l.map fun p => (p.1, ev p.2)) = l.map fun p => (p.1, ev' p.2) := by
    intro l hl
    apply List.map_congr_left
    intro p hp
    rw [hl p hp]
  have key2 : ∀ (l : List Operand), (∀ p ∈ l, ev p = ev' p) → l.map ev = l.map ev' := by
    intro l hl
    exact List.map_congr_left hl
  have key3 : ∀ (l : Option Operand), (∀ p ∈ l, ev p = ev' p) → l.map ev = l.map ev' := by
    intro l hl
    cases l with
    | none => rfl
    | some x => simp [hl x rfl]
  unfold aop
  cases op <;> simp only [Op.operands] at h <;> try rfl
  case call c =>
    simp only [Call.operands] at h
    cases hc : c.callee with
    | builtin b =>
      rw [hc] at h
      simp only
      rw [key2 c.args.toList (fun p hp => h p (by simpa using hp))]
    | _ => simp only [hc]
  case build t ps => simp only; rw [key ps.toList (fun p hp => h p.2 (by simp; exact ⟨p.1, by simpa using hp⟩))]
  case buildSlice t n ps => simp only; rw [key ps.toList (fun p hp => h p.2 (by simp; exact ⟨p.1, by simpa using hp⟩))]
  case makeFunc fn f c => simp only; rw [key2 f.toList (fun p hp => h p (by simp; left; simpa using hp)), key2 c.toList (fun p hp => h p (by simp; right; simpa using hp))]
  case slice t x lo hi mx =>
    simp only
    rw [h x (by simp), key3 lo (fun p hp => h p (by simp; cases lo <;> simp_all)), key3 hi (fun p hp => h p (by simp; cases hi <;> simp_all)), key3 mx (fun p hp => h p (by simp; cases mx <;> simp_all))]
  all_goals simp only
  case move x => rw [h x (by simp)]
  case assign x => rw [h x (by simp)]
  case pick c a b => rw [h c (by simp), h a (by simp), h b (by simp)]
  case box e x => rw [h x (by simp)]
  case load t x => rw [h x (by simp)]
  case store t x y => rw [h x (by simp), h y (by simp)]
  case nilCheck x => rw [h x (by simp)]
  case binOp op t x y ty => rw [h x (by simp), h y (by simp)]
  case unOp op t x => rw [h x (by simp)]
  case convert s d x => rw [h x (by simp)]
  case makeInterface t x => rw [h x (by simp)]
  case makeSlice t x y => rw [h x (by simp), h y (by simp)]
  case fieldAddr t x f => rw [h x (by simp)]
  case field t x f => rw [h x (by simp)]
  case indexAddr t x i => rw [h x (by simp), h i (by simp)]
  case index t x i => rw [h x (by simp), h i (by simp)]
  case extract x i => rw [h x (by simp)]
  case makeMap t r => rw [key3 r (fun p hp => h p (by simpa using hp))]
  case lookup t x i ok => rw [h x (by simp), h i (by simp)]
  case mapUpdate t m k x => rw [h m (by simp), h k (by simp), h x (by simp)]
  case range t x => rw [h x (by simp)]
  case next it str => rw [h it (by simp)]
  case entry it => rw [h it (by simp)]
  case typeAssert x xt t ok => rw [h x (by simp)]

theorem invoke_method (x : Value) (l cap : Array Value) (name : String) : invoke (.fn (.method name) cap) (#[x] ++ l) = callMethod x name l := by
  have h0 : (#[x] ++ l)[0]? = some x := by simp [Array.getElem?_append]
  have h1 : (#[x] ++ l).extract 1 (#[x] ++ l).size = l := by apply Array.ext'; simp [List.take_of_length_le]
  simp only [invoke, h0, h1]

theorem aval_sound {call : CallF} (hcall : CallOk P call) {o : Oper} {ev : Operand → Value} {L : List (Value × AHeap)} {next : Act → World → Prop} {Q : Exit → Act → World → Prop}
    (hev : ∀ x ∈ o.op.operands, VR ρ (ev x) (a.eval x)) (h : Rel B w0 ρ σ w) (hr : aval P call ev o σ = some L)
    (hk : ∀ v σ' ρ' v' w', (v, σ') ∈ L → Ext ρ ρ' → Rel B w0 ρ' σ' w' → VR ρ' v v' → next (a.put o.dst v') w') :
    o.wp P a w next Q := by
  have plain : (match aop P ev o σ with
      | some r => some [r]
      | none => none) = some L → o.wp P a w next Q := by
    intro hr
    split at hr
    · rename_i y hy
      cases hr
      have hex : ∃ ev' : Operand → Value, (∀ x ∈ o.op.operands, ev x = ev' x) ∧ ∀ x, VR ρ (ev' x) (a.eval x) := by
        classical
        refine ⟨fun x => if x ∈ o.op.operands then ev x else undef, fun x hx => (if_pos hx).symm, fun x => ?_⟩
        simp only
        split
        · rename_i hx; exact hev x hx
        · exact .dead _
      obtain ⟨ev', he1, he2⟩ := hex
      rw [aop_congr he1] at hy
      obtain ⟨n, w', ρ', v', e1, e2, e3, e4, e5⟩ := aop_sound h he2 hy
      unfold Oper.wp
      rw [e1]
      have hfin := hk y.1 y.2 ρ' v' w' (by simp) e3 e4 e5
      rcases e2 with rfl | ⟨rfl, rfl⟩
      · exact hfin
      · exact hfin
    · cases hr
  unfold aval at hr
  split at hr
  · rename_i c hop
    split at hr
    · rename_i f hcal
      split at hr
      · rename_i g first captured hfv
        have hev2 : ∀ x ∈ c.args.toList, VR ρ (ev x) (a.eval x) := fun x hx => hev x (by rw [hop]; simp only [Op.operands, Call.operands, hcal]; simp; right; simpa using hx)
        have hev1 := hev f (by rw [hop]; simp only [Op.operands, Call.operands, hcal]; simp)
        rw [hfv] at hev1
        generalize hfa : a.eval f = fa at hev1
        cases hev1 with
        | func fn f1 f' c1 c' h1 h2 h3 h4 =>
          have hfirst := LR.of_arr h1 h3
          have hcap := LR.of_arr h2 h4
          have hmid : LR ρ (c.args.toList.map ev) (c.args.toList.map a.eval) := by
            refine ⟨by simp, fun i v v' x y => ?_⟩
            simp only [List.getElem?_map, Option.map_eq_some_iff] at x y
            obtain ⟨u, hu, rfl⟩ := x
            obtain ⟨u', hu', rfl⟩ := y
            rw [hu] at hu'; cases hu'
            exact hev2 u (List.mem_of_getElem? hu)
          have hargs : LR ρ (first.toList ++ c.args.toList.map ev ++ captured.toList) (f'.toList ++ c.args.toList.map a.eval ++ c'.toList) :=
            (hfirst.append hmid).append hcap
          obtain ⟨fn, hfn, hname, hor⟩ := hcall g _ σ L hr B w0 ρ w _ h hargs
          have harr : (f'.toList ++ c.args.toList.map a.eval ++ c'.toList).toArray = f' ++ c.args.map a.eval ++ c' := by apply Array.ext'; simp
          rw [harr] at hor
          have hexec : (execOp a.eval o).run P w = (callFunc g (f' ++ c.args.map a.eval ++ c')).run P w := by
            have : o = { o with op := .call c } := by rw [← hop]
            rw [this]
            simp [execOp, resolve, hcal, Deferred.ofValue, hfa, invoke]
          unfold Oper.wp
          rw [hexec]
          rcases hor with ⟨hb, hc⟩ | ⟨v, v', ρ', σ', w', hm, hrun, e1, e2, e3⟩
          · rw [run_callFunc hfn hname hb]
            refine Calls.mono hc fun e w' he => ?_
            obtain ⟨v, v', ρ', σ', hm, rfl, e1, e2, e3⟩ := he
            exact hk v σ' ρ' v' w' hm e1 e2 e3
          · rw [hrun]
            exact hk v σ' ρ' v' w' hm e1 e2 e3
      · cases hr
    · rename_i r name hcal
      split at hr
      · rename_i g v0 hmv
        have hev2 : ∀ x ∈ c.args.toList, VR ρ (ev x) (a.eval x) := fun x hx => hev x (by rw [hop]; simp only [Op.operands, Call.operands, hcal]; simp; right; simpa using hx)
        have hev1 := hev r (by rw [hop]; simp only [Op.operands, Call.operands, hcal]; simp)
        obtain ⟨t, u, v1, hru, hmeth, hv1⟩ := aMethod_sound (P := P) h hev1 hmv
        have hmid : LR ρ (c.args.toList.map ev) (c.args.toList.map a.eval) := by
          refine ⟨by simp, fun i v v' x y => ?_⟩
          simp only [List.getElem?_map, Option.map_eq_some_iff] at x y
          obtain ⟨u, hu, rfl⟩ := x
          obtain ⟨u', hu', rfl⟩ := y
          rw [hu] at hu'; cases hu'
          exact hev2 u (List.mem_of_getElem? hu)
        obtain ⟨fn, hfn, hname, hor⟩ := hcall g _ σ L hr B w0 ρ w _ h (LR.cons hv1 hmid)
        have harr : (v1 :: c.args.toList.map a.eval).toArray = #[v1] ++ c.args.map a.eval := by apply Array.ext'; simp
        rw [harr] at hor
        have hexec : (execOp a.eval o).run P w = (callFunc g (#[v1] ++ c.args.map a.eval)).run P w := by
          have : o = { o with op := .call c } := by rw [← hop]
          rw [this]
          have hm := hmeth (P.types.size + Made.depth) (by simp [Made.depth])
          simp only [execOp, resolve, hcal, pure_bind]
          rw [invoke_method, hru]
          simp [callMethod, hm]
        unfold Oper.wp
        rw [hexec]
        rcases hor with ⟨hb, hc⟩ | ⟨v, v', ρ', σ', w', hm, hrun, e1, e2, e3⟩
        · rw [run_callFunc hfn hname hb]
          refine Calls.mono hc fun e w' he => ?_
          obtain ⟨v, v', ρ', σ', hm, rfl, e1, e2, e3⟩ := he
          exact hk v σ' ρ' v' w' hm e1 e2 e3
        · rw [hrun]
          exact hk v σ' ρ' v' w' hm e1 e2 e3
      · cases hr
    · exact plain hr
  · rename_i it hop
    obtain ⟨y, hyL, v', w', e1, e2, e3⟩ := aNextMap_sound (P := P) (t := o.type) h (hev it (by rw [hop]; simp [Op.operands])) hr
    have hexec : (execOp a.eval o).run P w = .ok (.value v') w' := by
      have : o = { o with op := .next it false } := by rw [← hop]
      rw [this]
      simp [execOp, e1]
    unfold Oper.wp
    rw [hexec]
    exact hk y.1 y.2 ρ v' w' hyL (Ext.refl _) e2 e3
  · exact plain hr

theorem aone_sound {call : CallF} (hcall : CallOk P call) {o : Oper} (ho : ∀ d, o.dst = some d → d < N) {β : Type} {k : K β} {R : List β} {next : Act → World → Prop} {Q : Exit → Act → World → Prop}
    (hk : KS B w0 N ρ R k next) (hf : FR N ρ fr a) (h : Rel B w0 ρ σ w) {R' : List β} (hr : aone P call o k fr σ = some R') (hR : ∀ r ∈ R', r ∈ R) :
    o.wp P a w next Q := by
  obtain ⟨L, hL, hall⟩ := bindL_some hr
  refine aval_sound hcall (fun x _ => hf.ev x) h hL fun v σ' ρ' v' w' hm e1 e2 e3 => ?_
  obtain ⟨R2, hR2, hsub⟩ := hall _ hm
  exact hk ρ' _ σ' _ w' R2 e1 ((hf.mono e1).put e3 ho) e2 hR2 fun r hr => hR r (hsub r hr)

def dstOk (N : Nat) (o : Oper) : Bool :=
  match o.dst with
  | none => true
  | some d => Nat.blt d N

theorem dstOk_spec {o : Oper} (h : dstOk N o = true) : ∀ d, o.dst = some d → d < N := by
  intro d hd
  unfold dstOk at h
  rw [hd] at h
  simpa using h

theorem aguard_sound {all : List Oper} {o : Oper} {β : Type} {yes no : K β} {R' : List β} (hf : FR N ρ fr a) (hr : aguard all o yes no fr σ = some R') :
    (Region.wanted o (yielded all.toArray a.tmps) = true ∧ ∃ fr', FR N ρ fr' a ∧ yes fr' σ = some R') ∨
    (Region.wanted o (yielded all.toArray a.tmps) = false ∧ ∃ fr', FR N ρ fr' a ∧ no fr' σ = some R') := by
  unfold aguard at hr
  split at hr
  · rename_i hg; exact .inl ⟨by simp [Region.wanted, hg], fr, hf, hr⟩
  · rename_i j want hg
    split at hr
    · rename_i t ht
      split at hr
      · rename_i hb
        have hb' : fget fr t = .bool true := by
          unfold asB at hb; split at hb
          · rename_i e; cases hb; exact e
          · cases hb
        have hy := hf.yielded ht hb'
        cases want with
        | true => exact .inl ⟨by simp [Region.wanted, hg, hy], _, hf.setb hb', hr⟩
        | false => exact .inr ⟨by simp [Region.wanted, hg, hy], _, hf.setb hb', hr⟩
      · rename_i hb
        have hb' : fget fr t = .bool false := by
          unfold asB at hb; split at hb
          · rename_i e; cases hb; exact e
          · cases hb
        have hy := hf.yielded ht hb'
        cases want with
        | true => exact .inr ⟨by simp [Region.wanted, hg, hy], _, hf.setb hb', hr⟩
        | false => exact .inl ⟨by simp [Region.wanted, hg, hy], _, hf.setb hb', hr⟩
      · cases hs : isSkip (fget fr t) with
        | false => rw [hs] at hr; cases hr
        | true =>
          rw [hs] at hr
          have hv := (hf.val t).isSkip hs
          have hy := yielded_skip (all := all) ht hv
          exact .inr ⟨by simp [Region.wanted, hg, hy], fr, hf, hr⟩
    · cases hr

theorem aops_sound {call : CallF} (hcall : CallOk P call) {all : List Oper} {β : Type} {kn : K β} {R : List β} {Q : Exit → Act → World → Prop} :
    ∀ (os : List Oper) (i : Nat), all.drop i = os → (∀ o ∈ os, dstOk N o = true) → ∀ ρ fr σ a w R', KS B w0 N ρ R kn (Q .normal) → FR N ρ fr a → Rel B w0 ρ σ w →
      aops P call all os kn fr σ = some R' → (∀ r ∈ R', r ∈ R) → wpOps P all.toArray Q (List.range' i os.length) a w := by
  intro os
  induction os with
  | nil =>
    intro i hd _ ρ fr σ a w R' hk hf h hr hR
    simp only [List.length_nil, List.range'_zero, wpOps]
    exact hk ρ fr σ a w R' (Ext.refl _) hf h hr hR
  | cons o os ih =>
    intro i hd hdst ρ fr σ a w R' hk hf h hr hR
    have hoi : all[i]? = some o := by
      have := congrArg (·[0]?) hd
      simpa using this
    have hd' : all.drop (i + 1) = os := by
      have := congrArg List.tail hd
      simpa using this
    have ho := dstOk_spec (hdst o (by simp))
    simp only [List.length_cons, List.range'_succ, wpOps]
    have hoi' : all.toArray[i]? = some o := by simpa using hoi
    rw [hoi']
    simp only
    unfold aops at hr
    rcases aguard_sound hf hr with ⟨hw, fr', hf', hr'⟩ | ⟨hw, fr', hf', hr'⟩
    · rw [if_pos hw]
      refine .inl (aone_sound hcall ho (R := R) (next := wpOps P all.toArray Q (List.range' (i + 1) os.length)) ?_ hf' h hr' hR)
      intro ρ2 fr2 σ2 a2 w2 R2 e2 hf2 h2 hr2 hR2
      exact ih (i + 1) hd' (fun o ho => hdst o (by simp [ho])) ρ2 fr2 σ2 a2 w2 R2 (hk.mono e2) hf2 h2 hr2 hR2
    · rw [if_neg (by simp [hw])]
      exact ih (i + 1) hd' (fun o ho => hdst o (by simp [ho])) ρ _ σ _ w R' hk (hf'.put .skp ho) h hr' hR
end
end Go.Ax
