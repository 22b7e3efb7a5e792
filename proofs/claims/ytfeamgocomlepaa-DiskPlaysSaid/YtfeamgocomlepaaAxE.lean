/- Regions whose order Go leaves open: the proof. No statement of the seat is proved here. -/
import Derived.Test.YtfeamgocomlepaaAxD
namespace Go.Ax
open Go.RowKit

def wantA (all : List Oper) (o : Oper) (fr : Fr) : Option Bool :=
  match o.guard with
  | none => some true
  | some (j, want) => match (all[j]?).bind (·.dst) with
    | some t => match asB (fget fr t) with
      | some b => some (b == want)
      | none => cond (isSkip (fget fr t)) (some false) none
    | none => none

def FEq (fr fr' : Fr) : Prop := ∀ t, fget fr t = fget fr' t

theorem FEq.ev {fr fr' : Fr} (h : FEq fr fr') : fev fr = fev fr' := by
  funext x
  cases x with
  | tmp t => exact h t
  | _ => rfl

theorem asB_inv {v : Value} {b : Bool} (h : asB v = some b) : v = .bool b := by
  unfold asB at h
  split at h
  · cases h; rfl
  · cases h

theorem setb_feq {fr : Fr} {t : Nat} {b : Bool} (h : fget fr t = .bool b) : FEq (fr.set t (.bool b)) fr := by
  intro u
  rw [fget_set]
  split
  · rename_i e; subst e; exact h.symm
  · rfl

theorem aguard_inv {all : List Oper} {o : Oper} {β : Type} {yes no : K β} {fr : Fr} {σ : AHeap} {R' : List β} (h : aguard all o yes no fr σ = some R') :
    ∃ wb fr', wantA all o fr = some wb ∧ FEq fr' fr ∧ (if wb then yes else no) fr' σ = some R' := by
  unfold aguard at h
  unfold wantA
  cases hg : o.guard with
  | none => rw [hg] at h; exact ⟨true, fr, rfl, fun _ => rfl, h⟩
  | some p =>
    obtain ⟨j, want⟩ := p
    rw [hg] at h
    simp only at h ⊢
    cases ht : (all[j]?).bind (·.dst) with
    | none => rw [ht] at h; cases h
    | some t =>
      rw [ht] at h
      simp only at h ⊢
      cases hb : asB (fget fr t) with
      | none =>
        rw [hb] at h
        simp only at h ⊢
        cases hs : isSkip (fget fr t) with
        | false => rw [hs] at h; cases h
        | true => rw [hs] at h; exact ⟨false, fr, rfl, fun _ => rfl, h⟩
      | some bb =>
        rw [hb] at h
        cases bb with
        | true =>
          cases want with
          | true => exact ⟨true, _, rfl, setb_feq (asB_inv hb), h⟩
          | false => exact ⟨false, _, rfl, setb_feq (asB_inv hb), h⟩
        | false =>
          cases want with
          | true => exact ⟨false, _, rfl, setb_feq (asB_inv hb), h⟩
          | false => exact ⟨true, _, rfl, setb_feq (asB_inv hb), h⟩

theorem wantA_congr {all : List Oper} {o : Oper} {fr fr' : Fr} (h : ∀ t ∈ looks all o, fget fr t = fget fr' t) : wantA all o fr = wantA all o fr' := by
  unfold wantA
  split
  · rfl
  · rename_i j want hg
    split
    · rename_i t ht
      rw [h t (looks_guard hg ht)]
    · rfl

theorem fev_congr {all : List Oper} {o : Oper} {fr fr' : Fr} (h : ∀ t ∈ looks all o, fget fr t = fget fr' t) : ∀ x ∈ o.op.operands, fev fr x = fev fr' x := by
  intro x hx
  cases x with
  | tmp t => exact h t (looks_operand hx)
  | _ => rfl

section
variable {P : Program} {B : Nat} {w0 : World} {N : Nat} {all : List Oper} {call : CallF}

theorem aval_float {ev : Operand → Value} {o : Oper} {σ : AHeap} (hf : floatB o.op = true) : aval P call ev o σ = match aop P ev o σ with
    | some r => some [r]
    | none => none := by
  unfold aval
  split
  · rename_i c hc
    rw [hc] at hf
    split
    · rename_i f hcal
      simp [floatB, quietB, readB, hcal] at hf
    · rename_i r n hcal
      simp [floatB, quietB, readB, hcal] at hf
    · rfl
  · rename_i it hc
    rw [hc] at hf
    simp [floatB, quietB, readB] at hf
  · rfl

theorem wanted_of {o : Oper} {fr : Fr} {a : Act} {ρ : List RB} {wb : Bool} (hw : wantA all o fr = some wb) (hv : ∀ t ∈ looks all o, VR ρ (fget fr t) (a.tmps.getD t undef)) :
    Region.wanted o (yielded all.toArray a.tmps) = wb := by
  unfold wantA at hw
  split at hw
  · rename_i hg; cases hw; simp [Region.wanted, hg]
  · rename_i j want hg
    split at hw
    · rename_i t ht
      split at hw
      · rename_i bb hb
        cases hw
        have hvt := hv t (looks_guard hg ht)
        rw [asB_inv hb] at hvt
        have hvt := hvt.bool_inv
        have ht2 : a.tmps[t]? = some (.bool bb) := by
          rw [Array.getD_eq_getD_getElem?] at hvt
          cases hx : a.tmps[t]? with
          | none => rw [hx] at hvt; simp [undef] at hvt
          | some v => rw [hx] at hvt; simp at hvt; rw [hvt]
        have hy : yielded all.toArray a.tmps j = some bb := by
          unfold Go.yielded
          have hj' : ((all.toArray[j]?).bind (·.dst)) = some t := by simpa using ht
          rw [hj']
          simp [ht2]
        simp [Region.wanted, hg, hy]
      · cases hs : isSkip (fget fr t) with
        | false => rw [hs] at hw; cases hw
        | true =>
          rw [hs] at hw
          cases hw
          have hvt := (hv t (looks_guard hg ht)).isSkip hs
          have hy := yielded_skip (all := all) ht hvt
          simp [Region.wanted, hg, hy]
    · cases hw

theorem arecheck_inv {β : Type} {k : K β} : ∀ (chk : List Nat) (fr : Fr) (σ : AHeap) (R' : List β), arecheck P all chk k fr σ = some R' →
    ∃ fr2, FEq fr2 fr ∧ k fr2 σ = some R' ∧ ∀ q ∈ chk, ∀ oq, all[q]? = some oq → wantA all oq fr = some false ∨ (wantA all oq fr = some true ∧ ∃ d σ'', oq.dst = some d ∧ aop P (fev fr) oq σ = some (fget fr d, σ''))
  | [], fr, σ, R', h => ⟨fr, fun _ => rfl, h, fun q hq => by simp at hq⟩
  | q :: qs, fr, σ, R', h => by
    simp only [arecheck] at h
    split at h
    · cases h
    · rename_i o ho
      obtain ⟨wb, fr', hw, hfe, h⟩ := aguard_inv h
      cases wb with
      | false =>
        simp only [Bool.false_eq_true, if_false] at h
        obtain ⟨fr2, e1, e2, e3⟩ := arecheck_inv qs fr' σ R' h
        refine ⟨fr2, fun t => (e1 t).trans (hfe t), e2, fun q' hq' oq hoq => ?_⟩
        rcases List.mem_cons.1 hq' with rfl | hq'
        · rw [ho] at hoq; cases hoq; exact .inl hw
        · have := e3 q' hq' oq hoq
          rw [wantA_congr (fr' := fr) (fun t _ => hfe t), hfe.ev] at this
          rcases this with h1 | ⟨h1, d, σ'', h2, h3⟩
          · exact .inl h1
          · exact .inr ⟨h1, d, σ'', h2, by rw [← hfe d]; exact h3⟩
      | true =>
        simp only [if_true] at h
        split at h
        · rename_i v σ'' d hv hd
          cases hb : veq1 v (fget fr' d) with
          | false => rw [hb] at h; cases h
          | true =>
            rw [hb] at h
            simp only [cond_true] at h
            obtain ⟨fr2, e1, e2, e3⟩ := arecheck_inv qs fr' σ R' h
            refine ⟨fr2, fun t => (e1 t).trans (hfe t), e2, fun q' hq' oq hoq => ?_⟩
            rcases List.mem_cons.1 hq' with rfl | hq'
            · rw [ho] at hoq; cases hoq
              refine .inr ⟨hw, d, σ'', hd, ?_⟩
              rw [← hfe.ev, hv, veq1_sound hb, hfe d]
            · have := e3 q' hq' oq hoq
              rw [wantA_congr (fr' := fr) (fun t _ => hfe t), hfe.ev] at this
              rcases this with h1 | ⟨h1, d, σ'', h2, h3⟩
              · exact .inl h1
              · exact .inr ⟨h1, d, σ'', h2, by rw [← hfe d]; exact h3⟩
        · cases h

theorem Bef.lt (hE : edgesOk all = true) {j i : Nat} (h : Bef all j i) : j < i := by
  have key : ∀ i o e, all[i]? = some o → e ∈ o.after.toList → Region.binds .any e = true → e.on < i := by
    intro i o e ho he hb
    have hlt := (List.getElem?_eq_some_iff.1 ho).1
    have := List.all_eq_true.1 hE i (List.mem_range.2 hlt)
    rw [ho] at this
    have := List.all_eq_true.1 this e he
    rw [hb] at this
    simpa using this
  induction h with
  | edge i o e ho he hb => exact key i o e ho he hb
  | trans i j o e ho he hb _ ih => exact Nat.lt_trans ih (key i o e ho he hb)

/-- A float that has been taken abstractly and not yet by the machine. -/
def GF (P : Program) (all : List Oper) (pre : List Nat) (fr0 fr : Fr) (σ : AHeap) (q : Nat) (oq : Oper) : Prop :=
  ∃ frq d, oq.dst = some d ∧
    (∀ t ∈ looks all oq, (∃ k ok, k ∈ pre ∧ all[k]? = some ok ∧ ok.dst = some t ∧ isB (befs all []) k q = true) → fget frq t = fget fr t) ∧
    (∀ t ∈ looks all oq, (¬ ∃ k ok, k ∈ pre ∧ all[k]? = some ok ∧ ok.dst = some t ∧ isB (befs all []) k q = true) → fget frq t = fget fr0 t) ∧
    ((wantA all oq frq = some true ∧ aop P (fev frq) oq σ = some (fget fr d, σ)) ∨ (wantA all oq frq = some false ∧ fget fr d = skipV))

structure DInv (P : Program) (N : Nat) (all : List Oper) (pre : List Nat) (fr0 fr : Fr) (σ : AHeap) (ρ : List RB) (S : Nat → Prop) (a : Act) : Prop where
  sub : ∀ i, S i → i ∈ pre
  spine : ∀ i o, i ∈ pre → all[i]? = some o → floatB o.op = false → S i
  closed : Closed all S
  f1 : ∀ k ok t, S k → all[k]? = some ok → ok.dst = some t → VR ρ (fget fr t) (a.tmps.getD t undef)
  f2 : ∀ t, (∀ k ok, S k → all[k]? = some ok → ok.dst ≠ some t) → VR ρ (fget fr0 t) (a.tmps.getD t undef)
  f3 : ∀ t, (∀ k ok, k ∈ pre → all[k]? = some ok → ok.dst ≠ some t) → fget fr t = fget fr0 t
  dis : ∀ k k' ok ok' t, k ∈ pre → k' ∈ pre → all[k]? = some ok → all[k']? = some ok' → ok.dst = some t → ok'.dst = some t → k = k'
  pw : ∀ k q ok oq t, k ∈ pre → q ∈ pre → k ≠ q → all[k]? = some ok → all[q]? = some oq → ok.dst = some t → t ∈ looks all oq → isB (befs all []) k q = true ∨ isB (befs all []) q k = true
  defers : a.defers = []
  size : a.tmps.size = N
  dst : ∀ k ok d, k ∈ pre → all[k]? = some ok → ok.dst = some d → d < N
  flt : ∀ k ok, k ∈ pre → all[k]? = some ok → floatB ok.op = true → ok.dst ≠ none
  ins : ∀ k, k ∈ pre → ∃ ok, all[k]? = some ok
  g : ∀ q oq, q ∈ pre → ¬ S q → all[q]? = some oq → GF P all pre fr0 fr σ q oq

theorem pairOk_inv {b : List Nat} {chk : List Nat} {k i : Nat} {ok o : Oper} (h : pairOk all b chk k i ok o = true) :
    k ≠ i ∧ isB b i k = false ∧ (∀ d d', ok.dst = some d → o.dst = some d' → d ≠ d') ∧ (∀ d, ok.dst = some d → d ∈ looks all o → isB b k i = true) ∧
    (∀ d, o.dst = some d → d ∈ looks all ok → isB b k i = true) ∧ (floatB ok.op = false → isB b k i = true) ∧
    (floatB o.op = false → readB ok.op = true → isB b k i = false → k ∈ chk) := by
  unfold pairOk at h
  simp only [Bool.and_eq_true, Bool.not_eq_true', Bool.or_eq_true] at h
  obtain ⟨⟨⟨⟨⟨⟨h1, h2⟩, h3⟩, h4⟩, h5⟩, h6⟩, h7⟩ := h
  refine ⟨fun e => by subst e; simp at h1, h2, fun d d' hd hd' e => ?_, fun d hd hm => ?_, fun d hd hm => ?_, fun hf => ?_, fun hf hr hb => ?_⟩
  · rw [hd, hd'] at h3; subst e; simp at h3
  · rw [hd] at h4
    rcases (by simpa using h4 : d ∉ looks all o ∨ isB b k i = true) with h | h
    · exact absurd hm h
    · exact h
  · rw [hd] at h5
    rcases (by simpa using h5 : d ∉ looks all ok ∨ isB b k i = true) with h | h
    · exact absurd hm h
    · exact h
  · rcases h6 with h | h
    · rw [hf] at h; cases h
    · exact h
  · rcases h7 with ((h | h) | h) | h
    · rw [hf] at h; cases h
    · rw [hr] at h; cases h
    · rw [hb] at h; cases h
    · simpa using h

theorem dChk_inv {b : List Nat} {pre : List Nat} {i : Nat} {chk : List Nat} {post : List (Nat × List Nat)} (h : dChk N all b pre ((i, chk) :: post) = true) :
    ∃ o, all[i]? = some o ∧ (∀ d, o.dst = some d → d < N) ∧ (floatB o.op = true → o.dst ≠ none ∧ chk = []) ∧
      (∀ k ∈ pre, ∃ ok, all[k]? = some ok ∧ pairOk all b chk k i ok o = true) ∧ (∀ q ∈ chk, chkOk all b (i :: pre) q = true ∧ q ≠ i) ∧ dChk N all b (i :: pre) post = true := by
  simp only [dChk] at h
  split at h
  · cases h
  · rename_i o ho
    simp only [Bool.and_eq_true, List.all_eq_true, Bool.or_eq_true, Bool.not_eq_true'] at h
    obtain ⟨⟨⟨⟨⟨h1, h2⟩, h3⟩, h4⟩, h5⟩, h6⟩ := h
    refine ⟨o, ho, dstOk_spec h1, fun hf => ?_, fun k hk => ?_, fun q hq => ⟨h4 q hq, fun e => ?_⟩, h6⟩
    · rcases h2 with h2 | h2
      · rw [hf] at h2; cases h2
      · exact ⟨fun e => by rw [e] at h2; simp at h2, by simpa using h2.2⟩
    · have := h3 k hk
      split at this
      · rename_i ok hok; exact ⟨ok, hok, this⟩
      · cases this
    · have := h5 q hq
      subst e
      simp at this

theorem chkOk_inv {b : List Nat} {pre : List Nat} {q : Nat} (h : chkOk all b pre q = true) : ∃ oq, all[q]? = some oq ∧ floatB oq.op = true ∧ q ∈ pre ∧
    ∀ k ∈ pre, ∀ ok d, all[k]? = some ok → ok.dst = some d → d ∈ looks all oq → isB b k q = true := by
  unfold chkOk at h
  split at h
  · cases h
  · rename_i oq hoq
    simp only [Bool.and_eq_true, List.all_eq_true] at h
    obtain ⟨⟨⟨h1, h2⟩, h3⟩, h4⟩ := h
    refine ⟨oq, hoq, h1, by simpa using h3, fun k hk ok d hok hd hm => ?_⟩
    have := h4 k hk
    rw [hok] at this
    simp only [hd] at this
    rcases (by simpa using this : d ∉ looks all oq ∨ isB b k q = true) with h | h
    · exact absurd hm h
    · exact h

/-- A float is taken abstractly. -/
theorem DInv.advance (hE : edgesOk all = true) {pre : List Nat} {fr0 fr : Fr} {σ : AHeap} {ρ : List RB} {S : Nat → Prop} {a : Act} {i : Nat} {chk : List Nat} {post : List (Nat × List Nat)} {β : Type} {kn : K β} {R' : List β} {o : Oper}
    (h : DInv P N all pre fr0 fr σ ρ S a) (hc : dChk N all (befs all []) pre ((i, chk) :: post) = true) (ho : all[i]? = some o) (hf : floatB o.op = true)
    (hx : adops P call all ((i, chk) :: post) kn fr σ = some R') : ∃ fr', DInv P N all (i :: pre) fr0 fr' σ ρ S a ∧ adops P call all post kn fr' σ = some R' := by
  obtain ⟨o', ho', hdN, hflt, hpair, _, _⟩ := dChk_inv hc
  rw [ho] at ho'; cases ho'
  obtain ⟨hdn, rfl⟩ := hflt hf
  obtain ⟨d, hd⟩ : ∃ d, o.dst = some d := by cases h : o.dst with | none => exact absurd h hdn | some d => exact ⟨d, rfl⟩
  have hiS : ¬ S i := fun hs => by
    obtain ⟨ok, _, hp⟩ := hpair i (h.sub i hs)
    exact (pairOk_inv hp).1 rfl
  have hipre : i ∉ pre := fun hs => by
    obtain ⟨ok, _, hp⟩ := hpair i hs
    exact (pairOk_inv hp).1 rfl
  simp only [adops, ho] at hx
  obtain ⟨wb, fr1, hw, hfe, hx2⟩ := aguard_inv hx
  clear hx
  -- the value that is put
  have hval : ∃ v, ((wb = true ∧ aop P (fev fr) o σ = some (v, σ)) ∨ (wb = false ∧ v = skipV)) ∧ adops P call all post kn (fput fr1 o.dst v) σ = some R' := by
    cases wb with
    | false => exact ⟨skipV, .inr ⟨rfl, rfl⟩, by simpa using hx2⟩
    | true =>
      simp only [if_true] at hx2
      unfold aone at hx2
      rw [aval_float hf, hfe.ev] at hx2
      cases hv : aop P (fev fr) o σ with
      | none => rw [hv] at hx2; cases hx2
      | some r =>
        obtain ⟨v, σ'⟩ := r
        rw [hv] at hx2
        have hσ := aop_keep (by unfold floatB at hf; exact hf) hv
        rw [hσ] at hx2 ⊢
        exact ⟨v, .inl ⟨rfl, rfl⟩, hx2⟩
  obtain ⟨v, hv, hx⟩ := hval
  refine ⟨_, ?_, hx⟩
  have hget : ∀ t, fget (fput fr1 o.dst v) t = if t = d then v else fget fr t := by
    intro t
    rw [hd]
    simp only [fput, fget_set, hfe t]
  have hne : ∀ k ok t, k ∈ pre → all[k]? = some ok → ok.dst = some t → t ≠ d := by
    intro k ok t hk hok hkt e
    obtain ⟨ok', hok', hp⟩ := hpair k hk
    rw [hok] at hok'; cases hok'
    exact (pairOk_inv hp).2.2.1 t d hkt hd e
  refine ⟨fun k hk => List.mem_cons_of_mem _ (h.sub k hk), fun k ok hk hok hfk => ?_, h.closed, fun k ok t hk hok hkt => ?_, h.f2, fun t ht => ?_, ?_, ?_, h.defers, h.size, ?_, ?_, ?_, ?_⟩
  · rcases List.mem_cons.1 hk with rfl | hk
    · rw [ho] at hok; cases hok; rw [hf] at hfk; cases hfk
    · exact h.spine k ok hk hok hfk
  · rw [hget, if_neg (hne k ok t (h.sub k hk) hok hkt)]
    exact h.f1 k ok t hk hok hkt
  · rw [hget, if_neg (fun e => ht i o (by simp) ho (by rw [hd, e]))]
    exact h.f3 t fun k ok hk hok => ht k ok (by simp [hk]) hok
  · intro k k' ok ok' t hk hk' hok hok' hkt hkt'
    rcases List.mem_cons.1 hk with rfl | hk2 <;> rcases List.mem_cons.1 hk' with rfl | hk2'
    · rfl
    · rw [ho] at hok; cases hok
      rw [hd] at hkt; cases hkt
      exact absurd rfl (hne k' ok' _ hk2' hok' hkt')
    · rw [ho] at hok'; cases hok'
      rw [hd] at hkt'; cases hkt'
      exact absurd rfl (hne k ok _ hk2 hok hkt)
    · exact h.dis k k' ok ok' t hk2 hk2' hok hok' hkt hkt'
  · intro k q ok oq t hk hq hkq hok hoq hkt hm
    rcases List.mem_cons.1 hk with rfl | hk2 <;> rcases List.mem_cons.1 hq with rfl | hq2
    · exact absurd rfl hkq
    · rw [ho] at hok; cases hok
      obtain ⟨oq', hoq', hp⟩ := hpair q hq2
      rw [hoq] at hoq'; cases hoq'
      exact .inr ((pairOk_inv hp).2.2.2.2.1 t hkt hm)
    · rw [ho] at hoq; cases hoq
      obtain ⟨ok', hok', hp⟩ := hpair k hk2
      rw [hok] at hok'; cases hok'
      exact .inl ((pairOk_inv hp).2.2.2.1 t hkt hm)
    · exact h.pw k q ok oq t hk2 hq2 hkq hok hoq hkt hm
  · intro k ok d' hk hok hkd
    rcases List.mem_cons.1 hk with rfl | hk
    · rw [ho] at hok; cases hok; exact hdN d' hkd
    · exact h.dst k ok d' hk hok hkd
  · intro k ok hk hok hfk
    rcases List.mem_cons.1 hk with rfl | hk
    · rw [ho] at hok; cases hok; exact hdn
    · exact h.flt k ok hk hok hfk
  · intro k hk
    rcases List.mem_cons.1 hk with rfl | hk
    · exact ⟨o, ho⟩
    · exact h.ins k hk
  · intro q oq hq hqS hoq
    rcases List.mem_cons.1 hq with rfl | hq
    · rw [ho] at hoq; cases hoq
      refine ⟨fr, d, hd, fun t ht hex => ?_, fun t ht hex => ?_, ?_⟩
      · obtain ⟨k, ok, hk, hok, hkt, hb⟩ := hex
        rcases List.mem_cons.1 hk with rfl | hk
        · exact absurd ((isB_sound hb).lt hE) (Nat.lt_irrefl _)
        · rw [hget, if_neg (hne k ok t hk hok hkt)]
      · refine h.f3 t fun k ok hk hok hkt => hex ⟨k, ok, by simp [hk], hok, hkt, ?_⟩
        obtain ⟨ok', hok', hp⟩ := hpair k hk
        rw [hok] at hok'; cases hok'
        exact (pairOk_inv hp).2.2.2.1 t hkt ht
      · rw [hget, if_pos rfl]
        rcases hv with ⟨rfl, hv⟩ | ⟨rfl, hv⟩
        · exact .inl ⟨hw, hv⟩
        · exact .inr ⟨hw, hv⟩
    · obtain ⟨frq, dq, hdq, g1, g2, g3⟩ := h.g q oq hq hqS hoq
      obtain ⟨oq', hoq', hp⟩ := hpair q hq
      rw [hoq] at hoq'; cases hoq'
      have hnb : ¬ isB (befs all []) i q = true := fun hh => by
        have := (pairOk_inv hp).2.1
        rw [hh] at this; cases this
      refine ⟨frq, dq, hdq, fun t ht hex => ?_, fun t ht hex => ?_, ?_⟩
      · obtain ⟨k, ok, hk, hok, hkt, hb⟩ := hex
        rcases List.mem_cons.1 hk with rfl | hk
        · exact absurd hb hnb
        · rw [hget, if_neg (hne k ok t hk hok hkt)]
          exact g1 t ht ⟨k, ok, hk, hok, hkt, hb⟩
      · exact g2 t ht fun ⟨k, ok, hk, hok, hkt, hb⟩ => hex ⟨k, ok, by simp [hk], hok, hkt, hb⟩
      · rw [hget, if_neg (hne q oq dq hq hoq hdq)]
        exact g3

/-- The machine takes a float that has been taken abstractly. -/
theorem DInv.floatStep {pre : List Nat} {fr0 fr : Fr} {σ : AHeap} {ρ : List RB} {S : Nat → Prop} {a : Act} {w : World} {i : Nat} {o : Oper} {Q : Exit → Act → World → Prop} {Kn : Act → World → Prop} (hcall : CallOk P call)
    (h : DInv P N all pre fr0 fr σ ρ S a) (hr : Rel B w0 ρ σ w) (hi : i ∈ pre) (hiS : ¬ S i) (ho : all[i]? = some o) (hready : ∀ e ∈ o.after.toList, Region.binds .any e = true → S e.on)
    (hK : ∀ ρ' a' w', DInv P N all pre fr0 fr σ ρ' (fun j => j = i ∨ S j) a' → Ext ρ ρ' → Rel B w0 ρ' σ w' → Kn a' w') : wpOp P all.toArray Q i Kn a w := by
  have hfl : floatB o.op = true := by
    cases hf : floatB o.op with
    | true => rfl
    | false => exact absurd (h.spine i o hi ho hf) hiS
  obtain ⟨frq, d, hd, g1, g2, g3⟩ := h.g i o hi hiS ho
  have hbefS : ∀ k, isB (befs all []) k i = true → S k := fun k hb => (isB_sound hb).closed h.closed fun o' ho' => by rw [ho] at ho'; cases ho'; exact hready
  -- what it looks at stands for what the machine has there
  have hv : ∀ t ∈ looks all o, VR ρ (fget frq t) (a.tmps.getD t undef) := by
    intro t ht
    by_cases hex : ∃ k ok, k ∈ pre ∧ all[k]? = some ok ∧ ok.dst = some t ∧ isB (befs all []) k i = true
    · rw [g1 t ht hex]
      obtain ⟨k, ok, hk, hok, hkt, hb⟩ := hex
      exact h.f1 k ok t (hbefS k hb) hok hkt
    · rw [g2 t ht hex]
      refine h.f2 t fun k ok hk hok hkt => ?_
      have hki : k ≠ i := fun e => hiS (e ▸ hk)
      rcases h.pw k i ok o t (h.sub k hk) hi hki hok ho hkt ht with hb | hb
      · exact hex ⟨k, ok, h.sub k hk, hok, hkt, hb⟩
      · exact hiS ((isB_sound hb).closed h.closed fun o' ho' => h.closed k o' ho' hk)
  have hdN := h.dst i o d hi ho hd
  -- behind it
  have hnext : ∀ ρ' v', Ext ρ ρ' → VR ρ' (fget fr d) v' → DInv P N all pre fr0 fr σ ρ' (fun j => j = i ∨ S j) (a.put o.dst v') := by
    intro ρ' v' he hvv
    have hput : ∀ t, (a.put o.dst v').tmps.getD t undef = if t = d then v' else a.tmps.getD t undef := by
      intro t
      rw [hd]
      simp only [Act.put, Array.getD_eq_getD_getElem?, Array.getElem?_setIfInBounds]
      by_cases htd : t = d
      · subst htd
        have : t < a.tmps.size := by rw [h.size]; exact hdN
        simp [this]
      · rw [if_neg (fun e => htd e.symm), if_neg htd]
    refine ⟨fun j hj => ?_, fun j ok hj hok hf => .inr (h.spine j ok hj hok hf), fun j oj hoj hj e he hb => ?_, fun k ok t hk hok hkt => ?_, fun t ht => ?_, h.f3, h.dis, h.pw, ?_, ?_, h.dst, h.flt, h.ins, fun q oq hq hqS hoq => h.g q oq hq (fun hs => hqS (.inr hs)) hoq⟩
    · rcases hj with rfl | hj
      · exact hi
      · exact h.sub j hj
    · rcases hj with rfl | hj
      · rw [ho] at hoj; cases hoj; exact .inr (hready e he hb)
      · exact .inr (h.closed j oj hoj hj e he hb)
    · rw [hput]
      split
      · rename_i htd; subst htd; exact hvv
      · rename_i htd
        rcases hk with rfl | hk
        · rw [ho] at hok; cases hok; rw [hd] at hkt; cases hkt; exact absurd rfl htd
        · exact (h.f1 k ok t hk hok hkt).mono he
    · rw [hput, if_neg (fun e => ht i o (.inl rfl) ho (by rw [hd, e]))]
      exact (h.f2 t fun k ok hk hok => ht k ok (.inr hk) hok).mono he
    · rw [hd]; exact h.defers
    · rw [hd]; simp [Act.put, h.size]
  unfold wpOp
  have hoa : all.toArray[i]? = some o := by simpa using ho
  rw [hoa]
  simp only
  rcases g3 with ⟨hw, hval⟩ | ⟨hw, hval⟩
  · rw [if_pos (wanted_of hw hv)]
    left
    refine aval_sound hcall (ev := fev frq) (L := [(fget fr d, σ)]) (fun x hx => ?_) hr (by rw [aval_float hfl, hval]) fun v σ' ρ' v' w' hm e1 e2 e3 => ?_
    · cases x with
      | tmp t => exact hv t (looks_operand hx)
      | const c => exact (FR.ev (N := a.tmps.size) (a := { a with defers := [] }) (fr := .leaf) ⟨fun t => by rw [fget_leaf]; exact .dead _, rfl, rfl⟩ (.const c))
      | func f => exact .func _ _ _ _ _ rfl rfl (fun i v v' x => by simp at x) (fun i v v' x => by simp at x)
      | global g => exact .dead _
    · simp only [List.mem_singleton, Prod.mk.injEq] at hm
      obtain ⟨rfl, rfl⟩ := hm
      exact hK ρ' _ w' (hnext ρ' v' e1 e3) e1 e2
  · rw [if_neg (by rw [wanted_of hw hv]; simp)]
    exact hK ρ _ w (hnext ρ undef (Ext.refl _) (by rw [hval]; exact .skp)) (Ext.refl _) hr

/-- The machine takes the operation that writes and stands next in the order. -/
theorem DInv.spineStep (hE : edgesOk all = true) {pre : List Nat} {fr0 fr : Fr} {σ : AHeap} {ρ : List RB} {S : Nat → Prop} {a : Act} {w : World} {i : Nat} {chk : List Nat} {post : List (Nat × List Nat)} {o : Oper} {Q : Exit → Act → World → Prop} {Kn : Act → World → Prop}
    {β : Type} {kn : K β} {R R' : List β} (hcall : CallOk P call)
    (h : DInv P N all pre fr0 fr σ ρ S a) (hr : Rel B w0 ρ σ w) (hc : dChk N all (befs all []) pre ((i, chk) :: post) = true) (ho : all[i]? = some o) (hfl : floatB o.op = false)
    (hready : ∀ e ∈ o.after.toList, Region.binds .any e = true → S e.on)
    (hx : adops P call all ((i, chk) :: post) kn fr σ = some R') (hR : ∀ r ∈ R', r ∈ R)
    (hK : ∀ ρ' fr' σ' a' w' R2, DInv P N all (i :: pre) fr0 fr' σ' ρ' (fun j => j = i ∨ S j) a' → Ext ρ ρ' → Rel B w0 ρ' σ' w' → adops P call all post kn fr' σ' = some R2 → (∀ r ∈ R2, r ∈ R) → Kn a' w') :
    wpOp P all.toArray Q i Kn a w := by
  obtain ⟨o', ho', hdN, _, hpair, hchk, _⟩ := dChk_inv hc
  rw [ho] at ho'; cases ho'
  have hipre : i ∉ pre := fun hs => by
    obtain ⟨ok, _, hp⟩ := hpair i hs
    exact (pairOk_inv hp).1 rfl
  have hiS : ¬ S i := fun hs => hipre (h.sub i hs)
  have hbefS : ∀ k, isB (befs all []) k i = true → S k := fun k hb => (isB_sound hb).closed h.closed fun o' ho' => by rw [ho] at ho'; cases ho'; exact hready
  have hpo : ∀ k ∈ pre, ∀ ok, all[k]? = some ok → pairOk all (befs all []) chk k i ok o = true := fun k hk ok hok => by
    obtain ⟨ok', hok', hp⟩ := hpair k hk
    rw [hok] at hok'; cases hok'; exact hp
  have hv : ∀ t ∈ looks all o, VR ρ (fget fr t) (a.tmps.getD t undef) := by
    intro t ht
    by_cases hex : ∃ k ok, S k ∧ all[k]? = some ok ∧ ok.dst = some t
    · obtain ⟨k, ok, hk, hok, hkt⟩ := hex
      exact h.f1 k ok t hk hok hkt
    · rw [h.f3 t fun k ok hk hok hkt => hex ⟨k, ok, hbefS k ((pairOk_inv (hpo k hk ok hok)).2.2.2.1 t hkt ht), hok, hkt⟩]
      exact h.f2 t fun k ok hk hok hkt => hex ⟨k, ok, hk, hok, hkt⟩
  simp only [adops, ho] at hx
  obtain ⟨wb, fr1, hw, hfe, hx2⟩ := aguard_inv hx
  clear hx
  -- behind it: a value is put; the heap may have turned
  have hnext : ∀ (v v' : Value) σ' ρ' fr2, Ext ρ ρ' → VR ρ' v v' → FEq fr2 (fput fr1 o.dst v) →
      (∀ q oq, q ∈ pre → ¬ (q = i ∨ S q) → all[q]? = some oq → ∀ frq d, oq.dst = some d → (∀ t ∈ looks all oq, (∃ k ok, k ∈ pre ∧ all[k]? = some ok ∧ ok.dst = some t ∧ isB (befs all []) k q = true) → fget frq t = fget fr t) →
        (∀ t ∈ looks all oq, (¬ ∃ k ok, k ∈ pre ∧ all[k]? = some ok ∧ ok.dst = some t ∧ isB (befs all []) k q = true) → fget frq t = fget fr0 t) →
        wantA all oq frq = some true → aop P (fev frq) oq σ = some (fget fr d, σ) → aop P (fev frq) oq σ' = some (fget fr d, σ')) →
      DInv P N all (i :: pre) fr0 fr2 σ' ρ' (fun j => j = i ∨ S j) (a.put o.dst v') := by
    intro v v' σ' ρ' fr2 he hvv hf2 hG
    have hget : ∀ t, fget fr2 t = match o.dst with | some d => if t = d then v else fget fr t | none => fget fr t := by
      intro t
      rw [hf2 t]
      cases hd : o.dst with
      | none => exact hfe t
      | some d => simp only [fput, fget_set, hfe t]
    have hgetN : ∀ t, o.dst ≠ some t → fget fr2 t = fget fr t := by
      intro t ht
      rw [hget t]
      cases hd : o.dst with
      | none => rfl
      | some d => simp only; rw [if_neg (fun e => ht (by rw [hd, e]))]
    have hput : ∀ t, (a.put o.dst v').tmps.getD t undef = if o.dst = some t then v' else a.tmps.getD t undef := by
      intro t
      cases hd : o.dst with
      | none => simp [Act.put]
      | some d =>
        simp only [Act.put, Array.getD_eq_getD_getElem?, Array.getElem?_setIfInBounds]
        by_cases htd : d = t
        · subst htd
          have : d < a.tmps.size := by rw [h.size]; exact hdN d hd
          simp [this]
        · rw [if_neg htd, if_neg (fun e => htd (by cases e; rfl))]
    have hne : ∀ k ok t, k ∈ pre → all[k]? = some ok → ok.dst = some t → o.dst ≠ some t := by
      intro k ok t hk hok hkt e
      exact (pairOk_inv (hpo k hk ok hok)).2.2.1 t t hkt e rfl
    refine ⟨fun j hj => ?_, fun j ok hj hok hf => ?_, fun j oj hoj hj e he' hb => ?_, fun k ok t hk hok hkt => ?_, fun t ht => ?_, fun t ht => ?_, ?_, ?_, ?_, ?_, ?_, ?_, ?_, ?_⟩
    · rcases hj with rfl | hj
      · simp
      · exact List.mem_cons_of_mem _ (h.sub j hj)
    · rcases List.mem_cons.1 hj with rfl | hj
      · exact .inl rfl
      · exact .inr (h.spine j ok hj hok hf)
    · rcases hj with rfl | hj
      · rw [ho] at hoj; cases hoj; exact .inr (hready e he' hb)
      · exact .inr (h.closed j oj hoj hj e he' hb)
    · rcases hk with rfl | hk
      · rw [ho] at hok; cases hok
        rw [hput, if_pos hkt, hget, hkt]
        simp only [if_true]
        exact hvv
      · have hn := hne k ok t (h.sub k hk) hok hkt
        rw [hput, if_neg hn, hgetN t hn]
        exact (h.f1 k ok t hk hok hkt).mono he
    · rw [hput, if_neg (ht i o (.inl rfl) ho)]
      exact (h.f2 t fun k ok hk hok => ht k ok (.inr hk) hok).mono he
    · rw [hgetN t (ht i o (by simp) ho)]
      exact h.f3 t fun k ok hk hok => ht k ok (by simp [hk]) hok
    · intro k k' ok ok' t hk hk' hok hok' hkt hkt'
      rcases List.mem_cons.1 hk with rfl | hk2 <;> rcases List.mem_cons.1 hk' with rfl | hk2'
      · rfl
      · rw [ho] at hok; cases hok
        exact absurd hkt (hne k' ok' t hk2' hok' hkt')
      · rw [ho] at hok'; cases hok'
        exact absurd hkt' (hne k ok t hk2 hok hkt)
      · exact h.dis k k' ok ok' t hk2 hk2' hok hok' hkt hkt'
    · intro k q ok oq t hk hq hkq hok hoq hkt hm
      rcases List.mem_cons.1 hk with rfl | hk2 <;> rcases List.mem_cons.1 hq with rfl | hq2
      · exact absurd rfl hkq
      · rw [ho] at hok; cases hok
        exact .inr ((pairOk_inv (hpo q hq2 oq hoq)).2.2.2.2.1 t hkt hm)
      · rw [ho] at hoq; cases hoq
        exact .inl ((pairOk_inv (hpo k hk2 ok hok)).2.2.2.1 t hkt hm)
      · exact h.pw k q ok oq t hk2 hq2 hkq hok hoq hkt hm
    · cases o.dst <;> exact h.defers
    · cases o.dst <;> simp [Act.put, h.size]
    · intro k ok d' hk hok hkd
      rcases List.mem_cons.1 hk with rfl | hk
      · rw [ho] at hok; cases hok; exact hdN d' hkd
      · exact h.dst k ok d' hk hok hkd
    · intro k ok hk hok hfk
      rcases List.mem_cons.1 hk with rfl | hk
      · rw [ho] at hok; cases hok; rw [hfl] at hfk; cases hfk
      · exact h.flt k ok hk hok hfk
    · intro k hk
      rcases List.mem_cons.1 hk with rfl | hk
      · exact ⟨o, ho⟩
      · exact h.ins k hk
    · intro q oq hq hqS hoq
      rcases List.mem_cons.1 hq with rfl | hq
      · exact absurd (.inl rfl) hqS
      · obtain ⟨frq, dq, hdq, g1, g2, g3⟩ := h.g q oq hq (fun hs => hqS (.inr hs)) hoq
        have hnb : ¬ isB (befs all []) i q = true := fun hh => by
          have := (pairOk_inv (hpo q hq oq hoq)).2.1
          rw [hh] at this; cases this
        refine ⟨frq, dq, hdq, fun t ht hex => ?_, fun t ht hex => ?_, ?_⟩
        · obtain ⟨k, ok, hk, hok, hkt, hb⟩ := hex
          rcases List.mem_cons.1 hk with rfl | hk
          · exact absurd hb hnb
          · rw [hgetN t (hne k ok t hk hok hkt)]
            exact g1 t ht ⟨k, ok, hk, hok, hkt, hb⟩
        · exact g2 t ht fun ⟨k, ok, hk, hok, hkt, hb⟩ => hex ⟨k, ok, by simp [hk], hok, hkt, hb⟩
        · rw [hgetN dq (hne q oq dq hq hoq hdq)]
          rcases g3 with ⟨h1, h2⟩ | h2
          · exact .inl ⟨h1, hG q oq hq hqS hoq frq dq hdq g1 g2 h1 h2⟩
          · exact .inr h2
  unfold wpOp
  have hoa : all.toArray[i]? = some o := by simpa using ho
  rw [hoa]
  simp only
  cases wb with
  | false =>
    rw [if_neg (by rw [wanted_of hw hv]; simp)]
    simp only [Bool.false_eq_true, if_false] at hx2
    exact hK ρ _ σ _ w R' (hnext skipV undef σ ρ _ (Ext.refl _) .skp (fun _ => rfl) fun q oq hq hqS hoq frq d hd g1 g2 h1 h2 => h2) (Ext.refl _) hr hx2 hR
  | true =>
    rw [if_pos (wanted_of hw hv)]
    left
    simp only [if_true] at hx2
    obtain ⟨L, hL, hall⟩ := bindL_some hx2
    rw [hfe.ev] at hL
    refine aval_sound hcall (ev := fev fr) (L := L) (fun x hx => ?_) hr hL fun v σ' ρ' v' w' hm e1 e2 e3 => ?_
    · cases x with
      | tmp t => exact hv t (looks_operand hx)
      | const c => exact (FR.ev (N := a.tmps.size) (a := { a with defers := [] }) (fr := .leaf) ⟨fun t => by rw [fget_leaf]; exact .dead _, rfl, rfl⟩ (.const c))
      | func f => exact .func _ _ _ _ _ rfl rfl (fun i v v' x => by simp at x) (fun i v v' x => by simp at x)
      | global g => exact .dead _
    · obtain ⟨R2, hR2, hsub⟩ := hall _ hm
      obtain ⟨fr2, f1, f2, f3⟩ := arecheck_inv chk _ _ R2 hR2
      refine hK ρ' fr2 σ' _ w' R2 (hnext v v' σ' ρ' fr2 e1 e3 f1 ?_) e1 e2 f2 fun r hr => hR r (hsub r hr)
      intro q oq hq hqS hoq frq d hd g1 g2 h1 h2
      cases hqq : quietB oq.op with
      | true => exact aop_pure σ' hqq h2
      | false =>
        have hqf : floatB oq.op = true := by
          cases hf : floatB oq.op with
          | true => rfl
          | false => exact absurd (h.spine q oq hq hoq hf) fun hs => hqS (.inr hs)
        have hqr : readB oq.op = true := by
          unfold floatB at hqf
          rw [hqq] at hqf
          simpa using hqf
        have hnb : isB (befs all []) q i = false := by
          cases hb : isB (befs all []) q i with
          | false => rfl
          | true => exact absurd (hbefS q hb) fun hs => hqS (.inr hs)
        have hqc := (pairOk_inv (hpo q hq oq hoq)).2.2.2.2.2.2 hfl hqr hnb
        obtain ⟨oq', hoq', _, _, hwr⟩ := chkOk_inv (hchk q hqc).1
        rw [hoq] at hoq'; cases hoq'
        have hneD : ∀ k ok t, k ∈ pre → all[k]? = some ok → ok.dst = some t → o.dst ≠ some t := by
          intro k ok t hk hok hkt e
          exact (pairOk_inv (hpo k hk ok hok)).2.2.1 t t hkt e rfl
        have hnb2 : ¬ isB (befs all []) i q = true := fun hh => by
          have := (pairOk_inv (hpo q hq oq hoq)).2.1
          rw [hh] at this; cases this
        -- the frame behind the operation shows the read what it saw
        have hsame : ∀ t ∈ looks all oq, fget (fput fr1 o.dst v) t = fget frq t := by
          intro t ht
          have hnd : o.dst ≠ some t := fun e => hnb2 (hwr i (by simp) o t ho e ht)
          have h0 : fget (fput fr1 o.dst v) t = fget fr t := by
            cases hd : o.dst with
            | none => exact hfe t
            | some d =>
              simp only [fput, fget_set]
              rw [if_neg (fun e => hnd (by rw [hd, e]))]
              exact hfe t
          rw [h0]
          by_cases hex : ∃ k ok, k ∈ pre ∧ all[k]? = some ok ∧ ok.dst = some t ∧ isB (befs all []) k q = true
          · exact (g1 t ht hex).symm
          · rw [g2 t ht hex]
            exact h.f3 t fun k ok hk hok hkt => hex ⟨k, ok, hk, hok, hkt, hwr k (by simp [hk]) ok t hok hkt ht⟩
        rcases f3 q hqc oq hoq with hz | ⟨_, d', σ'', hd', hval⟩
        · rw [wantA_congr hsame, h1] at hz; cases hz
        · rw [hd] at hd'; cases hd'
          rw [aop_congr (fev_congr hsame)] at hval
          obtain rfl := aop_keep (by unfold floatB at hqf; exact hqf) hval
          have hdd : fget (fput fr1 o.dst v) d = fget fr d := by
            have hnd := hneD q oq d hq hoq hd
            cases hd2 : o.dst with
            | none => exact hfe d
            | some d2 =>
              simp only [fput, fget_set]
              rw [if_neg (fun e => hnd (by rw [hd2, e]))]
              exact hfe d
          rw [hdd] at hval
          exact hval

def headSpine (all : List Oper) : List (Nat × List Nat) → Prop
  | [] => True
  | (i, _) :: _ => ∀ o, all[i]? = some o → floatB o.op = false

/-- All floats that stand next are taken abstractly. -/
theorem DInv.advanceAll (hE : edgesOk all = true) {fr0 : Fr} {σ : AHeap} {ρ : List RB} {S : Nat → Prop} {a : Act} {β : Type} {kn : K β} {R' : List β} : ∀ (post : List (Nat × List Nat)) (pre : List Nat) (fr : Fr),
    DInv P N all pre fr0 fr σ ρ S a → dChk N all (befs all []) pre post = true → adops P call all post kn fr σ = some R' →
    ∃ pre' post' fr', DInv P N all pre' fr0 fr' σ ρ S a ∧ dChk N all (befs all []) pre' post' = true ∧ adops P call all post' kn fr' σ = some R' ∧ headSpine all post' ∧ (∀ j, (j ∈ pre ∨ j ∈ post.map (·.1)) → (j ∈ pre' ∨ j ∈ post'.map (·.1)))
  | [], pre, fr, h, hc, hx => ⟨pre, [], fr, h, hc, hx, trivial, fun j hj => hj⟩
  | (i, chk) :: post, pre, fr, h, hc, hx => by
    obtain ⟨o, ho, _, _, _, _, hc2⟩ := dChk_inv hc
    cases hf : floatB o.op with
    | false => exact ⟨pre, _, fr, h, hc, hx, fun o' ho' => by rw [ho] at ho'; cases ho'; exact hf, fun j hj => hj⟩
    | true =>
      obtain ⟨fr', h1, h2⟩ := h.advance hE hc ho hf hx
      obtain ⟨pre', post', fr2, e1, e2, e3, e4, e5⟩ := DInv.advanceAll hE post (i :: pre) fr' h1 hc2 h2
      refine ⟨pre', post', fr2, e1, e2, e3, e4, fun j hj => e5 j ?_⟩
      rcases hj with hj | hj
      · exact .inl (List.mem_cons_of_mem _ hj)
      · simp only [List.map_cons, List.mem_cons] at hj
        rcases hj with rfl | hj
        · exact .inl (by simp)
        · exact .inr hj

/-- Of two that stand in the order, the pair was asked. -/
theorem dChk_later {b : List Nat} {k : Nat} : ∀ (post : List (Nat × List Nat)) (pre : List Nat), dChk N all b pre post = true → k ∈ pre → ∀ i, i ∈ post.map (·.1) → ∃ ok oi chk, all[k]? = some ok ∧ all[i]? = some oi ∧ pairOk all b chk k i ok oi = true
  | [], _, _, _, i, hi => by simp at hi
  | (j, chk) :: post, pre, hc, hk, i, hi => by
    obtain ⟨o, ho, _, _, hpair, _, hc2⟩ := dChk_inv hc
    simp only [List.map_cons, List.mem_cons] at hi
    rcases hi with rfl | hi
    · obtain ⟨ok, hok, hp⟩ := hpair k hk
      exact ⟨ok, o, chk, hok, ho, hp⟩
    · exact dChk_later post (j :: pre) hc2 (by simp [hk]) i hi
end
end Go.Ax
