/- Texts of one proof, joined. No statement of the seat is proved here. -/
import Derived.Test.YtfeamgocomlepaaW2
import Derived.Laws.Externs
set_option linter.unusedVariables false
set_option linter.unusedSimpArgs false
set_option linter.unnecessarySimpa false
set_option linter.constructorNameAsVariable false
namespace Go.Ax
open Go.RowKit


/-- The same without what is known of guards. -/
def pguard (all : List Oper) (o : Oper) (yes no : FK) : FK := fun fr σ =>
  match o.guard with
  | none => yes fr σ
  | some (j, want) => match (all[j]?).bind (·.dst) with
    | some t => match asB (fget fr t) with
      | some true => cond want (yes (fr.set t (.bool true)) σ) (no (fr.set t (.bool true)) σ)
      | some false => cond want (no (fr.set t (.bool false)) σ) (yes (fr.set t (.bool false)) σ)
      | none => isSkip (fget fr t) = true ∧ no fr σ
    | none => False
def precheck (P : Program) (all : List Oper) : List Nat → FK → FK
  | [], k => k
  | q :: qs, k => fun fr σ => match all[q]? with
    | none => False
    | some o => pguard all o (fun fr σ => match aop P (fev fr) o σ, o.dst with
      | some (v, _), some d => veq1 v (fget fr d) = true ∧ precheck P all qs k fr σ
      | _, _ => False) (precheck P all qs k) fr σ
def pone (P : Program) (o : Oper) (k : FK) (kp : WK) : FK := fun fr σ => ∃ K0 : WK, wval P (Ev P) (fev fr) o σ K0 kp ∧ ∀ v σ', K0 v σ' → k (fput fr o.dst v) σ'
def pdops (P : Program) (all : List Oper) (kp : WK) : List (Nat × List Nat) → FK → FK
  | [], kn => kn
  | (i, chk) :: os, kn => fun fr σ => match all[i]? with
    | none => False
    | some o => pguard all o (pone P o (precheck P all chk (pdops P all kp os kn)) kp) (fun fr σ => pdops P all kp os kn (fput fr o.dst skipV) σ) fr σ

theorem wguard_p {all : List Oper} {o : Oper} {md : GM} {y n : GM → FK} {ky kn : FK} {fr : Fr} {σ : AHeap} (hg : GOk all md fr)
    (hy : ∀ md fr, GOk all md fr → y (gmAfter md o) fr σ → ky fr σ) (hy0 : ∀ fr, y none fr σ → ky fr σ)
    (hn : ∀ md fr, GOk all md fr → n (gmAfter md o) fr σ → kn fr σ) (h : wguard all o md y n fr σ) :
    pguard all o ky kn fr σ := by
  unfold wguard at h
  unfold pguard
  split at h
  · rename_i ho
    (try simp only [ho])
    exact hy0 _ h
  · rename_i j want ho
    (try simp only [ho])
    split at h
    · rename_i hm
      unfold gmIs at hm
      split at hm
      · rename_i j' want' t b
        cases hc : (Nat.beq j j' && (want == want')) with
        | false => rw [hc] at hm; cases hm
        | true =>
          rw [hc] at hm
          simp only [cond_true, Option.some.injEq] at hm
          subst hm
          simp only [Bool.and_eq_true, beq_iff_eq] at hc
          have hj := Nat.eq_of_beq_eq_true hc.1
          have hw := hc.2
          subst hj; subst hw
          have hg0 := hg
          obtain ⟨h1, h2⟩ := hg
          rcases h2 with ⟨_, h2⟩ | ⟨h2, _⟩
          · simp only [h1, fget_of h2, asB]
            cases want with
            | true => simp only [cond_true]; rw [Tr.set_self h2]; exact hy _ _ hg0 h
            | false => simp only [cond_false]; rw [Tr.set_self h2]; exact hy _ _ hg0 h
          · cases h2
      · cases hm
    · rename_i hm
      unfold gmIs at hm
      split at hm
      · rename_i j' want' t b
        cases hc : (Nat.beq j j' && (want == want')) with
        | false => rw [hc] at hm; cases hm
        | true =>
          rw [hc] at hm
          simp only [cond_true, Option.some.injEq] at hm
          subst hm
          simp only [Bool.and_eq_true, beq_iff_eq] at hc
          have hj := Nat.eq_of_beq_eq_true hc.1
          have hw := hc.2
          subst hj; subst hw
          have hg0 := hg
          obtain ⟨h1, h2⟩ := hg
          rcases h2 with ⟨h2, _⟩ | ⟨_, h2 | ⟨h2, h3⟩⟩
          · cases h2
          · simp only [h1, fget_of h2, asB]
            cases want with
            | true => simp only [Bool.not_true, cond_true]; rw [Tr.set_self (x := Value.bool false) h2]; exact hn _ _ hg0 h
            | false => simp only [Bool.not_false, cond_false]; rw [Tr.set_self (x := Value.bool true) h2]; exact hn _ _ hg0 h
          · simp only [h1, h2, h3, true_and]
            exact hn _ _ hg0 h
      · cases hm
    · split at h
      · rename_i t ht
        simp only [ht]
        unfold wG at h
        have hset : ∀ b : Bool, (fr.set t (.bool b)).get t = some (.bool b) := fun b => by rw [Tr.get_set, if_pos rfl]
        split at h
        · rename_i hb
          simp only [hb]
          cases want with
          | true => exact hy (some ((j, true), t, true)) _ ⟨ht, .inl ⟨rfl, hset true⟩⟩ h
          | false => exact hn (some ((j, false), t, false)) _ ⟨ht, .inr ⟨rfl, .inl (hset true)⟩⟩ h
        · rename_i hb
          simp only [hb]
          cases want with
          | true => exact hn (some ((j, true), t, false)) _ ⟨ht, .inr ⟨rfl, .inl (hset false)⟩⟩ h
          | false => exact hy (some ((j, false), t, true)) _ ⟨ht, .inl ⟨rfl, hset false⟩⟩ h
        · rename_i hb
          simp only [hb, h.1, true_and]
          exact hn (some ((j, want), t, false)) _ ⟨ht, .inr ⟨rfl, .inr ⟨hb, h.1⟩⟩⟩ h.2
      · exact h.elim


theorem wre_p {P : Program} {all : List Oper} {k k' : FK} (hk : ∀ fr σ, k fr σ → k' fr σ) : ∀ (qs : List Nat) (fr : Fr) (σ : AHeap), wre P all qs k fr σ → precheck P all qs k' fr σ
  | [], fr, σ, h => hk _ _ h
  | q :: qs, fr, σ, h => by
    simp only [wre] at h
    simp only [precheck]
    split at h
    · exact h.elim
    · rename_i o ho
      (try simp only [ho])
      have hyes : ∀ fr, (match o.dst with
          | some d => wnx o (wval P (fun _ _ _ _ => False) (fev fr) o σ (fun v _ => veq1 v (fget fr d) = true ∧ wre P all qs k fr σ) noP)
          | none => False) → (match aop P (fev fr) o σ, o.dst with
          | some (v, _), some d => veq1 v (fget fr d) = true ∧ precheck P all qs k' fr σ
          | _, _ => False) := by
        intro fr h
        split at h
        · rename_i d hd
          have hn : ∀ it, o.op ≠ .next it false := fun it hi => by simp only [wnx, hi] at h
          have hp : ∀ x, o.op ≠ .panic x := fun x hi => by simp only [wnx, hi] at h
          have h : wval P (fun _ _ _ _ => False) (fev fr) o σ (fun v _ => veq1 v (fget fr d) = true ∧ wre P all qs k fr σ) noP := by
            unfold wnx at h
            split at h
            · exact h.elim
            · exact h.elim
            · exact h
          have hb : ∀ c, o.op = .call c → ∃ b, c.callee = .builtin b := fun c hc => by
            simp only [wval, hc] at h
            split at h
            · exact ⟨_, ‹_›⟩
            · unfold wF at h; split at h <;> exact h.elim
            · obtain ⟨_, _, h⟩ := h; exact h.elim
          obtain ⟨r, h1, h2, h3⟩ := wval_aop hb hn hp h
          simp only [h1, hd]
          exact ⟨h2, wre_p hk qs fr σ h3⟩
        · exact h.elim
      exact wguard_p (md := none) trivial (fun md fr _ h => hyes fr h) (fun fr h => hyes fr h) (fun md fr _ h => wre_p hk qs fr σ h) h

theorem wdops_p {P : Program} {all : List Oper} {k k' : FK} {kp : WK} (hk : ∀ fr σ, k fr σ → k' fr σ) : ∀ (os : List (Nat × List Nat)) (md : GM) (fr : Fr) (σ : AHeap), GOk all md fr → wdops P (Ev P) all kp os md k fr σ → pdops P all kp os k' fr σ
  | [], _, fr, σ, _, h => hk _ _ h
  | (i, chk) :: os, md, fr, σ, hg, h => by
    simp only [wdops] at h
    simp only [pdops]
    split at h
    · exact h.elim
    · rename_i o ho
      (try simp only [ho])
      have hyes : ∀ md fr, GOk all md fr → wone P (Ev P) o (wre P all chk (wdops P (Ev P) all kp os (gmChk chk (gmAfter md o)) k)) kp fr σ →
          pone P o (precheck P all chk (pdops P all kp os k')) kp fr σ := by
        intro md fr hg h
        refine ⟨_, h, fun v σ' hv => ?_⟩
        cases chk with
        | nil => exact wdops_p hk os _ _ _ (hg.after o v) hv
        | cons c chk => exact wre_p (fun fr σ h => wdops_p hk os none _ _ trivial h) _ _ _ hv
      exact wguard_p hg hyes (fun fr h => hyes none fr trivial (by cases chk <;> exact h)) (fun md fr hg h => wdops_p hk os _ _ _ (hg.after o skipV) h) h

def wantA (all : List Oper) (o : Oper) (fr : Fr) : Option Bool :=
  match o.guard with
  | none => some true
  | some (j, want) => match (all[j]?).bind (·.dst) with
    | some t => match asB (fget fr t) with
      | some b => some (b == want)
      | none => cond (isSkip (fget fr t)) (some false) none
    | none => none

def FEq (fr fr' : Fr) : Prop := ∀ t, fget fr t = fget fr' t

theorem FEq.ev {fr fr' : Fr} (h : FEq fr fr') : fev fr = fev fr' := by
  funext x
  cases x with
  | tmp t => exact h t
  | _ => rfl

theorem asB_inv {v : Value} {b : Bool} (h : asB v = some b) : v = .bool b := by
  unfold asB at h
  split at h
  · cases h; rfl
  · cases h

theorem setb_feq {fr : Fr} {t : Nat} {b : Bool} (h : fget fr t = .bool b) : FEq (fr.set t (.bool b)) fr := by
  intro u
  rw [fget_set]
  split
  · rename_i e; subst e; exact h.symm
  · rfl

theorem pguard_inv {all : List Oper} {o : Oper} {yes no : FK} {fr : Fr} {σ : AHeap} (h : pguard all o yes no fr σ) :
    ∃ wb fr', wantA all o fr = some wb ∧ FEq fr' fr ∧ (if wb = true then yes else no) fr' σ := by
  unfold pguard at h
  unfold wantA
  cases hg : o.guard with
  | none => rw [hg] at h; exact ⟨true, fr, rfl, fun _ => rfl, h⟩
  | some p =>
    obtain ⟨j, want⟩ := p
    rw [hg] at h
    simp only at h ⊢
    cases ht : (all[j]?).bind (·.dst) with
    | none => rw [ht] at h; exact h.elim
    | some t =>
      rw [ht] at h
      simp only at h ⊢
      cases hb : asB (fget fr t) with
      | none =>
        rw [hb] at h
        simp only at h ⊢
        exact ⟨false, fr, by rw [h.1]; rfl, fun _ => rfl, h.2⟩
      | some bb =>
        rw [hb] at h
        cases bb with
        | true =>
          cases want with
          | true => exact ⟨true, _, rfl, setb_feq (asB_inv hb), h⟩
          | false => exact ⟨false, _, rfl, setb_feq (asB_inv hb), h⟩
        | false =>
          cases want with
          | true => exact ⟨false, _, rfl, setb_feq (asB_inv hb), h⟩
          | false => exact ⟨true, _, rfl, setb_feq (asB_inv hb), h⟩

theorem wantA_congr {all : List Oper} {o : Oper} {fr fr' : Fr} (h : ∀ t ∈ looks all o, fget fr t = fget fr' t) : wantA all o fr = wantA all o fr' := by
  unfold wantA
  split
  · rfl
  · rename_i j want hg
    split
    · rename_i t ht
      rw [h t (looks_guard hg ht)]
    · rfl

theorem fev_congr {all : List Oper} {o : Oper} {fr fr' : Fr} (h : ∀ t ∈ looks all o, fget fr t = fget fr' t) : ∀ x ∈ o.op.operands, fev fr x = fev fr' x := by
  intro x hx
  cases x with
  | tmp t => exact h t (looks_operand hx)
  | _ => rfl

section
variable {P : Program} {B : Nat} {w0 : World} {C : Cx} {all : List Oper} {kp : WK}

theorem wval_float {ev : Operand → Value} {o : Oper} {σ : AHeap} {K : WK} (hf : floatB o.op = true) (h : wval P (Ev P) ev o σ K kp) : ∃ v, aop P ev o σ = some (v, σ) ∧ K v σ := by
  have hb : ∀ c, o.op = .call c → ∃ b, c.callee = .builtin b := fun c hc => by
    rw [hc] at hf
    cases hcal : c.callee with
    | builtin b => exact ⟨b, rfl⟩
    | value f => simp [floatB, quietB, readB, hcal] at hf
    | invoke r n => simp [floatB, quietB, readB, hcal] at hf
  obtain ⟨⟨v, σ'⟩, h1, h2⟩ := wval_aop hb (fun it hc => by rw [hc] at hf; simp [floatB, quietB, readB] at hf) (fun x hc => by rw [hc] at hf; simp [floatB, quietB, readB] at hf) h
  have hσ := aop_keep (by unfold floatB at hf; exact hf) h1
  subst hσ
  exact ⟨v, h1, h2⟩

theorem wanted_of {o : Oper} {fr : Fr} {a : Act} {ρ : List RB} {wb : Bool} (hw : wantA all o fr = some wb) (hv : ∀ t ∈ looks all o, VR ρ (fget fr t) (a.tmps.getD t undef)) :
    Region.wanted o (yielded all.toArray a.tmps) = wb := by
  unfold wantA at hw
  split at hw
  · rename_i hg; cases hw; simp [Region.wanted, hg]
  · rename_i j want hg
    split at hw
    · rename_i t ht
      split at hw
      · rename_i bb hb
        cases hw
        have hvt := hv t (looks_guard hg ht)
        rw [asB_inv hb] at hvt
        have hvt := hvt.bool_inv
        have ht2 : a.tmps[t]? = some (.bool bb) := by
          rw [Array.getD_eq_getD_getElem?] at hvt
          cases hx : a.tmps[t]? with
          | none => rw [hx] at hvt; simp [undef] at hvt
          | some v => rw [hx] at hvt; simp at hvt; rw [hvt]
        have hy : yielded all.toArray a.tmps j = some bb := by
          unfold Go.yielded
          have hj' : ((all.toArray[j]?).bind (·.dst)) = some t := by simpa using ht
          rw [hj']
          simp [ht2]
        simp [Region.wanted, hg, hy]
      · cases hs : isSkip (fget fr t) with
        | false => rw [hs] at hw; cases hw
        | true =>
          rw [hs] at hw
          cases hw
          have hvt := (hv t (looks_guard hg ht)).isSkip hs
          have hy := yielded_skip (all := all) ht hvt
          simp [Region.wanted, hg, hy]
    · cases hw

theorem precheck_inv {k : FK} : ∀ (chk : List Nat) (fr : Fr) (σ : AHeap), precheck P all chk k fr σ →
    ∃ fr2, FEq fr2 fr ∧ k fr2 σ ∧ ∀ q ∈ chk, ∀ oq, all[q]? = some oq → wantA all oq fr = some false ∨ (wantA all oq fr = some true ∧ ∃ d σ'', oq.dst = some d ∧ aop P (fev fr) oq σ = some (fget fr d, σ''))
  | [], fr, σ, h => ⟨fr, fun _ => rfl, h, fun q hq => by simp at hq⟩
  | q :: qs, fr, σ, h => by
    simp only [precheck] at h
    split at h
    · exact h.elim
    · rename_i o ho
      obtain ⟨wb, fr', hw, hfe, h⟩ := pguard_inv h
      cases wb with
      | false =>
        simp only [Bool.false_eq_true, if_false] at h
        obtain ⟨fr2, e1, e2, e3⟩ := precheck_inv qs fr' σ h
        refine ⟨fr2, fun t => (e1 t).trans (hfe t), e2, fun q' hq' oq hoq => ?_⟩
        rcases List.mem_cons.1 hq' with rfl | hq'
        · rw [ho] at hoq; cases hoq; exact .inl hw
        · have := e3 q' hq' oq hoq
          rw [wantA_congr (fr' := fr) (fun t _ => hfe t), hfe.ev] at this
          rcases this with h1 | ⟨h1, d, σ'', h2, h3⟩
          · exact .inl h1
          · exact .inr ⟨h1, d, σ'', h2, by rw [← hfe d]; exact h3⟩
      | true =>
        simp only [if_true] at h
        split at h
        · rename_i v σ'' d hv hd
          obtain ⟨hb, h⟩ := h
          obtain ⟨fr2, e1, e2, e3⟩ := precheck_inv qs fr' σ h
          refine ⟨fr2, fun t => (e1 t).trans (hfe t), e2, fun q' hq' oq hoq => ?_⟩
          rcases List.mem_cons.1 hq' with rfl | hq'
          · rw [ho] at hoq; cases hoq
            refine .inr ⟨hw, d, σ'', hd, ?_⟩
            rw [← hfe.ev, hv, veq1_sound hb, hfe d]
          · have := e3 q' hq' oq hoq
            rw [wantA_congr (fr' := fr) (fun t _ => hfe t), hfe.ev] at this
            rcases this with h1 | ⟨h1, d, σ'', h2, h3⟩
            · exact .inl h1
            · exact .inr ⟨h1, d, σ'', h2, by rw [← hfe d]; exact h3⟩
        · exact h.elim

theorem Bef.lt (hE : edgesOk all = true) {j i : Nat} (h : Bef all j i) : j < i := by
  have key : ∀ i o e, all[i]? = some o → e ∈ o.after.toList → Region.binds .any e = true → e.on < i := by
    intro i o e ho he hb
    have hlt := (List.getElem?_eq_some_iff.1 ho).1
    have := List.all_eq_true.1 hE i (List.mem_range.2 hlt)
    rw [ho] at this
    have := List.all_eq_true.1 this e he
    rw [hb] at this
    simpa using this
  induction h with
  | edge i o e ho he hb => exact key i o e ho he hb
  | trans i j o e ho he hb _ ih => exact Nat.lt_trans ih (key i o e ho he hb)

/-- A float that has been taken abstractly and not yet by the machine. -/
def GF (P : Program) (all : List Oper) (pre : List Nat) (fr0 fr : Fr) (σ : AHeap) (q : Nat) (oq : Oper) : Prop :=
  ∃ frq d, oq.dst = some d ∧
    (∀ t ∈ looks all oq, (∃ k ok, k ∈ pre ∧ all[k]? = some ok ∧ ok.dst = some t ∧ isB (befs all []) k q = true) → fget frq t = fget fr t) ∧
    (∀ t ∈ looks all oq, (¬ ∃ k ok, k ∈ pre ∧ all[k]? = some ok ∧ ok.dst = some t ∧ isB (befs all []) k q = true) → fget frq t = fget fr0 t) ∧
    ((wantA all oq frq = some true ∧ aop P (fev frq) oq σ = some (fget fr d, σ)) ∨ (wantA all oq frq = some false ∧ fget fr d = skipV))

structure DInv (P : Program) (C : Cx) (all : List Oper) (pre : List Nat) (fr0 fr : Fr) (σ : AHeap) (ρ : List RB) (S : Nat → Prop) (a : Act) : Prop where
  sub : ∀ i, S i → i ∈ pre
  spine : ∀ i o, i ∈ pre → all[i]? = some o → floatB o.op = false → S i
  closed : Closed all S
  f1 : ∀ k ok t, S k → all[k]? = some ok → ok.dst = some t → VR ρ (fget fr t) (a.tmps.getD t undef)
  f2 : ∀ t, (∀ k ok, S k → all[k]? = some ok → ok.dst ≠ some t) → VR ρ (fget fr0 t) (a.tmps.getD t undef)
  f3 : ∀ t, (∀ k ok, k ∈ pre → all[k]? = some ok → ok.dst ≠ some t) → fget fr t = fget fr0 t
  dis : ∀ k k' ok ok' t, k ∈ pre → k' ∈ pre → all[k]? = some ok → all[k']? = some ok' → ok.dst = some t → ok'.dst = some t → k = k'
  pw : ∀ k q ok oq t, k ∈ pre → q ∈ pre → k ≠ q → all[k]? = some ok → all[q]? = some oq → ok.dst = some t → t ∈ looks all oq → isB (befs all []) k q = true ∨ isB (befs all []) q k = true
  kp : Keep C a
  dst : ∀ k ok d, k ∈ pre → all[k]? = some ok → ok.dst = some d → C.ok d
  flt : ∀ k ok, k ∈ pre → all[k]? = some ok → floatB ok.op = true → ok.dst ≠ none
  ins : ∀ k, k ∈ pre → ∃ ok, all[k]? = some ok
  g : ∀ q oq, q ∈ pre → ¬ S q → all[q]? = some oq → GF P all pre fr0 fr σ q oq

theorem pairOk_inv {b : List Nat} {chk : List Nat} {k i : Nat} {ok o : Oper} (h : pairOk all b chk k i ok o = true) :
    k ≠ i ∧ isB b i k = false ∧ (∀ d d', ok.dst = some d → o.dst = some d' → d ≠ d') ∧ (∀ d, ok.dst = some d → d ∈ looks all o → isB b k i = true) ∧
    (∀ d, o.dst = some d → d ∈ looks all ok → isB b k i = true) ∧ (floatB ok.op = false → isB b k i = true) ∧
    (floatB o.op = false → readB ok.op = true → isB b k i = false → k ∈ chk) := by
  unfold pairOk at h
  simp only [Bool.and_eq_true, Bool.not_eq_true', Bool.or_eq_true] at h
  obtain ⟨⟨⟨⟨⟨⟨h1, h2⟩, h3⟩, h4⟩, h5⟩, h6⟩, h7⟩ := h
  refine ⟨fun e => by subst e; simp at h1, h2, fun d d' hd hd' e => ?_, fun d hd hm => ?_, fun d hd hm => ?_, fun hf => ?_, fun hf hr hb => ?_⟩
  · rw [hd, hd'] at h3; subst e; simp at h3
  · rw [hd] at h4
    rcases (by simpa using h4 : d ∉ looks all o ∨ isB b k i = true) with h | h
    · exact absurd hm h
    · exact h
  · rw [hd] at h5
    rcases (by simpa using h5 : d ∉ looks all ok ∨ isB b k i = true) with h | h
    · exact absurd hm h
    · exact h
  · rcases h6 with h | h
    · rw [hf] at h; cases h
    · exact h
  · rcases h7 with ((h | h) | h) | h
    · rw [hf] at h; cases h
    · rw [hr] at h; cases h
    · rw [hb] at h; cases h
    · simpa using h

theorem dChk_inv {b : List Nat} {pre : List Nat} {i : Nat} {chk : List Nat} {post : List (Nat × List Nat)} (h : dChk C.N C.Lp all b pre ((i, chk) :: post) = true) :
    ∃ o, all[i]? = some o ∧ (∀ d, o.dst = some d → C.ok d) ∧ (floatB o.op = true → o.dst ≠ none ∧ chk = []) ∧
      (∀ k ∈ pre, ∃ ok, all[k]? = some ok ∧ pairOk all b chk k i ok o = true) ∧ (∀ q ∈ chk, chkOk all b (i :: pre) q = true ∧ q ≠ i) ∧ dChk C.N C.Lp all b (i :: pre) post = true := by
  simp only [dChk] at h
  split at h
  · cases h
  · rename_i o ho
    simp only [Bool.and_eq_true, List.all_eq_true, Bool.or_eq_true, Bool.not_eq_true'] at h
    obtain ⟨⟨⟨⟨⟨h1, h2⟩, h3⟩, h4⟩, h5⟩, h6⟩ := h
    refine ⟨o, ho, dstOk_spec h1, fun hf => ?_, fun k hk => ?_, fun q hq => ⟨h4 q hq, fun e => ?_⟩, h6⟩
    · rcases h2 with h2 | h2
      · rw [hf] at h2; cases h2
      · exact ⟨fun e => by rw [e] at h2; simp at h2, by simpa using h2.2⟩
    · have := h3 k hk
      split at this
      · rename_i ok hok; exact ⟨ok, hok, this⟩
      · cases this
    · have := h5 q hq
      subst e
      simp at this

theorem chkOk_inv {b : List Nat} {pre : List Nat} {q : Nat} (h : chkOk all b pre q = true) : ∃ oq, all[q]? = some oq ∧ floatB oq.op = true ∧ q ∈ pre ∧
    ∀ k ∈ pre, ∀ ok d, all[k]? = some ok → ok.dst = some d → d ∈ looks all oq → isB b k q = true := by
  unfold chkOk at h
  split at h
  · cases h
  · rename_i oq hoq
    simp only [Bool.and_eq_true, List.all_eq_true] at h
    obtain ⟨⟨⟨h1, h2⟩, h3⟩, h4⟩ := h
    refine ⟨oq, hoq, h1, by simpa using h3, fun k hk ok d hok hd hm => ?_⟩
    have := h4 k hk
    rw [hok] at this
    simp only [hd] at this
    rcases (by simpa using this : d ∉ looks all oq ∨ isB b k q = true) with h | h
    · exact absurd hm h
    · exact h

/-- A float is taken abstractly. -/
theorem DInv.advance (hE : edgesOk all = true) {pre : List Nat} {fr0 fr : Fr} {σ : AHeap} {ρ : List RB} {S : Nat → Prop} {a : Act} {i : Nat} {chk : List Nat} {post : List (Nat × List Nat)} {kn : FK} {o : Oper}
    (h : DInv P C all pre fr0 fr σ ρ S a) (hc : dChk C.N C.Lp all (befs all []) pre ((i, chk) :: post) = true) (ho : all[i]? = some o) (hf : floatB o.op = true)
    (hx : pdops P all kp ((i, chk) :: post) kn fr σ) : ∃ fr', DInv P C all (i :: pre) fr0 fr' σ ρ S a ∧ pdops P all kp post kn fr' σ := by
  obtain ⟨o', ho', hdN, hflt, hpair, _, _⟩ := dChk_inv hc
  rw [ho] at ho'; cases ho'
  obtain ⟨hdn, rfl⟩ := hflt hf
  obtain ⟨d, hd⟩ : ∃ d, o.dst = some d := by cases h : o.dst with | none => exact absurd h hdn | some d => exact ⟨d, rfl⟩
  have hiS : ¬ S i := fun hs => by
    obtain ⟨ok, _, hp⟩ := hpair i (h.sub i hs)
    exact (pairOk_inv hp).1 rfl
  have hipre : i ∉ pre := fun hs => by
    obtain ⟨ok, _, hp⟩ := hpair i hs
    exact (pairOk_inv hp).1 rfl
  simp only [pdops, ho] at hx
  obtain ⟨wb, fr1, hw, hfe, hx2⟩ := pguard_inv hx
  clear hx
  -- the value that is put
  have hval : ∃ v, ((wb = true ∧ aop P (fev fr) o σ = some (v, σ)) ∨ (wb = false ∧ v = skipV)) ∧ pdops P all kp post kn (fput fr1 o.dst v) σ := by
    cases wb with
    | false => exact ⟨skipV, .inr ⟨rfl, rfl⟩, by simpa using hx2⟩
    | true =>
      simp only [if_true] at hx2
      obtain ⟨K0, hx2, hx3⟩ := hx2
      obtain ⟨v, h1, h2⟩ := wval_float hf hx2
      rw [hfe.ev] at h1
      exact ⟨v, .inl ⟨rfl, h1⟩, hx3 v σ h2⟩
  obtain ⟨v, hv, hx⟩ := hval
  refine ⟨_, ?_, hx⟩
  have hget : ∀ t, fget (fput fr1 o.dst v) t = if t = d then v else fget fr t := by
    intro t
    rw [hd]
    simp only [fput, fget_set, hfe t]
  have hne : ∀ k ok t, k ∈ pre → all[k]? = some ok → ok.dst = some t → t ≠ d := by
    intro k ok t hk hok hkt e
    obtain ⟨ok', hok', hp⟩ := hpair k hk
    rw [hok] at hok'; cases hok'
    exact (pairOk_inv hp).2.2.1 t d hkt hd e
  refine ⟨fun k hk => List.mem_cons_of_mem _ (h.sub k hk), fun k ok hk hok hfk => ?_, h.closed, fun k ok t hk hok hkt => ?_, h.f2, fun t ht => ?_, ?_, ?_, h.kp, ?_, ?_, ?_, ?_⟩
  · rcases List.mem_cons.1 hk with rfl | hk
    · rw [ho] at hok; cases hok; rw [hf] at hfk; cases hfk
    · exact h.spine k ok hk hok hfk
  · rw [hget, if_neg (hne k ok t (h.sub k hk) hok hkt)]
    exact h.f1 k ok t hk hok hkt
  · rw [hget, if_neg (fun e => ht i o (by simp) ho (by rw [hd, e]))]
    exact h.f3 t fun k ok hk hok => ht k ok (by simp [hk]) hok
  · intro k k' ok ok' t hk hk' hok hok' hkt hkt'
    rcases List.mem_cons.1 hk with rfl | hk2 <;> rcases List.mem_cons.1 hk' with rfl | hk2'
    · rfl
    · rw [ho] at hok; cases hok
      rw [hd] at hkt; cases hkt
      exact absurd rfl (hne k' ok' _ hk2' hok' hkt')
    · rw [ho] at hok'; cases hok'
      rw [hd] at hkt'; cases hkt'
      exact absurd rfl (hne k ok _ hk2 hok hkt)
    · exact h.dis k k' ok ok' t hk2 hk2' hok hok' hkt hkt'
  · intro k q ok oq t hk hq hkq hok hoq hkt hm
    rcases List.mem_cons.1 hk with rfl | hk2 <;> rcases List.mem_cons.1 hq with rfl | hq2
    · exact absurd rfl hkq
    · rw [ho] at hok; cases hok
      obtain ⟨oq', hoq', hp⟩ := hpair q hq2
      rw [hoq] at hoq'; cases hoq'
      exact .inr ((pairOk_inv hp).2.2.2.2.1 t hkt hm)
    · rw [ho] at hoq; cases hoq
      obtain ⟨ok', hok', hp⟩ := hpair k hk2
      rw [hok] at hok'; cases hok'
      exact .inl ((pairOk_inv hp).2.2.2.1 t hkt hm)
    · exact h.pw k q ok oq t hk2 hq2 hkq hok hoq hkt hm
  · intro k ok d' hk hok hkd
    rcases List.mem_cons.1 hk with rfl | hk
    · rw [ho] at hok; cases hok; exact hdN d' hkd
    · exact h.dst k ok d' hk hok hkd
  · intro k ok hk hok hfk
    rcases List.mem_cons.1 hk with rfl | hk
    · rw [ho] at hok; cases hok; exact hdn
    · exact h.flt k ok hk hok hfk
  · intro k hk
    rcases List.mem_cons.1 hk with rfl | hk
    · exact ⟨o, ho⟩
    · exact h.ins k hk
  · intro q oq hq hqS hoq
    rcases List.mem_cons.1 hq with rfl | hq
    · rw [ho] at hoq; cases hoq
      refine ⟨fr, d, hd, fun t ht hex => ?_, fun t ht hex => ?_, ?_⟩
      · obtain ⟨k, ok, hk, hok, hkt, hb⟩ := hex
        rcases List.mem_cons.1 hk with rfl | hk
        · exact absurd ((isB_sound hb).lt hE) (Nat.lt_irrefl _)
        · rw [hget, if_neg (hne k ok t hk hok hkt)]
      · refine h.f3 t fun k ok hk hok hkt => hex ⟨k, ok, by simp [hk], hok, hkt, ?_⟩
        obtain ⟨ok', hok', hp⟩ := hpair k hk
        rw [hok] at hok'; cases hok'
        exact (pairOk_inv hp).2.2.2.1 t hkt ht
      · rw [hget, if_pos rfl]
        rcases hv with ⟨rfl, hv⟩ | ⟨rfl, hv⟩
        · exact .inl ⟨hw, hv⟩
        · exact .inr ⟨hw, hv⟩
    · obtain ⟨frq, dq, hdq, g1, g2, g3⟩ := h.g q oq hq hqS hoq
      obtain ⟨oq', hoq', hp⟩ := hpair q hq
      rw [hoq] at hoq'; cases hoq'
      have hnb : ¬ isB (befs all []) i q = true := fun hh => by
        have := (pairOk_inv hp).2.1
        rw [hh] at this; cases this
      refine ⟨frq, dq, hdq, fun t ht hex => ?_, fun t ht hex => ?_, ?_⟩
      · obtain ⟨k, ok, hk, hok, hkt, hb⟩ := hex
        rcases List.mem_cons.1 hk with rfl | hk
        · exact absurd hb hnb
        · rw [hget, if_neg (hne k ok t hk hok hkt)]
          exact g1 t ht ⟨k, ok, hk, hok, hkt, hb⟩
      · exact g2 t ht fun ⟨k, ok, hk, hok, hkt, hb⟩ => hex ⟨k, ok, by simp [hk], hok, hkt, hb⟩
      · rw [hget, if_neg (hne q oq dq hq hoq hdq)]
        exact g3

/-- An operation that only computes or reads, of which it is known what it comes to. -/
theorem aop_step {o : Oper} {ev : Operand → Value} {σ : AHeap} {ρ : List RB} {w : World} {a : Act} {v : Value} {next : Act → World → Prop} {Q : Exit → Act → World → Prop}
    (hev : ∀ x ∈ o.op.operands, VR ρ (ev x) (a.eval x)) (h : Rel B w0 ρ σ w) (hf : floatB o.op = true) (hv : aop P ev o σ = some (v, σ))
    (hk : ∀ ρ' v' w', Ext ρ ρ' → Rel B w0 ρ' σ w' → VR ρ' v v' → next (a.put o.dst v') w') : o.wp P a w next Q := by
  have hex : ∃ ev' : Operand → Value, (∀ x ∈ o.op.operands, ev x = ev' x) ∧ ∀ x, VR ρ (ev' x) (a.eval x) := by
    classical
    refine ⟨fun x => if x ∈ o.op.operands then ev x else undef, fun x hx => (if_pos hx).symm, fun x => ?_⟩
    simp only
    split
    · rename_i hx; exact hev x hx
    · exact .dead _
  obtain ⟨ev', he1, he2⟩ := hex
  rw [aop_congr he1] at hv
  obtain ⟨n, w', ρ', v', e1, e2, e3, e4, e5⟩ := aop_sound h he2 hv
  unfold Oper.wp
  rw [e1]
  have hfin := hk ρ' v' w' e3 e4 e5
  rcases e2 with rfl | ⟨rfl, rfl⟩
  · exact hfin
  · exact hfin

/-- The machine takes a float that has been taken abstractly. -/
theorem DInv.floatStep {pre : List Nat} {fr0 fr : Fr} {σ : AHeap} {ρ : List RB} {S : Nat → Prop} {a : Act} {w : World} {i : Nat} {o : Oper} {Q : Exit → Act → World → Prop} {Kn : Act → World → Prop} (hkp : KP B w0 C ρ kp Q)
    (h : DInv P C all pre fr0 fr σ ρ S a) (hr : Rel B w0 ρ σ w) (hi : i ∈ pre) (hiS : ¬ S i) (ho : all[i]? = some o) (hready : ∀ e ∈ o.after.toList, Region.binds .any e = true → S e.on)
    (hK : ∀ ρ' a' w', DInv P C all pre fr0 fr σ ρ' (fun j => j = i ∨ S j) a' → Ext ρ ρ' → Rel B w0 ρ' σ w' → Kn a' w') : wpOp P all.toArray Q i Kn a w := by
  have hfl : floatB o.op = true := by
    cases hf : floatB o.op with
    | true => rfl
    | false => exact absurd (h.spine i o hi ho hf) hiS
  obtain ⟨frq, d, hd, g1, g2, g3⟩ := h.g i o hi hiS ho
  have hbefS : ∀ k, isB (befs all []) k i = true → S k := fun k hb => (isB_sound hb).closed h.closed fun o' ho' => by rw [ho] at ho'; cases ho'; exact hready
  -- what it looks at stands for what the machine has there
  have hv : ∀ t ∈ looks all o, VR ρ (fget frq t) (a.tmps.getD t undef) := by
    intro t ht
    by_cases hex : ∃ k ok, k ∈ pre ∧ all[k]? = some ok ∧ ok.dst = some t ∧ isB (befs all []) k i = true
    · rw [g1 t ht hex]
      obtain ⟨k, ok, hk, hok, hkt, hb⟩ := hex
      exact h.f1 k ok t (hbefS k hb) hok hkt
    · rw [g2 t ht hex]
      refine h.f2 t fun k ok hk hok hkt => ?_
      have hki : k ≠ i := fun e => hiS (e ▸ hk)
      rcases h.pw k i ok o t (h.sub k hk) hi hki hok ho hkt ht with hb | hb
      · exact hex ⟨k, ok, h.sub k hk, hok, hkt, hb⟩
      · exact hiS ((isB_sound hb).closed h.closed fun o' ho' => h.closed k o' ho' hk)
  have hdN := h.dst i o d hi ho hd
  -- behind it
  have hnext : ∀ ρ' v', Ext ρ ρ' → VR ρ' (fget fr d) v' → DInv P C all pre fr0 fr σ ρ' (fun j => j = i ∨ S j) (a.put o.dst v') := by
    intro ρ' v' he hvv
    have hput : ∀ t, (a.put o.dst v').tmps.getD t undef = if t = d then v' else a.tmps.getD t undef := by
      intro t
      rw [hd]
      simp only [Act.put, Array.getD_eq_getD_getElem?, Array.getElem?_setIfInBounds]
      by_cases htd : t = d
      · subst htd
        have : t < a.tmps.size := by rw [h.kp.size]; exact hdN.1
        simp [this]
      · rw [if_neg (fun e => htd e.symm), if_neg htd]
    refine ⟨fun j hj => ?_, fun j ok hj hok hf => .inr (h.spine j ok hj hok hf), fun j oj hoj hj e he hb => ?_, fun k ok t hk hok hkt => ?_, fun t ht => ?_, h.f3, h.dis, h.pw, ?_, h.dst, h.flt, h.ins, fun q oq hq hqS hoq => h.g q oq hq (fun hs => hqS (.inr hs)) hoq⟩
    · rcases hj with rfl | hj
      · exact hi
      · exact h.sub j hj
    · rcases hj with rfl | hj
      · rw [ho] at hoj; cases hoj; exact .inr (hready e he hb)
      · exact .inr (h.closed j oj hoj hj e he hb)
    · rw [hput]
      split
      · rename_i htd; subst htd; exact hvv
      · rename_i htd
        rcases hk with rfl | hk
        · rw [ho] at hok; cases hok; rw [hd] at hkt; cases hkt; exact absurd rfl htd
        · exact (h.f1 k ok t hk hok hkt).mono he
    · rw [hput, if_neg (fun e => ht i o (.inl rfl) ho (by rw [hd, e]))]
      exact (h.f2 t fun k ok hk hok => ht k ok (.inr hk) hok).mono he
    · exact h.kp.put fun d' hd' => by rw [hd] at hd'; cases hd'; exact hdN
  unfold wpOp
  have hoa : all.toArray[i]? = some o := by simpa using ho
  rw [hoa]
  simp only
  rcases g3 with ⟨hw, hval⟩ | ⟨hw, hval⟩
  · rw [if_pos (wanted_of hw hv)]
    left
    refine aop_step (ev := fev frq) (fun x hx => ?_) hr hfl hval fun ρ' v' w' e1 e2 e3 => ?_
    · cases x with
      | tmp t => exact hv t (looks_operand hx)
      | const c => exact (FR.ev (C := ⟨a.tmps.size, a.defers, [], fun _ => undef⟩) (a := a) (fr := .leaf) ⟨fun t => by rw [fget_leaf]; exact .dead _, rfl, rfl, fun t ht => by simp at ht⟩ (.const c))
      | func f => exact .func _ _ _ _ _ rfl rfl (fun i v v' x => by simp at x) (fun i v v' x => by simp at x)
      | global g => exact .dead _
    · exact hK ρ' _ w' (hnext ρ' v' e1 e3) e1 e2
  · rw [if_neg (by rw [wanted_of hw hv]; simp)]
    exact hK ρ _ w (hnext ρ undef (Ext.refl _) (by rw [hval]; exact .skp)) (Ext.refl _) hr

/-- The machine takes the operation that writes and stands next in the order. -/
theorem DInv.spineStep (hE : edgesOk all = true) {pre : List Nat} {fr0 fr : Fr} {σ : AHeap} {ρ : List RB} {S : Nat → Prop} {a : Act} {w : World} {i : Nat} {chk : List Nat} {post : List (Nat × List Nat)} {o : Oper} {Q : Exit → Act → World → Prop} {Kn : Act → World → Prop}
    {kn : FK} (hkp : KP B w0 C ρ kp Q)
    (h : DInv P C all pre fr0 fr σ ρ S a) (hr : Rel B w0 ρ σ w) (hc : dChk C.N C.Lp all (befs all []) pre ((i, chk) :: post) = true) (ho : all[i]? = some o) (hfl : floatB o.op = false)
    (hready : ∀ e ∈ o.after.toList, Region.binds .any e = true → S e.on)
    (hx : pdops P all kp ((i, chk) :: post) kn fr σ)
    (hK : ∀ ρ' fr' σ' a' w', DInv P C all (i :: pre) fr0 fr' σ' ρ' (fun j => j = i ∨ S j) a' → Ext ρ ρ' → Rel B w0 ρ' σ' w' → pdops P all kp post kn fr' σ' → Kn a' w') :
    wpOp P all.toArray Q i Kn a w := by
  obtain ⟨o', ho', hdN, _, hpair, hchk, _⟩ := dChk_inv hc
  rw [ho] at ho'; cases ho'
  have hipre : i ∉ pre := fun hs => by
    obtain ⟨ok, _, hp⟩ := hpair i hs
    exact (pairOk_inv hp).1 rfl
  have hiS : ¬ S i := fun hs => hipre (h.sub i hs)
  have hbefS : ∀ k, isB (befs all []) k i = true → S k := fun k hb => (isB_sound hb).closed h.closed fun o' ho' => by rw [ho] at ho'; cases ho'; exact hready
  have hpo : ∀ k ∈ pre, ∀ ok, all[k]? = some ok → pairOk all (befs all []) chk k i ok o = true := fun k hk ok hok => by
    obtain ⟨ok', hok', hp⟩ := hpair k hk
    rw [hok] at hok'; cases hok'; exact hp
  have hv : ∀ t ∈ looks all o, VR ρ (fget fr t) (a.tmps.getD t undef) := by
    intro t ht
    by_cases hex : ∃ k ok, S k ∧ all[k]? = some ok ∧ ok.dst = some t
    · obtain ⟨k, ok, hk, hok, hkt⟩ := hex
      exact h.f1 k ok t hk hok hkt
    · rw [h.f3 t fun k ok hk hok hkt => hex ⟨k, ok, hbefS k ((pairOk_inv (hpo k hk ok hok)).2.2.2.1 t hkt ht), hok, hkt⟩]
      exact h.f2 t fun k ok hk hok hkt => hex ⟨k, ok, hk, hok, hkt⟩
  simp only [pdops, ho] at hx
  obtain ⟨wb, fr1, hw, hfe, hx2⟩ := pguard_inv hx
  clear hx
  -- behind it: a value is put; the heap may have turned
  have hnext : ∀ (v v' : Value) σ' ρ' fr2, Ext ρ ρ' → VR ρ' v v' → FEq fr2 (fput fr1 o.dst v) →
      (∀ q oq, q ∈ pre → ¬ (q = i ∨ S q) → all[q]? = some oq → ∀ frq d, oq.dst = some d → (∀ t ∈ looks all oq, (∃ k ok, k ∈ pre ∧ all[k]? = some ok ∧ ok.dst = some t ∧ isB (befs all []) k q = true) → fget frq t = fget fr t) →
        (∀ t ∈ looks all oq, (¬ ∃ k ok, k ∈ pre ∧ all[k]? = some ok ∧ ok.dst = some t ∧ isB (befs all []) k q = true) → fget frq t = fget fr0 t) →
        wantA all oq frq = some true → aop P (fev frq) oq σ = some (fget fr d, σ) → aop P (fev frq) oq σ' = some (fget fr d, σ')) →
      DInv P C all (i :: pre) fr0 fr2 σ' ρ' (fun j => j = i ∨ S j) (a.put o.dst v') := by
    intro v v' σ' ρ' fr2 he hvv hf2 hG
    have hget : ∀ t, fget fr2 t = match o.dst with | some d => if t = d then v else fget fr t | none => fget fr t := by
      intro t
      rw [hf2 t]
      cases hd : o.dst with
      | none => exact hfe t
      | some d => simp only [fput, fget_set, hfe t]
    have hgetN : ∀ t, o.dst ≠ some t → fget fr2 t = fget fr t := by
      intro t ht
      rw [hget t]
      cases hd : o.dst with
      | none => rfl
      | some d => simp only; rw [if_neg (fun e => ht (by rw [hd, e]))]
    have hput : ∀ t, (a.put o.dst v').tmps.getD t undef = if o.dst = some t then v' else a.tmps.getD t undef := by
      intro t
      cases hd : o.dst with
      | none => simp [Act.put]
      | some d =>
        simp only [Act.put, Array.getD_eq_getD_getElem?, Array.getElem?_setIfInBounds]
        by_cases htd : d = t
        · subst htd
          have : d < a.tmps.size := by rw [h.kp.size]; exact (hdN d hd).1
          simp [this]
        · rw [if_neg htd, if_neg (fun e => htd (by cases e; rfl))]
    have hne : ∀ k ok t, k ∈ pre → all[k]? = some ok → ok.dst = some t → o.dst ≠ some t := by
      intro k ok t hk hok hkt e
      exact (pairOk_inv (hpo k hk ok hok)).2.2.1 t t hkt e rfl
    refine ⟨fun j hj => ?_, fun j ok hj hok hf => ?_, fun j oj hoj hj e he' hb => ?_, fun k ok t hk hok hkt => ?_, fun t ht => ?_, fun t ht => ?_, ?_, ?_, ?_, ?_, ?_, ?_, ?_⟩
    · rcases hj with rfl | hj
      · simp
      · exact List.mem_cons_of_mem _ (h.sub j hj)
    · rcases List.mem_cons.1 hj with rfl | hj
      · exact .inl rfl
      · exact .inr (h.spine j ok hj hok hf)
    · rcases hj with rfl | hj
      · rw [ho] at hoj; cases hoj; exact .inr (hready e he' hb)
      · exact .inr (h.closed j oj hoj hj e he' hb)
    · rcases hk with rfl | hk
      · rw [ho] at hok; cases hok
        rw [hput, if_pos hkt, hget, hkt]
        simp only [if_true]
        exact hvv
      · have hn := hne k ok t (h.sub k hk) hok hkt
        rw [hput, if_neg hn, hgetN t hn]
        exact (h.f1 k ok t hk hok hkt).mono he
    · rw [hput, if_neg (ht i o (.inl rfl) ho)]
      exact (h.f2 t fun k ok hk hok => ht k ok (.inr hk) hok).mono he
    · rw [hgetN t (ht i o (by simp) ho)]
      exact h.f3 t fun k ok hk hok => ht k ok (by simp [hk]) hok
    · intro k k' ok ok' t hk hk' hok hok' hkt hkt'
      rcases List.mem_cons.1 hk with rfl | hk2 <;> rcases List.mem_cons.1 hk' with rfl | hk2'
      · rfl
      · rw [ho] at hok; cases hok
        exact absurd hkt (hne k' ok' t hk2' hok' hkt')
      · rw [ho] at hok'; cases hok'
        exact absurd hkt' (hne k ok t hk2 hok hkt)
      · exact h.dis k k' ok ok' t hk2 hk2' hok hok' hkt hkt'
    · intro k q ok oq t hk hq hkq hok hoq hkt hm
      rcases List.mem_cons.1 hk with rfl | hk2 <;> rcases List.mem_cons.1 hq with rfl | hq2
      · exact absurd rfl hkq
      · rw [ho] at hok; cases hok
        exact .inr ((pairOk_inv (hpo q hq2 oq hoq)).2.2.2.2.1 t hkt hm)
      · rw [ho] at hoq; cases hoq
        exact .inl ((pairOk_inv (hpo k hk2 ok hok)).2.2.2.1 t hkt hm)
      · exact h.pw k q ok oq t hk2 hq2 hkq hok hoq hkt hm
    · exact h.kp.put hdN
    · intro k ok d' hk hok hkd
      rcases List.mem_cons.1 hk with rfl | hk
      · rw [ho] at hok; cases hok; exact hdN d' hkd
      · exact h.dst k ok d' hk hok hkd
    · intro k ok hk hok hfk
      rcases List.mem_cons.1 hk with rfl | hk
      · rw [ho] at hok; cases hok; rw [hfl] at hfk; cases hfk
      · exact h.flt k ok hk hok hfk
    · intro k hk
      rcases List.mem_cons.1 hk with rfl | hk
      · exact ⟨o, ho⟩
      · exact h.ins k hk
    · intro q oq hq hqS hoq
      rcases List.mem_cons.1 hq with rfl | hq
      · exact absurd (.inl rfl) hqS
      · obtain ⟨frq, dq, hdq, g1, g2, g3⟩ := h.g q oq hq (fun hs => hqS (.inr hs)) hoq
        have hnb : ¬ isB (befs all []) i q = true := fun hh => by
          have := (pairOk_inv (hpo q hq oq hoq)).2.1
          rw [hh] at this; cases this
        refine ⟨frq, dq, hdq, fun t ht hex => ?_, fun t ht hex => ?_, ?_⟩
        · obtain ⟨k, ok, hk, hok, hkt, hb⟩ := hex
          rcases List.mem_cons.1 hk with rfl | hk
          · exact absurd hb hnb
          · rw [hgetN t (hne k ok t hk hok hkt)]
            exact g1 t ht ⟨k, ok, hk, hok, hkt, hb⟩
        · exact g2 t ht fun ⟨k, ok, hk, hok, hkt, hb⟩ => hex ⟨k, ok, by simp [hk], hok, hkt, hb⟩
        · rw [hgetN dq (hne q oq dq hq hoq hdq)]
          rcases g3 with ⟨h1, h2⟩ | h2
          · exact .inl ⟨h1, hG q oq hq hqS hoq frq dq hdq g1 g2 h1 h2⟩
          · exact .inr h2
  unfold wpOp
  have hoa : all.toArray[i]? = some o := by simpa using ho
  rw [hoa]
  simp only
  cases wb with
  | false =>
    rw [if_neg (by rw [wanted_of hw hv]; simp)]
    simp only [Bool.false_eq_true, if_false] at hx2
    exact hK ρ _ σ _ w (hnext skipV undef σ ρ _ (Ext.refl _) .skp (fun _ => rfl) fun q oq hq hqS hoq frq d hd g1 g2 h1 h2 => h2) (Ext.refl _) hr hx2
  | true =>
    rw [if_pos (wanted_of hw hv)]
    left
    simp only [if_true] at hx2
    obtain ⟨K0, hx2, hx3⟩ := hx2
    rw [hfe.ev] at hx2
    refine wval_sound (C := C) (ev := fev fr) (fun x hx => ?_) hr hx2 (fun v σ' ρ' v' w' hm e1 e2 e3 => ?_) hkp h.kp
    · cases x with
      | tmp t => exact hv t (looks_operand hx)
      | const c => exact (FR.ev (C := ⟨a.tmps.size, a.defers, [], fun _ => undef⟩) (a := a) (fr := .leaf) ⟨fun t => by rw [fget_leaf]; exact .dead _, rfl, rfl, fun t ht => by simp at ht⟩ (.const c))
      | func f => exact .func _ _ _ _ _ rfl rfl (fun i v v' x => by simp at x) (fun i v v' x => by simp at x)
      | global g => exact .dead _
    · obtain ⟨fr2, f1, f2, f3⟩ := precheck_inv chk _ _ (hx3 v σ' hm)
      refine hK ρ' fr2 σ' _ w' (hnext v v' σ' ρ' fr2 e1 e3 f1 ?_) e1 e2 f2
      intro q oq hq hqS hoq frq d hd g1 g2 h1 h2
      cases hqq : quietB oq.op with
      | true => exact aop_pure σ' hqq h2
      | false =>
        have hqf : floatB oq.op = true := by
          cases hf : floatB oq.op with
          | true => rfl
          | false => exact absurd (h.spine q oq hq hoq hf) fun hs => hqS (.inr hs)
        have hqr : readB oq.op = true := by
          unfold floatB at hqf
          rw [hqq] at hqf
          simpa using hqf
        have hnb : isB (befs all []) q i = false := by
          cases hb : isB (befs all []) q i with
          | false => rfl
          | true => exact absurd (hbefS q hb) fun hs => hqS (.inr hs)
        have hqc := (pairOk_inv (hpo q hq oq hoq)).2.2.2.2.2.2 hfl hqr hnb
        obtain ⟨oq', hoq', _, _, hwr⟩ := chkOk_inv (hchk q hqc).1
        rw [hoq] at hoq'; cases hoq'
        have hneD : ∀ k ok t, k ∈ pre → all[k]? = some ok → ok.dst = some t → o.dst ≠ some t := by
          intro k ok t hk hok hkt e
          exact (pairOk_inv (hpo k hk ok hok)).2.2.1 t t hkt e rfl
        have hnb2 : ¬ isB (befs all []) i q = true := fun hh => by
          have := (pairOk_inv (hpo q hq oq hoq)).2.1
          rw [hh] at this; cases this
        -- the frame behind the operation shows the read what it saw
        have hsame : ∀ t ∈ looks all oq, fget (fput fr1 o.dst v) t = fget frq t := by
          intro t ht
          have hnd : o.dst ≠ some t := fun e => hnb2 (hwr i (by simp) o t ho e ht)
          have h0 : fget (fput fr1 o.dst v) t = fget fr t := by
            cases hd : o.dst with
            | none => exact hfe t
            | some d =>
              simp only [fput, fget_set]
              rw [if_neg (fun e => hnd (by rw [hd, e]))]
              exact hfe t
          rw [h0]
          by_cases hex : ∃ k ok, k ∈ pre ∧ all[k]? = some ok ∧ ok.dst = some t ∧ isB (befs all []) k q = true
          · exact (g1 t ht hex).symm
          · rw [g2 t ht hex]
            exact h.f3 t fun k ok hk hok hkt => hex ⟨k, ok, hk, hok, hkt, hwr k (by simp [hk]) ok t hok hkt ht⟩
        rcases f3 q hqc oq hoq with hz | ⟨_, d', σ'', hd', hval⟩
        · rw [wantA_congr hsame, h1] at hz; cases hz
        · rw [hd] at hd'; cases hd'
          rw [aop_congr (fev_congr hsame)] at hval
          obtain rfl := aop_keep (by unfold floatB at hqf; exact hqf) hval
          have hdd : fget (fput fr1 o.dst v) d = fget fr d := by
            have hnd := hneD q oq d hq hoq hd
            cases hd2 : o.dst with
            | none => exact hfe d
            | some d2 =>
              simp only [fput, fget_set]
              rw [if_neg (fun e => hnd (by rw [hd2, e]))]
              exact hfe d
          rw [hdd] at hval
          exact hval

def headSpine (all : List Oper) : List (Nat × List Nat) → Prop
  | [] => True
  | (i, _) :: _ => ∀ o, all[i]? = some o → floatB o.op = false

/-- All floats that stand next are taken abstractly. -/
theorem DInv.advanceAll (hE : edgesOk all = true) {fr0 : Fr} {σ : AHeap} {ρ : List RB} {S : Nat → Prop} {a : Act} {kn : FK} : ∀ (post : List (Nat × List Nat)) (pre : List Nat) (fr : Fr),
    DInv P C all pre fr0 fr σ ρ S a → dChk C.N C.Lp all (befs all []) pre post = true → pdops P all kp post kn fr σ →
    ∃ pre' post' fr', DInv P C all pre' fr0 fr' σ ρ S a ∧ dChk C.N C.Lp all (befs all []) pre' post' = true ∧ pdops P all kp post' kn fr' σ ∧ headSpine all post' ∧ (∀ j, (j ∈ pre ∨ j ∈ post.map (·.1)) → (j ∈ pre' ∨ j ∈ post'.map (·.1)))
  | [], pre, fr, h, hc, hx => ⟨pre, [], fr, h, hc, hx, trivial, fun j hj => hj⟩
  | (i, chk) :: post, pre, fr, h, hc, hx => by
    obtain ⟨o, ho, _, _, _, _, hc2⟩ := dChk_inv hc
    cases hf : floatB o.op with
    | false => exact ⟨pre, _, fr, h, hc, hx, fun o' ho' => by rw [ho] at ho'; cases ho'; exact hf, fun j hj => hj⟩
    | true =>
      obtain ⟨fr', h1, h2⟩ := h.advance hE hc ho hf hx
      obtain ⟨pre', post', fr2, e1, e2, e3, e4, e5⟩ := DInv.advanceAll hE post (i :: pre) fr' h1 hc2 h2
      refine ⟨pre', post', fr2, e1, e2, e3, e4, fun j hj => e5 j ?_⟩
      rcases hj with hj | hj
      · exact .inl (List.mem_cons_of_mem _ hj)
      · simp only [List.map_cons, List.mem_cons] at hj
        rcases hj with rfl | hj
        · exact .inl (by simp)
        · exact .inr hj

/-- Of two that stand in the order, the pair was asked. -/
theorem dChk_later {b : List Nat} {k : Nat} : ∀ (post : List (Nat × List Nat)) (pre : List Nat), dChk C.N C.Lp all b pre post = true → k ∈ pre → ∀ i, i ∈ post.map (·.1) → ∃ ok oi chk, all[k]? = some ok ∧ all[i]? = some oi ∧ pairOk all b chk k i ok oi = true
  | [], _, _, _, i, hi => by simp at hi
  | (j, chk) :: post, pre, hc, hk, i, hi => by
    obtain ⟨o, ho, _, _, hpair, _, hc2⟩ := dChk_inv hc
    simp only [List.map_cons, List.mem_cons] at hi
    rcases hi with rfl | hi
    · obtain ⟨ok, hok, hp⟩ := hpair k hk
      exact ⟨ok, o, chk, hok, ho, hp⟩
    · exact dChk_later post (j :: pre) hc2 (by simp [hk]) i hi
end
end Go.Ax
namespace Go.Ax
open Go.RowKit

section
variable {P : Program} {B : Nat} {w0 : World} {C : Cx} {all : List Oper} {kp : WK}

def unl (n : Nat) (listed : Array Bool) : Nat := ((List.range n).filter fun i => !listed.getD i false).length

theorem getD_true_of_false {listed : Array Bool} {i : Nat} (hi : i < listed.size) : listed.getD i true = listed.getD i false := by
  simp [Array.getD_eq_getD_getElem?, hi]

theorem unl_lt {n : Nat} {listed : Array Bool} {i : Nat} (hn : listed.size = n) (hi : i < n) (hl : listed.getD i false = false) : unl n (listed.setIfInBounds i true) < unl n listed := by
  unfold unl
  have hsub : ∀ l : List Nat, l.Nodup → i ∈ l → (l.filter fun j => !(listed.setIfInBounds i true).getD j false).length < (l.filter fun j => !listed.getD j false).length := by
    intro l
    induction l with
    | nil => intro _ h; simp at h
    | cons x l ih =>
      intro hnd hm
      rw [List.nodup_cons] at hnd
      simp only [List.filter_cons]
      by_cases hx : x = i
      · subst hx
        have h1 : (listed.setIfInBounds x true).getD x false = true := by
          have hx' : x < listed.size := by omega
          simp [Array.getD_eq_getD_getElem?, hx']
        have hrest : (l.filter fun j => !(listed.setIfInBounds x true).getD j false) = l.filter fun j => !listed.getD j false := by
          apply List.filter_congr
          intro j hj
          have hne : x ≠ j := fun e => hnd.1 (e ▸ hj)
          rw [getD_set_ne false hne]
        rw [h1, hl, hrest]
        simp
      · have hm' : i ∈ l := by
          rcases List.mem_cons.1 hm with h | h
          · exact absurd h.symm hx
          · exact h
        have h1 : (listed.setIfInBounds i true).getD x false = listed.getD x false := getD_set_ne false (fun e => hx e.symm)
        rw [h1]
        have := ih hnd.2 hm'
        split
        · rw [List.length_cons, List.length_cons]; omega
        · exact this
  exact hsub _ List.nodup_range (List.mem_range.2 hi)

theorem dregEnd (hE : edgesOk all = true) {kn : FK} {Q : Exit → Act → World → Prop} {fr0 : Fr} {ρ0 : List RB} (hkn : KS B w0 C ρ0 kn (Q .normal))
    (listed : Array Bool) (a : Act) (w : World) (pre : List Nat) (post : List (Nat × List Nat)) (fr : Fr) (σ : AHeap) (ρ : List RB)
    (hls : listed.size = all.length) (hext : Ext ρ0 ρ) (h : DInv P C all pre fr0 fr σ ρ (fun i => listed.getD i false = true) a) (hr : Rel B w0 ρ σ w)
    (hc : dChk C.N C.Lp all (befs all []) pre post = true) (hs : headSpine all post) (hcov : ∀ j, j < all.length → (j ∈ pre ∨ j ∈ post.map (·.1)))
    (hx : pdops P all kp post kn fr σ) (hall : ∀ i, i < all.length → listed.getD i false = true) : Q .normal a w := by
  have hpost : post = [] := by
    cases post with
    | nil => rfl
    | cons p post =>
      obtain ⟨s, chk⟩ := p
      obtain ⟨os, hos, _, _, hpair, _, _⟩ := dChk_inv hc
      have hlt := (List.getElem?_eq_some_iff.1 hos).1
      obtain ⟨ok2, _, hp2⟩ := hpair s (h.sub s (hall s hlt))
      exact absurd rfl (pairOk_inv hp2).1
  subst hpost
  refine hkn ρ fr σ a w hext ⟨fun t => ?_, h.kp⟩ hr hx
  by_cases hex : ∃ k ok, k ∈ pre ∧ all[k]? = some ok ∧ ok.dst = some t
  · obtain ⟨k, ok, hk, hok, hkt⟩ := hex
    exact h.f1 k ok t (hall k (List.getElem?_eq_some_iff.1 hok).1) hok hkt
  · rw [h.f3 t fun k ok hk hok hkt => hex ⟨k, ok, hk, hok, hkt⟩]
    exact h.f2 t fun k ok hk hok hkt => hex ⟨k, ok, h.sub k hk, hok, hkt⟩

theorem wpAny_dreg (hE : edgesOk all = true) {kn : FK} {Q : Exit → Act → World → Prop} {fr0 : Fr} {ρ0 : List RB} (hkn : KS B w0 C ρ0 kn (Q .normal)) (hkp : KP B w0 C ρ0 kp Q) :
    ∀ (fuel : Nat) (listed : Array Bool) (a : Act) (w : World) (pre : List Nat) (post : List (Nat × List Nat)) (fr : Fr) (σ : AHeap) (ρ : List RB),
      listed.size = all.length → unl all.length listed ≤ fuel → Ext ρ0 ρ → DInv P C all pre fr0 fr σ ρ (fun i => listed.getD i false = true) a → Rel B w0 ρ σ w →
      dChk C.N C.Lp all (befs all []) pre post = true → headSpine all post → (∀ j, j < all.length → (j ∈ pre ∨ j ∈ post.map (·.1))) →
      pdops P all kp post kn fr σ → wpAny P .any all.toArray Q fuel listed a w := by
  intro fuel
  induction fuel with
  | zero =>
    intro listed a w pre post fr σ ρ hls hu hext h hr hc hs hcov hx
    refine ⟨?_, ?_⟩
    · cases hrd : Region.ready .any all.toArray listed with
      | nil => rfl
      | cons i l =>
        have hi : i ∈ Region.ready .any all.toArray listed := by rw [hrd]; simp
        obtain ⟨h1, o, ho, _⟩ := mem_ready.1 hi
        have hlt : i < all.length := by have := (Array.getElem?_eq_some_iff.1 ho).1; simpa using this
        have hm : i ∈ (List.range all.length).filter fun i => !listed.getD i false := by
          rw [List.mem_filter]
          refine ⟨List.mem_range.2 hlt, ?_⟩
          rw [← getD_true_of_false (by omega), h1]; rfl
        have := List.length_pos_of_mem hm
        unfold unl at hu
        omega
    · exact dregEnd hE hkn listed a w pre post fr σ ρ hls hext h hr hc hs hcov hx (by
        intro i hi
        cases hb : listed.getD i false with
        | true => rfl
        | false =>
          have hm : i ∈ (List.range all.length).filter fun i => !listed.getD i false := by
            rw [List.mem_filter]
            exact ⟨List.mem_range.2 hi, by rw [hb]; rfl⟩
          have := List.length_pos_of_mem hm
          unfold unl at hu
          omega)
  | succ fuel ih =>
    intro listed a w pre post fr σ ρ hls hu hext h hr hc hs hcov hx
    refine ⟨fun hnil => ?_, fun i hi => ?_⟩
    · refine dregEnd hE hkn listed a w pre post fr σ ρ hls hext h hr hc hs hcov hx ?_
      have key : ∀ n i, i < n → i < all.length → listed.getD i false = true := by
        intro n
        induction n with
        | zero => intro i h; omega
        | succ n ihn =>
          intro i hin hi
          cases hb : listed.getD i false with
          | true => rfl
          | false =>
            have hoi : all[i]? = some all[i] := List.getElem?_eq_getElem hi
            have : i ∈ Region.ready .any all.toArray listed := by
              rw [mem_ready]
              refine ⟨by rw [getD_true_of_false (by omega), hb], all[i], by simp [hi], fun e he hbd => ?_⟩
              have hlt := (Bef.edge (all := all) i all[i] e hoi (by simpa using he) hbd).lt hE
              exact ihn e.on (by omega) (by omega)
            rw [hnil] at this
            simp at this
      exact fun i hi => key (i + 1) i (by omega) hi
    · obtain ⟨h1, o, ho, hedge⟩ := mem_ready.1 hi
      have ho' : all[i]? = some o := by simpa using ho
      have hlt : i < all.length := (List.getElem?_eq_some_iff.1 ho').1
      have hiF : listed.getD i false = false := by rw [← getD_true_of_false (by omega)]; exact h1
      have hiS : ¬ listed.getD i false = true := by rw [hiF]; simp
      have hready : ∀ e ∈ o.after.toList, Region.binds .any e = true → listed.getD e.on false = true := fun e he hb => hedge e (by simpa using he) hb
      have hS' : ∀ j, (listed.setIfInBounds i true).getD j false = true ↔ (j = i ∨ listed.getD j false = true) := by
        intro j
        by_cases hj : j = i
        · subst hj
          have : j < listed.size := by omega
          simp [Array.getD_eq_getD_getElem?, this]
        · rw [getD_set_ne false (fun e => hj e.symm)]
          simp [hj]
      have hSeq : (fun j => (listed.setIfInBounds i true).getD j false = true) = fun j => j = i ∨ listed.getD j false = true := by
        funext j; exact propext (hS' j)
      have hls' : (listed.setIfInBounds i true).size = all.length := by simpa using hls
      have hu' : unl all.length (listed.setIfInBounds i true) ≤ fuel := by
        have := unl_lt hls hlt hiF
        omega
      rcases hcov i hlt with hpre | hpost
      · refine h.floatStep (hkp.mono hext) hr hpre hiS ho' hready fun ρ' a' w' hd he hr' => ?_
        exact ih _ a' w' pre post fr σ ρ' hls' hu' (hext.trans he) (by rw [hSeq]; exact hd) hr' hc hs hcov hx
      · cases post with
        | nil => simp at hpost
        | cons p post =>
          obtain ⟨s, chk⟩ := p
          have hsi : s = i := by
            rcases List.mem_cons.1 (by simpa using hpost : i ∈ s :: post.map (·.1)) with rfl | hp
            · rfl
            · obtain ⟨os, hos, _, _, _, _, hc2⟩ := dChk_inv hc
              obtain ⟨ok, oi, chk', hok, hoi, hpr⟩ := dChk_later (k := s) post (s :: pre) hc2 (List.mem_cons_self) i hp
              have hb := (pairOk_inv hpr).2.2.2.2.2.1 (hs ok hok)
              have := (isB_sound hb).closed h.closed fun o'' ho'' => by rw [ho'] at ho''; cases ho''; exact hready
              have hsp := h.sub s this
              obtain ⟨_, _, _, _, hpair, _, _⟩ := dChk_inv hc
              obtain ⟨ok2, _, hp2⟩ := hpair s hsp
              exact absurd rfl (pairOk_inv hp2).1
          subst hsi
          have hc2 := hc
          obtain ⟨_, _, _, _, _, _, hc3⟩ := dChk_inv hc2
          refine h.spineStep hE (hkp.mono hext) hr hc ho' (hs o ho') hready hx fun ρ' fr' σ' a' w' hd he hr' hx' => ?_
          obtain ⟨pre', post', fr2, e1, e2, e3, e4, e5⟩ := DInv.advanceAll hE post (s :: pre) fr' hd hc3 hx'
          refine ih _ a' w' pre' post' fr2 σ' ρ' hls' hu' (hext.trans he) (by rw [hSeq]; exact e1) hr' e2 e4 (fun j hj => e5 j ?_) e3
          rcases hcov j hj with hj | hj
          · exact .inl (List.mem_cons_of_mem _ hj)
          · rcases List.mem_cons.1 (by simpa using hj : j ∈ s :: post.map (·.1)) with rfl | hj
            · exact .inl (by simp)
            · exact .inr hj

/-- A region whose order is open. -/
theorem dregion_sound (hm : P.follows .mixedOrders = true) {ord : List (Nat × List Nat)} (hd : dOk C.N C.Lp all ord = true) {kn : FK} {Q : Exit → Act → World → Prop} 
    {ρ : List RB} {fr : Fr} {σ : AHeap} {a : Act} {w : World} (id : Nat) (hkn : KS B w0 C ρ kn (Q .normal)) (hkp : KP B w0 C ρ kp Q) (hf : FR C ρ fr a) (h : Rel B w0 ρ σ w)
    (hx : pdops P all kp ord kn fr σ) : (Code.region id all.toArray true).wp P Q a w := by
  unfold dOk at hd
  simp only [Bool.and_eq_true] at hd
  obtain ⟨⟨hE, hcov⟩, hc⟩ := hd
  have h0 : DInv P C all [] fr fr σ ρ (fun i => (Array.replicate all.length false).getD i false = true) a := by
    have hno : ∀ i, ¬ (Array.replicate all.length false).getD i false = true := by
      intro i
      simp only [Array.getD_eq_getD_getElem?, Array.getElem?_replicate]
      split <;> simp
    refine ⟨fun i hi => absurd hi (hno i), fun i o hi => by simp at hi, fun i o _ hi => absurd hi (hno i), fun k ok t hk => absurd hk (hno k), fun t _ => hf.val t, fun _ _ => rfl, fun k _ _ _ _ hk => by simp at hk, fun k _ _ _ _ hk => by simp at hk,
      hf.kp, fun k _ _ hk => by simp at hk, fun k _ hk => by simp at hk, fun k hk => by simp at hk, fun q _ hq => by simp at hq⟩
  obtain ⟨pre', post', fr2, e1, e2, e3, e4, e5⟩ := DInv.advanceAll hE ord [] fr h0 hc hx
  refine wp_region_any hm ?_
  have hsz : all.toArray.size = all.length := by simp
  rw [hsz]
  refine wpAny_dreg hE hkn hkp all.length _ a _ pre' post' fr2 σ ρ (by simp) ?_ (Ext.refl _) e1 h.drew e2 e4 (fun j hj => e5 j (.inr ?_)) e3
  · unfold unl
    have := List.length_filter_le (fun i => !(Array.replicate all.length false).getD i false) (List.range all.length)
    simpa using this
  · have := List.all_eq_true.1 hcov j (List.mem_range.2 hj)
    simpa using this
end
end Go.Ax
namespace Go.Ax
open Go.RowKit

def AC.wf (N : Nat) (Lp : List Nat) : AC → Bool
  | .skip | .exit _ | .ret => true
  | .region _ ops => ops.all (dstOk N Lp)
  | .dregion _ ops ord => dOk N Lp ops ord
  | .other _ => false
  | .seq a b => a.wf N Lp && b.wf N Lp
  | .cond _ a b => a.wf N Lp && b.wf N Lp
  | .block _ b | .join _ b => b.wf N Lp
  | .loop R _ _ b => b.wf N (Lp ++ R)

section
variable {P : Program} {B : Nat} {w0 : World} {C : Cx}

theorem wpc_sound (hm : P.follows .mixedOrders = true) {kp : WK} : ∀ (c : AC) {C : Cx}, c.wf C.N C.Lp = true → ∀ (kn : FK) (ke : Nat → FK) (kr : FK) (Q : Exit → Act → World → Prop) ρ fr σ a w,
    KS B w0 C ρ kn (Q .normal) → (∀ i, KS B w0 C ρ (ke i) (Q (.exit i))) → KS B w0 C ρ kr (Q .ret) → KP B w0 C ρ kp Q →
    FR C ρ fr a → Rel B w0 ρ σ w → wpc P (Ev P) kp c kn ke kr fr σ → c.erase.wp P Q a w := by
  intro c
  induction c with
  | skip =>
    intro C _ kn ke kr Q ρ fr σ a w hn he hr hp hf h hx
    exact wp_skip (hn ρ fr σ a w (Ext.refl _) hf h hx)
  | region id ops =>
    intro C hwf kn ke kr Q ρ fr σ a w hn he hr hp hf h hx
    refine wp_region ?_
    have := wops_sound (all := ops) ops 0 none rfl (fun o ho => List.all_eq_true.1 hwf o ho) ρ fr σ a w hn hp hf h trivial hx
    simpa [List.range_eq_range'] using this
  | dregion id ops ord =>
    intro C hwf kn ke kr Q ρ fr σ a w hn he hr hp hf h hx
    exact dregion_sound hm hwf id hn hp hf h (wdops_p (fun _ _ h => h) ord none fr σ trivial hx)
  | other c => intro C hwf; cases hwf
  | seq x y ihx ihy =>
    intro C hwf kn ke kr Q ρ fr σ a w hn he hr hp hf h hx
    rw [AC.wf, Bool.and_eq_true] at hwf
    refine wp_seq (ihx hwf.1 (wpc P (Ev P) kp y kn ke kr) ke kr (Exit.then (y.erase.wp P Q) Q) ρ fr σ a w ?_ he hr hp hf h hx)
    intro ρ2 fr2 σ2 a2 w2 e2 hf2 h2 hx2
    exact ihy hwf.2 kn ke kr Q ρ2 fr2 σ2 a2 w2 (hn.mono e2) (fun i => (he i).mono e2) (hr.mono e2) (hp.mono e2) hf2 h2 hx2
  | cond c x y ihx ihy =>
    intro C hwf kn ke kr Q ρ fr σ a w hn he hr hp hf h hx
    rw [AC.wf, Bool.and_eq_true] at hwf
    simp only [wpc, wC] at hx
    split at hx
    · rename_i hb
      exact wp_cond_true ((hf.ev c).asB hb) (ihx hwf.1 kn ke kr Q ρ fr σ a w hn he hr hp hf h hx)
    · rename_i hb
      exact wp_cond_false ((hf.ev c).asB hb) (ihy hwf.2 kn ke kr Q ρ fr σ a w hn he hr hp hf h hx)
    · exact hx.elim
  | block id b ih =>
    intro C hwf kn ke kr Q ρ fr σ a w hn he hr hp hf h hx
    refine wp_block (ih hwf kn _ kr (Exit.inBlock id Q) ρ fr σ a w hn ?_ hr hp hf h hx)
    intro i ρ2 fr2 σ2 a2 w2 e2 hf2 h2 hx2
    simp only [Exit.inBlock]
    split
    · rename_i e
      subst e
      simp only [Nat.beq_eq_true_eq, Nat.beq_refl, cond_true] at hx2
      exact hn ρ2 fr2 σ2 a2 w2 e2 hf2 h2 hx2
    · rename_i e
      have : Nat.beq i id = false := by
        cases hb : Nat.beq i id with
        | false => rfl
        | true => exact absurd (Nat.eq_of_beq_eq_true hb) e
      rw [this] at hx2
      exact he i ρ2 fr2 σ2 a2 w2 e2 hf2 h2 hx2
  | loop R L Lx b ih =>
    intro C hwf kn ke kr Q ρ fr σ a w hn he hr hp hf h hx
    simp only [wpc] at hx
    obtain ⟨I, ⟨m0, h0⟩, hI⟩ := hx
    let C' : Cx := ⟨C.N, C.D, C.Lp ++ R, fun t => a.tmps.getD t undef⟩
    have hweak : ∀ {a2 : Act}, Keep C' a2 → Keep C a2 := fun k => ⟨k.defers, k.size, fun t ht => by
      rw [k.keep t (List.mem_append_left _ ht)]; exact hf.kp.keep t ht⟩
    have hfw : ∀ {ρ2 : List RB} {fr2 : Fr} {a2 : Act}, FR C' ρ2 fr2 a2 → FR C ρ2 fr2 a2 := fun k => ⟨k.val, hweak k.kp⟩
    have hmk : ∀ {ρ2 : List RB} {fr2 : Fr} {a2 : Act}, Ext ρ ρ2 → FR C' ρ2 fr2 a2 → FR C' ρ2 (fadd R fr (fmake L (fpick L fr2))) a2 := fun {ρ2 fr2 a2} e k => by
      refine ⟨fun t => ?_, k.kp⟩
      rw [fget_fadd]
      split
      · rename_i ht
        rw [k.kp.keep t (List.mem_append_right _ ht)]
        exact (hf.val t).mono e
      · exact (k.make L).val t
    have hf' : FR C' ρ fr a := ⟨hf.val, hf.kp.defers, hf.kp.size, fun t _ => rfl⟩
    have key : ∀ n m ρ2 fr2 σ2 a2 w2, m < n → Ext ρ ρ2 → FR C' ρ2 fr2 a2 → Rel B w0 ρ2 σ2 w2 → Cur.at L (I m) (fpick L fr2) σ2 → Code.rounds P b.erase Q n a2 w2 := by
      intro n
      induction n with
      | zero => intro m ρ2 fr2 σ2 a2 w2 hlt; omega
      | succ n ihn =>
        intro m ρ2 fr2 σ2 a2 w2 hlt e2 hf2 h2 hx2
        rw [rounds_succ]
        have hb := AllC.at L _ (hI m) (fpick L fr2) (Cur.at_len _ _ _ _ hx2) σ2 hx2
        refine ih (C := C') hwf _ _ _ (Exit.then (Code.rounds P b.erase Q n) Q) ρ2 _ σ2 a2 w2 ?_ ?_ ?_ (fun ρ3 v v' σ3 a3 w3 e3 k => hp ρ3 v v' σ3 a3 w3 (e2.trans e3) (hweak k)) (hmk e2 hf2) h2 hb
        · intro ρ3 fr3 σ3 a3 w3 e3 hf3 h3 ⟨m', hm', hx3⟩
          exact ihn m' ρ3 fr3 σ3 a3 w3 (by omega) (e2.trans e3) hf3 h3 hx3
        · intro i ρ3 fr3 σ3 a3 w3 e3 hf3 h3 hx3
          exact he i ρ3 _ σ3 a3 w3 (e2.trans e3) ((hfw hf3).make Lx) h3 hx3
        · intro ρ3 fr3 σ3 a3 w3 e3 hf3 h3 hx3
          exact hr ρ3 _ σ3 a3 w3 (e2.trans e3) ((hfw hf3).make Lx) h3 hx3
    exact wp_loop_rounds (m0 + 1) (key (m0 + 1) m0 ρ fr σ a w (by omega) (Ext.refl _) hf' h h0)
  | exit id =>
    intro C _ kn ke kr Q ρ fr σ a w hn he hr hp hf h hx
    exact wp_exit (he id ρ fr σ a w (Ext.refl _) hf h hx)
  | ret =>
    intro C _ kn ke kr Q ρ fr σ a w hn he hr hp hf h hx
    exact wp_ret (hr ρ fr σ a w (Ext.refl _) hf h hx)
  | join L b ih =>
    intro C hwf kn ke kr Q ρ fr σ a w hn he hr hp hf h hx
    simp only [wpc] at hx
    refine ih hwf _ _ _ Q ρ fr σ a w ?_ ?_ ?_ hp hf h hx
    · intro ρ2 fr2 σ2 a2 w2 e2 hf2 h2 hx2
      exact hn ρ2 _ σ2 a2 w2 e2 (hf2.make L) h2 hx2
    · intro i ρ2 fr2 σ2 a2 w2 e2 hf2 h2 hx2
      exact he i ρ2 _ σ2 a2 w2 e2 (hf2.make L) h2 hx2
    · intro ρ2 fr2 σ2 a2 w2 e2 hf2 h2 hx2
      exact hr ρ2 _ σ2 a2 w2 e2 (hf2.make L) h2 hx2

/-! ### Results -/
/-- What a result slot holds. -/
def resF (tmps : Array Value) : ResultVar → Sem Value
  | .tmp t => pure (tmps.getD t undef)
  | .cell a t => do loadVar t (← asAddr (tmps.getD a undef))

theorem results_eq (fn : Func) (tmps : Array Value) : results fn tmps = (do
    let vs ← fn.results.mapM (resF tmps)
    pure (if h : vs.size = 1 then vs[0] else .tuple vs)) := by
  rfl

theorem wRes_sound {res : List ResultVar} {ρ : List RB} {σ : AHeap} {w : World} {fr : Fr} {tmps : Array Value} (h : Rel B w0 ρ σ w) (hf : ∀ x ∈ res, match x with | .tmp t => VR ρ (fget fr t) (tmps.getD t undef) | .cell a _ => VR ρ (fget fr a) (tmps.getD a undef)) {k : List Value → Prop} (hx : wRes P res fr σ k) :
    ∃ l l', LR ρ l l' ∧ (res.mapM (resF tmps)).run P w = .ok l' w ∧ k l := by
  induction res generalizing k with
  | nil => exact ⟨[], [], LR.nil _, by simp, hx⟩
  | cons r res ih =>
    cases r with
    | tmp t =>
      obtain ⟨l, l', h1, h2, h3⟩ := ih (fun x hm => hf x (by simp [hm])) hx
      refine ⟨_, _ :: l', LR.cons (hf (.tmp t) (by simp)) h1, ?_, h3⟩
      simp only [List.mapM_cons, Sem.run_bind, h2, resF, Sem.run_pure, Result.andThen_ok]
    | cell x t =>
      simp only [wRes] at hx
      split at hx
      · rename_i g m hg
        obtain ⟨v, hv, hx⟩ := hx
        obtain ⟨l, l', h1, h2, h3⟩ := ih (fun x hm => hf x (by simp [hm])) hx
        have hfx := hf (.cell x t) (by simp)
        simp only at hfx
        obtain ⟨v', e1, e2⟩ := aLoad_sound h hg hfx hv
        have hp : ∃ ad, tmps.getD x undef = .pointer (some ad) := by
          unfold aLoad at hv
          split at hv
          · rename_i ad hfx2
            rw [hfx2] at hfx
            obtain ⟨a', ha, _⟩ := hfx.ptr_inv
            exact ⟨a', ha⟩
          · cases hv
        obtain ⟨ad, had⟩ := hp
        rw [had] at e1
        simp only [Instr.loadAt, Instr.sureAddr, pure_bind] at e1
        refine ⟨_, v' :: l', LR.cons e2 h1, ?_, h3⟩
        simp only [List.mapM_cons, Sem.run_bind, h2, resF, had, asAddr, Sem.run_pure, Result.andThen_ok, e1]
      · exact hx.elim

/-- What a function's end tells. -/
theorem ret_sound {fn : Func} {res : List ResultVar} {Q : RK} {ρ : List RB} {fr : Fr} {σ : AHeap} {tmps : Array Value} {w : World} (hres : fn.results.toList = res) (h : Rel B w0 ρ σ w)
    (hf : ∀ x ∈ res, match x with | .tmp t => VR ρ (fget fr t) (tmps.getD t undef) | .cell a _ => VR ρ (fget fr a) (tmps.getD a undef)) (hx : wret P res Q fr σ) :
    ∃ v, (results fn tmps).run P w = .ok v w ∧ ∃ r, Q r σ ∧ ResR ρ r (.returned v) := by
  obtain ⟨l, l', h1, h2, h3⟩ := wRes_sound h hf hx
  have hrun : (results fn tmps).run P w = .ok (if hh : l'.toArray.size = 1 then l'.toArray[0] else .tuple l'.toArray) w := by
    rw [results_eq, Array.mapM_eq_mapM_toList, hres]
    simp only [bind_map_left, Sem.run_bind]
    rw [h2]
    rfl
  refine ⟨_, hrun, _, h3, ?_⟩
  rcases l with _ | ⟨v, _ | ⟨v2, vs⟩⟩
  · rw [h1.nil_inv]
    exact ⟨_, rfl, VR.tuple' (by simpa using LR.nil ρ)⟩
  · obtain ⟨v', l2, rfl, hvv, hnil⟩ := h1.cons_inv
    rw [hnil.nil_inv]
    exact ⟨_, rfl, hvv⟩
  · have hne : ¬ l'.toArray.size = 1 := by
      intro e1
      have e1 : l'.length = 1 := by simpa using e1
      rw [← h1.1] at e1
      simp at e1
    rw [dif_neg hne]
    exact ⟨_, rfl, VR.tuple' (by simpa using h1)⟩

theorem fmake_range (params : Nat) (vs : List Value) (h : vs.length = params) (t : Nat) : ∀ k, fget (fmake (List.range' k params) vs) t = if k ≤ t then vs.getD (t - k) undef else undef := by
  subst h
  induction vs with
  | nil => intro k; simp [fmake, fget_leaf]
  | cons v vs ih =>
    intro k
    simp only [List.length_cons, List.range'_succ, fmake, fget_set, ih (k + 1)]
    by_cases h1 : t = k
    · subst h1; simp
    · rw [if_neg h1]
      by_cases h2 : k ≤ t
      · rw [if_pos (by omega), if_pos h2]
        obtain ⟨d, rfl⟩ : ∃ d, t = k + 1 + d := ⟨t - (k + 1), by omega⟩
        rw [show k + 1 + d - (k + 1) = d by omega, show k + 1 + d - k = d + 1 by omega]
        rfl
      · rw [if_neg h2, if_neg (by omega)]

/-- The frame that a call begins with. -/
theorem FR.start {ρ : List RB} {n params : Nat} {args args' : List Value} (ha : LR ρ args args') (hlen : args.length = params) (hp : params ≤ n) :
    FR ⟨n, [], [], fun _ => undef⟩ ρ (fmake (List.range params) args) { tmps := args'.toArray ++ Array.replicate (n - args'.toArray.size) undef, defers := [] } := by
  refine ⟨fun t => ?_, rfl, ?_, fun t ht => by simp at ht⟩
  · rw [List.range_eq_range', fmake_range _ _ hlen t 0, if_pos (Nat.zero_le _)]
    simp only [Nat.sub_zero, Array.getD_eq_getD_getElem?, Array.getElem?_append, List.size_toArray]
    split
    · rename_i hlt
      have hlt2 : t < args.length := by rw [ha.1]; exact hlt
      have := ha.2 t _ _ (List.getElem?_eq_getElem hlt2) (List.getElem?_eq_getElem hlt)
      simpa [List.getD, hlt2, hlt] using this
    · rename_i hge
      have : args.getD t undef = undef := by simp [List.getD, List.getElem?_eq_none (show args.length ≤ t by rw [ha.1]; omega)]
      rw [this]; exact .dead _
  · have := ha.1
    simp; omega

/-- The abstract functions are the program's. -/
structure FnOk (P : Program) (f : FuncId) (af : AFun) (fn : Func) : Prop where
  at' : P.funcs[f]? = some fn
  body : fn.body = some af.body.erase
  n : fn.ntmps = af.n
  res : fn.results.toList = af.res
  wf : af.body.wf af.n [] = true
  par : af.params ≤ af.n
  name : (fn.name == "runtime.NumGoroutine") = false
def FOk (P : Program) (F : FuncId → Option AFun) : Prop := ∀ f af, F f = some af → ∃ fn, FnOk P f af fn

theorem Ev.of (hm : P.follows .mixedOrders = true) {F : FuncId → Option AFun} (hF : FOk P F) {f : FuncId} {args : List Value} {σ : AHeap} {Q : RK} (h : wfun P (Ev P) F f args σ Q) : Ev P f args σ Q := by
  unfold wfun at h
  split at h
  · rename_i af hf
    obtain ⟨fn, k⟩ := hF f af hf
    cases hlen : Nat.beq args.length af.params with
    | false => rw [hlen] at h; exact h.elim
    | true =>
      rw [hlen] at h
      simp only [cond_true] at h
      have hlen := Nat.eq_of_beq_eq_true hlen
      intro B w0 ρ w args' hr ha
      refine ⟨fn, k.at', k.name, .inl ⟨by simp [k.body], ?_⟩⟩
      refine calls_of_wp_defers k.at' k.body ?_
      have hstart := FR.start ha hlen k.par
      rw [← k.n] at hstart
      have hend : ∀ (ρ2 : List RB) (fr2 : Fr) (σ2 : AHeap) (a2 : Act) (w2 : World), Ext ρ ρ2 → FR ⟨fn.ntmps, [], [], fun _ => undef⟩ ρ2 fr2 a2 → Rel B w0 ρ2 σ2 w2 → wret P af.res Q fr2 σ2 →
          Leaves P fn a2.tmps (fun e w' => ∃ r ρ' σ', Q r σ' ∧ ResR ρ' r e ∧ Ext ρ ρ' ∧ Rel B w0 ρ' σ' w') a2.defers .returning w2 := by
        intro ρ2 fr2 σ2 a2 w2 e2 hf2 h2 hx2
        have hd : a2.defers = [] := hf2.kp.defers
        rw [hd]
        obtain ⟨v, h3, r, h4, h5⟩ := ret_sound k.res h2 (fun x _ => by cases x <;> exact hf2.val _) hx2
        exact ⟨v, h3, r, ρ2, σ2, h4, h5, e2, h2⟩
      refine wpc_sound (C := ⟨fn.ntmps, [], [], fun _ => undef⟩) hm af.body (by rw [k.n]; exact k.wf) _ _ _ _ ρ _ σ _ w hend (fun i ρ2 fr2 σ2 a2 w2 _ _ _ hx2 => hx2.elim) hend ?_ hstart hr h
      intro ρ2 v v' σ2 a2 w2 e2 hk h2 hv hx2
      have hd : a2.defers = [] := hk.defers
      show Leaves P fn a2.tmps _ a2.defers _ w2
      rw [hd]
      exact ⟨.pan v, ρ2, σ2, hx2, ⟨v', rfl, hv⟩, e2, h2⟩
  · exact h.elim
end
end Go.Ax
namespace Go.Ax
open Go.RowKit

abbrev ND (β : Type) := Option (List β)
/-- 'internal/bytealg.MakeNoZero': room whose bytes nobody knows; e: the type of a byte. -/
def aMakeNoZero (e : TypeId) (args : List Value) (σ : AHeap) : ND (Value × AHeap) :=
  match args with
  | [.int .i64 n] => if 0 ≤ n ∧ n ≤ 140737488355328 then some [(.slice (some ⟨σ.size, 0, none⟩) n.toNat (OPEN * 1 + n.toNat), σ.push (.cells (List.replicate n.toNat undef) e true))] else none
  | _ => none

theorem digits_size : ∀ (n t : Nat) (acc : Array Value), (Extern.BytealgMakeNoZero.digits n t acc).size = acc.size + n
  | 0, _, _ => rfl
  | n + 1, t, acc => by
    rw [Extern.BytealgMakeNoZero.digits, digits_size n]
    simp; omega

theorem LR.undefs (ρ : List RB) (n : Nat) {l' : List Value} (h : l'.length = n) : LR ρ (List.replicate n undef) l' := by
  refine ⟨by simp [h], fun i v v' a b => ?_⟩
  simp [List.getElem?_replicate] at a
  obtain ⟨_, rfl⟩ := a
  exact .dead _

/-- What is asked of a function without a body. -/
structure NoBody (P : Program) (g : FuncId) (e : Array Value → Sem Value) : Prop where
  fn : ∃ fn, P.funcs[g]? = some fn ∧ (fn.name == "runtime.NumGoroutine") = false ∧ fn.body.isNone = true ∧ Extern.findNext fn = none ∧ Extern.find fn = some e

theorem makeNoZero_ok {P : Program} {g : FuncId} {params results : Array TypeId} {t e : TypeId} (hb : NoBody P g (Extern.BytealgMakeNoZero.makeNoZero params results)) (ht : results[0]? = some t) (hu : P.underlying t = some (.slice e))
    {args : List Value} {σ : AHeap} {R : List (Value × AHeap)} (hx : aMakeNoZero e args σ = some R) {B : Nat} {w0 : World} {ρ : List RB} {w : World} {args' : List Value} (h : Rel B w0 ρ σ w) (ha : LR ρ args args') :
    ∃ fn, P.funcs[g]? = some fn ∧ (fn.name == "runtime.NumGoroutine") = false ∧
      ((fn.body.isNone = false ∧ Calls P g args'.toArray w fun e w' => ∃ v v' ρ' σ', (v, σ') ∈ R ∧ e = .returned v' ∧ Ext ρ ρ' ∧ Rel B w0 ρ' σ' w' ∧ VR ρ' v v') ∨
       (∃ v v' ρ' σ' w', (v, σ') ∈ R ∧ (callFunc g args'.toArray).run P w = .ok (.value v') w' ∧ Ext ρ ρ' ∧ Rel B w0 ρ' σ' w' ∧ VR ρ' v v')) := by
  obtain ⟨fn, hfn, hname, hbody, hnext, hfind⟩ := hb.fn
  refine ⟨fn, hfn, hname, .inr ?_⟩
  unfold aMakeNoZero at hx
  split at hx
  · rename_i n
    obtain ⟨v', l2, rfl, hv, hnil⟩ := ha.cons_inv
    rw [hnil.nil_inv, hv.int_inv]
    split at hx
    · rename_i hn
      cases hx
      obtain ⟨h0, h1⟩ := hn
      have n1 : ¬ (n < 0) := by omega
      have n2 : ¬ (281474976710656 < n) := by omega
      have hcap : n.toNat ≤ grownCap w n.toNat 0 e := by simp only [grownCap, Question.cut]; omega
      have hrun : ∃ bytes w2, w2 = w.drew.drew ∧ (Extern.BytealgMakeNoZero.makeNoZero params results #[.int .i64 n]).run P w =
          .ok (.slice (some ⟨w.heap.size, 0, none⟩) n.toNat (grownCap w n.toNat 0 e)) (w2.alloc (.cells (Extern.BytealgMakeNoZero.digits (grownCap w n.toNat 0 e) bytes #[]) e)) := by
        refine ⟨(Question.extern "internal/bytealg.MakeNoZero.bytes" 0).cut (w.drew.tape w.drew.drawn (.extern "internal/bytealg.MakeNoZero.bytes" 0)), w.drew.drew, rfl, ?_⟩
        conv => lhs; arg 2; whnf
        simp [ht, run_underlying hu, n1, n2, Question.forced, grownCap, run_askRoom, newRow]
      obtain ⟨bytes, w2, hw2, hrun⟩ := hrun
      have hr2 : Rel B w0 ρ σ w2 := by rw [hw2]; exact h.drew.drew
      have hsz : w2.heap.size = w.heap.size := by rw [hw2]; rfl
      have hds := digits_size (grownCap w n.toNat 0 e) bytes #[]
      generalize hD : Extern.BytealgMakeNoZero.digits (grownCap w n.toNat 0 e) bytes #[] = D at hrun hds
      have hds : D.size = grownCap w n.toNat 0 e := by simpa using hds
      obtain ⟨ρ', e1, e2, e3⟩ := newOpen_sound hr2 e (D.toList.drop n.toNat) (LR.undefs ρ n.toNat (l' := D.toList.take n.toNat) (by simp; omega))
      rw [List.take_append_drop, Array.toArray_toList] at e2
      refine ⟨_, .slice (some ⟨w.heap.size, 0, none⟩) n.toNat (grownCap w n.toNat 0 e), ρ', _, _, List.mem_singleton_self _, ?_, e1, e2, ?_⟩
      · rw [run_callFunc_extern hfn hname hbody hnext hfind, hrun]
        rfl
      · have hres := VR.slice (ρ := ρ') σ.size 0 n.toNat (OPEN * 1 + n.toNat) (grownCap w n.toNat 0 e) _ e3 (by
          have hdm : (OPEN * 1 + n.toNat) % OPEN = n.toNat ∧ (OPEN * 1 + n.toNat) / OPEN = 1 := by
            have : n.toNat < OPEN := by unfold OPEN; omega
            constructor
            · rw [Nat.mul_add_mod, Nat.mod_eq_of_lt this]
            · rw [Nat.mul_add_div (by unfold OPEN; omega), Nat.div_eq_of_lt this, Nat.add_zero]
          unfold CapR
          rw [if_neg (by omega), hdm.1, hdm.2]
          refine ⟨hcap, ?_⟩
          simp; omega)
        rw [hsz] at hres
        simpa using hres
    · cases hx
  · cases hx

theorem Rel.empty (w : World) : Rel w.heap.size w [] ⟨0, .leaf⟩ w :=
  ⟨rfl, fun i o h => by simp [AHeap.get, Tr.get_leaf] at h, fun i j oi oj ri rj h => by simp [AHeap.get, Tr.get_leaf] at h, Below.refl _ _, Nat.le_refl _⟩


/-- What a function without a body must meet. -/
def ExtOk (P : Program) (g : FuncId) (x : List Value → AHeap → ND (Value × AHeap)) : Prop :=
  ∀ (args : List Value) (σ : AHeap) (R : List (Value × AHeap)), x args σ = some R → ∀ B w0 ρ w args', Rel B w0 ρ σ w → LR ρ args args' →
    ∃ fn, P.funcs[g]? = some fn ∧ (fn.name == "runtime.NumGoroutine") = false ∧
      ((fn.body.isNone = false ∧ Calls P g args'.toArray w fun e w' => ∃ v v' ρ' σ', (v, σ') ∈ R ∧ e = .returned v' ∧ Ext ρ ρ' ∧ Rel B w0 ρ' σ' w' ∧ VR ρ' v v') ∨
       (∃ v v' ρ' σ' w', (v, σ') ∈ R ∧ (callFunc g args'.toArray).run P w = .ok (.value v') w' ∧ Ext ρ ρ' ∧ Rel B w0 ρ' σ' w' ∧ VR ρ' v v'))

theorem ExtOk.mk {P : Program} {g : FuncId} {e : Array Value → Sem Value} {x : List Value → AHeap → ND (Value × AHeap)} (hb : NoBody P g e)
    (h : ∀ (args : List Value) (σ : AHeap) (R : List (Value × AHeap)), x args σ = some R → ∀ B w0 ρ w args', Rel B w0 ρ σ w → LR ρ args args' →
      ∃ v v' ρ' σ' w', (v, σ') ∈ R ∧ (e args'.toArray).run P w = .ok v' w' ∧ Ext ρ ρ' ∧ Rel B w0 ρ' σ' w' ∧ VR ρ' v v') : ExtOk P g x := by
  intro args σ R hx B w0 ρ w args' hr ha
  obtain ⟨fn, hfn, hname, hbody, hnext, hfind⟩ := hb.fn
  obtain ⟨v, v', ρ', σ', w', hm, e1, e2, e3, e4⟩ := h args σ R hx B w0 ρ w args' hr ha
  refine ⟨fn, hfn, hname, .inr ⟨v, v', ρ', σ', w', hm, ?_, e2, e3, e4⟩⟩
  rw [run_callFunc_extern hfn hname hbody hnext hfind, e1]
  rfl

def aClone (args : List Value) (σ : AHeap) : ND (Value × AHeap) :=
  match args with
  | [.iface t (.map (some r))] => match σ.get r with
    | some (.map es clock) => some [(.iface t (.map (some σ.size)), σ.push (.map es clock))]
    | _ => none
  | _ => none

theorem clone_ok {P : Program} {g : FuncId} (hb : NoBody P g Extern.MapsClone.clone) : ExtOk P g aClone := by
  refine .mk hb fun args σ R hx B w0 ρ w args' h ha => ?_
  unfold aClone at hx
  split at hx
  · rename_i t r
    obtain ⟨v', l2, rfl, hv, hnil⟩ := ha.cons_inv
    rw [hnil.nil_inv]
    obtain ⟨u, rfl, _, hu⟩ := hv.iface_inv
    obtain ⟨x, rfl, hxr⟩ := hu.map_inv
    split at hx
    · rename_i es clock hg
      cases hx
      obtain ⟨es', h1, h2⟩ := h.mapAt hg hxr
      have hgo := run_getObj (P := P) h1 (fun c e fz => by simp)
      obtain ⟨ρ', e1, e2, e3, e4⟩ := newO_sound (P := P) h (o := .map es clock) (x := .map es' clock) rfl (fun ρ' r hp hext _ hh => ⟨es', hh, h2.mono hext⟩)
      refine ⟨_, .iface t (.map (some w.heap.size)), ρ', _, _, List.mem_singleton_self _, ?_, e2, e3, .iface _ _ _ (by simp [undef]) (.map _ _ e4)⟩
      have hdef : Extern.MapsClone.clone #[.iface t (.map (some x.b))] = (getObj x.b >>= fun o => match o with
          | .map entries clock => newObj (.map entries clock) >>= fun r => pure (.iface t (.map (some r)))
          | _ => stuck "maps.clone: a map expected") := rfl
      show (Extern.MapsClone.clone #[.iface t (.map (some x.b))]).run P w = _
      rw [hdef]
      simp [hgo, e1]
    · cases hx
  · cases hx

def aCmpStr (args : List Value) (σ : AHeap) : ND (Value × AHeap) :=
  match args with
  | [.string a, .string b] => some [(.int .i64 (Extern.BytealgCompare.cmp a b), σ)]
  | _ => none

theorem cmpStr_ok {P : Program} {g : FuncId} (hb : NoBody P g Extern.BytealgCompare.compare) : ExtOk P g aCmpStr := by
  refine .mk hb fun args σ R hx B w0 ρ w args' h ha => ?_
  unfold aCmpStr at hx
  split at hx
  · rename_i a b
    cases hx
    obtain ⟨v', l2, rfl, hv, ha⟩ := ha.cons_inv
    obtain ⟨v2, l3, rfl, hv2, hnil⟩ := ha.cons_inv
    rw [hnil.nil_inv, hv.string_inv, hv2.string_inv]
    exact ⟨_, .int .i64 (Extern.BytealgCompare.cmp a b), ρ, _, w, List.mem_singleton_self _, rfl, Ext.refl _, h, .int _ _⟩
  · cases hx

theorem Ev.ext {P : Program} {g : FuncId} {x : List Value → AHeap → ND (Value × AHeap)} (hx : ExtOk P g x) {args : List Value} {σ : AHeap} {L : List (Value × AHeap)} (h : x args σ = some L) {Q : RK} (hq : ∀ r ∈ L, Q (.ret r.1) r.2) : Ev P g args σ Q := by
  intro B w0 ρ w args' hr ha
  obtain ⟨fn, h1, h2, h3⟩ := hx args σ L h B w0 ρ w args' hr ha
  refine ⟨fn, h1, h2, ?_⟩
  rcases h3 with ⟨hb, hc⟩ | ⟨v, v', ρ', σ', w', hm, hrun, e⟩
  · exact .inl ⟨hb, hc.mono fun e w' ⟨v, v', ρ', σ', q, e1, e2, e3, e4⟩ => ⟨.ret v, ρ', σ', hq _ q, ⟨v', e1, e4⟩, e2, e3⟩⟩
  · exact .inr ⟨v, v', ρ', σ', w', hq _ hm, hrun, e⟩
theorem Rel.after {B : Nat} {w0 : World} {ρ : List RB} {σ : AHeap} {w w' : World} (h : Rel B w0 ρ σ w) (hb : Below w.heap.size w w') : Rel B w0 ρ σ w' := by
  have hkeep : ∀ k, k < w.heap.size → w'.heap[k]? = w.heap[k]? := fun k hk => hb.block k hk
  refine ⟨h.len, fun i q hi => ?_, h.inj, h.below.trans (hb.mono h.hsize), h.base⟩
  obtain ⟨r, a, b, c, d⟩ := h.obj i q hi
  refine ⟨r, a, ?_, c, d⟩
  have hlt : q ≠ .dead → r.b < w.heap.size := by
    intro hd
    have : w.heap[r.b]? ≠ none := by
      cases q with
      | cells c e opn => obtain ⟨c', fz, y, _⟩ := b; rw [y]; simp
      | map es cl => obtain ⟨es', y, _⟩ := b; rw [y]; simp
      | strIter s p => rw [b.2]; simp
      | mapIter m s1 s2 s3 => obtain ⟨m', _, y, _⟩ := b; rw [y]; simp
      | ro c e => obtain ⟨c', fz, y, _⟩ := b; rw [y]; simp
      | dead => exact absurd rfl hd
    rcases Nat.lt_or_ge r.b w.heap.size with k | k
    · exact k
    · exact absurd (Array.getElem?_eq_none k) this
  cases q with
  | dead => trivial
  | _ => exact b.mono (Ext.refl _) (hkeep _ (hlt (by simp)))

end Go.Ax
namespace Go.Ax
open Go.RowKit

inductive Hint where
  | loop (L Lx : List Nat)
  | loopr (R L Lx Lj : List Nat)
  | loopj (L Lx Lj : List Nat)
  | ord (l : List (Nat × List Nat))
  | join (L : List Nat)

def withJoin (h : Option Hint) (c : AC) : AC :=
  match h with
  | some (.join L) => .join L c
  | _ => c

def toAC (h : Nat → Option Hint) : Code → Nat → AC × Nat
  | .skip, k => (.skip, k)
  | .region id ops false, k => (.region id ops.toList, k)
  | .region id ops true, k => match h k with
    | some (.ord l) => (.dregion id ops.toList l, k + 1)
    | _ => (.dregion id ops.toList [], k + 1)
  | .seq a b, k => (.seq (toAC h a k).1 (toAC h b (toAC h a k).2).1, (toAC h b (toAC h a k).2).2)
  | .cond c a b, k => (withJoin (h k) (.cond c (toAC h a (k + 1)).1 (toAC h b (toAC h a (k + 1)).2).1), (toAC h b (toAC h a (k + 1)).2).2)
  | .block id b, k => (withJoin (h k) (.block id (toAC h b (k + 1)).1), (toAC h b (k + 1)).2)
  | .loop b, k => match h k with
    | some (.loop L Lx) => (.loop [] L Lx (toAC h b (k + 1)).1, (toAC h b (k + 1)).2)
    | some (.loopj L Lx Lj) => (.loop [] L Lx (.join Lj (toAC h b (k + 1)).1), (toAC h b (k + 1)).2)
    | some (.loopr R L Lx Lj) => (.loop R L Lx (.join Lj (toAC h b (k + 1)).1), (toAC h b (k + 1)).2)
    | _ => (.loop [] [] [] (toAC h b (k + 1)).1, (toAC h b (k + 1)).2)
  | .exit i, k => (.exit i, k)
  | .ret, k => (.ret, k)
  | c, k => (.other c, k)

theorem erase_withJoin (h : Option Hint) (c : AC) : (withJoin h c).erase = c.erase := by
  unfold withJoin; split <;> rfl

theorem erase_toAC (h : Nat → Option Hint) : ∀ (c : Code) (k : Nat), (toAC h c k).1.erase = c := by
  intro c
  induction c with
  | region id ops d =>
    intro k
    cases d with
    | false => simp [toAC, AC.erase]
    | true =>
      simp only [toAC]
      split <;> simp [AC.erase]
  | seq a b iha ihb => intro k; simp only [toAC, AC.erase, iha, ihb]
  | cond c a b iha ihb => intro k; simp only [toAC, erase_withJoin, AC.erase, iha, ihb]
  | block id b ih => intro k; simp only [toAC, erase_withJoin, AC.erase, ih]
  | loop b ih =>
    intro k
    simp only [toAC]
    split <;> simp [AC.erase, ih]
  | _ => intro k; rfl


/-- What is asked of a function's body; h: notes on it. -/
def wfn (P : Program) (E : EvT) (fn : Func) (h : Nat → Option Hint) (args : List Value) (σ : AHeap) (Q : RK) : Prop :=
  cond (Nat.beq args.length (fn.params.size + fn.nfree)) (wpc P E (fun v σ => Q (.pan v) σ) (toAC h (fn.body.getD .skip) 0).1 (wret P fn.results.toList Q) (fun _ _ _ => False) (wret P fn.results.toList Q) (fmake (List.range (fn.params.size + fn.nfree)) args) σ) False
def fnChk (fn : Func) (h : Nat → Option Hint) : Bool :=
  fn.body.isSome && (toAC h (fn.body.getD .skip) 0).1.wf fn.ntmps [] && Nat.ble (fn.params.size + fn.nfree) fn.ntmps && !(fn.name == "runtime.NumGoroutine")
theorem Ev.fn {P : Program} (hm : P.follows .mixedOrders = true) {f : FuncId} {fn : Func} (hf : P.funcs[f]? = some fn) (h : Nat → Option Hint) (hc : fnChk fn h = true) {args : List Value} {σ : AHeap} {Q : RK} (hx : wfn P (Ev P) fn h args σ Q) : Ev P f args σ Q := by
  unfold fnChk at hc
  simp only [Bool.and_eq_true, Bool.not_eq_true'] at hc
  obtain ⟨⟨⟨h1, h2⟩, h3⟩, h4⟩ := hc
  obtain ⟨c, hcb⟩ := Option.isSome_iff_exists.1 h1
  rw [hcb] at h2
  simp only [Option.getD_some] at h2
  let af : AFun := { n := fn.ntmps, params := fn.params.size + fn.nfree, res := fn.results.toList, body := (toAC h c 0).1 }
  have hok : FnOk P f af fn := ⟨hf, by rw [hcb]; simp [af, erase_toAC], rfl, rfl, h2, Nat.le_of_ble_eq_true h3, h4⟩
  refine Ev.of hm (F := fun g => if g = f then some af else none) (fun g ag hg => ?_) ?_
  · by_cases e : g = f
    · subst e; simp at hg; subst hg; exact ⟨fn, hok⟩
    · simp [e] at hg
  · unfold wfun
    simp only [if_true]
    unfold wfn at hx
    rw [hcb] at hx
    exact hx
end Go.Ax
namespace Go.Ax
open Go.RowKit

/-- Kinds of values. -/
inductive VT where
  | i (k : IntKind)
  | b
  | s
  | v
def tI (k : IntKind) (K : Int → Prop) (v : Value) : Prop :=
  match v with
  | .int j n => cond (decide (j = k)) (K n) False
  | _ => False
def tB (K : Bool → Prop) (v : Value) : Prop :=
  match v with
  | .bool b => K b
  | _ => False
def tS (K : ByteArray → Prop) (v : Value) : Prop :=
  match v with
  | .string s => K s
  | _ => False
def ty : VT → (Value → Prop) → Value → Prop
  | .i k, K => tI k fun n => K (.int k n)
  | .b, K => tB fun b => K (.bool b)
  | .s, K => tS fun s => K (.string s)
  | .v, K => K
def om (o : Option Value) (K : Value → Prop) : Prop :=
  match o with
  | some v => K v
  | none => False
def omT (t : VT) (o : Option Value) (K : Value → Prop) : Prop := om o (ty t K)
theorem ty_imp {t : VT} {K : Value → Prop} {v : Value} (h : ty t K v) : K v := by
  cases t with
  | i k =>
    simp only [ty, tI] at h
    split at h
    · rename_i j n
      cases hk : decide (j = k) with
      | true => rw [hk] at h; have := of_decide_eq_true hk; subst this; exact h
      | false => rw [hk] at h; exact h.elim
    · exact h.elim
  | b => simp only [ty, tB] at h; split at h <;> first | exact h | exact h.elim
  | s => simp only [ty, tS] at h; split at h <;> first | exact h | exact h.elim
  | v => exact h
theorem ty_mono {t : VT} {K K' : Value → Prop} (hk : ∀ v, K v → K' v) {v : Value} (h : ty t K v) : ty t K' v := by
  cases t with
  | i k =>
    simp only [ty, tI] at h ⊢
    split at h
    · rename_i j n
      cases hd : decide (j = k) with
      | true => rw [hd] at h; exact hk _ h
      | false => rw [hd] at h; exact h.elim
    · exact h.elim
  | b =>
    simp only [ty, tB] at h ⊢
    split at h
    · exact hk _ h
    · exact h.elim
  | s =>
    simp only [ty, tS] at h ⊢
    split at h
    · exact hk _ h
    · exact h.elim
  | v => exact hk _ h
theorem om_pu {o : Option Value} {K K' : Value → Prop} (hk : ∀ v, K v → K' v) (h : om o K) : pu o K' := by
  unfold om at h
  split at h
  · exact ⟨_, rfl, hk _ h⟩
  · exact h.elim
theorem omT_pu {t : VT} {o : Option Value} {K K' : Value → Prop} (hk : ∀ v, K v → K' v) (h : omT t o K) : pu o K' := om_pu (fun v h => hk v (ty_imp h)) h

/-! ### What calls give -/
def r0 (K : AHeap → Prop) : WK := fun v σ =>
  match v with
  | .tuple a => match a.toList with
    | [] => K σ
    | _ => False
  | _ => False
def r2 (K : Value → Value → AHeap → Prop) : WK := fun v σ =>
  match v with
  | .tuple a => match a.toList with
    | [x, y] => K x y σ
    | _ => False
  | _ => False
def r3 (K : Value → Value → Value → AHeap → Prop) : WK := fun v σ =>
  match v with
  | .tuple a => match a.toList with
    | [x, y, z] => K x y z σ
    | _ => False
  | _ => False
def r4 (K : Value → Value → Value → Value → AHeap → Prop) : WK := fun v σ =>
  match v with
  | .tuple a => match a.toList with
    | [x, y, z, u] => K x y z u σ
    | _ => False
  | _ => False
def rt : List VT → WK → WK
  | [], K => r0 fun σ => K (.tuple #[]) σ
  | [t], K => fun v σ => ty t (fun v => K v σ) v
  | [t, u], K => r2 fun x y σ => ty t (fun x => ty u (fun y => K (.tuple #[x, y]) σ) y) x
  | [t, u, s3], K => r3 fun x y z σ => ty t (fun x => ty u (fun y => ty s3 (fun z => K (.tuple #[x, y, z]) σ) z) y) x
  | [t, u, s3, q], K => r4 fun x y z w σ => ty t (fun x => ty u (fun y => ty s3 (fun z => ty q (fun w => K (.tuple #[x, y, z, w]) σ) w) z) y) x
  | _, _ => fun _ _ => False
theorem arr_of {a : Array Value} {l : List Value} (h : a.toList = l) : a = l.toArray := by rw [← h]
theorem rt_imp : ∀ {l : List VT} {K : WK} {v : Value} {σ : AHeap}, rt l K v σ → K v σ
  | [], K, v, σ, h => by
    simp only [rt, r0] at h
    split at h
    · split at h
      · rename_i a ha; rw [arr_of ha]; exact h
      · exact h.elim
    · exact h.elim
  | [t], K, v, σ, h => ty_imp (K := fun v => K v σ) h
  | [t, u], K, v, σ, h => by
    simp only [rt, r2] at h
    split at h
    · split at h
      · rename_i a x y ha; rw [arr_of ha]; exact ty_imp (K := fun y => K (.tuple #[x, y]) σ) (ty_imp (K := fun x => ty u (fun y => K (.tuple #[x, y]) σ) y) h)
      · exact h.elim
    · exact h.elim
  | [t, u, s3], K, v, σ, h => by
    simp only [rt, r3] at h
    split at h
    · split at h
      · rename_i a x y z ha
        rw [arr_of ha]
        have h := ty_imp (K := fun x => ty u (fun y => ty s3 (fun z => K (.tuple #[x, y, z]) σ) z) y) h
        have h := ty_imp (K := fun y => ty s3 (fun z => K (.tuple #[x, y, z]) σ) z) h
        exact ty_imp (K := fun z => K (.tuple #[x, y, z]) σ) h
      · exact h.elim
    · exact h.elim
  | [t, u, s3, q], K, v, σ, h => by
    simp only [rt, r4] at h
    split at h
    · split at h
      · rename_i a x y z w ha
        rw [arr_of ha]
        have h := ty_imp (K := fun x => ty u (fun y => ty s3 (fun z => ty q (fun w => K (.tuple #[x, y, z, w]) σ) w) z) y) h
        have h := ty_imp (K := fun y => ty s3 (fun z => ty q (fun w => K (.tuple #[x, y, z, w]) σ) w) z) h
        have h := ty_imp (K := fun z => ty q (fun w => K (.tuple #[x, y, z, w]) σ) w) h
        exact ty_imp (K := fun w => K (.tuple #[x, y, z, w]) σ) h
      · exact h.elim
    · exact h.elim
  | _ :: _ :: _ :: _ :: _ :: _, K, v, σ, h => h.elim

/-! ### Structs -/
/-- Cells one behind the other. -/
def ldC (σ : AHeap) (a : Value) : Nat → List VT → (List Value → Prop) → Prop
  | _, [], K => K []
  | i, t :: l, K => om (aFieldAddr i a) fun p => omT t (aLoad false 1 p σ) fun v => ldC σ a (i + 1) l fun vs => K (v :: vs)
theorem addr_add (ad : Addr) (i : Nat) : (ad.add i).block = ad.block ∧ (ad.add i).off = ad.off + i := by
  unfold Addr.add
  split
  · rename_i h; subst h; exact ⟨rfl, rfl⟩
  · exact ⟨rfl, rfl⟩
theorem ldC_at {σ : AHeap} {ad : Addr} : ∀ (l : List VT) (i : Nat) {K : List Value → Prop}, ldC σ (.pointer (some ad)) i l K →
    ∃ vs : List Value, K vs ∧ vs.length = l.length ∧ ∀ (j : Nat) (v : Value), vs[j]? = some v → ((σ.row ad.block).bind fun c => c[ad.off + i + j]?) = some v
  | [], i, K, h => ⟨[], h, rfl, fun j v hv => by simp at hv⟩
  | t :: l, i, K, h => by
    simp only [ldC, aFieldAddr, om] at h
    obtain ⟨v, h1, h2⟩ := omT_pu (fun v h => h) h
    obtain ⟨vs, h3, h4, h5⟩ := ldC_at l (i + 1) h2
    refine ⟨v :: vs, h3, by simp [h4], fun j u hu => ?_⟩
    cases j with
    | zero =>
      simp at hu; subst hu
      simp only [aLoad, cond_false, (addr_add ad i).1, (addr_add ad i).2] at h1
      exact h1
    | succ j =>
      have := h5 j u (by simpa using hu)
      rw [show ad.off + i + (j + 1) = ad.off + (i + 1) + j by omega]
      exact this
theorem ldC_sound {σ : AHeap} {a : Value} {l : List VT} {K : List Value → Prop} (h : ldC σ a 0 l K) (hn : l ≠ []) : ∃ vs, aLoad true l.length a σ = some (.agg vs.toArray) ∧ K vs := by
  have hp : ∃ ad, a = .pointer (some ad) := by
    cases l with
    | nil => exact absurd rfl hn
    | cons t l =>
      simp only [ldC, aFieldAddr, om] at h
      split at h
      · rename_i o hv
        split at hv
        · exact ⟨_, rfl⟩
        · cases hv
      · exact h.elim
  obtain ⟨ad, rfl⟩ := hp
  obtain ⟨vs, h1, h2, h3⟩ := ldC_at l 0 h
  refine ⟨vs, ?_, h1⟩
  have hpos : 0 < l.length := List.length_pos_iff.2 hn
  have h0 := h3 0 _ (List.getElem?_eq_getElem (show 0 < vs.length by omega))
  cases hr : σ.row ad.block with
  | none => rw [hr] at h0; cases h0
  | some c =>
    simp only [hr, Option.bind_some] at h3
    have hlen : ad.off + l.length ≤ c.length := by
      have := h3 (l.length - 1) _ (List.getElem?_eq_getElem (show l.length - 1 < vs.length by omega))
      have := (List.getElem?_eq_some_iff.1 this).1
      omega
    have hv : (c.drop ad.off).take l.length = vs := by
      apply List.ext_getElem?
      intro j
      rw [List.getElem?_take]
      by_cases hj : j < l.length
      · rw [if_pos hj, List.getElem?_drop]
        have := h3 j _ (List.getElem?_eq_getElem (show j < vs.length by omega))
        rw [List.getElem?_eq_getElem (show j < vs.length by omega)]
        simpa using this
      · rw [if_neg hj, List.getElem?_eq_none (by omega)]
    obtain ⟨m, hm⟩ : ∃ m, l.length = m + 1 := ⟨l.length - 1, by omega⟩
    rw [hm] at hlen hv ⊢
    have hb : Nat.ble (ad.off + (m + 1)) c.length = true := Nat.ble_eq_true_of_le hlen
    simp only [aLoad, cond_true, seg, hr, Option.bind_some, hb, Option.map_some, hv]

/-! ### Composite values: parts of one cell are seen as such -/
def fillT (pl : Nat → Option (Nat × Nat)) : List Value → List (Nat × Value) → (List Value → Prop) → Prop
  | c, [], K => K c
  | c, (k, v) :: ps, K => match pl k with
    | some (o, n) => cond (Nat.beq n 1) (cond (Nat.ble (o + 1) c.length && v.oneCell') (fillT pl (splice c o [v]) ps K) False)
        (cond (live v && Nat.beq v.cells.size n && Nat.ble (o + v.cells.size) c.length) (fillT pl (splice c o v.cells.toList) ps K) False)
    | none => False
theorem one_cells {v : Value} (h : v.oneCell' = true) : live v = true ∧ v.cells = #[v] := by cases v <;> simp_all [live, Value.oneCell', Value.cells]
theorem fillT_sound {pl : Nat → Option (Nat × Nat)} : ∀ {ps : List (Nat × Value)} {c : List Value} {K : List Value → Prop}, fillT pl c ps K → ∃ l, aFill pl c ps = some l ∧ K l
  | [], c, K, h => ⟨c, rfl, h⟩
  | (k, v) :: ps, c, K, h => by
    simp only [fillT] at h
    simp only [aFill]
    split at h
    · rename_i o n hp
      simp only [hp]
      cases hn : Nat.beq n 1 with
      | true =>
        rw [hn] at h
        simp only [cond_true] at h
        have hn := Nat.eq_of_beq_eq_true hn
        subst hn
        cases hc : (Nat.ble (o + 1) c.length && v.oneCell') with
        | false => rw [hc] at h; exact h.elim
        | true =>
          rw [hc] at h
          simp only [cond_true] at h
          rw [Bool.and_eq_true] at hc
          obtain ⟨h1, h2⟩ := one_cells hc.2
          obtain ⟨l, h3, h4⟩ := fillT_sound h
          refine ⟨l, ?_, h4⟩
          have hc2 := hc.1
          simp only [h1, h2, List.size_toArray, List.length_cons, List.length_nil, Nat.zero_add, hc2, Nat.beq_refl, Bool.and_self, cond_true]
          exact h3
      | false =>
        rw [hn] at h
        simp only [cond_false] at h
        cases hc : (live v && Nat.beq v.cells.size n && Nat.ble (o + v.cells.size) c.length) with
        | false => rw [hc] at h; exact h.elim
        | true =>
          rw [hc] at h
          obtain ⟨l, h3, h4⟩ := fillT_sound h
          exact ⟨l, by simp only [cond_true]; exact h3, h4⟩
    · exact h.elim

def pk (t : VT) (c : Bool) (x y : Value) : Value :=
  match t, x, y with
  | .i k, .int j a, .int j' b => cond (decide (j = k) && decide (j' = k)) (.int k (cond c a b)) (cond c x y)
  | .b, .bool a, .bool b => .bool (cond c a b)
  | .s, .string a, .string b => .string (cond c a b)
  | _, _, _ => cond c x y
theorem pk_eq (t : VT) (c : Bool) (x y : Value) : pk t c x y = cond c x y := by
  unfold pk
  split
  · rename_i k j a j' b
    cases h : (decide (j = k) && decide (j' = k)) with
    | false => rfl
    | true =>
      rw [Bool.and_eq_true] at h
      have h1 := of_decide_eq_true h.1
      have h2 := of_decide_eq_true h.2
      subst h1; subst h2
      cases c <;> rfl
  · cases c <;> rfl
  · cases c <;> rfl
  · rfl
end Go.Ax
namespace Go.Ax
open Go.RowKit

section
variable (P : Program)
def vtOf (t : TypeId) : VT :=
  match P.underlying t with
  | some (.int k) => .i k
  | some .bool => .b
  | some .string => .s
  | _ => .v
/-- Of what a call gives. -/
def rtOf (t : TypeId) : Option (List VT) :=
  match P.types[t]? with
  | some i => match i.desc with
    | .tuple ts => some (ts.toList.map (vtOf P))
    | .invalid => none
    | _ => some [vtOf P t]
  | none => none
def rtK (t : TypeId) (K : WK) : WK :=
  match rtOf P t with
  | some l => rt l K
  | none => K
/-- The cells of a struct; none: it has others. -/
def flatVT : Nat → TypeId → Option (List VT)
  | 0, _ => none
  | n + 1, t => match P.underlying t with
    | some (.struct fs) => fs.toList.foldr (fun f l => match flatVT n f.type, l with
      | some a, some b => some (a ++ b)
      | _, _ => none) (some [])
    | some (.array _ _) => none
    | some _ => some [vtOf P t]
    | none => none
def cmpOp : BinOp → Bool
  | .eql | .neq | .lss | .leq | .gtr | .geq => true
  | _ => false

def xBin (op : BinOp) (t : TypeId) (x y : Value) (K : Value → Prop) : Prop :=
  match P.underlying t with
  | some (.struct _) => omT .b (aBinP P t op x y) K
  | some (.array _ _) => omT .b (aBinP P t op x y) K
  | d => cond (cmpOp op) (omT .b (aBin d op x y) K) (omT (vtOf P t) (aBin d op x y) K)
def xLen (t : TypeId) (x : Value) (σ : AHeap) (K : Value → Prop) : Prop :=
  match P.underlying t with
  | some (.slice _) => omT (.i .i64) (lenS x) K
  | some .string => omT (.i .i64) (lenStr x) K
  | some (.map _ _) => omT (.i .i64) (lenM x σ) K
  | _ => False
def xSlice (t : TypeId) (x : Value) (lo hi mx : Option Value) (K : Value → Prop) : Prop :=
  match P.underlying t with
  | some .string => match mx with
    | none => omT .s (aSliceStr x lo hi) K
    | some _ => False
  | some (.slice e) => match P.info? e with
    | some i => om (aSlice i.size x lo hi mx) K
    | none => False
  | some (.array n e) => match P.info? e with
    | some i => om (aSliceArr n i.size x lo hi mx) K
    | none => False
  | some (.pointer arr) => match P.underlying arr with
    | some (.array n e) => match P.info? e with
      | some i => om (aSliceArr n i.size x lo hi mx) K
      | none => False
    | _ => False
  | _ => False
def xIdxA (t : TypeId) (x i : Value) (K : Value → Prop) : Prop :=
  match P.underlying t with
  | some (.slice e) => match P.info? e with
    | some j => om (aIndexAddr j.size x i) K
    | none => False
  | some (.array n e) => match P.info? e with
    | some j => om (aIndexAddrArr n j.size x i) K
    | none => False
  | _ => False
def xConv (s d : TypeId) (x : Value) (σ : AHeap) (K : Value → Prop) : Prop :=
  match P.underlying s, P.underlying d with
  | some (.int _), some (.int k) => omT (.i k) (convI k x) K
  | _, _ => omT (vtOf P d) (aConv P s d x σ) K
def xField (t : TypeId) (f : Nat) (x : Value) (K : Value → Prop) : Prop :=
  match P.underlying t with
  | some (.struct fs) => match fs[f]? with
    | some fd => match shp P fd.type with
      | some (g, n) => omT (vtOf P fd.type) (fieldR g n fd.offset x) K
      | none => False
    | none => False
  | _ => False
def xIdx (t : TypeId) (x i : Value) (K : Value → Prop) : Prop :=
  match P.underlying t with
  | some (.array len e) => match P.info? e with
    | some j => match shp P e with
      | some (g, n) => omT (vtOf P e) (idxArr g n len j.size x i) K
      | none => False
    | none => False
  | some .string => omT (.i .u8) (idxStr x i) K
  | _ => False
def xBuild (t : TypeId) (parts : List (Nat × Value)) (K : Value → Prop) : Prop :=
  match zeroOf P t with
  | some z => match P.underlying t with
    | some (.struct fs) => match placesOf P fs.toList with
      | some pl => fillT (pl[·]?) z.cells.toList parts fun l => K (.agg l.toArray)
      | none => False
    | some (.array _ e) => match P.info? e with
      | some i => fillT (fun k => some (k * i.size, i.size)) z.cells.toList parts fun l => K (.agg l.toArray)
      | none => False
    | _ => False
  | none => False
def xBuildS (t : TypeId) (len : Nat) (parts : List (Nat × Value)) (σ : AHeap) (K : WK) : Prop :=
  match elemOf? P t with
  | some (e, z, _) => match len with
    | 0 => match parts with
      | [] => K (.slice (some ⟨ZB, 0, some 0⟩) 0 0) σ
      | _ => False
    | _ => match zeroOf P e with
      | some zv => cond (Nat.ble (len * z) 16777216 && Nat.blt 0 z) (fillT (fun k => some (k * z, z)) (reps len zv.cells.toList) parts fun l => wNew σ (.cells l e false) fun b σ => K (.slice (some ⟨b, 0, none⟩) len len) σ) False
      | none => False
  | none => False
def xBuiltin (b : Builtin) (ts : List TypeId) (args : List Value) (σ : AHeap) (K : WK) : Prop :=
  match b, ts, args with
  | .len, [t], [x] => xLen P t x σ fun v => K v σ
  | .min, [t, _], [x, y] => omT (vtOf P t) (aMin2 x y) fun v => K v σ
  | .max, [t, _], [x, y] => omT (vtOf P t) (aMax2 x y) fun v => K v σ
  | _, _, _ => wBuiltin P b ts args σ K
def xLoad (t : TypeId) (a : Value) (σ : AHeap) (K : Value → Prop) : Prop :=
  match shp P t with
  | some (true, n) => match flatVT P 6 t with
    | some l => cond (Nat.beq l.length n && Nat.blt 0 n && Nat.blt n 24) (ldC σ a 0 l fun vs => K (.agg vs.toArray)) (om (aLoad true n a σ) K)
    | none => om (aLoad true n a σ) K
  | some (false, n) => omT (vtOf P t) (aLoad false n a σ) K
  | none => False

def xExt (x : Value) (i : Nat) : Option Value :=
  match x with
  | .tuple vs => match vs.toList with
    | a :: b :: l => (a :: b :: l)[i]?
    | _ => aExtract x i
  | _ => aExtract x i
def xval (E : EvT) (ev : Operand → Value) (o : Oper) (σ : AHeap) (K kp : WK) : Prop :=
  match o.op with
  | .pick c a b => wB (ev c) fun t => K (pk (vtOf P o.type) t (ev a) (ev b)) σ
  | .box e x => match shp P e with
    | some (_, n) => cond (Nat.beq n 1) (cond (ev x).oneCell' (wNew σ (.cells [ev x] e false) fun b σ => K (.pointer (some ⟨b, 0, none⟩)) σ) False)
      (cond (live (ev x)) (wNew σ (.cells (ev x).cells.toList e false) fun b σ => K (.pointer (some ⟨b, 0, none⟩)) σ) False)
    | none => False
  | .build t ps => xBuild P t (ps.toList.map fun p => (p.1, ev p.2)) fun v => K v σ
  | .buildSlice t n ps => xBuildS P t n (ps.toList.map fun p => (p.1, ev p.2)) σ K
  | .load t a => xLoad P t (ev a) σ fun v => K v σ
  | .nilCheck x => om (aNil (ev x)) fun v => K v σ
  | .binOp op t x y _ => xBin P op t (ev x) (ev y) fun v => K v σ
  | .unOp op t x => omT (vtOf P t) (aUn op (ev x)) fun v => K v σ
  | .convert s d x => xConv P s d (ev x) σ fun v => K v σ
  | .makeInterface t x => om (aIface P t (ev x)) fun v => K v σ
  | .slice t x lo hi mx => xSlice P t (ev x) (lo.map ev) (hi.map ev) (mx.map ev) fun v => K v σ
  | .fieldAddr t x f => match fieldOff P t f with
    | some off => om (aFieldAddr off (ev x)) fun v => K v σ
    | none => False
  | .field t x f => xField P t f (ev x) fun v => K v σ
  | .indexAddr t x i => xIdxA P t (ev x) (ev i) fun v => K v σ
  | .index t x i => xIdx P t (ev x) (ev i) fun v => K v σ
  | .extract x i => omT (vtOf P o.type) (xExt (ev x) i) fun v => K v σ
  | .lookup t x i ok => cond ok (om (aLookup P t (ev x) (ev i) ok σ) fun v => K v σ) (omT (vtOf P o.type) (aLookup P t (ev x) (ev i) ok σ) fun v => K v σ)
  | .entry it => om (aEntry (ev it) σ) fun v => K v σ
  | .typeAssert x _ t ok => cond ok (om (aAssert P t ok (ev x)) fun v => K v σ) (omT (vtOf P t) (aAssert P t ok (ev x)) fun v => K v σ)
  | .call c => match c.callee with
    | .builtin b => xBuiltin P b c.argTypes.toList (c.args.toList.map ev) σ K
    | .value f => wF (ev f) fun g first captured => E g (first ++ c.args.toList.map ev ++ captured) σ (RP (rtK P o.type K) kp)
    | .invoke r name => pu (aMethod P (ev r) name σ) fun r => E r.1 (r.2 :: c.args.toList.map ev) σ (RP (rtK P o.type K) kp)
  | _ => wval P E ev o σ K kp
end

section
variable {P : Program} {σ : AHeap} {K K' : Value → Prop}
theorem rtK_imp {t : TypeId} {K : WK} {v : Value} {σ : AHeap} (h : rtK P t K v σ) : K v σ := by
  unfold rtK at h
  cases hr : rtOf P t with
  | none => rw [hr] at h; exact h
  | some l => rw [hr] at h; exact rt_imp h
theorem pu_mono {α : Type} {o : Option α} {K K' : α → Prop} (hk : ∀ v, K v → K' v) (h : pu o K) : pu o K' :=
  let ⟨v, h1, h2⟩ := h; ⟨v, h1, hk v h2⟩
theorem xExt_eq (x : Value) (i : Nat) : xExt x i = aExtract x i := by
  unfold xExt
  split
  · rename_i vs
    split
    · rename_i a b l h
      simp only [aExtract, h]
    · rfl
  · rfl
theorem xBin_w {op : BinOp} {t : TypeId} {x y : Value} (hk : ∀ v, K v → K' v) (h : xBin P op t x y K) : wBin P op t x y K' := by
  unfold xBin at h
  unfold wBin
  have hd : ∀ d, cond (cmpOp op) (omT .b (aBin d op x y) K) (omT (vtOf P t) (aBin d op x y) K) → pu (aBin d op x y) K' := fun d h => by
    cases hc : cmpOp op <;> rw [hc] at h <;> exact omT_pu hk h
  cases hu : P.underlying t with
  | none => rw [hu] at h; exact hd _ h
  | some d => cases d <;> (rw [hu] at h; first | exact hd _ h | exact omT_pu hk h)
theorem xLen_w {t : TypeId} {x : Value} (hk : ∀ v, K v → K' v) (h : xLen P t x σ K) : wLen P t x σ K' := by
  unfold xLen at h
  unfold wLen
  cases hu : P.underlying t with
  | none => rw [hu] at h; exact h.elim
  | some d => cases d <;> (rw [hu] at h; first | exact h.elim | exact omT_pu hk h)
theorem xSlice_w {t : TypeId} {x : Value} {lo hi mx : Option Value} (hk : ∀ v, K v → K' v) (h : xSlice P t x lo hi mx K) : wSlice P t x lo hi mx K' := by
  unfold xSlice at h
  unfold wSlice
  cases hu : P.underlying t with
  | none => rw [hu] at h; exact h.elim
  | some d =>
    rw [hu] at h
    cases d with
    | string => cases mx <;> first | exact h.elim | exact omT_pu hk h
    | slice e =>
      simp only at h ⊢
      cases he : P.info? e with
      | none => rw [he] at h; exact h.elim
      | some i => rw [he] at h; exact om_pu hk h
    | array n e =>
      simp only at h ⊢
      cases he : P.info? e with
      | none => rw [he] at h; exact h.elim
      | some i => rw [he] at h; exact om_pu hk h
    | pointer p =>
      simp only at h ⊢
      cases hp : P.underlying p with
      | none => rw [hp] at h; exact h.elim
      | some d =>
        rw [hp] at h
        cases d with
        | array n e =>
          simp only at h ⊢
          cases he : P.info? e with
          | none => rw [he] at h; exact h.elim
          | some i => rw [he] at h; exact om_pu hk h
        | _ => exact h.elim
    | _ => exact h.elim
theorem xIdxA_w {t : TypeId} {x i : Value} (hk : ∀ v, K v → K' v) (h : xIdxA P t x i K) : wIdxA P t x i K' := by
  unfold xIdxA at h
  unfold wIdxA
  cases hu : P.underlying t with
  | none => rw [hu] at h; exact h.elim
  | some d =>
    rw [hu] at h
    cases d with
    | slice e =>
      simp only at h ⊢
      cases he : P.info? e with
      | none => rw [he] at h; exact h.elim
      | some i => rw [he] at h; exact om_pu hk h
    | array n e =>
      simp only at h ⊢
      cases he : P.info? e with
      | none => rw [he] at h; exact h.elim
      | some i => rw [he] at h; exact om_pu hk h
    | _ => exact h.elim
theorem xConv_w {s d : TypeId} {x : Value} (hk : ∀ v, K v → K' v) (h : xConv P s d x σ K) : wConv P s d x σ K' := by
  unfold xConv at h
  unfold wConv
  cases hu : P.underlying s with
  | none => rw [hu] at h; exact omT_pu hk h
  | some a =>
    rw [hu] at h
    cases hv : P.underlying d with
    | none => rw [hv] at h; cases a <;> exact omT_pu hk h
    | some b => rw [hv] at h; cases a <;> cases b <;> exact omT_pu hk h
theorem xField_w {t : TypeId} {f : Nat} {x : Value} (hk : ∀ v, K v → K' v) (h : xField P t f x K) : wField P t f x K' := by
  unfold xField at h
  unfold wField
  cases hu : P.underlying t with
  | none => rw [hu] at h; exact h.elim
  | some d =>
    rw [hu] at h
    cases d <;> simp only at h ⊢ <;> first | exact h.elim | skip
    rename_i fs
    cases hf : fs[f]? with
    | none => rw [hf] at h; exact h.elim
    | some fd =>
      rw [hf] at h
      simp only at h ⊢
      cases hs : shp P fd.type with
      | none => rw [hs] at h; exact h.elim
      | some g => rw [hs] at h; exact omT_pu hk h
theorem xIdx_w {t : TypeId} {x i : Value} (hk : ∀ v, K v → K' v) (h : xIdx P t x i K) : wIdx P t x i K' := by
  unfold xIdx at h
  unfold wIdx
  cases hu : P.underlying t with
  | none => rw [hu] at h; exact h.elim
  | some d =>
    rw [hu] at h
    cases d <;> simp only at h ⊢ <;> first | exact h.elim | exact omT_pu hk h | skip
    rename_i len e
    cases hi : P.info? e with
    | none => rw [hi] at h; exact h.elim
    | some j =>
      rw [hi] at h
      simp only at h ⊢
      cases hs : shp P e with
      | none => rw [hs] at h; exact h.elim
      | some g => rw [hs] at h; exact omT_pu hk h
theorem xBuild_w {t : TypeId} {parts : List (Nat × Value)} (hk : ∀ v, K v → K' v) (h : xBuild P t parts K) : wBuild P t parts K' := by
  unfold xBuild at h
  unfold wBuild
  cases hz : zeroOf P t with
  | none => rw [hz] at h; exact h.elim
  | some z =>
    rw [hz] at h
    simp only at h ⊢
    cases hu : P.underlying t with
    | none => rw [hu] at h; exact h.elim
    | some d =>
      rw [hu] at h
      cases d <;> simp only at h ⊢ <;> first | exact h.elim | skip
      · rename_i n e
        cases hi : P.info? e with
        | none => rw [hi] at h; exact h.elim
        | some i =>
          rw [hi] at h
          obtain ⟨l, h1, h2⟩ := fillT_sound h
          exact ⟨.agg l.toArray, by simp only [buildA, h1, Option.map_some], hk _ h2⟩
      · rename_i fs
        cases hp : placesOf P fs.toList with
        | none => rw [hp] at h; exact h.elim
        | some pl =>
          rw [hp] at h
          obtain ⟨l, h1, h2⟩ := fillT_sound h
          exact ⟨.agg l.toArray, by simp only [buildR, h1, Option.map_some], hk _ h2⟩
theorem xBuildS_w {t : TypeId} {n : Nat} {ps : List (Nat × Value)} {K K' : WK} (hk : ∀ v σ, K v σ → K' v σ) (h : xBuildS P t n ps σ K) : wBuildS P t n ps σ K' := by
  unfold xBuildS at h
  unfold wBuildS
  cases he : elemOf? P t with
  | none => rw [he] at h; exact h.elim
  | some p =>
    obtain ⟨e, z, by'⟩ := p
    rw [he] at h
    simp only at h ⊢
    cases n with
    | zero =>
      cases ps with
      | nil => exact hk _ _ h
      | cons p ps => exact h.elim
    | succ n =>
      simp only at h ⊢
      cases hz : zeroOf P e with
      | none => rw [hz] at h; exact h.elim
      | some zv =>
        rw [hz] at h
        simp only at h ⊢
        cases hc : (Nat.ble ((n + 1) * z) 16777216 && Nat.blt 0 z) with
        | false => rw [hc] at h; exact h.elim
        | true =>
          rw [hc] at h
          obtain ⟨l, h1, h2⟩ := fillT_sound h
          exact ⟨(.slice (some ⟨σ.size, 0, none⟩) (n + 1) (n + 1), σ.push (.cells l e false)), by simp only [buildS, hc, cond_true, h1, Option.map_some], hk _ _ h2⟩
theorem wBuiltin_mono {b : Builtin} {ts : List TypeId} {args : List Value} {K K' : WK} (hk : ∀ v σ, K v σ → K' v σ) (h : wBuiltin P b ts args σ K) : wBuiltin P b ts args σ K' := by
  unfold wBuiltin at h ⊢
  split at h
  · rename_i t u s x
    cases he : elemOf? P t with
    | none => rw [he] at h; exact h.elim
    | some p =>
      obtain ⟨e, z, by'⟩ := p
      rw [he] at h
      simp only at h ⊢
      cases hz : zeroOf P e with
      | none => rw [hz] at h; exact h.elim
      | some zv =>
        rw [hz] at h
        simp only at h ⊢
        cases hn : notInt P u <;> rw [hn] at h <;> simp only [cond_true, cond_false] at h ⊢
        · cases hi : isInt P u <;> rw [hi] at h <;> simp only [cond_true, cond_false] at h ⊢
          exact pu_mono (fun r => hk _ _) h
        · exact pu_mono (fun r => hk _ _) h
  · rename_i t _ d x
    cases he : elemOf? P t with
    | none => rw [he] at h; exact h.elim
    | some p =>
      obtain ⟨e, z, by'⟩ := p
      rw [he] at h
      exact pu_mono (fun r => hk _ _) h
  · rename_i t x
    unfold wLen at h ⊢
    cases hu : P.underlying t with
    | none => rw [hu] at h; exact h.elim
    | some d => cases d <;> (rw [hu] at h; first | exact h.elim | exact pu_mono (fun v => hk _ _) h)
  · exact pu_mono (fun r => hk _ _) h
  · exact pu_mono (fun r => hk _ _) h
  · exact pu_mono (fun r => hk _ _) h
  · exact h.elim
theorem xBuiltin_w {b : Builtin} {ts : List TypeId} {args : List Value} {K K' : WK} (hk : ∀ v σ, K v σ → K' v σ) (h : xBuiltin P b ts args σ K) : wBuiltin P b ts args σ K' := by
  unfold xBuiltin at h
  split at h
  · exact xLen_w (fun v => hk v σ) h
  · exact omT_pu (fun v => hk v σ) h
  · exact omT_pu (fun v => hk v σ) h
  · exact wBuiltin_mono hk h
theorem xLoad_w {t : TypeId} {a : Value} (hk : ∀ v, K v → K' v) (h : xLoad P t a σ K) : match shp P t with
    | some (g, n) => pu (aLoad g n a σ) K'
    | none => False := by
  unfold xLoad at h
  cases hs : shp P t with
  | none => rw [hs] at h; exact h.elim
  | some g =>
    obtain ⟨g, n⟩ := g
    rw [hs] at h
    cases g with
    | false => exact omT_pu hk h
    | true =>
      simp only at h ⊢
      cases hf : flatVT P 6 t with
      | none => rw [hf] at h; exact om_pu hk h
      | some l =>
        rw [hf] at h
        simp only at h
        cases hc : (Nat.beq l.length n && Nat.blt 0 n && Nat.blt n 24) with
        | false => rw [hc] at h; exact om_pu hk h
        | true =>
          rw [hc] at h
          simp only [Bool.and_eq_true] at hc
          have hl := Nat.eq_of_beq_eq_true hc.1.1
          have hp : 0 < n := by simpa using hc.1.2
          obtain ⟨vs, h1, h2⟩ := ldC_sound h (fun e => by subst e; simp at hl; omega)
          rw [hl] at h1
          exact ⟨_, h1, hk _ h2⟩

def EMono (E : EvT) : Prop := ∀ f a σ (Q Q' : RK), (∀ r σ, Q r σ → Q' r σ) → E f a σ Q → E f a σ Q'
theorem xval_w {E : EvT} (hE : EMono E) {ev : Operand → Value} {o : Oper} {K K' kp kp' : WK} (hk : ∀ v σ, K v σ → K' v σ) (hkp : ∀ v σ, kp v σ → kp' v σ) (h : xval P E ev o σ K kp) : wval P E ev o σ K' kp' := by
  have hrp : ∀ t r σ, RP (rtK P t K) kp r σ → RP K' kp' r σ := fun t r σ h => by
    cases r with
    | ret v => exact hk _ _ (rtK_imp h)
    | pan v => exact hkp _ _ h
  have hw := fun (K : WK) v (h : K v σ) => h
  obtain ⟨dst, op, type, pos, after, guard⟩ := o
  cases op <;> simp only [xval, wval] at h ⊢ <;> try (first | exact hk _ _ h | exact h.elim)
  case pick c a b =>
    unfold wB at h ⊢
    split at h
    · rw [pk_eq] at h; exact hk _ _ h
    · exact h.elim
  case alloc e =>
    cases hz : zeroOf P e with
    | none => rw [hz] at h; exact h.elim
    | some z => rw [hz] at h; exact hk _ _ h
  case box e x =>
    cases hs : shp P e with
    | none => rw [hs] at h; exact h.elim
    | some g =>
      obtain ⟨g, n⟩ := g
      rw [hs] at h
      simp only at h
      cases hn : Nat.beq n 1 with
      | true =>
        rw [hn] at h
        simp only [cond_true] at h
        cases ho : (ev x).oneCell' with
        | false => rw [ho] at h; exact h.elim
        | true =>
          rw [ho] at h
          obtain ⟨h1, h2⟩ := one_cells ho
          rw [h1, h2]
          exact hk _ _ h
      | false =>
        rw [hn] at h
        simp only [cond_false] at h
        cases hl : live (ev x) with
        | false => rw [hl] at h; exact h.elim
        | true => rw [hl] at h; exact hk _ _ h
  case build t ps => exact xBuild_w (fun v => hk v σ) h
  case buildSlice t n ps => exact xBuildS_w hk h
  case load t a => exact xLoad_w (fun v => hk v σ) h
  case store t a x =>
    cases hs : shp P t with
    | none => rw [hs] at h; exact h.elim
    | some g => rw [hs] at h; exact pu_mono (fun v => hk _ v) h
  case nilCheck x => exact om_pu (fun v => hk v σ) h
  case binOp op t x y ty => exact xBin_w (fun v => hk v σ) h
  case unOp op t x => exact omT_pu (fun v => hk v σ) h
  case convert s d x => exact xConv_w (fun v => hk v σ) h
  case makeInterface t x => exact om_pu (fun v => hk v σ) h
  case makeSlice t l c =>
    cases he : elemOf? P t with
    | none => rw [he] at h; exact h.elim
    | some p =>
      obtain ⟨e, z, by'⟩ := p
      rw [he] at h
      simp only at h ⊢
      cases hz : zeroOf P e with
      | none => rw [hz] at h; exact h.elim
      | some zv => rw [hz] at h; exact pu_mono (fun r => hk _ _) h
  case slice t x lo hi mx => exact xSlice_w (fun v => hk v σ) h
  case fieldAddr t x f =>
    cases ho : fieldOff P t f with
    | none => rw [ho] at h; exact h.elim
    | some off => rw [ho] at h; exact om_pu (fun v => hk v σ) h
  case field t x f => exact xField_w (fun v => hk v σ) h
  case indexAddr t x i => exact xIdxA_w (fun v => hk v σ) h
  case index t x i => exact xIdx_w (fun v => hk v σ) h
  case extract x i => rw [xExt_eq] at h; exact omT_pu (fun v => hk v σ) h
  case makeMap t r => exact pu_mono (fun r => hk _ _) h
  case lookup t x i ok => cases ok <;> first | exact om_pu (fun v => hk v σ) h | exact omT_pu (fun v => hk v σ) h
  case mapUpdate t m k x => exact pu_mono (fun v => hk _ v) h
  case range t x => exact pu_mono (fun r => hk _ _) h
  case next it str => cases str <;> first | exact pu_mono (fun r => hk _ _) h | exact pu_mono (fun L hL r hr => hk _ _ (hL r hr)) h
  case entry it => exact om_pu (fun v => hk v σ) h
  case typeAssert x xt t ok => cases ok <;> first | exact om_pu (fun v => hk v σ) h | exact omT_pu (fun v => hk v σ) h
  case call c =>
    cases hc : c.callee with
    | builtin b => rw [hc] at h; exact xBuiltin_w hk h
    | value f =>
      rw [hc] at h
      simp only at h ⊢
      unfold wF at h ⊢
      split at h
      · exact hE _ _ _ _ _ (hrp type) h
      · exact h.elim
    | invoke r name =>
      rw [hc] at h
      exact pu_mono (fun p h => hE _ _ _ _ _ (hrp type) h) h
  case panic x =>
    unfold wPan at h ⊢
    split at h
    · exact hkp _ _ h
    · exact h.elim
end
end Go.Ax
namespace Go.Ax
open Go.RowKit

/-! ### Curried states of loops, by kinds -/
def TCur : List VT → Type
  | [] => AHeap → Prop
  | .i _ :: L => Int → TCur L
  | .b :: L => Bool → TCur L
  | .s :: L => ByteArray → TCur L
  | .v :: L => Value → TCur L
def TCur.at : (L : List VT) → TCur L → List Value → AHeap → Prop
  | [], p, [], σ => p σ
  | .i k :: L, p, v :: vs, σ => tI k (fun n => TCur.at L (p n) vs σ) v
  | .b :: L, p, v :: vs, σ => tB (fun b => TCur.at L (p b) vs σ) v
  | .s :: L, p, v :: vs, σ => tS (fun s => TCur.at L (p s) vs σ) v
  | .v :: L, p, v :: vs, σ => TCur.at L (p v) vs σ
  | [], _, _ :: _, _ => False
  | _ :: _, _, [], _ => False
def AllT : (L : List VT) → (List Value → Prop) → Prop
  | [], p => p []
  | .i k :: L, p => ∀ n, AllT L fun vs => p (.int k n :: vs)
  | .b :: L, p => ∀ b, AllT L fun vs => p (.bool b :: vs)
  | .s :: L, p => ∀ s, AllT L fun vs => p (.string s :: vs)
  | .v :: L, p => ∀ v, AllT L fun vs => p (v :: vs)
/-- The values are of their kinds. -/
def VOk : List VT → List Value → Prop
  | [], [] => True
  | t :: L, v :: vs => ty t (fun _ => True) v ∧ VOk L vs
  | _, _ => False
theorem ty_true {t : VT} {K : Value → Prop} {v : Value} (h : ty t K v) : ty t (fun _ => True) v := ty_mono (fun _ _ => trivial) h
theorem TCur.ok : ∀ (L : List VT) (p : TCur L) (vs : List Value) (σ : AHeap), TCur.at L p vs σ → VOk L vs
  | [], p, [], σ, _ => trivial
  | .i k :: L, p, v :: vs, σ, h => by
    have h : ty (.i k) (fun v => match v with | .int _ n => TCur.at L (p n) vs σ | _ => False) v := h
    refine ⟨ty_true h, ?_⟩
    have := ty_imp h
    split at this
    · exact TCur.ok L _ vs σ this
    · exact this.elim
  | .b :: L, p, v :: vs, σ, h => by
    have h : ty .b (fun v => match v with | .bool n => TCur.at L (p n) vs σ | _ => False) v := h
    refine ⟨ty_true h, ?_⟩
    have := ty_imp h
    split at this
    · exact TCur.ok L _ vs σ this
    · exact this.elim
  | .s :: L, p, v :: vs, σ, h => by
    have h : ty .s (fun v => match v with | .string n => TCur.at L (p n) vs σ | _ => False) v := h
    refine ⟨ty_true h, ?_⟩
    have := ty_imp h
    split at this
    · exact TCur.ok L _ vs σ this
    · exact this.elim
  | .v :: L, p, v :: vs, σ, h => ⟨trivial, TCur.ok L (p v) vs σ h⟩
  | [], _, _ :: _, _, h => h.elim
  | .i _ :: _, _, [], _, h => h.elim
  | .b :: _, _, [], _, h => h.elim
  | .s :: _, _, [], _, h => h.elim
  | .v :: _, _, [], _, h => h.elim
theorem AllT.at : ∀ (L : List VT) (p : List Value → Prop), AllT L p → ∀ vs, VOk L vs → p vs
  | [], p, h, [], _ => h
  | [], _, _, _ :: _, h => h.elim
  | .i k :: L, p, h, v :: vs, ⟨h1, h2⟩ => by
    simp only [ty, tI] at h1
    split at h1
    · rename_i j n
      cases hd : decide (j = k) with
      | true => have := of_decide_eq_true hd; subst this; exact AllT.at L (fun vs => p (.int j n :: vs)) (h n) vs h2
      | false => rw [hd] at h1; exact h1.elim
    · exact h1.elim
  | .b :: L, p, h, v :: vs, ⟨h1, h2⟩ => by
    simp only [ty, tB] at h1
    split at h1
    · exact AllT.at L _ (h _) vs h2
    · exact h1.elim
  | .s :: L, p, h, v :: vs, ⟨h1, h2⟩ => by
    simp only [ty, tS] at h1
    split at h1
    · exact AllT.at L _ (h _) vs h2
    · exact h1.elim
  | .v :: L, p, h, v :: vs, ⟨_, h2⟩ => AllT.at L (fun vs => p (v :: vs)) (h v) vs h2
  | _ :: _, _, _, [], h => h.elim
theorem VOk.len : ∀ (L : List VT) (vs : List Value), VOk L vs → vs.length = L.length
  | [], [], _ => rfl
  | _ :: L, _ :: vs, h => by simp [VOk.len L vs h.2]
  | [], _ :: _, h => h.elim
  | _ :: _, [], h => h.elim
theorem AllC.of : ∀ (L : List Nat) (p : List Value → Prop), (∀ vs, vs.length = L.length → p vs) → AllC L p
  | [], p, h => h [] rfl
  | _ :: L, p, h => fun v => AllC.of L (fun vs => p (v :: vs)) fun vs hl => h (v :: vs) (by simp [hl])
/-- A predicate of lists, curried. -/
def Cur.of : (L : List Nat) → (List Value → AHeap → Prop) → Cur L
  | [], p => p []
  | _ :: L, p => fun v => Cur.of L fun vs => p (v :: vs)
theorem Cur.at_of : ∀ (L : List Nat) (p : List Value → AHeap → Prop) (vs : List Value) (σ : AHeap), vs.length = L.length → (Cur.at L (Cur.of L p) vs σ ↔ p vs σ)
  | [], p, [], σ, _ => Iff.rfl
  | _ :: L, p, v :: vs, σ, h => Cur.at_of L (fun vs => p (v :: vs)) vs σ (by simpa using h)
  | [], _, _ :: _, _, h => by simp at h
  | _ :: _, _, [], _, h => by simp at h

section
variable (P : Program) (E : EvT)
def xone (o : Oper) (k : FK) (kp : WK) : FK := fun fr σ => xval P E (fev fr) o σ (fun v σ' => k (fput fr o.dst v) σ') kp
def xops (all : List Oper) (kp : WK) : List Oper → GM → FK → FK
  | [], _, kn => kn
  | o :: os, md, kn => wguard all o md (fun md => xone P E o (xops all kp os md kn) kp) fun md fr σ => xops all kp os md kn (fput fr o.dst skipV) σ
/-- Reads asked again. -/
def xre (all : List Oper) : List Nat → FK → FK
  | [], k => k
  | q :: qs, k => fun fr σ => match all[q]? with
    | none => False
    | some o => wguard all o none (fun _ fr σ => match o.dst with
      | some d => wnx o (xval P (fun _ _ _ _ => False) (fev fr) o σ (fun v _ => veq1 v (fget fr d) = true ∧ xre all qs k fr σ) noP)
      | none => False) (fun _ => xre all qs k) fr σ
def xdops (all : List Oper) (kp : WK) : List (Nat × List Nat) → GM → FK → FK
  | [], _, kn => kn
  | (i, chk) :: os, md, kn => fun fr σ => match all[i]? with
    | none => False
    | some o => wguard all o md (fun md => xone P E o (xre P all chk (xdops all kp os (gmChk chk md) kn)) kp) (fun md fr σ => xdops all kp os md kn (fput fr o.dst skipV) σ) fr σ
def xpc (kd : Nat → VT) (kp : WK) : AC → FK → (Nat → FK) → FK → FK
  | .skip, kn, _, _ => kn
  | .region _ ops, kn, _, _ => xops P E ops kp ops none kn
  | .dregion _ ops ord, kn, _, _ => xdops P E ops kp ord none kn
  | .seq a b, kn, ke, kr => xpc kd kp a (xpc kd kp b kn ke kr) ke kr
  | .cond c a b, kn, ke, kr => fun fr σ => wC (fev fr c) (xpc kd kp a kn ke kr fr σ) (xpc kd kp b kn ke kr fr σ)
  | .block id b, kn, ke, kr => xpc kd kp b kn (fun i fr σ => cond (Nat.beq i id) (kn fr σ) (ke i fr σ)) kr
  | .loop R L Lx b, _, ke, kr => fun fr σ => ∃ I : Nat → TCur (L.map kd), (∃ m, TCur.at (L.map kd) (I m) (fpick L fr) σ) ∧
      ∀ m, AllT (L.map kd) fun vs => ∀ σ, TCur.at (L.map kd) (I m) vs σ → xpc kd kp b (fun fr σ => ∃ m' < m, TCur.at (L.map kd) (I m') (fpick L fr) σ) (fun i fr σ => ke i (fmake Lx (fpick Lx fr)) σ) (fun fr σ => kr (fmake Lx (fpick Lx fr)) σ) (fadd R fr (fmake L vs)) σ
  | .exit i, _, ke, _ => ke i
  | .ret, _, _, kr => kr
  | .other _, _, _, _ => fun _ _ => False
  | .join L b, kn, ke, kr => xpc kd kp b (fun fr σ => kn (fmake L (fpick L fr)) σ) (fun i fr σ => ke i (fmake L (fpick L fr)) σ) (fun fr σ => kr (fmake L (fpick L fr)) σ)
end

section
variable {P : Program} {kp kp' : WK}
theorem wguard_mono {all : List Oper} {o : Oper} {md : GM} {y n y' n' : GM → FK} {fr : Fr} {σ : AHeap} (hy : ∀ md fr, y md fr σ → y' md fr σ) (hn : ∀ md fr, n md fr σ → n' md fr σ) (h : wguard all o md y n fr σ) : wguard all o md y' n' fr σ := by
  unfold wguard at h ⊢
  cases hg : o.guard with
  | none => rw [hg] at h; exact hy _ _ h
  | some p =>
    obtain ⟨j, want⟩ := p
    rw [hg] at h
    simp only at h ⊢
    cases hm : gmIs md j want with
    | some b => cases b <;> (rw [hm] at h; first | exact hy _ _ h | exact hn _ _ h)
    | none =>
      rw [hm] at h
      simp only at h ⊢
      cases ht : (all[j]?).bind (·.dst) with
      | none => rw [ht] at h; exact h.elim
      | some t =>
        rw [ht] at h
        simp only at h ⊢
        unfold wG at h ⊢
        split at h
        · cases want <;> first | exact hy _ _ h | exact hn _ _ h
        · cases want <;> first | exact hy _ _ h | exact hn _ _ h
        · exact ⟨h.1, hn _ _ h.2⟩
theorem EMono.ev : EMono (Ev P) := fun _ _ _ _ _ hq h => h.mono hq
theorem EMono.no : EMono (fun _ _ _ _ => False) := fun _ _ _ _ _ _ h => h
theorem xops_w (hkp : ∀ v σ, kp v σ → kp' v σ) {all : List Oper} {k k' : FK} (hk : ∀ fr σ, k fr σ → k' fr σ) : ∀ (os : List Oper) (md : GM) (fr : Fr) (σ : AHeap), xops P (Ev P) all kp os md k fr σ → wops P (Ev P) all kp' os md k' fr σ
  | [], _, fr, σ, h => hk _ _ h
  | o :: os, md, fr, σ, h => wguard_mono (fun md fr h => xval_w EMono.ev (fun v σ h => xops_w hkp hk os md _ σ h) hkp h) (fun md fr h => xops_w hkp hk os md _ σ h) h
theorem xre_w {all : List Oper} {k k' : FK} (hk : ∀ fr σ, k fr σ → k' fr σ) : ∀ (qs : List Nat) (fr : Fr) (σ : AHeap), xre P all qs k fr σ → wre P all qs k' fr σ
  | [], fr, σ, h => hk _ _ h
  | q :: qs, fr, σ, h => by
    simp only [xre] at h
    simp only [wre]
    cases ho : all[q]? with
    | none => rw [ho] at h; exact h.elim
    | some o =>
      rw [ho] at h
      refine wguard_mono (fun _ fr h => ?_) (fun _ fr h => xre_w hk qs fr σ h) h
      cases hd : o.dst with
      | none => rw [hd] at h; exact h.elim
      | some d =>
        rw [hd] at h
        simp only at h ⊢
        have hn : ∀ it, o.op ≠ .next it false := fun it hi => by simp only [wnx, hi] at h
        have hp : ∀ x, o.op ≠ .panic x := fun x hi => by simp only [wnx, hi] at h
        have hw : ∀ p : Prop, wnx o p = p := fun p => by
          unfold wnx
          split
          · rename_i it hi; exact absurd hi (hn it)
          · rename_i x hi; exact absurd hi (hp x)
          · rfl
        rw [hw] at h ⊢
        exact xval_w EMono.no (fun v σ' ⟨h1, h2⟩ => ⟨h1, xre_w hk qs fr σ h2⟩) (fun _ _ h => h) h
theorem xdops_w (hkp : ∀ v σ, kp v σ → kp' v σ) {all : List Oper} {k k' : FK} (hk : ∀ fr σ, k fr σ → k' fr σ) : ∀ (os : List (Nat × List Nat)) (md : GM) (fr : Fr) (σ : AHeap), xdops P (Ev P) all kp os md k fr σ → wdops P (Ev P) all kp' os md k' fr σ
  | [], _, fr, σ, h => hk _ _ h
  | (i, chk) :: os, md, fr, σ, h => by
    simp only [xdops] at h
    simp only [wdops]
    cases ho : all[i]? with
    | none => rw [ho] at h; exact h.elim
    | some o =>
      rw [ho] at h
      exact wguard_mono (fun md fr h => xval_w EMono.ev (fun v σ h => xre_w (fun fr σ h => xdops_w hkp hk os _ fr σ h) chk _ σ h) hkp h) (fun md fr h => xdops_w hkp hk os md _ σ h) h

theorem xpc_w (kd : Nat → VT) (hkp : ∀ v σ, kp v σ → kp' v σ) : ∀ (c : AC) {qn qn' : FK} {qe qe' : Nat → FK} {qr qr' : FK}, (∀ fr σ, qn fr σ → qn' fr σ) → (∀ i fr σ, qe i fr σ → qe' i fr σ) → (∀ fr σ, qr fr σ → qr' fr σ) →
    ∀ fr σ, xpc P (Ev P) kd kp c qn qe qr fr σ → wpc P (Ev P) kp' c qn' qe' qr' fr σ := by
  intro c
  induction c with
  | skip => intro _ _ _ _ _ _ hn he hr fr σ h; exact hn _ _ h
  | region id ops => intro _ _ _ _ _ _ hn he hr fr σ h; exact xops_w hkp hn ops none fr σ h
  | dregion id ops ord => intro _ _ _ _ _ _ hn he hr fr σ h; exact xdops_w hkp hn ord none fr σ h
  | seq a b iha ihb => intro _ _ _ _ _ _ hn he hr fr σ h; exact iha (ihb hn he hr) he hr fr σ h
  | cond c a b iha ihb =>
    intro _ _ _ _ _ _ hn he hr fr σ h
    simp only [xpc, wpc, wC] at h ⊢
    split at h
    · exact iha hn he hr _ _ h
    · exact ihb hn he hr _ _ h
    · exact h.elim
  | block id b ih =>
    intro qn qn' qe qe' qr qr' hn he hr fr σ h
    refine ih (qe := fun i fr σ => cond (Nat.beq i id) (qn fr σ) (qe i fr σ)) hn (fun i fr σ h => ?_) hr fr σ h
    cases hb : Nat.beq i id with
    | true => rw [hb] at h; exact hn _ _ h
    | false => rw [hb] at h; exact he i _ _ h
  | exit i => intro _ _ _ _ _ _ hn he hr fr σ h; exact he i _ _ h
  | ret => intro _ _ _ _ _ _ hn he hr fr σ h; exact hr _ _ h
  | other c => intro _ _ _ _ _ _ hn he hr fr σ h; exact h.elim
  | join L b ih =>
    intro _ _ _ _ _ _ hn he hr fr σ h
    exact ih (fun fr σ h => hn _ _ h) (fun i fr σ h => he i _ _ h) (fun fr σ h => hr _ _ h) fr σ h
  | loop R L Lx b ih =>
    intro qn qn' qe qe' qr qr' hn he hr fr σ h
    simp only [xpc] at h
    simp only [wpc]
    obtain ⟨I, ⟨m0, h0⟩, hI⟩ := h
    have hlen : ∀ fr : Fr, (fpick L fr).length = L.length := fun fr => by simp [fpick]
    refine ⟨fun m => Cur.of L (TCur.at (L.map kd) (I m)), ⟨m0, (Cur.at_of L _ _ _ (hlen fr)).2 h0⟩, fun m => AllC.of L _ fun vs hl σ hv => ?_⟩
    have hv' := (Cur.at_of L _ vs σ hl).1 hv
    have hb := AllT.at _ _ (hI m) vs (TCur.ok _ _ _ _ hv') σ hv'
    refine ih (fun fr σ h => ?_) (fun i fr σ h => he i _ _ h) (fun fr σ h => hr _ _ h) _ _ hb
    obtain ⟨m', h1, h2⟩ := h
    exact ⟨m', h1, (Cur.at_of L _ _ _ (hlen fr)).2 h2⟩
end

/-- What is asked of a function's body. -/
def xfn (P : Program) (E : EvT) (fn : Func) (h : Nat → Option Hint) (kd : Nat → VT) (args : List Value) (σ : AHeap) (Q : RK) : Prop :=
  cond (Nat.beq args.length (fn.params.size + fn.nfree)) (xpc P E kd (fun v σ => Q (.pan v) σ) (toAC h (fn.body.getD .skip) 0).1 (wret P fn.results.toList Q) (fun _ _ _ => False) (wret P fn.results.toList Q) (fmake (List.range (fn.params.size + fn.nfree)) args) σ) False
theorem Ev.xfn {P : Program} (hm : P.follows .mixedOrders = true) {f : FuncId} {fn : Func} (hf : P.funcs[f]? = some fn) (h : Nat → Option Hint) (kd : Nat → VT) (hc : fnChk fn h = true) {args : List Value} {σ : AHeap} {Q : RK} (hx : Go.Ax.xfn P (Ev P) fn h kd args σ Q) : Ev P f args σ Q := by
  refine Ev.fn hm hf h hc ?_
  unfold Go.Ax.xfn at hx
  unfold wfn
  cases hb : Nat.beq args.length (fn.params.size + fn.nfree) with
  | false => rw [hb] at hx; exact hx.elim
  | true =>
    rw [hb] at hx
    exact xpc_w kd (fun _ _ h => h) _ (fun _ _ h => h) (fun _ _ _ h => h) (fun _ _ h => h) _ _ hx
end Go.Ax
namespace Go.Ax
open Go.RowKit

/-- Of a block: is it owned (else it stays as it is for ever), and what it is. -/
abbrev Res := Nat → Option (Bool × AObj)
def Res.emp : Res := fun _ => none
/-- z is x and y together. -/
def J (x y z : Option (Bool × AObj)) : Prop := (x = none ∧ z = y) ∨ (y = none ∧ z = x) ∨ (∃ o, x = some (false, o) ∧ y = some (false, o) ∧ z = some (false, o))
theorem J.assoc {x y xy c r : Option (Bool × AObj)} (h : J x y xy) (k : J xy c r) : ∃ yc, J y c yc ∧ J x yc r := by
  rcases h with ⟨rfl, rfl⟩ | ⟨rfl, rfl⟩ | ⟨o, rfl, rfl, rfl⟩
  · exact ⟨r, k, .inl ⟨rfl, rfl⟩⟩
  · exact ⟨c, .inl ⟨rfl, rfl⟩, k⟩
  · rcases k with ⟨hx, _⟩ | ⟨rfl, rfl⟩ | ⟨o', hx, rfl, rfl⟩
    · cases hx
    · exact ⟨some (false, o), .inr (.inl ⟨rfl, rfl⟩), .inr (.inr ⟨o, rfl, rfl, rfl⟩)⟩
    · cases hx
      exact ⟨some (false, o), .inr (.inr ⟨o, rfl, rfl, rfl⟩), .inr (.inr ⟨o, rfl, rfl, rfl⟩)⟩
/-- r is a and b together. -/
def Res.Join (a b r : Res) : Prop := ∀ i, J (a i) (b i) (r i)
def Res.Of (r : Res) (σ : AHeap) : Prop := ∀ i q o, r i = some (q, o) → σ.get i = some o ∧ i < σ.size

abbrev Assn := Res → Prop
def sep (A B : Assn) : Assn := fun r => ∃ a b, Res.Join a b r ∧ A a ∧ B b
def emp : Assn := fun r => r = Res.emp
def pure' (p : Prop) : Assn := fun r => r = Res.emp ∧ p
def ex {α : Sort _} (A : α → Assn) : Assn := fun r => ∃ x, A x r
/-- A block that is owned. -/
def pt (b : Nat) (o : AObj) : Assn := fun r => r = fun i => if i = b then some (true, o) else none
/-- A block that stays as it is for ever. -/
def ro (b : Nat) (o : AObj) : Assn := fun r => r = fun i => if i = b then some (false, o) else none

theorem Res.Join.comm {a b r : Res} (h : Res.Join a b r) : Res.Join b a r := fun i => by
  rcases h i with ⟨x, y⟩ | ⟨x, y⟩ | ⟨o, x, y, z⟩
  · exact .inr (.inl ⟨x, y⟩)
  · exact .inl ⟨x, y⟩
  · exact .inr (.inr ⟨o, y, x, z⟩)
theorem Res.Join.emp_left (r : Res) : Res.Join Res.emp r r := fun _ => .inl ⟨rfl, rfl⟩
theorem Res.Join.emp_eq {b r : Res} (h : Res.Join Res.emp b r) : r = b := by
  funext i
  rcases h i with ⟨_, y⟩ | ⟨x, y⟩ | ⟨o, x, _⟩
  · exact y
  · rw [y, x]; rfl
  · cases x
theorem Res.Join.assoc {a b ab c r : Res} (h : Res.Join a b ab) (k : Res.Join ab c r) : ∃ bc, Res.Join b c bc ∧ Res.Join a bc r :=
  ⟨fun i => Classical.choose ((h i).assoc (k i)), fun i => (Classical.choose_spec ((h i).assoc (k i))).1, fun i => (Classical.choose_spec ((h i).assoc (k i))).2⟩
theorem sep_comm (A B : Assn) : sep A B = sep B A := by
  funext r; apply propext
  exact ⟨fun ⟨a, b, h, x, y⟩ => ⟨b, a, h.comm, y, x⟩, fun ⟨a, b, h, x, y⟩ => ⟨b, a, h.comm, y, x⟩⟩
theorem sep_assoc (A B C : Assn) : sep (sep A B) C = sep A (sep B C) := by
  funext r; apply propext
  constructor
  · rintro ⟨ab, c, h, ⟨a, b, k, x, y⟩, z⟩
    obtain ⟨bc, h1, h2⟩ := k.assoc h
    exact ⟨a, bc, h2, x, b, c, h1, y, z⟩
  · rintro ⟨a, bc, h, x, b, c, k, y, z⟩
    obtain ⟨ba, h1, h2⟩ := k.comm.assoc h.comm
    exact ⟨ba, c, h2.comm, ⟨a, b, h1.comm, x, y⟩, z⟩
theorem emp_sep (A : Assn) : sep emp A = A := by
  funext r; apply propext
  constructor
  · rintro ⟨a, b, h, rfl, y⟩; rw [h.emp_eq]; exact y
  · intro h; exact ⟨_, r, Res.Join.emp_left r, rfl, h⟩

def Star : List Assn → Assn
  | [] => emp
  | A :: l => sep A (Star l)
theorem Star_append (l m : List Assn) : Star (l ++ m) = sep (Star l) (Star m) := by
  induction l with
  | nil => simp [Star, emp_sep]
  | cons A l ih => simp [Star, ih, sep_assoc]
theorem Star_perm {l m : List Assn} (h : l.Perm m) : Star l = Star m := by
  induction h with
  | nil => rfl
  | cons x _ ih => simp [Star, ih]
  | swap x y l => simp only [Star]; rw [← sep_assoc, sep_comm y x, sep_assoc]
  | trans _ _ ih1 ih2 => rw [ih1, ih2]

/-- The heap has all of these, each for itself. -/
def H (l : List Assn) (σ : AHeap) : Prop := ∃ r, Res.Of r σ ∧ Star l r

theorem Res.Of.left {a b r : Res} {σ : AHeap} (h : Res.Of r σ) (j : Res.Join a b r) : Res.Of a σ := fun i q o ha => by
  rcases j i with ⟨x, y⟩ | ⟨x, y⟩ | ⟨o', x, y, z⟩
  · rw [x] at ha; cases ha
  · exact h i q o (by rw [y, ha])
  · rw [x] at ha; cases ha; exact h i _ _ z

theorem H.perm {l m : List Assn} {σ : AHeap} (h : H l σ) (p : l.Perm m) : H m σ := by
  obtain ⟨r, h1, h2⟩ := h; exact ⟨r, h1, by rw [← Star_perm p]; exact h2⟩
theorem H.left {l m : List Assn} {σ : AHeap} (h : H (l ++ m) σ) : H l σ := by
  obtain ⟨r, h1, h2⟩ := h
  rw [Star_append] at h2
  obtain ⟨a, b, j, x, y⟩ := h2
  exact ⟨a, h1.left j, x⟩
theorem H.nil (σ : AHeap) : H [] σ := ⟨Res.emp, (fun i q o h => by simp [Res.emp] at h), rfl⟩
theorem H.tail {A : Assn} {l : List Assn} {σ : AHeap} (h : H (A :: l) σ) : H l σ := (h.perm (by simpa using List.perm_append_comm (l₁ := [A]) (l₂ := l)) : H (l ++ [A]) σ).left
theorem H.second {A B : Assn} {l : List Assn} {σ : AHeap} (h : H (A :: B :: l) σ) : H (A :: l) σ :=
  (h.perm (List.Perm.cons A (by simpa using List.perm_append_comm (l₁ := [B]) (l₂ := l))) : H ((A :: l) ++ [B]) σ).left
theorem H.sub {l m : List Assn} {σ : AHeap} (h : H l σ) (p : m.Sublist l) : H m σ := by
  obtain ⟨k, hk⟩ := p.exists_perm_append
  exact (h.perm hk).left
/-- Parts one by one, by their places. -/
def picks (l : List Assn) (is : List Nat) : List Assn := is.map fun i => l.getD i emp
theorem Star_take : ∀ (l : List Assn) (i : Nat), Star l = sep (l.getD i emp) (Star (l.set i emp))
  | [], i => by simp [Star, emp_sep]
  | A :: l, 0 => by simp [Star, emp_sep]
  | A :: l, i + 1 => by
    simp only [Star, List.getD_cons_succ, List.set_cons_succ]
    rw [Star_take l i, ← sep_assoc, sep_comm A, sep_assoc]
theorem Star_set (l : List Assn) (i : Nat) (B : Assn) (h : i < l.length) : Star (l.set i B) = sep B (Star (l.set i emp)) := by
  rw [Star_take _ i, List.set_set]
  simp [List.getD, h]
theorem picks_star {l : List Assn} : ∀ (is : List Nat), is.Nodup → ∃ K, Star l = sep (Star (picks l is)) K
  | [], _ => ⟨Star l, by simp [picks, Star, emp_sep]⟩
  | i :: is, hn => by
    rw [List.nodup_cons] at hn
    obtain ⟨K, hK⟩ := picks_star (l := l.set i emp) is hn.2
    refine ⟨K, ?_⟩
    rw [Star_take l i, hK]
    have hp : picks (l.set i emp) is = picks l is := by
      unfold picks
      apply List.map_congr_left
      intro x hx
      have hx' : i ≠ x := fun e => hn.1 (e ▸ hx)
      simp [List.getD, List.getElem?_set, hx']
    rw [hp]
    show _ = sep (sep _ _) _
    rw [sep_assoc]
    rfl
theorem H.pick {l : List Assn} {σ : AHeap} (h : H l σ) (is : List Nat) (hn : is.Nodup) : H (picks l is) σ := by
  obtain ⟨K, hK⟩ := picks_star (l := l) is hn
  obtain ⟨r, h1, h2⟩ := h
  rw [hK] at h2
  obtain ⟨a, b, j, x, y⟩ := h2
  exact ⟨a, h1.left j, x⟩

theorem H.front {l : List Assn} {σ : AHeap} {A : Assn} (h : H l σ) (i : Nat) (hi : l[i]? = some A) : H (A :: l.set i emp) σ := by
  obtain ⟨r, h1, h2⟩ := h
  rw [Star_take l i] at h2
  simp only [List.getD, hi, Option.getD_some] at h2
  exact ⟨r, h1, h2⟩
theorem H.back {l : List Assn} {σ : AHeap} {A B : Assn} (i : Nat) (hi : l[i]? = some A) (h : H (B :: l.set i emp) σ) : H (l.set i B) σ := by
  have hlt := (List.getElem?_eq_some_iff.1 hi).1
  obtain ⟨r, h1, h2⟩ := h
  exact ⟨r, h1, by rw [Star_set l i B hlt]; exact h2⟩

/-! ### Opening and shutting at the head -/
theorem H_star {l m : List Assn} {σ : AHeap} : H (Star l :: m) σ ↔ H (l ++ m) σ := by
  unfold H; simp only [Star, Star_append]
theorem H_ex {α : Sort _} {A : α → Assn} {m : List Assn} {σ : AHeap} : H (ex A :: m) σ ↔ ∃ x, H (A x :: m) σ := by
  constructor
  · rintro ⟨r, h, a, b, j, ⟨x, hx⟩, hb⟩; exact ⟨x, r, h, a, b, j, hx, hb⟩
  · rintro ⟨x, r, h, a, b, j, hx, hb⟩; exact ⟨r, h, a, b, j, ⟨x, hx⟩, hb⟩
theorem H_pure {p : Prop} {m : List Assn} {σ : AHeap} : H (pure' p :: m) σ ↔ p ∧ H m σ := by
  constructor
  · rintro ⟨r, h, a, b, j, ⟨rfl, hp⟩, hb⟩; exact ⟨hp, r, h, by rw [j.emp_eq]; exact hb⟩
  · rintro ⟨hp, r, h, hb⟩; exact ⟨r, h, _, r, Res.Join.emp_left r, ⟨rfl, hp⟩, hb⟩
theorem H_emp {m : List Assn} {σ : AHeap} : H (emp :: m) σ ↔ H m σ := by
  unfold H; simp only [Star, emp_sep]
theorem H_sep {A B : Assn} {m : List Assn} {σ : AHeap} : H (sep A B :: m) σ ↔ H (A :: B :: m) σ := by
  unfold H; simp only [Star, sep_assoc]
theorem H.snoc {A : Assn} {l : List Assn} {σ : AHeap} (h : H (A :: l) σ) : H (l ++ [A]) σ := h.perm (by simpa using List.perm_append_comm (l₁ := [A]) (l₂ := l))
theorem H.unsnoc {A : Assn} {l : List Assn} {σ : AHeap} (h : H (l ++ [A]) σ) : H (A :: l) σ := h.perm (List.perm_append_comm (l₁ := l) (l₂ := [A]))

/-! ### Blocks -/
theorem H.get0 {b : Nat} {o : AObj} {l : List Assn} {σ : AHeap} (h : H (pt b o :: l) σ) : σ.get b = some o ∧ b < σ.size := by
  obtain ⟨r, h, a, c, j, rfl, hc⟩ := h
  exact (h.left j) b true o (by simp)
theorem H.rget0 {b : Nat} {o : AObj} {l : List Assn} {σ : AHeap} (h : H (ro b o :: l) σ) : σ.get b = some o ∧ b < σ.size := by
  obtain ⟨r, h, a, c, j, rfl, hc⟩ := h
  exact (h.left j) b false o (by simp)
theorem H.get {l : List Assn} {σ : AHeap} (h : H l σ) (i : Nat) {b : Nat} {o : AObj} (hi : l[i]? = some (pt b o)) : σ.get b = some o := (h.front i hi).get0.1
theorem H.rget {l : List Assn} {σ : AHeap} (h : H l σ) (i : Nat) {b : Nat} {o : AObj} (hi : l[i]? = some (ro b o)) : σ.get b = some o := (h.front i hi).rget0.1
theorem H.lt {l : List Assn} {σ : AHeap} (h : H l σ) (i : Nat) {b : Nat} {o : AObj} (hi : l[i]? = some (pt b o)) : b < σ.size := (h.front i hi).get0.2

theorem H.set0 {b : Nat} {o : AObj} {l : List Assn} {σ : AHeap} (h : H (pt b o :: l) σ) (o' : AObj) : H (pt b o' :: l) (σ.set b o') := by
  obtain ⟨r, h, a, c, j, rfl, hc⟩ := h
  refine ⟨fun i => if i = b then some (true, o') else r i, ?_, fun i => if i = b then some (true, o') else none, c, ?_, rfl, hc⟩
  · intro i q x hx
    simp only at hx
    rw [AHeap.get_set]
    split at hx
    · rename_i e; subst e; cases hx
      exact ⟨by simp, ((h.left j) i true o (by simp)).2⟩
    · rename_i e
      rw [if_neg e]; exact h i q x hx
  · intro i
    have hj := j i
    by_cases e : i = b
    · subst e
      simp only [if_pos]
      simp only [if_pos] at hj
      rcases hj with ⟨x, _⟩ | ⟨x, _⟩ | ⟨_, x, _⟩
      · cases x
      · exact .inr (.inl ⟨x, rfl⟩)
      · cases x
    · simp only [if_neg e] at hj ⊢
      exact hj
theorem H.set {l : List Assn} {σ : AHeap} (h : H l σ) (i : Nat) {b : Nat} {o : AObj} (hi : l[i]? = some (pt b o)) (o' : AObj) : H (l.set i (pt b o')) (σ.set b o') := H.back i hi ((h.front i hi).set0 o')

theorem H.push {l : List Assn} {σ : AHeap} (h : H l σ) (o : AObj) : H (l ++ [pt σ.size o]) (σ.push o) := by
  refine H.snoc ?_
  obtain ⟨r, h, hl⟩ := h
  have hfree : r σ.size = none := by
    cases hr : r σ.size with
    | none => rfl
    | some x => obtain ⟨q, y⟩ := x; have := (h _ q y hr).2; omega
  refine ⟨fun i => if i = σ.size then some (true, o) else r i, ?_, fun i => if i = σ.size then some (true, o) else none, r, ?_, rfl, hl⟩
  · intro i q x hx
    simp only at hx
    rw [AHeap.get_push]
    split at hx
    · rename_i e; subst e; cases hx; exact ⟨by simp, by simp⟩
    · rename_i e; rw [if_neg e]; exact ⟨(h i q x hx).1, by have := (h i q x hx).2; simp; omega⟩
  · intro i
    by_cases e : i = σ.size
    · subst e; simp [hfree]; exact .inr (.inl ⟨rfl, rfl⟩)
    · simp [e]; exact .inl ⟨rfl, rfl⟩

theorem H.freeze0 {b : Nat} {o : AObj} {l : List Assn} {σ : AHeap} (h : H (pt b o :: l) σ) : H (ro b o :: l) σ := by
  obtain ⟨r, h, a, c, j, rfl, hc⟩ := h
  refine ⟨fun i => if i = b then some (false, o) else r i, ?_, fun i => if i = b then some (false, o) else none, c, ?_, rfl, hc⟩
  · intro i q x hx
    simp only at hx
    split at hx
    · rename_i e; subst e; cases hx; exact (h.left j) i true o (by simp)
    · exact h i q x hx
  · intro i
    have hj := j i
    by_cases e : i = b
    · subst e
      simp only [if_pos]
      simp only [if_pos] at hj
      rcases hj with ⟨x, _⟩ | ⟨x, _⟩ | ⟨_, x, _⟩
      · cases x
      · exact .inr (.inl ⟨x, rfl⟩)
      · cases x
    · simp only [if_neg e] at hj ⊢
      exact hj
theorem H.freeze {l : List Assn} {σ : AHeap} (h : H l σ) (i : Nat) {b : Nat} {o : AObj} (hi : l[i]? = some (pt b o)) : H (l.set i (ro b o)) σ := H.back i hi (h.front i hi).freeze0
theorem ro_dup (b : Nat) (o : AObj) : sep (ro b o) (ro b o) = ro b o := by
  funext r; apply propext
  constructor
  · rintro ⟨a, c, j, rfl, rfl⟩
    funext i
    rcases j i with ⟨x, y⟩ | ⟨x, y⟩ | ⟨o', x, y, z⟩
    · exact y
    · exact y
    · simp only at x z
      split at x
      · cases x; rename_i e; rw [z, if_pos e]
      · cases x
  · rintro rfl
    refine ⟨_, _, fun i => ?_, rfl, rfl⟩
    by_cases e : i = b
    · exact .inr (.inr ⟨o, by simp [e], by simp [e], by simp [e]⟩)
    · exact .inl ⟨by simp [e], rfl⟩
/-- An assertion that can be had twice. -/
def Dup (A : Assn) : Prop := ∀ r, A r → sep A A r
theorem Dup.ro (b : Nat) (o : AObj) : Dup (ro b o) := fun r h => by rw [ro_dup]; exact h
theorem Dup.pure (p : Prop) : Dup (pure' p) := by
  rintro r ⟨rfl, hp⟩; exact ⟨_, _, Res.Join.emp_left _, ⟨rfl, hp⟩, ⟨rfl, hp⟩⟩
theorem Dup.emp : Dup emp := fun r h => by rw [emp_sep]; exact h
theorem Dup.ex {α : Sort _} {A : α → Assn} (h : ∀ x, Dup (A x)) : Dup (ex A) := by
  rintro r ⟨x, hx⟩
  obtain ⟨a, b, j, ha, hb⟩ := h x r hx
  exact ⟨a, b, j, ⟨x, ha⟩, ⟨x, hb⟩⟩
theorem Dup.sep {A B : Assn} (h : Dup A) (k : Dup B) : Dup (sep A B) := by
  rintro r ⟨a, b, j, ha, hb⟩
  have e : Ax.sep (Ax.sep A B) (Ax.sep A B) = Ax.sep (Ax.sep A A) (Ax.sep B B) := by
    rw [sep_assoc, ← sep_assoc B A B, sep_comm B A, sep_assoc A B B, ← sep_assoc]
  rw [e]
  exact ⟨a, b, j, h a ha, k b hb⟩
theorem Dup.star : ∀ {l : List Assn}, (∀ A ∈ l, Dup A) → Dup (Star l)
  | [], _ => Dup.emp
  | A :: l, h => Dup.sep (h A (by simp)) (Dup.star fun B hB => h B (by simp [hB]))
theorem H.dup0 {l : List Assn} {σ : AHeap} {A : Assn} (h : H (A :: l) σ) (hd : Dup A) : H (A :: A :: l) σ := by
  rw [← H_sep]
  obtain ⟨r, h, a, b, j, x, y⟩ := h
  exact ⟨r, h, a, b, j, hd a x, y⟩
theorem H.dup {l : List Assn} {σ : AHeap} (h : H l σ) (i : Nat) {A : Assn} (hi : l[i]? = some A) (hd : Dup A) : H (l ++ [A]) σ := by
  have h1 := h.front i hi
  have h2 : H (A :: A :: l.set i emp) σ := h1.dup0 hd
  have hlt := (List.getElem?_eq_some_iff.1 hi).1
  have hs : l.set i A = l := by
    apply List.ext_getElem?
    intro j
    rw [List.getElem?_set]
    split
    · rename_i e; subst e; exact hi.symm
    · rfl
  obtain ⟨r, g1, g2⟩ := h2
  refine H.snoc ⟨r, g1, ?_⟩
  have : Star (A :: l) = sep A (sep A (Star (l.set i emp))) := by
    show sep A (Star l) = _
    conv => lhs; rw [← hs]
    rw [Star_set l i A hlt]
  rw [this]; exact g2
/-- Two blocks that are owned are two. -/
theorem H.ne2 {l : List Assn} {σ : AHeap} {b c : Nat} {o p : AObj} (h : H (pt b o :: pt c p :: l) σ) : b ≠ c := by
  rintro rfl
  obtain ⟨r, h, a, d, j, rfl, a2, d2, j2, rfl, hd⟩ := h
  have h2 : d b ≠ none := by
    rcases j2 b with ⟨x, y⟩ | ⟨x, y⟩ | ⟨_, _, _, z⟩
    · simp at x
    · rw [y]; simp
    · rw [z]; simp
  rcases j b with ⟨x, _⟩ | ⟨x, _⟩ | ⟨_, x, _⟩
  · simp at x
  · exact h2 x
  · simp at x
end Go.Ax
namespace Go.Ax
open Go.RowKit

/-! ### Only what stands ahead is worked out -/
@[congr] theorem pu_congr {α : Type} {o o' : Option α} {k : α → Prop} (h : o = o') : pu o k = pu o' k := by rw [h]
@[congr] theorem wC_congr {v v' : Value} {a b : Prop} (h : v = v') : wC v a b = wC v' a b := by rw [h]
@[congr] theorem wB_congr {v v' : Value} {k : Bool → Prop} (h : v = v') : wB v k = wB v' k := by rw [h]
@[congr] theorem wG_congr {v v' : Value} {a b c : Prop} (h : v = v') : wG v a b c = wG v' a b c := by rw [h]
@[congr] theorem wF_congr {v v' : Value} {k : FuncId → List Value → List Value → Prop} (h : v = v') : wF v k = wF v' k := by rw [h]
@[congr] theorem wNew_congr {σ σ' : AHeap} {o o' : AObj} {k : Nat → AHeap → Prop} (h : σ = σ') (g : o = o') : wNew σ o k = wNew σ' o' k := by rw [h, g]
@[congr] theorem Ev_congr {P : Program} {f : FuncId} {a a' : List Value} {σ σ' : AHeap} {Q : RK} (h : a = a') (g : σ = σ') : Ev P f a σ Q = Ev P f a' σ' Q := by rw [h, g]

@[simp] theorem pu_some {α : Type} (v : α) (k : α → Prop) : pu (some v) k = k v := propext ⟨fun ⟨_, h, hk⟩ => by cases h; exact hk, fun h => ⟨v, rfl, h⟩⟩
@[simp] theorem pu_none {α : Type} (k : α → Prop) : pu none k = False := propext ⟨(fun ⟨_, h, _⟩ => by cases h), False.elim⟩
@[simp] theorem wC_true (a b : Prop) : wC (.bool true) a b = a := rfl
@[simp] theorem wC_false (a b : Prop) : wC (.bool false) a b = b := rfl
@[simp] theorem wG_true (a b c : Prop) : wG (.bool true) a b c = a := rfl
@[simp] theorem wG_false (a b c : Prop) : wG (.bool false) a b c = b := rfl
@[simp] theorem wB_bool (b : Bool) (k : Bool → Prop) : wB (.bool b) k = k b := rfl
@[simp] theorem wF_func (g : FuncId) (a c : Array Value) (k : FuncId → List Value → List Value → Prop) : wF (.func (.func g) a c) k = k g a.toList c.toList := rfl

theorem wC_iff {b : Bool} {x y : Prop} (h1 : b = true → x) (h2 : b = false → y) : wC (.bool b) x y := by cases b; exact h2 rfl; exact h1 rfl
theorem wC_dec {p : Prop} [Decidable p] {x y : Prop} (h1 : p → x) (h2 : ¬ p → y) : wC (.bool (decide p)) x y := wC_iff (fun h => h1 (by simpa using h)) fun h => h2 (by simpa using h)
theorem wG_iff {b : Bool} {x y z : Prop} (h1 : b = true → x) (h2 : b = false → y) : wG (.bool b) x y z := by cases b; exact h2 rfl; exact h1 rfl
theorem wG_dec {p : Prop} [Decidable p] {x y z : Prop} (h1 : p → x) (h2 : ¬ p → y) : wG (.bool (decide p)) x y z := wG_iff (fun h => h1 (by simpa using h)) fun h => h2 (by simpa using h)

def one (v : Value) : Bool := v.oneCell'
/-! ### Values whose form is seen -/
section
variable (n : Int) (n2 c : Nat) (x y : Array Value) (v : Value)
@[simp] theorem live_bool (b : Bool) : live (.bool b) = true := rfl
@[simp] theorem one_bool (b : Bool) : one (.bool b) = true := rfl
@[simp] theorem cells_bool (b : Bool) : Value.cells (.bool b) = #[.bool b] := rfl
@[simp] theorem live_int (k : IntKind) : live (.int k n) = true := rfl
@[simp] theorem one_int (k : IntKind) : one (.int k n) = true := rfl
@[simp] theorem cells_int (k : IntKind) : Value.cells (.int k n) = #[.int k n] := rfl
@[simp] theorem live_string (s : ByteArray) : live (.string s) = true := rfl
@[simp] theorem one_string (s : ByteArray) : one (.string s) = true := rfl
@[simp] theorem cells_string (s : ByteArray) : Value.cells (.string s) = #[.string s] := rfl
@[simp] theorem live_pointer (a : Option Addr) : live (.pointer a) = true := rfl
@[simp] theorem one_pointer (a : Option Addr) : one (.pointer a) = true := rfl
@[simp] theorem cells_pointer (a : Option Addr) : Value.cells (.pointer a) = #[.pointer a] := rfl
@[simp] theorem live_slice (a : Option Addr) : live (.slice a n2 c) = true := rfl
@[simp] theorem one_slice (a : Option Addr) : one (.slice a n2 c) = true := rfl
@[simp] theorem cells_slice (a : Option Addr) : Value.cells (.slice a n2 c) = #[.slice a n2 c] := rfl
@[simp] theorem live_map (r : Option Nat) : live (.map r) = true := rfl
@[simp] theorem one_map (r : Option Nat) : one (.map r) = true := rfl
@[simp] theorem cells_map (r : Option Nat) : Value.cells (.map r) = #[.map r] := rfl
@[simp] theorem live_func (f : Fn) : live (.func f x y) = true := rfl
@[simp] theorem one_func (f : Fn) : one (.func f x y) = true := rfl
@[simp] theorem cells_func (f : Fn) : Value.cells (.func f x y) = #[.func f x y] := rfl
@[simp] theorem live_nilFunc : live (.nilFunc) = true := rfl
@[simp] theorem one_nilFunc : one (.nilFunc) = true := rfl
@[simp] theorem cells_nilFunc : Value.cells (.nilFunc) = #[.nilFunc] := rfl
@[simp] theorem live_nilIface : live (.nilIface) = true := rfl
@[simp] theorem one_nilIface : one (.nilIface) = true := rfl
@[simp] theorem cells_nilIface : Value.cells (.nilIface) = #[.nilIface] := rfl
@[simp] theorem live_iface (t : TypeId) : live (.iface t v) = true := rfl
@[simp] theorem one_iface (t : TypeId) : one (.iface t v) = true := rfl
@[simp] theorem cells_iface (t : TypeId) : Value.cells (.iface t v) = #[.iface t v] := rfl
@[simp] theorem live_agg : live (.agg x) = true := rfl
@[simp] theorem cells_agg : Value.cells (.agg x) = x := rfl
end
theorem splice_at (c l : List Value) (o : Nat) : splice c o l = c.take o ++ l ++ c.drop (o + l.length) := rfl
/-! ### Numbers -/
section
variable (d : Option TypeDesc) (k : IntKind) (a b : Int)
@[simp] theorem bin_add : aBin d .add (.int k a) (.int k b) = some (.int k (k.wrap (a + b))) := by simp [aBin, aInt]
@[simp] theorem bin_sub : aBin d .sub (.int k a) (.int k b) = some (.int k (k.wrap (a - b))) := by simp [aBin, aInt]
@[simp] theorem bin_mul : aBin d .mul (.int k a) (.int k b) = some (.int k (k.wrap (a * b))) := by simp [aBin, aInt]
@[simp] theorem bin_quo : aBin d .quo (.int k a) (.int k b) = if b = 0 then none else some (.int k (k.wrap (a.tdiv b))) := by simp [aBin, aInt]
@[simp] theorem bin_rem : aBin d .rem (.int k a) (.int k b) = if b = 0 then none else some (.int k (a.tmod b)) := by simp [aBin, aInt]
@[simp] theorem bin_and : aBin d .and (.int k a) (.int k b) = some (.int k (k.wrap (BitVec.ofInt k.bits a &&& BitVec.ofInt k.bits b).toNat)) := by simp [aBin, aInt]
@[simp] theorem bin_or : aBin d .or (.int k a) (.int k b) = some (.int k (k.wrap (BitVec.ofInt k.bits a ||| BitVec.ofInt k.bits b).toNat)) := by simp [aBin, aInt]
@[simp] theorem bin_xor : aBin d .xor (.int k a) (.int k b) = some (.int k (k.wrap (BitVec.ofInt k.bits a ^^^ BitVec.ofInt k.bits b).toNat)) := by simp [aBin, aInt]
@[simp] theorem bin_eql : aBin d .eql (.int k a) (.int k b) = some (.bool (decide (a = b))) := by
  simp only [aBin, if_true, aInt]
  rw [show (a == b) = decide (a = b) from by by_cases h : a = b <;> simp [h]]
@[simp] theorem bin_neq : aBin d .neq (.int k a) (.int k b) = some (.bool (decide (a ≠ b))) := by
  simp only [aBin, if_true, aInt, bne, decide_not]
  rw [show (a == b) = decide (a = b) from by by_cases h : a = b <;> simp [h]]
@[simp] theorem bin_lss : aBin d .lss (.int k a) (.int k b) = some (.bool (decide (a < b))) := by simp [aBin, aInt]
@[simp] theorem bin_leq : aBin d .leq (.int k a) (.int k b) = some (.bool (decide (a ≤ b))) := by simp [aBin, aInt]
@[simp] theorem bin_gtr : aBin d .gtr (.int k a) (.int k b) = some (.bool (decide (b < a))) := by simp [aBin, aInt]
@[simp] theorem bin_geq : aBin d .geq (.int k a) (.int k b) = some (.bool (decide (b ≤ a))) := by simp [aBin, aInt]
end
@[simp] theorem bin_beq (a b : Bool) : aBin (some .bool) .eql (.bool a) (.bool b) = some (.bool (a == b)) := rfl
@[simp] theorem bin_bne (a b : Bool) : aBin (some .bool) .neq (.bool a) (.bool b) = some (.bool (!(a == b))) := rfl
@[simp] theorem bin_peq0 (t : TypeId) (b : Option Addr) : aBin (some (.pointer t)) .eql (.pointer none) (.pointer b) = some (.bool b.isNone) := rfl
@[simp] theorem bin_peq1 (t : TypeId) (a : Addr) : aBin (some (.pointer t)) .eql (.pointer (some a)) (.pointer none) = some (.bool false) := rfl
@[simp] theorem bin_pne0 (t : TypeId) (b : Option Addr) : aBin (some (.pointer t)) .neq (.pointer none) (.pointer b) = some (.bool !b.isNone) := rfl
@[simp] theorem bin_pne1 (t : TypeId) (a : Addr) : aBin (some (.pointer t)) .neq (.pointer (some a)) (.pointer none) = some (.bool true) := rfl
@[simp] theorem bin_seq0 (t : TypeId) (l c : Nat) (b : Option Addr) (m d : Nat) : aBin (some (.slice t)) .eql (.slice none l c) (.slice b m d) = some (.bool b.isNone) := rfl
@[simp] theorem bin_seq1 (t : TypeId) (a : Addr) (l c m d : Nat) : aBin (some (.slice t)) .eql (.slice (some a) l c) (.slice none m d) = some (.bool false) := rfl
@[simp] theorem bin_sne0 (t : TypeId) (l c : Nat) (b : Option Addr) (m d : Nat) : aBin (some (.slice t)) .neq (.slice none l c) (.slice b m d) = some (.bool !b.isNone) := rfl
@[simp] theorem bin_sne1 (t : TypeId) (a : Addr) (l c m d : Nat) : aBin (some (.slice t)) .neq (.slice (some a) l c) (.slice none m d) = some (.bool true) := rfl
@[simp] theorem un_not (b : Bool) : aUn .not (.bool b) = some (.bool !b) := rfl
@[simp] theorem un_neg (k : IntKind) (n : Int) : aUn .neg (.int k n) = some (.int k (k.wrap (0 - n))) := rfl
@[simp] theorem conv_int (k k' : IntKind) (n : Int) : convI k (.int k' n) = some (.int k (k.wrap n)) := rfl
@[simp] theorem min2 (k k' : IntKind) (a b : Int) : aMin2 (.int k a) (.int k' b) = some (.int k (if b < a then b else a)) := rfl
@[simp] theorem max2 (k k' : IntKind) (a b : Int) : aMax2 (.int k a) (.int k' b) = some (.int k (if b > a then b else a)) := rfl
@[simp] theorem lenS_slice (a : Option Addr) (n c : Nat) : lenS (.slice a n c) = some (.int .i64 n) := rfl
@[simp] theorem lenStr_string (s : ByteArray) : lenStr (.string s) = some (.int .i64 s.size) := rfl

/-- A number that fits is not changed. -/
theorem wrap_i64 {n : Int} (h : -9223372036854775808 ≤ n ∧ n < 9223372036854775808) : IntKind.i64.wrap n = n := by
  simp [IntKind.wrap, IntKind.bits, IntKind.signed]; omega
theorem wrap_u8 {n : Int} (h : 0 ≤ n ∧ n < 256) : IntKind.u8.wrap n = n := by
  simp [IntKind.wrap, IntKind.bits, IntKind.signed]; omega
theorem wrap_u32 {n : Int} (h : 0 ≤ n ∧ n < 4294967296) : IntKind.u32.wrap n = n := by
  simp [IntKind.wrap, IntKind.bits, IntKind.signed]; omega
theorem wrap_u64 {n : Int} (h : 0 ≤ n ∧ n < 18446744073709551616) : IntKind.u64.wrap n = n := by
  simp [IntKind.wrap, IntKind.bits, IntKind.signed]; omega

/-! ### Pointers, parts -/
@[simp] theorem nil_ptr (a : Addr) : aNil (.pointer (some a)) = some (.pointer (some a)) := rfl
@[simp] theorem nil_func (f : FuncId) (p q : Array Value) : aNil (.func (.func f) p q) = some (.func (.func f) p q) := rfl
@[simp] theorem fieldAddr_ptr (off : Nat) (b o : Nat) : aFieldAddr off (.pointer (some ⟨b, o, none⟩)) = some (.pointer (some ⟨b, o + off, none⟩)) := by
  simp only [aFieldAddr, Addr.add]
  split
  · rename_i h; subst h; rfl
  · rfl
theorem add_mk (b o n : Nat) : (⟨b, o, none⟩ : Addr).add n = ⟨b, o + n, none⟩ := by
  simp only [Addr.add]
  split
  · rename_i h; subst h; rfl
  · rfl
theorem idxA {z b o l c : Nat} {k : IntKind} {i : Int} (h : 0 ≤ i ∧ i < l) : aIndexAddr z (.slice (some ⟨b, o, none⟩) l c) (.int k i) = some (.pointer (some ⟨b, o + i.toNat * z, none⟩)) := by
  simp only [aIndexAddr, if_pos h, add_mk]
theorem idxAA {n z b o : Nat} {k : IntKind} {i : Int} (h : 0 ≤ i ∧ i < n) : aIndexAddrArr n z (.pointer (some ⟨b, o, none⟩)) (.int k i) = some (.pointer (some ⟨b, o + i.toNat * z, none⟩)) := by
  simp only [aIndexAddrArr, if_pos h, add_mk]
@[simp] theorem extract0 (a b : Value) : aExtract (.tuple #[a, b]) 0 = some a := by simp [aExtract]
@[simp] theorem extract1 (a b : Value) : aExtract (.tuple #[a, b]) 1 = some b := by simp [aExtract]
@[simp] theorem extract30 (a b c : Value) : aExtract (.tuple #[a, b, c]) 0 = some a := by simp [aExtract]
@[simp] theorem extract31 (a b c : Value) : aExtract (.tuple #[a, b, c]) 1 = some b := by simp [aExtract]
@[simp] theorem extract32 (a b c : Value) : aExtract (.tuple #[a, b, c]) 2 = some c := by simp [aExtract]

/-! ### Reading -/
theorem row_cells {σ : AHeap} {b : Nat} {c : List Value} {e : TypeId} {opn : Bool} (h : σ.get b = some (.cells c e opn)) : σ.row b = some c := by simp [AHeap.row, h]
theorem row_ro {σ : AHeap} {b : Nat} {c : List Value} {e : TypeId} (h : σ.get b = some (.ro c e)) : σ.row b = some c := by simp [AHeap.row, h]
theorem load1 {σ : AHeap} {b o n : Nat} {c : List Value} (h : σ.row b = some c) : aLoad false n (.pointer (some ⟨b, o, none⟩)) σ = c[o]? := by simp [aLoad, h]
theorem loadN {σ : AHeap} {b o n : Nat} {c : List Value} (h : σ.row b = some c) (hl : o + n ≤ c.length) : aLoad true n (.pointer (some ⟨b, o, none⟩)) σ = some (.agg ((c.drop o).take n).toArray) := by
  cases n with
  | zero => simp [aLoad, seg]
  | succ n =>
    have hb : Nat.ble (o + (n + 1)) c.length = true := Nat.ble_eq_true_of_le hl
    simp [aLoad, seg, h, hb]

/-- A block's row: read off what is had. -/
theorem H.row {l : List Assn} {σ : AHeap} (h : H l σ) (i : Nat) {b : Nat} {c : List Value} {e : TypeId} {opn : Bool} (hi : l[i]? = some (pt b (.cells c e opn))) : σ.row b = some c := row_cells (h.get i hi)
theorem H.rowr {l : List Assn} {σ : AHeap} (h : H l σ) (i : Nat) {b : Nat} {c : List Value} {e : TypeId} {opn : Bool} (hi : l[i]? = some (ro b (.cells c e opn))) : σ.row b = some c := row_cells (h.rget i hi)
theorem H.rowo {l : List Assn} {σ : AHeap} (h : H l σ) (i : Nat) {b : Nat} {c : List Value} {e : TypeId} (hi : l[i]? = some (ro b (.ro c e))) : σ.row b = some c := row_ro (h.rget i hi)

/-! ### New blocks, stores -/
theorem new_ok {l : List Assn} {σ : AHeap} {o : AObj} {k : Nat → AHeap → Prop} (h : H l σ) (hk : ∀ b σ', H (l ++ [pt b o]) σ' → k b σ') : wNew σ o k := hk _ _ (h.push o)

theorem one_live {v : Value} (h : one v = true) : live v = true ∧ v.cells = #[v] := by cases v <;> simp_all [one, live, Value.oneCell', Value.cells]
theorem splice_one (c : List Value) (o : Nat) (v : Value) (h : o < c.length) : splice c o [v] = c.set o v := by
  apply List.ext_getElem?
  intro j
  simp only [splice, List.getElem?_set]
  rcases Nat.lt_trichotomy j o with g | g | g
  · rw [if_neg (by omega), List.append_assoc, List.getElem?_append_left (by simp; omega), List.getElem?_take, if_pos g]
  · subst g
    rw [if_pos rfl, if_pos h, List.append_assoc, List.getElem?_append_right (by simp; omega)]
    simp [Nat.min_eq_left (Nat.le_of_lt h)]
  · rw [if_neg (by omega), List.getElem?_append_right (by simp; omega)]
    simp
    congr 1; omega
theorem store1 {l : List Assn} {σ : AHeap} (h : H l σ) (i : Nat) {b o : Nat} {c : List Value} {e : TypeId} {opn : Bool} {v : Value} {k : AHeap → Prop} (hi : l[i]? = some (pt b (.cells c e opn))) (hv : one v = true) (ho : o < c.length)
    (hk : ∀ σ', H (l.set i (pt b (.cells (c.set o v) e opn))) σ' → k σ') : pu (aStore 1 (.pointer (some ⟨b, o, none⟩)) v σ) k := by
  obtain ⟨h1, h2⟩ := one_live hv
  have hb : Nat.ble (o + 1) c.length = true := Nat.ble_eq_true_of_le ho
  have he : aStore 1 (.pointer (some ⟨b, o, none⟩)) v σ = some (σ.set b (.cells (c.set o v) e opn)) := by
    have hv' : v.oneCell' = true := hv
    simp [aStore, h1, h2, aPoke, h.get i hi, hb, splice_one c o v ho, hv']
  rw [he, pu_some]
  exact hk _ (h.set i hi _)
theorem storeN {l : List Assn} {σ : AHeap} (h : H l σ) (i : Nat) {b o n : Nat} {c vs : List Value} {e : TypeId} {opn : Bool} {k : AHeap → Prop} (hi : l[i]? = some (pt b (.cells c e opn))) (hn : vs.length = n) (hpos : 0 < n) (hv : vs.all one = true) (ho : o + n ≤ c.length)
    (hk : ∀ σ', H (l.set i (pt b (.cells (splice c o vs) e opn))) σ' → k σ') : pu (aStore n (.pointer (some ⟨b, o, none⟩)) (.agg vs.toArray) σ) k := by
  have hb : Nat.ble (o + vs.length) c.length = true := Nat.ble_eq_true_of_le (by omega)
  have he : aStore n (.pointer (some ⟨b, o, none⟩)) (.agg vs.toArray) σ = some (σ.set b (.cells (splice c o vs) e opn)) := by
    have hs : (Nat.beq vs.length n) = true := by rw [hn]; exact Nat.beq_refl n
    simp only [aStore, live, Value.cells, List.size_toArray, hs, Bool.true_and, cond_true]
    cases vs with
    | nil => simp at hn; omega
    | cons v vs =>
      simp only [aPoke, h.get i hi]
      have hv' : ((v :: vs).all Value.oneCell' && Nat.ble (o + (v :: vs).length) c.length) = true := by
        rw [hb, Bool.and_true]; exact hv
      rw [hv']; rfl
  rw [he, pu_some]
  exact hk _ (h.set i hi _)

/-! ### Bytes -/
def by8 (b : UInt8) : Value := .int .u8 (b.toNat : Int)
def bv (l : List UInt8) : List Value := l.map by8
@[simp] theorem bv_length (l : List UInt8) : (bv l).length = l.length := by simp [bv]
@[simp] theorem bv_append (l m : List UInt8) : bv (l ++ m) = bv l ++ bv m := by simp [bv]
@[simp] theorem bv_take (l : List UInt8) (n : Nat) : (bv l).take n = bv (l.take n) := by simp [bv]
@[simp] theorem bv_drop (l : List UInt8) (n : Nat) : (bv l).drop n = bv (l.drop n) := by simp [bv]
@[simp] theorem bv_nil : bv [] = [] := rfl
@[simp] theorem bv_cons (b : UInt8) (l : List UInt8) : bv (b :: l) = by8 b :: bv l := rfl
theorem bv_get (l : List UInt8) (i : Nat) : (bv l)[i]? = l[i]?.map by8 := by simp [bv]
theorem bv_one (l : List UInt8) : (bv l).all one = true := by simp [bv, by8, one, Value.oneCell']
theorem bv_set (l : List UInt8) (i : Nat) (b : UInt8) : (bv l).set i (by8 b) = bv (l.set i b) := by simp [bv, List.map_set]
theorem splice_bv (l m : List UInt8) (o : Nat) : splice (bv l) o (bv m) = bv (l.take o ++ m ++ l.drop (o + m.length)) := by simp [splice]
theorem by8_lt (b : UInt8) : (0 : Int) ≤ (b.toNat : Int) ∧ (b.toNat : Int) < 256 := by have := b.toNat_lt; omega

@[simp] theorem ble_dec (a b : Nat) : Nat.ble a b = decide (a ≤ b) := by
  rw [Bool.eq_iff_iff]; simp
@[simp] theorem beq_dec (a b : Nat) : Nat.beq a b = decide (a = b) := by
  rw [Bool.eq_iff_iff]; simp
@[simp] theorem blt_dec (a b : Nat) : Nat.blt a b = decide (a < b) := by
  rw [Bool.eq_iff_iff]; simp [Nat.blt]; omega
attribute [simp] buildR buildA aFill
end Go.Ax
