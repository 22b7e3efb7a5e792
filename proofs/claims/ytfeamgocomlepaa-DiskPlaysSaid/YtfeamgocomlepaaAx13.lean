/- What the abstract interpreter comes to is what the machine comes to: code, loops, calls. No statement of the seat is proved here. -/
import Derived.Test.YtfeamgocomlepaaAxF
namespace Go.Ax
open Go.RowKit

def AC.wf (N : Nat) : AC → Bool
  | .skip | .exit _ | .ret => true
  | .region _ ops => ops.all (dstOk N)
  | .dregion _ ops ord => dOk N ops ord
  | .other _ => false
  | .seq a b => a.wf N && b.wf N
  | .cond _ a b => a.wf N && b.wf N
  | .block _ b | .loop _ _ b | .join _ b => b.wf N

section
variable {P : Program} {B : Nat} {w0 : World} {N : Nat}

theorem acode_sound (hm : P.follows .mixedOrders = true) {call : CallF} (hcall : CallOk P call) (n : Nat) : ∀ (c : AC), c.wf N = true → ∀ {β : Type} (kn : K β) (ke : Nat → K β) (kr : K β) (R : List β) (Q : Exit → Act → World → Prop) ρ fr σ a w R',
    KS B w0 N ρ R kn (Q .normal) → (∀ i, KS B w0 N ρ R (ke i) (Q (.exit i))) → KS B w0 N ρ R kr (Q .ret) →
    FR N ρ fr a → Rel B w0 ρ σ w → acode P call n c kn ke kr fr σ = some R' → (∀ r ∈ R', r ∈ R) → c.erase.wp P Q a w := by
  intro c
  induction c with
  | skip =>
    intro _ β kn ke kr R Q ρ fr σ a w R' hn he hr hf h hx hR
    exact wp_skip (hn ρ fr σ a w R' (Ext.refl _) hf h hx hR)
  | region id ops =>
    intro hwf β kn ke kr R Q ρ fr σ a w R' hn he hr hf h hx hR
    refine wp_region ?_
    have := aops_sound hcall (all := ops) ops 0 rfl (fun o ho => List.all_eq_true.1 hwf o ho) ρ fr σ a w R' hn hf h hx hR
    simpa [List.range_eq_range'] using this
  | dregion id ops ord =>
    intro hwf β kn ke kr R Q ρ fr σ a w R' hn he hr hf h hx hR
    exact dregion_sound hm hwf hcall id hn hf h hx hR
  | other c => intro hwf; cases hwf
  | seq x y ihx ihy =>
    intro hwf β kn ke kr R Q ρ fr σ a w R' hn he hr hf h hx hR
    rw [AC.wf, Bool.and_eq_true] at hwf
    refine wp_seq (ihx hwf.1 (acode P call n y kn ke kr) ke kr R (Exit.then (y.erase.wp P Q) Q) ρ fr σ a w R' ?_ he hr hf h hx hR)
    intro ρ2 fr2 σ2 a2 w2 R2 e2 hf2 h2 hx2 hR2
    exact ihy hwf.2 kn ke kr R Q ρ2 fr2 σ2 a2 w2 R2 (hn.mono e2) (fun i => (he i).mono e2) (hr.mono e2) hf2 h2 hx2 hR2
  | cond c x y ihx ihy =>
    intro hwf β kn ke kr R Q ρ fr σ a w R' hn he hr hf h hx hR
    rw [AC.wf, Bool.and_eq_true] at hwf
    simp only [acode] at hx
    split at hx
    · rename_i hb
      exact wp_cond_true ((hf.ev c).asB hb) (ihx hwf.1 kn ke kr R Q ρ fr σ a w R' hn he hr hf h hx hR)
    · rename_i hb
      exact wp_cond_false ((hf.ev c).asB hb) (ihy hwf.2 kn ke kr R Q ρ fr σ a w R' hn he hr hf h hx hR)
    · cases hx
  | block id b ih =>
    intro hwf β kn ke kr R Q ρ fr σ a w R' hn he hr hf h hx hR
    refine wp_block (ih hwf kn _ kr R (Exit.inBlock id Q) ρ fr σ a w R' hn ?_ hr hf h hx hR)
    intro i ρ2 fr2 σ2 a2 w2 R2 e2 hf2 h2 hx2 hR2
    simp only [Exit.inBlock]
    split
    · rename_i e
      subst e
      simp only [Nat.beq_eq_true_eq, Nat.beq_refl, cond_true] at hx2
      exact hn ρ2 fr2 σ2 a2 w2 R2 e2 hf2 h2 hx2 hR2
    · rename_i e
      have : Nat.beq i id = false := by
        cases hb : Nat.beq i id with
        | false => rfl
        | true => exact absurd (Nat.eq_of_beq_eq_true hb) e
      rw [this] at hx2
      exact he i ρ2 fr2 σ2 a2 w2 R2 e2 hf2 h2 hx2 hR2
  | loop L Lx b ih =>
    intro hwf β kn ke kr R Q ρ fr σ a w R' hn he hr hf h hx hR
    simp only [acode] at hx
    obtain ⟨J, hJ, hall⟩ := bindL_some hx
    -- the ends of the loop
    have hex : ∀ i, KS B w0 N ρ J (fun fr σ => some [(Tag.exit i, fpick Lx fr, σ)]) (Q (.exit i)) := by
      intro i ρ2 fr2 σ2 a2 w2 R2 e2 hf2 h2 hx2 hR2
      cases hx2
      obtain ⟨R3, hR3, hsub⟩ := hall (Tag.exit i, fpick Lx fr2, σ2) (hR2 _ (List.mem_singleton_self _))
      exact he i ρ2 _ σ2 a2 w2 R3 e2 (hf2.make Lx) h2 hR3 fun r hr => hR r (hsub r hr)
    have hrt : KS B w0 N ρ J (fun fr σ => some [(Tag.ret, fpick Lx fr, σ)]) (Q .ret) := by
      intro ρ2 fr2 σ2 a2 w2 R2 e2 hf2 h2 hx2 hR2
      cases hx2
      obtain ⟨R3, hR3, hsub⟩ := hall (Tag.ret, fpick Lx fr2, σ2) (hR2 _ (List.mem_singleton_self _))
      exact hr ρ2 _ σ2 a2 w2 R3 e2 (hf2.make Lx) h2 hR3 fun r hr => hR r (hsub r hr)
    have key : ∀ m ρ2 fr2 σ2 a2 w2 R2, Ext ρ ρ2 → FR N ρ2 fr2 a2 → Rel B w0 ρ2 σ2 w2 →
        aloop (β := JR) L (fun k => acode P call n b k (fun i fr σ => some [(.exit i, fpick Lx fr, σ)]) (fun fr σ => some [(.ret, fpick Lx fr, σ)])) m (fpick L fr2) σ2 = some R2 → (∀ r ∈ R2, r ∈ J) →
        Code.rounds P b.erase Q m a2 w2 := by
      intro m
      induction m with
      | zero => intro ρ2 fr2 σ2 a2 w2 R2 e2 hf2 h2 hx2 hR2; simp [aloop] at hx2
      | succ m ihm =>
        intro ρ2 fr2 σ2 a2 w2 R2 e2 hf2 h2 hx2 hR2
        rw [rounds_succ]
        simp only [aloop] at hx2
        refine ih hwf _ _ _ J (Exit.then (Code.rounds P b.erase Q m) Q) ρ2 _ σ2 a2 w2 R2 ?_ (fun i => (hex i).mono e2) (hrt.mono e2) (hf2.make L) h2 hx2 hR2
        intro ρ3 fr3 σ3 a3 w3 R3 e3 hf3 h3 hx3 hR3
        exact ihm ρ3 fr3 σ3 a3 w3 R3 (e2.trans e3) hf3 h3 hx3 hR3
    exact wp_loop_rounds n (key n ρ fr σ a w J (Ext.refl _) hf h hJ fun r hr => hr)
  | exit id =>
    intro _ β kn ke kr R Q ρ fr σ a w R' hn he hr hf h hx hR
    exact wp_exit (he id ρ fr σ a w R' (Ext.refl _) hf h hx hR)
  | ret =>
    intro _ β kn ke kr R Q ρ fr σ a w R' hn he hr hf h hx hR
    exact wp_ret (hr ρ fr σ a w R' (Ext.refl _) hf h hx hR)
  | join L b ih =>
    intro hwf β kn ke kr R Q ρ fr σ a w R' hn he hr hf h hx hR
    simp only [acode] at hx
    obtain ⟨J, hJ, hall⟩ := bindL_some hx
    refine ih hwf _ _ _ J Q ρ fr σ a w J ?_ ?_ ?_ hf h hJ fun r hr => hr
    · intro ρ2 fr2 σ2 a2 w2 R2 e2 hf2 h2 hx2 hR2
      cases hx2
      obtain ⟨R3, hR3, hsub⟩ := hall (Tag.norm, fpick L fr2, σ2) (hR2 _ (List.mem_singleton_self _))
      exact hn ρ2 _ σ2 a2 w2 R3 e2 (hf2.make L) h2 hR3 fun r hr => hR r (hsub r hr)
    · intro i ρ2 fr2 σ2 a2 w2 R2 e2 hf2 h2 hx2 hR2
      cases hx2
      obtain ⟨R3, hR3, hsub⟩ := hall (Tag.exit i, fpick L fr2, σ2) (hR2 _ (List.mem_singleton_self _))
      exact he i ρ2 _ σ2 a2 w2 R3 e2 (hf2.make L) h2 hR3 fun r hr => hR r (hsub r hr)
    · intro ρ2 fr2 σ2 a2 w2 R2 e2 hf2 h2 hx2 hR2
      cases hx2
      obtain ⟨R3, hR3, hsub⟩ := hall (Tag.ret, fpick L fr2, σ2) (hR2 _ (List.mem_singleton_self _))
      exact hr ρ2 _ σ2 a2 w2 R3 e2 (hf2.make L) h2 hR3 fun r hr => hR r (hsub r hr)

/-- What a result slot holds. -/
def resF (tmps : Array Value) : ResultVar → Sem Value
  | .tmp t => pure (tmps.getD t undef)
  | .cell a t => do loadVar t (← asAddr (tmps.getD a undef))

theorem results_eq (fn : Func) (tmps : Array Value) : results fn tmps = (do
    let vs ← fn.results.mapM (resF tmps)
    pure (if h : vs.size = 1 then vs[0] else .tuple vs)) := by
  rfl

theorem aresults_sound {ρ : List RB} {σ : AHeap} {w : World} {fr : Fr} {a : Act} (h : Rel B w0 ρ σ w) (hf : FR N ρ fr a) : ∀ (res : List ResultVar) (l : List Value), aresults P fr σ res = some l →
    ∃ l', LR ρ l l' ∧ (res.mapM (resF a.tmps)).run P w = .ok l' w
  | [], l, hx => by simp [aresults] at hx; subst hx; exact ⟨[], LR.nil _, by simp⟩
  | .tmp t :: res, l, hx => by
    simp only [aresults, Option.map_eq_some_iff] at hx
    obtain ⟨l0, h0, rfl⟩ := hx
    obtain ⟨l', h1, h2⟩ := aresults_sound h hf res l0 h0
    refine ⟨_ :: l', LR.cons (hf.val t) h1, ?_⟩
    simp only [List.mapM_cons, Sem.run_bind, h2, resF, Sem.run_pure, Result.andThen_ok]
  | .cell x t :: res, l, hx => by
    simp only [aresults, Option.bind_eq_some_iff, Option.map_eq_some_iff] at hx
    obtain ⟨⟨g, m⟩, hg, v, hv, l0, h0, rfl⟩ := hx
    obtain ⟨l', h1, h2⟩ := aresults_sound h hf res l0 h0
    obtain ⟨v', e1, e2⟩ := aLoad_sound h hg (hf.val x) hv
    have hp : ∃ ad, a.tmps.getD x undef = .pointer (some ad) := by
      unfold aLoad at hv
      have := hf.val x
      split at hv
      · rename_i ad hfx
        rw [hfx] at this
        obtain ⟨a', ha, _⟩ := this.ptr_inv
        exact ⟨a', ha⟩
      · cases hv
    obtain ⟨ad, had⟩ := hp
    rw [had] at e1
    simp only [Instr.loadAt, Instr.sureAddr, pure_bind] at e1
    refine ⟨v' :: l', LR.cons e2 h1, ?_⟩
    simp only [List.mapM_cons, Sem.run_bind, h2, resF, had, asAddr, Sem.run_pure, Result.andThen_ok, e1]

/-- The abstract functions are the program's. -/
def FOk (P : Program) (F : FuncId → Option AFun) : Prop :=
  ∀ f af, F f = some af → ∃ fn c, P.funcs[f]? = some fn ∧ fn.body = some c ∧ af.body.erase = c ∧ fn.ntmps = af.n ∧ fn.results.toList = af.res ∧ af.body.wf af.n = true ∧ af.params ≤ af.n ∧ (fn.name == "runtime.NumGoroutine") = false

theorem fmake_range (params : Nat) (vs : List Value) (h : vs.length = params) (t : Nat) : ∀ k, fget (fmake (List.range' k params) vs) t = if k ≤ t then vs.getD (t - k) undef else undef := by
  subst h
  induction vs with
  | nil => intro k; simp [fmake, fget_leaf]
  | cons v vs ih =>
    intro k
    simp only [List.length_cons, List.range'_succ, fmake, fget_set, ih (k + 1)]
    by_cases h1 : t = k
    · subst h1; simp
    · rw [if_neg h1]
      by_cases h2 : k ≤ t
      · rw [if_pos (by omega), if_pos h2]
        obtain ⟨d, rfl⟩ : ∃ d, t = k + 1 + d := ⟨t - (k + 1), by omega⟩
        rw [show k + 1 + d - (k + 1) = d by omega, show k + 1 + d - k = d + 1 by omega]
        rfl
      · rw [if_neg (by omega), if_neg h2]

theorem acall_sound (hm : P.follows .mixedOrders = true) {F : FuncId → Option AFun} {X : FuncId → Option (List Value → AHeap → ND (Value × AHeap))} (hF : FOk P F)
    (hX : CallOk P fun f args σ => match X f with | some x => x args σ | none => none) : ∀ n, CallOk P (acall P F X n) := by
  intro n
  induction n with
  | zero => intro g args σ R hx; simp [acall] at hx
  | succ n ih =>
    intro g args σ R hx B w0 ρ w args' h ha
    simp only [acall] at hx
    split at hx
    · rename_i x hxg
      exact hX g args σ R (by simp [hxg, hx]) B w0 ρ w args' h ha
    · split at hx
      · rename_i af hF1
        obtain ⟨fn, c, hfn, hbody, hers, hn, hres, hwf, hpar, hname⟩ := hF g af hF1
        obtain ⟨R0, hx, hmerge⟩ := amerge_ok hx
        suffices hgoal : fn.body.isNone = false ∧ Calls P g args'.toArray w fun e w' => ∃ v v' ρ' σ', (v, σ') ∈ R0 ∧ e = .returned v' ∧ Ext ρ ρ' ∧ Rel B w0 ρ' σ' w' ∧ VR ρ' v v' from
          ⟨fn, hfn, hname, .inl ⟨hgoal.1, hgoal.2.mono fun e w' he => by
            obtain ⟨v, v', ρ', σ', hm, h1, h2, h3, h4⟩ := he
            obtain ⟨σ2, hm2, hk⟩ := hmerge v σ' hm
            exact ⟨v, v', ρ', σ2, hm2, h1, h2, hk _ _ _ _ h3, h4⟩⟩⟩
        revert hx
        generalize R0 = R
        intro hx
        cases hlen : Nat.beq args.length af.params with
        | false => rw [hlen] at hx; cases hx
        | true =>
          rw [hlen] at hx
          simp only [cond_true] at hx
          have hlen := Nat.eq_of_beq_eq_true hlen
          refine ⟨by simp [hbody], ?_⟩
          refine calls_of_wp hfn hbody ?_
          rw [← hers]
          have hpost : ∀ (e : Exit), e = .normal ∨ e = .ret → KS B w0 af.n ρ R (aret P af.res) (bodyPost P fn (fun e w' => ∃ v v' ρ' σ', (v, σ') ∈ R ∧ e = .returned v' ∧ Ext ρ ρ' ∧ Rel B w0 ρ' σ' w' ∧ VR ρ' v v') e) := by
            intro e he ρ2 fr2 σ2 a2 w2 R2 e2 hf2 h2 hx2 hR2
            have hmain : a2.defers = [] ∧ ∃ v, (results fn a2.tmps).run P w2 = .ok v w2 ∧ ∃ v0 v' ρ' σ', (v0, σ') ∈ R ∧ Ending.returned v = .returned v' ∧ Ext ρ ρ' ∧ Rel B w0 ρ' σ' w2 ∧ VR ρ' v0 v' := by
              refine ⟨hf2.defers, ?_⟩
              unfold aret at hx2
              have hrun : ∀ l l' : List Value, LR ρ2 l l' → (af.res.mapM (resF a2.tmps)).run P w2 = .ok l' w2 →
                  (results fn a2.tmps).run P w2 = .ok (if hh : l'.toArray.size = 1 then l'.toArray[0] else .tuple l'.toArray) w2 := by
                intro l l' _ hm
                rw [results_eq, Array.mapM_eq_mapM_toList, hres]
                simp only [bind_map_left, Sem.run_bind]
                rw [hm]
                rfl
              split at hx2
              · rename_i v hv
                cases hx2
                obtain ⟨l', h1, h2'⟩ := aresults_sound (P := P) h2 hf2 af.res _ hv
                obtain ⟨v', l2, rfl, hvv, hnil⟩ := h1.cons_inv
                rw [hnil.nil_inv] at h2' h1
                exact ⟨_, hrun _ _ h1 h2', v, v', ρ2, σ2, hR2 _ (by simp), rfl, e2, h2, hvv⟩
              · rename_i l hone hl
                cases hx2
                obtain ⟨l', h1, h2'⟩ := aresults_sound (P := P) h2 hf2 af.res _ hl
                have hne : ¬ l'.toArray.size = 1 := by
                  intro e1
                  have e1 : l'.length = 1 := by simpa using e1
                  rw [← h1.1] at e1
                  obtain ⟨x, rfl⟩ := List.length_eq_one_iff.1 e1
                  exact hone x rfl
                refine ⟨_, hrun _ _ h1 h2', .tuple l.toArray, _, ρ2, σ2, hR2 _ (List.mem_singleton_self _), rfl, e2, h2, ?_⟩
                rw [dif_neg hne]
                exact VR.tuple' (by simpa using h1)
              · cases hx2
            rcases he with rfl | rfl
            · exact hmain
            · exact hmain
          have hfr : FR af.n ρ (fmake (List.range af.params) args) { tmps := args'.toArray ++ Array.replicate (fn.ntmps - args'.toArray.size) undef, defers := [] } := by
            refine ⟨fun t => ?_, rfl, ?_⟩
            · rw [List.range_eq_range', fmake_range _ _ hlen t 0, if_pos (Nat.zero_le _)]
              simp only [Nat.sub_zero, Array.getD_eq_getD_getElem?, Array.getElem?_append, List.size_toArray]
              split
              · rename_i hlt
                have hlt2 : t < args.length := by rw [ha.1]; exact hlt
                have := ha.2 t _ _ (List.getElem?_eq_getElem hlt2) (List.getElem?_eq_getElem hlt)
                simpa [List.getD, hlt2, hlt] using this
              · rename_i hge
                have : args.getD t undef = undef := by simp [List.getD, List.getElem?_eq_none (show args.length ≤ t by rw [ha.1]; omega)]
                rw [this]; exact .dead _
            · have := ha.1
              simp [hn]; omega
          exact acode_sound hm ih n af.body hwf _ _ _ R _ ρ _ σ _ w R (hpost _ (.inl rfl)) (fun i ρ2 fr2 σ2 a2 w2 R2 _ _ _ hx2 _ => by cases hx2) (hpost _ (.inr rfl)) hfr h hx fun r hr => hr
      · cases hx
end
end Go.Ax
