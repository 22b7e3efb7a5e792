/- A calculus of weakest preconditions over the abstract heap: definitions, and that what it tells of a function holds of the machine's calls. No statement of the seat is proved here. -/
import Derived.Test.YtfeamgocomlepaaAx17
namespace Go.Ax
open Go.RowKit

/-! ### The abstract interpreter, outcomes not merged -/
def acall0 (P : Program) (F : FuncId → Option AFun) (X : FuncId → Option (List Value → AHeap → ND (Value × AHeap))) : Nat → CallF
  | 0, _, _, _ => none
  | n + 1, f, args, σ => match X f with
    | some x => x args σ
    | none => match F f with
      | some af => cond (Nat.beq args.length af.params) (acode P (acall0 P F X n) n af.body (aret P af.res) (fun _ _ _ => none) (aret P af.res) (fmake (List.range af.params) args) σ) none
      | none => none

theorem acall0_sound {P : Program} (hm : P.follows .mixedOrders = true) {F : FuncId → Option AFun} {X : FuncId → Option (List Value → AHeap → ND (Value × AHeap))} (hF : FOk P F)
    (hX : CallOk P fun f args σ => match X f with | some x => x args σ | none => none) : ∀ n, CallOk P (acall0 P F X n) := by
  intro n
  induction n with
  | zero => intro g args σ R hx; simp [acall0] at hx
  | succ n ih =>
    intro g args σ R hx B w0 ρ w args' h ha
    simp only [acall0] at hx
    split at hx
    · rename_i x hxg
      exact hX g args σ R (by simp [hxg, hx]) B w0 ρ w args' h ha
    · split at hx
      · rename_i af hF1
        obtain ⟨fn, c, hfn, hbody, hers, hn, hres, hwf, hpar, hname⟩ := hF g af hF1
        refine ⟨fn, hfn, hname, .inl ?_⟩
        cases hlen : Nat.beq args.length af.params with
        | false => rw [hlen] at hx; cases hx
        | true =>
          rw [hlen] at hx
          simp only [cond_true] at hx
          have hlen := Nat.eq_of_beq_eq_true hlen
          refine ⟨by simp [hbody], ?_⟩
          refine calls_of_wp hfn hbody ?_
          rw [← hers]
          have hpost : ∀ (e : Exit), e = .normal ∨ e = .ret → KS B w0 af.n ρ R (aret P af.res) (bodyPost P fn (fun e w' => ∃ v v' ρ' σ', (v, σ') ∈ R ∧ e = .returned v' ∧ Ext ρ ρ' ∧ Rel B w0 ρ' σ' w' ∧ VR ρ' v v') e) := by
            intro e he ρ2 fr2 σ2 a2 w2 R2 e2 hf2 h2 hx2 hR2
            have hmain : a2.defers = [] ∧ ∃ v, (results fn a2.tmps).run P w2 = .ok v w2 ∧ ∃ v0 v' ρ' σ', (v0, σ') ∈ R ∧ Ending.returned v = .returned v' ∧ Ext ρ ρ' ∧ Rel B w0 ρ' σ' w2 ∧ VR ρ' v0 v' := by
              refine ⟨hf2.defers, ?_⟩
              unfold aret at hx2
              have hrun : ∀ l l' : List Value, LR ρ2 l l' → (af.res.mapM (resF a2.tmps)).run P w2 = .ok l' w2 →
                  (results fn a2.tmps).run P w2 = .ok (if hh : l'.toArray.size = 1 then l'.toArray[0] else .tuple l'.toArray) w2 := by
                intro l l' _ hm
                rw [results_eq, Array.mapM_eq_mapM_toList, hres]
                simp only [bind_map_left, Sem.run_bind]
                rw [hm]
                rfl
              split at hx2
              · rename_i v hv
                cases hx2
                obtain ⟨l', h1, h2'⟩ := aresults_sound (P := P) h2 hf2 af.res _ hv
                obtain ⟨v', l2, rfl, hvv, hnil⟩ := h1.cons_inv
                rw [hnil.nil_inv] at h2' h1
                exact ⟨_, hrun _ _ h1 h2', v, v', ρ2, σ2, hR2 _ (by simp), rfl, e2, h2, hvv⟩
              · rename_i l hone hl
                cases hx2
                obtain ⟨l', h1, h2'⟩ := aresults_sound (P := P) h2 hf2 af.res _ hl
                have hne : ¬ l'.toArray.size = 1 := by
                  intro e1
                  have e1 : l'.length = 1 := by simpa using e1
                  rw [← h1.1] at e1
                  obtain ⟨x, rfl⟩ := List.length_eq_one_iff.1 e1
                  exact hone x rfl
                refine ⟨_, hrun _ _ h1 h2', .tuple l.toArray, _, ρ2, σ2, hR2 _ (List.mem_singleton_self _), rfl, e2, h2, ?_⟩
                rw [dif_neg hne]
                exact VR.tuple' (by simpa using h1)
              · cases hx2
            rcases he with rfl | rfl
            · exact hmain
            · exact hmain
          have hfr : FR af.n ρ (fmake (List.range af.params) args) { tmps := args'.toArray ++ Array.replicate (fn.ntmps - args'.toArray.size) undef, defers := [] } := by
            refine ⟨fun t => ?_, rfl, ?_⟩
            · rw [List.range_eq_range', fmake_range _ _ hlen t 0, if_pos (Nat.zero_le _)]
              simp only [Nat.sub_zero, Array.getD_eq_getD_getElem?, Array.getElem?_append, List.size_toArray]
              split
              · rename_i hlt
                have hlt2 : t < args.length := by rw [ha.1]; exact hlt
                have := ha.2 t _ _ (List.getElem?_eq_getElem hlt2) (List.getElem?_eq_getElem hlt)
                simpa [List.getD, hlt2, hlt] using this
              · rename_i hge
                have : args.getD t undef = undef := by simp [List.getD, List.getElem?_eq_none (show args.length ≤ t by rw [ha.1]; omega)]
                rw [this]; exact .dead _
            · have := ha.1
              simp [hn]; omega
          exact acode_sound hm ih n af.body hwf _ _ _ R _ ρ _ σ _ w R (hpost _ (.inl rfl)) (fun i ρ2 fr2 σ2 a2 w2 R2 _ _ _ hx2 _ => by cases hx2) (hpost _ (.inr rfl)) hfr h hx fun r hr => hr
      · cases hx

/-! ### From some fuel on -/
def Fin' {β : Type} (k : Nat → ND β) (R : β → Prop) : Prop := ∃ N L, (∀ n, N ≤ n → k n = some L) ∧ ∀ r ∈ L, R r

theorem Fin'.mono {β : Type} {k : Nat → ND β} {R R' : β → Prop} (h : Fin' k R) (hr : ∀ r, R r → R' r) : Fin' k R' := by
  obtain ⟨N, L, hN, h⟩ := h
  exact ⟨N, L, hN, fun r hm => hr r (h r hm)⟩
theorem Fin'.one {β : Type} {x : β} {R : β → Prop} (h : R x) : Fin' (fun _ => some [x]) R := ⟨0, [x], fun _ _ => rfl, fun r hr => by simp at hr; subst hr; exact h⟩
theorem Fin'.congr {β : Type} {k k' : Nat → ND β} {R : β → Prop} (h : Fin' k R) (e : ∀ n, k' n = k n) : Fin' k' R := by
  obtain ⟨N, L, h1, h2⟩ := h
  exact ⟨N, L, fun n hn => by rw [e]; exact h1 n hn, h2⟩

theorem allOf_fin {α β : Type} {R : β → Prop} {k : Nat → α → ND β} : ∀ (L : List α), (∀ a ∈ L, Fin' (fun n => k n a) R) → Fin' (fun n => allOf (L.map (k n))) R
  | [], _ => ⟨0, [], fun n _ => rfl, fun r hr => by simp at hr⟩
  | [a], h => by simpa [allOf] using h a (by simp)
  | a :: b :: L, h => by
    obtain ⟨N1, L1, e1, r1⟩ := h a (by simp)
    obtain ⟨N2, L2, e2, r2⟩ := allOf_fin (b :: L) (fun x hx => h x (List.mem_cons_of_mem _ hx))
    refine ⟨max N1 N2, L1 ++ L2, fun n hn => ?_, fun r hr => ?_⟩
    · have e1 := e1 n (by omega)
      have e2 := e2 n (by omega)
      simp only [List.map_cons] at e2 ⊢
      simp only [allOf, e1, e2]
    · rcases List.mem_append.1 hr with x | x
      · exact r1 r x
      · exact r2 r x

theorem Fin'.bind {α β : Type} {m : Nat → ND α} {S : α → Prop} {k : Nat → α → ND β} {R : β → Prop} (hm : Fin' m S) (h : ∀ a, S a → Fin' (fun n => k n a) R) : Fin' (fun n => bindL (m n) (k n)) R := by
  obtain ⟨N, L, e, r⟩ := hm
  obtain ⟨N2, L2, e2, r2⟩ := allOf_fin L (fun a ha => h a (r a ha))
  refine ⟨max N N2, L2, fun n hn => ?_, r2⟩
  show bindL (m n) (k n) = some L2
  rw [e n (by omega)]
  exact e2 n (by omega)

theorem Fin'.const {β : Type} {L : List β} {R : β → Prop} (h : ∀ r ∈ L, R r) : Fin' (fun _ => some L) R := ⟨0, L, fun _ _ => rfl, h⟩

/-! ### What is told of a call -/
abbrev EvT := FuncId → List Value → AHeap → (Value → AHeap → Prop) → Prop

/-- From some fuel on the call comes to one list of outcomes, all of which are right. -/
def Ev (P : Program) (F : FuncId → Option AFun) (X : FuncId → Option (List Value → AHeap → ND (Value × AHeap))) : EvT := fun f args σ Q =>
  Fin' (fun n => acall0 P F X n f args σ) fun r => Q r.1 r.2

theorem Ev.mono {P F X} {f : FuncId} {args : List Value} {σ : AHeap} {Q Q' : Value → AHeap → Prop} (h : Ev P F X f args σ Q) (hq : ∀ v σ', Q v σ' → Q' v σ') : Ev P F X f args σ Q' :=
  Fin'.mono h fun r hr => hq _ _ hr

/-! ### One operation -/
/-- It comes to something, and what is asked holds of that. -/
def pu {α : Type} (o : Option α) (k : α → Prop) : Prop := ∃ v, o = some v ∧ k v
def wB (v : Value) (k : Bool → Prop) : Prop :=
  match asB v with
  | some t => k t
  | none => False
/-- The parting at a bool. -/
def wC (v : Value) (a b : Prop) : Prop :=
  match asB v with
  | some true => a
  | some false => b
  | none => False
def wF (v : Value) (k : FuncId → List Value → List Value → Prop) : Prop :=
  match v with
  | .func (.func g) first captured => k g first.toList captured.toList
  | _ => False
/-- The parting at an operation's guard: v is what it hangs on. -/
def wG (v : Value) (a b c : Prop) : Prop :=
  match asB v with
  | some true => a
  | some false => b
  | none => isSkip v = true ∧ c

abbrev WK := Value → AHeap → Prop
/-- A new block. -/
def wNew (σ : AHeap) (o : AObj) (k : Nat → AHeap → Prop) : Prop := k σ.size (σ.push o)

/-! ### Operations without the program's tables -/
def lenS (x : Value) : Option Value :=
  match x with
  | .slice _ n _ => some (.int .i64 n)
  | _ => none
def lenStr (x : Value) : Option Value :=
  match x with
  | .string s => some (.int .i64 s.size)
  | _ => none
def lenM (x : Value) (σ : AHeap) : Option Value := (aEntries x σ).map fun es => .int .i64 es.length
def convI (k : IntKind) (x : Value) : Option Value :=
  match x with
  | .int _ n => some (.int k (k.wrap n))
  | _ => none
def partR (g : Bool) (n : Nat) (c : List Value) (off : Nat) : Option Value :=
  cond g (cond (Nat.ble (off + n) c.length) (some (.agg ((c.drop off).take n).toArray)) none) c[off]?
def fieldR (g : Bool) (n off : Nat) (x : Value) : Option Value :=
  match x with
  | .agg c => partR g n c.toList off
  | _ => none
def idxArr (g : Bool) (n len size : Nat) (x i : Value) : Option Value :=
  match x, i with
  | .agg c, .int _ i => if 0 ≤ i ∧ i < len then partR g n c.toList (i.toNat * size) else none
  | _, _ => none
def idxStr (x i : Value) : Option Value :=
  match x, i with
  | .string s, .int _ i => if 0 ≤ i then match s[i.toNat]? with
      | some b => some (.int .u8 b.toNat)
      | none => none
    else none
  | _, _ => none
def buildR (pl : List (Nat × Nat)) (zc : List Value) (parts : List (Nat × Value)) : Option Value := (aFill (pl[·]?) zc parts).map fun l => .agg l.toArray
def buildA (size : Nat) (zc : List Value) (parts : List (Nat × Value)) : Option Value := (aFill (fun k => some (k * size, size)) zc parts).map fun l => .agg l.toArray
def buildS (e z len : Nat) (zc : List Value) (parts : List (Nat × Value)) (σ : AHeap) : Option (Value × AHeap) :=
  cond (Nat.ble (len * z) 16777216 && Nat.blt 0 z) ((aFill (fun k => some (k * z, z)) (reps len zc) parts).map fun l => (.slice (some ⟨σ.size, 0, none⟩) len len, σ.push (.cells l e false))) none

section
variable (P : Program) (E : EvT)

def wBin (op : BinOp) (t : TypeId) (x y : Value) (K : Value → Prop) : Prop :=
  match P.underlying t with
  | some (.struct _) => pu (aBinP P t op x y) K
  | some (.array _ _) => pu (aBinP P t op x y) K
  | d => pu (aBin d op x y) K
def wLen (t : TypeId) (x : Value) (σ : AHeap) (K : Value → Prop) : Prop :=
  match P.underlying t with
  | some (.slice _) => pu (lenS x) K
  | some .string => pu (lenStr x) K
  | some (.map _ _) => pu (lenM x σ) K
  | _ => False
def wSlice (t : TypeId) (x : Value) (lo hi mx : Option Value) (K : Value → Prop) : Prop :=
  match P.underlying t with
  | some .string => match mx with
    | none => pu (aSliceStr x lo hi) K
    | some _ => False
  | some (.slice e) => match P.info? e with
    | some i => pu (aSlice i.size x lo hi mx) K
    | none => False
  | some (.array n e) => match P.info? e with
    | some i => pu (aSliceArr n i.size x lo hi mx) K
    | none => False
  | some (.pointer arr) => match P.underlying arr with
    | some (.array n e) => match P.info? e with
      | some i => pu (aSliceArr n i.size x lo hi mx) K
      | none => False
    | _ => False
  | _ => False
def wIdxA (t : TypeId) (x i : Value) (K : Value → Prop) : Prop :=
  match P.underlying t with
  | some (.slice e) => match P.info? e with
    | some j => pu (aIndexAddr j.size x i) K
    | none => False
  | some (.array n e) => match P.info? e with
    | some j => pu (aIndexAddrArr n j.size x i) K
    | none => False
  | _ => False
def wConv (s d : TypeId) (x : Value) (σ : AHeap) (K : Value → Prop) : Prop :=
  match P.underlying s, P.underlying d with
  | some (.int _), some (.int k) => pu (convI k x) K
  | _, _ => pu (aConv P s d x σ) K
def wField (t : TypeId) (f : Nat) (x : Value) (K : Value → Prop) : Prop :=
  match P.underlying t with
  | some (.struct fs) => match fs[f]? with
    | some fd => match shp P fd.type with
      | some (g, n) => pu (fieldR g n fd.offset x) K
      | none => False
    | none => False
  | _ => False
def wIdx (t : TypeId) (x i : Value) (K : Value → Prop) : Prop :=
  match P.underlying t with
  | some (.array len e) => match P.info? e with
    | some j => match shp P e with
      | some (g, n) => pu (idxArr g n len j.size x i) K
      | none => False
    | none => False
  | some .string => pu (idxStr x i) K
  | _ => False
def wBuild (t : TypeId) (parts : List (Nat × Value)) (K : Value → Prop) : Prop :=
  match zeroOf P t with
  | some z => match P.underlying t with
    | some (.struct fs) => match placesOf P fs.toList with
      | some pl => pu (buildR pl z.cells.toList parts) K
      | none => False
    | some (.array _ e) => match P.info? e with
      | some i => pu (buildA i.size z.cells.toList parts) K
      | none => False
    | _ => False
  | none => False
def wBuildS (t : TypeId) (len : Nat) (parts : List (Nat × Value)) (σ : AHeap) (K : WK) : Prop :=
  match elemOf? P t with
  | some (e, z, _) => match len with
    | 0 => match parts with
      | [] => K (.slice (some ⟨ZB, 0, some 0⟩) 0 0) σ
      | _ => False
    | _ => match zeroOf P e with
      | some zv => pu (buildS e z len zv.cells.toList parts σ) fun r => K r.1 r.2
      | none => False
  | none => False

def wBuiltin (b : Builtin) (ts : List TypeId) (args : List Value) (σ : AHeap) (K : WK) : Prop :=
  match b, ts, args with
  | .append, [t, u], [s, x] => match elemOf? P t with
    | some (e, z, by') => match zeroOf P e with
      | some zv => cond (notInt P u) (pu (aAppend e z by' s x σ) fun r => K r.1 r.2) (cond (isInt P u) (pu (aAppendZ e z by' zv.cells.toList s x σ) fun r => K r.1 r.2) False)
      | none => False
    | none => False
  | .copy, [t, _], [d, x] => match elemOf? P t with
    | some (_, z, _) => pu (aCopy z d x σ) fun r => K r.1 r.2
    | none => False
  | .len, [t], [x] => wLen P t x σ fun v => K v σ
  | .delete, [t, _], [m, k] => pu (aDelete P t m k σ) fun σ' => K (.tuple #[]) σ'
  | .min, _, [x, y] => pu (aMin2 x y) fun v => K v σ
  | .max, _, [x, y] => pu (aMax2 x y) fun v => K v σ
  | _, _, _ => False

def wval (ev : Operand → Value) (o : Oper) (σ : AHeap) (K : WK) : Prop :=
  match o.op with
  | .move x | .assign x => K (ev x) σ
  | .pick c a b => wB (ev c) fun t => K (cond t (ev a) (ev b)) σ
  | .alloc e => match zeroOf P e with
    | some z => wNew σ (.cells z.cells.toList e false) fun b σ => K (.pointer (some ⟨b, 0, none⟩)) σ
    | none => False
  | .box e x => cond (live (ev x)) (wNew σ (.cells (ev x).cells.toList e false) fun b σ => K (.pointer (some ⟨b, 0, none⟩)) σ) False
  | .build t ps => wBuild P t (ps.toList.map fun p => (p.1, ev p.2)) fun v => K v σ
  | .buildSlice t n ps => wBuildS P t n (ps.toList.map fun p => (p.1, ev p.2)) σ K
  | .load t a => match shp P t with
    | some (g, n) => pu (aLoad g n (ev a) σ) fun v => K v σ
    | none => False
  | .store t a x => match shp P t with
    | some (_, n) => pu (aStore n (ev a) (ev x) σ) fun σ' => K undef σ'
    | none => False
  | .nilCheck x => pu (aNil (ev x)) fun v => K v σ
  | .binOp op t x y _ => wBin P op t (ev x) (ev y) fun v => K v σ
  | .unOp op _ x => pu (aUn op (ev x)) fun v => K v σ
  | .convert s d x => wConv P s d (ev x) σ fun v => K v σ
  | .makeInterface t x => pu (aIface P t (ev x)) fun v => K v σ
  | .makeFunc fn f c => K (.func fn (f.toList.map ev).toArray (c.toList.map ev).toArray) σ
  | .makeSlice t l c => match elemOf? P t with
    | some (e, _, by') => match zeroOf P e with
      | some z => pu (aMake e by' z.cells.toList (ev l) (ev c) σ) fun r => K r.1 r.2
      | none => False
    | none => False
  | .slice t x lo hi mx => wSlice P t (ev x) (lo.map ev) (hi.map ev) (mx.map ev) fun v => K v σ
  | .fieldAddr t x f => match fieldOff P t f with
    | some off => pu (aFieldAddr off (ev x)) fun v => K v σ
    | none => False
  | .field t x f => wField P t f (ev x) fun v => K v σ
  | .indexAddr t x i => wIdxA P t (ev x) (ev i) fun v => K v σ
  | .index t x i => wIdx P t (ev x) (ev i) fun v => K v σ
  | .extract x i => pu (aExtract (ev x) i) fun v => K v σ
  | .makeMap t r => pu (aMakeMap P t (r.map ev) σ) fun r => K r.1 r.2
  | .lookup t x i ok => pu (aLookup P t (ev x) (ev i) ok σ) fun v => K v σ
  | .mapUpdate t m k x => pu (aMapUpdate P t (ev m) (ev k) (ev x) σ) fun σ' => K undef σ'
  | .range t x => pu (aRange P t (ev x) σ) fun r => K r.1 r.2
  | .next it str => cond str (pu (aNextStr (ev it) σ) fun r => K r.1 r.2) (pu (aNextMap (ev it) σ) fun L => ∀ r ∈ L, K r.1 r.2)
  | .entry it => pu (aEntry (ev it) σ) fun v => K v σ
  | .typeAssert x _ t ok => pu (aAssert P t ok (ev x)) fun v => K v σ
  | .call c => match c.callee with
    | .builtin b => wBuiltin P b c.argTypes.toList (c.args.toList.map ev) σ K
    | .value f => wF (ev f) fun g first captured => E g (first ++ c.args.toList.map ev ++ captured) σ K
    | .invoke r name => pu (aMethod P (ev r) name σ) fun r => E r.1 (r.2 :: c.args.toList.map ev) σ K
  | _ => False
end

/-! ### These are met by the operations -/
section
variable {P : Program} {σ : AHeap}

theorem wBin_sound {op : BinOp} {t : TypeId} {x y : Value} {K : Value → Prop} (h : wBin P op t x y K) : pu (aBinP P t op x y) K := by
  unfold wBin at h
  split at h
  · exact h
  · exact h
  · obtain ⟨v, h1, h2⟩ := h
    exact ⟨v, by simp only [aBinP, h1], h2⟩
theorem wLen_sound {t : TypeId} {x : Value} {K : Value → Prop} (h : wLen P t x σ K) : pu (aLenM P t x σ) K := by
  unfold wLen at h
  split at h
  · rename_i e hu
    obtain ⟨v, h1, h2⟩ := h
    refine ⟨v, ?_, h2⟩
    cases x <;> simp_all [lenS, aLenM, aLen]
  · rename_i hu
    obtain ⟨v, h1, h2⟩ := h
    refine ⟨v, ?_, h2⟩
    cases x <;> simp_all [lenStr, aLenM, aLen]
  · rename_i k e hu
    obtain ⟨v, h1, h2⟩ := h
    refine ⟨v, ?_, h2⟩
    unfold lenM at h1
    simp [aLenM, aLen, hu, h1]
  · exact h.elim
theorem wSlice_sound {t : TypeId} {x : Value} {lo hi mx : Option Value} {K : Value → Prop} (h : wSlice P t x lo hi mx K) : pu (aSliceOp P t x lo hi mx) K := by
  unfold wSlice at h
  unfold aSliceOp
  split at h
  · rename_i hu
    rw [hu]
    split at h
    · exact h
    · exact h.elim
  · rename_i e hu
    rw [hu]
    split at h
    · rename_i i hi; simp only [hi]; exact h
    · exact h.elim
  · rename_i n e hu
    rw [hu]
    split at h
    · rename_i i hi; simp only [hi]; exact h
    · exact h.elim
  · rename_i arr hu
    rw [hu]
    split at h
    · rename_i n e hu2
      split at h
      · rename_i i hi; simp only [hu2, hi]; exact h
      · exact h.elim
    · exact h.elim
  · exact h.elim
theorem wIdxA_sound {t : TypeId} {x i : Value} {K : Value → Prop} (h : wIdxA P t x i K) : pu (aIndexAddrOp P t x i) K := by
  unfold wIdxA at h
  unfold aIndexAddrOp
  split at h
  · rename_i e hu
    rw [hu]
    split at h
    · rename_i j hi; simp only [hi]; exact h
    · exact h.elim
  · rename_i n e hu
    rw [hu]
    split at h
    · rename_i j hi; simp only [hi]; exact h
    · exact h.elim
  · exact h.elim
theorem wConv_sound {s d : TypeId} {x : Value} {K : Value → Prop} (h : wConv P s d x σ K) : pu (aConv P s d x σ) K := by
  unfold wConv at h
  split at h
  · rename_i k0 k h1 h2
    obtain ⟨v, h3, h4⟩ := h
    refine ⟨v, ?_, h4⟩
    unfold convI at h3
    split at h3
    · cases h3; simp [aConv, h1, h2]
    · cases h3
  · exact h
theorem partR_eq {t : TypeId} {g : Bool} {n : Nat} (hs : shp P t = some (g, n)) (c : List Value) (off : Nat) : aPart P t c off = partR g n c off := by
  unfold aPart partR
  rw [hs]
  cases g <;> rfl
theorem wField_sound {t : TypeId} {f : Nat} {x : Value} {K : Value → Prop} (h : wField P t f x K) : pu (aField P t f x) K := by
  unfold wField at h
  split at h
  · rename_i fs hu
    split at h
    · rename_i fd hf
      split at h
      · rename_i g n hs
        obtain ⟨v, h1, h2⟩ := h
        refine ⟨v, ?_, h2⟩
        unfold fieldR at h1
        split at h1
        · unfold aField; rw [hu]; simp only [hf, partR_eq hs]; exact h1
        · cases h1
      · exact h.elim
    · exact h.elim
  · exact h.elim
theorem wIdx_sound {t : TypeId} {x i : Value} {K : Value → Prop} (h : wIdx P t x i K) : pu (aIndex P t x i) K := by
  unfold wIdx at h
  split at h
  · rename_i len e hu
    split at h
    · rename_i j hj
      split at h
      · rename_i g n hs
        obtain ⟨v, h1, h2⟩ := h
        refine ⟨v, ?_, h2⟩
        unfold idxArr at h1
        split at h1
        · unfold aIndex; rw [hu]; simp only [hj, partR_eq hs]; exact h1
        · cases h1
      · exact h.elim
    · exact h.elim
  · rename_i hu
    obtain ⟨v, h1, h2⟩ := h
    refine ⟨v, ?_, h2⟩
    unfold idxStr at h1
    split at h1
    · unfold aIndex; rw [hu]; exact h1
    · cases h1
  · exact h.elim
theorem wBuild_sound {t : TypeId} {parts : List (Nat × Value)} {K : Value → Prop} (h : wBuild P t parts K) : pu (aBuild P t parts) K := by
  unfold wBuild at h
  split at h
  · rename_i z hz
    split at h
    · rename_i fs hu
      split at h
      · rename_i pl hp
        unfold aBuild; rw [hz, hu]; simp only [hp]; exact h
      · exact h.elim
    · rename_i n e hu
      split at h
      · rename_i i hi
        unfold aBuild; rw [hz, hu]; simp only [hi]; exact h
      · exact h.elim
    · exact h.elim
  · exact h.elim
theorem wBuildS_sound {t : TypeId} {n : Nat} {ps : List (Nat × Value)} {K : WK} (h : wBuildS P t n ps σ K) :
    (Nat.beq n 0 && !ps.isEmpty) = false ∧ pu (aBuildSlice P t n ps σ) fun r => K r.1 r.2 := by
  unfold wBuildS at h
  split at h
  · rename_i e z by' he
    split at h
    · split at h
      · refine ⟨rfl, (.slice (some ⟨ZB, 0, some 0⟩) 0 0, σ), ?_, h⟩
        simp only [aBuildSlice, he]
      · exact h.elim
    · rename_i hn0
      split at h
      · rename_i zv hz
        refine ⟨?_, ?_⟩
        · cases n with
          | zero => exact absurd rfl hn0
          | succ n => rfl
        · obtain ⟨r, h1, h2⟩ := h
          refine ⟨r, ?_, h2⟩
          cases n with
          | zero => exact absurd rfl hn0
          | succ n => simp only [aBuildSlice, he, hz]; exact h1
      · exact h.elim
  · exact h.elim
theorem wBuiltin_sound {b : Builtin} {ts : List TypeId} {args : List Value} {K : WK} (h : wBuiltin P b ts args σ K) : ∃ r, aBuiltin P b ts args σ = some r ∧ K r.1 r.2 := by
  unfold wBuiltin at h
  unfold aBuiltin
  split at h
  · split at h
    · rename_i e z by' he
      split at h
      · rename_i zv hz
        simp only [he, hz]
        cases hn : notInt P _ with
        | true => rw [hn] at h; exact h
        | false =>
          rw [hn] at h
          simp only [cond_false] at h ⊢
          cases hi : isInt P _ with
          | true => rw [hi] at h; exact h
          | false => rw [hi] at h; exact h.elim
      · exact h.elim
    · exact h.elim
  · split at h
    · rename_i e z by' he
      simp only [he]; exact h
    · exact h.elim
  · obtain ⟨v, h1, h2⟩ := wLen_sound h
    exact ⟨(v, σ), by simp only [h1, Option.bind_some], h2⟩
  · obtain ⟨v, h1, h2⟩ := h
    exact ⟨(.tuple #[], v), by simp only [h1, Option.bind_some], h2⟩
  · obtain ⟨v, h1, h2⟩ := h
    exact ⟨(v, σ), by simp only [h1, Option.bind_some], h2⟩
  · obtain ⟨v, h1, h2⟩ := h
    exact ⟨(v, σ), by simp only [h1, Option.bind_some], h2⟩
  · exact h.elim
end
end Go.Ax
