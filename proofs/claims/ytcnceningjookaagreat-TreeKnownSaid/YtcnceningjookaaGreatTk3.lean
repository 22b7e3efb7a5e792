/- Texts of one proof, joined. No statement of the seat is proved here. -/
import Derived.Test.YtcnceningjookaaGreatTk2
import Derived.Deep.Slices
import Derived.ChangeArms
import Derived.ChangeStays
import Derived.ReadAgain
import GoSem.ClaimJoined
import Derived.Recover
import Derived.Test.YtcnceningjookaaGreatProg
import Derived.Test.YtcnceningjookaaGreatChecked
set_option linter.unusedVariables false
set_option linter.unusedSimpArgs false
set_option linter.unnecessarySimpa false
set_option linter.constructorNameAsVariable false
namespace Go.Ax
open Go.RowKit
section
variable (P : Program)
def vtOf (t : TypeId) : VT :=
  match P.underlying t with
  | some (.int k) => .i k
  | some .bool => .b
  | some .string => .s
  | _ => .v
def rtOf (t : TypeId) : Option (List VT) :=
  match P.types[t]? with
  | some i => match i.desc with
    | .tuple ts => some (ts.toList.map (vtOf P))
    | .invalid => none
    | _ => some [vtOf P t]
  | none => none
def rtK (t : TypeId) (K : WK) : WK :=
  match rtOf P t with
  | some l => rt l K
  | none => K
def flatVT : Nat → TypeId → Option (List VT)
  | 0, _ => none
  | n + 1, t => match P.underlying t with
    | some (.struct fs) => fs.toList.foldr (fun f l => match flatVT n f.type, l with
      | some a, some b => some (a ++ b)
      | _, _ => none) (some [])
    | some (.array _ _) => none
    | some _ => some [vtOf P t]
    | none => none
def cmpOp : BinOp → Bool
  | .eql | .neq | .lss | .leq | .gtr | .geq => true
  | _ => false
def xBin (op : BinOp) (t : TypeId) (x y : Value) (K : Value → Prop) : Prop :=
  match P.underlying t with
  | some (.struct _) => omT .b (aBinP P t op x y) K
  | some (.array _ _) => omT .b (aBinP P t op x y) K
  | d => cond (cmpOp op) (omT .b (aBin d op x y) K) (omT (vtOf P t) (aBin d op x y) K)
def xLen (t : TypeId) (x : Value) (σ : AHeap) (K : Value → Prop) : Prop :=
  match P.underlying t with
  | some (.slice _) => omT (.i .i64) (lenS x) K
  | some .string => omT (.i .i64) (lenStr x) K
  | some (.map _ _) => omT (.i .i64) (lenM x σ) K
  | _ => False
def xSlice (t : TypeId) (x : Value) (lo hi mx : Option Value) (K : Value → Prop) : Prop :=
  match P.underlying t with
  | some .string => match mx with
    | none => omT .s (aSliceStr x lo hi) K
    | some _ => False
  | some (.slice e) => match P.info? e with
    | some i => om (aSlice i.size x lo hi mx) K
    | none => False
  | some (.array n e) => match P.info? e with
    | some i => om (aSliceArr n i.size x lo hi mx) K
    | none => False
  | some (.pointer arr) => match P.underlying arr with
    | some (.array n e) => match P.info? e with
      | some i => om (aSliceArr n i.size x lo hi mx) K
      | none => False
    | _ => False
  | _ => False
def xIdxA (t : TypeId) (x i : Value) (K : Value → Prop) : Prop :=
  match P.underlying t with
  | some (.slice e) => match P.info? e with
    | some j => om (aIndexAddr j.size x i) K
    | none => False
  | some (.array n e) => match P.info? e with
    | some j => om (aIndexAddrArr n j.size x i) K
    | none => False
  | _ => False
def xConv (s d : TypeId) (x : Value) (σ : AHeap) (K : Value → Prop) : Prop :=
  match P.underlying s, P.underlying d with
  | some (.int _), some (.int k) => omT (.i k) (convI k x) K
  | _, _ => omT (vtOf P d) (aConv P s d x σ) K
def xField (t : TypeId) (f : Nat) (x : Value) (K : Value → Prop) : Prop :=
  match P.underlying t with
  | some (.struct fs) => match fs[f]? with
    | some fd => match shp P fd.type with
      | some (g, n) => omT (vtOf P fd.type) (fieldR g n fd.offset x) K
      | none => False
    | none => False
  | _ => False
def xIdx (t : TypeId) (x i : Value) (K : Value → Prop) : Prop :=
  match P.underlying t with
  | some (.array len e) => match P.info? e with
    | some j => match shp P e with
      | some (g, n) => omT (vtOf P e) (idxArr g n len j.size x i) K
      | none => False
    | none => False
  | some .string => omT (.i .u8) (idxStr x i) K
  | _ => False
def xBuild (t : TypeId) (parts : List (Nat × Value)) (K : Value → Prop) : Prop :=
  match zeroOf P t with
  | some z => match P.underlying t with
    | some (.struct fs) => match placesOf P fs.toList with
      | some pl => fillT (pl[·]?) z.cells.toList parts fun l => K (.agg l.toArray)
      | none => False
    | some (.array _ e) => match P.info? e with
      | some i => fillT (fun k => some (k * i.size, i.size)) z.cells.toList parts fun l => K (.agg l.toArray)
      | none => False
    | _ => False
  | none => False
def xBuildS (t : TypeId) (len : Nat) (parts : List (Nat × Value)) (σ : AHeap) (K : WK) : Prop :=
  match elemOf? P t with
  | some (e, z, _) => match len with
    | 0 => match parts with
      | [] => K (.slice (some ⟨ZB, 0, some 0⟩) 0 0) σ
      | _ => False
    | _ => match zeroOf P e with
      | some zv => cond (Nat.ble (len * z) 16777216 && Nat.blt 0 z) (fillT (fun k => some (k * z, z)) (reps len zv.cells.toList) parts fun l => wNew σ (.cells l e false) fun b σ => K (.slice (some ⟨b, 0, none⟩) len len) σ) False
      | none => False
  | none => False
def xBuiltin (b : Builtin) (ts : List TypeId) (args : List Value) (σ : AHeap) (K : WK) : Prop :=
  match b, ts, args with
  | .len, [t], [x] => xLen P t x σ fun v => K v σ
  | .min, [t, _], [x, y] => omT (vtOf P t) (aMin2 x y) fun v => K v σ
  | .max, [t, _], [x, y] => omT (vtOf P t) (aMax2 x y) fun v => K v σ
  | .cap, [t], [x] => match P.underlying t with
    | some (.slice _) => omT (.i .i64) (aCap x) fun v => K v σ
    | _ => False
  | _, _, _ => wBuiltin P b ts args σ K
def xLoad (t : TypeId) (a : Value) (σ : AHeap) (K : Value → Prop) : Prop :=
  match shp P t with
  | some (true, n) => match flatVT P 6 t with
    | some l => cond (Nat.beq l.length n && Nat.blt 0 n && Nat.blt n 24) (ldC σ a 0 l fun vs => K (.agg vs.toArray)) (om (aLoad true n a σ) K)
    | none => om (aLoad true n a σ) K
  | some (false, n) => omT (vtOf P t) (aLoad false n a σ) K
  | none => False
def xExt (x : Value) (i : Nat) : Option Value :=
  match x with
  | .tuple vs => match vs.toList with
    | a :: b :: l => (a :: b :: l)[i]?
    | _ => aExtract x i
  | _ => aExtract x i
def xval (E : EvT) (ev : Operand → Value) (o : Oper) (σ : AHeap) (K kp : WK) : Prop :=
  match o.op with
  | .pick c a b => wB (ev c) fun t => K (pk (vtOf P o.type) t (ev a) (ev b)) σ
  | .box e x => match shp P e with
    | some (g, n) => cond (Nat.beq n 1 && !g) (cond (ev x).oneCell' (wNew σ (.cells [ev x] e false) fun b σ => K (.pointer (some ⟨b, 0, none⟩)) σ) False)
      (cond (live (ev x)) (wNew σ (.cells (ev x).cells.toList e false) fun b σ => K (.pointer (some ⟨b, 0, none⟩)) σ) False)
    | none => False
  | .build t ps => xBuild P t (ps.toList.map fun p => (p.1, ev p.2)) fun v => K v σ
  | .buildSlice t n ps => xBuildS P t n (ps.toList.map fun p => (p.1, ev p.2)) σ K
  | .load t a => xLoad P t (ev a) σ fun v => K v σ
  | .nilCheck x => om (aNil (ev x)) fun v => K v σ
  | .binOp op t x y _ => xBin P op t (ev x) (ev y) fun v => K v σ
  | .unOp op t x => omT (vtOf P t) (aUn op (ev x)) fun v => K v σ
  | .convert s d x => xConv P s d (ev x) σ fun v => K v σ
  | .makeInterface t x => om (aIface P t (ev x)) fun v => K v σ
  | .slice t x lo hi mx => xSlice P t (ev x) (lo.map ev) (hi.map ev) (mx.map ev) fun v => K v σ
  | .fieldAddr t x f => match fieldOff P t f with
    | some off => om (aFieldAddr off (ev x)) fun v => K v σ
    | none => False
  | .field t x f => xField P t f (ev x) fun v => K v σ
  | .indexAddr t x i => xIdxA P t (ev x) (ev i) fun v => K v σ
  | .index t x i => xIdx P t (ev x) (ev i) fun v => K v σ
  | .extract x i => omT (vtOf P o.type) (xExt (ev x) i) fun v => K v σ
  | .lookup t x i ok => cond ok (om (aLookup P t (ev x) (ev i) ok σ) fun v => K v σ) (omT (vtOf P o.type) (aLookup P t (ev x) (ev i) ok σ) fun v => K v σ)
  | .entry it => om (aEntry (ev it) σ) fun v => K v σ
  | .typeAssert x _ t ok => cond ok (om (aAssert P t ok (ev x)) fun v => K v σ) (omT (vtOf P t) (aAssert P t ok (ev x)) fun v => K v σ)
  | .call c => match c.callee with
    | .builtin b => xBuiltin P b c.argTypes.toList (c.args.toList.map ev) σ K
    | .value f => wF (ev f) fun g first captured => E g (first ++ c.args.toList.map ev ++ captured) σ (RP (rtK P o.type K) kp)
    | .invoke r name => pu (aMethod P (ev r) name σ) fun r => E r.1 (r.2 :: c.args.toList.map ev) σ (RP (rtK P o.type K) kp)
  | _ => wval P E ev o σ K kp
end
section
variable {P : Program} {σ : AHeap} {K K' : Value → Prop}
theorem rtK_imp {t : TypeId} {K : WK} {v : Value} {σ : AHeap} (h : rtK P t K v σ) : K v σ := by
  unfold rtK at h
  cases hr : rtOf P t with
  | none => rw [hr] at h; exact h
  | some l => rw [hr] at h; exact rt_imp h
theorem pu_mono {α : Type} {o : Option α} {K K' : α → Prop} (hk : ∀ v, K v → K' v) (h : pu o K) : pu o K' :=
  let ⟨v, h1, h2⟩ := h; ⟨v, h1, hk v h2⟩
theorem xExt_eq (x : Value) (i : Nat) : xExt x i = aExtract x i := by
  unfold xExt
  split
  · rename_i vs
    split
    · rename_i a b l h
      simp only [aExtract, h]
    · rfl
  · rfl
theorem xBin_w {op : BinOp} {t : TypeId} {x y : Value} (hk : ∀ v, K v → K' v) (h : xBin P op t x y K) : wBin P op t x y K' := by
  unfold xBin at h
  unfold wBin
  have hd : ∀ d, cond (cmpOp op) (omT .b (aBin d op x y) K) (omT (vtOf P t) (aBin d op x y) K) → pu (aBin d op x y) K' := fun d h => by
    cases hc : cmpOp op <;> rw [hc] at h <;> exact omT_pu hk h
  cases hu : P.underlying t with
  | none => rw [hu] at h; exact hd _ h
  | some d => cases d <;> (rw [hu] at h; first | exact hd _ h | exact omT_pu hk h)
theorem xLen_w {t : TypeId} {x : Value} (hk : ∀ v, K v → K' v) (h : xLen P t x σ K) : wLen P t x σ K' := by
  unfold xLen at h
  unfold wLen
  cases hu : P.underlying t with
  | none => rw [hu] at h; exact h.elim
  | some d => cases d <;> (rw [hu] at h; first | exact h.elim | exact omT_pu hk h)
theorem xSlice_w {t : TypeId} {x : Value} {lo hi mx : Option Value} (hk : ∀ v, K v → K' v) (h : xSlice P t x lo hi mx K) : wSlice P t x lo hi mx K' := by
  unfold xSlice at h
  unfold wSlice
  cases hu : P.underlying t with
  | none => rw [hu] at h; exact h.elim
  | some d =>
    rw [hu] at h
    cases d with
    | string => cases mx <;> first | exact h.elim | exact omT_pu hk h
    | slice e =>
      simp only at h ⊢
      cases he : P.info? e with
      | none => rw [he] at h; exact h.elim
      | some i => rw [he] at h; exact om_pu hk h
    | array n e =>
      simp only at h ⊢
      cases he : P.info? e with
      | none => rw [he] at h; exact h.elim
      | some i => rw [he] at h; exact om_pu hk h
    | pointer p =>
      simp only at h ⊢
      cases hp : P.underlying p with
      | none => rw [hp] at h; exact h.elim
      | some d =>
        rw [hp] at h
        cases d with
        | array n e =>
          simp only at h ⊢
          cases he : P.info? e with
          | none => rw [he] at h; exact h.elim
          | some i => rw [he] at h; exact om_pu hk h
        | _ => exact h.elim
    | _ => exact h.elim
theorem xIdxA_w {t : TypeId} {x i : Value} (hk : ∀ v, K v → K' v) (h : xIdxA P t x i K) : wIdxA P t x i K' := by
  unfold xIdxA at h
  unfold wIdxA
  cases hu : P.underlying t with
  | none => rw [hu] at h; exact h.elim
  | some d =>
    rw [hu] at h
    cases d with
    | slice e =>
      simp only at h ⊢
      cases he : P.info? e with
      | none => rw [he] at h; exact h.elim
      | some i => rw [he] at h; exact om_pu hk h
    | array n e =>
      simp only at h ⊢
      cases he : P.info? e with
      | none => rw [he] at h; exact h.elim
      | some i => rw [he] at h; exact om_pu hk h
    | _ => exact h.elim
theorem xConv_w {s d : TypeId} {x : Value} (hk : ∀ v, K v → K' v) (h : xConv P s d x σ K) : wConv P s d x σ K' := by
  unfold xConv at h
  unfold wConv
  cases hu : P.underlying s with
  | none => rw [hu] at h; exact omT_pu hk h
  | some a =>
    rw [hu] at h
    cases hv : P.underlying d with
    | none => rw [hv] at h; cases a <;> exact omT_pu hk h
    | some b => rw [hv] at h; cases a <;> cases b <;> exact omT_pu hk h
theorem xField_w {t : TypeId} {f : Nat} {x : Value} (hk : ∀ v, K v → K' v) (h : xField P t f x K) : wField P t f x K' := by
  unfold xField at h
  unfold wField
  cases hu : P.underlying t with
  | none => rw [hu] at h; exact h.elim
  | some d =>
    rw [hu] at h
    cases d <;> simp only at h ⊢ <;> first | exact h.elim | skip
    rename_i fs
    cases hf : fs[f]? with
    | none => rw [hf] at h; exact h.elim
    | some fd =>
      rw [hf] at h
      simp only at h ⊢
      cases hs : shp P fd.type with
      | none => rw [hs] at h; exact h.elim
      | some g => rw [hs] at h; exact omT_pu hk h
theorem xIdx_w {t : TypeId} {x i : Value} (hk : ∀ v, K v → K' v) (h : xIdx P t x i K) : wIdx P t x i K' := by
  unfold xIdx at h
  unfold wIdx
  cases hu : P.underlying t with
  | none => rw [hu] at h; exact h.elim
  | some d =>
    rw [hu] at h
    cases d <;> simp only at h ⊢ <;> first | exact h.elim | exact omT_pu hk h | skip
    rename_i len e
    cases hi : P.info? e with
    | none => rw [hi] at h; exact h.elim
    | some j =>
      rw [hi] at h
      simp only at h ⊢
      cases hs : shp P e with
      | none => rw [hs] at h; exact h.elim
      | some g => rw [hs] at h; exact omT_pu hk h
theorem xBuild_w {t : TypeId} {parts : List (Nat × Value)} (hk : ∀ v, K v → K' v) (h : xBuild P t parts K) : wBuild P t parts K' := by
  unfold xBuild at h
  unfold wBuild
  cases hz : zeroOf P t with
  | none => rw [hz] at h; exact h.elim
  | some z =>
    rw [hz] at h
    simp only at h ⊢
    cases hu : P.underlying t with
    | none => rw [hu] at h; exact h.elim
    | some d =>
      rw [hu] at h
      cases d <;> simp only at h ⊢ <;> first | exact h.elim | skip
      · rename_i n e
        cases hi : P.info? e with
        | none => rw [hi] at h; exact h.elim
        | some i =>
          rw [hi] at h
          obtain ⟨l, h1, h2⟩ := fillT_sound h
          exact ⟨.agg l.toArray, by simp only [buildA, h1, Option.map_some], hk _ h2⟩
      · rename_i fs
        cases hp : placesOf P fs.toList with
        | none => rw [hp] at h; exact h.elim
        | some pl =>
          rw [hp] at h
          obtain ⟨l, h1, h2⟩ := fillT_sound h
          exact ⟨.agg l.toArray, by simp only [buildR, h1, Option.map_some], hk _ h2⟩
theorem xBuildS_w {t : TypeId} {n : Nat} {ps : List (Nat × Value)} {K K' : WK} (hk : ∀ v σ, K v σ → K' v σ) (h : xBuildS P t n ps σ K) : wBuildS P t n ps σ K' := by
  unfold xBuildS at h
  unfold wBuildS
  cases he : elemOf? P t with
  | none => rw [he] at h; exact h.elim
  | some p =>
    obtain ⟨e, z, by'⟩ := p
    rw [he] at h
    simp only at h ⊢
    cases n with
    | zero =>
      cases ps with
      | nil => exact hk _ _ h
      | cons p ps => exact h.elim
    | succ n =>
      simp only at h ⊢
      cases hz : zeroOf P e with
      | none => rw [hz] at h; exact h.elim
      | some zv =>
        rw [hz] at h
        simp only at h ⊢
        cases hc : (Nat.ble ((n + 1) * z) 16777216 && Nat.blt 0 z) with
        | false => rw [hc] at h; exact h.elim
        | true =>
          rw [hc] at h
          obtain ⟨l, h1, h2⟩ := fillT_sound h
          exact ⟨(.slice (some ⟨σ.size, 0, none⟩) (n + 1) (n + 1), σ.push (.cells l e false)), by simp only [buildS, hc, cond_true, h1, Option.map_some], hk _ _ h2⟩
theorem wBuiltin_mono {b : Builtin} {ts : List TypeId} {args : List Value} {K K' : WK} (hk : ∀ v σ, K v σ → K' v σ) (h : wBuiltin P b ts args σ K) : wBuiltin P b ts args σ K' := by
  unfold wBuiltin at h ⊢
  split at h
  · rename_i t u s x
    cases he : elemOf? P t with
    | none => rw [he] at h; exact h.elim
    | some p =>
      obtain ⟨e, z, by'⟩ := p
      rw [he] at h
      simp only at h ⊢
      cases hz : zeroOf P e with
      | none => rw [hz] at h; exact h.elim
      | some zv =>
        rw [hz] at h
        simp only at h ⊢
        cases hn : notInt P u <;> rw [hn] at h <;> simp only [cond_true, cond_false] at h ⊢
        · cases hi : isInt P u <;> rw [hi] at h <;> simp only [cond_true, cond_false] at h ⊢
          exact pu_mono (fun r => hk _ _) h
        · exact pu_mono (fun r => hk _ _) h
  · rename_i t _ d x
    cases he : elemOf? P t with
    | none => rw [he] at h; exact h.elim
    | some p =>
      obtain ⟨e, z, by'⟩ := p
      rw [he] at h
      exact pu_mono (fun r => hk _ _) h
  · rename_i t x
    unfold wLen at h ⊢
    cases hu : P.underlying t with
    | none => rw [hu] at h; exact h.elim
    | some d => cases d <;> (rw [hu] at h; first | exact h.elim | exact pu_mono (fun v => hk _ _) h)
  · exact pu_mono (fun r => hk _ _) h
  · exact pu_mono (fun r => hk _ _) h
  · exact pu_mono (fun r => hk _ _) h
  · rename_i t x
    cases hu : P.underlying t with
    | none => rw [hu] at h; exact h.elim
    | some d => cases d <;> (rw [hu] at h; first | exact h.elim | exact pu_mono (fun v => hk _ _) h)
  · rename_i t x
    cases he : elemOf? P t with
    | none => rw [he] at h; exact h.elim
    | some p =>
      obtain ⟨e, z, by'⟩ := p
      rw [he] at h
      simp only at h ⊢
      cases hz : zeroOf P e with
      | none => rw [hz] at h; exact h.elim
      | some zv => rw [hz] at h; exact pu_mono (fun r => hk _ _) h
  · exact h.elim
theorem xBuiltin_w {b : Builtin} {ts : List TypeId} {args : List Value} {K K' : WK} (hk : ∀ v σ, K v σ → K' v σ) (h : xBuiltin P b ts args σ K) : wBuiltin P b ts args σ K' := by
  unfold xBuiltin at h
  split at h
  · exact xLen_w (fun v => hk v σ) h
  · exact omT_pu (fun v => hk v σ) h
  · exact omT_pu (fun v => hk v σ) h
  · rename_i t x
    unfold wBuiltin
    cases hu : P.underlying t with
    | none => rw [hu] at h; exact h.elim
    | some d => cases d <;> (rw [hu] at h; first | exact h.elim | (simp only [hu]; exact omT_pu (fun v => hk v σ) h))
  · exact wBuiltin_mono hk h
theorem xLoad_w {t : TypeId} {a : Value} (hk : ∀ v, K v → K' v) (h : xLoad P t a σ K) : match shp P t with
    | some (g, n) => pu (aLoad g n a σ) K'
    | none => False := by
  unfold xLoad at h
  cases hs : shp P t with
  | none => rw [hs] at h; exact h.elim
  | some g =>
    obtain ⟨g, n⟩ := g
    rw [hs] at h
    cases g with
    | false => exact omT_pu hk h
    | true =>
      simp only at h ⊢
      cases hf : flatVT P 6 t with
      | none => rw [hf] at h; exact om_pu hk h
      | some l =>
        rw [hf] at h
        simp only at h
        cases hc : (Nat.beq l.length n && Nat.blt 0 n && Nat.blt n 24) with
        | false => rw [hc] at h; exact om_pu hk h
        | true =>
          rw [hc] at h
          simp only [Bool.and_eq_true] at hc
          have hl := Nat.eq_of_beq_eq_true hc.1.1
          have hp : 0 < n := by simpa using hc.1.2
          obtain ⟨vs, h1, h2⟩ := ldC_sound h (fun e => by subst e; simp at hl; omega)
          rw [hl] at h1
          exact ⟨_, h1, hk _ h2⟩
def EMono (E : EvT) : Prop := ∀ f a σ (Q Q' : RK), (∀ r σ, Q r σ → Q' r σ) → E f a σ Q → E f a σ Q'
theorem xval_w {E : EvT} (hE : EMono E) {ev : Operand → Value} {o : Oper} {K K' kp kp' : WK} (hk : ∀ v σ, K v σ → K' v σ) (hkp : ∀ v σ, kp v σ → kp' v σ) (h : xval P E ev o σ K kp) : wval P E ev o σ K' kp' := by
  have hrp : ∀ t r σ, RP (rtK P t K) kp r σ → RP K' kp' r σ := fun t r σ h => by
    cases r with
    | ret v => exact hk _ _ (rtK_imp h)
    | pan v => exact hkp _ _ h
  have hw := fun (K : WK) v (h : K v σ) => h
  obtain ⟨dst, op, type, pos, after, guard⟩ := o
  cases op <;> simp only [xval, wval] at h ⊢ <;> try (first | exact hk _ _ h | exact h.elim)
  case pick c a b =>
    unfold wB at h ⊢
    split at h
    · rw [pk_eq] at h; exact hk _ _ h
    · exact h.elim
  case alloc e =>
    cases hz : zeroOf P e with
    | none => rw [hz] at h; exact h.elim
    | some z => rw [hz] at h; exact hk _ _ h
  case box e x =>
    cases hs : shp P e with
    | none => rw [hs] at h; exact h.elim
    | some g =>
      obtain ⟨g, n⟩ := g
      rw [hs] at h
      simp only at h
      cases hn : (Nat.beq n 1 && !g) with
      | true =>
        rw [hn] at h
        simp only [cond_true] at h
        cases ho : (ev x).oneCell' with
        | false => rw [ho] at h; exact h.elim
        | true =>
          rw [ho] at h
          obtain ⟨h1, h2⟩ := one_cells ho
          rw [h1, h2]
          exact hk _ _ h
      | false =>
        rw [hn] at h
        simp only [cond_false] at h
        cases hl : live (ev x) with
        | false => rw [hl] at h; exact h.elim
        | true => rw [hl] at h; exact hk _ _ h
  case build t ps => exact xBuild_w (fun v => hk v σ) h
  case buildSlice t n ps => exact xBuildS_w hk h
  case load t a => exact xLoad_w (fun v => hk v σ) h
  case store t a x =>
    cases hs : shp P t with
    | none => rw [hs] at h; exact h.elim
    | some g => rw [hs] at h; exact pu_mono (fun v => hk _ v) h
  case nilCheck x => exact om_pu (fun v => hk v σ) h
  case binOp op t x y ty => exact xBin_w (fun v => hk v σ) h
  case unOp op t x => exact omT_pu (fun v => hk v σ) h
  case convert s d x => exact xConv_w (fun v => hk v σ) h
  case makeInterface t x => exact om_pu (fun v => hk v σ) h
  case makeSlice t l c =>
    cases he : elemOf? P t with
    | none => rw [he] at h; exact h.elim
    | some p =>
      obtain ⟨e, z, by'⟩ := p
      rw [he] at h
      simp only at h ⊢
      cases hz : zeroOf P e with
      | none => rw [hz] at h; exact h.elim
      | some zv => rw [hz] at h; exact pu_mono (fun r => hk _ _) h
  case slice t x lo hi mx => exact xSlice_w (fun v => hk v σ) h
  case fieldAddr t x f =>
    cases ho : fieldOff P t f with
    | none => rw [ho] at h; exact h.elim
    | some off => rw [ho] at h; exact om_pu (fun v => hk v σ) h
  case field t x f => exact xField_w (fun v => hk v σ) h
  case indexAddr t x i => exact xIdxA_w (fun v => hk v σ) h
  case index t x i => exact xIdx_w (fun v => hk v σ) h
  case extract x i => rw [xExt_eq] at h; exact omT_pu (fun v => hk v σ) h
  case makeMap t r => exact pu_mono (fun r => hk _ _) h
  case lookup t x i ok => cases ok <;> first | exact om_pu (fun v => hk v σ) h | exact omT_pu (fun v => hk v σ) h
  case mapUpdate t m k x => exact pu_mono (fun v => hk _ v) h
  case range t x => exact pu_mono (fun r => hk _ _) h
  case next it str => cases str <;> first | exact pu_mono (fun r => hk _ _) h | exact pu_mono (fun L hL r hr => hk _ _ (hL r hr)) h
  case entry it => exact om_pu (fun v => hk v σ) h
  case typeAssert x xt t ok => cases ok <;> first | exact om_pu (fun v => hk v σ) h | exact omT_pu (fun v => hk v σ) h
  case call c =>
    cases hc : c.callee with
    | builtin b => rw [hc] at h; exact xBuiltin_w hk h
    | value f =>
      rw [hc] at h
      simp only at h ⊢
      unfold wF at h ⊢
      split at h
      · exact hE _ _ _ _ _ (hrp type) h
      · exact h.elim
    | invoke r name =>
      rw [hc] at h
      exact pu_mono (fun p h => hE _ _ _ _ _ (hrp type) h) h
  case panic x =>
    unfold wPan at h ⊢
    split at h
    · exact hkp _ _ h
    · exact h.elim
end
end Go.Ax
namespace Go.Ax
open Go.RowKit
def TCur : List VT → Type
  | [] => AHeap → Prop
  | .i _ :: L => Int → TCur L
  | .b :: L => Bool → TCur L
  | .s :: L => ByteArray → TCur L
  | .v :: L => Value → TCur L
def TCur.at : (L : List VT) → TCur L → List Value → AHeap → Prop
  | [], p, [], σ => p σ
  | .i k :: L, p, v :: vs, σ => tI k (fun n => TCur.at L (p n) vs σ) v
  | .b :: L, p, v :: vs, σ => tB (fun b => TCur.at L (p b) vs σ) v
  | .s :: L, p, v :: vs, σ => tS (fun s => TCur.at L (p s) vs σ) v
  | .v :: L, p, v :: vs, σ => TCur.at L (p v) vs σ
  | [], _, _ :: _, _ => False
  | _ :: _, _, [], _ => False
def AllT : (L : List VT) → (List Value → Prop) → Prop
  | [], p => p []
  | .i k :: L, p => ∀ n, AllT L fun vs => p (.int k n :: vs)
  | .b :: L, p => ∀ b, AllT L fun vs => p (.bool b :: vs)
  | .s :: L, p => ∀ s, AllT L fun vs => p (.string s :: vs)
  | .v :: L, p => ∀ v, AllT L fun vs => p (v :: vs)
def VOk : List VT → List Value → Prop
  | [], [] => True
  | t :: L, v :: vs => ty t (fun _ => True) v ∧ VOk L vs
  | _, _ => False
theorem ty_true {t : VT} {K : Value → Prop} {v : Value} (h : ty t K v) : ty t (fun _ => True) v := ty_mono (fun _ _ => trivial) h
theorem TCur.ok : ∀ (L : List VT) (p : TCur L) (vs : List Value) (σ : AHeap), TCur.at L p vs σ → VOk L vs
  | [], p, [], σ, _ => trivial
  | .i k :: L, p, v :: vs, σ, h => by
    have h : ty (.i k) (fun v => match v with | .int _ n => TCur.at L (p n) vs σ | _ => False) v := h
    refine ⟨ty_true h, ?_⟩
    have := ty_imp h
    split at this
    · exact TCur.ok L _ vs σ this
    · exact this.elim
  | .b :: L, p, v :: vs, σ, h => by
    have h : ty .b (fun v => match v with | .bool n => TCur.at L (p n) vs σ | _ => False) v := h
    refine ⟨ty_true h, ?_⟩
    have := ty_imp h
    split at this
    · exact TCur.ok L _ vs σ this
    · exact this.elim
  | .s :: L, p, v :: vs, σ, h => by
    have h : ty .s (fun v => match v with | .string n => TCur.at L (p n) vs σ | _ => False) v := h
    refine ⟨ty_true h, ?_⟩
    have := ty_imp h
    split at this
    · exact TCur.ok L _ vs σ this
    · exact this.elim
  | .v :: L, p, v :: vs, σ, h => ⟨trivial, TCur.ok L (p v) vs σ h⟩
  | [], _, _ :: _, _, h => h.elim
  | .i _ :: _, _, [], _, h => h.elim
  | .b :: _, _, [], _, h => h.elim
  | .s :: _, _, [], _, h => h.elim
  | .v :: _, _, [], _, h => h.elim
theorem AllT.at : ∀ (L : List VT) (p : List Value → Prop), AllT L p → ∀ vs, VOk L vs → p vs
  | [], p, h, [], _ => h
  | [], _, _, _ :: _, h => h.elim
  | .i k :: L, p, h, v :: vs, ⟨h1, h2⟩ => by
    simp only [ty, tI] at h1
    split at h1
    · rename_i j n
      cases hd : decide (j = k) with
      | true => have := of_decide_eq_true hd; subst this; exact AllT.at L (fun vs => p (.int j n :: vs)) (h n) vs h2
      | false => rw [hd] at h1; exact h1.elim
    · exact h1.elim
  | .b :: L, p, h, v :: vs, ⟨h1, h2⟩ => by
    simp only [ty, tB] at h1
    split at h1
    · exact AllT.at L _ (h _) vs h2
    · exact h1.elim
  | .s :: L, p, h, v :: vs, ⟨h1, h2⟩ => by
    simp only [ty, tS] at h1
    split at h1
    · exact AllT.at L _ (h _) vs h2
    · exact h1.elim
  | .v :: L, p, h, v :: vs, ⟨_, h2⟩ => AllT.at L (fun vs => p (v :: vs)) (h v) vs h2
  | _ :: _, _, _, [], h => h.elim
theorem AllC.of : ∀ (L : List Nat) (p : List Value → Prop), (∀ vs, vs.length = L.length → p vs) → AllC L p
  | [], p, h => h [] rfl
  | _ :: L, p, h => fun v => AllC.of L (fun vs => p (v :: vs)) fun vs hl => h (v :: vs) (by simp [hl])
def Cur.of : (L : List Nat) → (List Value → AHeap → Prop) → Cur L
  | [], p => p []
  | _ :: L, p => fun v => Cur.of L fun vs => p (v :: vs)
theorem Cur.at_of : ∀ (L : List Nat) (p : List Value → AHeap → Prop) (vs : List Value) (σ : AHeap), vs.length = L.length → (Cur.at L (Cur.of L p) vs σ ↔ p vs σ)
  | [], p, [], σ, _ => Iff.rfl
  | _ :: L, p, v :: vs, σ, h => Cur.at_of L (fun vs => p (v :: vs)) vs σ (by simpa using h)
  | [], _, _ :: _, _, h => by simp at h
  | _ :: _, _, [], _, h => by simp at h
section
variable (P : Program) (E : EvT)
def xone (o : Oper) (k : FK) (kp : WK) : FK := fun fr σ => xval P E (fev fr) o σ (fun v σ' => k (fput fr o.dst v) σ') kp
def xops (all : List Oper) (kp : WK) : List Oper → GM → FK → FK
  | [], _, kn => kn
  | o :: os, md, kn => wguard all o md (fun md => xone P E o (xops all kp os md kn) kp) fun md fr σ => xops all kp os md kn (fput fr o.dst skipV) σ
def xre (all : List Oper) : List Nat → FK → FK
  | [], k => k
  | q :: qs, k => fun fr σ => match all[q]? with
    | none => False
    | some o => wguard all o none (fun _ fr σ => match o.dst with
      | some d => wnx o (xval P (fun _ _ _ _ => False) (fev fr) o σ (fun v _ => veq1 v (fget fr d) = true ∧ xre all qs k fr σ) noP)
      | none => False) (fun _ => xre all qs k) fr σ
def xdops (all : List Oper) (kp : WK) : List (Nat × List Nat) → GM → FK → FK
  | [], _, kn => kn
  | (i, chk) :: os, md, kn => fun fr σ => match all[i]? with
    | none => False
    | some o => wguard all o md (fun md => xone P E o (xre P all chk (xdops all kp os (gmChk chk md) kn)) kp) (fun md fr σ => xdops all kp os md kn (fput fr o.dst skipV) σ) fr σ
def xdt (all : List Oper) (kp : WK) : DT → GM → FK → FK
  | .nil, _, kn => kn
  | .step i chk t, md, kn => fun fr σ => match all[i]? with
    | none => False
    | some o => wguard all o md (fun md => xone P E o (xre P all chk (xdt all kp t (gmChk chk md) kn)) kp) (fun md fr σ => xdt all kp t md kn (fput fr o.dst skipV) σ) fr σ
  | .alt x y, md, kn => fun fr σ => xdt all kp x md kn fr σ ∧ xdt all kp y md kn fr σ
def xpc (kd : Nat → VT) (kp : WK) : AC → FK → (Nat → FK) → FK → FK
  | .skip, kn, _, _ => kn
  | .region _ ops, kn, _, _ => xops P E ops kp ops none kn
  | .dregion _ ops ord, kn, _, _ => xdops P E ops kp ord none kn
  | .dtree _ ops t, kn, _, _ => xdt P E ops kp t none kn
  | .seq a b, kn, ke, kr => xpc kd kp a (xpc kd kp b kn ke kr) ke kr
  | .cond c a b, kn, ke, kr => fun fr σ => wC (fev fr c) (xpc kd kp a kn ke kr fr σ) (xpc kd kp b kn ke kr fr σ)
  | .block id b, kn, ke, kr => xpc kd kp b kn (fun i fr σ => cond (Nat.beq i id) (kn fr σ) (ke i fr σ)) kr
  | .loop R L Lx b, _, ke, kr => fun fr σ => ∃ I : Nat → TCur (L.map kd), (∃ m, TCur.at (L.map kd) (I m) (fpick L fr) σ) ∧
      ∀ m, AllT (L.map kd) fun vs => ∀ σ, TCur.at (L.map kd) (I m) vs σ → xpc kd kp b (fun fr σ => ∃ m' < m, TCur.at (L.map kd) (I m') (fpick L fr) σ) (fun i fr σ => ke i (fmake Lx (fpick Lx fr)) σ) (fun fr σ => kr (fmake Lx (fpick Lx fr)) σ) (fadd R fr (fmake L vs)) σ
  | .exit i, _, ke, _ => ke i
  | .ret, _, _, kr => kr
  | .other _, _, _, _ => fun _ _ => False
  | .join L b, kn, ke, kr => xpc kd kp b (fun fr σ => kn (fmake L (fpick L fr)) σ) (fun i fr σ => ke i (fmake L (fpick L fr)) σ) (fun fr σ => kr (fmake L (fpick L fr)) σ)
end
section
variable {P : Program} {kp kp' : WK}
theorem wguard_mono {all : List Oper} {o : Oper} {md : GM} {y n y' n' : GM → FK} {fr : Fr} {σ : AHeap} (hy : ∀ md fr, y md fr σ → y' md fr σ) (hn : ∀ md fr, n md fr σ → n' md fr σ) (h : wguard all o md y n fr σ) : wguard all o md y' n' fr σ := by
  unfold wguard at h ⊢
  cases hg : o.guard with
  | none => rw [hg] at h; exact hy _ _ h
  | some p =>
    obtain ⟨j, want⟩ := p
    rw [hg] at h
    simp only at h ⊢
    cases hm : gmIs md j want with
    | some b => cases b <;> (rw [hm] at h; first | exact hy _ _ h | exact hn _ _ h)
    | none =>
      rw [hm] at h
      simp only at h ⊢
      cases ht : (all[j]?).bind (·.dst) with
      | none => rw [ht] at h; exact h.elim
      | some t =>
        rw [ht] at h
        simp only at h ⊢
        unfold wG at h ⊢
        split at h
        · cases want <;> first | exact hy _ _ h | exact hn _ _ h
        · cases want <;> first | exact hy _ _ h | exact hn _ _ h
        · exact ⟨h.1, hn _ _ h.2⟩
theorem EMono.ev : EMono (Ev P) := fun _ _ _ _ _ hq h => h.mono hq
theorem EMono.no : EMono (fun _ _ _ _ => False) := fun _ _ _ _ _ _ h => h
theorem xops_w (hkp : ∀ v σ, kp v σ → kp' v σ) {all : List Oper} {k k' : FK} (hk : ∀ fr σ, k fr σ → k' fr σ) : ∀ (os : List Oper) (md : GM) (fr : Fr) (σ : AHeap), xops P (Ev P) all kp os md k fr σ → wops P (Ev P) all kp' os md k' fr σ
  | [], _, fr, σ, h => hk _ _ h
  | o :: os, md, fr, σ, h => wguard_mono (fun md fr h => xval_w EMono.ev (fun v σ h => xops_w hkp hk os md _ σ h) hkp h) (fun md fr h => xops_w hkp hk os md _ σ h) h
theorem xre_w {all : List Oper} {k k' : FK} (hk : ∀ fr σ, k fr σ → k' fr σ) : ∀ (qs : List Nat) (fr : Fr) (σ : AHeap), xre P all qs k fr σ → wre P all qs k' fr σ
  | [], fr, σ, h => hk _ _ h
  | q :: qs, fr, σ, h => by
    simp only [xre] at h
    simp only [wre]
    cases ho : all[q]? with
    | none => rw [ho] at h; exact h.elim
    | some o =>
      rw [ho] at h
      refine wguard_mono (fun _ fr h => ?_) (fun _ fr h => xre_w hk qs fr σ h) h
      cases hd : o.dst with
      | none => rw [hd] at h; exact h.elim
      | some d =>
        rw [hd] at h
        simp only at h ⊢
        have hn : ∀ it, o.op ≠ .next it false := fun it hi => by simp only [wnx, hi] at h
        have hp : ∀ x, o.op ≠ .panic x := fun x hi => by simp only [wnx, hi] at h
        have hw : ∀ p : Prop, wnx o p = p := fun p => by
          unfold wnx
          split
          · rename_i it hi; exact absurd hi (hn it)
          · rename_i x hi; exact absurd hi (hp x)
          · rfl
        rw [hw] at h ⊢
        exact xval_w EMono.no (fun v σ' ⟨h1, h2⟩ => ⟨h1, xre_w hk qs fr σ h2⟩) (fun _ _ h => h) h
theorem xdops_w (hkp : ∀ v σ, kp v σ → kp' v σ) {all : List Oper} {k k' : FK} (hk : ∀ fr σ, k fr σ → k' fr σ) : ∀ (os : List (Nat × List Nat)) (md : GM) (fr : Fr) (σ : AHeap), xdops P (Ev P) all kp os md k fr σ → wdops P (Ev P) all kp' os md k' fr σ
  | [], _, fr, σ, h => hk _ _ h
  | (i, chk) :: os, md, fr, σ, h => by
    simp only [xdops] at h
    simp only [wdops]
    cases ho : all[i]? with
    | none => rw [ho] at h; exact h.elim
    | some o =>
      rw [ho] at h
      exact wguard_mono (fun md fr h => xval_w EMono.ev (fun v σ h => xre_w (fun fr σ h => xdops_w hkp hk os _ fr σ h) chk _ σ h) hkp h) (fun md fr h => xdops_w hkp hk os md _ σ h) h
theorem xdt_w (hkp : ∀ v σ, kp v σ → kp' v σ) {all : List Oper} {k k' : FK} (hk : ∀ fr σ, k fr σ → k' fr σ) : ∀ (t : DT) (md : GM) (fr : Fr) (σ : AHeap), xdt P (Ev P) all kp t md k fr σ → wdt P (Ev P) all kp' t md k' fr σ
  | .nil, _, fr, σ, h => hk _ _ h
  | .alt x y, md, fr, σ, h => ⟨xdt_w hkp hk x md fr σ h.1, xdt_w hkp hk y md fr σ h.2⟩
  | .step i chk t, md, fr, σ, h => by
    simp only [xdt] at h
    simp only [wdt]
    cases ho : all[i]? with
    | none => rw [ho] at h; exact h.elim
    | some o =>
      rw [ho] at h
      exact wguard_mono (fun md fr h => xval_w EMono.ev (fun v σ h => xre_w (fun fr σ h => xdt_w hkp hk t _ fr σ h) chk _ σ h) hkp h) (fun md fr h => xdt_w hkp hk t md _ σ h) h
theorem xpc_w (kd : Nat → VT) (hkp : ∀ v σ, kp v σ → kp' v σ) : ∀ (c : AC) {qn qn' : FK} {qe qe' : Nat → FK} {qr qr' : FK}, (∀ fr σ, qn fr σ → qn' fr σ) → (∀ i fr σ, qe i fr σ → qe' i fr σ) → (∀ fr σ, qr fr σ → qr' fr σ) →
    ∀ fr σ, xpc P (Ev P) kd kp c qn qe qr fr σ → wpc P (Ev P) kp' c qn' qe' qr' fr σ := by
  intro c
  induction c with
  | skip => intro _ _ _ _ _ _ hn he hr fr σ h; exact hn _ _ h
  | region id ops => intro _ _ _ _ _ _ hn he hr fr σ h; exact xops_w hkp hn ops none fr σ h
  | dregion id ops ord => intro _ _ _ _ _ _ hn he hr fr σ h; exact xdops_w hkp hn ord none fr σ h
  | dtree id ops t => intro _ _ _ _ _ _ hn he hr fr σ h; exact xdt_w hkp hn t none fr σ h
  | seq a b iha ihb => intro _ _ _ _ _ _ hn he hr fr σ h; exact iha (ihb hn he hr) he hr fr σ h
  | cond c a b iha ihb =>
    intro _ _ _ _ _ _ hn he hr fr σ h
    simp only [xpc, wpc, wC] at h ⊢
    split at h
    · exact iha hn he hr _ _ h
    · exact ihb hn he hr _ _ h
    · exact h.elim
  | block id b ih =>
    intro qn qn' qe qe' qr qr' hn he hr fr σ h
    refine ih (qe := fun i fr σ => cond (Nat.beq i id) (qn fr σ) (qe i fr σ)) hn (fun i fr σ h => ?_) hr fr σ h
    cases hb : Nat.beq i id with
    | true => rw [hb] at h; exact hn _ _ h
    | false => rw [hb] at h; exact he i _ _ h
  | exit i => intro _ _ _ _ _ _ hn he hr fr σ h; exact he i _ _ h
  | ret => intro _ _ _ _ _ _ hn he hr fr σ h; exact hr _ _ h
  | other c => intro _ _ _ _ _ _ hn he hr fr σ h; exact h.elim
  | join L b ih =>
    intro _ _ _ _ _ _ hn he hr fr σ h
    exact ih (fun fr σ h => hn _ _ h) (fun i fr σ h => he i _ _ h) (fun fr σ h => hr _ _ h) fr σ h
  | loop R L Lx b ih =>
    intro qn qn' qe qe' qr qr' hn he hr fr σ h
    simp only [xpc] at h
    simp only [wpc]
    obtain ⟨I, ⟨m0, h0⟩, hI⟩ := h
    have hlen : ∀ fr : Fr, (fpick L fr).length = L.length := fun fr => by simp [fpick]
    refine ⟨fun m => Cur.of L (TCur.at (L.map kd) (I m)), ⟨m0, (Cur.at_of L _ _ _ (hlen fr)).2 h0⟩, fun m => AllC.of L _ fun vs hl σ hv => ?_⟩
    have hv' := (Cur.at_of L _ vs σ hl).1 hv
    have hb := AllT.at _ _ (hI m) vs (TCur.ok _ _ _ _ hv') σ hv'
    refine ih (fun fr σ h => ?_) (fun i fr σ h => he i _ _ h) (fun fr σ h => hr _ _ h) _ _ hb
    obtain ⟨m', h1, h2⟩ := h
    exact ⟨m', h1, (Cur.at_of L _ _ _ (hlen fr)).2 h2⟩
end
def xfn (P : Program) (E : EvT) (fn : Func) (h : Nat → Option Hint) (kd : Nat → VT) (args : List Value) (σ : AHeap) (Q : RK) : Prop :=
  cond (Nat.beq args.length (fn.params.size + fn.nfree)) (xpc P E kd (fun v σ => Q (.pan v) σ) (toAC h (fn.body.getD .skip) 0).1 (wret P fn.results.toList Q) (fun _ _ _ => False) (wret P fn.results.toList Q) (fmake (List.range (fn.params.size + fn.nfree)) args) σ) False
theorem Ev.xfn {P : Program} (hm : P.follows .mixedOrders = true) {f : FuncId} {fn : Func} (hf : P.funcs[f]? = some fn) (h : Nat → Option Hint) (kd : Nat → VT) (hc : fnChk fn h = true) {args : List Value} {σ : AHeap} {Q : RK} (hx : Go.Ax.xfn P (Ev P) fn h kd args σ Q) : Ev P f args σ Q := by
  refine Ev.fn hm hf h hc ?_
  unfold Go.Ax.xfn at hx
  unfold wfn
  cases hb : Nat.beq args.length (fn.params.size + fn.nfree) with
  | false => rw [hb] at hx; exact hx.elim
  | true =>
    rw [hb] at hx
    exact xpc_w kd (fun _ _ h => h) _ (fun _ _ h => h) (fun _ _ _ h => h) (fun _ _ h => h) _ _ hx
end Go.Ax
namespace Go.Ax
open Go.RowKit
abbrev Res := Nat → Option (Bool × AObj)
def Res.emp : Res := fun _ => none
def J (x y z : Option (Bool × AObj)) : Prop := (x = none ∧ z = y) ∨ (y = none ∧ z = x) ∨ (∃ o, x = some (false, o) ∧ y = some (false, o) ∧ z = some (false, o))
theorem J.assoc {x y xy c r : Option (Bool × AObj)} (h : J x y xy) (k : J xy c r) : ∃ yc, J y c yc ∧ J x yc r := by
  rcases h with ⟨rfl, rfl⟩ | ⟨rfl, rfl⟩ | ⟨o, rfl, rfl, rfl⟩
  · exact ⟨r, k, .inl ⟨rfl, rfl⟩⟩
  · exact ⟨c, .inl ⟨rfl, rfl⟩, k⟩
  · rcases k with ⟨hx, _⟩ | ⟨rfl, rfl⟩ | ⟨o', hx, rfl, rfl⟩
    · cases hx
    · exact ⟨some (false, o), .inr (.inl ⟨rfl, rfl⟩), .inr (.inr ⟨o, rfl, rfl, rfl⟩)⟩
    · cases hx
      exact ⟨some (false, o), .inr (.inr ⟨o, rfl, rfl, rfl⟩), .inr (.inr ⟨o, rfl, rfl, rfl⟩)⟩
def Res.Join (a b r : Res) : Prop := ∀ i, J (a i) (b i) (r i)
def Res.Of (r : Res) (σ : AHeap) : Prop := ∀ i q o, r i = some (q, o) → σ.get i = some o ∧ i < σ.size
abbrev Assn := Res → Prop
def sep (A B : Assn) : Assn := fun r => ∃ a b, Res.Join a b r ∧ A a ∧ B b
def emp : Assn := fun r => r = Res.emp
def pure' (p : Prop) : Assn := fun r => r = Res.emp ∧ p
def ex {α : Sort _} (A : α → Assn) : Assn := fun r => ∃ x, A x r
def pt (b : Nat) (o : AObj) : Assn := fun r => r = fun i => if i = b then some (true, o) else none
def ro (b : Nat) (o : AObj) : Assn := fun r => r = fun i => if i = b then some (false, o) else none
theorem Res.Join.comm {a b r : Res} (h : Res.Join a b r) : Res.Join b a r := fun i => by
  rcases h i with ⟨x, y⟩ | ⟨x, y⟩ | ⟨o, x, y, z⟩
  · exact .inr (.inl ⟨x, y⟩)
  · exact .inl ⟨x, y⟩
  · exact .inr (.inr ⟨o, y, x, z⟩)
theorem Res.Join.emp_left (r : Res) : Res.Join Res.emp r r := fun _ => .inl ⟨rfl, rfl⟩
theorem Res.Join.emp_eq {b r : Res} (h : Res.Join Res.emp b r) : r = b := by
  funext i
  rcases h i with ⟨_, y⟩ | ⟨x, y⟩ | ⟨o, x, _⟩
  · exact y
  · rw [y, x]; rfl
  · cases x
theorem Res.Join.assoc {a b ab c r : Res} (h : Res.Join a b ab) (k : Res.Join ab c r) : ∃ bc, Res.Join b c bc ∧ Res.Join a bc r :=
  ⟨fun i => Classical.choose ((h i).assoc (k i)), fun i => (Classical.choose_spec ((h i).assoc (k i))).1, fun i => (Classical.choose_spec ((h i).assoc (k i))).2⟩
theorem sep_comm (A B : Assn) : sep A B = sep B A := by
  funext r; apply propext
  exact ⟨fun ⟨a, b, h, x, y⟩ => ⟨b, a, h.comm, y, x⟩, fun ⟨a, b, h, x, y⟩ => ⟨b, a, h.comm, y, x⟩⟩
theorem sep_assoc (A B C : Assn) : sep (sep A B) C = sep A (sep B C) := by
  funext r; apply propext
  constructor
  · rintro ⟨ab, c, h, ⟨a, b, k, x, y⟩, z⟩
    obtain ⟨bc, h1, h2⟩ := k.assoc h
    exact ⟨a, bc, h2, x, b, c, h1, y, z⟩
  · rintro ⟨a, bc, h, x, b, c, k, y, z⟩
    obtain ⟨ba, h1, h2⟩ := k.comm.assoc h.comm
    exact ⟨ba, c, h2.comm, ⟨a, b, h1.comm, x, y⟩, z⟩
theorem emp_sep (A : Assn) : sep emp A = A := by
  funext r; apply propext
  constructor
  · rintro ⟨a, b, h, rfl, y⟩; rw [h.emp_eq]; exact y
  · intro h; exact ⟨_, r, Res.Join.emp_left r, rfl, h⟩
def Star : List Assn → Assn
  | [] => emp
  | A :: l => sep A (Star l)
theorem Star_append (l m : List Assn) : Star (l ++ m) = sep (Star l) (Star m) := by
  induction l with
  | nil => simp [Star, emp_sep]
  | cons A l ih => simp [Star, ih, sep_assoc]
theorem Star_perm {l m : List Assn} (h : l.Perm m) : Star l = Star m := by
  induction h with
  | nil => rfl
  | cons x _ ih => simp [Star, ih]
  | swap x y l => simp only [Star]; rw [← sep_assoc, sep_comm y x, sep_assoc]
  | trans _ _ ih1 ih2 => rw [ih1, ih2]
def H (l : List Assn) (σ : AHeap) : Prop := ∃ r, Res.Of r σ ∧ Star l r
theorem Res.Of.left {a b r : Res} {σ : AHeap} (h : Res.Of r σ) (j : Res.Join a b r) : Res.Of a σ := fun i q o ha => by
  rcases j i with ⟨x, y⟩ | ⟨x, y⟩ | ⟨o', x, y, z⟩
  · rw [x] at ha; cases ha
  · exact h i q o (by rw [y, ha])
  · rw [x] at ha; cases ha; exact h i _ _ z
theorem H.perm {l m : List Assn} {σ : AHeap} (h : H l σ) (p : l.Perm m) : H m σ := by
  obtain ⟨r, h1, h2⟩ := h; exact ⟨r, h1, by rw [← Star_perm p]; exact h2⟩
theorem H.left {l m : List Assn} {σ : AHeap} (h : H (l ++ m) σ) : H l σ := by
  obtain ⟨r, h1, h2⟩ := h
  rw [Star_append] at h2
  obtain ⟨a, b, j, x, y⟩ := h2
  exact ⟨a, h1.left j, x⟩
theorem H.nil (σ : AHeap) : H [] σ := ⟨Res.emp, (fun i q o h => by simp [Res.emp] at h), rfl⟩
theorem H.tail {A : Assn} {l : List Assn} {σ : AHeap} (h : H (A :: l) σ) : H l σ := (h.perm (by simpa using List.perm_append_comm (l₁ := [A]) (l₂ := l)) : H (l ++ [A]) σ).left
theorem H.second {A B : Assn} {l : List Assn} {σ : AHeap} (h : H (A :: B :: l) σ) : H (A :: l) σ :=
  (h.perm (List.Perm.cons A (by simpa using List.perm_append_comm (l₁ := [B]) (l₂ := l))) : H ((A :: l) ++ [B]) σ).left
def picks (l : List Assn) (is : List Nat) : List Assn := is.map fun i => l.getD i emp
theorem Star_take : ∀ (l : List Assn) (i : Nat), Star l = sep (l.getD i emp) (Star (l.set i emp))
  | [], i => by simp [Star, emp_sep]
  | A :: l, 0 => by simp [Star, emp_sep]
  | A :: l, i + 1 => by
    simp only [Star, List.getD_cons_succ, List.set_cons_succ]
    rw [Star_take l i, ← sep_assoc, sep_comm A, sep_assoc]
theorem Star_set (l : List Assn) (i : Nat) (B : Assn) (h : i < l.length) : Star (l.set i B) = sep B (Star (l.set i emp)) := by
  rw [Star_take _ i, List.set_set]
  simp [List.getD, h]
theorem picks_star {l : List Assn} : ∀ (is : List Nat), is.Nodup → ∃ K, Star l = sep (Star (picks l is)) K
  | [], _ => ⟨Star l, by simp [picks, Star, emp_sep]⟩
  | i :: is, hn => by
    rw [List.nodup_cons] at hn
    obtain ⟨K, hK⟩ := picks_star (l := l.set i emp) is hn.2
    refine ⟨K, ?_⟩
    rw [Star_take l i, hK]
    have hp : picks (l.set i emp) is = picks l is := by
      unfold picks
      apply List.map_congr_left
      intro x hx
      have hx' : i ≠ x := fun e => hn.1 (e ▸ hx)
      simp [List.getD, List.getElem?_set, hx']
    rw [hp]
    show _ = sep (sep _ _) _
    rw [sep_assoc]
    rfl
theorem H.pick {l : List Assn} {σ : AHeap} (h : H l σ) (is : List Nat) (hn : is.Nodup) : H (picks l is) σ := by
  obtain ⟨K, hK⟩ := picks_star (l := l) is hn
  obtain ⟨r, h1, h2⟩ := h
  rw [hK] at h2
  obtain ⟨a, b, j, x, y⟩ := h2
  exact ⟨a, h1.left j, x⟩
theorem H.front {l : List Assn} {σ : AHeap} {A : Assn} (h : H l σ) (i : Nat) (hi : l[i]? = some A) : H (A :: l.set i emp) σ := by
  obtain ⟨r, h1, h2⟩ := h
  rw [Star_take l i] at h2
  simp only [List.getD, hi, Option.getD_some] at h2
  exact ⟨r, h1, h2⟩
theorem H.back {l : List Assn} {σ : AHeap} {A B : Assn} (i : Nat) (hi : l[i]? = some A) (h : H (B :: l.set i emp) σ) : H (l.set i B) σ := by
  have hlt := (List.getElem?_eq_some_iff.1 hi).1
  obtain ⟨r, h1, h2⟩ := h
  exact ⟨r, h1, by rw [Star_set l i B hlt]; exact h2⟩
theorem H_star {l m : List Assn} {σ : AHeap} : H (Star l :: m) σ ↔ H (l ++ m) σ := by
  unfold H; simp only [Star, Star_append]
theorem H_ex {α : Sort _} {A : α → Assn} {m : List Assn} {σ : AHeap} : H (ex A :: m) σ ↔ ∃ x, H (A x :: m) σ := by
  constructor
  · rintro ⟨r, h, a, b, j, ⟨x, hx⟩, hb⟩; exact ⟨x, r, h, a, b, j, hx, hb⟩
  · rintro ⟨x, r, h, a, b, j, hx, hb⟩; exact ⟨r, h, a, b, j, ⟨x, hx⟩, hb⟩
theorem H_pure {p : Prop} {m : List Assn} {σ : AHeap} : H (pure' p :: m) σ ↔ p ∧ H m σ := by
  constructor
  · rintro ⟨r, h, a, b, j, ⟨rfl, hp⟩, hb⟩; exact ⟨hp, r, h, by rw [j.emp_eq]; exact hb⟩
  · rintro ⟨hp, r, h, hb⟩; exact ⟨r, h, _, r, Res.Join.emp_left r, ⟨rfl, hp⟩, hb⟩
theorem H_emp {m : List Assn} {σ : AHeap} : H (emp :: m) σ ↔ H m σ := by
  unfold H; simp only [Star, emp_sep]
theorem H_sep {A B : Assn} {m : List Assn} {σ : AHeap} : H (sep A B :: m) σ ↔ H (A :: B :: m) σ := by
  unfold H; simp only [Star, sep_assoc]
theorem H.snoc {A : Assn} {l : List Assn} {σ : AHeap} (h : H (A :: l) σ) : H (l ++ [A]) σ := h.perm (by simpa using List.perm_append_comm (l₁ := [A]) (l₂ := l))
theorem H.unsnoc {A : Assn} {l : List Assn} {σ : AHeap} (h : H (l ++ [A]) σ) : H (A :: l) σ := h.perm (List.perm_append_comm (l₁ := l) (l₂ := [A]))
theorem H.get0 {b : Nat} {o : AObj} {l : List Assn} {σ : AHeap} (h : H (pt b o :: l) σ) : σ.get b = some o ∧ b < σ.size := by
  obtain ⟨r, h, a, c, j, rfl, hc⟩ := h
  exact (h.left j) b true o (by simp)
theorem H.rget0 {b : Nat} {o : AObj} {l : List Assn} {σ : AHeap} (h : H (ro b o :: l) σ) : σ.get b = some o ∧ b < σ.size := by
  obtain ⟨r, h, a, c, j, rfl, hc⟩ := h
  exact (h.left j) b false o (by simp)
theorem H.get {l : List Assn} {σ : AHeap} (h : H l σ) (i : Nat) {b : Nat} {o : AObj} (hi : l[i]? = some (pt b o)) : σ.get b = some o := (h.front i hi).get0.1
theorem H.set0 {b : Nat} {o : AObj} {l : List Assn} {σ : AHeap} (h : H (pt b o :: l) σ) (o' : AObj) : H (pt b o' :: l) (σ.set b o') := by
  obtain ⟨r, h, a, c, j, rfl, hc⟩ := h
  refine ⟨fun i => if i = b then some (true, o') else r i, ?_, fun i => if i = b then some (true, o') else none, c, ?_, rfl, hc⟩
  · intro i q x hx
    simp only at hx
    rw [AHeap.get_set]
    split at hx
    · rename_i e; subst e; cases hx
      exact ⟨by simp, ((h.left j) i true o (by simp)).2⟩
    · rename_i e
      rw [if_neg e]; exact h i q x hx
  · intro i
    have hj := j i
    by_cases e : i = b
    · subst e
      simp only [if_pos]
      simp only [if_pos] at hj
      rcases hj with ⟨x, _⟩ | ⟨x, _⟩ | ⟨_, x, _⟩
      · cases x
      · exact .inr (.inl ⟨x, rfl⟩)
      · cases x
    · simp only [if_neg e] at hj ⊢
      exact hj
theorem H.set {l : List Assn} {σ : AHeap} (h : H l σ) (i : Nat) {b : Nat} {o : AObj} (hi : l[i]? = some (pt b o)) (o' : AObj) : H (l.set i (pt b o')) (σ.set b o') := H.back i hi ((h.front i hi).set0 o')
theorem H.push {l : List Assn} {σ : AHeap} (h : H l σ) (o : AObj) : H (l ++ [pt σ.size o]) (σ.push o) := by
  refine H.snoc ?_
  obtain ⟨r, h, hl⟩ := h
  have hfree : r σ.size = none := by
    cases hr : r σ.size with
    | none => rfl
    | some x => obtain ⟨q, y⟩ := x; have := (h _ q y hr).2; omega
  refine ⟨fun i => if i = σ.size then some (true, o) else r i, ?_, fun i => if i = σ.size then some (true, o) else none, r, ?_, rfl, hl⟩
  · intro i q x hx
    simp only at hx
    rw [AHeap.get_push]
    split at hx
    · rename_i e; subst e; cases hx; exact ⟨by simp, by simp⟩
    · rename_i e; rw [if_neg e]; exact ⟨(h i q x hx).1, by have := (h i q x hx).2; simp; omega⟩
  · intro i
    by_cases e : i = σ.size
    · subst e; simp [hfree]; exact .inr (.inl ⟨rfl, rfl⟩)
    · simp [e]; exact .inl ⟨rfl, rfl⟩
theorem H.freeze0 {b : Nat} {o : AObj} {l : List Assn} {σ : AHeap} (h : H (pt b o :: l) σ) : H (ro b o :: l) σ := by
  obtain ⟨r, h, a, c, j, rfl, hc⟩ := h
  refine ⟨fun i => if i = b then some (false, o) else r i, ?_, fun i => if i = b then some (false, o) else none, c, ?_, rfl, hc⟩
  · intro i q x hx
    simp only at hx
    split at hx
    · rename_i e; subst e; cases hx; exact (h.left j) i true o (by simp)
    · exact h i q x hx
  · intro i
    have hj := j i
    by_cases e : i = b
    · subst e
      simp only [if_pos]
      simp only [if_pos] at hj
      rcases hj with ⟨x, _⟩ | ⟨x, _⟩ | ⟨_, x, _⟩
      · cases x
      · exact .inr (.inl ⟨x, rfl⟩)
      · cases x
    · simp only [if_neg e] at hj ⊢
      exact hj
theorem H.freeze {l : List Assn} {σ : AHeap} (h : H l σ) (i : Nat) {b : Nat} {o : AObj} (hi : l[i]? = some (pt b o)) : H (l.set i (ro b o)) σ := H.back i hi (h.front i hi).freeze0
theorem ro_dup (b : Nat) (o : AObj) : sep (ro b o) (ro b o) = ro b o := by
  funext r; apply propext
  constructor
  · rintro ⟨a, c, j, rfl, rfl⟩
    funext i
    rcases j i with ⟨x, y⟩ | ⟨x, y⟩ | ⟨o', x, y, z⟩
    · exact y
    · exact y
    · simp only at x z
      split at x
      · cases x; rename_i e; rw [z, if_pos e]
      · cases x
  · rintro rfl
    refine ⟨_, _, fun i => ?_, rfl, rfl⟩
    by_cases e : i = b
    · exact .inr (.inr ⟨o, by simp [e], by simp [e], by simp [e]⟩)
    · exact .inl ⟨by simp [e], rfl⟩
def Dup (A : Assn) : Prop := ∀ r, A r → sep A A r
theorem Dup.ro (b : Nat) (o : AObj) : Dup (ro b o) := fun r h => by rw [ro_dup]; exact h
theorem Dup.pure (p : Prop) : Dup (pure' p) := by
  rintro r ⟨rfl, hp⟩; exact ⟨_, _, Res.Join.emp_left _, ⟨rfl, hp⟩, ⟨rfl, hp⟩⟩
theorem Dup.emp : Dup emp := fun r h => by rw [emp_sep]; exact h
theorem Dup.ex {α : Sort _} {A : α → Assn} (h : ∀ x, Dup (A x)) : Dup (ex A) := by
  rintro r ⟨x, hx⟩
  obtain ⟨a, b, j, ha, hb⟩ := h x r hx
  exact ⟨a, b, j, ⟨x, ha⟩, ⟨x, hb⟩⟩
theorem Dup.sep {A B : Assn} (h : Dup A) (k : Dup B) : Dup (sep A B) := by
  rintro r ⟨a, b, j, ha, hb⟩
  have e : Ax.sep (Ax.sep A B) (Ax.sep A B) = Ax.sep (Ax.sep A A) (Ax.sep B B) := by
    rw [sep_assoc, ← sep_assoc B A B, sep_comm B A, sep_assoc A B B, ← sep_assoc]
  rw [e]
  exact ⟨a, b, j, h a ha, k b hb⟩
theorem Dup.star : ∀ {l : List Assn}, (∀ A ∈ l, Dup A) → Dup (Star l)
  | [], _ => Dup.emp
  | A :: l, h => Dup.sep (h A (by simp)) (Dup.star fun B hB => h B (by simp [hB]))
theorem H.dup0 {l : List Assn} {σ : AHeap} {A : Assn} (h : H (A :: l) σ) (hd : Dup A) : H (A :: A :: l) σ := by
  rw [← H_sep]
  obtain ⟨r, h, a, b, j, x, y⟩ := h
  exact ⟨r, h, a, b, j, hd a x, y⟩
theorem H.dup {l : List Assn} {σ : AHeap} (h : H l σ) (i : Nat) {A : Assn} (hi : l[i]? = some A) (hd : Dup A) : H (l ++ [A]) σ := by
  have h1 := h.front i hi
  have h2 : H (A :: A :: l.set i emp) σ := h1.dup0 hd
  have hlt := (List.getElem?_eq_some_iff.1 hi).1
  have hs : l.set i A = l := by
    apply List.ext_getElem?
    intro j
    rw [List.getElem?_set]
    split
    · rename_i e; subst e; exact hi.symm
    · rfl
  obtain ⟨r, g1, g2⟩ := h2
  refine H.snoc ⟨r, g1, ?_⟩
  have : Star (A :: l) = sep A (sep A (Star (l.set i emp))) := by
    show sep A (Star l) = _
    conv => lhs; rw [← hs]
    rw [Star_set l i A hlt]
  rw [this]; exact g2
theorem H.ne2 {l : List Assn} {σ : AHeap} {b c : Nat} {o p : AObj} (h : H (pt b o :: pt c p :: l) σ) : b ≠ c := by
  rintro rfl
  obtain ⟨r, h, a, d, j, rfl, a2, d2, j2, rfl, hd⟩ := h
  have h2 : d b ≠ none := by
    rcases j2 b with ⟨x, y⟩ | ⟨x, y⟩ | ⟨_, _, _, z⟩
    · simp at x
    · rw [y]; simp
    · rw [z]; simp
  rcases j b with ⟨x, _⟩ | ⟨x, _⟩ | ⟨_, x, _⟩
  · simp at x
  · exact h2 x
  · simp at x
end Go.Ax
namespace Go.Ax
open Go.RowKit
@[congr] theorem pu_congr {α : Type} {o o' : Option α} {k : α → Prop} (h : o = o') : pu o k = pu o' k := by rw [h]
@[congr] theorem wC_congr {v v' : Value} {a b : Prop} (h : v = v') : wC v a b = wC v' a b := by rw [h]
@[congr] theorem wB_congr {v v' : Value} {k : Bool → Prop} (h : v = v') : wB v k = wB v' k := by rw [h]
@[congr] theorem wG_congr {v v' : Value} {a b c : Prop} (h : v = v') : wG v a b c = wG v' a b c := by rw [h]
@[congr] theorem wF_congr {v v' : Value} {k : FuncId → List Value → List Value → Prop} (h : v = v') : wF v k = wF v' k := by rw [h]
@[congr] theorem wNew_congr {σ σ' : AHeap} {o o' : AObj} {k : Nat → AHeap → Prop} (h : σ = σ') (g : o = o') : wNew σ o k = wNew σ' o' k := by rw [h, g]
@[congr] theorem Ev_congr {P : Program} {f : FuncId} {a a' : List Value} {σ σ' : AHeap} {Q : RK} (h : a = a') (g : σ = σ') : Ev P f a σ Q = Ev P f a' σ' Q := by rw [h, g]
@[simp] theorem pu_some {α : Type} (v : α) (k : α → Prop) : pu (some v) k = k v := propext ⟨fun ⟨_, h, hk⟩ => by cases h; exact hk, fun h => ⟨v, rfl, h⟩⟩
@[simp] theorem pu_none {α : Type} (k : α → Prop) : pu none k = False := propext ⟨(fun ⟨_, h, _⟩ => by cases h), False.elim⟩
@[simp] theorem wC_true (a b : Prop) : wC (.bool true) a b = a := rfl
@[simp] theorem wC_false (a b : Prop) : wC (.bool false) a b = b := rfl
@[simp] theorem wG_true (a b c : Prop) : wG (.bool true) a b c = a := rfl
@[simp] theorem wG_false (a b c : Prop) : wG (.bool false) a b c = b := rfl
@[simp] theorem wB_bool (b : Bool) (k : Bool → Prop) : wB (.bool b) k = k b := rfl
@[simp] theorem wF_func (g : FuncId) (a c : Array Value) (k : FuncId → List Value → List Value → Prop) : wF (.func (.func g) a c) k = k g a.toList c.toList := rfl
theorem wC_iff {b : Bool} {x y : Prop} (h1 : b = true → x) (h2 : b = false → y) : wC (.bool b) x y := by cases b; exact h2 rfl; exact h1 rfl
theorem wC_dec {p : Prop} [Decidable p] {x y : Prop} (h1 : p → x) (h2 : ¬ p → y) : wC (.bool (decide p)) x y := wC_iff (fun h => h1 (by simpa using h)) fun h => h2 (by simpa using h)
theorem wG_iff {b : Bool} {x y z : Prop} (h1 : b = true → x) (h2 : b = false → y) : wG (.bool b) x y z := by cases b; exact h2 rfl; exact h1 rfl
theorem wG_dec {p : Prop} [Decidable p] {x y z : Prop} (h1 : p → x) (h2 : ¬ p → y) : wG (.bool (decide p)) x y z := wG_iff (fun h => h1 (by simpa using h)) fun h => h2 (by simpa using h)
def one (v : Value) : Bool := v.oneCell'
section
variable (n : Int) (n2 c : Nat) (x y : Array Value) (v : Value)
@[simp] theorem live_bool (b : Bool) : live (.bool b) = true := rfl
@[simp] theorem one_bool (b : Bool) : one (.bool b) = true := rfl
@[simp] theorem cells_bool (b : Bool) : Value.cells (.bool b) = #[.bool b] := rfl
@[simp] theorem live_int (k : IntKind) : live (.int k n) = true := rfl
@[simp] theorem one_int (k : IntKind) : one (.int k n) = true := rfl
@[simp] theorem cells_int (k : IntKind) : Value.cells (.int k n) = #[.int k n] := rfl
@[simp] theorem live_string (s : ByteArray) : live (.string s) = true := rfl
@[simp] theorem one_string (s : ByteArray) : one (.string s) = true := rfl
@[simp] theorem cells_string (s : ByteArray) : Value.cells (.string s) = #[.string s] := rfl
@[simp] theorem live_pointer (a : Option Addr) : live (.pointer a) = true := rfl
@[simp] theorem one_pointer (a : Option Addr) : one (.pointer a) = true := rfl
@[simp] theorem cells_pointer (a : Option Addr) : Value.cells (.pointer a) = #[.pointer a] := rfl
@[simp] theorem live_slice (a : Option Addr) : live (.slice a n2 c) = true := rfl
@[simp] theorem one_slice (a : Option Addr) : one (.slice a n2 c) = true := rfl
@[simp] theorem cells_slice (a : Option Addr) : Value.cells (.slice a n2 c) = #[.slice a n2 c] := rfl
@[simp] theorem live_map (r : Option Nat) : live (.map r) = true := rfl
@[simp] theorem one_map (r : Option Nat) : one (.map r) = true := rfl
@[simp] theorem cells_map (r : Option Nat) : Value.cells (.map r) = #[.map r] := rfl
@[simp] theorem live_func (f : Fn) : live (.func f x y) = true := rfl
@[simp] theorem one_func (f : Fn) : one (.func f x y) = true := rfl
@[simp] theorem cells_func (f : Fn) : Value.cells (.func f x y) = #[.func f x y] := rfl
@[simp] theorem live_nilFunc : live (.nilFunc) = true := rfl
@[simp] theorem one_nilFunc : one (.nilFunc) = true := rfl
@[simp] theorem cells_nilFunc : Value.cells (.nilFunc) = #[.nilFunc] := rfl
@[simp] theorem live_nilIface : live (.nilIface) = true := rfl
@[simp] theorem one_nilIface : one (.nilIface) = true := rfl
@[simp] theorem cells_nilIface : Value.cells (.nilIface) = #[.nilIface] := rfl
@[simp] theorem live_iface (t : TypeId) : live (.iface t v) = true := rfl
@[simp] theorem one_iface (t : TypeId) : one (.iface t v) = true := rfl
@[simp] theorem cells_iface (t : TypeId) : Value.cells (.iface t v) = #[.iface t v] := rfl
@[simp] theorem live_agg : live (.agg x) = true := rfl
@[simp] theorem cells_agg : Value.cells (.agg x) = x := rfl
end
section
variable (d : Option TypeDesc) (k : IntKind) (a b : Int)
@[simp] theorem bin_add : aBin d .add (.int k a) (.int k b) = some (.int k (k.wrap (a + b))) := by simp [aBin, aInt]
@[simp] theorem bin_sub : aBin d .sub (.int k a) (.int k b) = some (.int k (k.wrap (a - b))) := by simp [aBin, aInt]
@[simp] theorem bin_mul : aBin d .mul (.int k a) (.int k b) = some (.int k (k.wrap (a * b))) := by simp [aBin, aInt]
@[simp] theorem bin_quo : aBin d .quo (.int k a) (.int k b) = if b = 0 then none else some (.int k (k.wrap (a.tdiv b))) := by simp [aBin, aInt]
@[simp] theorem bin_rem : aBin d .rem (.int k a) (.int k b) = if b = 0 then none else some (.int k (a.tmod b)) := by simp [aBin, aInt]
@[simp] theorem bin_and : aBin d .and (.int k a) (.int k b) = some (.int k (k.wrap (BitVec.ofInt k.bits a &&& BitVec.ofInt k.bits b).toNat)) := by simp [aBin, aInt]
@[simp] theorem bin_or : aBin d .or (.int k a) (.int k b) = some (.int k (k.wrap (BitVec.ofInt k.bits a ||| BitVec.ofInt k.bits b).toNat)) := by simp [aBin, aInt]
@[simp] theorem bin_xor : aBin d .xor (.int k a) (.int k b) = some (.int k (k.wrap (BitVec.ofInt k.bits a ^^^ BitVec.ofInt k.bits b).toNat)) := by simp [aBin, aInt]
@[simp] theorem bin_eql : aBin d .eql (.int k a) (.int k b) = some (.bool (decide (a = b))) := by
  simp only [aBin, if_true, aInt]
  rw [show (a == b) = decide (a = b) from by by_cases h : a = b <;> simp [h]]
@[simp] theorem bin_neq : aBin d .neq (.int k a) (.int k b) = some (.bool (decide (a ≠ b))) := by
  simp only [aBin, if_true, aInt, bne, decide_not]
  rw [show (a == b) = decide (a = b) from by by_cases h : a = b <;> simp [h]]
@[simp] theorem bin_lss : aBin d .lss (.int k a) (.int k b) = some (.bool (decide (a < b))) := by simp [aBin, aInt]
@[simp] theorem bin_leq : aBin d .leq (.int k a) (.int k b) = some (.bool (decide (a ≤ b))) := by simp [aBin, aInt]
@[simp] theorem bin_gtr : aBin d .gtr (.int k a) (.int k b) = some (.bool (decide (b < a))) := by simp [aBin, aInt]
@[simp] theorem bin_geq : aBin d .geq (.int k a) (.int k b) = some (.bool (decide (b ≤ a))) := by simp [aBin, aInt]
end
@[simp] theorem bin_beq (a b : Bool) : aBin (some .bool) .eql (.bool a) (.bool b) = some (.bool (a == b)) := rfl
@[simp] theorem bin_bne (a b : Bool) : aBin (some .bool) .neq (.bool a) (.bool b) = some (.bool (!(a == b))) := rfl
@[simp] theorem bin_peq0 (t : TypeId) (b : Option Addr) : aBin (some (.pointer t)) .eql (.pointer none) (.pointer b) = some (.bool b.isNone) := rfl
@[simp] theorem bin_peq1 (t : TypeId) (a : Addr) : aBin (some (.pointer t)) .eql (.pointer (some a)) (.pointer none) = some (.bool false) := rfl
@[simp] theorem bin_pne0 (t : TypeId) (b : Option Addr) : aBin (some (.pointer t)) .neq (.pointer none) (.pointer b) = some (.bool !b.isNone) := rfl
@[simp] theorem bin_pne1 (t : TypeId) (a : Addr) : aBin (some (.pointer t)) .neq (.pointer (some a)) (.pointer none) = some (.bool true) := rfl
@[simp] theorem bin_seq0 (t : TypeId) (l c : Nat) (b : Option Addr) (m d : Nat) : aBin (some (.slice t)) .eql (.slice none l c) (.slice b m d) = some (.bool b.isNone) := rfl
@[simp] theorem bin_seq1 (t : TypeId) (a : Addr) (l c m d : Nat) : aBin (some (.slice t)) .eql (.slice (some a) l c) (.slice none m d) = some (.bool false) := rfl
@[simp] theorem bin_sne0 (t : TypeId) (l c : Nat) (b : Option Addr) (m d : Nat) : aBin (some (.slice t)) .neq (.slice none l c) (.slice b m d) = some (.bool !b.isNone) := rfl
@[simp] theorem bin_sne1 (t : TypeId) (a : Addr) (l c m d : Nat) : aBin (some (.slice t)) .neq (.slice (some a) l c) (.slice none m d) = some (.bool true) := rfl
@[simp] theorem un_not (b : Bool) : aUn .not (.bool b) = some (.bool !b) := rfl
@[simp] theorem un_neg (k : IntKind) (n : Int) : aUn .neg (.int k n) = some (.int k (k.wrap (0 - n))) := rfl
@[simp] theorem conv_int (k k' : IntKind) (n : Int) : convI k (.int k' n) = some (.int k (k.wrap n)) := rfl
@[simp] theorem min2 (k k' : IntKind) (a b : Int) : aMin2 (.int k a) (.int k' b) = some (.int k (if b < a then b else a)) := rfl
@[simp] theorem max2 (k k' : IntKind) (a b : Int) : aMax2 (.int k a) (.int k' b) = some (.int k (if b > a then b else a)) := rfl
@[simp] theorem lenS_slice (a : Option Addr) (n c : Nat) : lenS (.slice a n c) = some (.int .i64 n) := rfl
@[simp] theorem lenStr_string (s : ByteArray) : lenStr (.string s) = some (.int .i64 s.size) := rfl
theorem wrap_i64 {n : Int} (h : -9223372036854775808 ≤ n ∧ n < 9223372036854775808) : IntKind.i64.wrap n = n := by
  simp [IntKind.wrap, IntKind.bits, IntKind.signed]; omega
theorem wrap_u8 {n : Int} (h : 0 ≤ n ∧ n < 256) : IntKind.u8.wrap n = n := by
  simp [IntKind.wrap, IntKind.bits, IntKind.signed]; omega
theorem wrap_u64 {n : Int} (h : 0 ≤ n ∧ n < 18446744073709551616) : IntKind.u64.wrap n = n := by
  simp [IntKind.wrap, IntKind.bits, IntKind.signed]; omega
@[simp] theorem nil_ptr (a : Addr) : aNil (.pointer (some a)) = some (.pointer (some a)) := rfl
@[simp] theorem nil_func (f : FuncId) (p q : Array Value) : aNil (.func (.func f) p q) = some (.func (.func f) p q) := rfl
@[simp] theorem fieldAddr_ptr (off : Nat) (b o : Nat) : aFieldAddr off (.pointer (some ⟨b, o, none⟩)) = some (.pointer (some ⟨b, o + off, none⟩)) := by
  simp only [aFieldAddr, Addr.add]
  split
  · rename_i h; subst h; rfl
  · rfl
theorem add_mk (b o n : Nat) : (⟨b, o, none⟩ : Addr).add n = ⟨b, o + n, none⟩ := by
  simp only [Addr.add]
  split
  · rename_i h; subst h; rfl
  · rfl
theorem idxA {z b o l c : Nat} {k : IntKind} {i : Int} (h : 0 ≤ i ∧ i < l) : aIndexAddr z (.slice (some ⟨b, o, none⟩) l c) (.int k i) = some (.pointer (some ⟨b, o + i.toNat * z, none⟩)) := by
  simp only [aIndexAddr, if_pos h, add_mk]
@[simp] theorem extract0 (a b : Value) : aExtract (.tuple #[a, b]) 0 = some a := by simp [aExtract]
@[simp] theorem extract1 (a b : Value) : aExtract (.tuple #[a, b]) 1 = some b := by simp [aExtract]
@[simp] theorem extract30 (a b c : Value) : aExtract (.tuple #[a, b, c]) 0 = some a := by simp [aExtract]
@[simp] theorem extract31 (a b c : Value) : aExtract (.tuple #[a, b, c]) 1 = some b := by simp [aExtract]
@[simp] theorem extract32 (a b c : Value) : aExtract (.tuple #[a, b, c]) 2 = some c := by simp [aExtract]
theorem row_cells {σ : AHeap} {b : Nat} {c : List Value} {e : TypeId} {opn : Bool} (h : σ.get b = some (.cells c e opn)) : σ.row b = some c := by simp [AHeap.row, h]
theorem row_ro {σ : AHeap} {b : Nat} {c : List Value} {e : TypeId} (h : σ.get b = some (.ro c e)) : σ.row b = some c := by simp [AHeap.row, h]
theorem load1 {σ : AHeap} {b o n : Nat} {c : List Value} (h : σ.row b = some c) : aLoad false n (.pointer (some ⟨b, o, none⟩)) σ = c[o]? := by simp [aLoad, h]
theorem loadN {σ : AHeap} {b o n : Nat} {c : List Value} (h : σ.row b = some c) (hl : o + n ≤ c.length) : aLoad true n (.pointer (some ⟨b, o, none⟩)) σ = some (.agg ((c.drop o).take n).toArray) := by
  cases n with
  | zero => simp [aLoad, seg]
  | succ n =>
    have hb : Nat.ble (o + (n + 1)) c.length = true := Nat.ble_eq_true_of_le hl
    simp [aLoad, seg, h, hb]
theorem H.row {l : List Assn} {σ : AHeap} (h : H l σ) (i : Nat) {b : Nat} {c : List Value} {e : TypeId} {opn : Bool} (hi : l[i]? = some (pt b (.cells c e opn))) : σ.row b = some c := row_cells (h.get i hi)
theorem new_ok {l : List Assn} {σ : AHeap} {o : AObj} {k : Nat → AHeap → Prop} (h : H l σ) (hk : ∀ b σ', H (l ++ [pt b o]) σ' → k b σ') : wNew σ o k := hk _ _ (h.push o)
theorem one_live {v : Value} (h : one v = true) : live v = true ∧ v.cells = #[v] := by cases v <;> simp_all [one, live, Value.oneCell', Value.cells]
theorem splice_one (c : List Value) (o : Nat) (v : Value) (h : o < c.length) : splice c o [v] = c.set o v := by
  apply List.ext_getElem?
  intro j
  simp only [splice, List.getElem?_set]
  rcases Nat.lt_trichotomy j o with g | g | g
  · rw [if_neg (by omega), List.append_assoc, List.getElem?_append_left (by simp; omega), List.getElem?_take, if_pos g]
  · subst g
    rw [if_pos rfl, if_pos h, List.append_assoc, List.getElem?_append_right (by simp; omega)]
    simp [Nat.min_eq_left (Nat.le_of_lt h)]
  · rw [if_neg (by omega), List.getElem?_append_right (by simp; omega)]
    simp
    congr 1; omega
theorem store1 {l : List Assn} {σ : AHeap} (h : H l σ) (i : Nat) {b o : Nat} {c : List Value} {e : TypeId} {opn : Bool} {v : Value} {k : AHeap → Prop} (hi : l[i]? = some (pt b (.cells c e opn))) (hv : one v = true) (ho : o < c.length)
    (hk : ∀ σ', H (l.set i (pt b (.cells (c.set o v) e opn))) σ' → k σ') : pu (aStore 1 (.pointer (some ⟨b, o, none⟩)) v σ) k := by
  obtain ⟨h1, h2⟩ := one_live hv
  have hb : Nat.ble (o + 1) c.length = true := Nat.ble_eq_true_of_le ho
  have he : aStore 1 (.pointer (some ⟨b, o, none⟩)) v σ = some (σ.set b (.cells (c.set o v) e opn)) := by
    have hv' : v.oneCell' = true := hv
    simp [aStore, h1, h2, aPoke, h.get i hi, hb, splice_one c o v ho, hv']
  rw [he, pu_some]
  exact hk _ (h.set i hi _)
theorem storeN {l : List Assn} {σ : AHeap} (h : H l σ) (i : Nat) {b o n : Nat} {c vs : List Value} {e : TypeId} {opn : Bool} {k : AHeap → Prop} (hi : l[i]? = some (pt b (.cells c e opn))) (hn : vs.length = n) (hpos : 0 < n) (hv : vs.all one = true) (ho : o + n ≤ c.length)
    (hk : ∀ σ', H (l.set i (pt b (.cells (splice c o vs) e opn))) σ' → k σ') : pu (aStore n (.pointer (some ⟨b, o, none⟩)) (.agg vs.toArray) σ) k := by
  have hb : Nat.ble (o + vs.length) c.length = true := Nat.ble_eq_true_of_le (by omega)
  have he : aStore n (.pointer (some ⟨b, o, none⟩)) (.agg vs.toArray) σ = some (σ.set b (.cells (splice c o vs) e opn)) := by
    have hs : (Nat.beq vs.length n) = true := by rw [hn]; exact Nat.beq_refl n
    simp only [aStore, live, Value.cells, List.size_toArray, hs, Bool.true_and, cond_true]
    cases vs with
    | nil => simp at hn; omega
    | cons v vs =>
      simp only [aPoke, h.get i hi]
      have hv' : ((v :: vs).all Value.oneCell' && Nat.ble (o + (v :: vs).length) c.length) = true := by
        rw [hb, Bool.and_true]; exact hv
      rw [hv']; rfl
  rw [he, pu_some]
  exact hk _ (h.set i hi _)
def by8 (b : UInt8) : Value := .int .u8 (b.toNat : Int)
def bv (l : List UInt8) : List Value := l.map by8
@[simp] theorem bv_length (l : List UInt8) : (bv l).length = l.length := by simp [bv]
@[simp] theorem bv_append (l m : List UInt8) : bv (l ++ m) = bv l ++ bv m := by simp [bv]
@[simp] theorem bv_take (l : List UInt8) (n : Nat) : (bv l).take n = bv (l.take n) := by simp [bv]
@[simp] theorem bv_drop (l : List UInt8) (n : Nat) : (bv l).drop n = bv (l.drop n) := by simp [bv]
@[simp] theorem bv_nil : bv [] = [] := rfl
@[simp] theorem bv_cons (b : UInt8) (l : List UInt8) : bv (b :: l) = by8 b :: bv l := rfl
theorem bv_get (l : List UInt8) (i : Nat) : (bv l)[i]? = l[i]?.map by8 := by simp [bv]
theorem bv_one (l : List UInt8) : (bv l).all one = true := by simp [bv, by8, one, Value.oneCell']
theorem splice_bv (l m : List UInt8) (o : Nat) : splice (bv l) o (bv m) = bv (l.take o ++ m ++ l.drop (o + m.length)) := by simp [splice]
@[simp] theorem ble_dec (a b : Nat) : Nat.ble a b = decide (a ≤ b) := by
  rw [Bool.eq_iff_iff]; simp
@[simp] theorem beq_dec (a b : Nat) : Nat.beq a b = decide (a = b) := by
  rw [Bool.eq_iff_iff]; simp
@[simp] theorem blt_dec (a b : Nat) : Nat.blt a b = decide (a < b) := by
  rw [Bool.eq_iff_iff]; simp [Nat.blt]; omega
attribute [simp] buildR buildA aFill
end Go.Ax
namespace Go.Ax
open Go.RowKit
theorem H.map0 {A B : Assn} {l : List Assn} {σ : AHeap} (h : H (A :: l) σ) (k : ∀ r, A r → B r) : H (B :: l) σ := by
  obtain ⟨r, h, a, b, j, x, y⟩ := h; exact ⟨r, h, a, b, j, k a x, y⟩
def CapOk (z n c : Nat) : Prop := n ≤ known c ∧ (c < OPEN ∨ c / OPEN = z)
theorem CapOk.exact {z n : Nat} (h : n < OPEN) : CapOk z n n := ⟨by rw [known_lt h]; exact Nat.le_refl _, .inl h⟩
theorem CapOk.open' {z n : Nat} (h : n < OPEN) : CapOk z n (OPEN * z + n) := by
  refine ⟨?_, .inr ?_⟩
  · unfold known; rw [Nat.mul_add_mod, Nat.mod_eq_of_lt h]; exact Nat.le_refl _
  · rw [Nat.mul_add_div (by unfold OPEN; omega), Nat.div_eq_of_lt h, Nat.add_zero]
theorem bnd_int {k : IntKind} {i : Int} {y : Nat} (h : 0 ≤ i ∧ i ≤ y) : bnd (.int k i) y = some i.toNat := by simp only [bnd, if_pos h]
theorem known_sub {c l : Nat} (h : l ≤ known c) : known (c - l) = known c - l ∧ (OPEN ≤ c → (c - l) / OPEN = c / OPEN ∧ OPEN ≤ c - l) := by
  unfold known at *; unfold OPEN at *; omega
theorem slice_mid {z b o n c : Nat} {lo hi : Int} {k k' : IntKind} (hc : CapOk z n c) (h : 0 ≤ lo ∧ lo < hi ∧ hi ≤ n) :
    ∃ c', aSlice z (.slice (some ⟨b, o, none⟩) n c) (some (.int k lo)) (some (.int k' hi)) none = some (.slice (some ⟨b, o + lo.toNat * z, none⟩) (hi.toNat - lo.toNat) c') ∧ CapOk z (hi.toNat - lo.toNat) c' := by
  obtain ⟨h1, h2⟩ := hc
  have hks := known_sub (c := c) (l := lo.toNat) (by omega)
  refine ⟨c - lo.toNat, ?_, ?_, ?_⟩
  · simp only [aSlice, bndO]
    rw [bnd_int (y := known c) (by omega)]
    simp only [Option.bind_some]
    rw [bnd_int (by omega)]
    simp only [Option.bind_some]
    rcases Nat.lt_or_ge c OPEN with hlt | hge
    · have := known_lt hlt
      rw [if_pos hlt, if_pos (by omega), if_neg (by omega)]
      simp [add_mk]
    · have : ¬ c < OPEN := by omega
      rw [if_neg this, if_pos ⟨by omega, h2.resolve_left this⟩]
      simp [add_mk]
  · omega
  · rcases h2 with h2 | h2
    · left; omega
    · rcases Nat.lt_or_ge c OPEN with hlt | hge
      · left; omega
      · right; rw [(hks.2 hge).1]; exact h2
theorem slice_from {z b o n c : Nat} {lo : Int} {k : IntKind} (hc : CapOk z n c) (h : 0 ≤ lo ∧ lo < n) :
    ∃ c', aSlice z (.slice (some ⟨b, o, none⟩) n c) (some (.int k lo)) none none = some (.slice (some ⟨b, o + lo.toNat * z, none⟩) (n - lo.toNat) c') ∧ CapOk z (n - lo.toNat) c' := by
  obtain ⟨h1, h2⟩ := hc
  have hks := known_sub (c := c) (l := lo.toNat) (by omega)
  refine ⟨c - lo.toNat, ?_, ?_, ?_⟩
  · simp only [aSlice, bndO]
    simp only [Option.bind_some]
    rw [bnd_int (by omega)]
    simp only [Option.bind_some]
    rcases Nat.lt_or_ge c OPEN with hlt | hge
    · have := known_lt hlt
      rw [if_pos hlt, if_pos (by omega), if_neg (by omega)]
      simp [add_mk]
    · have : ¬ c < OPEN := by omega
      rw [if_neg this, if_pos ⟨by omega, h2.resolve_left this⟩]
      simp [add_mk]
  · omega
  · rcases h2 with h2 | h2
    · left; omega
    · rcases Nat.lt_or_ge c OPEN with hlt | hge
      · left; omega
      · right; rw [(hks.2 hge).1]; exact h2
theorem slice_to {z b o n c : Nat} {hi : Int} {k : IntKind} (hc : CapOk z n c) (hn : 0 < n) (h : 0 ≤ hi ∧ hi ≤ n) :
    ∃ c', aSlice z (.slice (some ⟨b, o, none⟩) n c) none (some (.int k hi)) none = some (.slice (some ⟨b, o, none⟩) hi.toNat c') ∧ CapOk z hi.toNat c' := by
  obtain ⟨h1, h2⟩ := hc
  refine ⟨c, ?_, by omega, h2⟩
  simp only [aSlice, bndO]
  rw [bnd_int (y := known c) (by omega)]
  simp only [Option.bind_some]
  rcases Nat.lt_or_ge c OPEN with hlt | hge
  · have := known_lt hlt
    rw [if_pos hlt, if_pos (by omega), if_neg (by omega)]
    simp [add_mk]
  · have : ¬ c < OPEN := by omega
    rw [if_neg this, if_pos ⟨by omega, h2.resolve_left this⟩]
    simp [add_mk]
theorem slice_3 {z b o n c : Nat} {lo hi mx : Int} {k k' k'' : IntKind} (hc : CapOk z n c) (h : 0 ≤ lo ∧ lo ≤ hi ∧ hi ≤ mx ∧ mx ≤ n ∧ lo < mx) :
    aSlice z (.slice (some ⟨b, o, none⟩) n c) (some (.int k lo)) (some (.int k' hi)) (some (.int k'' mx)) = some (.slice (some ⟨b, o + lo.toNat * z, none⟩) (hi.toNat - lo.toNat) (mx.toNat - lo.toNat)) := by
  obtain ⟨h1, h2⟩ := hc
  simp only [aSlice, bndO]
  rw [bnd_int (y := known c) (by omega)]
  simp only [Option.bind_some]
  rw [bnd_int (by omega)]
  simp only [Option.bind_some]
  rw [bnd_int (by omega)]
  simp only [Option.bind_some]
  rw [if_neg (by omega)]
  simp [add_mk]
theorem src_row {σ : AHeap} {z b o n cap : Nat} {c : List Value} (h : σ.row b = some c) (hn : o + n * z ≤ c.length) : srcOf z (.slice (some ⟨b, o, none⟩) n cap) σ = some (n, (c.drop o).take (n * z)) := by
  simp only [srcOf]
  cases hz : n * z with
  | zero => simp [seg]
  | succ m =>
    have hb : o + (m + 1) ≤ c.length := by omega
    simp [seg, h, hb]
theorem src_nil (σ : AHeap) (z c : Nat) : srcOf z (.slice none 0 c) σ = some (0, []) := rfl
theorem src_zero (σ : AHeap) (z c : Nat) (a : Addr) : srcOf z (.slice (some a) 0 c) σ = some (0, []) := by simp [srcOf, seg]
def Own (e z : Nat) (v : Value) (n : Nat) (xs : List Value) : Assn := fun r =>
  (r = Res.emp ∧ n = 0 ∧ xs = [] ∧ (v = .slice none 0 0 ∨ v = .slice (some ⟨ZB, 0, some 0⟩) 0 0)) ∨
  (∃ b c opn rest, pt b (.cells (xs ++ rest) e opn) r ∧ xs.length = n * z ∧ rest.length = (known c - n) * z ∧ v = .slice (some ⟨b, 0, none⟩) n c ∧ n ≤ known c ∧ ((opn = true ∧ OPEN ≤ c ∧ c / OPEN = z) ∨ c < OPEN))
theorem H_own {e z n : Nat} {v : Value} {xs : List Value} {l : List Assn} {σ : AHeap} : H (Own e z v n xs :: l) σ ↔
    ((n = 0 ∧ xs = [] ∧ (v = .slice none 0 0 ∨ v = .slice (some ⟨ZB, 0, some 0⟩) 0 0)) ∧ H l σ) ∨
    (∃ b c opn rest, H (pt b (.cells (xs ++ rest) e opn) :: l) σ ∧ xs.length = n * z ∧ rest.length = (known c - n) * z ∧ v = .slice (some ⟨b, 0, none⟩) n c ∧ n ≤ known c ∧ ((opn = true ∧ OPEN ≤ c ∧ c / OPEN = z) ∨ c < OPEN)) := by
  constructor
  · rintro ⟨r, h, a, k, j, x | ⟨b, c, opn, rest, x, y⟩, hk⟩
    · obtain ⟨rfl, x⟩ := x
      exact .inl ⟨x, r, h, by rw [j.emp_eq]; exact hk⟩
    · exact .inr ⟨b, c, opn, rest, ⟨r, h, a, k, j, x, hk⟩, y⟩
  · rintro (⟨x, r, h, hk⟩ | ⟨b, c, opn, rest, ⟨r, h, a, k, j, x, hk⟩, y⟩)
    · exact ⟨r, h, _, r, Res.Join.emp_left r, .inl ⟨rfl, x⟩, hk⟩
    · exact ⟨r, h, a, k, j, .inr ⟨b, c, opn, rest, x, y⟩, hk⟩
theorem H.own_nil {l : List Assn} {σ : AHeap} (h : H l σ) (e z : Nat) : H (l ++ [Own e z (.slice none 0 0) 0 []]) σ := H.snoc (H_own.2 (.inl ⟨⟨rfl, rfl, .inl rfl⟩, h⟩))
theorem H.own_zb {l : List Assn} {σ : AHeap} (h : H l σ) (e z : Nat) : H (l ++ [Own e z (.slice (some ⟨ZB, 0, some 0⟩) 0 0) 0 []]) σ := H.snoc (H_own.2 (.inl ⟨⟨rfl, rfl, .inr rfl⟩, h⟩))
theorem H.own_src {l : List Assn} {σ : AHeap} (h : H l σ) (i : Nat) {e z n : Nat} {v : Value} {xs : List Value} (hi : l[i]? = some (Own e z v n xs)) :
    srcOf z v σ = some (n, xs) ∧ xs.length = n * z ∧ ∃ a c, v = .slice a n c := by
  rcases H_own.1 (h.front i hi) with ⟨⟨rfl, rfl, rfl | rfl⟩, h⟩ | ⟨b, c, opn, rest, h, hx, hr, rfl, hn, ho⟩
  · exact ⟨rfl, by simp, _, _, rfl⟩
  · exact ⟨src_zero _ _ _ _, by simp, _, _, rfl⟩
  · refine ⟨?_, hx, _, _, rfl⟩
    rw [src_row (row_cells h.get0.1) (by simp; omega)]
    simp [← hx]
theorem poke_ok {l : List Assn} {σ : AHeap} {b o : Nat} {c ys : List Value} {e : TypeId} {opn : Bool} (h : H (pt b (.cells c e opn) :: l) σ) (hv : ys.all one = true) (ho : o + ys.length ≤ c.length) :
    ∃ σ', aPoke ⟨b, o, none⟩ ys σ = some σ' ∧ H (pt b (.cells (splice c o ys) e opn) :: l) σ' := by
  cases ys with
  | nil => exact ⟨σ, rfl, by simpa [splice] using h⟩
  | cons y ys =>
    refine ⟨_, ?_, h.set0 _⟩
    simp only [aPoke, h.get0.1]
    have hv' : ((y :: ys).all Value.oneCell' && Nat.ble (o + (y :: ys).length) c.length) = true := by
      rw [Nat.ble_eq_true_of_le ho, Bool.and_true]; exact hv
    rw [hv']; rfl
theorem splice_mid (xs rest ys : List Value) (o : Nat) (h : o = xs.length) (hr : ys.length ≤ rest.length) : splice (xs ++ rest) o ys = xs ++ ys ++ rest.drop ys.length := by
  subst h
  simp [splice, List.drop_append]
theorem append_own {l : List Assn} {σ : AHeap} (h : H l σ) (i : Nat) {e z by' n m : Nat} {v x : Value} {xs ys : List Value} {k : Value × AHeap → Prop} (hi : l[i]? = some (Own e z v n xs)) (hs : srcOf z x σ = some (m, ys)) (hz : 0 < z)
    (hb : (n + m) * by' ≤ 140737488355328 ∧ n + m ≤ 140737488355328) (hone : ys.all one = true) (hk : ∀ v' σ', H (l.set i (Own e z v' (n + m) (xs ++ ys))) σ' → k (v', σ')) : pu (aAppend e z by' v x σ) k := by
  have hlen : ys.length = m * z := srcOf_len hs
  have hN : n + m < OPEN := by unfold OPEN; omega
  -- a new block in its place
  have new : ∀ (a : Option Addr) (c : Nat) (σ2 : AHeap), v = .slice a n c → ¬ n + m ≤ known c → oldOf z a n σ = some xs → xs.length = n * z → H (l.set i emp) σ2 → σ2.size = σ.size →
      (aAppendN e z by' v m ys σ = some (.slice (some ⟨σ.size, 0, none⟩) (n + m) (OPEN * z + (n + m)), σ2.push (.cells (xs ++ ys) e true))) → pu (aAppend e z by' v x σ) k := by
    intro a c σ2 hv hc hold hxl h2 hsz he
    unfold aAppend
    rw [hs]
    simp only [Option.bind_some, he, pu_some]
    refine hk _ _ (H.back i hi ?_)
    have := (h2.push (.cells (xs ++ ys) e true)).unsnoc
    rw [hsz] at this
    refine H_own.2 (.inr ⟨_, _, true, [], by simpa using this, by simp [hlen, hxl, Nat.add_mul], ?_, rfl, ?_, .inl ⟨rfl, ?_, ?_⟩⟩)
    · have : known (OPEN * z + (n + m)) = n + m := by unfold known; rw [Nat.mul_add_mod, Nat.mod_eq_of_lt hN]
      rw [this]; simp
    · exact (CapOk.open' (z := z) hN).1
    · have : OPEN * 1 ≤ OPEN * z := Nat.mul_le_mul_left _ hz
      omega
    · exact (CapOk.open' (z := z) hN).2.resolve_left (by have : OPEN * 1 ≤ OPEN * z := Nat.mul_le_mul_left _ hz
                                                         omega)
  have hf := h.front i hi
  rcases H_own.1 hf with ⟨⟨rfl, rfl, hv⟩, h2⟩ | ⟨b, c, opn, rest, h2, hx, hr, rfl, hn, ho⟩
  · rcases Nat.eq_zero_or_pos m with rfl | hm
    · have hys : ys = [] := List.length_eq_zero_iff.1 (by simpa using hlen)
      subst hys
      have he : aAppend e z by' v x σ = some (v, σ) := by
        unfold aAppend; rw [hs]
        rcases hv with rfl | rfl <;> simp [aAppendN, known, aPoke]
      rw [he, pu_some]
      refine hk _ _ (H.back i hi (H_own.2 (.inl ⟨⟨rfl, rfl, hv⟩, h2⟩)))
    · rcases hv with rfl | rfl
      · refine new none 0 σ rfl (by simp [known]; omega) rfl (by simp) h2 rfl ?_
        simp only [aAppendN]
        rw [if_neg (by simp [known]; omega), if_pos ⟨by omega, by omega, hz⟩]
        simp [oldOf, OPEN]
      · refine new (some ⟨ZB, 0, some 0⟩) 0 σ rfl (by simp [known]; omega) (by simp [oldOf, seg]) (by simp) h2 rfl ?_
        simp only [aAppendN]
        rw [if_neg (by simp [known]; omega), if_pos ⟨by omega, by omega, hz⟩]
        simp [oldOf, OPEN, seg]
  · by_cases hroom : n + m ≤ known c
    · obtain ⟨σ', hp, h3⟩ := poke_ok (o := n * z) (ys := ys) h2 hone (by
        rw [List.length_append, hx, hr, hlen]
        have : n * z + (known c - n) * z = known c * z := by rw [← Nat.add_mul]; congr 1; omega
        have h4 : (n + m) * z ≤ known c * z := Nat.mul_le_mul_right _ hroom
        rw [Nat.add_mul] at h4; omega)
      have he : aAppend e z by' (.slice (some ⟨b, 0, none⟩) n c) x σ = some (.slice (some ⟨b, 0, none⟩) (n + m) c, σ') := by
        unfold aAppend; rw [hs]
        simp only [Option.bind_some, aAppendN]
        rw [if_pos hroom, add_mk, Nat.zero_add, hp]; rfl
      rw [he, pu_some]
      have hfit : ys.length ≤ rest.length := by rw [hlen, hr]; exact Nat.mul_le_mul_right _ (by omega)
      rw [splice_mid xs rest ys (n * z) hx.symm hfit] at h3
      refine hk _ _ (H.back i hi (H_own.2 (.inr ⟨b, c, opn, rest.drop ys.length, h3, ?_, ?_, rfl, hroom, ho⟩)))
      · rw [List.length_append, hx, hlen, Nat.add_mul]
      · rw [List.length_drop, hr, hlen, ← Nat.sub_mul]; congr 1; omega
    · have hold : oldOf z (some ⟨b, 0, none⟩) n σ = some xs := by
        simp only [oldOf]
        have := (h.own_src i hi).1
        simp only [srcOf, Option.map_eq_some_iff] at this
        obtain ⟨l0, h1, h4⟩ := this
        rw [h1]; cases h4; rfl
      rcases ho with ⟨rfl, hc1, hc2⟩ | hc
      · refine new (some ⟨b, 0, none⟩) c (σ.set b .dead) rfl hroom hold hx (h2.set0 .dead).tail rfl ?_
        simp only [aAppendN]
        rw [if_neg hroom, if_pos ⟨by omega, by omega, hz⟩, hold]
        simp only [Option.bind_some]
        rw [if_neg (by omega), h2.get0.1]
        simp only
        rw [if_pos ⟨trivial, hc2, hone, trivial⟩]
      · refine new (some ⟨b, 0, none⟩) c σ rfl hroom hold hx h2.tail rfl ?_
        simp only [aAppendN]
        rw [if_neg hroom, if_pos ⟨by omega, by omega, hz⟩, hold]
        simp only [Option.bind_some]
        rw [if_pos hc]
theorem copy_ok {l : List Assn} {σ : AHeap} (h : H l σ) (i : Nat) {z b o dl dc xl xc m : Nat} {xb : Option Addr} {c ys : List Value} {e : TypeId} {opn : Bool} {k : Value × AHeap → Prop} (hi : l[i]? = some (pt b (.cells c e opn)))
    (hs : srcOf z (.slice xb (Nat.min xl dl) xc) σ = some (m, ys)) (hone : ys.all one = true) (hl : o + ys.length ≤ c.length)
    (hk : ∀ σ', H (l.set i (pt b (.cells (splice c o ys) e opn))) σ' → k (.int .i64 m, σ')) : pu (aCopy z (.slice (some ⟨b, o, none⟩) dl dc) (.slice xb xl xc) σ) k := by
  obtain ⟨σ', hp, h3⟩ := poke_ok (h.front i hi) hone hl
  have he : aCopy z (.slice (some ⟨b, o, none⟩) dl dc) (.slice xb xl xc) σ = some (.int .i64 m, σ') := by
    simp only [aCopy, hs, Option.bind_some, hp, Option.map_some]
  rw [he, pu_some]
  exact hk _ (H.back i hi h3)
theorem reps_one (n : Nat) (v : Value) : reps n [v] = List.replicate n v := by
  induction n with
  | zero => rfl
  | succ n ih => simp [reps, ih, List.replicate_succ]
theorem make_ok {l : List Assn} {σ : AHeap} (h : H l σ) {e by' : Nat} {zc : List Value} {n c : Int} {k1 k2 : IntKind} {k : Value × AHeap → Prop} (hn : 0 ≤ n ∧ n ≤ c ∧ c * by' ≤ 140737488355328 ∧ c ≤ 140737488355328)
    (hk : ∀ b σ', H (l ++ [pt b (.cells (reps c.toNat zc) e false)]) σ' → k (.slice (some ⟨b, 0, none⟩) n.toNat c.toNat, σ')) : pu (aMake e by' zc (.int k1 n) (.int k2 c) σ) k := by
  have he : aMake e by' zc (.int k1 n) (.int k2 c) σ = some (.slice (some ⟨σ.size, 0, none⟩) n.toNat c.toNat, σ.push (.cells (reps c.toNat zc) e false)) := by
    simp only [aMake, if_pos hn]
  rw [he, pu_some]
  exact hk _ _ (h.push _)
theorem buildS_ok {l : List Assn} {σ : AHeap} (h : H l σ) {e z len : Nat} {zc cs : List Value} {parts : List (Nat × Value)} {k : Value × AHeap → Prop} (hc : (Nat.ble (len * z) 16777216 && Nat.blt 0 z) = true)
    (hf : aFill (fun k => some (k * z, z)) (reps len zc) parts = some cs)
    (hk : ∀ b σ', H (l ++ [pt b (.cells cs e false)]) σ' → k (.slice (some ⟨b, 0, none⟩) len len, σ')) : pu (buildS e z len zc parts σ) k := by
  have he : buildS e z len zc parts σ = some (.slice (some ⟨σ.size, 0, none⟩) len len, σ.push (.cells cs e false)) := by
    simp only [buildS, hc, hf, cond_true, Option.map_some]
  rw [he, pu_some]
  exact hk _ _ (h.push _)
theorem H.own_form {l : List Assn} {σ : AHeap} (h : H l σ) (i : Nat) {e z n : Nat} {v : Value} {xs : List Value} (hi : l[i]? = some (Own e z v n xs)) (hn : 0 < n) :
    ∃ b c, v = .slice (some ⟨b, 0, none⟩) n c ∧ CapOk z n c ∧ ∃ rest, σ.row b = some (xs ++ rest) := by
  rcases H_own.1 (h.front i hi) with ⟨⟨rfl, rfl, rfl | rfl⟩, h⟩ | ⟨b, c, opn, rest, h, hx, hr, rfl, hn, ho⟩
  · omega
  · omega
  · exact ⟨b, c, rfl, ⟨hn, by rcases ho with ⟨_, _, x⟩ | x; exact .inr x; exact .inl x⟩, rest, row_cells h.get0.1⟩
theorem take_drop_append (xs rest : List Value) (a z : Nat) (h : a + z ≤ xs.length) : ((xs ++ rest).drop a).take z = (xs.drop a).take z := by
  rw [List.drop_append_of_le_length (by omega), List.take_append_of_le_length (by simp; omega)]
theorem H.own_elem {l : List Assn} {σ : AHeap} (h : H l σ) (i : Nat) {e z n : Nat} {v : Value} {xs : List Value} (hi : l[i]? = some (Own e z v n xs)) {k : Nat} (hk : k < n) :
    ∃ b, (∀ kd, aIndexAddr z v (.int kd k) = some (.pointer (some ⟨b, k * z, none⟩))) ∧ aLoad true z (.pointer (some ⟨b, k * z, none⟩)) σ = some (.agg ((xs.drop (k * z)).take z).toArray) ∧
      ∀ m j, j < z → aLoad false m (.pointer (some ⟨b, k * z + j, none⟩)) σ = xs[k * z + j]? := by
  obtain ⟨b, c, rfl, hc, rest, hrow⟩ := h.own_form i hi (by omega)
  have hx := (h.own_src i hi).2.1
  have hkz : k * z + z ≤ n * z := by rw [← Nat.succ_mul]; exact Nat.mul_le_mul_right _ hk
  refine ⟨b, fun kd => ?_, ?_, fun m j hj => ?_⟩
  · rw [idxA (by omega)]; simp
  · rw [loadN hrow (by simp; omega), take_drop_append _ _ _ _ (by omega)]
  · rw [load1 hrow, List.getElem?_append_left (by omega)]
theorem splice_append (xs rest ys : List Value) (o : Nat) (h : o + ys.length ≤ xs.length) : splice (xs ++ rest) o ys = splice xs o ys ++ rest := by
  unfold splice
  rw [List.take_append_of_le_length (by omega), List.drop_append_of_le_length (by omega)]
  simp
theorem copy_own {l : List Assn} {σ : AHeap} (h : H l σ) (i : Nat) {e z n b o c dl dc xl xc m : Nat} {xb : Option Addr} {xs ys : List Value} {k : Value × AHeap → Prop} (hi : l[i]? = some (Own e z (.slice (some ⟨b, 0, none⟩) n c) n xs)) (hn : 0 < n)
    (hs : srcOf z (.slice xb (Nat.min xl dl) xc) σ = some (m, ys)) (hone : ys.all one = true) (hl : o + ys.length ≤ xs.length)
    (hk : ∀ σ', H (l.set i (Own e z (.slice (some ⟨b, 0, none⟩) n c) n (splice xs o ys))) σ' → k (.int .i64 m, σ')) : pu (aCopy z (.slice (some ⟨b, o, none⟩) dl dc) (.slice xb xl xc) σ) k := by
  rcases H_own.1 (h.front i hi) with ⟨⟨rfl, rfl, _⟩, h⟩ | ⟨b', c', opn, rest, h1, hx, hr, hv, hn, ho⟩
  · omega
  · cases hv
    obtain ⟨σ', hp, h3⟩ := poke_ok (o := o) h1 hone (by simp; omega)
    have he : aCopy z (.slice (some ⟨b, o, none⟩) dl dc) (.slice xb xl xc) σ = some (.int .i64 m, σ') := by
      simp only [aCopy, hs, Option.bind_some, hp, Option.map_some]
    rw [he, pu_some]
    rw [splice_append _ _ _ _ hl] at h3
    exact hk _ (H.back i hi (H_own.2 (.inr ⟨b, c, opn, rest, h3, by rw [splice_length _ _ _ hl]; exact hx, hr, rfl, hn, ho⟩)))
theorem store_own {l : List Assn} {σ : AHeap} (h : H l σ) (i : Nat) {e z n b o c : Nat} {w : Value} {xs : List Value} {k : AHeap → Prop} (hi : l[i]? = some (Own e z (.slice (some ⟨b, 0, none⟩) n c) n xs)) (hn : 0 < n) (hw : one w = true) (ho : o < xs.length)
    (hk : ∀ σ', H (l.set i (Own e z (.slice (some ⟨b, 0, none⟩) n c) n (xs.set o w))) σ' → k σ') : pu (aStore 1 (.pointer (some ⟨b, o, none⟩)) w σ) k := by
  rcases H_own.1 (h.front i hi) with ⟨⟨rfl, rfl, _⟩, h⟩ | ⟨b', c', opn, rest, h1, hx, hr, hv, hn, ho2⟩
  · omega
  · cases hv
    refine store1 h1 0 rfl hw (by simp; omega) ?_
    intro σ' h3
    simp only [List.set_cons_zero] at h3
    rw [List.set_append_left _ _ ho] at h3
    exact hk _ (H.back i hi (H_own.2 (.inr ⟨b, c, opn, rest, h3, by simpa using hx, hr, rfl, hn, ho2⟩)))
def RoB (v : Value) (x : List UInt8) : Assn := ex fun p : Nat × Nat × Nat × List Value × Nat × Bool =>
  sep (pure' (v = .slice (some ⟨p.1, p.2.1, none⟩) x.length p.2.2.1 ∧ CapOk 1 x.length p.2.2.1 ∧ (p.2.2.2.1.drop p.2.1).take x.length = bv x ∧ p.2.1 + x.length ≤ p.2.2.2.1.length)) (ro p.1 (.cells p.2.2.2.1 p.2.2.2.2.1 p.2.2.2.2.2))
theorem H.rob0 {v : Value} {x : List UInt8} {l : List Assn} {σ : AHeap} (h : H (RoB v x :: l) σ) :
    ∃ b o cap c, v = .slice (some ⟨b, o, none⟩) x.length cap ∧ CapOk 1 x.length cap ∧ σ.row b = some c ∧ (c.drop o).take x.length = bv x ∧ o + x.length ≤ c.length := by
  obtain ⟨p, h⟩ := H_ex.1 h
  rw [H_sep] at h
  obtain ⟨⟨h1, h2, h3, h4⟩, h⟩ := H_pure.1 h
  exact ⟨_, _, _, _, h1, h2, row_cells h.rget0.1, h3, h4⟩
theorem rob_src {σ : AHeap} {b o cap n : Nat} {c : List Value} {x : List UInt8} (hr : σ.row b = some c) (hx : (c.drop o).take x.length = bv x) (hl : o + x.length ≤ c.length) (hn : n ≤ x.length) :
    srcOf 1 (.slice (some ⟨b, o, none⟩) n cap) σ = some (n, bv (x.take n)) := by
  rw [src_row hr (by omega), Nat.mul_one, ← bv_take, ← hx, List.take_take, Nat.min_eq_left hn]
theorem H.rob {l : List Assn} {σ : AHeap} (h : H l σ) (i : Nat) {v : Value} {x : List UInt8} (hi : l[i]? = some (RoB v x)) :
    ∃ b o cap c, v = .slice (some ⟨b, o, none⟩) x.length cap ∧ CapOk 1 x.length cap ∧ σ.row b = some c ∧ (c.drop o).take x.length = bv x ∧ o + x.length ≤ c.length := (h.front i hi).rob0
theorem H_one {l : List Assn} {σ : AHeap} : H [Star l] σ ↔ H l σ := by rw [H_star, List.append_nil]
theorem H_app {l m : List Assn} {σ : AHeap} : H (l ++ m) σ ↔ H (Star l :: m) σ := H_star.symm
theorem H.out {l : List Assn} {σ : AHeap} {A : Assn} (h : H l σ) (i : Nat) (hi : l[i]? = some A) : H [A, Star (l.set i emp)] σ := by
  have := h.front i hi
  exact (H_star.2 (by simpa using this : H ([A] ++ l.set i emp) σ) : H (Star [A] :: l.set i emp) σ) |> fun _ => by
    have h2 : H (A :: l.set i emp) σ := this
    obtain ⟨r, h3, a, b, j, x, y⟩ := h2
    exact ⟨r, h3, a, b, j, x, by simp only [Star]; rw [sep_comm, emp_sep]; exact y⟩
theorem H.in' {l : List Assn} {σ : AHeap} {A B : Assn} (i : Nat) (hi : l[i]? = some A) (h : H [B, Star (l.set i emp)] σ) : H (l.set i B) σ := by
  refine H.back i hi ?_
  obtain ⟨r, h3, a, b, j, x, y⟩ := h
  refine ⟨r, h3, a, b, j, x, ?_⟩
  simp only [Star] at y
  rw [sep_comm, emp_sep] at y
  exact y
theorem H.to_own {l : List Assn} {σ : AHeap} (h : H l σ) (i : Nat) {b e z n : Nat} {xs : List Value} {opn : Bool} (hi : l[i]? = some (pt b (.cells xs e opn))) (hx : xs.length = n * z) (hn : n < OPEN) :
    H (l.set i (Own e z (.slice (some ⟨b, 0, none⟩) n n) n xs)) σ := by
  refine H.back i hi (H_own.2 (.inr ⟨b, n, opn, [], by simpa using h.front i hi, hx, ?_, rfl, ?_, .inr hn⟩))
  · rw [known_lt hn]; simp
  · rw [known_lt hn]; exact Nat.le_refl _
theorem H.emp_end {l : List Assn} {σ : AHeap} (h : H l σ) : H (l ++ [emp]) σ := H.snoc (H_emp.2 h)
structure Rd (σ : AHeap) (v : Value) (x : List UInt8) : Prop where
  src : srcOf 1 v σ = some (x.length, bv x)
  form : ∃ a c, v = .slice a x.length c
  elem : ∀ (k : Nat) (b : UInt8), x[k]? = some b → ∃ p, (∀ kd, aIndexAddr 1 v (.int kd k) = some (.pointer (some p))) ∧ aLoad false 1 (.pointer (some p)) σ = some (by8 b)
theorem Rd.nil (σ : AHeap) (c : Nat) : Rd σ (.slice none 0 c) [] := ⟨rfl, ⟨none, c, rfl⟩, fun k b h => by simp at h⟩
theorem rd_row {σ : AHeap} {b o cap : Nat} {c : List Value} {x : List UInt8} (hr : σ.row b = some c) (hx : (c.drop o).take x.length = bv x) (hl : o + x.length ≤ c.length) : Rd σ (.slice (some ⟨b, o, none⟩) x.length cap) x := by
  refine ⟨?_, ⟨_, _, rfl⟩, fun k y hk => ?_⟩
  · rw [rob_src hr hx hl (Nat.le_refl _), List.take_length]
  · have hlt := (List.getElem?_eq_some_iff.1 hk).1
    refine ⟨⟨b, o + k, none⟩, fun kd => by rw [idxA (by omega)]; simp, ?_⟩
    rw [load1 hr]
    have : ((c.drop o).take x.length)[k]? = (bv x)[k]? := by rw [hx]
    rw [List.getElem?_take, if_pos hlt, List.getElem?_drop, bv_get, hk] at this
    exact this
theorem H.rob_rd {l : List Assn} {σ : AHeap} (h : H l σ) (i : Nat) {v : Value} {x : List UInt8} (hi : l[i]? = some (RoB v x)) : Rd σ v x := by
  obtain ⟨b, o, cap, c, rfl, hc, hr, hx, hl⟩ := h.rob i hi
  exact rd_row hr hx hl
theorem H.beside {l m : List Assn} {σ : AHeap} (h : H l σ) (i : Nat) (hi : l[i]? = some (Star m)) : H m σ := by
  have := h.front i hi
  rw [H_star] at this
  exact this.left
theorem rob_in {l : List Assn} {σ : AHeap} {b o cap : Nat} {x : List UInt8} {c : List Value} {e : Nat} {opn : Bool} (hcap : CapOk 1 x.length cap) (hx : (c.drop o).take x.length = bv x) (hl : o + x.length ≤ c.length) (h : H (ro b (.cells c e opn) :: l) σ) :
    H (RoB (.slice (some ⟨b, o, none⟩) x.length cap) x :: l) σ := H_ex.2 ⟨(b, o, cap, c, e, opn), by rw [H_sep]; exact H_pure.2 ⟨⟨rfl, hcap, hx, hl⟩, h⟩⟩
end Go.Ax
namespace Go.Ax
open Go.RowKit Go.Deep
theorem flatten_part {z : Nat} : ∀ {css : List (List Value)} {k : Nat} {c : List Value}, (∀ c ∈ css, c.length = z) → css[k]? = some c → (css.flatten.drop (k * z)).take z = c
  | [], k, c, _, h => by simp at h
  | x :: css, 0, c, h, hk => by
    simp at hk; subst hk
    simp [h x (by simp)]
  | x :: css, k + 1, c, h, hk => by
    simp at hk
    have hx := h x (by simp)
    rw [List.flatten_cons, show (k + 1) * z = x.length + k * z by rw [hx, Nat.succ_mul]; omega, List.drop_append, List.drop_of_length_le (by omega), List.nil_append]
    have : x.length + k * z - x.length = k * z := by omega
    rw [this]
    exact flatten_part (fun c hc => h c (by simp [hc])) hk
theorem flatten_len {z : Nat} : ∀ {css : List (List Value)}, (∀ c ∈ css, c.length = z) → css.flatten.length = css.length * z
  | [], _ => by simp
  | x :: css, h => by
    rw [List.flatten_cons, List.length_append, h x (by simp), flatten_len fun c hc => h c (by simp [hc]), List.length_cons, Nat.succ_mul]; omega
section
variable (P : Program)
variable {P}
theorem Rel.start (W : World) : Rel W.heap.size W [] ⟨0, .leaf⟩ W := Rel.empty W
end
end Go.Ax
namespace Go.Ax
open Go.RowKit
def hl (l : List (Nat × Hint)) (k : Nat) : Option Hint := l.lookup k
def L (b o : Nat) (σ : AHeap) : Option Value := aLoad false 1 (.pointer (some ⟨b, o, none⟩)) σ
def ldI (k : IntKind) (o : Option Value) (K : Int → Prop) : Prop := om o (tI k K)
def ldB (o : Option Value) (K : Bool → Prop) : Prop := om o (tB K)
def If (c : Bool) (A B : Prop) : Prop :=
  match c with
  | true => A
  | false => B
def Bi (e : Int) (K : Int → Prop) : Prop := K e
def On (v : Value) (p : Prop) : Prop := cond v.oneCell' p False
def w64 (n : Int) : Int := IntKind.i64.wrap n
def wu64 (n : Int) : Int := IntKind.u64.wrap n
def wu32 (n : Int) : Int := IntKind.u32.wrap n
def wu8 (n : Int) : Int := IntKind.u8.wrap n
def St (b o : Nat) (v : Value) (σ : AHeap) (K : AHeap → Prop) : Prop := pu (aStore 1 (.pointer (some ⟨b, o, none⟩)) v σ) K
def pQ (Q : RK) : WK := fun v σ => Q (.pan v) σ
def cI (Q : RK) (k : IntKind) (K : Int → AHeap → Prop) : RK := RP (fun v σ => tI k (fun n => K n σ) v) (pQ Q)
def cB (Q : RK) (K : Bool → AHeap → Prop) : RK := RP (fun v σ => tB (fun n => K n σ) v) (pQ Q)
def cV (Q : RK) (K : WK) : RK := RP K (pQ Q)
def c0 (Q : RK) (K : AHeap → Prop) : RK := RP (r0 K) (pQ Q)
def c2 (Q : RK) (K : Value → Value → AHeap → Prop) : RK := RP (r2 K) (pQ Q)
def c3 (Q : RK) (K : Value → Value → Value → AHeap → Prop) : RK := RP (r3 K) (pQ Q)
def c4 (Q : RK) (K : Value → Value → Value → Value → AHeap → Prop) : RK := RP (r4 K) (pQ Q)
section
variable {Q : RK} {σ : AHeap}
@[simp] theorem cI_ret (k : IntKind) (K : Int → AHeap → Prop) (n : Int) : cI Q k K (.ret (.int k n)) σ = K n σ := by simp [cI, RP, tI]
@[simp] theorem cI_pan (k : IntKind) (K : Int → AHeap → Prop) (v : Value) : cI Q k K (.pan v) σ = Q (.pan v) σ := rfl
@[simp] theorem cB_ret (K : Bool → AHeap → Prop) (n : Bool) : cB Q K (.ret (.bool n)) σ = K n σ := rfl
@[simp] theorem cB_pan (K : Bool → AHeap → Prop) (v : Value) : cB Q K (.pan v) σ = Q (.pan v) σ := rfl
@[simp] theorem cV_ret (K : WK) (v : Value) : cV Q K (.ret v) σ = K v σ := rfl
@[simp] theorem cV_pan (K : WK) (v : Value) : cV Q K (.pan v) σ = Q (.pan v) σ := rfl
@[simp] theorem c0_ret (K : AHeap → Prop) : c0 Q K (.ret (.tuple #[])) σ = K σ := rfl
@[simp] theorem c0_pan (K : AHeap → Prop) (v : Value) : c0 Q K (.pan v) σ = Q (.pan v) σ := rfl
@[simp] theorem c2_ret (K : Value → Value → AHeap → Prop) (a b : Value) : c2 Q K (.ret (.tuple #[a, b])) σ = K a b σ := rfl
@[simp] theorem c2_pan (K : Value → Value → AHeap → Prop) (v : Value) : c2 Q K (.pan v) σ = Q (.pan v) σ := rfl
@[simp] theorem c3_ret (K : Value → Value → Value → AHeap → Prop) (a b c : Value) : c3 Q K (.ret (.tuple #[a, b, c])) σ = K a b c σ := rfl
@[simp] theorem c3_pan (K : Value → Value → Value → AHeap → Prop) (v : Value) : c3 Q K (.pan v) σ = Q (.pan v) σ := rfl
@[simp] theorem c4_ret (K : Value → Value → Value → Value → AHeap → Prop) (a b c d : Value) : c4 Q K (.ret (.tuple #[a, b, c, d])) σ = K a b c d σ := rfl
@[simp] theorem c4_pan (K : Value → Value → Value → Value → AHeap → Prop) (v : Value) : c4 Q K (.pan v) σ = Q (.pan v) σ := rfl
@[simp] theorem om_some (v : Value) (K : Value → Prop) : om (some v) K = K v := rfl
@[simp] theorem ldI_some (k : IntKind) (n : Int) (K : Int → Prop) : ldI k (some (.int k n)) K = K n := by simp [ldI, tI]
@[simp] theorem ldB_some (b : Bool) (K : Bool → Prop) : ldB (some (.bool b)) K = K b := rfl
@[simp] theorem tI_int (k : IntKind) (n : Int) (K : Int → Prop) : tI k K (.int k n) = K n := by simp [tI]
@[simp] theorem tB_bool (b : Bool) (K : Bool → Prop) : tB K (.bool b) = K b := rfl
@[simp] theorem tS_string (s : ByteArray) (K : ByteArray → Prop) : tS K (.string s) = K s := rfl
@[simp] theorem xExt0 (a b : Value) : xExt (.tuple #[a, b]) 0 = some a := rfl
@[simp] theorem xExt1 (a b : Value) : xExt (.tuple #[a, b]) 1 = some b := rfl
@[simp] theorem If_true (A B : Prop) : If true A B = A := rfl
@[simp] theorem If_false (A B : Prop) : If false A B = B := rfl
@[congr] theorem If_congr {c d : Bool} {A B : Prop} (h : c = d) : If c A B = If d A B := by rw [h]
@[congr] theorem om_congr {o p : Option Value} {K : Value → Prop} (h : o = p) : om o K = om p K := by rw [h]
@[congr] theorem ldI_congr {k : IntKind} {o p : Option Value} {K : Int → Prop} (h : o = p) : ldI k o K = ldI k p K := by rw [h]
@[congr] theorem ldB_congr {o p : Option Value} {K : Bool → Prop} (h : o = p) : ldB o K = ldB p K := by rw [h]
@[congr] theorem Bi_congr {e d : Int} {K : Int → Prop} (h : e = d) : Bi e K = Bi d K := by rw [h]
@[congr] theorem tI_congr {k : IntKind} {v u : Value} {K : Int → Prop} (h : v = u) : tI k K v = tI k K u := by rw [h]
@[congr] theorem tB_congr {v u : Value} {K : Bool → Prop} (h : v = u) : tB K v = tB K u := by rw [h]
@[congr] theorem On_congr {v u : Value} {p : Prop} (h : v = u) : On v p = On u p := by rw [h]
@[congr] theorem St_congr {b o : Nat} {v u : Value} {σ : AHeap} {K : AHeap → Prop} (h : v = u) : St b o v σ K = St b o u σ K := by rw [h]
theorem On_one {v : Value} {p : Prop} (h : one v = true) (k : p) : On v p := by
  have h : v.oneCell' = true := h
  unfold On; rw [h]; exact k
theorem If_dec {p : Prop} [Decidable p] {A B : Prop} (h1 : p → A) (h2 : ¬ p → B) : If (decide p) A B := by
  by_cases h : p
  · rw [decide_eq_true h]; exact h1 h
  · rw [decide_eq_false h]; exact h2 h
theorem If_ne {p : Prop} [Decidable p] {A B : Prop} (h1 : ¬ p → A) (h2 : p → B) : If (!decide p) A B := by
  by_cases h : p
  · rw [decide_eq_true h]; exact h2 h
  · rw [decide_eq_false h]; exact h1 h
theorem If_b {c : Bool} {A B : Prop} (h1 : c = true → A) (h2 : c = false → B) : If c A B := by cases c; exact h2 rfl; exact h1 rfl
theorem If_t {c : Bool} {A B : Prop} (h : c = true) (k : A) : If c A B := by rw [h]; exact k
theorem If_f {c : Bool} {A B : Prop} (h : c = false) (k : B) : If c A B := by rw [h]; exact k
theorem bi {e m : Int} {K : Int → Prop} (h : e = m) (k : K m) : Bi e K := by rw [h]; exact k
theorem w64_eq {n : Int} (h : -9223372036854775808 ≤ n ∧ n < 9223372036854775808) : w64 n = n := wrap_i64 h
theorem wu64_eq {n : Int} (h : 0 ≤ n ∧ n < 18446744073709551616) : wu64 n = n := wrap_u64 h
theorem wu8_eq {n : Int} (h : 0 ≤ n ∧ n < 256) : wu8 n = n := wrap_u8 h
theorem b64 {e : Int} {K : Int → Prop} (m : Int) (h : e = m ∧ -9223372036854775808 ≤ m ∧ m < 9223372036854775808) (k : K m) : Bi (w64 e) K := by
  rw [h.1, w64_eq h.2]; exact k
theorem bu64 {e : Int} {K : Int → Prop} (m : Int) (h : e = m ∧ 0 ≤ m ∧ m < 18446744073709551616) (k : K m) : Bi (wu64 e) K := by
  rw [h.1, wu64_eq h.2]; exact k
theorem bu8 {e : Int} {K : Int → Prop} (m : Int) (h : e = m ∧ 0 ≤ m ∧ m < 256) (k : K m) : Bi (wu8 e) K := by
  rw [h.1, wu8_eq h.2]; exact k
end
class GetL (l : List Value) (i : Nat) (v : outParam Value) : Prop where
  eq : l[i]? = some v
instance (v : Value) (l : List Value) : GetL (v :: l) 0 v := ⟨rfl⟩
instance (v w : Value) (l : List Value) (i : Nat) [h : GetL l i v] : GetL (w :: l) (i + 1) v := ⟨by simpa using h.eq⟩
class SetL (l : List Value) (i : Nat) (v : Value) (l' : outParam (List Value)) : Prop where
  eq : l.set i v = l'
  lt : i < l.length
instance (u v : Value) (l : List Value) : SetL (u :: l) 0 v (v :: l) := ⟨rfl, by simp⟩
instance (u v : Value) (l l' : List Value) (i : Nat) [h : SetL l i v l'] : SetL (u :: l) (i + 1) v (u :: l') := ⟨by simp [h.eq], by simpa using h.lt⟩
class AtB (l : List Assn) (b : Nat) (A : outParam Assn) (r : outParam (List Assn)) : Prop where
  perm : l.Perm (A :: r)
instance (b : Nat) (o : AObj) (l : List Assn) : AtB (pt b o :: l) b (pt b o) l := ⟨.refl _⟩
instance (b : Nat) (o : AObj) (l : List Assn) : AtB (ro b o :: l) b (ro b o) l := ⟨.refl _⟩
instance (priority := 100) (A B : Assn) (l r : List Assn) (b : Nat) [h : AtB l b A r] : AtB (B :: l) b A (B :: r) := ⟨(h.perm.cons B).trans (.swap _ _ _)⟩
class AtV (l : List Assn) (v : Value) (A : outParam Assn) (r : outParam (List Assn)) : Prop where
  perm : l.Perm (A :: r)
instance (e z n : Nat) (v : Value) (xs : List Value) (l : List Assn) : AtV (Own e z v n xs :: l) v (Own e z v n xs) l := ⟨.refl _⟩
instance (v : Value) (x : List UInt8) (l : List Assn) : AtV (RoB v x :: l) v (RoB v x) l := ⟨.refl _⟩
instance (priority := 100) (A B : Assn) (l r : List Assn) (v : Value) [h : AtV l v A r] : AtV (B :: l) v A (B :: r) := ⟨(h.perm.cons B).trans (.swap _ _ _)⟩
class Fnd (l : List Assn) (A : Assn) (r : outParam (List Assn)) : Prop where
  perm : l.Perm (A :: r)
instance (A : Assn) (l : List Assn) : Fnd (A :: l) A l := ⟨.refl _⟩
instance (priority := 100) (A B : Assn) (l r : List Assn) [h : Fnd l A r] : Fnd (B :: l) A (B :: r) := ⟨(h.perm.cons B).trans (.swap _ _ _)⟩
section
variable {l r : List Assn} {σ : AHeap}
theorem H.atv (v : Value) {A : Assn} (h : H l σ) [k : AtV l v A r] : H (A :: r) σ := h.perm k.perm
theorem H.atb (b : Nat) {A : Assn} (h : H l σ) [k : AtB l b A r] : H (A :: r) σ := h.perm k.perm
theorem H.fnd (A : Assn) (h : H l σ) [k : Fnd l A r] : H (A :: r) σ := h.perm k.perm
class Row (l : List Assn) (b : Nat) (c : outParam (List Value)) : Prop where
  row : ∀ σ, H l σ → σ.row b = some c
instance (b : Nat) (c : List Value) (e : TypeId) (q : Bool) (l : List Assn) : Row (pt b (.cells c e q) :: l) b c := ⟨fun _ h => row_cells h.get0.1⟩
instance (b : Nat) (c : List Value) (e : TypeId) (q : Bool) (l : List Assn) : Row (ro b (.cells c e q) :: l) b c := ⟨fun _ h => row_cells h.rget0.1⟩
instance (b : Nat) (c : List Value) (e : TypeId) (l : List Assn) : Row (ro b (.ro c e) :: l) b c := ⟨fun _ h => row_ro h.rget0.1⟩
instance (priority := 100) (A : Assn) (b : Nat) (c : List Value) (l : List Assn) [k : Row l b c] : Row (A :: l) b c := ⟨fun σ h => k.row σ h.tail⟩
theorem L_eq {b o : Nat} {c : List Value} {v : Value} (h : H l σ) [k : Row l b c] [g : GetL c o v] : L b o σ = some v := by
  unfold L
  rw [load1 (k.row σ h), g.eq]
theorem st {b o : Nat} {c c' : List Value} {e : TypeId} {q : Bool} {v : Value} {K : AHeap → Prop} (h : H l σ) [f : AtB l b (pt b (.cells c e q)) r] [g : SetL c o v c'] (hv : one v = true) (k : ∀ σ', H (pt b (.cells c' e q) :: r) σ' → K σ') : St b o v σ K := by
  unfold St
  refine store1 (h.perm f.perm) 0 rfl hv g.lt fun σ' h' => k σ' ?_
  rw [g.eq] at h'
  exact h'
theorem nw {o : AObj} {K : Nat → AHeap → Prop} (h : H l σ) (k : ∀ b σ', H (pt b o :: l) σ' → K b σ') : wNew σ o K := new_ok h fun b σ' h' => k b σ' h'.unsnoc
end
end Go.Ax
set_option maxRecDepth 100000
namespace Go.Ax
open Go.Proofs Go.RowKit
theorem Ev.law {P : Program} {f : FuncId} {fn : Func} (hf : P.funcs[f]? = some fn) (hb : fn.body.isNone = false) {args args' : List Value} {ρ : List RB} {σ : AHeap} {W : World}
    (hr : Rel W.heap.size W ρ σ W) (ha : LR ρ args args') (h : Ev P f args σ fun r _ => r = .ret (.bool true)) : Calls P f args'.toArray W fun e w' => e = .returned (.bool true) ∧ Below W.heap.size W w' := by
  obtain ⟨fn', h1, h2, h3⟩ := h _ _ _ _ _ hr ha
  rw [hf] at h1; cases h1
  rcases h3 with ⟨_, hc⟩ | ⟨v, v', ρ', σ', w', _, hrun, _⟩
  · refine hc.mono fun e w' he => ?_
    obtain ⟨r, ρ', σ', hq, hres, _, hr'⟩ := he
    subst hq
    obtain ⟨v', rfl, hv⟩ := hres
    rw [hv.bool_inv]
    exact ⟨rfl, hr'.below⟩
  · rw [run_callFunc hf h2 hb] at hrun
    simp at hrun
variable {l : List Assn} {σ : AHeap}
variable {P : Program}
end Go.Ax
namespace Go.Ax
open Go.RowKit
def Dv (P : Program) (g : FuncId) (caps : List Value) (rv : Option Value) (σ : AHeap) (K : AHeap → Prop) : Prop :=
  ∀ B w0 ρ w args', Rel B w0 ρ σ w → LR ρ caps args' → ∃ fn, P.funcs[g]? = some fn ∧ (fn.name == "runtime.NumGoroutine") = false ∧ fn.body.isNone = false ∧
    ∀ u u', (match rv with
      | none => u = .returning ∧ u' = .returning
      | some v => ∃ v', VR ρ v v' ∧ u = .panicking [{ v := v', recovered := false }] ∧ u' = .panicking [{ v := v', recovered := true }]) →
      CallsD P g args'.toArray u w fun e u2 w' => (∃ v, e = .returned v) ∧ u2 = u' ∧ ∃ ρ' σ', K σ' ∧ Ext ρ ρ' ∧ Rel B w0 ρ' σ' w'
def recT : AC → Option (Nat × Nat × Oper × List Oper × AC)
  | .seq (.region id (o :: os)) b => match o.dst, o.op, o.guard with
    | some t, .call c, none => match c.callee with
      | .builtin .recover => some (t, id, o, os, b)
      | _ => none
    | _, _, _ => none
  | _ => none
theorem recT_some {ac : AC} {t id : Nat} {o : Oper} {os : List Oper} {b : AC} (h : recT ac = some (t, id, o, os, b)) : ac = .seq (.region id (o :: os)) b ∧ o.dst = some t ∧ (∃ c, o.op = .call c ∧ c.callee = .builtin .recover) ∧ o.guard = none := by
  unfold recT at h
  split at h
  · rename_i id' o' os' b'
    split at h
    · rename_i t' c' hd hop hg
      split at h
      · rename_i hcal
        simp only [Option.some.injEq, Prod.mk.injEq] at h
        obtain ⟨rfl, rfl, rfl, rfl, rfl⟩ := h
        exact ⟨rfl, hd, ⟨c', hop, hcal⟩, hg⟩
      · cases h
    · cases h
  · cases h
def xclo (P : Program) (E : EvT) (fn : Func) (h : Nat → Option Hint) (kd : Nat → VT) (caps : List Value) (rv : Option Value) (σ : AHeap) (K : AHeap → Prop) : Prop :=
  match recT (toAC h (fn.body.getD .skip) 0).1 with
  | some (t, _, o, os, b) => cond (Nat.beq caps.length (fn.params.size + fn.nfree) && fn.results.toList.isEmpty) (xops P E (o :: os) (fun _ _ => False) os none (xpc P E kd (fun _ _ => False) b (fun _ σ => K σ) (fun _ _ _ => False) (fun _ σ => K σ)) (fput (fmake (List.range (fn.params.size + fn.nfree)) caps) (some t) (rv.getD .nilIface)) σ) False
  | none => False
def kq (K : AHeap → Prop) : RK := fun r σ => match r with
  | .ret _ => K σ
  | .pan _ => False
@[simp] theorem kq_ret (K : AHeap → Prop) (v : Value) (σ : AHeap) : kq K (.ret v) σ = K σ := rfl
theorem upon_weak {P : Program} {o : Oper} {a : Act} {next next' : Act → World → Prop} {Q Q' : Exit → Act → World → Prop} {r : Result Next} (hn : ∀ a w, next a w → next' a w) (hq : ∀ e a w, Q e a w → Q' e a w) (h : o.upon P a next Q r) : o.upon P a next' Q' r := by
  unfold Oper.upon at h ⊢
  split at h
  · exact hn _ _ h
  · exact hn _ _ h
  · exact hn _ _ h
  · refine Calls.mono h fun e w' he => ?_
    cases e with
    | returned v => exact hn _ _ he
    | panicked c => exact hq _ _ _ he
    | outgrown => obtain ⟨a, w, h⟩ := he; exact ⟨a, w, hq _ _ _ h⟩
  · exact Rows.mono h fun v w' => hn _ _
  · exact hq _ _ _ h
  · exact h.elim
theorem wpOpsS_of {P : Program} {ops : Array Oper} {Q : Exit → Act → World → Prop} {Q' : Exit → Act → List Frame → World → Prop} {cs : List Frame} (hQ : ∀ a w, ¬ Q .outgrown a w) (hq : ∀ e a w, Q e a w → Q' e a cs w) :
    ∀ (l : List Nat) (a : Act) (w : World), wpOps P ops Q l a w → wpOpsS P ops Q' l a cs w
  | [], a, w, h => hq _ _ _ h
  | i :: rest, a, w, h => by
    unfold wpOps at h
    unfold wpOpsS
    cases ho : ops[i]? with
    | none => rw [ho] at h; exact wpOpsS_of hQ hq rest a w h
    | some o =>
      rw [ho] at h
      simp only at h ⊢
      split
      · rename_i hw
        rw [if_pos hw] at h
        rcases h with h | ⟨_, a2, w2, h⟩
        · unfold Oper.wp at h
          split
          · rename_i w' hr
            rw [hr] at h
            exact h.elim
          · exact upon_weak (fun a w h => wpOpsS_of hQ hq rest a w h) (fun e a w h => hq e a w h) h
        · exact absurd h (hQ a2 w2)
      · rename_i hw
        rw [if_neg hw] at h
        exact wpOpsS_of hQ hq rest _ w h
theorem exec_recover {P : Program} {o : Oper} {c : Call} {ev : Operand → Value} {w : World} (ho : o.op = .call c) (hc : c.callee = .builtin .recover) : (execOp ev o).run P w = .ok .recover w := by
  have : o = { o with op := .call c } := by rw [← ho]
  rw [this]
  simp [execOp, resolve, hc, invoke, builtin]
theorem Dv.of {P : Program} (hm : P.follows .mixedOrders = true) {g : FuncId} {fn : Func} (hf : P.funcs[g]? = some fn) (h : Nat → Option Hint) (kd : Nat → VT) (hc : fnChk fn h = true) {caps : List Value} {rv : Option Value} {σ : AHeap} {K : AHeap → Prop}
    (hx : xclo P (Ev P) fn h kd caps rv σ K) : Dv P g caps rv σ K := by
  intro B w0 ρ w args' hr ha
  unfold fnChk at hc
  simp only [Bool.and_eq_true, Bool.not_eq_true'] at hc
  obtain ⟨⟨⟨h1, h2⟩, h3⟩, h4⟩ := hc
  obtain ⟨c, hcb⟩ := Option.isSome_iff_exists.1 h1
  rw [hcb] at h2
  simp only [Option.getD_some] at h2
  refine ⟨fn, hf, h4, by simp [hcb], fun u u' hu => ?_⟩
  unfold xclo at hx
  rw [hcb] at hx
  simp only [Option.getD_some] at hx
  cases hrec : recT (toAC h c 0).1 with
  | none => rw [hrec] at hx; exact hx.elim
  | some q =>
    obtain ⟨t, id, o, os, b⟩ := q
    rw [hrec] at hx
    simp only at hx
    obtain ⟨hac, hdst, ⟨cl, hop, hcal⟩, hgd⟩ := recT_some hrec
    cases hlen : (Nat.beq caps.length (fn.params.size + fn.nfree) && fn.results.toList.isEmpty) with
    | false => rw [hlen] at hx; exact hx.elim
    | true =>
    rw [hlen] at hx
    simp only [cond_true] at hx
    rw [Bool.and_eq_true] at hlen
    have hlen1 := Nat.eq_of_beq_eq_true hlen.1
    have hres : fn.results.toList = [] := by simpa using hlen.2
    have hce : c = Code.seq (Code.region id (o :: os).toArray false) b.erase := by
      rw [← erase_toAC h c 0, hac]; rfl
    rw [hac] at h2
    simp only [AC.wf, Bool.and_eq_true] at h2
    let C : Cx := ⟨fn.ntmps, [], [], fun _ => undef⟩
    have hstart : FR C ρ (fmake (List.range (fn.params.size + fn.nfree)) caps) { tmps := args'.toArray ++ Array.replicate (fn.ntmps - args'.toArray.size) undef, defers := [] } := FR.start ha hlen1 (Nat.le_of_ble_eq_true h3)
    -- the recovered value, and who stands beneath
    refine callsD_of_wpS hf hcb fun c₀ cs hcm => ?_
    let R : Ending → FrameMode → World → Prop := fun e u2 w' => (∃ v, e = .returned v) ∧ u2 = u' ∧ ∃ ρ' σ', K σ' ∧ Ext ρ ρ' ∧ Rel B w0 ρ' σ' w'
    let Fin : Act → World → Prop := fun a w2 => a.defers = [] ∧ ∃ v, (results fn a.tmps).run P w2 = .ok v w2 ∧ ∃ ρ' σ', K σ' ∧ Ext ρ ρ' ∧ Rel B w0 ρ' σ' w2
    let Q2 : Exit → Act → World → Prop := fun e a w2 => match e with
      | .normal => Fin a w2
      | .ret => Fin a w2
      | _ => False
    let Q1 : Exit → Act → World → Prop := fun e a w2 => match e with
      | .normal => b.erase.wp P Q2 a w2
      | .ret => Fin a w2
      | _ => False
    have hdo : C.ok t := dstOk_spec (List.all_eq_true.1 h2.1 o (by simp)) t hdst
    have main : ∀ rvm, VR ρ (rv.getD .nilIface) rvm → wpOps P (o :: os).toArray Q1 (List.range' 1 os.length) (Act.put { tmps := args'.toArray ++ Array.replicate (fn.ntmps - args'.toArray.size) undef, defers := [] } (some t) rvm) w := by
      intro rvm hvr
      have hend : KS B w0 C ρ (fun _ σ => K σ) Fin := fun ρ2 fr2 σ2 a2 w2 e2 hf2 hr2 hk2 => by
        refine ⟨hf2.kp.defers, ?_⟩
        obtain ⟨v, hv, _⟩ := ret_sound (fn := fn) (res := []) (Q := fun _ _ => True) (fr := fr2) hres hr2 (fun x hx => by simp at hx) (by trivial)
        exact ⟨v, hv, ρ2, σ2, hk2, e2, hr2⟩
      refine wops_sound (C := C) (all := o :: os) os 1 none rfl (fun o' ho' => List.all_eq_true.1 h2.1 o' (by simp [ho'])) ρ _ σ _ w ?_ ?_ (hstart.put hvr (fun d hd => by cases hd; exact hdo)) hr trivial (xops_w (kp' := fun _ _ => False) (fun _ _ h => h) (fun fr σ h => xpc_w (P := P) kd (kp' := fun _ _ => False) (fun _ _ h => h) b (qn' := fun _ σ => K σ) (qe' := fun _ _ _ => False) (qr' := fun _ σ => K σ) (fun _ _ h => h) (fun _ _ _ h => h) (fun _ _ h => h) fr σ h) os none _ σ hx)
      · intro ρ2 fr2 σ2 a2 w2 e2 hf2 hr2 hx2
        exact wpc_sound hm b (C := C) h2.2 _ _ _ Q2 ρ2 fr2 σ2 a2 w2 (hend.mono e2) (fun i ρ3 fr3 σ3 a3 w3 _ _ _ hx3 => hx3.elim) (hend.mono e2) (fun ρ3 v v' σ3 a3 w3 _ _ _ _ hx3 => hx3.elim) hf2 hr2 hx2
      · exact fun ρ3 v v' σ3 a3 w3 _ _ _ _ hx3 => hx3.elim
    have fin : ∀ rvm, VR ρ (rv.getD .nilIface) rvm → wpOpsS P (o :: os).toArray (Exit.thenS (b.erase.wpS P (bodyPostS P fn c₀ cs R)) (bodyPostS P fn c₀ cs R)) (List.range' 1 os.length) (Act.put { tmps := args'.toArray ++ Array.replicate (fn.ntmps - args'.toArray.size) undef, defers := [] } (some t) rvm) ({ c₀ with mode := u' } :: cs) w := by
      intro rvm hvr
      have hF : ∀ a2 w2, Fin a2 w2 → a2.defers = [] ∧ ∃ u2, ({ c₀ with mode := u' } :: cs : List Frame) = { c₀ with mode := u2 } :: cs ∧ ∃ v, (results fn a2.tmps).run P w2 = .ok v w2 ∧ R (.returned v) u2 w2 := by
        rintro a2 w2 ⟨g1, v, g2, g3⟩
        exact ⟨g1, u', rfl, v, g2, ⟨v, rfl⟩, rfl, g3⟩
      refine wpOpsS_of (Q := Q1) (fun a w h => h) ?_ _ _ _ (main rvm hvr)
      intro e a2 w2 hq
      cases e with
      | normal =>
        refine wpS_of_wp (wp_mono hq fun e2 a3 w3 hq2 => ?_)
        cases e2 with
        | normal => exact hF a3 w3 hq2
        | ret => exact hF a3 w3 hq2
        | _ => exact hq2.elim
      | ret => exact hF a2 w2 hq
      | _ => exact hq.elim
    rw [hce]
    refine wpS_seq (wpS_region ?_)
    have hrange : List.range (o :: os).toArray.size = 0 :: List.range' 1 os.length := by
      simp [List.range_eq_range', List.range'_succ]
    rw [hrange]
    unfold wpOpsS
    have h0 : (o :: os).toArray[0]? = some o := by simp
    rw [h0]
    simp only
    have hw : Region.wanted o (yielded (o :: os).toArray (Act.tmps { tmps := args'.toArray ++ Array.replicate (fn.ntmps - args'.toArray.size) undef, defers := [] })) = true := by simp [Region.wanted, hgd]
    rw [if_pos hw, exec_recover hop hcal]
    simp only
    rw [hdst]
    cases rv with
    | none =>
      simp only at hu
      obtain ⟨rfl, rfl⟩ := hu
      have hrd : recoverD (c₀ :: cs) = none := by simp [recoverD, hcm]
      rw [hrd]
      have hc0 : ({ c₀ with mode := .returning } : Frame) = c₀ := by rw [← hcm]
      have := fin .nilIface .nilIface
      rw [hc0] at this
      exact this
    | some v =>
      simp only at hu
      obtain ⟨v', hv, rfl, rfl⟩ := hu
      have hrd : recoverD (c₀ :: cs) = some (v', { c₀ with mode := .panicking [{ v := v', recovered := true }] } :: cs) := by simp [recoverD, hcm]
      rw [hrd]
      exact fin v' hv
def dfrOf : AC → Option (Nat × FuncId × Array Operand × Nat × Oper × Oper)
  | .region id [o1, o2] => match o1.dst, o1.op, o1.guard, o2.dst, o2.op, o2.guard with
    | some t, .makeFunc (.func g) first caps, none, none, .defer c, none => match c.callee with
      | .value (.tmp t') => cond (Nat.beq t t' && first.toList.isEmpty && c.args.toList.isEmpty) (some (t, g, caps, id, o1, o2)) none
      | _ => none
    | _, _, _, _, _, _ => none
  | _ => none
theorem dfrOf_some {ac : AC} {t id : Nat} {g : FuncId} {caps : Array Operand} {o1 o2 : Oper} (h : dfrOf ac = some (t, g, caps, id, o1, o2)) : ac = .region id [o1, o2] ∧ o1.dst = some t ∧ (∃ first, o1.op = .makeFunc (.func g) first caps ∧ first = #[]) ∧ o1.guard = none ∧ o2.dst = none ∧ (∃ c, o2.op = .defer c ∧ c.callee = .value (.tmp t) ∧ c.args = #[]) ∧ o2.guard = none := by
  unfold dfrOf at h
  split at h
  · rename_i id' o1' o2'
    split at h
    · rename_i t1 g1 first1 caps1 c1 h1 h2 h3 h4 h5 h6
      split at h
      · rename_i t' hcal
        cases hb : (Nat.beq t1 t' && first1.toList.isEmpty && c1.args.toList.isEmpty) with
        | false => rw [hb] at h; cases h
        | true =>
          rw [hb] at h
          simp only [cond_true, Option.some.injEq, Prod.mk.injEq] at h
          obtain ⟨rfl, rfl, rfl, rfl, rfl, rfl⟩ := h
          simp only [Bool.and_eq_true] at hb
          have e1 := Nat.eq_of_beq_eq_true hb.1.1
          subst e1
          exact ⟨rfl, h1, ⟨first1, h2, by simpa using hb.1.2⟩, h3, h4, ⟨c1, h5, hcal, by simpa using hb.2⟩, h6⟩
      · cases h
    · cases h
  · cases h
def qd (P : Program) (g : FuncId) (cs : List Value) (K : AHeap → Prop) : RK := fun r σ => Dv P g cs (match r with
  | .ret _ => none
  | .pan v => some v) σ K
def xpcD (P : Program) (E : EvT) (kd : Nat → VT) (res : List ResultVar) (Q : RK) : AC → FK
  | .seq a b => match dfrOf a with
    | some (t, g, caps, _, _, _) => fun fr σ => xpc P E kd (fun v σ => qd P g (caps.toList.map (fev fr)) (fun σ' => wret P res Q (fput fr (some t) (.func (.func g) #[] (caps.toList.map (fev fr)).toArray)) σ') (.pan v) σ) b
        (fun _ σ => qd P g (caps.toList.map (fev fr)) (fun σ' => wret P res Q (fput fr (some t) (.func (.func g) #[] (caps.toList.map (fev fr)).toArray)) σ') (.ret (.tuple #[])) σ) (fun _ _ _ => False)
        (fun _ σ => qd P g (caps.toList.map (fev fr)) (fun σ' => wret P res Q (fput fr (some t) (.func (.func g) #[] (caps.toList.map (fev fr)).toArray)) σ') (.ret (.tuple #[])) σ) (fput fr (some t) (.func (.func g) #[] (caps.toList.map (fev fr)).toArray)) σ
    | none => xpc P E kd (fun v σ => Q (.pan v) σ) a (xpcD P E kd res Q b) (fun _ _ _ => False) (wret P res Q)
  | _ => fun _ _ => False
def resSlots (res : List ResultVar) : List Nat := res.map fun | .tmp t => t | .cell a _ => a
def tailOk (N : Nat) (L : List Nat) : AC → Bool
  | .seq a b => match dfrOf a with
    | some _ => b.wf N L
    | none => tailOk N L b
  | _ => false
def xfnD (P : Program) (E : EvT) (fn : Func) (h : Nat → Option Hint) (kd : Nat → VT) (args : List Value) (σ : AHeap) (Q : RK) : Prop :=
  cond (Nat.beq args.length (fn.params.size + fn.nfree)) (xpcD P E kd fn.results.toList Q (toAC h (fn.body.getD .skip) 0).1 (fmake (List.range (fn.params.size + fn.nfree)) args) σ) False
def fnChkD (fn : Func) (h : Nat → Option Hint) : Bool := fnChk fn h && tailOk fn.ntmps (resSlots fn.results.toList) (toAC h (fn.body.getD .skip) 0).1
theorem xpcD_sound {P : Program} (hm : P.follows .mixedOrders = true) {B : Nat} {w0 : World} {fn : Func} {ρ0 : List RB} {kd : Nat → VT} {Q : RK} : ∀ (c : AC), c.wf fn.ntmps [] = true → tailOk fn.ntmps (resSlots fn.results.toList) c = true → ∀ ρ fr σ a w, Ext ρ0 ρ → FR ⟨fn.ntmps, [], [], fun _ => undef⟩ ρ fr a → Rel B w0 ρ σ w →
    xpcD P (Ev P) kd fn.results.toList Q c fr σ → c.erase.wp P (bodyPostD P fn fun e w' => ∃ r ρ' σ', Q r σ' ∧ ResR ρ' r e ∧ Ext ρ0 ρ' ∧ Rel B w0 ρ' σ' w') a w := by
  intro c
  induction c with
  | seq x y _ ihy =>
    intro hwf htl ρ fr σ a w e0 hf hr hx
    simp only [AC.wf, Bool.and_eq_true] at hwf
    unfold xpcD at hx
    unfold tailOk at htl
    let C : Cx := ⟨fn.ntmps, [], [], fun _ => undef⟩
    cases hd : dfrOf x with
    | none =>
      rw [hd] at hx htl
      refine wp_seq (wpc_sound hm x (C := C) hwf.1 (xpcD P (Ev P) kd fn.results.toList Q y) (fun _ _ _ => False) (wret P fn.results.toList Q) _ ρ fr σ a w ?_ (fun i ρ2 fr2 σ2 a2 w2 _ _ _ hx2 => hx2.elim) ?_ (kp := fun v σ => Q (.pan v) σ) ?_ hf hr ?_)
      · intro ρ2 fr2 σ2 a2 w2 e2 hf2 hr2 hx2
        exact ihy hwf.2 htl ρ2 fr2 σ2 a2 w2 (e0.trans e2) hf2 hr2 hx2
      · intro ρ2 fr2 σ2 a2 w2 e2 hf2 hr2 hx2
        show Leaves P fn a2.tmps _ a2.defers .returning w2
        have hdf : a2.defers = [] := hf2.kp.defers
        rw [hdf]
        obtain ⟨v, h3, r, h4, h5⟩ := ret_sound rfl hr2 (fun x _ => by cases x <;> exact hf2.val _) hx2
        exact ⟨v, h3, r, ρ2, σ2, h4, h5, e0.trans e2, hr2⟩
      · intro ρ2 v v' σ2 a2 w2 e2 hk h2 hv hx2
        show Leaves P fn a2.tmps _ a2.defers _ w2
        have hdf : a2.defers = [] := hk.defers
        rw [hdf]
        exact ⟨.pan v, ρ2, σ2, hx2, ⟨v', rfl, hv⟩, e0.trans e2, h2⟩
      · exact xpc_w kd (fun _ _ h => h) x (fun _ _ h => h) (fun _ _ _ h => h) (fun _ _ h => h) _ _ hx
    | some q =>
      obtain ⟨t, g, caps, id, o1, o2⟩ := q
      rw [hd] at hx htl
      simp only at hx htl
      obtain ⟨hxa, d1, ⟨first, d2, d2'⟩, d3, d4, ⟨cl, d5, d6, d7⟩, d8⟩ := dfrOf_some hd
      subst d2'
      rw [hxa] at hwf ⊢
      have hcok : C.ok t := dstOk_spec (List.all_eq_true.1 hwf.1 o1 (by simp)) t d1
      refine wp_seq (wp_region ?_)
      show wpOps P #[o1, o2] _ [0, 1] a w
      unfold wpOps
      have g0 : (#[o1, o2] : Array Oper)[0]? = some o1 := rfl
      rw [g0]
      simp only
      rw [if_pos (by simp [Region.wanted, d3])]
      refine .inl (wval_sound (C := C) (kp := fun _ _ => False) (K := fun v σ' => v = .func (.func g) #[] (caps.toList.map (fev fr)).toArray ∧ σ' = σ) (fun x _ => hf.ev x) hr (by simp [wval, d2]) ?_ (fun ρ3 v v' σ3 a3 w3 _ _ _ _ hx3 => hx3.elim) hf.kp)
      rintro v σ1 ρ1 v' w1 ⟨rfl, rfl⟩ e1 hr1 hv1
      rw [d1]
      have hf1 : FR C ρ1 (fput fr (some t) (.func (.func g) #[] (caps.toList.map (fev fr)).toArray)) (a.put (some t) v') := (hf.mono e1).put hv1 (fun d hd => by cases hd; exact hcok)
      unfold wpOps
      have g1 : (#[o1, o2] : Array Oper)[1]? = some o2 := rfl
      rw [g1]
      simp only
      rw [if_pos (by simp [Region.wanted, d8])]
      refine .inl ?_
      have hvt := hf1.val t
      have hft : fget (fput fr (some t) (.func (.func g) #[] (caps.toList.map (fev fr)).toArray)) t = .func (.func g) #[] (caps.toList.map (fev fr)).toArray := by simp only [fput, fget_set, if_pos]
      rw [hft] at hvt
      generalize hfa : (a.put (some t) v').tmps.getD t undef = fa at hvt
      cases hvt with
      | func fn0 f1 f' c1 c' h1 h2 h3 h4 =>
        have hf'0 : f' = #[] := Array.eq_empty_of_size_eq_zero (by simpa using h1.symm)
        subst hf'0
        have hcaps : LR ρ1 (caps.toList.map (fev fr)) c'.toList := by
          have := LR.of_arr h2 h4
          simpa using this
        unfold Oper.wp
        have hexec : (execOp (a.put (some t) v').eval o2).run P w1 = .ok (.defer { target := .fn (.func g) c', args := #[] }) w1 := by
          have : o2 = { o2 with op := .defer cl } := by rw [← d5]
          rw [this]
          have hev : (a.put (some t) v').eval (.tmp t) = .func (.func g) #[] c' := hfa
          simp [execOp, resolve, d6, d7, Deferred.ofValue, hev]
        rw [hexec, Oper.upon_defer, d4]
        unfold wpOps
        show y.erase.wp P _ { (a.put (some t) v') with defers := { target := .fn (.func g) c', args := #[] } :: (a.put (some t) v').defers } w1
        have hdf : (a.put (some t) v').defers = [] := hf1.kp.defers
        rw [hdf]
        let d : Deferred := { target := .fn (.func g) c', args := #[] }
        let a2 : Act := { (a.put (some t) v') with defers := [d] }
        let C2 : Cx := ⟨fn.ntmps, [d], resSlots fn.results.toList, fun t => a2.tmps.getD t undef⟩
        have hf2 : FR C2 ρ1 (fput fr (some t) (.func (.func g) #[] (caps.toList.map (fev fr)).toArray)) a2 := ⟨hf1.val, rfl, hf1.kp.size, fun t _ => rfl⟩
        -- the end
        have hend : ∀ (rv : Option Value) (u : FrameMode) (u' : FrameMode) (ρ3 : List RB) (σ3 : AHeap) (a3 : Act) (w3 : World), Ext ρ1 ρ3 → Keep C2 a3 → Rel B w0 ρ3 σ3 w3 →
            (match rv with
              | none => u = .returning ∧ u' = .returning
              | some v => ∃ v', VR ρ3 v v' ∧ u = .panicking [{ v := v', recovered := false }] ∧ u' = .panicking [{ v := v', recovered := true }]) →
            Dv P g (caps.toList.map (fev fr)) rv σ3 (fun σ' => wret P fn.results.toList Q (fput fr (some t) (.func (.func g) #[] (caps.toList.map (fev fr)).toArray)) σ') →
            Leaves P fn a3.tmps (fun e w' => ∃ r ρ' σ', Q r σ' ∧ ResR ρ' r e ∧ Ext ρ0 ρ' ∧ Rel B w0 ρ' σ' w') a3.defers u w3 := by
          intro rv u u' ρ3 σ3 a3 w3 e3 hk3 hr3 hu hdv
          have hdf3 : a3.defers = [d] := hk3.defers
          rw [hdf3]
          obtain ⟨fg, q1, q2, q3, q4⟩ := hdv B w0 ρ3 w3 c'.toList hr3 (hcaps.mono e3)
          have hinv : (invoke (.fn (.func g) c') #[]).run P w3 = .ok (.enter g c'.toList.toArray) w3 := by
            have : invoke (.fn (.func g) c') #[] = callFunc g (#[] ++ c') := rfl
            rw [this]
            simpa using run_callFunc (args := c') q1 q2 q3 (w := w3)
          have hset : settle u' = .returning := by
            cases rv with
            | none => obtain ⟨_, rfl⟩ := hu; rfl
            | some v => obtain ⟨v', _, _, rfl⟩ := hu; rfl
          have hur : u ≠ .run := by
            cases rv with
            | none => obtain ⟨rfl, _⟩ := hu; simp
            | some v => obtain ⟨v', _, rfl, _⟩ := hu; simp
          refine leaves_cons hur hinv ((q4 u u' hu).mono ?_)
          rintro e u2 w4 ⟨⟨vr, rfl⟩, rfl, ρ4, σ4, hK, e4, hr4⟩
          simp only
          rw [hset]
          obtain ⟨v, h5, r, h6, h7⟩ := ret_sound (fn := fn) rfl hr4 (fr := fput fr (some t) (.func (.func g) #[] (caps.toList.map (fev fr)).toArray)) (tmps := a3.tmps) (fun x hx => by
            have key : ∀ s, s ∈ resSlots fn.results.toList → VR ρ4 (fget (fput fr (some t) (.func (.func g) #[] (caps.toList.map (fev fr)).toArray)) s) (a3.tmps.getD s undef) := by
              intro s hs
              rw [hk3.keep s hs]
              exact (hf2.val s).mono (e3.trans e4)
            cases x with
            | tmp s => exact key s (List.mem_map.2 ⟨.tmp s, hx, rfl⟩)
            | cell s ty => exact key s (List.mem_map.2 ⟨.cell s ty, hx, rfl⟩)) hK
          exact ⟨v, h5, r, ρ4, σ4, h6, h7, ((e0.trans e1).trans e3).trans e4, hr4⟩
        refine wpc_sound hm y (C := C2) htl _ _ _ _ ρ1 _ σ1 a2 w1 ?_ (fun i ρ2 fr2 σ2 a2 w2 _ _ _ hx2 => hx2.elim) ?_ ?_ hf2 hr1 (xpc_w kd (fun _ _ h => h) y (fun _ _ h => h) (fun _ _ _ h => h) (fun _ _ h => h) _ _ hx)
        · intro ρ3 fr3 σ3 a3 w3 e3 hf3 hr3 hx3
          exact hend none .returning .returning ρ3 σ3 a3 w3 e3 hf3.kp hr3 ⟨rfl, rfl⟩ hx3
        · intro ρ3 fr3 σ3 a3 w3 e3 hf3 hr3 hx3
          exact hend none .returning .returning ρ3 σ3 a3 w3 e3 hf3.kp hr3 ⟨rfl, rfl⟩ hx3
        · intro ρ3 v v' σ3 a3 w3 e3 hk3 hr3 hv3 hx3
          exact hend (some v) _ _ ρ3 σ3 a3 w3 e3 hk3 hr3 ⟨v', hv3, rfl, rfl⟩ hx3
  | _ => intro _ _ ρ fr σ a w _ _ _ hx; exact hx.elim
theorem Ev.xfnD {P : Program} (hm : P.follows .mixedOrders = true) {f : FuncId} {fn : Func} (hf : P.funcs[f]? = some fn) (h : Nat → Option Hint) (kd : Nat → VT) (hc : fnChkD fn h = true) {args : List Value} {σ : AHeap} {Q : RK} (hx : Go.Ax.xfnD P (Ev P) fn h kd args σ Q) : Ev P f args σ Q := by
  unfold fnChkD fnChk at hc
  simp only [Bool.and_eq_true, Bool.not_eq_true'] at hc
  obtain ⟨⟨⟨⟨h1, h2⟩, h3⟩, h4⟩, h5⟩ := hc
  obtain ⟨c, hcb⟩ := Option.isSome_iff_exists.1 h1
  rw [hcb] at h2 h5
  simp only [Option.getD_some] at h2 h5
  unfold Go.Ax.xfnD at hx
  rw [hcb] at hx
  simp only [Option.getD_some] at hx
  cases hlen : Nat.beq args.length (fn.params.size + fn.nfree) with
  | false => rw [hlen] at hx; exact hx.elim
  | true =>
    rw [hlen] at hx
    simp only [cond_true] at hx
    have hlen := Nat.eq_of_beq_eq_true hlen
    intro B w0 ρ w args' hr ha
    refine ⟨fn, hf, h4, .inl ⟨by simp [hcb], ?_⟩⟩
    refine calls_of_wp_defers hf hcb ?_
    have hstart := FR.start ha hlen (Nat.le_of_ble_eq_true h3)
    have := xpcD_sound hm (ρ0 := ρ) (B := B) (w0 := w0) (kd := kd) (Q := Q) (toAC h c 0).1 h2 h5 ρ _ σ _ w (Ext.refl _) hstart hr hx
    rw [erase_toAC] at this
    exact this
end Go.Ax
namespace Go.Ax.C
open Go.Proofs
noncomputable abbrev P : Program := Tryz.prog
theorem E_ex : ∃ e : EvT, e = Ev P := ⟨_, rfl⟩
noncomputable def E : EvT := Classical.choose E_ex
theorem E_eq : E = Ev P := Classical.choose_spec E_ex
theorem mixed : P.follows .mixedOrders = true := Tryz.checked.mixed
theorem exfn {f : FuncId} {fn : Func} (hf : P.funcs[f]? = some fn) (h : Nat → Option Hint) (kd : Nat → VT) (hc : fnChk fn h = true) {args : List Value} {σ : AHeap} {Q : RK} (hx : xfn P E fn h kd args σ Q) : E f args σ Q := by
  rw [E_eq] at hx ⊢
  exact Ev.xfn mixed hf h kd hc hx
theorem exfnD {f : FuncId} {fn : Func} (hf : P.funcs[f]? = some fn) (h : Nat → Option Hint) (kd : Nat → VT) (hc : fnChkD fn h = true) {args : List Value} {σ : AHeap} {Q : RK} (hx : xfnD P E fn h kd args σ Q) : E f args σ Q := by
  rw [E_eq] at hx ⊢
  exact Ev.xfnD mixed hf h kd hc hx
theorem exclo {g : FuncId} {fn : Func} (hf : P.funcs[g]? = some fn) (h : Nat → Option Hint) (kd : Nat → VT) (hc : fnChk fn h = true) {caps : List Value} {rv : Option Value} {σ : AHeap} {K : AHeap → Prop} (hx : xclo P E fn h kd caps rv σ K) : Dv P g caps rv σ K := by
  rw [E_eq] at hx
  exact Dv.of mixed hf h kd hc hx
end Go.Ax.C
namespace Go.Ax
abbrev f_bytes_Clone : FuncId := 99
abbrev f_cache_Cache_Get : FuncId := 66
abbrev f_cache_Cache_Put : FuncId := 62
abbrev f_cache_Cache_ready : FuncId := 120
abbrev f_cache_Cache_room : FuncId := 121
abbrev f_cache_Cache_use : FuncId := 122
abbrev f_cache_Cache_write : FuncId := 159
abbrev f_cache_New : FuncId := 60
abbrev f_cache_row_Len : FuncId := 214
abbrev f_cache_row_Less : FuncId := 215
abbrev f_cache_row_Pop : FuncId := 222
abbrev f_cache_row_Push : FuncId := 223
abbrev f_cache_row_Swap : FuncId := 216
abbrev f_crc_More : FuncId := 163
abbrev f_crc_Sum : FuncId := 124
abbrev f_crc_behind : FuncId := 187
abbrev f_disk_Disk_Blocks : FuncId := 119
abbrev f_disk_Disk_Off : FuncId := 158
abbrev f_disk_Disk_Read : FuncId := 125
abbrev f_disk_Disk_Write : FuncId := 185
abbrev f_disk_Disk_Write_c1 : FuncId := 191
abbrev f_disk_Disk_burn : FuncId := 190
abbrev f_disk_Disk_ready : FuncId := 164
abbrev f_disk_New : FuncId := 58
abbrev f_free_New : FuncId := 143
abbrev f_free_Space_Claim : FuncId := 144
abbrev f_free_Space_Give : FuncId := 142
abbrev f_free_Space_Take : FuncId := 71
abbrev f_free_Space_claim : FuncId := 177
abbrev f_free_Space_does : FuncId := 174
abbrev f_free_Space_give : FuncId := 175
abbrev f_free_Space_right : FuncId := 128
abbrev f_free_least_Len : FuncId := 217
abbrev f_free_least_Less : FuncId := 218
abbrev f_free_least_Pop : FuncId := 220
abbrev f_free_least_Push : FuncId := 221
abbrev f_free_least_Swap : FuncId := 219
abbrev f_heap_Fix : FuncId := 161
abbrev f_heap_Init : FuncId := 176
abbrev f_heap_Pop : FuncId := 129
abbrev f_heap_Push : FuncId := 160
abbrev f_heap_down : FuncId := 165
abbrev f_heap_up : FuncId := 186
abbrev f_knot_Child : FuncId := 81
abbrev f_knot_Even : FuncId := 141
abbrev f_knot_Find : FuncId := 75
abbrev f_knot_Insert : FuncId := 78
abbrev f_knot_Insert_c1 : FuncId := 133
abbrev f_knot_Join : FuncId := 140
abbrev f_knot_Join_c1 : FuncId := 172
abbrev f_knot_Join_c2 : FuncId := 173
abbrev f_knot_Remove : FuncId := 83
abbrev f_knot_Remove_c1 : FuncId := 137
abbrev f_knot_Set : FuncId := 131
abbrev f_knot_Set_c1 : FuncId := 166
abbrev f_knot_Split : FuncId := 136
abbrev f_knot_Split_c1 : FuncId := 170
abbrev f_knot_Split_c2 : FuncId := 171
abbrev f_knot_both : FuncId := 132
abbrev f_knot_count : FuncId := 130
abbrev f_knot_one : FuncId := 135
abbrev f_law11_Made : FuncId := 15
abbrev f_law11_TreeKnown : FuncId := 4
abbrev f_law11_awake : FuncId := 14
abbrev f_node_May : FuncId := 69
abbrev f_node_Put : FuncId := 64
abbrev f_node_Take : FuncId := 68
abbrev f_node_reader_number : FuncId := 127
abbrev f_order_Get : FuncId := 126
abbrev f_order_Put : FuncId := 123
abbrev f_order_right : FuncId := 162
abbrev f_refs_New : FuncId := 59
abbrev f_refs_Refs_Alloc : FuncId := 23
abbrev f_refs_Refs_Count : FuncId := 22
abbrev f_refs_Refs_Dec : FuncId := 29
abbrev f_refs_Refs_Fresh : FuncId := 21
abbrev f_refs_Refs_Inc : FuncId := 30
abbrev f_refs_Refs_does : FuncId := 86
abbrev f_refs_Refs_less : FuncId := 87
abbrev f_refs_Refs_more : FuncId := 88
abbrev f_refs_Refs_right : FuncId := 70
abbrev f_refs_Refs_settle : FuncId := 89
abbrev f_slices_Clone_sl_uint64_uint64 : FuncId := 167
abbrev f_slices_Contains_free_least_int : FuncId := 189
abbrev f_slices_Delete_sl_uint64_uint64 : FuncId := 138
abbrev f_slices_Index_free_least_int : FuncId := 193
abbrev f_slices_Insert_sl_uint64_uint64 : FuncId := 134
abbrev f_slices_Reverse_sl_uint64_uint64 : FuncId := 192
abbrev f_slices_overlaps_uint64 : FuncId := 168
abbrev f_slices_rotateLeft_uint64 : FuncId := 188
abbrev f_slices_rotateRight_uint64 : FuncId := 169
abbrev f_stamp_Open : FuncId := 67
abbrev f_stamp_Seal : FuncId := 65
abbrev f_tree_Insert : FuncId := 24
abbrev f_tree_Insert_c1 : FuncId := 72
abbrev f_tree_Lookup : FuncId := 26
abbrev f_tree_New : FuncId := 28
abbrev f_tree_Remove : FuncId := 27
abbrev f_tree_Remove_c1 : FuncId := 82
abbrev f_tree_Shelf_Load : FuncId := 18
abbrev f_tree_Shelf_Make : FuncId := 19
abbrev f_tree_Shelf_Save : FuncId := 17
abbrev f_tree_Shelf_Shadow : FuncId := 25
abbrev f_tree_Shelf_right : FuncId := 63
abbrev f_tree_down : FuncId := 74
abbrev f_tree_must : FuncId := 85
abbrev f_tree_told : FuncId := 73
abbrev f_tree_way_fill : FuncId := 84
abbrev f_tree_way_pair : FuncId := 139
abbrev f_tree_way_save : FuncId := 77
abbrev f_tree_way_set : FuncId := 76
abbrev f_tree_way_split : FuncId := 80
abbrev f_tree_way_up : FuncId := 79
abbrev t_api_Errno : TypeId := 31
abbrev t_api_Node : TypeId := 24
abbrev t_bool : TypeId := 4
abbrev t_cache_Cache : TypeId := 229
abbrev t_cache_item : TypeId := 233
abbrev t_disk_Disk : TypeId := 224
abbrev t_disk_flight : TypeId := 278
abbrev t_free_Space : TypeId := 244
abbrev t_if_ : TypeId := 20
abbrev t_int : TypeId := 3
abbrev t_law11_Bench : TypeId := 35
abbrev t_m_int_p_cache_item : TypeId := 225
abbrev t_node_reader : TypeId := 240
abbrev t_p_cache_item : TypeId := 230
abbrev t_p_cache_row : TypeId := 272
abbrev t_p_disk_Disk : TypeId := 130
abbrev t_p_free_least : TypeId := 246
abbrev t_refs_Refs : TypeId := 153
abbrev t_sl_uint64 : TypeId := 22
abbrev t_sl_uint8 : TypeId := 69
abbrev t_tree_Shelf : TypeId := 148
abbrev t_tree_fault : TypeId := 248
abbrev t_tree_step : TypeId := 161
abbrev t_tree_way : TypeId := 159
abbrev t_uint64 : TypeId := 25
abbrev t_uint8 : TypeId := 5
end Go.Ax
set_option linter.unusedVariables false
set_option maxRecDepth 100000
namespace Go.Ax.C
open Go.Proofs
def s_order_right (E : EvT) (Q : RK) (x0 : Int) (σ : AHeap) : Prop :=
 If (decide (1 ≤ x0)) (
 Q (.ret (.bool (decide (x0 ≤ 8)))) σ) (
 Q (.ret (.bool false)) σ)
theorem q_order_right (E : EvT) (Q : RK) (x0 : Int) (σ : AHeap) : xfn P E Tryz.f162 (fun _ => none) (fun _ => .v) [(.int .i64 x0)] σ Q = s_order_right E Q x0 σ := by kernel_rfl
theorem e_order_right {Q : RK} {x0 : Int} {σ : AHeap} (h : s_order_right E Q x0 σ) : E f_order_right [(.int .i64 x0)] σ Q :=
  exfn Tryz.func162 _ _ (by kernel_rfl) (Eq.mpr (q_order_right E Q x0 σ) h)
def s_order_Put_b1 (N1 : Value → Int → AHeap → Prop) (E : EvT) (Q : RK) (n26 : Int) (v19 : Value) (n20 : Int) (τ27 : AHeap) : Prop :=
 If (decide (0 ≤ n20)) (
 Bi (w64 (8 * n20)) fun n37 =>
 Bi (wu64 (n37)) fun n38 =>
 ldI .u64 (aBin (some (.int .u64)) .shr (.int .u64 n26) (.int .u64 n38)) fun n39 =>
 Bi (wu8 (n39)) fun n40 =>
 wNew τ27 (.cells [(.int .u8 n40)] t_uint8 false) fun b41 τ42 =>
 pu (aAppend t_uint8 1 1 v19 (.slice (some ⟨b41, 0, none⟩) 1 1) τ42) fun r43 =>
 Bi (w64 (n20 - 1)) fun n46 =>
 N1 r43.1 n46 r43.2) (
 Q (.ret v19) τ27)
def s_order_Put (E : EvT) (Q : RK) (x0 : Value) (x1 x2 : Int) (σ : AHeap) : Prop :=
 E f_bytes_Clone [x0] σ (cV Q fun v4 τ3 =>
 E f_order_right [(.int .i64 x2)] τ3 (cB Q fun c9 τ8 =>
 If (!c9) (
 Q (.ret v4) τ8) (
 Bi (w64 (x2 - 1)) fun n17 =>
 ∃ I50 : Nat → Value → Int → AHeap → Prop, (∃ m, I50 m v4 n17 τ8) ∧
 ∀ m (v19 : Value) (n20 : Int) (σ' : AHeap), I50 m v19 n20 σ' → (s_order_Put_b1 (fun v19 n20 σ' => ∃ m', m' < m ∧ I50 m' v19 n20 σ') E Q x1 v19 n20 σ'))))
theorem q_order_Put (E : EvT) (Q : RK) (x0 : Value) (x1 x2 : Int) (σ : AHeap) : xfn P E Tryz.f123 (hl [(2, .loopr [1] [7, 8] [7] [7, 8])]) (fun | 8 => (.i .i64) | _ => .v) [x0, (.int .u64 x1), (.int .i64 x2)] σ Q = s_order_Put E Q x0 x1 x2 σ := by kernel_rfl
theorem e_order_Put {Q : RK} {x0 : Value} {x1 x2 : Int} {σ : AHeap} (h : s_order_Put E Q x0 x1 x2 σ) : E f_order_Put [x0, (.int .u64 x1), (.int .i64 x2)] σ Q :=
  exfn Tryz.func123 _ _ (by kernel_rfl) (Eq.mpr (q_order_Put E Q x0 x1 x2 σ) h)
def s_order_Get_b1 (N1 : Int → Int → AHeap → Prop) (E : EvT) (Q : RK) (v30 : Value) (n32 n27 n28 : Int) (τ33 : AHeap) : Prop :=
 If (decide (n28 < n32)) (
 om (aIndexAddr 1 v30 (.int .i64 n28)) fun v41 =>
 ldI .u8 (aLoad false 1 v41 τ33) fun n42 =>
 ldI .u64 (aBin (some (.int .u64)) .shl (.int .u64 n27) (.int .u64 8)) fun n47 =>
 Bi (wu64 (n42)) fun n49 =>
 Bi (wu64 ((BitVec.ofInt 64 n47 ||| BitVec.ofInt 64 n49).toNat)) fun n50 =>
 Bi (w64 (n28 + 1)) fun n54 =>
 N1 n50 n54 τ33) (
 Q (.ret (.tuple #[(.int .u64 n27), (.int .i64 0)])) τ33)
def s_order_Get (E : EvT) (Q : RK) (x0 : Value) (x1 : Int) (σ : AHeap) : Prop :=
 E f_order_right [(.int .i64 x1)] σ (cB Q fun c4 τ3 =>
 If (!c4) (
 Q (.ret (.tuple #[(.int .u64 0), (.int .i64 1)])) τ3) (
 ldI .i64 (lenS x0) fun n11 =>
 If (decide (n11 < x1)) (
 Q (.ret (.tuple #[(.int .u64 0), (.int .i64 4)])) τ3) (
 om (aSlice 1 x0 none (some (.int .i64 x1)) none) fun v24 =>
 ldI .i64 (lenS v24) fun n25 =>
 ∃ I58 : Nat → Int → Int → AHeap → Prop, (∃ m, I58 m 0 0 τ3) ∧
 ∀ m (n27 : Int) (n28 : Int) (σ' : AHeap), I58 m n27 n28 σ' → (s_order_Get_b1 (fun n27 n28 σ' => ∃ m', m' < m ∧ I58 m' n27 n28 σ') E Q v24 n25 n27 n28 σ'))))
theorem q_order_Get (E : EvT) (Q : RK) (x0 : Value) (x1 : Int) (σ : AHeap) : xfn P E Tryz.f126 (hl [(3, .loopr [18, 19] [6, 20] [6] [6, 20])]) (fun | 6 => (.i .u64) | 20 => (.i .i64) | _ => .v) [x0, (.int .i64 x1)] σ Q = s_order_Get E Q x0 x1 σ := by kernel_rfl
theorem e_order_Get {Q : RK} {x0 : Value} {x1 : Int} {σ : AHeap} (h : s_order_Get E Q x0 x1 σ) : E f_order_Get [x0, (.int .i64 x1)] σ Q :=
  exfn Tryz.func126 _ _ (by kernel_rfl) (Eq.mpr (q_order_Get E Q x0 x1 σ) h)
def s_crc_behind_b1 (N1 : Int → Int → AHeap → Prop) (E : EvT) (Q : RK) (n3 n4 : Int) (τ5 : AHeap) : Prop :=
 If (decide (n4 < 8)) (
 ldI .u32 (aBin (some (.int .u32)) .shr (.int .u32 n3) (.int .u64 1)) fun n11 =>
 Bi (wu32 ((BitVec.ofInt 32 n3 &&& BitVec.ofInt 32 1).toNat)) fun n12 =>
 Bi (wu32 (0 - n12)) fun n13 =>
 Bi (wu32 ((BitVec.ofInt 32 2197175160 &&& BitVec.ofInt 32 n13).toNat)) fun n14 =>
 Bi (wu32 ((BitVec.ofInt 32 n11 ^^^ BitVec.ofInt 32 n14).toNat)) fun n15 =>
 Bi (w64 (n4 + 1)) fun n20 =>
 N1 n15 n20 τ5) (
 Q (.ret (.int .u32 n3)) τ5)
def s_crc_behind (E : EvT) (Q : RK) (x0 : Int) (σ : AHeap) : Prop :=
 ∃ I24 : Nat → Int → Int → AHeap → Prop, (∃ m, I24 m x0 0 σ) ∧
 ∀ m (n3 : Int) (n4 : Int) (σ' : AHeap), I24 m n3 n4 σ' → (s_crc_behind_b1 (fun n3 n4 σ' => ∃ m', m' < m ∧ I24 m' n3 n4 σ') E Q  n3 n4 σ')
theorem q_crc_behind (E : EvT) (Q : RK) (x0 : Int) (σ : AHeap) : xfn P E Tryz.f187 (hl [(1, .loopr [] [0, 3] [0] [0, 3])]) (fun | 0 => (.i .u32) | 3 => (.i .i64) | _ => .v) [(.int .u32 x0)] σ Q = s_crc_behind E Q x0 σ := by kernel_rfl
theorem e_crc_behind {Q : RK} {x0 : Int} {σ : AHeap} (h : s_crc_behind E Q x0 σ) : E f_crc_behind [(.int .u32 x0)] σ Q :=
  exfn Tryz.func187 _ _ (by kernel_rfl) (Eq.mpr (q_crc_behind E Q x0 σ) h)
def s_crc_More_b1 (N1 : Int → Int → AHeap → Prop) (E : EvT) (Q : RK) (v12 : Value) (n14 n9 n10 : Int) (τ15 : AHeap) : Prop :=
 If (decide (n10 < n14)) (
 om (aIndexAddr 1 v12 (.int .i64 n10)) fun v23 =>
 ldI .u8 (aLoad false 1 v23 τ15) fun n24 =>
 Bi (wu32 (n24)) fun n30 =>
 Bi (wu32 ((BitVec.ofInt 32 n9 ^^^ BitVec.ofInt 32 n30).toNat)) fun n31 =>
 E f_crc_behind [(.int .u32 n31)] τ15 (cI Q .u32 fun n33 τ32 =>
 Bi (w64 (n10 + 1)) fun n37 =>
 N1 n33 n37 τ32)) (
 ldI .u32 (aUn .xor (.int .u32 n9)) fun n41 =>
 Q (.ret (.int .u32 n41)) τ15)
def s_crc_More (E : EvT) (Q : RK) (x0 : Int) (x1 : Value) (σ : AHeap) : Prop :=
 ldI .u32 (aUn .xor (.int .u32 x0)) fun n3 =>
 ldI .i64 (lenS x1) fun n7 =>
 ∃ I42 : Nat → Int → Int → AHeap → Prop, (∃ m, I42 m n3 0 σ) ∧
 ∀ m (n9 : Int) (n10 : Int) (σ' : AHeap), I42 m n9 n10 σ' → (s_crc_More_b1 (fun n9 n10 σ' => ∃ m', m' < m ∧ I42 m' n9 n10 σ') E Q x1 n7 n9 n10 σ')
theorem q_crc_More (E : EvT) (Q : RK) (x0 : Int) (x1 : Value) (σ : AHeap) : xfn P E Tryz.f163 (hl [(1, .loopr [10, 11] [5, 12] [5] [5, 12])]) (fun | 5 => (.i .u32) | 12 => (.i .i64) | _ => .v) [(.int .u32 x0), x1] σ Q = s_crc_More E Q x0 x1 σ := by kernel_rfl
theorem e_crc_More {Q : RK} {x0 : Int} {x1 : Value} {σ : AHeap} (h : s_crc_More E Q x0 x1 σ) : E f_crc_More [(.int .u32 x0), x1] σ Q :=
  exfn Tryz.func163 _ _ (by kernel_rfl) (Eq.mpr (q_crc_More E Q x0 x1 σ) h)
def s_crc_Sum (E : EvT) (Q : RK) (x0 : Value) (σ : AHeap) : Prop :=
 E f_crc_More [(.int .u32 0), x0] σ (cI Q .u32 fun n4 τ3 =>
 Q (.ret (.int .u32 n4)) τ3)
theorem q_crc_Sum (E : EvT) (Q : RK) (x0 : Value) (σ : AHeap) : xfn P E Tryz.f124 (fun _ => none) (fun _ => .v) [x0] σ Q = s_crc_Sum E Q x0 σ := by kernel_rfl
theorem e_crc_Sum {Q : RK} {x0 : Value} {σ : AHeap} (h : s_crc_Sum E Q x0 σ) : E f_crc_Sum [x0] σ Q :=
  exfn Tryz.func124 _ _ (by kernel_rfl) (Eq.mpr (q_crc_Sum E Q x0 σ) h)
def s_stamp_Seal (E : EvT) (Q : RK) (x0 : Value) (x1 x2 : Int) (σ : AHeap) : Prop :=
 ldI .i64 (lenS x0) fun n3 =>
 If (decide (240 < n3)) (
 Q (.ret (.tuple #[(.slice none 0 0), (.int .i64 3)])) σ) (
 pu (aMake t_uint8 1 [(.int .u8 0)] (.int .i64 240) (.int .i64 256) σ) fun r7 =>
 pu (aCopy 1 r7.1 x0 r7.2) fun r13 =>
 Bi (wu64 (x1)) fun n21 =>
 E f_order_Put [r7.1, (.int .u64 n21), (.int .i64 8)] r13.2 (cV Q fun v23 τ22 =>
 Bi (wu64 (x2)) fun n32 =>
 E f_order_Put [v23, (.int .u64 n32), (.int .i64 4)] τ22 (cV Q fun v34 τ33 =>
 E f_crc_Sum [v34] τ33 (cI Q .u32 fun n38 τ37 =>
 Bi (wu64 (n38)) fun n39 =>
 E f_order_Put [v34, (.int .u64 n39), (.int .i64 4)] τ37 (cV Q fun v41 τ40 =>
 Q (.ret (.tuple #[v41, (.int .i64 0)])) τ40)))))
theorem q_stamp_Seal (E : EvT) (Q : RK) (x0 : Value) (x1 x2 : Int) (σ : AHeap) : xfn P E Tryz.f65 (fun _ => none) (fun _ => .v) [x0, (.int .i64 x1), (.int .u8 x2)] σ Q = s_stamp_Seal E Q x0 x1 x2 σ := by kernel_rfl
theorem e_stamp_Seal {Q : RK} {x0 : Value} {x1 x2 : Int} {σ : AHeap} (h : s_stamp_Seal E Q x0 x1 x2 σ) : E f_stamp_Seal [x0, (.int .i64 x1), (.int .u8 x2)] σ Q :=
  exfn Tryz.func65 _ _ (by kernel_rfl) (Eq.mpr (q_stamp_Seal E Q x0 x1 x2 σ) h)
def s_stamp_Open (E : EvT) (Q : RK) (x0 : Value) (x1 x2 : Int) (σ : AHeap) : Prop :=
 ldI .i64 (lenS x0) fun n3 =>
 If (decide (n3 < 256)) (
 Q (.ret (.tuple #[(.slice none 0 0), (.int .i64 4)])) σ) (
 ldI .i64 (lenS x0) fun n7 =>
 If (decide (256 < n7)) (
 Q (.ret (.tuple #[(.slice none 0 0), (.int .i64 3)])) σ) (
 om (aSlice 1 x0 (some (.int .i64 252)) none none) fun v13 =>
 E f_order_Get [v13, (.int .i64 4)] σ (c2 Q fun v15 v17 τ14 =>
 tI .u64 (fun n16 =>
 tI .i64 (fun n18 =>
 om (aSlice 1 x0 (some (.int .i64 240)) none none) fun v21 =>
 E f_order_Get [v21, (.int .i64 8)] τ14 (c2 Q fun v23 v25 τ22 =>
 tI .u64 (fun n24 =>
 tI .i64 (fun n26 =>
 om (aSlice 1 x0 (some (.int .i64 248)) none none) fun v29 =>
 E f_order_Get [v29, (.int .i64 4)] τ22 (c2 Q fun v31 v33 τ30 =>
 tI .u64 (fun n32 =>
 tI .i64 (fun n34 =>
 om (aSlice 1 x0 none (some (.int .i64 252)) none) fun v40 =>
 E f_crc_Sum [v40] τ30 (cI Q .u32 fun n42 τ41 =>
 Bi (wu64 (n42)) fun n43 =>
 If (!decide (n16 = n43)) (
 Q (.ret (.tuple #[(.slice none 0 0), (.int .i64 20)])) τ41) (
 Bi (wu64 (x1)) fun n57 =>
 If (!decide (n24 = n57)) (
 Q (.ret (.tuple #[(.slice none 0 0), (.int .i64 21)])) τ41) (
 Bi (wu64 (x2)) fun n72 =>
 If (!decide (n32 = n72)) (
 Q (.ret (.tuple #[(.slice none 0 0), (.int .i64 22)])) τ41) (
 om (aSlice 1 x0 none (some (.int .i64 240)) (some (.int .i64 240))) fun v80 =>
 E f_bytes_Clone [v80] τ41 (cV Q fun v82 τ81 =>
 Q (.ret (.tuple #[v82, (.int .i64 0)])) τ81)))))) v33) v31)) v25) v23)) v17) v15)))
theorem q_stamp_Open (E : EvT) (Q : RK) (x0 : Value) (x1 x2 : Int) (σ : AHeap) : xfn P E Tryz.f67 (fun _ => none) (fun _ => .v) [x0, (.int .i64 x1), (.int .u8 x2)] σ Q = s_stamp_Open E Q x0 x1 x2 σ := by kernel_rfl
theorem e_stamp_Open {Q : RK} {x0 : Value} {x1 x2 : Int} {σ : AHeap} (h : s_stamp_Open E Q x0 x1 x2 σ) : E f_stamp_Open [x0, (.int .i64 x1), (.int .u8 x2)] σ Q :=
  exfn Tryz.func67 _ _ (by kernel_rfl) (Eq.mpr (q_stamp_Open E Q x0 x1 x2 σ) h)
def s_node_May_k8 (N1 : Int → AHeap → Prop) (E : EvT) (Q : RK) (c43 : Bool) (n45 : Int) (τ42 : AHeap) : Prop :=
 If c43 (
 Q (.ret (.bool false)) τ42) (
 Bi (w64 (n45 + 1)) fun n48 =>
 N1 n48 τ42)
def s_node_May_b1 (N1 : Int → AHeap → Prop) (E : EvT) (Q : RK) (b17 : Nat) (v19 : Value) (n21 n15 : Int) (τ22 : AHeap) : Prop :=
 If (decide (n15 < n21)) (
 om (aIndexAddr 1 v19 (.int .i64 n15)) fun v30 =>
 ldI .u64 (aLoad false 1 v30 τ22) fun n31 =>
 If (decide (0 < n15)) (
 om (L b17 1 τ22) fun v38 =>
 Bi (w64 (n15 - 1)) fun n39 =>
 om (aIndexAddr 1 v38 (.int .i64 n39)) fun v40 =>
 ldI .u64 (aLoad false 1 v40 τ22) fun n41 =>
 If (decide (n31 ≤ n41)) (
 (s_node_May_k8 N1 E Q true n15 τ22)) (
 om (L b17 2 τ22) fun v49 =>
 om (aIndexAddr 1 v49 (.int .i64 n15)) fun v50 =>
 ldI .u64 (aLoad false 1 v50 τ22) fun n51 =>
 (s_node_May_k8 N1 E Q (decide (n51 = 0)) n15 τ22))) (
 om (L b17 2 τ22) fun v52 =>
 om (aIndexAddr 1 v52 (.int .i64 n15)) fun v53 =>
 ldI .u64 (aLoad false 1 v53 τ22) fun n54 =>
 (s_node_May_k8 N1 E Q (decide (n54 = 0)) n15 τ22))) (
 Q (.ret (.bool true)) τ22)
def s_node_May_k2 (E : EvT) (Q : RK) (c8 : Bool) (b10 : Nat) (τ7 : AHeap) : Prop :=
 If c8 (
 Q (.ret (.bool false)) τ7) (
 om (L b10 1 τ7) fun v12 =>
 ldI .i64 (lenS v12) fun n13 =>
 ∃ I56 : Nat → Int → AHeap → Prop, (∃ m, I56 m 0 τ7) ∧
 ∀ m (n15 : Int) (σ' : AHeap), I56 m n15 σ' → (s_node_May_b1 (fun n15 σ' => ∃ m', m' < m ∧ I56 m' n15 σ') E Q b10 v12 n13 n15 σ'))
def s_node_May (E : EvT) (Q : RK) (x0_0 : Bool) (x0_1 x0_2 : Value) (σ : AHeap) : Prop :=
 wNew σ (.cells [(.bool x0_0), x0_1, x0_2] t_api_Node false) fun b1 τ2 =>
 om (L b1 1 τ2) fun v5 =>
 ldI .i64 (lenS v5) fun n6 =>
 If (decide (n6 < 1)) (
 (s_node_May_k2 E Q true b1 τ2)) (
 om (L b1 1 τ2) fun v58 =>
 ldI .i64 (lenS v58) fun n59 =>
 If (decide (8 < n59)) (
 (s_node_May_k2 E Q true b1 τ2)) (
 om (L b1 2 τ2) fun v60 =>
 ldI .i64 (lenS v60) fun n61 =>
 om (L b1 1 τ2) fun v62 =>
 ldI .i64 (lenS v62) fun n63 =>
 (s_node_May_k2 E Q (!decide (n61 = n63)) b1 τ2)))
theorem q_node_May (E : EvT) (Q : RK) (x0_0 : Bool) (x0_1 x0_2 : Value) (σ : AHeap) : xfn P E Tryz.f69 (hl [(2, .loopr [1, 25, 26] [27] [2] [2, 27])]) (fun | 27 => (.i .i64) | _ => .v) [(.agg #[(.bool x0_0), x0_1, x0_2])] σ Q = s_node_May E Q x0_0 x0_1 x0_2 σ := by kernel_rfl
theorem e_node_May {Q : RK} {x0_0 : Bool} {x0_1 x0_2 : Value} {σ : AHeap} (h : s_node_May E Q x0_0 x0_1 x0_2 σ) : E f_node_May [(.agg #[(.bool x0_0), x0_1, x0_2])] σ Q :=
  exfn Tryz.func69 _ _ (by kernel_rfl) (Eq.mpr (q_node_May E Q x0_0 x0_1 x0_2 σ) h)
def s_node_Put_b1 (N1 : Value → Int → AHeap → Prop) (E : EvT) (Q : RK) (b38 : Nat) (v40 : Value) (n42 : Int) (v35 : Value) (n36 : Int) (τ43 : AHeap) : Prop :=
 If (decide (n36 < n42)) (
 om (aIndexAddr 1 v40 (.int .i64 n36)) fun v51 =>
 ldI .u64 (aLoad false 1 v51 τ43) fun n52 =>
 om (L b38 2 τ43) fun v61 =>
 om (aIndexAddr 1 v61 (.int .i64 n36)) fun v63 =>
 ldI .u64 (aLoad false 1 v63 τ43) fun n64 =>
 E f_order_Put [v35, (.int .u64 n52), (.int .i64 8)] τ43 (cV Q fun v66 τ65 =>
 om (L b38 2 τ65) fun v67 =>
 veq1 v67 v61 = true ∧
 ldI .u64 (aLoad false 1 v63 τ65) fun n68 =>
 veq1 (.int .u64 n68) (.int .u64 n64) = true ∧
 E f_order_Put [v66, (.int .u64 n64), (.int .i64 8)] τ65 (cV Q fun v70 τ69 =>
 Bi (w64 (n36 + 1)) fun n74 =>
 N1 v70 n74 τ69))) (
 Q (.ret (.tuple #[v35, (.int .i64 0)])) τ43)
def s_node_Put_k6 (E : EvT) (Q : RK) (b31 : Nat) (v79 : Value) (τ29 : AHeap) : Prop :=
 om (L b31 1 τ29) fun v32 =>
 ldI .i64 (lenS v32) fun n33 =>
 ∃ I78 : Nat → Value → Int → AHeap → Prop, (∃ m, I78 m v79 0 τ29) ∧
 ∀ m (v35 : Value) (n36 : Int) (σ' : AHeap), I78 m v35 n36 σ' → (s_node_Put_b1 (fun v35 n36 σ' => ∃ m', m' < m ∧ I78 m' v35 n36 σ') E Q b31 v32 n33 v35 n36 σ')
def s_node_Put (E : EvT) (Q : RK) (x0_0 : Bool) (x0_1 x0_2 : Value) (σ : AHeap) : Prop :=
 wNew σ (.cells [(.bool x0_0), x0_1, x0_2] t_api_Node false) fun b1 τ2 =>
 ldB (L b1 0 τ2) fun c5 =>
 om (L b1 1 τ2) fun v6 =>
 om (L b1 2 τ2) fun v7 =>
 E f_node_May [(.agg #[(.bool c5), v6, v7])] τ2 (cB Q fun c9 τ8 =>
 If (!c9) (
 Q (.ret (.tuple #[(.slice none 0 0), (.int .i64 1)])) τ8) (
 om (L b1 1 τ8) fun v15 =>
 ldI .i64 (lenS v15) fun n16 =>
 Bi (wu8 (n16)) fun n17 =>
 wNew τ8 (.cells [(.int .u8 0), (.int .u8 n17)] t_uint8 false) fun b18 τ19 =>
 ldB (L b1 0 τ19) fun c22 =>
 If c22 (
 om (aIndexAddr 1 (.slice (some ⟨b18, 0, none⟩) 2 2) (.int .i64 0)) fun v27 =>
 pu (aStore 1 v27 (.int .u8 1) τ19) fun τ28 =>
 (s_node_Put_k6 E Q b1 (.slice (some ⟨b18, 0, none⟩) 2 2) τ28)) (
 (s_node_Put_k6 E Q b1 (.slice (some ⟨b18, 0, none⟩) 2 2) τ19))))
theorem q_node_Put (E : EvT) (Q : RK) (x0_0 : Bool) (x0_1 x0_2 : Value) (σ : AHeap) : xfn P E Tryz.f64 (hl [(3, .loopr [1, 20, 21] [4, 22] [4] [4, 22]), (6, .ord [(0, []), (1, []), (3, []), (4, []), (5, []), (6, []), (7, []), (2, [4, 7]), (8, []), (9, [])])]) (fun | 22 => (.i .i64) | _ => .v) [(.agg #[(.bool x0_0), x0_1, x0_2])] σ Q = s_node_Put E Q x0_0 x0_1 x0_2 σ := by kernel_rfl
theorem e_node_Put {Q : RK} {x0_0 : Bool} {x0_1 x0_2 : Value} {σ : AHeap} (h : s_node_Put E Q x0_0 x0_1 x0_2 σ) : E f_node_Put [(.agg #[(.bool x0_0), x0_1, x0_2])] σ Q :=
  exfn Tryz.func64 _ _ (by kernel_rfl) (Eq.mpr (q_node_Put E Q x0_0 x0_1 x0_2 σ) h)
def s_node_reader_number_k4 (E : EvT) (Q : RK) (n21 n23 : Int) (τ18 : AHeap) : Prop :=
 Q (.ret (.tuple #[(.int .u64 n21), (.int .i64 n23)])) τ18
def s_node_reader_number (E : EvT) (Q : RK) (x0 : Nat) (σ : AHeap) : Prop :=
 om (L x0 0 σ) fun v3 =>
 E f_order_Get [v3, (.int .i64 8)] σ (c2 Q fun v5 v7 τ4 =>
 tI .u64 (fun n6 =>
 tI .i64 (fun n8 =>
 If (decide (n8 = 0)) (
 om (L x0 0 τ4) fun v15 =>
 om (aSlice 1 v15 (some (.int .i64 8)) none none) fun v16 =>
 St x0 0 v16 τ4 fun τ17 =>
 (s_node_reader_number_k4 E Q n6 n8 τ17)) (
 (s_node_reader_number_k4 E Q n6 n8 τ4))) v7) v5)
theorem q_node_reader_number (E : EvT) (Q : RK) (x0 : Nat) (σ : AHeap) : xfn P E Tryz.f127 (fun _ => none) (fun _ => .v) [(.pointer (some ⟨x0, 0, none⟩))] σ Q = s_node_reader_number E Q x0 σ := by kernel_rfl
theorem e_node_reader_number {Q : RK} {x0 : Nat} {σ : AHeap} (h : s_node_reader_number E Q x0 σ) : E f_node_reader_number [(.pointer (some ⟨x0, 0, none⟩))] σ Q :=
  exfn Tryz.func127 _ _ (by kernel_rfl) (Eq.mpr (q_node_reader_number E Q x0 σ) h)
def s_node_Take_k27 (N1 : Int → AHeap → Prop) (E : EvT) (Q : RK) (n224 : Int) (b227 b228 b230 : Nat) (τ222 : AHeap) : Prop :=
 Bi (w64 (n224 + 1)) fun n225 =>
 N1 n225 τ222
def s_node_Take_k20 (N1 : Int → AHeap → Prop) (E : EvT) (Q : RK) (c140 : Bool) (b142 b144 b146 : Nat) (n148 : Int) (v154 : Value) (n199 : Int) (τ139 : AHeap) : Prop :=
 If c140 (
 pu (aStore 3 (.pointer (some ⟨b142, 0, none⟩)) (.agg #[(.bool false), (.slice none 0 0), (.slice none 0 0)]) τ139) fun τ143 =>
 pu (aLoad true 3 (.pointer (some ⟨b142, 0, none⟩)) τ143) fun v149 =>
 Q (.ret (.tuple #[v149, (.int .i64 5)])) τ143) (
 wF v154 fun g253 a254 c255 =>
 E g253 (a254 ++ [] ++ c255) τ139 (c2 Q fun v157 v159 τ156 =>
 tI .u64 (fun n158 =>
 tI .i64 (fun n160 =>
 If (!decide (n160 = 0)) (
 pu (aStore 3 (.pointer (some ⟨b142, 0, none⟩)) (.agg #[(.bool false), (.slice none 0 0), (.slice none 0 0)]) τ156) fun τ169 =>
 pu (aLoad true 3 (.pointer (some ⟨b142, 0, none⟩)) τ169) fun v179 =>
 Q (.ret (.tuple #[v179, (.int .i64 n160)])) τ169) (
 If (decide (n158 = 0)) (
 pu (aStore 3 (.pointer (some ⟨b142, 0, none⟩)) (.agg #[(.bool false), (.slice none 0 0), (.slice none 0 0)]) τ156) fun τ188 =>
 pu (aLoad true 3 (.pointer (some ⟨b142, 0, none⟩)) τ188) fun v195 =>
 Q (.ret (.tuple #[v195, (.int .i64 5)])) τ188) (
 om (L b144 1 τ156) fun v198 =>
 om (L b144 2 τ156) fun v206 =>
 (
 wNew τ156 (.cells [(.int .u64 n199)] t_uint64 false) fun b209 τ210 =>
 om (L b144 1 τ210) fun v211 =>
 veq1 v211 v198 = true ∧
 om (L b144 2 τ210) fun v212 =>
 veq1 v212 v206 = true ∧
 (
 pu (aAppend t_uint64 1 8 v198 (.slice (some ⟨b209, 0, none⟩) 1 1) τ210) fun r213 =>
 om (L b144 2 r213.2) fun v214 =>
 veq1 v214 v206 = true ∧
 wNew r213.2 (.cells [(.int .u64 n158)] t_uint64 false) fun b215 τ216 =>
 om (L b144 1 τ216) fun v217 =>
 veq1 v217 v198 = true ∧
 om (L b144 2 τ216) fun v218 =>
 veq1 v218 v206 = true ∧
 pu (aAppend t_uint64 1 8 v206 (.slice (some ⟨b215, 0, none⟩) 1 1) τ216) fun r219 =>
 St b144 1 r213.1 r219.2 fun τ220 =>
 St b144 2 r219.1 τ220 fun τ221 =>
 (s_node_Take_k27 N1 E Q n148 b142 b144 b146 τ221)) ∧ (
 wNew τ210 (.cells [(.int .u64 n158)] t_uint64 false) fun b231 τ232 =>
 om (L b144 1 τ232) fun v233 =>
 veq1 v233 v198 = true ∧
 om (L b144 2 τ232) fun v234 =>
 veq1 v234 v206 = true ∧
 pu (aAppend t_uint64 1 8 v198 (.slice (some ⟨b209, 0, none⟩) 1 1) τ232) fun r235 =>
 om (L b144 2 r235.2) fun v236 =>
 veq1 v236 v206 = true ∧
 pu (aAppend t_uint64 1 8 v206 (.slice (some ⟨b231, 0, none⟩) 1 1) r235.2) fun r237 =>
 St b144 1 r235.1 r237.2 fun τ238 =>
 St b144 2 r237.1 τ238 fun τ239 =>
 (s_node_Take_k27 N1 E Q n148 b142 b144 b146 τ239))) ∧ (
 wNew τ156 (.cells [(.int .u64 n158)] t_uint64 false) fun b240 τ241 =>
 om (L b144 1 τ241) fun v242 =>
 veq1 v242 v198 = true ∧
 om (L b144 2 τ241) fun v243 =>
 veq1 v243 v206 = true ∧
 wNew τ241 (.cells [(.int .u64 n199)] t_uint64 false) fun b244 τ245 =>
 om (L b144 1 τ245) fun v246 =>
 veq1 v246 v198 = true ∧
 om (L b144 2 τ245) fun v247 =>
 veq1 v247 v206 = true ∧
 pu (aAppend t_uint64 1 8 v198 (.slice (some ⟨b244, 0, none⟩) 1 1) τ245) fun r248 =>
 om (L b144 2 r248.2) fun v249 =>
 veq1 v249 v206 = true ∧
 pu (aAppend t_uint64 1 8 v206 (.slice (some ⟨b240, 0, none⟩) 1 1) r248.2) fun r250 =>
 St b144 1 r248.1 r250.2 fun τ251 =>
 St b144 2 r250.1 τ251 fun τ252 =>
 (s_node_Take_k27 N1 E Q n148 b142 b144 b146 τ252))))) v159) v157))
def s_node_Take_b2 (N2 : Int → AHeap → Prop) (E : EvT) (Q : RK) (b267 b270 : Nat) (v272 : Value) (n274 n264 : Int) (τ275 : AHeap) : Prop :=
 If (decide (n264 < n274)) (
 om (aIndexAddr 1 v272 (.int .i64 n264)) fun v283 =>
 ldI .u8 (aLoad false 1 v283 τ275) fun n284 =>
 If (!decide (n284 = 0)) (
 pu (aStore 3 (.pointer (some ⟨b267, 0, none⟩)) (.agg #[(.bool false), (.slice none 0 0), (.slice none 0 0)]) τ275) fun τ293 =>
 pu (aLoad true 3 (.pointer (some ⟨b267, 0, none⟩)) τ293) fun v300 =>
 Q (.ret (.tuple #[v300, (.int .i64 5)])) τ293) (
 Bi (w64 (n264 + 1)) fun n303 =>
 N2 n303 τ275)) (
 ldB (L b270 0 τ275) fun c308 =>
 om (L b270 1 τ275) fun v309 =>
 om (L b270 2 τ275) fun v310 =>
 pu (aStore 3 (.pointer (some ⟨b267, 0, none⟩)) (.agg #[(.bool c308), v309, v310]) τ275) fun τ312 =>
 pu (aLoad true 3 (.pointer (some ⟨b267, 0, none⟩)) τ312) fun v313 =>
 Q (.ret (.tuple #[v313, (.int .i64 0)])) τ312)
def s_node_Take_b1 (N1 : Int → AHeap → Prop) (E : EvT) (Q : RK) (b72 b77 b80 : Nat) (v83 : Value) (n85 n66 : Int) (τ86 : AHeap) : Prop :=
 If (decide (n66 < n85)) (
 wF v83 fun g256 a257 c258 =>
 E g256 (a257 ++ [] ++ c258) τ86 (c2 Q fun v97 v99 τ96 =>
 tI .u64 (fun n98 =>
 tI .i64 (fun n100 =>
 If (!decide (n100 = 0)) (
 pu (aStore 3 (.pointer (some ⟨b72, 0, none⟩)) (.agg #[(.bool false), (.slice none 0 0), (.slice none 0 0)]) τ96) fun τ111 =>
 pu (aLoad true 3 (.pointer (some ⟨b72, 0, none⟩)) τ111) fun v125 =>
 Q (.ret (.tuple #[v125, (.int .i64 n100)])) τ111) (
 If (decide (0 < n66)) (
 om (L b77 1 τ96) fun v135 =>
 Bi (w64 (n66 - 1)) fun n136 =>
 om (aIndexAddr 1 v135 (.int .i64 n136)) fun v137 =>
 ldI .u64 (aLoad false 1 v137 τ96) fun n138 =>
 (s_node_Take_k20 N1 E Q (decide (n98 ≤ n138)) b72 b77 b80 n66 v83 n98 τ96)) (
 (s_node_Take_k20 N1 E Q false b72 b77 b80 n66 v83 n98 τ96)))) v99) v97)) (
 om (L b80 0 τ86) fun v261 =>
 ldI .i64 (lenS v261) fun n262 =>
 ∃ I314 : Nat → Int → AHeap → Prop, (∃ m, I314 m 0 τ86) ∧
 ∀ m (n264 : Int) (σ' : AHeap), I314 m n264 σ' → (s_node_Take_b2 (fun n264 σ' => ∃ m', m' < m ∧ I314 m' n264 σ') E Q b72 b77 v261 n262 n264 σ'))
def s_node_Take_k8 (E : EvT) (Q : RK) (c39 : Bool) (b41 : Nat) (v45 : Value) (τ38 : AHeap) : Prop :=
 If c39 (
 pu (aStore 3 (.pointer (some ⟨b41, 0, none⟩)) (.agg #[(.bool false), (.slice none 0 0), (.slice none 0 0)]) τ38) fun τ42 =>
 pu (aLoad true 3 (.pointer (some ⟨b41, 0, none⟩)) τ42) fun v43 =>
 Q (.ret (.tuple #[v43, (.int .i64 5)])) τ42) (
 om (aIndexAddr 1 v45 (.int .i64 0)) fun v47 =>
 ldI .u8 (aLoad false 1 v47 τ38) fun n48 =>
 wNew τ38 (.cells [(.bool false), (.slice none 0 0), (.slice none 0 0)] t_api_Node false) fun b49 τ50 =>
 pu (aStore 3 (.pointer (some ⟨b49, 0, none⟩)) (.agg #[(.bool (decide (n48 = 1))), (.slice none 0 0), (.slice none 0 0)]) τ50) fun τ51 =>
 om (aSlice 1 v45 (some (.int .i64 2)) none none) fun v54 =>
 On v54 (
 wNew τ51 (.cells [v54] t_node_reader false) fun b55 τ56 =>
 om (aIndexAddr 1 v45 (.int .i64 1)) fun v62 =>
 ldI .u8 (aLoad false 1 v62 τ56) fun n63 =>
 Bi (w64 (n63)) fun n64 =>
 ∃ I316 : Nat → Int → AHeap → Prop, (∃ m, I316 m 0 τ56) ∧
 ∀ m (n66 : Int) (σ' : AHeap), I316 m n66 σ' → (s_node_Take_b1 (fun n66 σ' => ∃ m', m' < m ∧ I316 m' n66 σ') E Q b41 b49 b55 (.func (.func f_node_reader_number) #[(.pointer (some ⟨b55, 0, none⟩))] #[]) n64 n66 σ')))
def s_node_Take (E : EvT) (Q : RK) (x0 : Value) (σ : AHeap) : Prop :=
 wNew σ (.cells [(.bool false), (.slice none 0 0), (.slice none 0 0)] t_api_Node false) fun b1 τ2 =>
 ldI .i64 (lenS x0) fun n5 =>
 If (decide (n5 < 1)) (
 pu (aStore 3 (.pointer (some ⟨b1, 0, none⟩)) (.agg #[(.bool false), (.slice none 0 0), (.slice none 0 0)]) τ2) fun τ10 =>
 pu (aLoad true 3 (.pointer (some ⟨b1, 0, none⟩)) τ10) fun v11 =>
 Q (.ret (.tuple #[v11, (.int .i64 4)])) τ10) (
 om (aIndexAddr 1 x0 (.int .i64 0)) fun v15 =>
 ldI .u8 (aLoad false 1 v15 τ2) fun n16 =>
 If (decide (1 < n16)) (
 pu (aStore 3 (.pointer (some ⟨b1, 0, none⟩)) (.agg #[(.bool false), (.slice none 0 0), (.slice none 0 0)]) τ2) fun τ21 =>
 pu (aLoad true 3 (.pointer (some ⟨b1, 0, none⟩)) τ21) fun v22 =>
 Q (.ret (.tuple #[v22, (.int .i64 5)])) τ21) (
 ldI .i64 (lenS x0) fun n26 =>
 If (decide (n26 < 2)) (
 pu (aStore 3 (.pointer (some ⟨b1, 0, none⟩)) (.agg #[(.bool false), (.slice none 0 0), (.slice none 0 0)]) τ2) fun τ31 =>
 pu (aLoad true 3 (.pointer (some ⟨b1, 0, none⟩)) τ31) fun v32 =>
 Q (.ret (.tuple #[v32, (.int .i64 4)])) τ31) (
 om (aIndexAddr 1 x0 (.int .i64 1)) fun v36 =>
 ldI .u8 (aLoad false 1 v36 τ2) fun n37 =>
 If (decide (n37 < 1)) (
 (s_node_Take_k8 E Q true b1 x0 τ2)) (
 om (aIndexAddr 1 x0 (.int .i64 1)) fun v318 =>
 ldI .u8 (aLoad false 1 v318 τ2) fun n319 =>
 (s_node_Take_k8 E Q (decide (8 < n319)) b1 x0 τ2)))))
theorem q_node_Take (E : EvT) (Q : RK) (x0 : Value) (σ : AHeap) : xfn P E Tryz.f68 (hl [(5, .loopr [2, 4, 5, 6, 51] [52] [2, 3, 4, 5] [2, 3, 4, 5, 52]), (12, .tree (.step 0 [] (.step 1 [] (.step 2 [] (.step 5 [] (.step 6 [] (.step 7 [] (.alt (.step 3 [1, 6] (.alt (.step 4 [6] (.step 10 [] (.step 8 [1, 6] (.step 9 [] (.step 11 [] (.step 12 [] (.step 13 [] .nil))))))) (.step 8 [1, 6] (.step 4 [6] (.step 10 [] (.step 9 [] (.step 11 [] (.step 12 [] (.step 13 [] .nil))))))))) (.step 8 [1, 6] (.step 3 [1, 6] (.step 4 [6] (.step 10 [] (.step 9 [] (.step 11 [] (.step 12 [] (.step 13 [] .nil)))))))))))))))), (14, .loopr [2, 4, 105, 106] [107] [2, 3, 4] [2, 3, 4, 107])]) (fun | 52 => (.i .i64) | 107 => (.i .i64) | _ => .v) [x0] σ Q = s_node_Take E Q x0 σ := by kernel_rfl
theorem e_node_Take {Q : RK} {x0 : Value} {σ : AHeap} (h : s_node_Take E Q x0 σ) : E f_node_Take [x0] σ Q :=
  exfn Tryz.func68 _ _ (by kernel_rfl) (Eq.mpr (q_node_Take E Q x0 σ) h)
def s_knot_count (E : EvT) (Q : RK) (x0_0 : Bool) (x0_1 x0_2 : Value) (σ : AHeap) : Prop :=
 wNew σ (.cells [(.bool x0_0), x0_1, x0_2] t_api_Node false) fun b1 τ2 =>
 om (L b1 1 τ2) fun v5 =>
 ldI .i64 (lenS v5) fun n6 =>
 om (L b1 2 τ2) fun v7 =>
 ldI .i64 (lenS v7) fun n8 =>
 Q (.ret (.int .i64 (if n8 < n6 then n8 else n6))) τ2
theorem q_knot_count (E : EvT) (Q : RK) (x0_0 : Bool) (x0_1 x0_2 : Value) (σ : AHeap) : xfn P E Tryz.f130 (fun _ => none) (fun _ => .v) [(.agg #[(.bool x0_0), x0_1, x0_2])] σ Q = s_knot_count E Q x0_0 x0_1 x0_2 σ := by kernel_rfl
theorem e_knot_count {Q : RK} {x0_0 : Bool} {x0_1 x0_2 : Value} {σ : AHeap} (h : s_knot_count E Q x0_0 x0_1 x0_2 σ) : E f_knot_count [(.agg #[(.bool x0_0), x0_1, x0_2])] σ Q :=
  exfn Tryz.func130 _ _ (by kernel_rfl) (Eq.mpr (q_knot_count E Q x0_0 x0_1 x0_2 σ) h)
def s_knot_both (E : EvT) (Q : RK) (x0_0 : Bool) (x0_1 x0_2 x1 : Value) (σ : AHeap) : Prop :=
 wNew σ (.cells [(.bool x0_0), x0_1, x0_2] t_api_Node false) fun b1 τ2 =>
 wNew τ2 (.cells [(.bool false), (.slice none 0 0), (.slice none 0 0)] t_api_Node false) fun b3 τ4 =>
 ldB (L b1 0 τ4) fun c7 =>
 om (L b1 1 τ4) fun v8 =>
 om (L b1 2 τ4) fun v9 =>
 E f_knot_count [(.agg #[(.bool c7), v8, v9])] τ4 (cI Q .i64 fun n11 τ10 =>
 ldB (L b1 0 τ10) fun c14 =>
 om (L b1 1 τ10) fun v17 =>
 om (aSlice 1 v17 none (some (.int .i64 n11)) (some (.int .i64 n11))) fun v19 =>
 om (L b1 2 τ10) fun v20 =>
 om (aSlice 1 v20 none (some (.int .i64 n11)) (some (.int .i64 n11))) fun v21 =>
 E f_slices_Clone_sl_uint64_uint64 [v19] τ10 (cV Q fun v23 τ22 =>
 ldB (L b1 0 τ22) fun c24 =>
 veq1 (.bool c24) (.bool c14) = true ∧
 om (L b1 2 τ22) fun v25 =>
 veq1 v25 v20 = true ∧
 wF x1 fun g43 a44 c45 =>
 E g43 (a44 ++ [v23, (.bool true)] ++ c45) τ22 (cV Q fun v27 τ26 =>
 ldB (L b1 0 τ26) fun c28 =>
 veq1 (.bool c28) (.bool c14) = true ∧
 om (L b1 2 τ26) fun v29 =>
 veq1 v29 v20 = true ∧
 E f_slices_Clone_sl_uint64_uint64 [v21] τ26 (cV Q fun v31 τ30 =>
 ldB (L b1 0 τ30) fun c32 =>
 veq1 (.bool c32) (.bool c14) = true ∧
 wF x1 fun g40 a41 c42 =>
 E g40 (a41 ++ [v31, (.bool false)] ++ c42) τ30 (cV Q fun v34 τ33 =>
 ldB (L b1 0 τ33) fun c35 =>
 veq1 (.bool c35) (.bool c14) = true ∧
 On v27 (
 On v34 (
 pu (aStore 3 (.pointer (some ⟨b3, 0, none⟩)) (.agg #[(.bool c14), v27, v34]) τ33) fun τ38 =>
 pu (aLoad true 3 (.pointer (some ⟨b3, 0, none⟩)) τ38) fun v39 =>
 Q (.ret v39) τ38)))))))
theorem q_knot_both (E : EvT) (Q : RK) (x0_0 : Bool) (x0_1 x0_2 x1 : Value) (σ : AHeap) : xfn P E Tryz.f132 (hl [(0, .ord [(0, []), (1, []), (2, []), (3, []), (4, []), (5, []), (6, []), (7, []), (10, []), (11, []), (12, []), (13, []), (14, []), (15, []), (8, [1, 12]), (9, [1, 12]), (16, [1]), (17, [1]), (18, []), (19, [])])]) (fun _ => .v) [(.agg #[(.bool x0_0), x0_1, x0_2]), x1] σ Q = s_knot_both E Q x0_0 x0_1 x0_2 x1 σ := by kernel_rfl
theorem e_knot_both {Q : RK} {x0_0 : Bool} {x0_1 x0_2 x1 : Value} {σ : AHeap} (h : s_knot_both E Q x0_0 x0_1 x0_2 x1 σ) : E f_knot_both [(.agg #[(.bool x0_0), x0_1, x0_2]), x1] σ Q :=
  exfn Tryz.func132 _ _ (by kernel_rfl) (Eq.mpr (q_knot_both E Q x0_0 x0_1 x0_2 x1 σ) h)
def s_knot_one (E : EvT) (Q : RK) (x0 : Bool) (x1 x2 : Int) (σ : AHeap) : Prop :=
 If x0 (
 Q (.ret (.int .u64 x1)) σ) (
 Q (.ret (.int .u64 x2)) σ)
theorem q_knot_one (E : EvT) (Q : RK) (x0 : Bool) (x1 x2 : Int) (σ : AHeap) : xfn P E Tryz.f135 (fun _ => none) (fun _ => .v) [(.bool x0), (.int .u64 x1), (.int .u64 x2)] σ Q = s_knot_one E Q x0 x1 x2 σ := by kernel_rfl
theorem e_knot_one {Q : RK} {x0 : Bool} {x1 x2 : Int} {σ : AHeap} (h : s_knot_one E Q x0 x1 x2 σ) : E f_knot_one [(.bool x0), (.int .u64 x1), (.int .u64 x2)] σ Q :=
  exfn Tryz.func135 _ _ (by kernel_rfl) (Eq.mpr (q_knot_one E Q x0 x1 x2 σ) h)
def s_knot_Find_b1 (N1 : Int → AHeap → Prop) (E : EvT) (Q : RK) (n17 : Int) (b20 : Nat) (n22 n24 n13 : Int) (τ25 : AHeap) : Prop :=
 If (decide (n13 < n24)) (
 om (L b20 1 τ25) fun v35 =>
 om (aIndexAddr 1 v35 (.int .i64 n13)) fun v37 =>
 ldI .u64 (aLoad false 1 v37 τ25) fun n38 =>
 If (decide (n17 ≤ n38)) (
 om (L b20 1 τ25) fun v46 =>
 om (aIndexAddr 1 v46 (.int .i64 n13)) fun v47 =>
 ldI .u64 (aLoad false 1 v47 τ25) fun n48 =>
 Q (.ret (.tuple #[(.int .i64 n13), (.bool (decide (n48 = n17)))])) τ25) (
 Bi (w64 (n13 + 1)) fun n58 =>
 N1 n58 τ25)) (
 Q (.ret (.tuple #[(.int .i64 n22), (.bool false)])) τ25)
def s_knot_Find (E : EvT) (Q : RK) (x0_0 : Bool) (x0_1 x0_2 : Value) (x1 : Int) (σ : AHeap) : Prop :=
 wNew σ (.cells [(.bool x0_0), x0_1, x0_2] t_api_Node false) fun b1 τ2 =>
 ldB (L b1 0 τ2) fun c5 =>
 om (L b1 1 τ2) fun v6 =>
 om (L b1 2 τ2) fun v7 =>
 E f_knot_count [(.agg #[(.bool c5), v6, v7])] τ2 (cI Q .i64 fun n9 τ8 =>
 ∃ I62 : Nat → Int → AHeap → Prop, (∃ m, I62 m 0 τ8) ∧
 ∀ m (n13 : Int) (σ' : AHeap), I62 m n13 σ' → (s_knot_Find_b1 (fun n13 σ' => ∃ m', m' < m ∧ I62 m' n13 σ') E Q x1 b1 n9 n9 n13 σ'))
theorem q_knot_Find (E : EvT) (Q : RK) (x0_0 : Bool) (x0_1 x0_2 : Value) (x1 : Int) (σ : AHeap) : xfn P E Tryz.f75 (hl [(1, .loopr [1, 2, 6, 10] [11] [4, 5, 6] [4, 5, 6, 11]), (5, .ord [(0, []), (1, []), (2, []), (3, []), (4, []), (5, []), (6, []), (7, []), (8, []), (9, [])])]) (fun | 11 => (.i .i64) | _ => .v) [(.agg #[(.bool x0_0), x0_1, x0_2]), (.int .u64 x1)] σ Q = s_knot_Find E Q x0_0 x0_1 x0_2 x1 σ := by kernel_rfl
theorem e_knot_Find {Q : RK} {x0_0 : Bool} {x0_1 x0_2 : Value} {x1 : Int} {σ : AHeap} (h : s_knot_Find E Q x0_0 x0_1 x0_2 x1 σ) : E f_knot_Find [(.agg #[(.bool x0_0), x0_1, x0_2]), (.int .u64 x1)] σ Q :=
  exfn Tryz.func75 _ _ (by kernel_rfl) (Eq.mpr (q_knot_Find E Q x0_0 x0_1 x0_2 x1 σ) h)
def s_knot_Child_k8 (E : EvT) (Q : RK) (n49 : Int) (τ48 : AHeap) : Prop :=
 Q (.ret (.int .i64 n49)) τ48
def s_knot_Child_b1 (N1 : Int → Int → AHeap → Prop) (E : EvT) (Q : RK) (n18 : Int) (b20 : Nat) (n22 n13 n14 : Int) (τ23 : AHeap) : Prop :=
 If (decide (n14 < n22)) (
 om (L b20 1 τ23) fun v33 =>
 om (aIndexAddr 1 v33 (.int .i64 n14)) fun v35 =>
 ldI .u64 (aLoad false 1 v35 τ23) fun n36 =>
 If (decide (n18 < n36)) (
 (s_knot_Child_k8 E Q n13 τ23)) (
 Bi (w64 (n14 + 1)) fun n56 =>
 N1 n14 n56 τ23)) (
 (s_knot_Child_k8 E Q n13 τ23))
def s_knot_Child (E : EvT) (Q : RK) (x0_0 : Bool) (x0_1 x0_2 : Value) (x1 : Int) (σ : AHeap) : Prop :=
 wNew σ (.cells [(.bool x0_0), x0_1, x0_2] t_api_Node false) fun b1 τ2 =>
 ldB (L b1 0 τ2) fun c7 =>
 om (L b1 1 τ2) fun v8 =>
 om (L b1 2 τ2) fun v9 =>
 E f_knot_count [(.agg #[(.bool c7), v8, v9])] τ2 (cI Q .i64 fun n11 τ10 =>
 ∃ I58 : Nat → Int → Int → AHeap → Prop, (∃ m, I58 m 0 0 τ10) ∧
 ∀ m (n13 : Int) (n14 : Int) (σ' : AHeap), I58 m n13 n14 σ' → (s_knot_Child_b1 (fun n13 n14 σ' => ∃ m', m' < m ∧ I58 m' n13 n14 σ') E Q x1 b1 n11 n13 n14 σ'))
theorem q_knot_Child (E : EvT) (Q : RK) (x0_0 : Bool) (x0_1 x0_2 : Value) (x1 : Int) (σ : AHeap) : xfn P E Tryz.f81 (hl [(1, .loopr [1, 2, 8] [5, 9] [5] [5, 9])]) (fun | 5 => (.i .i64) | 9 => (.i .i64) | _ => .v) [(.agg #[(.bool x0_0), x0_1, x0_2]), (.int .u64 x1)] σ Q = s_knot_Child E Q x0_0 x0_1 x0_2 x1 σ := by kernel_rfl
theorem e_knot_Child {Q : RK} {x0_0 : Bool} {x0_1 x0_2 : Value} {x1 : Int} {σ : AHeap} (h : s_knot_Child E Q x0_0 x0_1 x0_2 x1 σ) : E f_knot_Child [(.agg #[(.bool x0_0), x0_1, x0_2]), (.int .u64 x1)] σ Q :=
  exfn Tryz.func81 _ _ (by kernel_rfl) (Eq.mpr (q_knot_Child E Q x0_0 x0_1 x0_2 x1 σ) h)
def s_knot_Insert (E : EvT) (Q : RK) (x0_0 : Bool) (x0_1 x0_2 : Value) (x1 x2 x3 : Int) (σ : AHeap) : Prop :=
 wNew σ (.cells [(.bool x0_0), x0_1, x0_2] t_api_Node false) fun b1 τ2 =>
 wNew τ2 (.cells [(.int .i64 x1)] t_int false) fun b3 τ4 =>
 wNew τ4 (.cells [(.int .u64 x2)] t_uint64 false) fun b5 τ6 =>
 wNew τ6 (.cells [(.int .u64 x3)] t_uint64 false) fun b7 τ8 =>
 wNew τ8 (.cells [(.bool false), (.slice none 0 0), (.slice none 0 0)] t_api_Node false) fun b9 τ10 =>
 ldI .i64 (L b3 0 τ10) fun n13 =>
 ldB (L b1 0 τ10) fun c15 =>
 om (L b1 1 τ10) fun v16 =>
 om (L b1 2 τ10) fun v17 =>
 E f_knot_count [(.agg #[(.bool c15), v16, v17])] τ10 (cI Q .i64 fun n19 τ18 =>
 ldI .i64 (L b3 0 τ18) fun n20 =>
 veq1 (.int .i64 n20) (.int .i64 n13) = true ∧
 St b3 0 (.int .i64 (if n19 < (if 0 > n13 then 0 else n13) then n19 else (if 0 > n13 then 0 else n13))) τ18 fun τ21 =>
 ldB (L b1 0 τ21) fun c24 =>
 om (L b1 1 τ21) fun v25 =>
 om (L b1 2 τ21) fun v26 =>
 E f_knot_both [(.agg #[(.bool c24), v25, v26]), (.func (.func f_knot_Insert_c1) #[] #[(.pointer (some ⟨b3, 0, none⟩)), (.pointer (some ⟨b5, 0, none⟩)), (.pointer (some ⟨b7, 0, none⟩))])] τ21 (cV Q fun v33 τ32 =>
 pu (aStore 3 (.pointer (some ⟨b9, 0, none⟩)) v33 τ32) fun τ36 =>
 pu (aLoad true 3 (.pointer (some ⟨b9, 0, none⟩)) τ36) fun v37 =>
 Q (.ret v37) τ36))
theorem q_knot_Insert (E : EvT) (Q : RK) (x0_0 : Bool) (x0_1 x0_2 : Value) (x1 x2 x3 : Int) (σ : AHeap) : xfn P E Tryz.f78 (hl [(0, .ord [(0, []), (1, []), (2, []), (3, [0]), (4, []), (5, [])])]) (fun _ => .v) [(.agg #[(.bool x0_0), x0_1, x0_2]), (.int .i64 x1), (.int .u64 x2), (.int .u64 x3)] σ Q = s_knot_Insert E Q x0_0 x0_1 x0_2 x1 x2 x3 σ := by kernel_rfl
theorem e_knot_Insert {Q : RK} {x0_0 : Bool} {x0_1 x0_2 : Value} {x1 x2 x3 : Int} {σ : AHeap} (h : s_knot_Insert E Q x0_0 x0_1 x0_2 x1 x2 x3 σ) : E f_knot_Insert [(.agg #[(.bool x0_0), x0_1, x0_2]), (.int .i64 x1), (.int .u64 x2), (.int .u64 x3)] σ Q :=
  exfn Tryz.func78 _ _ (by kernel_rfl) (Eq.mpr (q_knot_Insert E Q x0_0 x0_1 x0_2 x1 x2 x3 σ) h)
def s_knot_Insert_c1 (E : EvT) (Q : RK) (x0 : Value) (x1 : Bool) (x2 x3 x4 : Nat) (σ : AHeap) : Prop :=
 ldI .i64 (L x2 0 σ) fun n4 =>
 ldI .u64 (L x3 0 σ) fun n7 =>
 ldI .u64 (L x4 0 σ) fun n9 =>
 E f_knot_one [(.bool x1), (.int .u64 n7), (.int .u64 n9)] σ (cI Q .u64 fun n11 τ10 =>
 ldI .i64 (L x2 0 τ10) fun n12 =>
 veq1 (.int .i64 n12) (.int .i64 n4) = true ∧
 wNew τ10 (.cells [(.int .u64 n11)] t_uint64 false) fun b13 τ14 =>
 ldI .i64 (L x2 0 τ14) fun n15 =>
 veq1 (.int .i64 n15) (.int .i64 n4) = true ∧
 E f_slices_Insert_sl_uint64_uint64 [x0, (.int .i64 n4), (.slice (some ⟨b13, 0, none⟩) 1 1)] τ14 (cV Q fun v17 τ16 =>
 Q (.ret v17) τ16))
theorem q_knot_Insert_c1 (E : EvT) (Q : RK) (x0 : Value) (x1 : Bool) (x2 x3 x4 : Nat) (σ : AHeap) : xfn P E Tryz.f133 (hl [(0, .ord [(0, []), (1, []), (2, []), (3, []), (4, []), (5, [1]), (6, [1]), (7, []), (8, [])])]) (fun _ => .v) [x0, (.bool x1), (.pointer (some ⟨x2, 0, none⟩)), (.pointer (some ⟨x3, 0, none⟩)), (.pointer (some ⟨x4, 0, none⟩))] σ Q = s_knot_Insert_c1 E Q x0 x1 x2 x3 x4 σ := by kernel_rfl
theorem e_knot_Insert_c1 {Q : RK} {x0 : Value} {x1 : Bool} {x2 x3 x4 : Nat} {σ : AHeap} (h : s_knot_Insert_c1 E Q x0 x1 x2 x3 x4 σ) : E f_knot_Insert_c1 [x0, (.bool x1), (.pointer (some ⟨x2, 0, none⟩)), (.pointer (some ⟨x3, 0, none⟩)), (.pointer (some ⟨x4, 0, none⟩))] σ Q :=
  exfn Tryz.func133 _ _ (by kernel_rfl) (Eq.mpr (q_knot_Insert_c1 E Q x0 x1 x2 x3 x4 σ) h)
def s_knot_Set (E : EvT) (Q : RK) (x0_0 : Bool) (x0_1 x0_2 : Value) (x1 x2 x3 : Int) (σ : AHeap) : Prop :=
 wNew σ (.cells [(.bool x0_0), x0_1, x0_2] t_api_Node false) fun b1 τ2 =>
 wNew τ2 (.cells [(.int .i64 x1)] t_int false) fun b3 τ4 =>
 wNew τ4 (.cells [(.int .u64 x2)] t_uint64 false) fun b5 τ6 =>
 wNew τ6 (.cells [(.int .u64 x3)] t_uint64 false) fun b7 τ8 =>
 wNew τ8 (.cells [(.bool false), (.slice none 0 0), (.slice none 0 0)] t_api_Node false) fun b9 τ10 =>
 ldB (L b1 0 τ10) fun c13 =>
 om (L b1 1 τ10) fun v14 =>
 om (L b1 2 τ10) fun v15 =>
 E f_knot_both [(.agg #[(.bool c13), v14, v15]), (.func (.func f_knot_Set_c1) #[] #[(.pointer (some ⟨b3, 0, none⟩)), (.pointer (some ⟨b5, 0, none⟩)), (.pointer (some ⟨b7, 0, none⟩))])] τ10 (cV Q fun v20 τ19 =>
 pu (aStore 3 (.pointer (some ⟨b9, 0, none⟩)) v20 τ19) fun τ22 =>
 pu (aLoad true 3 (.pointer (some ⟨b9, 0, none⟩)) τ22) fun v23 =>
 Q (.ret v23) τ22)
theorem q_knot_Set (E : EvT) (Q : RK) (x0_0 : Bool) (x0_1 x0_2 : Value) (x1 x2 x3 : Int) (σ : AHeap) : xfn P E Tryz.f131 (fun _ => none) (fun _ => .v) [(.agg #[(.bool x0_0), x0_1, x0_2]), (.int .i64 x1), (.int .u64 x2), (.int .u64 x3)] σ Q = s_knot_Set E Q x0_0 x0_1 x0_2 x1 x2 x3 σ := by kernel_rfl
theorem e_knot_Set {Q : RK} {x0_0 : Bool} {x0_1 x0_2 : Value} {x1 x2 x3 : Int} {σ : AHeap} (h : s_knot_Set E Q x0_0 x0_1 x0_2 x1 x2 x3 σ) : E f_knot_Set [(.agg #[(.bool x0_0), x0_1, x0_2]), (.int .i64 x1), (.int .u64 x2), (.int .u64 x3)] σ Q :=
  exfn Tryz.func131 _ _ (by kernel_rfl) (Eq.mpr (q_knot_Set E Q x0_0 x0_1 x0_2 x1 x2 x3 σ) h)
def s_knot_Set_c1_k3 (E : EvT) (Q : RK) (v26 : Value) (τ25 : AHeap) : Prop :=
 Q (.ret v26) τ25
def s_knot_Set_c1_k2 (E : EvT) (Q : RK) (c8 : Bool) (v9 : Value) (b10 : Nat) (c13 : Bool) (b15 b18 : Nat) (τ7 : AHeap) : Prop :=
 If c8 (
 ldI .i64 (L b10 0 τ7) fun n11 =>
 ldI .u64 (L b15 0 τ7) fun n16 =>
 ldI .u64 (L b18 0 τ7) fun n19 =>
 E f_knot_one [(.bool c13), (.int .u64 n16), (.int .u64 n19)] τ7 (cI Q .u64 fun n21 τ20 =>
 ldI .i64 (L b10 0 τ20) fun n22 =>
 veq1 (.int .i64 n22) (.int .i64 n11) = true ∧
 om (aIndexAddr 1 v9 (.int .i64 n11)) fun v23 =>
 pu (aStore 1 v23 (.int .u64 n21) τ20) fun τ24 =>
 (s_knot_Set_c1_k3 E Q v9 τ24))) (
 (s_knot_Set_c1_k3 E Q v9 τ7))
def s_knot_Set_c1 (E : EvT) (Q : RK) (x0 : Value) (x1 : Bool) (x2 x3 x4 : Nat) (σ : AHeap) : Prop :=
 ldI .i64 (L x2 0 σ) fun n3 =>
 If (decide (0 ≤ n3)) (
 ldI .i64 (L x2 0 σ) fun n4 =>
 ldI .i64 (lenS x0) fun n6 =>
 (s_knot_Set_c1_k2 E Q (decide (n4 < n6)) x0 x2 x1 x3 x4 σ)) (
 (s_knot_Set_c1_k2 E Q false x0 x2 x1 x3 x4 σ))
theorem q_knot_Set_c1 (E : EvT) (Q : RK) (x0 : Value) (x1 : Bool) (x2 x3 x4 : Nat) (σ : AHeap) : xfn P E Tryz.f166 (hl [(1, .ord [(0, []), (1, []), (2, []), (3, []), (4, []), (5, [1]), (6, []), (7, [])])]) (fun _ => .v) [x0, (.bool x1), (.pointer (some ⟨x2, 0, none⟩)), (.pointer (some ⟨x3, 0, none⟩)), (.pointer (some ⟨x4, 0, none⟩))] σ Q = s_knot_Set_c1 E Q x0 x1 x2 x3 x4 σ := by kernel_rfl
theorem e_knot_Set_c1 {Q : RK} {x0 : Value} {x1 : Bool} {x2 x3 x4 : Nat} {σ : AHeap} (h : s_knot_Set_c1 E Q x0 x1 x2 x3 x4 σ) : E f_knot_Set_c1 [x0, (.bool x1), (.pointer (some ⟨x2, 0, none⟩)), (.pointer (some ⟨x3, 0, none⟩)), (.pointer (some ⟨x4, 0, none⟩))] σ Q :=
  exfn Tryz.func166 _ _ (by kernel_rfl) (Eq.mpr (q_knot_Set_c1 E Q x0 x1 x2 x3 x4 σ) h)
def s_knot_Remove (E : EvT) (Q : RK) (x0_0 : Bool) (x0_1 x0_2 : Value) (x1 : Int) (σ : AHeap) : Prop :=
 wNew σ (.cells [(.bool x0_0), x0_1, x0_2] t_api_Node false) fun b1 τ2 =>
 wNew τ2 (.cells [(.int .i64 x1)] t_int false) fun b3 τ4 =>
 wNew τ4 (.cells [(.bool false), (.slice none 0 0), (.slice none 0 0)] t_api_Node false) fun b5 τ6 =>
 ldB (L b1 0 τ6) fun c9 =>
 om (L b1 1 τ6) fun v10 =>
 om (L b1 2 τ6) fun v11 =>
 E f_knot_both [(.agg #[(.bool c9), v10, v11]), (.func (.func f_knot_Remove_c1) #[] #[(.pointer (some ⟨b3, 0, none⟩))])] τ6 (cV Q fun v14 τ13 =>
 pu (aStore 3 (.pointer (some ⟨b5, 0, none⟩)) v14 τ13) fun τ16 =>
 pu (aLoad true 3 (.pointer (some ⟨b5, 0, none⟩)) τ16) fun v17 =>
 Q (.ret v17) τ16)
theorem q_knot_Remove (E : EvT) (Q : RK) (x0_0 : Bool) (x0_1 x0_2 : Value) (x1 : Int) (σ : AHeap) : xfn P E Tryz.f83 (fun _ => none) (fun _ => .v) [(.agg #[(.bool x0_0), x0_1, x0_2]), (.int .i64 x1)] σ Q = s_knot_Remove E Q x0_0 x0_1 x0_2 x1 σ := by kernel_rfl
theorem e_knot_Remove {Q : RK} {x0_0 : Bool} {x0_1 x0_2 : Value} {x1 : Int} {σ : AHeap} (h : s_knot_Remove E Q x0_0 x0_1 x0_2 x1 σ) : E f_knot_Remove [(.agg #[(.bool x0_0), x0_1, x0_2]), (.int .i64 x1)] σ Q :=
  exfn Tryz.func83 _ _ (by kernel_rfl) (Eq.mpr (q_knot_Remove E Q x0_0 x0_1 x0_2 x1 σ) h)
def s_knot_Remove_c1_k2 (E : EvT) (Q : RK) (c5 : Bool) (v7 : Value) (b10 : Nat) (τ4 : AHeap) : Prop :=
 If c5 (
 Q (.ret v7) τ4) (
 ldI .i64 (L b10 0 τ4) fun n12 =>
 ldI .i64 (L b10 0 τ4) fun n13 =>
 Bi (w64 (n13 + 1)) fun n14 =>
 E f_slices_Delete_sl_uint64_uint64 [v7, (.int .i64 n12), (.int .i64 n14)] τ4 (cV Q fun v16 τ15 =>
 Q (.ret v16) τ15))
def s_knot_Remove_c1 (E : EvT) (Q : RK) (x0 : Value) (x1 : Bool) (x2 : Nat) (σ : AHeap) : Prop :=
 ldI .i64 (L x2 0 σ) fun n3 =>
 If (decide (n3 < 0)) (
 (s_knot_Remove_c1_k2 E Q true x0 x2 σ)) (
 ldI .i64 (L x2 0 σ) fun n17 =>
 ldI .i64 (lenS x0) fun n18 =>
 (s_knot_Remove_c1_k2 E Q (decide (n18 ≤ n17)) x0 x2 σ))
theorem q_knot_Remove_c1 (E : EvT) (Q : RK) (x0 : Value) (x1 : Bool) (x2 : Nat) (σ : AHeap) : xfn P E Tryz.f137 (fun _ => none) (fun _ => .v) [x0, (.bool x1), (.pointer (some ⟨x2, 0, none⟩))] σ Q = s_knot_Remove_c1 E Q x0 x1 x2 σ := by kernel_rfl
theorem e_knot_Remove_c1 {Q : RK} {x0 : Value} {x1 : Bool} {x2 : Nat} {σ : AHeap} (h : s_knot_Remove_c1 E Q x0 x1 x2 σ) : E f_knot_Remove_c1 [x0, (.bool x1), (.pointer (some ⟨x2, 0, none⟩))] σ Q :=
  exfn Tryz.func137 _ _ (by kernel_rfl) (Eq.mpr (q_knot_Remove_c1 E Q x0 x1 x2 σ) h)
def s_knot_Split (E : EvT) (Q : RK) (x0_0 : Bool) (x0_1 x0_2 : Value) (σ : AHeap) : Prop :=
 wNew σ (.cells [(.bool x0_0), x0_1, x0_2] t_api_Node false) fun b1 τ2 =>
 wNew τ2 (.cells [(.bool false), (.slice none 0 0), (.slice none 0 0)] t_api_Node false) fun b3 τ4 =>
 wNew τ4 (.cells [(.bool false), (.slice none 0 0), (.slice none 0 0)] t_api_Node false) fun b5 τ6 =>
 ldB (L b1 0 τ6) fun c9 =>
 om (L b1 1 τ6) fun v10 =>
 om (L b1 2 τ6) fun v11 =>
 E f_knot_count [(.agg #[(.bool c9), v10, v11])] τ6 (cI Q .i64 fun n13 τ12 =>
 Bi (w64 (n13 + 1)) fun n14 =>
 Bi (w64 (Int.tdiv n14 2)) fun n15 =>
 wNew τ12 (.cells [(.int .i64 0)] t_int false) fun b16 τ17 =>
 St b16 0 (.int .i64 n15) τ17 fun τ18 =>
 ldB (L b1 0 τ18) fun c21 =>
 om (L b1 1 τ18) fun v22 =>
 om (L b1 2 τ18) fun v23 =>
 E f_knot_both [(.agg #[(.bool c21), v22, v23]), (.func (.func f_knot_Split_c1) #[] #[(.pointer (some ⟨b16, 0, none⟩))])] τ18 (cV Q fun v26 τ25 =>
 wNew τ25 (.cells [(.bool false), (.slice none 0 0), (.slice none 0 0)] t_api_Node false) fun b27 τ28 =>
 pu (aStore 3 (.pointer (some ⟨b27, 0, none⟩)) v26 τ28) fun τ29 =>
 ldB (L b1 0 τ29) fun c32 =>
 om (L b1 1 τ29) fun v33 =>
 om (L b1 2 τ29) fun v34 =>
 E f_knot_both [(.agg #[(.bool c32), v33, v34]), (.func (.func f_knot_Split_c2) #[] #[(.pointer (some ⟨b16, 0, none⟩))])] τ29 (cV Q fun v37 τ36 =>
 wNew τ36 (.cells [(.bool false), (.slice none 0 0), (.slice none 0 0)] t_api_Node false) fun b38 τ39 =>
 pu (aStore 3 (.pointer (some ⟨b38, 0, none⟩)) v37 τ39) fun τ40 =>
 ldB (L b27 0 τ40) fun c44 =>
 om (L b27 1 τ40) fun v45 =>
 om (L b27 2 τ40) fun v46 =>
 ldB (L b38 0 τ40) fun c48 =>
 om (L b38 1 τ40) fun v49 =>
 om (L b38 2 τ40) fun v50 =>
 pu (aStore 3 (.pointer (some ⟨b3, 0, none⟩)) (.agg #[(.bool c44), v45, v46]) τ40) fun τ55 =>
 ldB (L b38 0 τ55) fun c56 =>
 om (L b38 1 τ55) fun v57 =>
 om (L b38 2 τ55) fun v58 =>
 veq1 (.agg #[(.bool c56), v57, v58]) (.agg #[(.bool c48), v49, v50]) = true ∧
 pu (aStore 3 (.pointer (some ⟨b5, 0, none⟩)) (.agg #[(.bool c48), v49, v50]) τ55) fun τ63 =>
 pu (aLoad true 3 (.pointer (some ⟨b3, 0, none⟩)) τ63) fun v64 =>
 pu (aLoad true 3 (.pointer (some ⟨b5, 0, none⟩)) τ63) fun v65 =>
 Q (.ret (.tuple #[v64, v65])) τ63)))
theorem q_knot_Split (E : EvT) (Q : RK) (x0_0 : Bool) (x0_1 x0_2 : Value) (σ : AHeap) : xfn P E Tryz.f136 (hl [(0, .ord [(0, []), (1, []), (2, [1]), (3, [])])]) (fun _ => .v) [(.agg #[(.bool x0_0), x0_1, x0_2])] σ Q = s_knot_Split E Q x0_0 x0_1 x0_2 σ := by kernel_rfl
theorem e_knot_Split {Q : RK} {x0_0 : Bool} {x0_1 x0_2 : Value} {σ : AHeap} (h : s_knot_Split E Q x0_0 x0_1 x0_2 σ) : E f_knot_Split [(.agg #[(.bool x0_0), x0_1, x0_2])] σ Q :=
  exfn Tryz.func136 _ _ (by kernel_rfl) (Eq.mpr (q_knot_Split E Q x0_0 x0_1 x0_2 σ) h)
def s_knot_Split_c1 (E : EvT) (Q : RK) (x0 : Value) (x1 : Bool) (x2 : Nat) (σ : AHeap) : Prop :=
 ldI .i64 (L x2 0 σ) fun n4 =>
 ldI .i64 (L x2 0 σ) fun n5 =>
 om (aSlice 1 x0 none (some (.int .i64 n4)) (some (.int .i64 n5))) fun v6 =>
 Q (.ret v6) σ
theorem q_knot_Split_c1 (E : EvT) (Q : RK) (x0 : Value) (x1 : Bool) (x2 : Nat) (σ : AHeap) : xfn P E Tryz.f170 (fun _ => none) (fun _ => .v) [x0, (.bool x1), (.pointer (some ⟨x2, 0, none⟩))] σ Q = s_knot_Split_c1 E Q x0 x1 x2 σ := by kernel_rfl
theorem e_knot_Split_c1 {Q : RK} {x0 : Value} {x1 : Bool} {x2 : Nat} {σ : AHeap} (h : s_knot_Split_c1 E Q x0 x1 x2 σ) : E f_knot_Split_c1 [x0, (.bool x1), (.pointer (some ⟨x2, 0, none⟩))] σ Q :=
  exfn Tryz.func170 _ _ (by kernel_rfl) (Eq.mpr (q_knot_Split_c1 E Q x0 x1 x2 σ) h)
def s_knot_Split_c2 (E : EvT) (Q : RK) (x0 : Value) (x1 : Bool) (x2 : Nat) (σ : AHeap) : Prop :=
 ldI .i64 (L x2 0 σ) fun n4 =>
 om (aSlice 1 x0 (some (.int .i64 n4)) none none) fun v5 =>
 Q (.ret v5) σ
theorem q_knot_Split_c2 (E : EvT) (Q : RK) (x0 : Value) (x1 : Bool) (x2 : Nat) (σ : AHeap) : xfn P E Tryz.f171 (fun _ => none) (fun _ => .v) [x0, (.bool x1), (.pointer (some ⟨x2, 0, none⟩))] σ Q = s_knot_Split_c2 E Q x0 x1 x2 σ := by kernel_rfl
theorem e_knot_Split_c2 {Q : RK} {x0 : Value} {x1 : Bool} {x2 : Nat} {σ : AHeap} (h : s_knot_Split_c2 E Q x0 x1 x2 σ) : E f_knot_Split_c2 [x0, (.bool x1), (.pointer (some ⟨x2, 0, none⟩))] σ Q :=
  exfn Tryz.func171 _ _ (by kernel_rfl) (Eq.mpr (q_knot_Split_c2 E Q x0 x1 x2 σ) h)
def s_knot_Join (E : EvT) (Q : RK) (x0_0 : Bool) (x0_1 x0_2 : Value) (x1_0 : Bool) (x1_1 x1_2 : Value) (σ : AHeap) : Prop :=
 wNew σ (.cells [(.bool x0_0), x0_1, x0_2] t_api_Node false) fun b1 τ2 =>
 wNew τ2 (.cells [(.bool x1_0), x1_1, x1_2] t_api_Node false) fun b3 τ4 =>
 wNew τ4 (.cells [(.bool false), (.slice none 0 0), (.slice none 0 0)] t_api_Node false) fun b5 τ6 =>
 ldB (L b3 0 τ6) fun c9 =>
 om (L b3 1 τ6) fun v10 =>
 om (L b3 2 τ6) fun v11 =>
 E f_knot_both [(.agg #[(.bool c9), v10, v11]), (.func (.func f_knot_Join_c1) #[] #[])] τ6 (cV Q fun v13 τ12 =>
 wNew τ12 (.cells [(.bool false), (.slice none 0 0), (.slice none 0 0)] t_api_Node false) fun b14 τ15 =>
 pu (aStore 3 (.pointer (some ⟨b14, 0, none⟩)) v13 τ15) fun τ16 =>
 ldB (L b1 0 τ16) fun c20 =>
 om (L b1 1 τ16) fun v21 =>
 om (L b1 2 τ16) fun v22 =>
 E f_knot_both [(.agg #[(.bool c20), v21, v22]), (.func (.func f_knot_Join_c2) #[] #[(.pointer (some ⟨b14, 0, none⟩))])] τ16 (cV Q fun v25 τ24 =>
 pu (aStore 3 (.pointer (some ⟨b5, 0, none⟩)) v25 τ24) fun τ28 =>
 pu (aLoad true 3 (.pointer (some ⟨b5, 0, none⟩)) τ28) fun v29 =>
 Q (.ret v29) τ28))
theorem q_knot_Join (E : EvT) (Q : RK) (x0_0 : Bool) (x0_1 x0_2 : Value) (x1_0 : Bool) (x1_1 x1_2 : Value) (σ : AHeap) : xfn P E Tryz.f140 (fun _ => none) (fun _ => .v) [(.agg #[(.bool x0_0), x0_1, x0_2]), (.agg #[(.bool x1_0), x1_1, x1_2])] σ Q = s_knot_Join E Q x0_0 x0_1 x0_2 x1_0 x1_1 x1_2 σ := by kernel_rfl
theorem e_knot_Join {Q : RK} {x0_0 : Bool} {x0_1 x0_2 : Value} {x1_0 : Bool} {x1_1 x1_2 : Value} {σ : AHeap} (h : s_knot_Join E Q x0_0 x0_1 x0_2 x1_0 x1_1 x1_2 σ) : E f_knot_Join [(.agg #[(.bool x0_0), x0_1, x0_2]), (.agg #[(.bool x1_0), x1_1, x1_2])] σ Q :=
  exfn Tryz.func140 _ _ (by kernel_rfl) (Eq.mpr (q_knot_Join E Q x0_0 x0_1 x0_2 x1_0 x1_1 x1_2 σ) h)
def s_knot_Join_c1 (E : EvT) (Q : RK) (x0 : Value) (x1 : Bool) (σ : AHeap) : Prop :=
 Q (.ret x0) σ
theorem q_knot_Join_c1 (E : EvT) (Q : RK) (x0 : Value) (x1 : Bool) (σ : AHeap) : xfn P E Tryz.f172 (fun _ => none) (fun _ => .v) [x0, (.bool x1)] σ Q = s_knot_Join_c1 E Q x0 x1 σ := by kernel_rfl
theorem e_knot_Join_c1 {Q : RK} {x0 : Value} {x1 : Bool} {σ : AHeap} (h : s_knot_Join_c1 E Q x0 x1 σ) : E f_knot_Join_c1 [x0, (.bool x1)] σ Q :=
  exfn Tryz.func172 _ _ (by kernel_rfl) (Eq.mpr (q_knot_Join_c1 E Q x0 x1 σ) h)
def s_knot_Join_c2 (E : EvT) (Q : RK) (x0 : Value) (x1 : Bool) (x2 : Nat) (σ : AHeap) : Prop :=
 If x1 (
 om (L x2 1 σ) fun v9 =>
 pu (aAppend t_uint64 1 8 x0 v9 σ) fun r10 =>
 Q (.ret r10.1) r10.2) (
 om (L x2 2 σ) fun v14 =>
 pu (aAppend t_uint64 1 8 x0 v14 σ) fun r15 =>
 Q (.ret r15.1) r15.2)
theorem q_knot_Join_c2 (E : EvT) (Q : RK) (x0 : Value) (x1 : Bool) (x2 : Nat) (σ : AHeap) : xfn P E Tryz.f173 (fun _ => none) (fun _ => .v) [x0, (.bool x1), (.pointer (some ⟨x2, 0, none⟩))] σ Q = s_knot_Join_c2 E Q x0 x1 x2 σ := by kernel_rfl
theorem e_knot_Join_c2 {Q : RK} {x0 : Value} {x1 : Bool} {x2 : Nat} {σ : AHeap} (h : s_knot_Join_c2 E Q x0 x1 x2 σ) : E f_knot_Join_c2 [x0, (.bool x1), (.pointer (some ⟨x2, 0, none⟩))] σ Q :=
  exfn Tryz.func173 _ _ (by kernel_rfl) (Eq.mpr (q_knot_Join_c2 E Q x0 x1 x2 σ) h)
def s_knot_Even (E : EvT) (Q : RK) (x0_0 : Bool) (x0_1 x0_2 : Value) (x1_0 : Bool) (x1_1 x1_2 : Value) (σ : AHeap) : Prop :=
 wNew σ (.cells [(.bool x0_0), x0_1, x0_2] t_api_Node false) fun b1 τ2 =>
 wNew τ2 (.cells [(.bool x1_0), x1_1, x1_2] t_api_Node false) fun b3 τ4 =>
 wNew τ4 (.cells [(.bool false), (.slice none 0 0), (.slice none 0 0)] t_api_Node false) fun b5 τ6 =>
 wNew τ6 (.cells [(.bool false), (.slice none 0 0), (.slice none 0 0)] t_api_Node false) fun b7 τ8 =>
 ldB (L b1 0 τ8) fun c11 =>
 om (L b1 1 τ8) fun v12 =>
 om (L b1 2 τ8) fun v13 =>
 ldB (L b3 0 τ8) fun c15 =>
 om (L b3 1 τ8) fun v16 =>
 om (L b3 2 τ8) fun v17 =>
 E f_knot_Join [(.agg #[(.bool c11), v12, v13]), (.agg #[(.bool c15), v16, v17])] τ8 (cV Q fun v19 τ18 =>
 E f_knot_Split [v19] τ18 (c2 Q fun v21 v22 τ20 =>
 pu (aStore 3 (.pointer (some ⟨b5, 0, none⟩)) v21 τ20) fun τ24 =>
 pu (aStore 3 (.pointer (some ⟨b7, 0, none⟩)) v22 τ24) fun τ26 =>
 pu (aLoad true 3 (.pointer (some ⟨b5, 0, none⟩)) τ26) fun v27 =>
 pu (aLoad true 3 (.pointer (some ⟨b7, 0, none⟩)) τ26) fun v28 =>
 Q (.ret (.tuple #[v27, v28])) τ26))
theorem q_knot_Even (E : EvT) (Q : RK) (x0_0 : Bool) (x0_1 x0_2 : Value) (x1_0 : Bool) (x1_1 x1_2 : Value) (σ : AHeap) : xfn P E Tryz.f141 (fun _ => none) (fun _ => .v) [(.agg #[(.bool x0_0), x0_1, x0_2]), (.agg #[(.bool x1_0), x1_1, x1_2])] σ Q = s_knot_Even E Q x0_0 x0_1 x0_2 x1_0 x1_1 x1_2 σ := by kernel_rfl
theorem e_knot_Even {Q : RK} {x0_0 : Bool} {x0_1 x0_2 : Value} {x1_0 : Bool} {x1_1 x1_2 : Value} {σ : AHeap} (h : s_knot_Even E Q x0_0 x0_1 x0_2 x1_0 x1_1 x1_2 σ) : E f_knot_Even [(.agg #[(.bool x0_0), x0_1, x0_2]), (.agg #[(.bool x1_0), x1_1, x1_2])] σ Q :=
  exfn Tryz.func141 _ _ (by kernel_rfl) (Eq.mpr (q_knot_Even E Q x0_0 x0_1 x0_2 x1_0 x1_1 x1_2 σ) h)
def s_slices_Insert_sl_uint64_uint64 (E : EvT) (Q : RK) (x0 : Value) (x1 : Int) (x2 : Value) (σ : AHeap) : Prop :=
 om (aSlice 1 x0 (some (.int .i64 x1)) none none) fun v4 =>
 ldI .i64 (lenS x2) fun n8 =>
 If (decide (n8 = 0)) (
 Q (.ret x0) σ) (
 ldI .i64 (lenS x0) fun n18 =>
 If (decide (x1 = n18)) (
 pu (aAppend t_uint64 1 8 x0 x2 σ) fun r35 =>
 Q (.ret r35.1) r35.2) (
 Bi (w64 (n18 + n8)) fun n44 =>
 ldI .i64 (aCap x0) fun n46 =>
 If (decide (n46 < n44)) (
 om (aSlice 1 x0 none (some (.int .i64 x1)) none) fun v53 =>
 Bi (w64 (n18 + n8)) fun n56 =>
 Bi (w64 (n56 - x1)) fun n57 =>
 pu (aAppendZ t_uint64 1 8 [(.int .u64 0)] v53 (.int .i64 n57) σ) fun r58 =>
 om (aSlice 1 r58.1 (some (.int .i64 x1)) none none) fun v62 =>
 pu (aCopy 1 v62 x2 r58.2) fun r66 =>
 Bi (w64 (x1 + n8)) fun n72 =>
 om (aSlice 1 r58.1 (some (.int .i64 n72)) none none) fun v73 =>
 om (aSlice 1 x0 (some (.int .i64 x1)) none none) fun v76 =>
 pu (aCopy 1 v73 v76 r66.2) fun r77 =>
 Q (.ret r58.1) r77.2) (
 Bi (w64 (n18 + n8)) fun n84 =>
 om (aSlice 1 x0 none (some (.int .i64 n84)) none) fun v85 =>
 Bi (w64 (x1 + n8)) fun n93 =>
 om (aSlice 1 v85 (some (.int .i64 n93)) none none) fun v94 =>
 E f_slices_overlaps_uint64 [x2, v94] σ (cB Q fun c96 τ95 =>
 If (!c96) (
 Bi (w64 (x1 + n8)) fun n102 =>
 om (aSlice 1 v85 (some (.int .i64 n102)) none none) fun v103 =>
 om (aSlice 1 v85 (some (.int .i64 x1)) none none) fun v104 =>
 pu (aCopy 1 v103 v104 τ95) fun r105 =>
 om (aSlice 1 v85 (some (.int .i64 x1)) none none) fun v109 =>
 pu (aCopy 1 v109 x2 r105.2) fun r112 =>
 Q (.ret v85) r112.2) (
 om (aSlice 1 v85 (some (.int .i64 n18)) none none) fun v120 =>
 pu (aCopy 1 v120 x2 τ95) fun r122 =>
 om (aSlice 1 v85 (some (.int .i64 x1)) none none) fun v127 =>
 E f_slices_rotateRight_uint64 [v127, (.int .i64 n8)] r122.2 (c0 Q fun τ130 =>
 Q (.ret v85) τ130))))))
theorem q_slices_Insert_sl_uint64_uint64 (E : EvT) (Q : RK) (x0 : Value) (x1 : Int) (x2 : Value) (σ : AHeap) : xfn P E Tryz.f134 (hl [(3, .ord [(0, []), (1, []), (2, []), (3, []), (4, []), (5, []), (6, []), (7, []), (8, [])]), (5, .ord [(0, []), (1, []), (2, []), (3, []), (4, []), (5, []), (6, []), (7, []), (8, [])])]) (fun _ => .v) [x0, (.int .i64 x1), x2] σ Q = s_slices_Insert_sl_uint64_uint64 E Q x0 x1 x2 σ := by kernel_rfl
theorem e_slices_Insert_sl_uint64_uint64 {Q : RK} {x0 : Value} {x1 : Int} {x2 : Value} {σ : AHeap} (h : s_slices_Insert_sl_uint64_uint64 E Q x0 x1 x2 σ) : E f_slices_Insert_sl_uint64_uint64 [x0, (.int .i64 x1), x2] σ Q :=
  exfn Tryz.func134 _ _ (by kernel_rfl) (Eq.mpr (q_slices_Insert_sl_uint64_uint64 E Q x0 x1 x2 σ) h)
def s_slices_Delete_sl_uint64_uint64 (E : EvT) (Q : RK) (x0 : Value) (x1 x2 : Int) (σ : AHeap) : Prop :=
 ldI .i64 (lenS x0) fun n5 =>
 om (aSlice 1 x0 (some (.int .i64 x1)) (some (.int .i64 x2)) (some (.int .i64 n5))) fun v6 =>
 If (decide (x1 = x2)) (
 Q (.ret x0) σ) (
 ldI .i64 (lenS x0) fun n16 =>
 om (aSlice 1 x0 none (some (.int .i64 x1)) none) fun v22 =>
 om (aSlice 1 x0 (some (.int .i64 x2)) none none) fun v26 =>
 pu (aAppend t_uint64 1 8 v22 v26 σ) fun r27 =>
 ldI .i64 (lenS r27.1) fun n30 =>
 om (aSlice 1 r27.1 (some (.int .i64 n30)) (some (.int .i64 n16)) none) fun v33 =>
 pu (aClear [(.int .u64 0)] v33 r27.2) fun τ34 =>
 Q (.ret r27.1) τ34)
theorem q_slices_Delete_sl_uint64_uint64 (E : EvT) (Q : RK) (x0 : Value) (x1 x2 : Int) (σ : AHeap) : xfn P E Tryz.f138 (hl [(1, .ord [(0, []), (1, []), (2, []), (3, []), (4, []), (5, []), (6, []), (7, [])])]) (fun _ => .v) [x0, (.int .i64 x1), (.int .i64 x2)] σ Q = s_slices_Delete_sl_uint64_uint64 E Q x0 x1 x2 σ := by kernel_rfl
theorem e_slices_Delete_sl_uint64_uint64 {Q : RK} {x0 : Value} {x1 x2 : Int} {σ : AHeap} (h : s_slices_Delete_sl_uint64_uint64 E Q x0 x1 x2 σ) : E f_slices_Delete_sl_uint64_uint64 [x0, (.int .i64 x1), (.int .i64 x2)] σ Q :=
  exfn Tryz.func138 _ _ (by kernel_rfl) (Eq.mpr (q_slices_Delete_sl_uint64_uint64 E Q x0 x1 x2 σ) h)
def s_slices_Clone_sl_uint64_uint64 (E : EvT) (Q : RK) (x0 : Value) (σ : AHeap) : Prop :=
 ldB (aBin (some (.slice t_uint64)) .eql x0 (.slice none 0 0)) fun c3 =>
 If c3 (
 Q (.ret (.slice none 0 0)) σ) (
 pu (aAppend t_uint64 1 8 (.slice (some ⟨ZB, 0, some 0⟩) 0 0) x0 σ) fun r9 =>
 Q (.ret r9.1) r9.2)
theorem q_slices_Clone_sl_uint64_uint64 (E : EvT) (Q : RK) (x0 : Value) (σ : AHeap) : xfn P E Tryz.f167 (fun _ => none) (fun _ => .v) [x0] σ Q = s_slices_Clone_sl_uint64_uint64 E Q x0 σ := by kernel_rfl
theorem e_slices_Clone_sl_uint64_uint64 {Q : RK} {x0 : Value} {σ : AHeap} (h : s_slices_Clone_sl_uint64_uint64 E Q x0 σ) : E f_slices_Clone_sl_uint64_uint64 [x0] σ Q :=
  exfn Tryz.func167 _ _ (by kernel_rfl) (Eq.mpr (q_slices_Clone_sl_uint64_uint64 E Q x0 σ) h)
def s_slices_rotateRight_uint64 (E : EvT) (Q : RK) (x0 : Value) (x1 : Int) (σ : AHeap) : Prop :=
 ldI .i64 (lenS x0) fun n1 =>
 Bi (w64 (n1 - x1)) fun n2 =>
 E f_slices_rotateLeft_uint64 [x0, (.int .i64 n2)] σ (c0 Q fun τ3 =>
 Q (.ret (.tuple #[])) τ3)
theorem q_slices_rotateRight_uint64 (E : EvT) (Q : RK) (x0 : Value) (x1 : Int) (σ : AHeap) : xfn P E Tryz.f169 (fun _ => none) (fun _ => .v) [x0, (.int .i64 x1)] σ Q = s_slices_rotateRight_uint64 E Q x0 x1 σ := by kernel_rfl
theorem e_slices_rotateRight_uint64 {Q : RK} {x0 : Value} {x1 : Int} {σ : AHeap} (h : s_slices_rotateRight_uint64 E Q x0 x1 σ) : E f_slices_rotateRight_uint64 [x0, (.int .i64 x1)] σ Q :=
  exfn Tryz.func169 _ _ (by kernel_rfl) (Eq.mpr (q_slices_rotateRight_uint64 E Q x0 x1 σ) h)
def s_slices_rotateLeft_uint64 (E : EvT) (Q : RK) (x0 : Value) (x1 : Int) (σ : AHeap) : Prop :=
 om (aSlice 1 x0 none (some (.int .i64 x1)) none) fun v1 =>
 E f_slices_Reverse_sl_uint64_uint64 [v1] σ (c0 Q fun τ2 =>
 om (aSlice 1 x0 (some (.int .i64 x1)) none none) fun v6 =>
 E f_slices_Reverse_sl_uint64_uint64 [v6] τ2 (c0 Q fun τ7 =>
 E f_slices_Reverse_sl_uint64_uint64 [x0] τ7 (c0 Q fun τ10 =>
 Q (.ret (.tuple #[])) τ10)))
theorem q_slices_rotateLeft_uint64 (E : EvT) (Q : RK) (x0 : Value) (x1 : Int) (σ : AHeap) : xfn P E Tryz.f188 (fun _ => none) (fun _ => .v) [x0, (.int .i64 x1)] σ Q = s_slices_rotateLeft_uint64 E Q x0 x1 σ := by kernel_rfl
theorem e_slices_rotateLeft_uint64 {Q : RK} {x0 : Value} {x1 : Int} {σ : AHeap} (h : s_slices_rotateLeft_uint64 E Q x0 x1 σ) : E f_slices_rotateLeft_uint64 [x0, (.int .i64 x1)] σ Q :=
  exfn Tryz.func188 _ _ (by kernel_rfl) (Eq.mpr (q_slices_rotateLeft_uint64 E Q x0 x1 σ) h)
def s_slices_Reverse_sl_uint64_uint64_b1 (N1 : Int → Int → AHeap → Prop) (E : EvT) (Q : RK) (v7 : Value) (n4 n5 : Int) (τ8 : AHeap) : Prop :=
 If (decide (n4 < n5)) (
 om (aIndexAddr 1 v7 (.int .i64 n5)) fun v18 =>
 ldI .u64 (aLoad false 1 v18 τ8) fun n19 =>
 om (aIndexAddr 1 v7 (.int .i64 n4)) fun v20 =>
 ldI .u64 (aLoad false 1 v20 τ8) fun n21 =>
 om (aIndexAddr 1 v7 (.int .i64 n4)) fun v22 =>
 pu (aStore 1 v22 (.int .u64 n19) τ8) fun τ23 =>
 om (aIndexAddr 1 v7 (.int .i64 n5)) fun v24 =>
 pu (aStore 1 v24 (.int .u64 n21) τ23) fun τ25 =>
 Bi (w64 (n4 + 1)) fun n28 =>
 Bi (w64 (n5 - 1)) fun n30 =>
 N1 n28 n30 τ25) (
 Q (.ret (.tuple #[])) τ8)
def s_slices_Reverse_sl_uint64_uint64 (E : EvT) (Q : RK) (x0 : Value) (σ : AHeap) : Prop :=
 ldI .i64 (lenS x0) fun n1 =>
 Bi (w64 (n1 - 1)) fun n2 =>
 ∃ I31 : Nat → Int → Int → AHeap → Prop, (∃ m, I31 m 0 n2 σ) ∧
 ∀ m (n4 : Int) (n5 : Int) (σ' : AHeap), I31 m n4 n5 σ' → (s_slices_Reverse_sl_uint64_uint64_b1 (fun n4 n5 σ' => ∃ m', m' < m ∧ I31 m' n4 n5 σ') E Q x0 n4 n5 σ')
theorem q_slices_Reverse_sl_uint64_uint64 (E : EvT) (Q : RK) (x0 : Value) (σ : AHeap) : xfn P E Tryz.f192 (hl [(1, .loopr [0] [2, 3] [] [2, 3]), (4, .ord [(0, []), (1, []), (2, []), (3, []), (4, []), (5, []), (6, []), (7, []), (8, []), (9, []), (10, []), (11, []), (12, []), (13, []), (14, []), (15, [])])]) (fun | 2 => (.i .i64) | 3 => (.i .i64) | _ => .v) [x0] σ Q = s_slices_Reverse_sl_uint64_uint64 E Q x0 σ := by kernel_rfl
theorem e_slices_Reverse_sl_uint64_uint64 {Q : RK} {x0 : Value} {σ : AHeap} (h : s_slices_Reverse_sl_uint64_uint64 E Q x0 σ) : E f_slices_Reverse_sl_uint64_uint64 [x0] σ Q :=
  exfn Tryz.func192 _ _ (by kernel_rfl) (Eq.mpr (q_slices_Reverse_sl_uint64_uint64 E Q x0 σ) h)
end Go.Ax.C
namespace Go.Ax
def RQ (Q : WK) : RK := RP Q noP
end Go.Ax
namespace Go.Ax.O
open Go.Proofs
noncomputable abbrev P : Program := C.P
noncomputable def E (f : FuncId) (a : List Value) (σ : AHeap) (Q : WK) : Prop := C.E f a σ (RP Q noP)
theorem C_mono {f : FuncId} {args : List Value} {σ : AHeap} {Q Q' : RK} (h : C.E f args σ Q) (hq : ∀ r σ', Q r σ' → Q' r σ') : C.E f args σ Q' := by
  rw [C.E_eq] at h ⊢
  exact h.mono hq
@[congr] theorem E_congr {f : FuncId} {a a' : List Value} {σ σ' : AHeap} {Q : WK} (h : a = a') (g : σ = σ') : E f a σ Q = E f a' σ' Q := by rw [h, g]
theorem owfn {f : FuncId} {fn : Func} (hf : P.funcs[f]? = some fn) (h : Nat → Option Hint) (hc : fnChk fn h = true) {args : List Value} {σ : AHeap} {Q : WK} (hx : wfn P C.E fn h args σ (RQ Q)) : E f args σ Q := by
  unfold E
  rw [C.E_eq] at hx ⊢
  exact Ev.fn C.mixed hf h hc hx
theorem up {f : FuncId} {args : List Value} {σ : AHeap} {Q : RK} (h : E f args σ fun v τ => Q (.ret v) τ) : C.E f args σ Q :=
  C_mono h fun r σ' hr => by
    cases r with
    | ret v => exact hr
    | pan v => exact hr.elim
end Go.Ax.O
