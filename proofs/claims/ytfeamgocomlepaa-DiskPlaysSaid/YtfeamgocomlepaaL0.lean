/- What the statements on the disk share: calls that a test makes, from the machine's memory to the abstract heap and back. No statement of the seat is proved here. -/
import Derived.Test.YtfeamgocomlepaaD3
import Derived.Test.YtfeamgocomlepaaAw6
import Derived.Test.YtfeamgocomlepaaCx2
set_option maxRecDepth 100000
namespace Go.Ax.YtfeamgocomlepaaC
open Go.Proofs Go.RowKit

variable {l : List Assn} {σ : AHeap} {Q : WK}

theorem call0_ok (hX : CallOk Try.prog fun f args σ => match XT f with | some x => x args σ | none => none) (n : Nat) : CallOk Try.prog (acall0 Try.prog F XT n) := acall0_sound mixed fok hX n

/-- From the abstract heap to the machine. -/
theorem law_call (hX : CallOk Try.prog fun f args σ => match XT f with | some x => x args σ | none => none) {f : FuncId} {fn : Func} (hf : Try.prog.funcs[f]? = some fn) (hb : fn.body.isNone = false) {args args' : List Value} {ρ : List RB} {W : World}
    (hr : Rel W.heap.size W ρ σ W) (ha : LR ρ args args') (h : E f args σ fun v _ => v = .bool true) : Calls Try.prog f args'.toArray W fun e w' => e = .returned (.bool true) ∧ Below W.heap.size W w' := by
  obtain ⟨n, L, h1, h2⟩ := Ev.run h
  obtain ⟨fn', hfn', _, hor⟩ := call0_ok hX n f args σ L h1 _ _ _ W args' hr ha
  rw [hf] at hfn'; cases hfn'
  rcases hor with ⟨_, hcalls⟩ | ⟨v, v', ρ', σ', w', hm, hrun, _⟩
  · refine hcalls.mono fun e w' he => ?_
    obtain ⟨v, v', ρ', σ', hm, rfl, _, hr, hv⟩ := he
    have := h2 _ hm
    simp only at this
    rw [this] at hv
    rw [hv.bool_inv]
    exact ⟨rfl, hr.below⟩
  · simp only [callFunc] at hrun
    have hb2 : fn.body ≠ none := by intro e; rw [e] at hb; simp at hb
    simp [program, Sem.run, hf, hb2] at hrun
    split at hrun <;> simp at hrun

/-! ### Acts -/
structure ActM where
  What : Int
  At : Int
  X : UInt8
  B : List UInt8
  Short : Bool
def i64r (n : Int) : Prop := -9223372036854775808 ≤ n ∧ n < 9223372036854775808
def U8A : List Value → UInt8 → Assn := fun cs b => pure' (cs = [by8 b])
theorem U8A.dup (c : List Value) (b : UInt8) : Dup (U8A c b) := Dup.pure _
/-- A slice of bytes of an argument. -/
def BytesA (v : Value) (x : List UInt8) : Assn := RowsA 1 1 U8A v x
theorem BytesA.dup (v : Value) (x : List UInt8) : Dup (BytesA v x) := RowsA.dup U8A.dup v x
def ActA (cs : List Value) (m : ActM) : Assn := ex fun v => sep (pure' (cs = [.int .i64 m.What, .int .i64 m.At, by8 m.X, v, .bool m.Short] ∧ i64r m.What ∧ i64r m.At)) (BytesA v m.B)
theorem ActA.dup (c : List Value) (m : ActM) : Dup (ActA c m) := Dup.ex fun _ => Dup.sep (Dup.pure _) (BytesA.dup _ _)
def ActsA (v : Value) (L : List ActM) : Assn := RowsA 5 56 ActA v L

theorem zip_u8 : ∀ {css : List (List Value)} {x : List UInt8} {l : List Assn} {σ : AHeap}, css.length = x.length → H (Zip U8A css x :: l) σ → css.flatten = bv x
  | [], [], l, σ, _, _ => rfl
  | [], _ :: _, l, σ, h, _ => by simp at h
  | _ :: _, [], l, σ, h, _ => by simp at h
  | c :: css, b :: x, l, σ, hl, h => by
    simp only [Zip, H_sep, U8A, H_pure] at h
    obtain ⟨rfl, h⟩ := h
    simp [zip_u8 (by simpa using hl) h]
theorem H.bytes_rd {v : Value} {x : List UInt8} (h : H l σ) (i : Nat) (hi : l[i]? = some (BytesA v x)) : Rd σ v x ∧ x.length ≤ reachBytes := by
  rcases H_rows.1 (h.front i hi) with ⟨⟨rfl, rfl | rfl⟩, _⟩ | ⟨id, cap, e, css, h1, rfl, h2, h3, h4, h5, h6⟩
  · exact ⟨Rd.nil _ _, by simp⟩
  · exact ⟨⟨src_zero _ _ _ _, ⟨_, _, rfl⟩, fun k b h => by simp at h⟩, by simp⟩
  · have hrow := row_ro h1.rget0.1
    rw [zip_u8 h4 h1.tail] at hrow
    exact ⟨rd_row (o := 0) hrow (by simp) (by simp), by omega⟩

theorem u8T : AbsT Try.prog 5 U8A := AbsT.u8 (by kernel_rfl) (by kernel_rfl)
theorem bytesT : AbsT Try.prog 23 (M := List UInt8) fun cs x => ex fun v => sep (pure' (cs = [v])) (BytesA v x) := by
  have h := AbsT.slice (P := Try.prog) (t := 23) (e := 5) (A := U8A) (by kernel_rfl) (by kernel_rfl) (by rw [show Try.prog.cellsOf 5 = 1 by kernel_rfl]; decide) u8T
  rw [show Try.prog.cellsOf 5 = 1 by kernel_rfl, show Try.prog.bytesOf 5 = 1 by kernel_rfl] at h
  exact h
theorem intT : AbsT Try.prog 3 (M := Int) fun cs n => pure' (cs = [.int .i64 n] ∧ i64r n) := by
  refine AbsT.imp id (AbsT.int (P := Try.prog) (t := 3) (k := .i64) (by kernel_rfl) (by kernel_rfl)) ?_
  intro cs m l σ h
  obtain ⟨⟨h1, h2⟩, h⟩ := H_pure.1 h
  refine H_pure.2 ⟨⟨h1, ?_⟩, h⟩
  simp [Lit.wf, IntKind.min, IntKind.max, IntKind.signed, IntKind.bits] at h2
  unfold i64r; simp only [id]; omega
theorem boolT : AbsT Try.prog 4 (M := Bool) fun cs b => pure' (cs = [.bool b]) := AbsT.bool (by kernel_rfl) (by kernel_rfl)
def fs30 : Array Field := #[{ name := "What", type := 3, offset := 0, embedded := false, tag := "", pkgPath := "", byteOffset := 0 }, { name := "At", type := 3, offset := 1, embedded := false, tag := "", pkgPath := "", byteOffset := 8 }, { name := "X", type := 5, offset := 2, embedded := false, tag := "", pkgPath := "", byteOffset := 16 }, { name := "B", type := 23, offset := 3, embedded := false, tag := "", pkgPath := "", byteOffset := 24 }, { name := "Short", type := 4, offset := 4, embedded := false, tag := "", pkgPath := "", byteOffset := 48 }]
theorem actT : AbsT Try.prog 30 ActA := by
  refine AbsT.imp (fun m : Int × Int × UInt8 × List UInt8 × Bool × Unit => (⟨m.1, m.2.1, m.2.2.1, m.2.2.2.1, m.2.2.2.2.1⟩ : ActM)) (AbsT.struct (fs := fs30) (tot := 1 + (1 + (1 + (1 + (1 + 0))))) (by kernel_rfl) (by kernel_rfl)
    (AbsF.cons (z := 1) rfl (by kernel_rfl) intT <| AbsF.cons (z := 1) rfl (by kernel_rfl) intT <| AbsF.cons (z := 1) rfl (by kernel_rfl) u8T <| AbsF.cons (z := 1) rfl (by kernel_rfl) bytesT <| AbsF.cons (z := 1) rfl (by kernel_rfl) boolT <| AbsF.nil 5)) ?_
  intro cs m l σ h
  simp only [H_ex, H_sep, H_pure, U8A] at h
  obtain ⟨⟨c1, r1⟩, ⟨rfl, _⟩, ⟨rfl, h1⟩, ⟨c2, r2⟩, ⟨rfl, _⟩, ⟨rfl, h2⟩, ⟨c3, r3⟩, ⟨rfl, _⟩, rfl, ⟨c4, r4⟩, ⟨rfl, _⟩, v, rfl, h⟩ := h
  have h5 := h.perm (List.Perm.swap _ _ _)
  simp only [H_ex, H_sep, H_pure] at h5
  obtain ⟨⟨c5, r5⟩, ⟨rfl, _⟩, rfl, rfl, h6⟩ := h5
  refine H_ex.2 ⟨v, ?_⟩
  rw [H_sep]
  exact H_pure.2 ⟨⟨by simp, h1, h2⟩, h6⟩

theorem actsT : AbsT Try.prog 22 (M := List ActM) fun cs x => ex fun v => sep (pure' (cs = [v])) (ActsA v x) := by
  have h := AbsT.slice (P := Try.prog) (t := 22) (e := 30) (A := ActA) (by kernel_rfl) (by kernel_rfl) (by rw [show Try.prog.cellsOf 30 = 5 by kernel_rfl]; decide) actT
  rw [show Try.prog.cellsOf 30 = 5 by kernel_rfl, show Try.prog.bytesOf 30 = 56 by kernel_rfl] at h
  exact h

/-! ### The tests' own functions -/
theorem within_ok {k : Int} {n : Nat} (hn : 0 < n ∧ n ≤ 1000) (hk : ∀ a : Nat, a < n → Q (.int .i64 a) σ) : E 16 [.int .i64 k, .int .i64 n] σ Q := by
  apply s16_ev; unfold s16
  have h1 : IntKind.u64.wrap (n : Int) = n := wrap_u64 (by omega)
  have h2 : 0 ≤ IntKind.u64.wrap k := by
    simp [IntKind.wrap, IntKind.bits, IntKind.signed]; omega
  obtain ⟨m, hm⟩ : ∃ m : Nat, IntKind.u64.wrap k = m := ⟨(IntKind.u64.wrap k).toNat, by omega⟩
  have h3 : ¬ (n : Int) = 0 := by omega
  have h4 : ((m : Nat) : Int).tmod (n : Int) = ((m % n : Nat) : Int) := rfl
  have h5 : m % n < n := Nat.mod_lt _ hn.1
  simp only [conv_int, h1, hm, pu_some, bin_rem, if_neg h3, h4]
  rw [wrap_i64 (by omega)]
  exact hk _ h5

/-! ### DiskFuse -/
/-- How the fuse stands, by what is left of it. -/
def FuseR (n left : Nat) (D : DM) : Prop := (n = 0 ∧ D.fuse = 0 ∧ D.off = false ∧ left = 0) ∨ (0 < n ∧ ((D.off = false ∧ D.fuse = left ∧ 0 < left) ∨ (D.off = true ∧ left = 0)))

theorem fuse_step {n left : Nat} {D : DM} {N : Nat} (hD : D.Ok N) (h : FuseR n left D) (D' : DM) (e : Int) (hoff : D'.off = (if D.off then true else D.burn.1.off)) (hfu : D'.fuse = (if D.off then D.fuse else D.burn.1.fuse))
    (he : e = if D.off then 9 else if D.burn.2 then 0 else 9) :
    ∃ left', (if 0 < n then left' = left - 1 ∧ (e = if left' = 0 then 9 else 0) ∧ D'.off = decide (left' = 0) else left' = left ∧ e = 0 ∧ D'.off = false) ∧ FuseR n left' D' := by
  rcases h with ⟨rfl, h2, h3, rfl⟩ | ⟨h1, ⟨h2, h3, h4⟩ | ⟨h2, rfl⟩⟩
  · refine ⟨0, ?_, ?_⟩
    · have hb : D.burn = (D, true) := by simp [DM.burn, h2]
      simp [h3, hb] at he hoff
      simp [he, hoff]
    · have hb : D.burn = (D, true) := by simp [DM.burn, h2]
      simp [h3, hb] at hoff hfu
      exact .inl ⟨rfl, by omega, hoff, rfl⟩
  · simp only [if_pos h1]
    by_cases hl : left = 1
    · have hb : D.burn = ({ D with fuse := 0, off := true }, false) := by simp [DM.burn, h3, hl]
      simp [h2, hb] at he hoff hfu
      exact ⟨0, ⟨by omega, by simp [he], by simp [hoff]⟩, .inr ⟨h1, .inr ⟨hoff, rfl⟩⟩⟩
    · have hb : D.burn = ({ D with fuse := D.fuse - 1 }, true) := by
        unfold DM.burn; rw [if_neg (by omega), if_neg (by omega)]
      simp [h2, hb] at he hoff hfu
      refine ⟨left - 1, ⟨rfl, ?_, ?_⟩, .inr ⟨h1, .inl ⟨hoff, by omega, by omega⟩⟩⟩
      · rw [if_neg (by omega)]; exact he
      · rw [hoff]; simp; omega
  · simp only [if_pos h1]
    simp [h2] at he hoff hfu
    exact ⟨0, ⟨rfl, by simp [he], by simp [hoff]⟩, .inr ⟨h1, .inr ⟨hoff, rfl⟩⟩⟩
end Go.Ax.YtfeamgocomlepaaC
