/- A disk, in plain words: what lasts, what is in flight. No program here. No statement of the seat is proved here. -/
import Derived.Test.YtfeamgocomlepaaAw5
namespace Go.Ax

def put (l : List UInt8) (a : Nat) (x : List UInt8) : List UInt8 := l.take a ++ x ++ l.drop (a + x.length)
theorem put_length (l : List UInt8) (a : Nat) (x : List UInt8) (h : a + x.length ≤ l.length) : (put l a x).length = l.length := by
  simp [put]; omega
theorem put_nil (l : List UInt8) (a : Nat) : put l a [] = l := by simp [put]
theorem splice_put (l x : List UInt8) (a : Nat) : splice (bv l) a (bv x) = bv (put l a x) := by simp [splice, put]

abbrev Flight := Nat × List UInt8
structure DM where
  last : List UInt8
  fly : List Flight
  fuse : Nat
  off : Bool

structure FlyOk (n : Nat) (f : Flight) : Prop where
  len : f.2.length = 64
  fit : f.1 + 64 ≤ 256 * n
  al : f.1 % 64 = 0
structure DM.Ok (D : DM) (n : Nat) : Prop where
  lo : 1 ≤ n
  hi : n ≤ 1024
  len : D.last.length = 256 * n
  fly : ∀ f ∈ D.fly, FlyOk n f

def laid (l : List UInt8) (fs : List Flight) : List UInt8 := fs.foldl (fun l f => put l f.1 f.2) l
/-- What is laid of a sector write at a crash. -/
def cutOf (picks : List UInt8) (k : Nat) : Nat :=
  match picks[k]? with
  | none => 0
  | some p => if p.toNat = 0 then 0 else if p.toNat = 1 then 64 else (p.toNat - 2) % 65
def crashed (picks : List UInt8) : List UInt8 → Nat → List Flight → List UInt8
  | l, _, [] => l
  | l, k, f :: fs => crashed picks (put l f.1 (f.2.take (cutOf picks k))) (k + 1) fs
/-- What is in flight over a block. -/
def over (from' : Nat) (out : List UInt8) (fs : List Flight) : List UInt8 := fs.foldl (fun out f => if from' ≤ f.1 ∧ f.1 < from' + 256 then put out (f.1 - from') f.2 else out) out
/-- A block's sector writes. -/
def parts (at' : Nat) (b : List UInt8) : List Flight := [(at' * 256, (b.drop 0).take 64), (at' * 256 + 64, (b.drop 64).take 64), (at' * 256 + 128, (b.drop 128).take 64), (at' * 256 + 192, (b.drop 192).take 64)]

namespace DM
def new (n : Nat) : DM := ⟨List.replicate (256 * n) 0, [], 0, false⟩
def ready (D : DM) (at' : Int) : Int := if D.off then 9 else if at' < 0 ∨ (D.last.length / 256 : Nat) ≤ at' then 6 else 0
/-- Behind the fuse: does the power stay? -/
def burn (D : DM) : DM × Bool := if D.fuse = 0 then (D, true) else if D.fuse = 1 then ({ D with fuse := 0, off := true }, false) else ({ D with fuse := D.fuse - 1 }, true)
def land (D : DM) : DM := { D with last := laid D.last D.fly, fly := [] }
def fling (D : DM) (at' : Nat) (b : List UInt8) : DM := { D with fly := D.fly ++ parts at' b }
def write (D : DM) (at' : Int) (b : List UInt8) : DM × Int :=
  if D.ready at' ≠ 0 then (D, D.ready at') else if b.length ≠ 256 then (D, 1) else if D.burn.2 then (D.burn.1.fling at'.toNat b, 0) else (D.burn.1, 9)
def barrier (D : DM) : DM × Int := if D.ready 0 ≠ 0 then (D, D.ready 0) else if D.burn.2 then (D.burn.1.land, 0) else (D.burn.1, 9)
def block (D : DM) (at' : Nat) : List UInt8 := over (at' * 256) ((D.last.drop (at' * 256)).take 256) D.fly
def setFuse (D : DM) (n : Int) : DM := { D with fuse := n.toNat }
def crash (D : DM) (picks : List UInt8) : DM := ⟨crashed picks D.last 0 D.fly, [], 0, false⟩
end DM

theorem laid_length {n : Nat} : ∀ (fs : List Flight) (l : List UInt8), l.length = 256 * n → (∀ f ∈ fs, FlyOk n f) → (laid l fs).length = 256 * n
  | [], l, h, _ => h
  | f :: fs, l, h, hf => laid_length fs (put l f.1 f.2) (by
      have h1 := hf f (by simp)
      rw [put_length _ _ _ (by have := h1.len; have := h1.fit; omega), h]) fun g hg => hf g (by simp [hg])
theorem laid_take (l : List UInt8) (fs : List Flight) (k : Nat) (f : Flight) (h : fs[k]? = some f) : laid l (fs.take (k + 1)) = put (laid l (fs.take k)) f.1 f.2 := by
  rw [List.take_add_one, h]; simp [laid]
theorem over_take (a : Nat) (l : List UInt8) (fs : List Flight) (k : Nat) (f : Flight) (h : fs[k]? = some f) :
    over a l (fs.take (k + 1)) = if a ≤ f.1 ∧ f.1 < a + 256 then put (over a l (fs.take k)) (f.1 - a) f.2 else over a l (fs.take k) := by
  rw [List.take_add_one, h]; simp [over]
theorem crashed_snoc (picks : List UInt8) : ∀ (fs : List Flight) (l : List UInt8) (j : Nat) (f : Flight), crashed picks l j (fs ++ [f]) = put (crashed picks l j fs) f.1 (f.2.take (cutOf picks (j + fs.length)))
  | [], l, j, f => by simp [crashed]
  | g :: fs, l, j, f => by
    simp only [List.cons_append, crashed, crashed_snoc picks fs, List.length_cons]
    rw [show j + 1 + fs.length = j + (fs.length + 1) by omega]
theorem crashed_take (picks l : List UInt8) (fs : List Flight) (k : Nat) (f : Flight) (h : fs[k]? = some f) :
    crashed picks l 0 (fs.take (k + 1)) = put (crashed picks l 0 (fs.take k)) f.1 (f.2.take (cutOf picks k)) := by
  have hk := (List.getElem?_eq_some_iff.1 h).1
  rw [List.take_add_one, h]
  simp only [Option.toList_some, crashed_snoc, List.length_take, Nat.min_eq_left (Nat.le_of_lt hk), Nat.zero_add]
theorem crashed_length {n : Nat} (picks : List UInt8) : ∀ (fs : List Flight) (l : List UInt8) (j : Nat), l.length = 256 * n → (∀ f ∈ fs, FlyOk n f) → (crashed picks l j fs).length = 256 * n
  | [], l, j, h, _ => h
  | f :: fs, l, j, h, hf => crashed_length picks fs _ (j + 1) (by
      have h1 := hf f (by simp)
      rw [put_length _ _ _ (by have := h1.len; have := h1.fit; simp; omega), h]) fun g hg => hf g (by simp [hg])
theorem over_length (a : Nat) : ∀ (fs : List Flight) (l : List UInt8), l.length = 256 → (∀ f ∈ fs, f.2.length = 64) → (∀ f ∈ fs, a ≤ f.1 → f.1 < a + 256 → f.1 + 64 ≤ a + 256) → (over a l fs).length = 256
  | [], l, h, _, _ => h
  | f :: fs, l, h, hf, hg => by
    have h1 := hf f (by simp)
    have h2 := hg f (by simp)
    have ih := over_length a fs (if a ≤ f.1 ∧ f.1 < a + 256 then put l (f.1 - a) f.2 else l) (by
      split
      · rename_i hc
        have := h2 hc.1 hc.2
        rw [put_length _ _ _ (by omega), h]
      · exact h) (fun g hh => hf g (by simp [hh])) (fun g hh => hg g (by simp [hh]))
    exact ih
end Go.Ax
