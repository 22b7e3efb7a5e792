/- What an argument reads as, on the abstract heap: rows that stay as they are for ever. No statement of the seat is proved here. -/
import Derived.Test.YtfeamgocomlepaaAw5
import Derived.Deep.Slices
import Derived.ChangeArms
import Derived.ChangeStays
import Derived.ReadAgain
import GoSem.ClaimJoined
namespace Go.Ax
open Go.RowKit Go.Deep

theorem Rel.pushRo {B : Nat} {w0 : World} {ρ : List RB} {σ : AHeap} {w : World} (h : Rel B w0 ρ σ w) {b off : Nat} {c : List Value} {c' : Array Value} {e : TypeId} {fz : Nat × Nat} (hb : w.heap[b]? = some (.cells c' e fz)) (hB : b < B) (ho : off + c.length ≤ c'.size)
    (hl : LR ρ c ((c'.toList.drop off).take c.length)) :
    Rel B w0 (ρ ++ [⟨b, off, c'.size⟩]) (σ.push (.ro c e)) w ∧ Ext ρ (ρ ++ [⟨b, off, c'.size⟩]) ∧ (ρ ++ [(⟨b, off, c'.size⟩ : RB)])[σ.size]? = some ⟨b, off, c'.size⟩ := by
  have hext := Ext.append ρ [⟨b, off, c'.size⟩]
  have hnew : (ρ ++ [(⟨b, off, c'.size⟩ : RB)])[σ.size]? = some ⟨b, off, c'.size⟩ := by rw [← h.len]; simp
  have old : ∀ {a : Nat} {q : AObj} {r : RB}, σ.get a = some q → (ρ ++ [(⟨b, off, c'.size⟩ : RB)])[a]? = some r → ρ[a]? = some r := by
    intro a q r y z
    obtain ⟨r0, y', _⟩ := h.obj a q y
    rw [hext _ _ y'] at z; cases z; exact y'
  refine ⟨⟨by simp [h.len], fun i q hi => ?_, fun i j oi oj ri rj hi hj wi wj ri' rj' e => ?_, h.below, h.base⟩, hext, hnew⟩
  · rw [AHeap.get_push] at hi
    split at hi
    · rename_i e1; subst e1; cases hi
      exact ⟨_, hnew, ⟨c', fz, hb, rfl, ho, hl.mono hext⟩, (fun x => by cases x), fun _ _ => hB⟩
    · obtain ⟨r, x1, x2, x3, x4⟩ := h.obj i q hi
      exact ⟨r, hext _ _ x1, x2.mono hext rfl, x3, x4⟩
  · rw [AHeap.get_push] at hi hj
    split at hi
    · cases hi; cases wi
    · split at hj
      · cases hj; cases wj
      · exact h.inj i j oi oj ri rj hi hj wi wj (old hi ri') (old hj rj') e
theorem H.pushRo {l : List Assn} {σ : AHeap} (h : H l σ) (o : AObj) : H (ro σ.size o :: l) (σ.push o) := (h.push o).unsnoc.freeze0

/-! ### Rows of an argument -/
def Zip {M : Type} (A : List Value → M → Assn) : List (List Value) → List M → Assn
  | c :: cs, m :: ms => sep (A c m) (Zip A cs ms)
  | _, _ => emp
theorem Zip.dup {M : Type} {A : List Value → M → Assn} (hA : ∀ c m, Dup (A c m)) : ∀ (cs : List (List Value)) (ms : List M), Dup (Zip A cs ms)
  | [], _ => by simpa [Zip] using Dup.emp
  | _ :: _, [] => by simpa [Zip] using Dup.emp
  | c :: cs, m :: ms => Dup.sep (hA c m) (Zip.dup hA cs ms)
theorem Zip.snoc {M : Type} {A : List Value → M → Assn} : ∀ (cs : List (List Value)) (ms : List M) (c : List Value) (m : M), cs.length = ms.length → Zip A (cs ++ [c]) (ms ++ [m]) = sep (A c m) (Zip A cs ms)
  | [], [], c, m, _ => rfl
  | [], _ :: _, c, m, h => by simp at h
  | _ :: _, [], c, m, h => by simp at h
  | x :: cs, y :: ms, c, m, h => by
    simp only [List.cons_append, Zip, Zip.snoc cs ms c m (by simpa using h)]
    rw [← sep_assoc, sep_comm (A x y), sep_assoc]
theorem zip0 {M : Type} {A : List Value → M → Assn} : ∀ {cs : List (List Value)} {ms : List M} {l : List Assn} {σ : AHeap} {k : Nat} {c : List Value} {m : M}, H (Zip A cs ms :: l) σ → cs[k]? = some c → ms[k]? = some m → H (A c m :: l) σ
  | [], _, l, σ, k, c, m, h, hc, hm => by simp at hc
  | _ :: _, [], l, σ, k, c, m, h, hc, hm => by simp at hm
  | x :: cs, y :: ms, l, σ, 0, c, m, h, hc, hm => by
    simp at hc hm; subst hc; subst hm
    simp only [Zip, H_sep] at h
    exact h.second
  | x :: cs, y :: ms, l, σ, k + 1, c, m, h, hc, hm => by
    simp at hc hm
    simp only [Zip, H_sep] at h
    exact zip0 h.tail hc hm

/-- A slice of an argument: z cells an element, by bytes an element. -/
def RowsA {M : Type} (z by' : Nat) (A : List Value → M → Assn) (v : Value) (L : List M) : Assn := fun r =>
  (r = Res.emp ∧ L = [] ∧ (v = .slice none 0 0 ∨ v = .slice (some ⟨ZB, 0, some 0⟩) 0 0)) ∨
  (∃ (id cap e : Nat) (css : List (List Value)), sep (ro id (.ro css.flatten e)) (Zip A css L) r ∧ v = .slice (some ⟨id, 0, none⟩) L.length cap ∧ L.length ≤ cap ∧ cap < OPEN ∧ css.length = L.length ∧ (∀ c ∈ css, c.length = z) ∧ L.length * by' ≤ reachBytes)
theorem RowsA.dup {M : Type} {z by' : Nat} {A : List Value → M → Assn} (hA : ∀ c m, Dup (A c m)) (v : Value) (L : List M) : Dup (RowsA z by' A v L) := by
  rintro r (⟨rfl, h⟩ | ⟨id, cap, e, css, h, k⟩)
  · exact ⟨_, _, Res.Join.emp_left _, .inl ⟨rfl, h⟩, .inl ⟨rfl, h⟩⟩
  · obtain ⟨a, b, j, x, y⟩ := Dup.sep (Dup.ro _ _) (Zip.dup hA _ _) r h
    exact ⟨a, b, j, .inr ⟨id, cap, e, css, x, k⟩, .inr ⟨id, cap, e, css, y, k⟩⟩
theorem H_rows {M : Type} {z by' : Nat} {A : List Value → M → Assn} {v : Value} {L : List M} {l : List Assn} {σ : AHeap} : H (RowsA z by' A v L :: l) σ ↔
    ((L = [] ∧ (v = .slice none 0 0 ∨ v = .slice (some ⟨ZB, 0, some 0⟩) 0 0)) ∧ H l σ) ∨
    (∃ (id cap e : Nat) (css : List (List Value)), H (ro id (.ro css.flatten e) :: Zip A css L :: l) σ ∧ v = .slice (some ⟨id, 0, none⟩) L.length cap ∧ L.length ≤ cap ∧ cap < OPEN ∧ css.length = L.length ∧ (∀ c ∈ css, c.length = z) ∧ L.length * by' ≤ reachBytes) := by
  constructor
  · rintro ⟨r, h, a, k, j, x | ⟨id, cap, e, css, x, y⟩, hk⟩
    · obtain ⟨rfl, x⟩ := x
      exact .inl ⟨x, r, h, by rw [j.emp_eq]; exact hk⟩
    · exact .inr ⟨id, cap, e, css, by rw [← H_sep]; exact ⟨r, h, a, k, j, x, hk⟩, y⟩
  · rintro (⟨x, r, h, hk⟩ | ⟨id, cap, e, css, hh, y⟩)
    · exact ⟨r, h, _, r, Res.Join.emp_left r, .inl ⟨rfl, x⟩, hk⟩
    · rw [← H_sep] at hh
      obtain ⟨r, h, a, k, j, x, hk⟩ := hh
      exact ⟨r, h, a, k, j, .inr ⟨id, cap, e, css, x, y⟩, hk⟩
theorem flatten_part {z : Nat} : ∀ {css : List (List Value)} {k : Nat} {c : List Value}, (∀ c ∈ css, c.length = z) → css[k]? = some c → (css.flatten.drop (k * z)).take z = c
  | [], k, c, _, h => by simp at h
  | x :: css, 0, c, h, hk => by
    simp at hk; subst hk
    simp [h x (by simp)]
  | x :: css, k + 1, c, h, hk => by
    simp at hk
    have hx := h x (by simp)
    rw [List.flatten_cons, show (k + 1) * z = x.length + k * z by rw [hx, Nat.succ_mul]; omega, List.drop_append, List.drop_of_length_le (by omega), List.nil_append]
    have : x.length + k * z - x.length = k * z := by omega
    rw [this]
    exact flatten_part (fun c hc => h c (by simp [hc])) hk
theorem flatten_len {z : Nat} : ∀ {css : List (List Value)}, (∀ c ∈ css, c.length = z) → css.flatten.length = css.length * z
  | [], _ => by simp
  | x :: css, h => by
    rw [List.flatten_cons, List.length_append, h x (by simp), flatten_len fun c hc => h c (by simp [hc]), List.length_cons, Nat.succ_mul]; omega
/-- Of such a slice: its form; an element: where it stands, what it reads, what is told of it. -/
theorem H.rows_form {M : Type} {z by' : Nat} {A : List Value → M → Assn} {v : Value} {L : List M} {l : List Assn} {σ : AHeap} (h : H l σ) (i : Nat) (hi : l[i]? = some (RowsA z by' A v L)) : ∃ a c, v = .slice a L.length c := by
  rcases H_rows.1 (h.front i hi) with ⟨⟨rfl, rfl | rfl⟩, _⟩ | ⟨id, cap, e, css, _, rfl, _⟩
  · exact ⟨_, _, rfl⟩
  · exact ⟨_, _, rfl⟩
  · exact ⟨_, _, rfl⟩
theorem H.rows_elem {M : Type} {z by' : Nat} {A : List Value → M → Assn} {v : Value} {L : List M} {l : List Assn} {σ : AHeap} (h : H l σ) (i : Nat) (hi : l[i]? = some (RowsA z by' A v L)) {k : Nat} {m : M} (hk : L[k]? = some m) :
    ∃ b cs, (∀ kd, aIndexAddr z v (.int kd k) = some (.pointer (some ⟨b, k * z, none⟩))) ∧ aLoad true z (.pointer (some ⟨b, k * z, none⟩)) σ = some (.agg cs.toArray) ∧
      (∀ m j, j < z → aLoad false m (.pointer (some ⟨b, k * z + j, none⟩)) σ = cs[j]?) ∧ cs.length = z ∧ H (A cs m :: l.set i emp) σ := by
  have hlt := (List.getElem?_eq_some_iff.1 hk).1
  rcases H_rows.1 (h.front i hi) with ⟨⟨rfl, _⟩, _⟩ | ⟨id, cap, e, css, h1, rfl, h2, h3, h4, h5, h6⟩
  · simp at hk
  · have hc := List.getElem?_eq_getElem (show k < css.length by omega)
    have hrow := row_ro h1.rget0.1
    have hfl := flatten_len h5
    have hkz : k * z + z ≤ css.flatten.length := by rw [hfl, ← Nat.succ_mul]; exact Nat.mul_le_mul_right _ (by omega)
    refine ⟨id, css[k], fun kd => ?_, ?_, fun m j hj => ?_, h5 _ (List.getElem_mem _), zip0 h1.tail hc hk⟩
    · rw [idxA (by omega)]; simp
    · rw [loadN hrow hkz, flatten_part h5 hc]
    · rw [load1 hrow]
      have := congrArg (·[j]?) (flatten_part h5 hc)
      simp only [List.getElem?_take, if_pos hj, List.getElem?_drop] at this
      exact this

/-! ### From the machine's memory -/
section
variable (P : Program)

/-- Values of a type, where they are read, stand for abstract ones of which A tells. -/
def AbsT (t : TypeId) {M : Type} (A : List Value → M → Assn) : Prop :=
  ∀ ⦃H' : Type⦄ ⦃enc : TypeId × Value → H'⦄ ⦃W : World⦄ ⦃base : Nat⦄ ⦃held : Bool⦄ ⦃n : Nat⦄ ⦃cs : List Value⦄ ⦃x : DataW H' × List MemPlace⦄ ⦃ρ : List RB⦄ ⦃σ : AHeap⦄, Rel W.heap.size W ρ σ W →
    DataW.trod enc P W base (fun _ => true) held n t cs = some x → (∀ w ∈ x.1.weights P t, w ≤ reachBytes) →
    ∃ ρ' σ' cs' m, Ext ρ ρ' ∧ Rel W.heap.size W ρ' σ' W ∧ LR ρ' cs' cs ∧ cs'.length = P.cellsOf t ∧ ∀ l, H l σ → H (A cs' m :: l) σ'
variable {P}

theorem AbsT.int {t : TypeId} {k : IntKind} (ht : P.underlying t = some (.int k)) (hc : P.cellsOf t = 1) : AbsT P t (M := Int) fun cs n => pure' (cs = [.int k n] ∧ (Lit.int k n).wf = true) := by
  intro H' enc W base held n cs x ρ σ hr h _
  obtain ⟨m, rfl, rfl, hw⟩ := DataW.trod_int ht h
  exact ⟨ρ, σ, [.int k m], m, Ext.refl _, hr, LR.cons (.int _ _) (LR.nil _), by simp [hc], fun l hl => H_pure.2 ⟨⟨rfl, hw⟩, hl⟩⟩
theorem AbsT.u8 {t : TypeId} (ht : P.underlying t = some (.int .u8)) (hc : P.cellsOf t = 1) : AbsT P t (M := UInt8) fun cs b => pure' (cs = [by8 b]) := by
  intro H' enc W base held n cs x ρ σ hr h _
  obtain ⟨m, rfl, rfl, hw⟩ := DataW.trod_int ht h
  have hm : 0 ≤ m ∧ m < 256 := by
    simp [Lit.wf, IntKind.min, IntKind.max, IntKind.signed, IntKind.bits] at hw; omega
  refine ⟨ρ, σ, [.int .u8 m], UInt8.ofNat m.toNat, Ext.refl _, hr, LR.cons (.int _ _) (LR.nil _), by simp [hc], fun l hl => H_pure.2 ⟨?_, hl⟩⟩
  simp only [by8, UInt8.toNat_ofNat']
  congr 2
  omega
theorem AbsT.bool {t : TypeId} (ht : P.underlying t = some .bool) (hc : P.cellsOf t = 1) : AbsT P t (M := Bool) fun cs b => pure' (cs = [.bool b]) := by
  intro H' enc W base held n cs x ρ σ hr h _
  obtain ⟨b, rfl, rfl⟩ := DataW.trod_bool ht h
  exact ⟨ρ, σ, [.bool b], b, Ext.refl _, hr, LR.cons (.bool _) (LR.nil _), by simp [hc], fun l hl => H_pure.2 ⟨rfl, hl⟩⟩
theorem AbsT.str {t : TypeId} (ht : P.underlying t = some .string) (hc : P.cellsOf t = 1) : AbsT P t (M := ByteArray) fun cs s => pure' (cs = [.string s] ∧ s.size ≤ reachBytes) := by
  intro H' enc W base held n cs x ρ σ hr h hw
  obtain ⟨s, rfl, rfl, _⟩ := DataW.trod_string ht h
  have := hw s.size (by simp [DataW.weights])
  exact ⟨ρ, σ, [.string s], s, Ext.refl _, hr, LR.cons (.string _) (LR.nil _), by simp [hc], fun l hl => H_pure.2 ⟨⟨rfl, this⟩, hl⟩⟩

theorem LR.take_one {ρ : List RB} {c : List Value} {c' : List Value} {off : Nat} (h : LR ρ c ((c'.drop off).take c.length)) : LR ρ c ((c'.drop off).take c.length) := h

theorem AbsT.slice {t e : TypeId} {M : Type} {A : List Value → M → Assn} (ht : P.underlying t = some (.slice e)) (hc : P.cellsOf t = 1) (hz : 0 < P.cellsOf e) (hE : AbsT P e A) :
    AbsT P t (M := List M) fun cs L => ex fun v => sep (pure' (cs = [v])) (RowsA (P.cellsOf e) (P.bytesOf e) A v L) := by
  intro H' enc W base held fuel cs x ρ σ hr h hw
  rcases open_slice ht h with ⟨rfl, rfl⟩ | ⟨a, len, cap, m, n, D, Pl, rfl, hb, hl, hm, hmm, rfl, hx⟩
  · refine ⟨ρ, σ, [.slice none 0 0], [], Ext.refl _, hr, LR.cons (.nilslice _ _ (by unfold OPEN; omega)) (LR.nil _), by simp [hc], fun l hl => H_ex.2 ⟨.slice none 0 0, ?_⟩⟩
    rw [H_sep]
    exact H_pure.2 ⟨rfl, H_rows.2 (.inl ⟨⟨rfl, .inl rfl⟩, hl⟩)⟩
  · simp only [if_true] at hmm
    subst hmm
    rcases Nat.eq_zero_or_pos m with rfl | hpos
    · have hl0 : len = 0 := by omega
      subst hl0
      refine ⟨ρ, σ, [.slice (some ⟨ZB, 0, some 0⟩) 0 0], [], Ext.refl _, hr, LR.cons (.zslice _ _) (LR.nil _), by simp [hc], fun l hl => H_ex.2 ⟨.slice (some ⟨ZB, 0, some 0⟩) 0 0, ?_⟩⟩
      rw [H_sep]
      exact H_pure.2 ⟨rfl, H_rows.2 (.inl ⟨⟨rfl, .inr rfl⟩, hl⟩)⟩
    · -- the block
      obtain ⟨cs0, hcells0, _⟩ := hx 0 hpos
      obtain ⟨_, hlen0, hcell0⟩ := World.cells?_some hcells0
      have hc00 := hcell0 0 hz
      have hsome : ∃ c' e' fz, W.heap[a.block]? = some (.cells c' e' fz) ∧ a.spot = none := by
        have h1 : W.cell? a = cs0[0]? := by simpa [Addr.add] using hc00
        have h2 : cs0[0]? = some (cs0[0]'(by omega)) := by simp
        rw [h2] at h1
        unfold World.cell? at h1
        split at h1
        · rename_i c' e' fz hh
          split at h1
          · cases h1
          · rename_i hs
            exact ⟨c', e', fz, hh, by simpa using hs⟩
        · cases h1
      obtain ⟨c', e', fz, hblk, hsp⟩ := hsome
      have hBlk : a.block < W.heap.size := (Array.getElem?_eq_some_iff.1 hblk).1
      -- the elements, one by one
      have key : ∀ j, j ≤ len → ∃ (ρ' : List RB) (σ' : AHeap) (css : List (List Value)) (L : List M), Ext ρ ρ' ∧ Rel W.heap.size W ρ' σ' W ∧ css.length = j ∧ L.length = j ∧ (∀ c ∈ css, c.length = P.cellsOf e) ∧
          LR ρ' css.flatten ((c'.toList.drop a.off).take (j * P.cellsOf e)) ∧ (a.off + j * P.cellsOf e ≤ c'.size ∨ j = 0) ∧ ∀ l, H l σ → H (Zip A css L :: l) σ' := by
        intro j
        induction j with
        | zero => intro _; exact ⟨ρ, σ, [], [], Ext.refl _, hr, rfl, rfl, by simp, by simpa using LR.nil _, .inr rfl, fun l hl => H_emp.2 hl⟩
        | succ j ih =>
          intro hj
          obtain ⟨ρ1, σ1, css, L, x1, x2, x3, x4, x5, x6, x7, x8⟩ := ih (by omega)
          obtain ⟨cs', hcells, htrod⟩ := hx j (by omega)
          obtain ⟨_, hlen, hcell⟩ := World.cells?_some hcells
          obtain ⟨ρ2, σ2, cs2, m2, y1, y2, y3, y4, y5⟩ := hE x2 htrod (by
            intro w hwm
            refine hw w ?_
            unfold DataW.weights
            rw [ht]
            simp only [List.mem_cons, List.mem_append]
            right; left
            have hmem : ∀ (l : List (DataW H')) (d : DataW H'), d ∈ l → ∀ w ∈ d.weights P e, w ∈ DataW.weightsAll P e l := by
              intro l d hd w hw
              induction l with
              | nil => simp at hd
              | cons z l ih =>
                unfold DataW.weightsAll
                rcases List.mem_cons.1 hd with rfl | hd
                · exact List.mem_append_left _ hw
                · exact List.mem_append_right _ (ih hd)
            exact hmem _ (D j) (List.mem_map.2 ⟨j, List.mem_range.2 (by omega), rfl⟩) w hwm)
          -- the cells as they stand in the block
          have hcs : ∀ i, i < P.cellsOf e → c'[a.off + j * P.cellsOf e + i]? = cs'[i]? := by
            intro i hi
            have := hcell i hi
            rw [show (a.add (j * P.cellsOf e)).add i = ⟨a.block, a.off + j * P.cellsOf e + i, none⟩ by
              rw [show a = ⟨a.block, a.off, none⟩ by cases a; simp at hsp; simp [hsp], add_mk, add_mk]] at this
            simpa [World.cell?, hblk] using this
          have hfit : a.off + (j + 1) * P.cellsOf e ≤ c'.size := by
            have h1 := hcs (P.cellsOf e - 1) (by omega)
            have h2 : cs'[P.cellsOf e - 1]? ≠ none := by simp; omega
            rw [← h1] at h2
            have h3 : a.off + j * P.cellsOf e + (P.cellsOf e - 1) < c'.size := by
              rcases Nat.lt_or_ge (a.off + j * P.cellsOf e + (P.cellsOf e - 1)) c'.size with q | q
              · exact q
              · exact absurd (Array.getElem?_eq_none q) h2
            rw [Nat.succ_mul]; omega
          refine ⟨ρ2, σ2, css ++ [cs2], L ++ [m2], x1.trans y1, y2, by simp [x3], by simp [x4], ?_, ?_, .inl hfit, ?_⟩
          · intro c hcm
            rcases List.mem_append.1 hcm with q | q
            · exact x5 c q
            · simp at q; subst q; exact y4
          · have hsplit : (c'.toList.drop a.off).take ((j + 1) * P.cellsOf e) = (c'.toList.drop a.off).take (j * P.cellsOf e) ++ cs' := by
              rw [Nat.succ_mul, List.take_add]
              congr 1
              rw [List.drop_drop]
              apply List.ext_getElem?
              intro i
              rw [List.getElem?_take]
              split
              · rename_i hi
                rw [List.getElem?_drop]
                have := hcs i hi
                simpa using this
              · rename_i hi
                exact (List.getElem?_eq_none (by omega)).symm
            rw [hsplit, List.flatten_append]
            exact (x6.mono y1).append (by simpa using y3)
          · intro l hl
            rw [Zip.snoc _ _ _ _ (by omega), H_sep]
            exact y5 _ (x8 l hl)
      obtain ⟨ρ1, σ1, css, L, x1, x2, x3, x4, x5, x6, x7, x8⟩ := key len (Nat.le_refl _)
      have hfl := flatten_len x5
      have hfit : a.off + css.flatten.length ≤ c'.size := by
        rw [hfl, x3]
        rcases x7 with q | q
        · exact q
        · subst q
          have h1 : c'[a.off]? ≠ none := by
            have h1 : W.cell? a = cs0[0]? := by simpa [Addr.add] using hc00
            have h2 : cs0[0]? = some (cs0[0]'(by omega)) := by simp
            rw [h2] at h1
            simp [World.cell?, hblk, hsp] at h1
            rw [h1]; simp
          have h3 : a.off < c'.size := by
            rcases Nat.lt_or_ge a.off c'.size with q | q
            · exact q
            · exact absurd (Array.getElem?_eq_none q) h1
          omega
      obtain ⟨z1, z2, z3⟩ := x2.pushRo hblk hBlk hfit (by rw [hfl, x3]; exact x6)
      refine ⟨_, _, [.slice (some ⟨σ1.size, 0, none⟩) len m], L, x1.trans z2, z1, ?_, by simp [hc], fun l hl => H_ex.2 ⟨.slice (some ⟨σ1.size, 0, none⟩) len m, ?_⟩⟩
      · refine LR.cons ?_ (LR.nil _)
        have hcap : m < OPEN := by unfold OPEN; unfold maxLen at hm; omega
        have := VR.slice σ1.size 0 len m m _ z3 (by unfold CapR; rw [if_pos hcap])
        have ha : a = ⟨a.block, a.off, none⟩ := by cases a; simp at hsp; simp [hsp]
        rw [ha]
        simpa using this
      · rw [H_sep]
        refine H_pure.2 ⟨rfl, H_rows.2 (.inr ⟨σ1.size, m, e', css, (x8 l hl).pushRo _, by rw [x4], by omega, by unfold OPEN; unfold maxLen at hm; omega, by omega, x5, ?_⟩)⟩
        rw [x4]
        have hwm := hw ((len + (m - len)) * P.bytesOf e) (by
          unfold DataW.weights
          rw [ht]
          simp)
        have : len * P.bytesOf e ≤ (len + (m - len)) * P.bytesOf e := Nat.mul_le_mul_right _ (by omega)
        omega

/-- Fields that stand one behind the other from a cell on. -/
def AbsF (P : Program) (l : List Field) (o tot : Nat) {M : Type} (A : List Value → M → Assn) : Prop :=
  ∀ ⦃H' : Type⦄ ⦃enc : TypeId × Value → H'⦄ ⦃W : World⦄ ⦃base : Nat⦄ ⦃held : Bool⦄ ⦃n : Nat⦄ ⦃cs : List Value⦄ ⦃xs : List (DataW H' × List MemPlace)⦄ ⦃ρ : List RB⦄ ⦃σ : AHeap⦄, Rel W.heap.size W ρ σ W →
    xs.length = l.length → (∀ (i : Nat) (f : Field), l[i]? = some f → DataW.trod enc P W base (fun _ => true) held n f.type ((cs.drop f.offset).take (P.cellsOf f.type)) = xs[i]?) → (∀ w ∈ DataW.weightsEach P (l.map (·.type)) (xs.map (·.1)), w ≤ reachBytes) →
    ∃ ρ' σ' cs' m, Ext ρ ρ' ∧ Rel W.heap.size W ρ' σ' W ∧ LR ρ' cs' ((cs.drop o).take tot) ∧ cs'.length = tot ∧ ∀ l, H l σ → H (A cs' m :: l) σ'
theorem AbsF.nil {P : Program} (o : Nat) : AbsF P [] o 0 (M := Unit) fun cs _ => pure' (cs = []) := by
  intro H' enc W base held n cs xs ρ σ hr _ _ _
  exact ⟨ρ, σ, [], (), Ext.refl _, hr, by simpa using LR.nil _, rfl, fun l hl => H_pure.2 ⟨rfl, hl⟩⟩
theorem AbsF.cons {P : Program} {f : Field} {l : List Field} {o tot z : Nat} {M N : Type} {A : List Value → M → Assn} {B : List Value → N → Assn} (ho : f.offset = o) (hz : P.cellsOf f.type = z) (hT : AbsT P f.type A) (hF : AbsF P l (o + z) tot B) :
    AbsF P (f :: l) o (z + tot) (M := M × N) fun cs m => ex fun p : List Value × List Value => sep (pure' (cs = p.1 ++ p.2 ∧ p.1.length = z)) (sep (A p.1 m.1) (B p.2 m.2)) := by
  intro H' enc W base held n cs xs ρ σ hr hlen hx hw
  subst hz
  cases xs with
  | nil => simp at hlen
  | cons x xs =>
    have h0 := hx 0 f rfl
    simp only [List.getElem?_cons_zero] at h0
    simp only [List.map_cons, DataW.weightsEach, List.mem_append] at hw
    obtain ⟨ρ1, σ1, c1, m1, x1, x2, x3, x4, x5⟩ := hT hr h0 (fun w hm => hw w (.inl hm))
    obtain ⟨ρ2, σ2, c2, m2, y1, y2, y3, y4, y5⟩ := hF x2 (by simpa using hlen) (fun i g hg => by simpa using hx (i + 1) g (by simpa using hg)) (fun w hm => hw w (.inr hm))
    refine ⟨ρ2, σ2, c1 ++ c2, (m1, m2), x1.trans y1, y2, ?_, by simp [x4, y4], fun l hl => H_ex.2 ⟨(c1, c2), ?_⟩⟩
    · rw [List.take_add]
      refine LR.append ?_ ?_
      · rw [← ho]; exact x3.mono y1
      · rw [List.drop_drop]; exact y3
    · rw [H_sep]
      refine H_pure.2 ⟨⟨rfl, x4⟩, ?_⟩
      rw [H_sep]
      have := y5 _ (x5 l hl)
      exact this.perm (List.Perm.swap _ _ _)
theorem AbsT.struct {P : Program} {t : TypeId} {fs : Array Field} {tot : Nat} {M : Type} {A : List Value → M → Assn} (ht : P.underlying t = some (.struct fs)) (hc : P.cellsOf t = tot) (hF : AbsF P fs.toList 0 tot A) : AbsT P t A := by
  intro H' enc W base held n cs x ρ σ hr h hw
  obtain ⟨xs, n', rfl, rfl, hlen, hxl, hx⟩ := DataW.trod_struct ht h
  obtain ⟨ρ1, σ1, c1, m1, x1, x2, x3, x4, x5⟩ := hF hr (by simpa using hxl) (fun i f hf => hx i f (by simpa using hf)) (by
    intro w hm
    refine hw w ?_
    unfold DataW.weights
    rw [ht]
    exact hm)
  refine ⟨ρ1, σ1, c1, m1, x1, x2, ?_, by rw [hc, x4], x5⟩
  have : (cs.drop 0).take tot = cs := by rw [List.drop_zero, List.take_of_length_le (by omega)]
  rwa [this] at x3
theorem AbsT.imp {P : Program} {t : TypeId} {M N : Type} {A : List Value → M → Assn} {B : List Value → N → Assn} (g : M → N) (h : AbsT P t A) (hi : ∀ cs m l σ, H (A cs m :: l) σ → H (B cs (g m) :: l) σ) : AbsT P t B := by
  intro H' enc W base held n cs x ρ σ hr h1 h2
  obtain ⟨ρ1, σ1, c1, m1, x1, x2, x3, x4, x5⟩ := h hr h1 h2
  exact ⟨ρ1, σ1, c1, g m1, x1, x2, x3, x4, fun l hl => hi _ _ _ _ (x5 l hl)⟩

/-! ### All arguments -/
def AllB : List (List Value × Assn) → List Assn := fun l => l.map (·.2)
theorem Rel.start (W : World) : Rel W.heap.size W [] ⟨0, .leaf⟩ W := Rel.empty W

/-- What was read stays as it is where only new blocks are made. -/
theorem trodAll_below {P : Program} {H' : Type} {enc : TypeId × Value → H'} {W W' : World} (hl : laidOutB P = true) (hm : mapsRowed P = true) (hz : ((List.range P.types.size).all fun t => match P.underlying t with | some (.slice e) => decide (0 < P.cellsOf e) | _ => true) = true)
    (hb : Below W.heap.size W W') {sp : Nat → Bool} : ∀ {ts : List TypeId} {vs : List Value} {ds : List (DataW H')} {ps : List MemPlace}, (∀ t ∈ ts, t < P.types.size) → DataW.TrodAll enc P W 0 (fun _ => true) true ts vs ds ps → (∀ p ∈ ps, sp p.block = true) →
    DataW.TrodAll enc P W' 0 sp true ts vs ds ps
  | [], [], [], ps, _, h, _ => h
  | t :: ts, v :: vs, d :: ds, ps, ht, ⟨p, q, ⟨n, h1⟩, h2, e⟩, hs => by
    refine ⟨p, q, ⟨n, ?_⟩, trodAll_below hl hm hz hb (fun u hu => ht u (List.mem_cons_of_mem _ hu)) h2 (fun x hx => hs x (by rw [e]; exact List.mem_append_right _ hx)), e⟩
    exact DataW.trod_stays (kids_rows hl hm) (fun ht hu => slices_full_of P hz _ _ ht hu) (fun h => by cases h) (ht t (List.mem_cons_self)) h1
      (fun x hx => hb.same (DataW.trod_lt n t _ _ h1 x hx)) (fun x hx => hs x (by rw [e]; exact List.mem_append_left _ hx))
end
end Go.Ax
