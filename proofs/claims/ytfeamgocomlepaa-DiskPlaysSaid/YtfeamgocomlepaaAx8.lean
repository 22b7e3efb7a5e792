/- Each abstract operation is met by the machine's: append, copy, string(b), len. No statement of the seat is proved here. -/
import Derived.Test.YtfeamgocomlepaaAx7
namespace Go.Ax
open Go.RowKit

section
variable {P : Program} {B : Nat} {w0 : World} {ρ : List RB} {σ : AHeap} {w : World}

/-- The operand that is appended is a slice or a string. -/
def notInt (P : Program) (u : TypeId) : Bool :=
  match P.underlying u with
  | some (.slice _) | some .string => true
  | _ => false

theorem notInt_inv {u : TypeId} (h : notInt P u = true) : (∃ e, P.underlying u = some (.slice e)) ∨ P.underlying u = some .string := by
  unfold notInt at h
  split at h
  · exact .inl ⟨_, by assumption⟩
  · exact .inr (by assumption)
  · cases h

theorem run_append_fit {t u ty e : TypeId} {i : TypeInfo} {a : Option Addr} {len c n : Nat} {x : Value} {new : Array Value} (ht : P.underlying t = some (.slice e)) (hi : P.info? e = some i)
    (hu : notInt P u = true) (hn : (Builtin.lenOf x).run P w = .ok n w) (hf : (Builtin.firstCells i.size n x).run P w = .ok new w) (hc : len + n ≤ c) :
    (Builtin.append_ #[t, u] ty #[.slice a len c, x]).run P w =
      match a with
        | some a => ((storeCells (a.add (len * i.size)) new.toList).run P w).andThen fun _ w2 => .ok (.slice (some a) (len + n) c) w2
        | none => .ok (.slice none (len + n) c) w := by
  rcases notInt_inv hu with ⟨e', hd⟩ | hd
  all_goals cases a <;> simp [Builtin.append_, run_underlying ht, run_underlying hd, hn, run_sizeOf hi, hc, hf]

theorem run_append_more {t u ty e : TypeId} {i : TypeInfo} {z : Value} {a : Option Addr} {len c n : Nat} {x : Value} {old new : Array Value} (ht : P.underlying t = some (.slice e)) (hi : P.info? e = some i) (hz : i.zero = some z)
    (hu : notInt P u = true) (hn : (Builtin.lenOf x).run P w = .ok n w) (hf : (Builtin.firstCells i.size n x).run P w.drew = .ok new w.drew)
    (hfo : (Builtin.firstCells i.size len (.slice a len c)).run P w.drew = .ok old w.drew) (hc : c < len + n) (h63 : len + n ≤ 140737488355328) (h48 : (len + n) * i.bytes ≤ 140737488355328) :
    (Builtin.append_ #[t, u] ty #[.slice a len c, x]).run P w =
      .ok (.slice (some ⟨w.heap.size, 0, none⟩) (len + n) (grownCap w (len + n) c e)) (w.drew.alloc (.cells (old ++ new ++ Builtin.zeroCells z.cells (grownCap w (len + n) c e - (len + n))) e)) := by
  have hc' : ¬ (len + n ≤ c) := by omega
  have h63' : ¬ (9223372036854775807 < ((len : Int) + (n : Int))) := by omega
  have hfit := growslice_fits hc h48
  have h48' : ¬ (281474976710656 < Builtin.nextslicecap (len + n) c * i.bytes) := by omega
  rcases notInt_inv hu with ⟨e', hd⟩ | hd
  all_goals simp [Builtin.append_, run_underlying ht, run_underlying hd, hn, sizeOf, typeInfo, zeroValue, hi, hz, hc', h63', h48', Question.forced, hf, hfo, newRow, grownCap]

def old_arr (a b : List Value) (c : Array Value) : Array Value := a.toArray ++ b.toArray ++ c

theorem seg_len {a : Addr} {n : Nat} {l : List Value} (hs : seg σ a n = some l) : l.length = n := by
  cases n with
  | zero => simp [seg] at hs; subst hs; rfl
  | succ m =>
    simp only [seg, Option.bind_eq_some_iff] at hs
    obtain ⟨c, hc, hs⟩ := hs
    cases hb : Nat.ble (a.off + (m + 1)) c.length with
    | false => rw [hb] at hs; cases hs
    | true =>
      rw [hb] at hs
      have hle := Nat.le_of_ble_eq_true hb
      cases hs
      simp; omega

theorem srcOf_len {z n : Nat} {x : Value} {news : List Value} (hs : srcOf z x σ = some (n, news)) : news.length = n * z := by
  unfold srcOf at hs
  split at hs
  · simp only [Option.map_eq_some_iff, Prod.mk.injEq] at hs
    obtain ⟨l, hl, rfl, rfl⟩ := hs
    exact seg_len hl
  · split at hs <;> cases hs; simp
  · split at hs
    · rename_i h1; cases hs; subst h1; simp
    · cases hs
  · cases hs

theorem srcOf_zero {z : Nat} {x : Value} {news : List Value} (hs : srcOf z x σ = some (0, news)) : news = [] := by
  unfold srcOf at hs
  split at hs
  · simp only [Option.map_eq_some_iff, Prod.mk.injEq] at hs
    obtain ⟨l, hl, rfl, rfl⟩ := hs
    simpa [seg] using hl.symm
  · split at hs <;> cases hs; rfl
  · split at hs
    case isFalse => cases hs
    simp only [Option.some.injEq, Prod.mk.injEq] at hs
    obtain ⟨h1, h2⟩ := hs
    rename_i s _
    have : s.data.toList = [] := by
      have : s.data.size = 0 := h1
      rw [← List.length_eq_zero_iff]; exact this
    rw [← h2, this]; rfl
  · cases hs

/-- What append is asked for, whatever gives the n elements. -/
def Gives (P : Program) (w : World) (t u ty e : TypeId) (i : TypeInfo) (zv x' : Value) (n : Nat) (news' : List Value) : Prop :=
  (∀ (a : Option Addr) (len c : Nat), len + n ≤ c → (Builtin.append_ #[t, u] ty #[.slice a len c, x']).run P w =
      match a with
        | some a => ((storeCells (a.add (len * i.size)) news').run P w).andThen fun _ w2 => .ok (.slice (some a) (len + n) c) w2
        | none => .ok (.slice none (len + n) c) w) ∧
  (∀ (a : Option Addr) (len c : Nat) (old : Array Value), (Builtin.firstCells i.size len (.slice a len c)).run P w.drew = .ok old w.drew → c < len + n → len + n ≤ 140737488355328 → (len + n) * i.bytes ≤ 140737488355328 →
    (Builtin.append_ #[t, u] ty #[.slice a len c, x']).run P w =
      .ok (.slice (some ⟨w.heap.size, 0, none⟩) (len + n) (grownCap w (len + n) c e)) (w.drew.alloc (.cells (old ++ news'.toArray ++ Builtin.zeroCells zv.cells (grownCap w (len + n) c e - (len + n))) e)))

theorem aAppendN_sound (h : Rel B w0 ρ σ w) {t u ty e : TypeId} {i : TypeInfo} {n : Nat} {zv s s' x' : Value} {news news' : List Value} {y : Value × AHeap}
    (hz' : i.zero = some zv) (hzs : zv.cells.size = i.size) (hnl0 : news.length = n * i.size) (hl : LR ρ news news') (hgive : Gives P w t u ty e i zv x' n news')
    (hs : VR ρ s s') (hy : aAppendN e i.size i.bytes s n news σ = some y) :
    ∃ v' w' ρ', (Builtin.append_ #[t, u] ty #[s', x']).run P w = .ok v' w' ∧ Ext ρ ρ' ∧ Rel B w0 ρ' y.2 w' ∧ VR ρ' y.1 v' := by
  obtain ⟨hfit, hmore⟩ := hgive
  have hzero : n = 0 → news = [] := fun e => by subst e; simpa using hnl0
  unfold aAppendN at hy
  split at hy
  · rename_i base len c
    obtain ⟨a', c', rfl, hk, hex, hcases⟩ := hs.slice_inv
    split at hy
    · -- there is room, for sure
      rename_i hroom
      have hroom' : len + n ≤ c' := by omega
      rw [hfit _ _ _ hroom']
      split at hy
      · split at hy
        · cases hy
          rcases hcases with ⟨_, rfl, hcn⟩ | ⟨_, _, _, hh, _⟩ | ⟨_, hh, _⟩ | ⟨_, _, hh, _⟩
          · obtain rfl := hex hcn
            exact ⟨_, w, ρ, rfl, Ext.refl _, h, .nilslice _ _ hcn⟩
          all_goals cases hh
        · cases hy
      · rename_i a
        simp only [Option.map_eq_some_iff] at hy
        obtain ⟨σ', hp, rfl⟩ := hy
        rcases hcases with ⟨hh, _⟩ | ⟨x0, x1, r, hxe, rfl, hr0, rfl, hcr, hs0⟩ | ⟨x1, hxe, rfl, hco, rfl, hs1⟩ | ⟨o, x1, hxe, rfl, hco, rfl, hs1⟩
        · cases hh
        · cases hxe
          obtain ⟨w', e1, e2, e3⟩ := aPoke_sound (P := P) h hp (.inr (AR.add ⟨r, hr0, hs0, rfl⟩ (len * i.size))) hl
          refine ⟨_, w', ρ, by simp only [e1, Result.andThen_ok]; rfl, Ext.refl _, e2, ?_⟩
          obtain ⟨b, o, sp⟩ := a
          have hsp' := hs0
          simp only at hsp'; subst hsp'
          exact .slice b o _ c c' r hr0 hcr
        · have hn0 : news = [] := by
            have hk0 : known OPEN = 0 := by decide
            rw [hco, hk0] at hroom
            have hn : n = 0 := by omega
            exact hzero hn
          subst hn0
          rw [hl.nil_inv]
          simp [aPoke] at hp; subst hp
          cases hxe
          refine ⟨.slice (some x1) (0 + n) c', w, ρ, by simp [storeCells], Ext.refl _, h, ?_⟩
          have hn : n = 0 := by
            have hk0 : known OPEN = 0 := by decide
            rw [hco, hk0] at hroom; omega
          subst hn; subst hco
          exact .zany _ _ hs1
        · have hn : n = 0 := by
            have hk0 : known 0 = 0 := by decide
            rw [hco, hk0] at hroom; omega
          have hn0 : news = [] := hzero hn
          subst hn0
          rw [hl.nil_inv]
          simp [aPoke] at hp; subst hp
          cases hxe
          refine ⟨.slice (some x1) (0 + n) c', w, ρ, by simp [storeCells], Ext.refl _, h, ?_⟩
          subst hn; subst hco
          have : c' = 0 := hex (by unfold OPEN; omega)
          subst this
          exact .zslice _ _
    · rename_i hroom
      split at hy
      · rename_i hb
        obtain ⟨hb1, hb2, hb3⟩ := hb
        simp only [Option.bind_eq_some_iff] at hy
        obtain ⟨olds, hold, hy⟩ := hy
        -- the cells of the slice itself
        have hold' : ∃ olds', LR ρ olds olds' ∧ olds'.length = len * i.size ∧ ∀ w2 : World, w2.heap = w.heap → (Builtin.firstCells i.size len (.slice a' len c')).run P w2 = .ok olds'.toArray w2 := by
          unfold oldOf at hold
          rcases hcases with ⟨rfl, rfl, hcn⟩ | ⟨x0, x1, r, rfl, rfl, hr0, rfl, hcr, hs0⟩ | ⟨x1, rfl, rfl, hco, rfl, hs1⟩ | ⟨o, x1, rfl, rfl, hco, rfl, hs1⟩
          · simp only at hold
            split at hold
            · rename_i hl0; cases hold; subst hl0
              exact ⟨[], LR.nil _, by simp, fun w2 _ => by simp [Builtin.firstCells]⟩
            · cases hold
          · obtain ⟨l', h1, h2, h3⟩ := seg_sound2 (P := P) h hold (.inr ⟨r, hr0, hs0, rfl⟩)
            exact ⟨l', h1, h2, fun w2 hw => by simp only [Builtin.firstCells, h3 w2 hw]⟩
          all_goals
            obtain ⟨l', h1, h2, h3⟩ := seg_sound2 (P := P) (a' := x1) h hold (.inl (by omega))
            exact ⟨l', h1, h2, fun w2 hw => by simp only [Builtin.firstCells, h3 w2 hw]⟩
        obtain ⟨olds', hlo, hlol, hofirst⟩ := hold'
        have grow : c' < len + n → ∀ σ2 : AHeap, σ2.size = σ.size → Rel B w0 ρ σ2 w → ∃ v' w' ρ', (Builtin.append_ #[t, u] ty #[.slice a' len c', x']).run P w = .ok v' w' ∧ Ext ρ ρ' ∧
            Rel B w0 ρ' (σ2.push (.cells (olds ++ news) e true)) w' ∧ VR ρ' (.slice (some ⟨σ.size, 0, none⟩) (len + n) (OPEN * i.size + (len + n))) v' := by
          intro hcc σ2 hsz h2
          have hrun := hmore _ _ _ _ (hofirst w.drew rfl) hcc hb2 hb1
          have hge : len + n ≤ grownCap w (len + n) c' e := by simp only [grownCap, Question.cut]; omega
          obtain ⟨ρ', e1, e2, e3⟩ := newOpen_sound h2.drew e (Builtin.zeroCells zv.cells (grownCap w (len + n) c' e - (len + n))).toList (hlo.append hl)
          refine ⟨_, _, ρ', hrun, e1, ?_, ?_⟩
          · have : (old_arr olds' news' (Builtin.zeroCells zv.cells (grownCap w (len + n) c' e - (len + n)))) = (olds' ++ news' ++ (Builtin.zeroCells zv.cells (grownCap w (len + n) c' e - (len + n))).toList).toArray := by
              apply Array.ext'; simp [old_arr]
            rw [← this] at e2
            exact e2
          · rw [hsz] at e3
            have hnl : news'.length = n * i.size := by
              rw [← hl.1, hnl0]
            have hres := VR.slice (ρ := ρ') σ.size 0 (len + n) (OPEN * i.size + (len + n)) (grownCap w (len + n) c' e) _ e3 (by
              unfold CapR
              have hdm : (OPEN * i.size + (len + n)) % OPEN = len + n ∧ (OPEN * i.size + (len + n)) / OPEN = i.size := by
                have : len + n < OPEN := by unfold OPEN; omega
                constructor
                · rw [Nat.mul_add_mod, Nat.mod_eq_of_lt this]
                · rw [Nat.mul_add_div (by unfold OPEN; omega), Nat.div_eq_of_lt this, Nat.add_zero]
              rw [if_neg (by have : OPEN * 1 ≤ OPEN * i.size := Nat.mul_le_mul_left _ hb3
                             omega), hdm.1, hdm.2]
              refine ⟨hge, ?_⟩
              simp only [List.length_append, size_zeroCells, Array.length_toList, hlol, hnl, hzs, Nat.zero_add]
              rw [← Nat.add_mul, ← Nat.add_mul]
              exact Nat.le_of_eq (by congr 1; omega))
            simpa using hres
        split at hy
        · rename_i hc
          cases hy
          obtain rfl := hex hc
          rw [known_lt hc] at hroom
          exact grow (by omega) σ rfl h
        · rename_i hc
          split at hy
          · rename_i a
            split at hy
            · rename_i cs e' hg
              split at hy
              · rename_i hcond
                obtain ⟨rfl, hze, hone, hzb⟩ := hcond
                cases hy
                by_cases hcc : c' < len + n
                · exact grow hcc (σ.set a.block .dead) rfl (h.kill a.block (by rw [hg]; simp))
                · have hcc : len + n ≤ c' := by omega
                  rcases hcases with ⟨hh, _⟩ | ⟨x0, x1, r, hxe, rfl, hr0, rfl, hcr, hs0⟩ | ⟨x1, hxe, _, _, _⟩ | ⟨o, x1, hxe, _, hco, _⟩
                  · cases hh
                  · cases hxe
                    unfold CapR at hcr
                    rw [if_neg hc, hze] at hcr
                    obtain ⟨_, hfitc⟩ := hcr
                    obtain ⟨r0, hr0', ⟨cc, fz, x1, x2, x4, x5, x6, x7⟩, _⟩ := h.obj a.block _ hg
                    rw [hr0] at hr0'; cases hr0'
                    have hnl : news'.length = n * i.size := by rw [← hl.1, hnl0]
                    have hmul : (len + n) * i.size ≤ c' * i.size := Nat.mul_le_mul_right _ hcc
                    rw [Nat.add_mul] at hmul
                    have hfits : r.s + a.off + len * i.size + 0 + news'.length ≤ cc.size := by rw [x4, hnl]; omega
                    have hone' : ∀ v ∈ news', v.oneCell' = true := by
                      intro v' hv'
                      obtain ⟨j, hj, rfl⟩ := List.mem_iff_getElem.1 hv'
                      have hj2 : j < news.length := by rw [hl.1]; exact hj
                      have hr2 := hl.2 j _ _ (List.getElem?_eq_getElem hj2) (List.getElem?_eq_getElem hj)
                      have ho : (news[j]).oneCell' = true := List.all_eq_true.1 hone _ (List.getElem_mem hj2)
                      have hlv : live (news[j]) = true := by
                        revert ho; cases news[j] <;> simp [live, Value.oneCell']
                      rw [← (hr2.live_eq hlv).2]; exact ho
                    have hst := run_storeCells_fz (P := P) r.b (r.s + a.off + len * i.size) e' fz news' 0 cc w x1 x2 hfits hone'
                    have hrun := hfit (some ⟨r.b, r.s + a.off, none⟩) len c' hcc
                    simp only [Addr.add_lit, hst, Result.andThen_ok] at hrun
                    have holdc := hofirst w rfl
                    -- the cells behind the store
                    have hseg : LR ρ (olds ++ news) ((((cc.toList.take (r.s + a.off + len * i.size + 0) ++ news' ++ cc.toList.drop (r.s + a.off + len * i.size + 0 + news'.length)).toArray).toList.drop (r.s + a.off)).take (olds ++ news).length) := by
                      have holds2 : olds' = ((cc.toList.drop (r.s + a.off)).take (len * i.size)) := by
                        have hrd := run_loadCells_list (P := P) w ⟨r.b, r.s + a.off, none⟩ ((cc.toList.drop (r.s + a.off)).take (len * i.size)) (fun j v hv => by
                          rw [List.getElem?_take] at hv
                          split at hv
                          · rw [Addr.add_lit]; simp at hv; simp [World.cell?, x1, hv]
                          · cases hv)
                        have hlen2 : ((cc.toList.drop (r.s + a.off)).take (len * i.size)).length = len * i.size := by simp; omega
                        rw [hlen2] at hrd
                        simp only [Builtin.firstCells] at holdc
                        rw [hrd] at holdc
                        injection holdc with h1 h2
                        have := congrArg Array.toList h1
                        simpa using this.symm
                      have := list_splice_drop cc.toList news' (r.s + a.off) (olds ++ news).length (len * i.size) news'.length rfl (by simp [hlo.1, hl.1, hlol]) (by simp [hlo.1, hl.1, hlol, hnl]; omega)
                      simp only [Nat.add_zero, List.toList_toArray]
                      rw [this]
                      have e1 : splice ((cc.toList.drop (r.s + a.off)).take (olds ++ news).length) (len * i.size) news' = olds' ++ news' := by
                        have hL2 : (olds ++ news).length = len * i.size + news'.length := by simp [hlo.1, hl.1, hlol]
                        have hd : ∀ X : List Value, List.drop (len * i.size + news'.length) (List.take (len * i.size + news'.length) X) = [] := fun X => by
                          rw [List.drop_eq_nil_iff]; simp; omega
                        unfold splice
                        rw [hL2, hd, List.append_nil, List.take_take, Nat.min_eq_left (by omega), ← holds2]
                      rw [e1]
                      exact hlo.append hl
                    obtain ⟨q1, q2, q3⟩ := h.rebirth (o' := .cells (olds ++ news) e' true) (r2 := ⟨r.b, r.s + a.off, r.n⟩) hg rfl rfl hr0 rfl
                      (w' := w.setRow r.b (cc.toList.take (r.s + a.off + len * i.size + 0) ++ news' ++ cc.toList.drop (r.s + a.off + len * i.size + 0 + news'.length)).toArray)
                      ⟨_, fz, setRow_heap w r.b cc _ e' fz x1, by
                        have : (cc.toList.take (r.s + a.off + len * i.size + 0) ++ news' ++ cc.toList.drop (r.s + a.off + len * i.size + 0 + news'.length)).toArray.size = cc.size := by simp; omega
                        rw [this]; exact x2, by simp; omega, (fun hh => by simp at hh), (by simp [hlo.1, hl.1, hlol, hnl]; omega), hseg.mono (Ext.append _ _)⟩
                      (fun k hk => setRow_other _ _ _ _ hk) rfl rfl rfl (by simp [World.setRow])
                    refine ⟨_, _, _, hrun, q2, q1, ?_⟩
                    have hres := VR.slice (ρ := ρ ++ [⟨r.b, r.s + a.off, r.n⟩]) σ.size 0 (len + n) (OPEN * i.size + (len + n)) c' _ q3 (by
                      unfold CapR
                      have hdm : (OPEN * i.size + (len + n)) % OPEN = len + n ∧ (OPEN * i.size + (len + n)) / OPEN = i.size := by
                        have : len + n < OPEN := by unfold OPEN; omega
                        constructor
                        · rw [Nat.mul_add_mod, Nat.mod_eq_of_lt this]
                        · rw [Nat.mul_add_div (by unfold OPEN; omega), Nat.div_eq_of_lt this, Nat.add_zero]
                      rw [if_neg (by have : OPEN * 1 ≤ OPEN * i.size := Nat.mul_le_mul_left _ hb3
                                     omega), hdm.1, hdm.2]
                      exact ⟨hcc, by simpa using hfitc⟩)
                    simpa using hres
                  · cases hxe
                    exact (by cases hzb)
                  · exact absurd (show c < OPEN by rw [hco]; unfold OPEN; omega) hc
              · cases hy
            · cases hy
          · cases hy
      · cases hy
  · cases hy

theorem aAppend_sound (h : Rel B w0 ρ σ w) {t u ty e : TypeId} {z by' : Nat} {zv s s' x x' : Value} {y : Value × AHeap} (he : elemOf? P t = some (e, z, by')) (hz : zeroOf P e = some zv)
    (hu : notInt P u = true) (hs : VR ρ s s') (hx : VR ρ x x') (hy : aAppend e z by' s x σ = some y) :
    ∃ v' w' ρ', (Builtin.append_ #[t, u] ty #[s', x']).run P w = .ok v' w' ∧ Ext ρ ρ' ∧ Rel B w0 ρ' y.2 w' ∧ VR ρ' y.1 v' := by
  obtain ⟨i, ht, hi, rfl, rfl⟩ := elemOf_inv he
  obtain ⟨i', hi', hz', hr, hzs⟩ := zeroOf_inv hz
  rw [hi] at hi'; cases hi'
  unfold aAppend at hy
  simp only [Option.bind_eq_some_iff, Prod.exists] at hy
  obtain ⟨n, news, hsrc, hy⟩ := hy
  obtain ⟨news', hl, hlen, hfirst⟩ := srcOf_sound (P := P) h hx hsrc
  refine aAppendN_sound h hz' hzs (srcOf_len hsrc) hl ⟨fun a len c hc => ?_, fun a len c old ho hc h1 h2 => ?_⟩ hs hy
  · have := run_append_fit (ty := ty) ht hi hu (hlen w) (hfirst w rfl) hc (a := a)
    simpa using this
  · exact run_append_more (ty := ty) ht hi hz' hu (hlen w) (hfirst w.drew rfl) ho hc h1 h2

def isInt (P : Program) (u : TypeId) : Bool :=
  match P.underlying u with
  | some (.int _) => true
  | _ => false

theorem isInt_inv {u : TypeId} (h : isInt P u = true) : ∃ k, P.underlying u = some (.int k) := by
  unfold isInt at h
  split at h
  · exact ⟨_, by assumption⟩
  · cases h

theorem aAppendZ_sound (h : Rel B w0 ρ σ w) {t u ty e : TypeId} {z by' : Nat} {zv s s' x x' : Value} {y : Value × AHeap} (he : elemOf? P t = some (e, z, by')) (hz : zeroOf P e = some zv)
    (hu : isInt P u = true) (hs : VR ρ s s') (hx : VR ρ x x') (hy : aAppendZ e z by' zv.cells.toList s x σ = some y) :
    ∃ v' w' ρ', (Builtin.append_ #[t, u] ty #[s', x']).run P w = .ok v' w' ∧ Ext ρ ρ' ∧ Rel B w0 ρ' y.2 w' ∧ VR ρ' y.1 v' := by
  obtain ⟨i, ht, hi, rfl, rfl⟩ := elemOf_inv he
  obtain ⟨i', hi', hz', hr, hzs⟩ := zeroOf_inv hz
  rw [hi] at hi'; cases hi'
  obtain ⟨k, hk⟩ := isInt_inv hu
  unfold aAppendZ at hy
  split at hy
  · rename_i kk m
    rw [hx.int_inv]
    split at hy
    · rename_i hb
      obtain ⟨hb0, hb1, hb2⟩ := hb
      have hw : IntKind.i64.wrap m = m := by rw [IntKind.wrap_i64]; omega
      have hzc : Builtin.zeroCells zv.cells m.toNat = (reps m.toNat zv.cells.toList).toArray := made_cells m.toNat zv.cells
      have hz2 : m.toNat * i.size = 0 → (reps m.toNat zv.cells.toList).toArray = #[] := by
        intro e0
        have : (reps m.toNat zv.cells.toList).length = 0 := by rw [reps_length]; simpa [hzs] using e0
        rw [List.length_eq_zero_iff.1 this]
      have n1 : ¬ m < 0 := by omega
      have n2 : ¬ ((281474976710656 : Int) < m * (i.bytes : Int)) := by omega
      refine aAppendN_sound h hz' hzs (by rw [reps_length]; simp [hzs]) ((hr ρ).reps m.toNat) ⟨fun a len c hc => ?_, fun a len c old ho hc h1 h2 => ?_⟩ hs hy
      · by_cases h0 : m.toNat * i.size = 0
        · have h0' := hz2 h0
          have h0'' : reps m.toNat zv.cells.toList = [] := by simpa using h0'
          cases a <;> simp [Builtin.append_, run_underlying ht, run_underlying hk, asInt, asIntOf, hw, n1, n2, typeInfo, sizeOf, hi, hc, h0, h0'', storeCells]
        · cases a <;> simp [Builtin.append_, run_underlying ht, run_underlying hk, asInt, asIntOf, hw, n1, n2, typeInfo, sizeOf, zeroValue, hi, hz', hc, h0, hzc]
      · have hc' : ¬ (len + m.toNat ≤ c) := by omega
        have h63' : ¬ (9223372036854775807 < ((len : Int) + max m 0)) := by omega
        have h48' : ¬ (281474976710656 < Builtin.nextslicecap (len + m.toNat) c * i.bytes) := by
          have := growslice_fits hc h2
          omega
        by_cases h0 : m.toNat * i.size = 0
        · have h0' := hz2 h0
          have h0'' : reps m.toNat zv.cells.toList = [] := by simpa using h0'
          simp [Builtin.append_, run_underlying ht, run_underlying hk, asInt, asIntOf, hw, n1, n2, sizeOf, typeInfo, zeroValue, hi, hz', hc', h63', h48', Question.forced, ho, newRow, grownCap, h0, h0'']
        · simp [Builtin.append_, run_underlying ht, run_underlying hk, asInt, asIntOf, hw, n1, n2, sizeOf, typeInfo, zeroValue, hi, hz', hc', h63', h48', Question.forced, ho, newRow, grownCap, h0, hzc]
    · cases hy
  · cases hy
end
end Go.Ax
