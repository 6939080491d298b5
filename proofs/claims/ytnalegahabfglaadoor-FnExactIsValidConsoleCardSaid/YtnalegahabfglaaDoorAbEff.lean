/- The abstract machine, part 8: how the relation lasts over new blocks and stores. No condition. -/
import Derived.Test.YtnalegahabfglaaDoorAbQuietAll
set_option linter.all false
set_option linter.unusedVariables false
set_option linter.unusedSimpArgs false
namespace Go.Ab
open Go
section
variable {E : Env} {G : Gh} {ι : Inj} {objs : List AObj} {w : World}

theorem Rel.of_heap {w' : World} (h : Rel E G ι objs w) (hh : w'.heap = w.heap) : Rel E G ι objs w' := by
  have hc : ∀ a, w'.cell? a = w.cell? a := fun a => by simp [World.cell?, hh]
  refine ⟨fun b o v e => by rw [hc]; exact h.stays b o v e, fun i o hi hl => ?_, h.inj, h.fresh, by rw [hh]; exact h.glob, by rw [hh]; exact h.size⟩
  obtain ⟨B, C, h1, h2, h3, h4⟩ := h.obj i o hi hl
  refine ⟨B, C, h1, h2, by rw [hh]; exact h3, ?_⟩
  cases o <;> simp only [ORel, hh] at h4 ⊢ <;> exact h4

theorem Rel.unsealed_new (h : Rel E G ι objs w) {B : Nat} (hB : w.heap.size ≤ B) (o : Nat) : G B o = none := by
  cases hg : G B o with
  | none => rfl
  | some v =>
    have := block_lt_of_cell (h.stays B o v hg)
    simp at this; omega

def Inj.add (ι : Inj) (n : Nat) (e : Nat × Nat) : Inj := fun i => if i = n then some e else ι i
theorem Inj.add_le {n : Nat} (hn : ι n = none) (e : Nat × Nat) : ι.le (ι.add n e) := fun i x h => by
  unfold Inj.add
  split
  · subst_vars; rw [hn] at h; cases h
  · exact h
theorem Inj.add_self (n : Nat) (e : Nat × Nat) : (ι.add n e) n = some e := by simp [Inj.add]

theorem ORel.lift {ι' : Inj} {w' : World} {B C : Nat} {o : AObj} (h : ORel G ι w B C o) (hi : ι.le ι') (hb : w'.heap[B]? = w.heap[B]?) : ORel G ι' w' B C o := by
  cases o with
  | cells flat cs =>
    obtain ⟨⟨c, e, lo, hi1, h1, h2, h3, h4⟩, h5⟩ := h
    refine ⟨⟨c, e, lo, hi1, by rw [hb]; exact h1, h2, h3, ?_⟩, h5⟩
    cases flat
    · exact LRel.mono (by simpa using h4) (Gh.le_refl _) hi
    · simpa using h4
  | map flat es =>
    obtain ⟨ents, clock, h1, h2, h3⟩ := h
    refine ⟨ents, clock, by rw [hb]; exact h1, h2, fun i e x he hx => ?_⟩
    have := h3 i e x he hx
    cases flat
    · exact ⟨this.1.monoι hi, this.2.monoι hi⟩
    · exact this
  | iter s pos => simp only [ORel] at h ⊢; rw [hb]; exact h
  | dead => trivial

theorem heap_lt {w : World} {b : Nat} {x : Obj} (h : w.heap[b]? = some x) : b < w.heap.size := by
  rcases Nat.lt_or_ge b w.heap.size with h' | h'
  · exact h'
  · simp [Array.getElem?_eq_none h'] at h

/-- A new object in a new block. -/
theorem Rel.add (h : Rel E G ι objs w) (X : Obj) (o : AObj) (C : Nat)
    (hX : ORel G (ι.add objs.length (w.heap.size, C)) (w.alloc X) w.heap.size C o) :
    Rel E G (ι.add objs.length (w.heap.size, C)) (objs ++ [o]) (w.alloc X) ∧
    Ext (LiveB ι objs) G ι w G (ι.add objs.length (w.heap.size, C)) (objs ++ [o]) (w.alloc X) := by
  have hn : ι objs.length = none := h.fresh _ (Nat.le_refl _)
  have hle := Inj.add_le hn (w.heap.size, C)
  have hold : ∀ b, b < w.heap.size → (w.alloc X).heap[b]? = w.heap[b]? := fun b hb => heap_alloc_old w X b hb
  have hget : ∀ (i : Nat) (p : AObj), (objs ++ [o])[i]? = some p → (i < objs.length ∧ objs[i]? = some p) ∨ (i = objs.length ∧ p = o) := fun i p hi => by
    rw [List.getElem?_append] at hi
    split at hi
    · rename_i hlt; exact .inl ⟨hlt, hi⟩
    · rename_i hlt
      have : i - objs.length = 0 := by
        rcases Nat.eq_zero_or_pos (i - objs.length) with h0 | h0
        · exact h0
        · have : [o][i - objs.length]? = none := by simp; omega
          rw [this] at hi; cases hi
      rw [this] at hi
      exact .inr ⟨by omega, by simpa using hi.symm⟩
  have holdι : ∀ i, i < objs.length → (ι.add objs.length (w.heap.size, C)) i = ι i := fun i hi => by
    unfold Inj.add; rw [if_neg (by omega)]
  have hliveB : ∀ b, b < w.heap.size → LiveB (ι.add objs.length (w.heap.size, C)) (objs ++ [o]) b → LiveB ι objs b := by
    rintro b hb ⟨i, p, D, hi, hl, hι⟩
    rcases hget i p hi with ⟨hlt, hi'⟩ | ⟨rfl, rfl⟩
    · rw [holdι i hlt] at hι; exact ⟨i, p, D, hi', hl, hι⟩
    · rw [Inj.add_self] at hι; simp at hι; omega
  refine ⟨⟨fun b o' v hg => ?_, fun i p hi hl => ?_, fun i j p q B C1 C2 hi hlp hj hlq e1 e2 => ?_, fun i hi => ?_, fun b hb => ?_, ?_⟩,
    ⟨rfl, rfl, rfl, by simp, fun b hb _ => hold b hb, Gh.le_refl _, fun _ _ _ _ => rfl, hle, hliveB⟩⟩
  · have := h.stays b o' v hg
    have hlt := block_lt_of_cell this
    rw [World.cell?_alloc_lt w X ⟨b, o', none⟩ hlt]; exact this
  · rcases hget i p hi with ⟨hlt, hi'⟩ | ⟨rfl, rfl⟩
    · obtain ⟨B, D, h1, h2, h3, h4⟩ := h.obj i p hi' hl
      exact ⟨B, D, by rw [holdι i hlt]; exact h1, h2, by simp; omega, h4.lift hle (hold B h3)⟩
    · exact ⟨w.heap.size, C, Inj.add_self _ _, h.size, by simp, hX⟩
  · rcases hget i p hi with ⟨hlt, hi'⟩ | ⟨rfl, rfl⟩ <;> rcases hget j q hj with ⟨hlt2, hj'⟩ | ⟨rfl, rfl⟩
    · rw [holdι i hlt] at e1; rw [holdι j hlt2] at e2; exact h.inj i j p q B C1 C2 hi' hlp hj' hlq e1 e2
    · rw [holdι i hlt] at e1; rw [Inj.add_self] at e2
      obtain ⟨B', D', g1, _, g3, _⟩ := h.obj i p hi' hlp
      rw [e1] at g1; simp at g1 e2; omega
    · rw [holdι j hlt2] at e2; rw [Inj.add_self] at e1
      obtain ⟨B', D', g1, _, g3, _⟩ := h.obj j q hj' hlq
      rw [e2] at g1; simp at g1 e1; omega
    · rfl
  · simp at hi
    unfold Inj.add
    rw [if_neg (by omega)]; exact h.fresh i (by omega)
  · rw [hold b (Nat.lt_of_lt_of_le hb h.size)]; exact h.glob b hb
  · simp; have := h.size; omega

theorem AV.cells_rel {a : AV} {v : Value} (h : VRel G ι a v) (ha : a ≠ .undef) : LRel G ι a.cells v.cells.toList := by
  cases a with
  | undef => exact absurd rfl ha
  | agg cs => obtain ⟨vs, rfl, hl⟩ := h.agg_inv; simpa [AV.cells, Value.cells] using hl
  | _ =>
    have hv : v.cells = #[v] := by cases h <;> rfl
    rw [hv]
    exact LRel.cons h LRel.nil

theorem closed_rel_aux {a : AV} {v : Value} (h : VRel G ι a v) : (closed a = true → VRel G noInj a v) := by
  have hL : ∀ (cs : List AV), closedL cs = true → ∀ a ∈ cs, closed a = true := by
    intro cs
    induction cs with
    | nil => intro _ a ha; cases ha
    | cons b bs ih =>
      intro h a ha
      simp only [closedL, Bool.and_eq_true] at h
      cases ha with
      | head => exact h.1
      | tail _ ha => exact ih h.2 a ha
  induction h with
  | agg hl _ ih => intro hc; exact .agg hl fun i a v h1 h2 => ih i a v h1 h2 (hL _ (by simpa [closed] using hc) a (List.mem_of_getElem? h1))
  | tup hl _ ih => intro hc; exact .tup hl fun i a v h1 h2 => ih i a v h1 h2 (hL _ (by simpa [closed] using hc) a (List.mem_of_getElem? h1))
  | fn hx _ hy _ ih1 ih2 =>
    intro hc
    simp only [closed, Bool.and_eq_true] at hc
    exact .fn hx (fun i a v h1 h2 => ih1 i a v h1 h2 (hL _ hc.1 a (List.mem_of_getElem? h1))) hy (fun i a v h1 h2 => ih2 i a v h1 h2 (hL _ hc.2 a (List.mem_of_getElem? h1)))
  | iface t _ ih => intro hc; exact .iface t (ih (by simpa [closed] using hc))
  | cptr vf hg h _ => intro _; exact .cptr vf hg h
  | sval vf hg h hf hl _ => intro _; exact .sval vf hg h hf hl
  | ptr _ => intro hc; simp [closed] at hc
  | sref _ _ _ => intro hc; simp [closed] at hc
  | map _ => intro hc; simp [closed] at hc
  | _ => intro _; constructor

theorem closedL_mem : ∀ {cs : List AV}, closedL cs = true → ∀ a ∈ cs, closed a = true
  | [], _, _, ha => by cases ha
  | b :: bs, h, a, ha => by
    simp only [closedL, Bool.and_eq_true] at h
    cases ha with
    | head => exact h.1
    | tail _ ha => exact closedL_mem h.2 a ha

theorem LRel.closed {cs : List AV} {vs : List Value} (h : LRel G ι cs vs) (hc : closedL cs = true) : LRel G noInj cs vs :=
  ⟨h.1, fun i a v h1 h2 => closed_rel_aux (h.2 i a v h1 h2) (closedL_mem hc a (List.mem_of_getElem? h1))⟩

theorem LRel.flat {cs : List AV} {vs : List Value} (h : LRel G ι cs vs) {ι' : Inj} (hi : ι.le ι') : LRel G (if closedL cs then noInj else ι') cs vs := by
  cases hc : closedL cs
  · simpa using h.mono (Gh.le_refl _) hi
  · simpa using h.closed hc

/-- A row of cells as a new object. -/
theorem Rel.addCells (h : Rel E G ι objs w) (cs : List AV) (vs : Array Value) (e : TypeId) (hl : LRel G ι cs vs.toList) :
    ∃ ι', Rel E G ι' (objs ++ [.cells (closedL cs) cs]) (w.alloc (.cells vs e)) ∧ Ext (LiveB ι objs) G ι w G ι' (objs ++ [.cells (closedL cs) cs]) (w.alloc (.cells vs e)) ∧
      ι' objs.length = some (w.heap.size, vs.size) := by
  have hn : ι objs.length = none := h.fresh _ (Nat.le_refl _)
  refine ⟨ι.add objs.length (w.heap.size, vs.size), ?_⟩
  have := h.add (.cells vs e) (.cells (closedL cs) cs) vs.size (by
    refine ⟨⟨vs, e, 0, 0, heap_alloc_new w _, rfl, .inl (Nat.le_refl _), ?_⟩, fun o => h.unsealed_new (Nat.le_refl _) o⟩
    have e1 : vs.toList.take cs.length = vs.toList := List.take_of_length_le (by rw [hl.1]; exact Nat.le_refl _)
    rw [e1]
    exact hl.flat (Inj.add_le hn _))
  exact ⟨this.1, this.2, Inj.add_self _ _⟩
end
end Go.Ab
