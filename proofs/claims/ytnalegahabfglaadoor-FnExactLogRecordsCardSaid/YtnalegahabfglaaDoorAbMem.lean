/- The abstract machine, part 4: reading memory and the parts of values; soundness. No condition. -/
import Derived.Test.YtnalegahabfglaaDoorAbPure
set_option linter.all false
set_option linter.unusedVariables false
set_option linter.unusedSimpArgs false
namespace Go.Ab
open Go

/-- w is as w0 on the blocks that w0 has. -/
def Agree (w0 w : World) : Prop := ∀ b, b < w0.heap.size → w.heap[b]? = w0.heap[b]?
theorem Agree.refl (w : World) : Agree w w := fun _ _ => rfl
theorem Agree.cell {w0 w : World} (h : Agree w0 w) {b o : Nat} {v : Value} (hc : w0.cell? ⟨b, o, none⟩ = some v) : w.cell? ⟨b, o, none⟩ = some v := by
  have hb := block_lt_of_cell hc
  rw [← hc]
  exact World.cell?_of_block (w := w0) (h b hb)

/-- The same, but for some blocks. -/
def AgreeX (X : Nat → Prop) (w0 w : World) : Prop := ∀ b o v, ¬ X b → w0.cell? ⟨b, o, none⟩ = some v → w.cell? ⟨b, o, none⟩ = some v
theorem Agree.toX {w0 w : World} (h : Agree w0 w) : AgreeX (fun _ => False) w0 w := fun _ _ _ _ hc => h.cell hc
/-- What is known lies outside. -/
def NoX (X : Nat → Prop) (G : Gh) (ι : Inj) (objs : List AObj) : Prop :=
  (∀ i o B C, objs[i]? = some o → o.live = true → ι i = some (B, C) → ¬ X B) ∧ ∀ b o v, G b o = some v → ¬ X b
theorem NoX.none (G : Gh) (ι : Inj) (objs : List AObj) : NoX (fun _ => False) G ι objs := ⟨fun _ _ _ _ _ _ _ h => h, fun _ _ _ _ h => h⟩

theorem exists_list (n : Nat) (p : Nat → Value → Prop) (h : ∀ j, j < n → ∃ v, p j v) : ∃ l : List Value, l.length = n ∧ ∀ j v, l[j]? = some v → p j v := by
  induction n with
  | zero => exact ⟨[], rfl, fun j v h => by simp at h⟩
  | succ n ih =>
    obtain ⟨l, hl, hp⟩ := ih fun j hj => h j (by omega)
    obtain ⟨v, hv⟩ := h n (by omega)
    refine ⟨l ++ [v], by simp [hl], fun j u hu => ?_⟩
    rw [List.getElem?_append] at hu
    split at hu
    · exact hp j u hu
    · rename_i hlt
      have hj : j - l.length = 0 := by
        rcases Nat.eq_zero_or_pos (j - l.length) with h0 | h0
        · exact h0
        · have : [v][j - l.length]? = none := by simp; omega
          rw [this] at hu; cases hu
      rw [hj] at hu
      have : j = n := by omega
      subst this
      simp at hu; subst hu; exact hv

/-- A pointer's list of cells, and its place in it. -/
def memOf (objs : List AObj) : AV → Option (List AV × Nat)
  | .ptr i off => match objs[i]? with
    | some (.cells _ cs) => some (cs, off)
    | _ => none
  | .cptr cs off => some (cs, off)
  | _ => none

/-- The cells from an address on are these. -/
def Seen (G : Gh) (ι : Inj) (w0 : World) (B o : Nat) (cs : List AV) (off : Nat) : Prop :=
  ∀ j a, cs[off + j]? = some a → ∃ v, VRel G ι a v ∧ w0.cell? ⟨B, o + j, none⟩ = some v

theorem ORel.cells_cell {G : Gh} {ι : Inj} {w : World} {B C : Nat} {flat : Bool} {cs : List AV} (h : ORel G ι w B C (.cells flat cs)) {j : Nat} {a : AV}
    (ha : cs[j]? = some a) : ∃ v, VRel G ι a v ∧ w.cell? ⟨B, j, none⟩ = some v := by
  obtain ⟨⟨c, e, lo, hi, hb, hC, hf, hl⟩, _⟩ := h
  obtain ⟨v, hv, hr⟩ := hl.get ha
  refine ⟨v, ?_, ?_⟩
  · cases flat
    · simpa using hr
    · exact VRel.closed (by simpa using hr)
  · rw [List.getElem?_take] at hv
    split at hv
    · simp [World.cell?, hb]; simpa using hv
    · cases hv

theorem mem_ok {E : Env} {G : Gh} {ι : Inj} {objs : List AObj} {w0 : World} {p : AV} {p' : Value} {cs : List AV} {off : Nat}
    (hm : memOf objs p = some (cs, off)) (hp : VRel G ι p p') (hR : Rel E G ι objs w0) :
    ∃ B o, p' = .pointer (some ⟨B, o, none⟩) ∧ Seen G ι w0 B o cs off ∧ ∀ X : Nat → Prop, NoX X G ι objs → off < cs.length → ¬ X B := by
  unfold memOf at hm
  split at hm
  · rename_i i off1
    split at hm
    · rename_i flat cs1 hi
      simp at hm; obtain ⟨rfl, rfl⟩ := hm
      cases hp with
      | ptr h =>
        obtain ⟨B', C', h1, _, _, h3⟩ := hR.obj _ _ hi rfl
        rw [h] at h1; simp at h1; obtain ⟨rfl, rfl⟩ := h1
        exact ⟨_, _, rfl, fun j a ha => h3.cells_cell ha, fun X hX _ => hX.1 _ _ _ _ hi rfl h⟩
    · cases hm
  · rename_i cs1 off1
    simp at hm; obtain ⟨rfl, rfl⟩ := hm
    cases hp with
    | cptr vf hg h =>
      refine ⟨_, _, rfl, fun j a ha => ⟨_, (h _ a ha).closed, ?_⟩, fun X hX hlt => hX.2 _ _ _ (hg _ hlt)⟩
      have hlt : off1 + j < cs1.length := by
        rcases Nat.lt_or_ge (off1 + j) cs1.length with h' | h'
        · exact h'
        · simp [List.getElem?_eq_none h'] at ha
      have := hR.stays _ _ _ (hg _ hlt)
      rw [Nat.add_assoc]; exact this
  · cases hm

/-! ### Reading by type -/
theorem getD_undef {cs : List AV} {off : Nat} {v : AV} (h : cs.getD off .undef = v) (hv : v ≠ .undef) : cs[off]? = some v := by
  rw [List.getD_eq_getElem?_getD] at h
  cases hc : cs[off]? with
  | none => rw [hc] at h; exact absurd h.symm hv
  | some u => rw [hc] at h; simp at h; rw [h]

theorem cellsK_some {R : Type} {r : R} : ∀ (ks : List CK) (cs : List AV) (off : Nat) (k : List AV → Option R), off + ks.length ≤ cs.length → cellsK ks cs off k = some r →
    k ((cs.drop off).take ks.length) = some r
  | [], cs, off, k, _, h => by simpa [cellsK] using h
  | c :: ks, cs, off, k, hl, h => by
    simp only [cellsK] at h
    have h1 := cellK_some h
    simp only [List.length_cons] at hl
    have h2 := cellsK_some ks cs (off + 1) _ (by omega) h1
    have hlt : off < cs.length := by omega
    have e : (cs.drop off).take (c :: ks).length = cs.getD off .undef :: (cs.drop (off + 1)).take ks.length := by
      rw [List.drop_eq_getElem_cons hlt, List.length_cons, List.take_succ_cons]
      simp [List.getD_eq_getElem?_getD, List.getElem?_eq_getElem hlt]
    rw [e]; exact h2

theorem readK_some {R : Type} {P : Program} {t : TypeId} {cs : List AV} {off : Nat} {k : AV → Option R} {r : R} (h : readK P t cs off k = some r) :
    ∃ v d, k v = some r ∧ P.underlying t = some d ∧
      ((isAggD d = true ∧ ∃ i, P.info? t = some i ∧ v = .agg ((cs.drop off).take i.size) ∧ off + i.size ≤ cs.length) ∨ (isAggD d = false ∧ cs[off]? = some v)) := by
  unfold readK at h
  split at h
  · cases h
  · rename_i kd ht
    obtain ⟨n, h1, h2⟩ := Option.bind_eq_some_iff.1 h
    exact ⟨_, _, h2, ht, .inr ⟨rfl, getD_undef (gInt_eq h1) (by simp)⟩⟩
  · rename_i ht
    obtain ⟨n, h1, h2⟩ := Option.bind_eq_some_iff.1 h
    exact ⟨_, _, h2, ht, .inr ⟨rfl, getD_undef (gBool_eq h1) (by simp)⟩⟩
  · rename_i ht
    obtain ⟨n, h1, h2⟩ := Option.bind_eq_some_iff.1 h
    exact ⟨_, _, h2, ht, .inr ⟨rfl, getD_undef (gStr_eq h1) (by simp)⟩⟩
  · rename_i d _ _ _ ht
    cases ha : isAggD d
    · simp only [ha, cond_false] at h
      obtain ⟨h1, h2⟩ := chk_some h
      have h1' : off < cs.length := by simpa using h1
      exact ⟨_, d, h2, ht, .inr ⟨ha, by simp [List.getD_eq_getElem?_getD, List.getElem?_eq_getElem h1']⟩⟩
    · simp only [ha, cond_true] at h
      split at h
      · rename_i i hi
        cases hb : i.size == (cks P 9 t).length
        · simp [hb] at h
        · simp only [hb, cond_true] at h
          obtain ⟨h1, h2⟩ := chk_some h
          have hs : i.size = (cks P 9 t).length := by simpa using hb
          have h1' : off + i.size ≤ cs.length := by simpa using h1
          have h3 := cellsK_some _ _ _ _ (by omega) h2
          exact ⟨_, _, h3, ht, .inl ⟨ha, i, hi, by rw [hs], h1'⟩⟩
      · cases h

theorem run_isAgg {P : Program} {t : TypeId} {d : TypeDesc} (h : P.underlying t = some d) (w : World) : (isAgg t).run P w = .ok (isAggD d) w := by
  unfold isAgg
  rw [Sem.run_bind, run_underlying h w]
  cases d <;> rfl

theorem readK_load {P : Program} {G : Gh} {ι : Inj} {R : Type} {t : TypeId} {cs : List AV} {off : Nat} {k : AV → Option R} {r : R} {w0 : World} {B o : Nat}
    (h : readK P t cs off k = some r) (hs : Seen G ι w0 B o cs off) {X : Nat → Prop} (hB : off < cs.length → ¬ X B) :
    ∃ v v', k v = some r ∧ VRel G ι v v' ∧ ∀ w, AgreeX X w0 w → (loadVar t ⟨B, o, none⟩).run P w = .ok v' w := by
  obtain ⟨v, d, hk, hd, h1⟩ := readK_some h
  rcases h1 with ⟨ha, i, hi, rfl, hlen⟩ | ⟨ha, hc⟩
  · obtain ⟨l, hl, hp⟩ := exists_list i.size (fun j u => ∀ a, cs[off + j]? = some a → VRel G ι a u ∧ w0.cell? ⟨B, o + j, none⟩ = some u) (fun j hj => by
      have hlt : off + j < cs.length := by omega
      obtain ⟨u, hu, hc⟩ := hs j _ (List.getElem?_eq_getElem hlt)
      refine ⟨u, fun a ha => ?_⟩
      rw [List.getElem?_eq_getElem hlt] at ha; cases ha
      exact ⟨hu, hc⟩)
    have hget : ∀ j u, l[j]? = some u → ∃ a, cs[off + j]? = some a ∧ VRel G ι a u ∧ w0.cell? ⟨B, o + j, none⟩ = some u := fun j u hu => by
      have hj : j < l.length := by
        rcases Nat.lt_or_ge j l.length with h' | h'
        · exact h'
        · simp [List.getElem?_eq_none h'] at hu
      have hlt : off + j < cs.length := by omega
      exact ⟨_, List.getElem?_eq_getElem hlt, hp j u hu _ (List.getElem?_eq_getElem hlt)⟩
    refine ⟨_, .agg l.toArray, hk, VRel.aggL ⟨by simp [hl]; omega, fun j a u h1 h2 => ?_⟩, fun w hw => ?_⟩
    · obtain ⟨a', ha', hr, _⟩ := hget j u (by simpa using h2)
      rw [List.getElem?_take] at h1
      split at h1
      · rw [List.getElem?_drop] at h1; rw [ha'] at h1; cases h1; exact hr
      · cases h1
    · have hl2 : (loadCells ⟨B, o, none⟩ i.size).run P w = .ok l.toArray w := by
        rw [← hl]
        refine run_loadCells_list w ⟨B, o, none⟩ l fun j u hu => ?_
        obtain ⟨_, _, _, hc⟩ := hget j u hu
        have hadd : (⟨B, o, none⟩ : Addr).add j = ⟨B, o + j, none⟩ := by unfold Addr.add; split <;> simp_all
        rw [hadd]; exact hw _ _ _ (hB (by have := hget j u hu; obtain ⟨a, ha, _⟩ := this; have := (List.getElem?_eq_some_iff.1 ha).1; omega)) hc
      simp [loadVar, run_isAgg hd, ha, sizeOf, typeInfo, hi, hl2]
  · obtain ⟨u, hu, hcell⟩ := hs 0 v (by simpa using hc)
    refine ⟨v, u, hk, hu, fun w hw => ?_⟩
    have := hw _ _ _ (hB (List.getElem?_eq_some_iff.1 hc).1) hcell
    simp only [Nat.add_zero] at this
    simp [loadVar, run_isAgg hd, ha, this]

theorem readK_part {P : Program} {G : Gh} {ι : Inj} {R : Type} {t : TypeId} {cs : List AV} {off : Nat} {k : AV → Option R} {r : R} {xs : Array Value}
    (h : readK P t cs off k = some r) (hs : LRel G ι cs xs.toList) :
    ∃ v v', k v = some r ∧ VRel G ι v v' ∧ ∀ w, (part t xs off).run P w = .ok v' w := by
  obtain ⟨v, d, hk, hd, h1⟩ := readK_some h
  rcases h1 with ⟨ha, i, hi, rfl, hlen⟩ | ⟨ha, hc⟩
  · refine ⟨_, .agg (xs.extract off (off + i.size)), hk, VRel.aggL ?_, fun w => by simp [part, run_isAgg hd, ha, sizeOf, typeInfo, hi]⟩
    have e : (xs.extract off (off + i.size)).toList = (xs.toList.drop off).take i.size := by simp [List.extract_eq_take_drop]
    rw [e]; exact (hs.drop off).take i.size
  · obtain ⟨u, hu, hr⟩ := hs.get hc
    have hu' : xs[off]? = some u := by simpa using hu
    exact ⟨v, u, hk, hr, fun w => by simp [part, run_isAgg hd, ha, hu']⟩
end Go.Ab
