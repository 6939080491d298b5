/- The abstract machine, part 10: literals of structs, arrays and slices. No condition. -/
import Derived.Test.YtnalegahabfglaaDoorAbEff2
set_option linter.all false
set_option linter.unusedVariables false
set_option linter.unusedSimpArgs false
namespace Go.Ab
open Go

def fillA (place : Nat → Option (Nat × Nat)) (cs : List AV) : List (Nat × AV) → Option (List AV)
  | [] => some cs
  | (i, v) :: rest =>
    match place i with
    | none => none
    | some (off, size) => bif v.cells.length == size && decide (off + v.cells.length ≤ cs.length) && oneOrAgg v then fillA place (setL cs off v.cells) rest else none
where oneOrAgg : AV → Bool
  | .undef => false
  | _ => true

theorem foldl_setA (vs : List Value) : ∀ (c : Array Value) (off j : Nat), ((vs.zipIdx j).foldl (fun cs (x : Value × Nat) => cs.setIfInBounds (off + x.2) x.1) c) = setA c (off + j) vs := by
  induction vs with
  | nil => intro c off j; rfl
  | cons v vs ih => intro c off j; simp only [List.zipIdx_cons, List.foldl_cons, setA]; rw [ih]; rfl

section
variable {E : Env} {G : Gh} {ι : Inj}

def PRel (G : Gh) (ι : Inj) : List (Nat × AV) → List (Nat × Value) → Prop
  | [], [] => True
  | a :: as, v :: vs => a.1 = v.1 ∧ VRel G ι a.2 v.2 ∧ PRel G ι as vs
  | _, _ => False

theorem fillA_ok (place : Nat → Option (Nat × Nat)) : ∀ (ps : List (Nat × AV)) (qs : List (Nat × Value)) (cs cs' : List AV) (c : Array Value), PRel G ι ps qs → LRel G ι cs c.toList →
    fillA place cs ps = some cs' → ∃ c', Instr.fill place c qs = some c' ∧ LRel G ι cs' c'.toList
  | [], [], cs, cs', c, _, hl, h => by simp [fillA] at h; subst h; exact ⟨c, rfl, hl⟩
  | (i, v) :: ps, (i', u) :: qs, cs, cs', c, hp, hl, h => by
    obtain ⟨h1, h2, h3⟩ := hp
    simp only at h1 h2; subst h1
    simp only [fillA] at h
    simp only [Instr.fill]
    split at h
    · cases h
    · rename_i off size hpl
      cases hb : (v.cells.length == size && decide (off + v.cells.length ≤ cs.length) && fillA.oneOrAgg v)
      · simp [hb] at h
      · simp only [hb, cond_true] at h
        simp only [Bool.and_eq_true, beq_iff_eq, decide_eq_true_eq] at hb
        have hne : v ≠ .undef := fun e => by subst e; simp [fillA.oneOrAgg] at hb
        have hcr := AV.cells_rel h2 hne
        have hlen : v.cells.length = u.cells.size := by simpa using hcr.1
        have hcl : cs.length = c.size := by simpa using hl.1
        simp only [hpl]
        have hno : ¬ (u.cells.size ≠ size ∨ off + u.cells.size > c.size) := by omega
        have hno2 : (decide (u.cells.size ≠ size) || decide (off + u.cells.size > c.size)) = false := by simpa using hno
        rw [if_neg (by simpa using hno)]
        have hfold : (u.cells.zipIdx.foldl (fun cs (x : Value × Nat) => cs.setIfInBounds (off + x.2) x.1) c) = setA c off u.cells.toList := by
          rw [← Array.foldl_toList]
          have := foldl_setA u.cells.toList c off 0
          simpa using this
        rw [hfold]
        refine fillA_ok place ps qs _ cs' _ h3 ?_ h
        have h4 := setL_rel v.cells u.cells.toList cs c off c.size hcr (by simpa [List.take_of_length_le] using hl) (by omega)
        have h5 : (setA c off u.cells.toList).toList.take c.size = (setA c off u.cells.toList).toList :=
          List.take_of_length_le (by rw [Array.length_toList, setA_size]; exact Nat.le_refl _)
        rw [h5] at h4; exact h4
  | [], _ :: _, _, _, _, hp, _, _ => hp.elim
  | _ :: _, [], _, _, _, hp, _, _ => hp.elim

theorem mapM_run {α β : Type} {P : Program} (f : α → Sem β) (g : α → β) (w : World) : ∀ (xs : List α), (∀ x ∈ xs, (f x).run P w = .ok (g x) w) → (xs.mapM f).run P w = .ok (xs.map g) w
  | [], _ => by simp
  | x :: xs, h => by
    rw [List.mapM_cons, Sem.run_bind, h x (by simp)]
    simp only [Result.andThen_ok, Sem.run_bind, mapM_run f g w xs (fun y hy => h y (by simp [hy]))]
    simp
theorem amapM_run {α β : Type} {P : Program} (f : α → Sem β) (g : α → β) (w : World) (xs : Array α) (h : ∀ x ∈ xs, (f x).run P w = .ok (g x) w) : (xs.mapM f).run P w = .ok (xs.map g) w := by
  rw [Array.mapM_eq_mapM_toList, Sem.run_map, mapM_run f g w xs.toList (fun x hx => h x (by simpa using hx))]
  simp only [Result.andThen_ok]
  congr 1
  apply Array.ext'
  simp
end

section
variable {R : Type}
def partsA (ρ : Operand → AV) (ps : Array (Nat × Operand)) : List (Nat × AV) := ps.toList.map fun p => (p.1, ρ p.2)

def buildK (P : Program) (ρ : Operand → AV) (t : TypeId) (ps : Array (Nat × Operand)) (k : AV → Option R) : Option R :=
  match (P.info? t).bind (·.zero), P.underlying t with
  | some z, some (.struct fs) =>
    bif fs.all fun f => (P.info? f.type).isSome then
      match fillA (fun i => (fs[i]?).map fun f => (f.offset, szOf P f.type)) (ofConst z).cells (partsA ρ ps) with
      | some cs => k (.agg cs)
      | none => none
    else none
  | some z, some (.array _ e) =>
    bif (P.info? e).isSome then
      match fillA (fun i => some (i * szOf P e, szOf P e)) (ofConst z).cells (partsA ρ ps) with
      | some cs => k (.agg cs)
      | none => none
    else none
  | _, _ => none
end

theorem partsA_rel {G : Gh} {ι : Inj} {ρ : Operand → AV} {ρ' : Operand → Value} (hρ : ∀ x, VRel G ι (ρ x) (ρ' x)) (ps : Array (Nat × Operand)) :
    PRel G ι (partsA ρ ps) (ps.map fun (i, x) => (i, ρ' x)).toList := by
  unfold partsA
  rw [Array.toList_map]
  generalize ps.toList = l
  induction l with
  | nil => trivial
  | cons p l ih => exact ⟨rfl, hρ _, ih⟩

theorem ofConst_cells {G : Gh} {ι : Inj} {z : Value} {cs : List AV} (h : (ofConst z).cells = cs) (hne : ofConst z ≠ .undef) : LRel G ι cs z.cells.toList := by
  subst h; exact AV.cells_rel (ofConst_rel G ι z) hne

/-- The zero value's cells, as they are known. -/
theorem zero_cells {G : Gh} {ι : Inj} (z : Value) : LRel G ι (ofConst z).cells z.cells.toList := by
  by_cases hne : ofConst z = .undef
  · cases z with
    | agg cs => simp [ofConst] at hne
    | _ =>
      simp only [ofConst] at hne ⊢
      rw [hne]
      exact LRel.cons (.undef _) LRel.nil
  · exact AV.cells_rel (ofConst_rel G ι z) hne

theorem buildK_ok {E : Env} {G : Gh} {ι : Inj} {R : Type} {ρ : Operand → AV} {ρ' : Operand → Value} {t : TypeId} {ps : Array (Nat × Operand)} {k : AV → Option R} {r : R}
    (h : buildK E.P ρ t ps k = some r) (hρ : ∀ x, VRel G ι (ρ x) (ρ' x)) :
    ∃ v v', k v = some r ∧ VRel G ι v v' ∧ ∀ w, (Instr.build t (ps.map fun (i, x) => (i, ρ' x))).run E.P w = .ok v' w := by
  unfold buildK at h
  split at h
  · rename_i z fs hz ht
    obtain ⟨i0, hi0, hz0⟩ := Option.bind_eq_some_iff.1 hz
    cases hb : fs.all fun f => (E.P.info? f.type).isSome
    · simp [hb] at h
    · simp only [hb, cond_true] at h
      split at h
      · rename_i cs hf
        obtain ⟨c', h1, h2⟩ := fillA_ok _ _ _ _ _ _ (partsA_rel hρ ps) (zero_cells z) hf
        refine ⟨_, .agg c', h, VRel.aggL h2, fun w => ?_⟩
        have hm : (fs.mapM fun f => (do pure (f.offset, ← sizeOf f.type) : Sem (Nat × Nat))).run E.P w = .ok (fs.map fun f => (f.offset, szOf E.P f.type)) w := by
          refine amapM_run _ _ w fs fun f hf => ?_
          have := Array.all_eq_true'.1 hb f hf
          obtain ⟨i1, hi1⟩ := Option.isSome_iff_exists.1 this
          simp [sizeOf_eq hi1, szOf, hi1]
        have hfill : (Instr.fill (fun i => (fs.map fun f => (f.offset, szOf E.P f.type))[i]?) z.cells (ps.map fun (i, x) => (i, ρ' x)).toList) = some c' := by
          rw [← h1]
          congr 1
          funext i
          simp
        simp only [Instr.build, Sem.run_bind, zeroValue, typeInfo, run_program, Result.andThen_ok, hi0, Sem.run_pure, hz0, run_underlying ht, hm]
        rw [hfill]; simp
      · cases h
  · rename_i z n e hz ht
    obtain ⟨i0, hi0, hz0⟩ := Option.bind_eq_some_iff.1 hz
    cases hb : (E.P.info? e).isSome
    · simp [hb] at h
    · simp only [hb, cond_true] at h
      obtain ⟨i1, hi1⟩ := Option.isSome_iff_exists.1 hb
      split at h
      · rename_i cs hf
        obtain ⟨c', h1, h2⟩ := fillA_ok _ _ _ _ _ _ (partsA_rel hρ ps) (zero_cells z) hf
        refine ⟨_, .agg c', h, VRel.aggL h2, fun w => ?_⟩
        have hs : szOf E.P e = i1.size := by simp [szOf, hi1]
        rw [hs] at h1
        simp only [Instr.build, Sem.run_bind, zeroValue, typeInfo, run_program, Result.andThen_ok, hi0, Sem.run_pure, hz0, run_underlying ht, sizeOf_eq hi1]
        rw [h1]; simp
      · cases h
  · cases h
end Go.Ab
