/- The abstract machine, part 9: stores. No condition. -/
import Derived.Test.YtnalegahabfglaaDoorAbEff
set_option linter.all false
set_option linter.unusedVariables false
set_option linter.unusedSimpArgs false
namespace Go.Ab
open Go

def setL (cs : List AV) (off : Nat) : List AV → List AV
  | [] => cs
  | v :: vs => setL (cs.set off v) (off + 1) vs
def setA (c : Array Value) (off : Nat) : List Value → Array Value
  | [] => c
  | v :: vs => setA (c.setIfInBounds off v) (off + 1) vs

theorem setA_size : ∀ (vs : List Value) (c : Array Value) (off : Nat), (setA c off vs).size = c.size
  | [], _, _ => rfl
  | v :: vs, c, off => by rw [setA, setA_size vs]; simp
theorem setL_length : ∀ (vs : List AV) (c : List AV) (off : Nat), (setL c off vs).length = c.length
  | [], _, _ => rfl
  | v :: vs, c, off => by rw [setL, setL_length vs]; simp

/-- A value that one cell holds, for sure. -/
def oneA : AV → Bool
  | .agg _ | .tup _ | .undef => false
  | _ => true
theorem oneA_one {G : Gh} {ι : Inj} {a : AV} {v : Value} (h : VRel G ι a v) (ho : oneA a = true) : v.oneCell' = true := by
  cases h <;> first | rfl | (simp [oneA] at ho)

section
variable {E : Env} {G : Gh} {ι : Inj} {objs : List AObj} {w : World}

theorem setL_rel {ι : Inj} : ∀ (as : List AV) (vs : List Value) (cs : List AV) (c : Array Value) (off n : Nat), LRel G ι as vs → LRel G ι cs (c.toList.take n) → off + as.length ≤ n →
    LRel G ι (setL cs off as) ((setA c off vs).toList.take n)
  | [], [], cs, c, off, n, _, h, _ => h
  | a :: as, v :: vs, cs, c, off, n, ha, h, hn => by
    simp only [setL, setA]
    have h1 : VRel G ι a v := ha.2 0 a v rfl rfl
    have h2 : LRel G ι as vs := ⟨by have := ha.1; simpa using this, fun i a v e1 e2 => ha.2 (i + 1) a v (by simpa using e1) (by simpa using e2)⟩
    simp only [List.length_cons] at hn
    refine setL_rel as vs _ _ (off + 1) n h2 ?_ (by omega)
    have e : (c.setIfInBounds off v).toList.take n = (c.toList.take n).set off v := by
      rw [Array.toList_setIfInBounds, List.take_set]
    rw [e]
    exact h.set off h1
  | [], v :: vs, _, _, _, _, ha, _, _ => by have := ha.1; simp at this
  | a :: as, [], _, _, _, _, ha, _, _ => by have := ha.1; simp at this

theorem heap_setCells (b : Nat) : ∀ (vs : List Value) (off : Nat) (w : World) (c : Array Value) (e : TypeId) (fz : Nat × Nat), w.heap[b]? = some (.cells c e fz) →
    (w.setCells b off vs).heap[b]? = some (.cells (setA c off vs) e fz)
  | [], _, _, _, _, _, h => h
  | v :: vs, off, w, c, e, fz, h => by
    simp only [World.setCells, setA]
    refine heap_setCells b vs (off + 1) _ _ e fz ?_
    simp only [World.setCell, Array.getElem?_modify, if_true, h, Option.map_some]
    rfl
theorem heap_setCells_other (b k : Nat) (hk : k ≠ b) : ∀ (vs : List Value) (off : Nat) (w : World), (w.setCells b off vs).heap[k]? = w.heap[k]?
  | [], _, _ => rfl
  | v :: vs, off, w => by
    simp only [World.setCells]
    rw [heap_setCells_other b k hk vs, heap_setCell_other _ _ _ _ hk]
theorem size_setCells (b : Nat) : ∀ (vs : List Value) (off : Nat) (w : World), (w.setCells b off vs).heap.size = w.heap.size
  | [], _, _ => rfl
  | v :: vs, off, w => by simp only [World.setCells]; rw [size_setCells b vs]; simp
theorem os_setCells (b : Nat) : ∀ (vs : List Value) (off : Nat) (w : World), (w.setCells b off vs).os = w.os ∧ (w.setCells b off vs).tape = w.tape ∧ (w.setCells b off vs).output = w.output
  | [], _, _ => ⟨rfl, rfl, rfl⟩
  | v :: vs, off, w => by simp only [World.setCells]; exact os_setCells b vs (off + 1) _

/-- An object's block turns, all others stay. -/
theorem Rel.setObj {w' : World} (h : Rel E G ι objs w) {i B C : Nat} {o o' : AObj} (hi : objs[i]? = some o) (hl : o.live = true) (hι : ι i = some (B, C))
    (hu : ∀ x, G B x = none) (hother : ∀ b, b ≠ B → w'.heap[b]? = w.heap[b]?) (hsize : w'.heap.size = w.heap.size) (hos : w'.os = w.os ∧ w'.tape = w.tape ∧ w'.output = w.output)
    (ho : o'.live = true → ORel G ι w' B C o') :
    Rel E G ι (objs.set i o') w' ∧ Ext (LiveB ι objs) G ι w G ι (objs.set i o') w' := by
  obtain ⟨B', C', g1, g2, g3, g4⟩ := h.obj i o hi hl
  rw [hι] at g1; simp at g1; obtain ⟨rfl, rfl⟩ := g1
  have hilt : i < objs.length := by
    rcases Nat.lt_or_ge i objs.length with h' | h'
    · exact h'
    · simp [List.getElem?_eq_none h'] at hi
  have hget : ∀ (j : Nat) (p : AObj), (objs.set i o')[j]? = some p → (j ≠ i ∧ objs[j]? = some p) ∨ (j = i ∧ p = o') := fun j p hj => by
    rw [List.getElem?_set] at hj
    split at hj
    · rename_i e; subst e; exact .inr ⟨rfl, by simpa using hj.symm⟩
    · rename_i e; exact .inl ⟨fun e' => e e'.symm, hj⟩
  have hback : ∀ (j : Nat) (p : AObj), (objs.set i o')[j]? = some p → p.live = true → ∃ q, objs[j]? = some q ∧ q.live = true := fun j p hj hp => by
    rcases hget j p hj with ⟨_, hj'⟩ | ⟨rfl, rfl⟩
    · exact ⟨p, hj', hp⟩
    · exact ⟨o, hi, hl⟩
  refine ⟨⟨fun b x v hg => ?_, fun j p hj hp => ?_, fun j k p q D C1 C2 hj hp hk hq e1 e2 => ?_, fun j hj => h.fresh j (by simpa using hj), fun b hb => ?_, by rw [hsize]; exact h.size⟩,
    ⟨hos.1, hos.2.1, hos.2.2, by omega, fun b hb hL => hother b fun e => hL (by subst e; exact ⟨i, o, _, hi, hl, hι⟩), Gh.le_refl _, fun _ _ _ _ => rfl, Inj.le_refl _, ?_⟩⟩
  · have hb : b ≠ B := fun e => by subst e; rw [hu] at hg; cases hg
    rw [World.cell?_of_block (w := w) (hother b hb)]; exact h.stays b x v hg
  · rcases hget j p hj with ⟨hne, hj'⟩ | ⟨rfl, rfl⟩
    · obtain ⟨D, F, f1, f2, f3, f4⟩ := h.obj j p hj' hp
      have hD : D ≠ B := fun e => by subst e; exact hne (h.inj j i p o D F C hj' hp hi hl f1 hι)
      exact ⟨D, F, f1, f2, by omega, f4.lift (Inj.le_refl _) (hother D hD)⟩
    · exact ⟨B, C, hι, g2, by omega, ho hp⟩
  · obtain ⟨p', hj', hp'⟩ := hback j p hj hp
    obtain ⟨q', hk', hq'⟩ := hback k q hk hq
    exact h.inj j k p' q' D C1 C2 hj' hp' hk' hq' e1 e2
  · have hb' : b ≠ B := by omega
    rw [hother b hb']; exact h.glob b hb
  · rintro b hb ⟨j, p, D, hj, hp, e⟩
    obtain ⟨p', hj', hp'⟩ := hback j p hj hp
    exact ⟨j, p', D, hj', hp', e⟩

/-- A store of some cells into an object. -/
theorem Rel.store (h : Rel E G ι objs w) {i off : Nat} {flat : Bool} {cs as : List AV} {vs : List Value} {B C : Nat} (hi : objs[i]? = some (.cells flat cs)) (hι : ι i = some (B, C))
    (hv : LRel G ι as vs) (hone : ∀ a ∈ as, oneA a = true) (hoff : off + as.length ≤ cs.length) :
    (storeCells ⟨B, off, none⟩ vs).run E.P w = .ok () (w.setCells B off vs) ∧
    Rel E G ι (objs.set i (.cells (flat && closedL as) (setL cs off as))) (w.setCells B off vs) ∧
    Ext (LiveB ι objs) G ι w G ι (objs.set i (.cells (flat && closedL as) (setL cs off as))) (w.setCells B off vs) := by
  obtain ⟨B', C', g1, g2, g3, g4⟩ := h.obj i _ hi rfl
  rw [hι] at g1; simp at g1; obtain ⟨rfl, rfl⟩ := g1
  obtain ⟨⟨c, e, lo, hi1, hb, hC, hfz, hl⟩, hu⟩ := g4
  have hlen : cs.length ≤ c.size := by have := hl.1; simp at this; omega
  have hvl : vs.length = as.length := hv.1.symm
  refine ⟨?_, ?_⟩
  · have := run_storeCells_cells (P := E.P) B off vs 0 w (fun j hj => by
        have : off + 0 + j < c.size := by omega
        simp [World.cell?, hb]; omega) (fun j hj => by
        simp [World.frozen?, hb]; omega) (fun v hm => by
        obtain ⟨j, hj, hjv⟩ := List.mem_iff_getElem.1 hm
        have hja : j < as.length := by omega
        exact oneA_one (hv.2 j as[j] v (List.getElem?_eq_getElem hja) (by rw [List.getElem?_eq_getElem hj, hjv])) (hone _ (List.getElem_mem hja)))
    simpa using this
  · refine h.setObj (o := .cells flat cs) hi rfl hι hu (fun b hb' => heap_setCells_other B b hb' vs off w) (size_setCells B vs off w) (os_setCells B vs off w) fun _ => ?_
    refine ⟨⟨_, e, lo, hi1, heap_setCells B vs off w c e (lo, hi1) hb, by rw [setA_size]; exact hC, hfz, ?_⟩, hu⟩
    rw [setL_length]
    cases flat
    · simp only [Bool.false_and, Bool.false_eq_true, if_false] at hl ⊢
      exact setL_rel as vs cs c off cs.length hv (by simpa using hl) hoff
    · cases hcl : closedL as
      · simp only [Bool.and_false, Bool.false_eq_true, if_false, if_true] at hl ⊢
        exact setL_rel as vs cs c off cs.length hv (hl.mono (Gh.le_refl _) (noInj_le ι)) hoff
      · simp only [Bool.and_self, if_true] at hl ⊢
        exact setL_rel as vs cs c off cs.length (hv.closed hcl) hl hoff
end
end Go.Ab
