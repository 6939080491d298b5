/- The abstract machine: regions whose order is open and that write memory in one order. No condition. -/
import Derived.Test.YtnalegahabfglaaDoorAbAny
set_option linter.all false
set_option linter.unusedVariables false
set_option linter.unusedSimpArgs false
namespace Go.Ab
open Go
section
variable {R : Type}

theorem maskO_get (f : Nat → Bool) : ∀ (objs : List AObj) (n i : Nat), (maskO f n objs)[i]? = (objs[i]?).map fun o => bif f (n + i) then o else .dead
  | [], n, i => by simp [maskO]
  | o :: os, n, i => by
    cases i with
    | zero => simp [maskO]
    | succ i => simp only [maskO, List.getElem?_cons_succ, maskO_get f os (n + 1) i]; rw [Nat.add_right_comm, Nat.add_assoc]
theorem maskO_length (f : Nat → Bool) : ∀ (objs : List AObj) (n : Nat), (maskO f n objs).length = objs.length
  | [], _ => rfl
  | o :: os, n => by simp [maskO, maskO_length f os]
theorem Rel.mask {E : Env} {G : Gh} {ι : Inj} {objs : List AObj} {w : World} (h : Rel E G ι objs w) (f : Nat → Bool) : Rel E G ι (maskO f 0 objs) w := by
  have back : ∀ (i : Nat) (o : AObj), (maskO f 0 objs)[i]? = some o → o.live = true → objs[i]? = some o ∧ f i = true := fun i o hi hl => by
    rw [maskO_get] at hi
    obtain ⟨p, hp, rfl⟩ := Option.map_eq_some_iff.1 hi
    rw [Nat.zero_add] at hl ⊢
    cases hf : f i
    · rw [hf] at hl; cases hl
    · exact ⟨hp, rfl⟩
  refine ⟨h.stays, fun i o hi hl => h.obj i o (back i o hi hl).1 hl, fun i j o p B C D hi ho hj hp => h.inj i j o p B C D (back i o hi ho).1 ho (back j p hj hp).1 hp,
    fun i hi => h.fresh i (by rwa [maskO_length] at hi), h.glob, h.size⟩

end

/-- The worlds of such a region: how far the writes have come. -/
def ClX (E : Env) (s0 : St0) (G1 : Gh) (ι : Inj) (w1 : World) (S : List (List AObj)) (es : List Nat) (X : Nat → Prop) (listed : Array Bool) (w : World) : Prop :=
  ∃ s so, S[s]? = some so ∧ s ≤ es.length ∧ (∀ m j, es[m]? = some j → (listed.getD j true = true ↔ m < s)) ∧
    (∃ G, Rel E G ι so w ∧ Ext s0.L s0.G s0.ι s0.w G ι so w ∧ G1.le G) ∧ AgreeX X w1 w ∧ w1.heap.size ≤ w.heap.size

theorem getD_set_self (l : Array Bool) (i : Nat) : (l.setIfInBounds i true).getD i true = true := by
  simp only [Array.getD_eq_getD_getElem?, Array.getElem?_setIfInBounds]
  simp
  split <;> simp_all

section
variable {E : Env} {s0 : St0} {G1 : Gh} {ι : Inj} {w1 : World} {S : List (List AObj)} {es : List Nat} {X : Nat → Prop} {listed : Array Bool}

theorem ClX.quiet {n : Nat} (hn : n ∉ es) {w w' : World} (h : ClX E s0 G1 ι w1 S es X listed w)
    (hw : ∀ so G, Rel E G ι so w → Ext s0.L s0.G s0.ι s0.w G ι so w → G1.le G → AgreeX X w1 w → w1.heap.size ≤ w.heap.size →
      (∃ G', Rel E G' ι so w' ∧ Ext s0.L s0.G s0.ι s0.w G' ι so w' ∧ G1.le G') ∧ AgreeX X w1 w' ∧ w1.heap.size ≤ w'.heap.size) : ClX E s0 G1 ι w1 S es X (listed.setIfInBounds n true) w' := by
  obtain ⟨s, so, h1, h2, h3, ⟨G, h4, h5, h6⟩, h7, h8⟩ := h
  refine ⟨s, so, h1, h2, fun m j hj => ?_, hw so G h4 h5 h6 h7 h8⟩
  have hne : j ≠ n := fun e => hn (e ▸ List.mem_of_getElem? hj)
  rw [getD_set_ne true (Ne.symm hne)]; exact h3 m j hj
end
end Go.Ab
