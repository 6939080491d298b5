/- The abstract machine: contracts of functions that only add to memory. No condition. -/
import Derived.Test.YtnalegahabfglaaDoorAbSeal
import Derived.Sort.Grow
import Derived.Deep.Draws
import Derived.Lib.LaidTab
set_option linter.all false
set_option linter.unusedVariables false
set_option linter.unusedSimpArgs false
namespace Go.Ab
open Go

theorem Rel.grow {E : Env} {G : Gh} {ι : Inj} {objs : List AObj} {w : World} (h : Rel E G ι objs w) (os : Array Obj) : Rel E G ι objs (Sort.grow w os) := by
  have hold : ∀ b, b < w.heap.size → (Sort.grow w os).heap[b]? = w.heap[b]? := fun b hb => by
    show (w.heap ++ os)[b]? = _
    rw [Array.getElem?_append_left hb]
  have hcell : ∀ a : Addr, ∀ v, w.cell? a = some v → (Sort.grow w os).cell? a = some v := fun a v hv => by
    have hb : a.block < w.heap.size := by
      rcases Nat.lt_or_ge a.block w.heap.size with hb | hb
      · exact hb
      · simp [World.cell?, Array.getElem?_eq_none hb] at hv
    simp only [World.cell?] at hv ⊢
    rw [hold _ hb]; exact hv
  refine ⟨fun b o v hv => hcell _ _ (h.stays b o v hv), fun i o hi hl => ?_, h.inj, h.fresh, fun b hb => ?_, ?_⟩
  · obtain ⟨B, C, h1, h2, h3, h4⟩ := h.obj i o hi hl
    refine ⟨B, C, h1, h2, ?_, ?_⟩
    · show B < (w.heap ++ os).size
      rw [Array.size_append]; omega
    · cases o with
      | cells flat cs => obtain ⟨⟨c, e, lo, hi, g1, g2⟩, g3⟩ := h4; exact ⟨⟨c, e, lo, hi, (hold _ h3).trans g1, g2⟩, g3⟩
      | map flat es => obtain ⟨ents, clock, g1, g2⟩ := h4; exact ⟨ents, clock, (hold _ h3).trans g1, g2⟩
      | iter s pos => exact (hold _ h3).trans h4
      | dead => trivial
  · exact (hold b (Nat.lt_of_lt_of_le hb h.size)).trans (h.glob b hb)
  · show E.nb ≤ (w.heap ++ os).size
    have := h.size; rw [Array.size_append]; omega

theorem Ext.grow (G : Gh) (ι : Inj) (objs : List AObj) (w : World) (n : Nat) (os : Array Obj) : Ext (LiveB ι objs) G ι w G ι objs (Sort.grow (w.drewN n) os) :=
  ⟨rfl, rfl, rfl, by show w.heap.size ≤ (w.heap ++ os).size; rw [Array.size_append]; omega, fun b hb _ => by show (w.heap ++ os)[b]? = _; rw [Array.getElem?_append_left hb],
    Gh.le_refl _, fun _ _ _ _ => rfl, Inj.le_refl _, fun _ _ h => h⟩

/-- A function that returns a determined value and only adds to memory. -/
theorem sim_lib {E : Env} {f : FuncId} {args : List AV} {v : AV} {v' : Value} (hv : ∀ G ι, VRel G ι v v')
    (h : ∀ (w : World) (args' : Array Value) (G : Gh) (ι : Inj), LRel G ι args args'.toList → (∀ b, b < E.nb → w.heap[b]? = E.gl b) →
      Calls E.P f args' w fun e w' => e = .returned v' ∧ ∃ n os, w' = Sort.grow (w.drewN n) os) (objs : List AObj) : Sim E f args objs v objs := by
  intro G ι w args' hR hA
  refine (h w args' G ι hA hR.glob).mono fun e w' ⟨he, n, os, hw⟩ => ?_
  subst hw
  have h1 : Rel E G ι objs (w.drewN n) := hR.of_heap rfl
  exact ⟨G, ι, v', he, hv G ι, h1.grow os, Ext.grow G ι objs w n os⟩

theorem arr1 {G : Gh} {ι : Inj} {a : AV} {args' : Array Value} (h : LRel G ι [a] args'.toList) : ∃ x, args' = #[x] ∧ VRel G ι a x := by
  obtain ⟨x, h1, h2⟩ := h.get (i := 0) rfl
  have hl : args'.size = 1 := by have := h.1; simpa using this.symm
  refine ⟨x, ?_, h2⟩
  apply Array.ext'
  match hq : args'.toList with
  | [] => rw [hq] at h1; simp at h1
  | [y] => rw [hq] at h1; simp at h1; subst h1; rfl
  | y :: z :: l => rw [← Array.length_toList, hq] at hl; simp at hl
theorem arr2 {G : Gh} {ι : Inj} {a b : AV} {args' : Array Value} (h : LRel G ι [a, b] args'.toList) : ∃ x y, args' = #[x, y] ∧ VRel G ι a x ∧ VRel G ι b y := by
  obtain ⟨x, h1, h2⟩ := h.get (i := 0) rfl
  obtain ⟨y, h3, h4⟩ := h.get (i := 1) rfl
  have hl : args'.size = 2 := by have := h.1; simpa using this.symm
  refine ⟨x, y, ?_, h2, h4⟩
  apply Array.ext'
  match hq : args'.toList with
  | [] => rw [hq] at h1; simp at h1
  | [z] => rw [hq] at h3; simp at h3
  | [z, u] => rw [hq] at h1 h3; simp at h1 h3; subst h1 h3; rfl
  | z :: u :: t :: l => rw [← Array.length_toList, hq] at hl; simp at hl

theorem grow_nil (w : World) : Sort.grow w #[] = w := by
  show { w with heap := w.heap ++ #[] } = w
  rw [Array.append_empty]
end Go.Ab
