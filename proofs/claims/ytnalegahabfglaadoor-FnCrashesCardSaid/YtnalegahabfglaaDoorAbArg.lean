/- The door: an argument that is a slice of whole numbers. No condition. -/
import Derived.Test.YtnalegahabfglaaDoorAbRow
import Derived.ChangeSlices
set_option linter.all false
set_option linter.unusedVariables false
set_option linter.unusedSimpArgs false
namespace Go.Ab
open Go Go.RowKit Go.WideShapes Go.ChangeShapes Go.ChangeAt
section
variable {H : Type} {enc : TypeId × Value → H} {P : Program} {W : World}
theorem arg_ints {r : Reach} {base : Nat} {t e : TypeId} {k : IntKind} {v : Value} {d : DataW H} {p : List MemPlace} (hv : Value.okWide P W r base t v)
    (ht : P.underlying t = some (.slice e)) (he : P.underlying e = some (.int k)) (hc : P.cellsOf e = 1) (h : DataW.Trod enc P W 0 (fun _ => true) true t v d p) :
    ∃ zs : List Int, (∀ z ∈ zs, (Lit.int k z).wf = true) ∧ VRel (fun b o => W.cell? ⟨b, o, none⟩) noInj (.sval (zs.map fun z => .int k z) zs.length false) v := by
  obtain ⟨a0, len0, cap0, rfl⟩ := okWide_slice ht hv
  obtain ⟨fuel, hf⟩ := h
  rcases open_ints ht he hc hf with ⟨hcs, hx⟩ | ⟨a, len, cap, zs, hcs, _, hle, _, hlen, _, hcell, hwf⟩
  · simp [Value.cells] at hcs
    obtain ⟨rfl, rfl, rfl⟩ := hcs
    exact ⟨[], (fun z h => nomatch h), VRel.svalNil⟩
  · simp [Value.cells] at hcs
    obtain ⟨rfl, rfl, rfl⟩ := hcs
    simp only [if_true] at hlen
    have hsp : a.spot = none := by
      unfold Value.okWide at hv
      simp only [ht] at hv
      unfold Cell.okWide at hv
      simp only [ht] at hv
      unfold Cell.ok at hv
      simp only [ht] at hv
      exact hv.2.2.2.1
    obtain ⟨B, off, spot⟩ := a
    cases hsp
    have hl : (zs.take len0).length = len0 := by rw [List.length_take]; omega
    refine ⟨zs.take len0, fun z hz => hwf z (List.mem_of_mem_take hz), ?_⟩
    rw [hl]
    refine .sval (fun j => .int k (zs.getD j 0)) ?_ ?_ (fun h => by cases h) hle
    · intro j hj
      rw [List.length_map, hl] at hj
      have := hcell j (by omega)
      rw [add_plain] at this
      exact this
    · intro j x hx
      rw [List.getElem?_map] at hx
      obtain ⟨z, hz, rfl⟩ := Option.map_eq_some_iff.1 hx
      have hj := (List.getElem?_eq_some_iff.1 hz).1
      rw [hl] at hj
      rw [List.getElem?_take_of_lt hj] at hz
      rw [List.getD_eq_getElem?_getD, hz]
      exact .int _ _
end
end Go.Ab
