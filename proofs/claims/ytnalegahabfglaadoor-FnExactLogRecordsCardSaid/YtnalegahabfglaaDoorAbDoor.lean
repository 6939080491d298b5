/- The abstract machine: from a function's contract to a row's call. No condition. -/
import Derived.Test.YtnalegahabfglaaDoorAbLib
import Derived.Below
set_option linter.all false
set_option linter.unusedVariables false
set_option linter.unusedSimpArgs false
namespace Go.Ab
open Go
section
variable {P : Program} {W : World}

theorem rel_start {G : Gh} (hG : ∀ b o v, G b o = some v → W.cell? ⟨b, o, none⟩ = some v) : Rel ⟨P, W.heap.size, fun k => W.heap[k]?⟩ G noInj [] W where
  stays := hG
  obj := fun i o hi => by simp at hi
  inj := fun i j o p B C D hi => by simp at hi
  fresh := fun _ _ => rfl
  glob := fun _ _ => rfl
  size := Nat.le_refl _

theorem calls_of_sim {f : FuncId} {avs : List AV} {b : Bool} {args : Array Value} {G : Gh} (hs : Sim ⟨P, W.heap.size, fun k => W.heap[k]?⟩ f avs [] (.bool b) [])
    (hG : ∀ b o v, G b o = some v → W.cell? ⟨b, o, none⟩ = some v) (hA : LRel G noInj avs args.toList) :
    Calls P f args W fun e W' => e = .returned (.bool b) ∧ RowKit.Below W.heap.size W W' := by
  refine (hs G noInj W args (rel_start hG) hA).mono ?_
  rintro e w' ⟨G', ι', v', rfl, hv, hR, hx⟩
  rw [hv.bool_inv]
  exact ⟨rfl, hx.os, hx.tape, hx.output, hx.size, fun k hk => hx.keep k hk fun ⟨i, o, C, h, _⟩ => by simp at h⟩

/-! ### Arguments of plain types -/
def leafOk (P : Program) (t : TypeId) (a : AV) : Prop :=
  match P.underlying t, a with
  | some .bool, .bool _ => True
  | some .string, .str s => (s.size : Int) ≤ IntKind.i64.max
  | some (.int k), .int k' n => k' = k ∧ k.has n
  | _, _ => False
def Leafs (P : Program) : List TypeId → List AV → Prop
  | [], [] => True
  | t :: ts, a :: as => leafOk P t a ∧ Leafs P ts as
  | _, _ => False
def isLeaf (P : Program) (t : TypeId) : Bool :=
  match P.underlying t with
  | some .bool | some .string | some (.int _) => true
  | _ => false
def toAV : Value → AV
  | .int k n => .int k n
  | .bool b => .bool b
  | .string s => .str s
  | _ => .undef
theorem toAV_rel (G : Gh) (ι : Inj) (v : Value) : VRel G ι (toAV v) v := by
  cases v <;> first | exact .int _ _ | exact .bool _ | exact .str _ | exact .undef _

theorem leaf_of {r : Reach} {base : Nat} {t : TypeId} {v : Value} (hl : isLeaf P t = true) (h : Cell.okWide P W r base t v) : leafOk P t (toAV v) := by
  unfold isLeaf at hl
  unfold Cell.okWide at h
  unfold leafOk
  split at hl <;> rename_i ht <;> first | (cases hl; done) | skip
  all_goals
    rw [ht] at h ⊢
    cases v <;> simp_all [Cell.ok, toAV]

theorem leafs_of {r : Reach} {base : Nat} : ∀ (ts : List TypeId) (vs : List Value), vs.length = ts.length → (ts.all (isLeaf P)) = true →
    (∀ (i : Nat) (t : TypeId) (v : Value), ts[i]? = some t → vs[i]? = some v → Cell.okWide P W r base t v) → Leafs P ts (vs.map toAV)
  | [], [], _, _, _ => trivial
  | [], _ :: _, h, _, _ => by simp at h
  | _ :: _, [], h, _, _ => by simp at h
  | t :: ts, v :: vs, h, hl, hc => by
    simp only [List.all_cons, Bool.and_eq_true] at hl
    exact ⟨leaf_of hl.1 (hc 0 t v rfl rfl), leafs_of ts vs (by simpa using h) hl.2 fun i t' v' h1 h2 => hc (i + 1) t' v' (by simpa using h1) (by simpa using h2)⟩

/-- A struct or an array of plain leaves, as an argument. -/
theorem arg_agg {r : Reach} {base : Nat} {t : TypeId} {v : Value} {ts : List TypeId} (hv : Value.okWide P W r base t v)
    (ht : (match P.underlying t with | some (.struct _) | some (.array _ _) => true | _ => false) = true) (hts : P.cellTypes P.depth t = some ts) (hn : P.cellsOf t = ts.length) (hl : ts.all (isLeaf P) = true) :
    ∃ as, Leafs P ts as ∧ ∀ G ι, VRel G ι (.agg as) v := by
  have main : (∃ cs, v = .agg cs ∧ cs.size = P.cellsOf t ∧ Row.okWide P W r base t cs) → ∃ as, Leafs P ts as ∧ ∀ G ι, VRel G ι (.agg as) v := by
    rintro ⟨cs, rfl, hsz, ts', hts', _, hc⟩
    rw [hts] at hts'; cases hts'
    refine ⟨cs.toList.map toAV, leafs_of (W := W) (r := r) (base := base) ts cs.toList (by simp [hsz, hn]) hl fun i t' v' h1 h2 => ?_, fun G ι => .aggL ⟨by simp, fun i a v' h1 h2 => ?_⟩⟩
    · obtain ⟨u, h3, h4⟩ := hc i v' (by simpa using h2)
      have hi : i < ts.length := (List.getElem?_eq_some_iff.1 h1).1
      rw [Nat.mod_eq_of_lt hi, h1] at h3
      cases h3; exact h4
    · rw [List.getElem?_map] at h1
      obtain ⟨v2, h3, rfl⟩ := Option.map_eq_some_iff.1 h1
      rw [h2] at h3; cases h3
      exact toAV_rel G ι v'
  unfold Value.okWide at hv
  split at ht
  · rename_i fs hu; rw [hu] at hv; exact main hv
  · rename_i n e hu; rw [hu] at hv; exact main hv
  · cases ht

theorem Leafs.int {t : TypeId} {k : IntKind} {ts : List TypeId} {as : List AV} (h : Leafs P (t :: ts) as) (ht : P.underlying t = some (.int k)) : ∃ n as', as = .int k n :: as' ∧ k.has n ∧ Leafs P ts as' := by
  cases as with
  | nil => exact h.elim
  | cons a as =>
    obtain ⟨h1, h2⟩ := h
    unfold leafOk at h1
    rw [ht] at h1
    cases a <;> first | exact h1.elim | (obtain ⟨rfl, h3⟩ := h1; exact ⟨_, _, rfl, h3, h2⟩) | skip
theorem Leafs.str {t : TypeId} {ts : List TypeId} {as : List AV} (h : Leafs P (t :: ts) as) (ht : P.underlying t = some .string) : ∃ s as', as = .str s :: as' ∧ (s.size : Int) ≤ IntKind.i64.max ∧ Leafs P ts as' := by
  cases as with
  | nil => exact h.elim
  | cons a as =>
    obtain ⟨h1, h2⟩ := h
    unfold leafOk at h1
    rw [ht] at h1
    cases a <;> first | exact h1.elim | exact ⟨_, _, rfl, h1, h2⟩ | skip
theorem Leafs.nil {as : List AV} (h : Leafs P [] as) : as = [] := by
  cases as with
  | nil => rfl
  | cons a as => exact h.elim
end
end Go.Ab
