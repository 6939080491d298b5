/- The abstract machine: regions whose order is open and that write memory in one order: worlds by how far the writes have come. No condition. -/
import Derived.Test.YtnalegahabfglaaDoorAbRun2
set_option linter.all false
set_option linter.unusedVariables false
set_option linter.unusedSimpArgs false
namespace Go.Ab
open Go
section
variable {P : Program} {ops : Array Oper} {md : Region.Mode} (C : Array Bool → World → Prop)

/-- What is asked of one step: its value, and a world that the next class holds. -/
def stepUpon (P : Program) (D : World → Prop) (v : Value) : Result Next → Prop
  | .ok (.value u) w' => D w' ∧ u = v
  | .ok .skip w' => D w' ∧ v = undef
  | .ok (.enter f args) w' => Calls P f args w' fun e w'' => e = .returned v ∧ D w''
  | _ => False

def Ylds (P : Program) (ops : Array Oper) (md : Region.Mode) (i : Nat) (o : Oper) (v : Value) (a : Act) : Prop :=
  (Region.wanted o (yielded ops a.tmps) = true ∧ ∀ listed w, i ∈ Region.ready md ops listed → C listed w → stepUpon P (C (listed.setIfInBounds i true)) v ((execOp a.eval o).run P w)) ∨
  (Region.wanted o (yielded ops a.tmps) = false ∧ v = undef ∧ ∀ listed w, i ∈ Region.ready md ops listed → C listed w → C (listed.setIfInBounds i true) w)

def xOp (P : Program) (ops : Array Oper) (md : Region.Mode) (i : Nat) (K : Act → Prop) (a : Act) : Prop :=
  ∃ o v, ops[i]? = some o ∧ Ylds C P ops md i o v a ∧ K (a.put o.dst v)

def wpAnyX (P : Program) (md : Region.Mode) (ops : Array Oper) (Q : Array Bool → Act → Prop) : Nat → Array Bool → Act → Prop
  | 0, listed, a => Region.ready md ops listed = [] ∧ Q listed a
  | fuel + 1, listed, a =>
    (Region.ready md ops listed = [] → Q listed a) ∧
    ∀ i ∈ Region.ready md ops listed, xOp C P ops md i (wpAnyX P md ops Q fuel (listed.setIfInBounds i true)) a

variable {C}
theorem wpOp_of_x {i : Nat} {a : Act} {K : Act → Prop} {K' : Act → World → Prop} {Q' : Exit → Act → World → Prop} {listed : Array Bool} {w : World} (hi : i ∈ Region.ready md ops listed) (hC : C listed w)
    (h : ∀ a w', C (listed.setIfInBounds i true) w' → K a → K' a w') (hh : xOp C P ops md i K a) : wpOp P ops Q' i K' a w := by
  obtain ⟨o, v, ho, hy, hk⟩ := hh
  unfold wpOp
  simp only [ho]
  rcases hy with ⟨hw, hs⟩ | ⟨hw, rfl, hs⟩
  · simp only [hw, if_true]
    left
    have h3 := hs listed w hi hC
    unfold Oper.wp
    generalize (execOp a.eval o).run P w = r at *
    cases r with
    | ok n w' =>
      cases n <;> simp only [stepUpon] at h3 <;> simp only [Oper.upon]
      case value u => obtain ⟨e1, rfl⟩ := h3; exact h _ _ e1 hk
      case skip => obtain ⟨e1, rfl⟩ := h3; exact h _ _ e1 hk
      case enter f args => exact h3.mono fun e w'' ⟨he, hw''⟩ => by subst he; exact h _ _ hw'' hk
    | halt x w' => simp only [stepUpon] at h3
  · simp only [hw, Bool.false_eq_true, if_false]
    exact h _ _ (hs listed w hi hC) hk

theorem wpAny_of_x {Q : Array Bool → Act → Prop} {Q' : Exit → Act → World → Prop} (hQ : ∀ listed a w, C listed w → Q listed a → Q' .normal a w) : ∀ (fuel : Nat) (listed : Array Bool) (a : Act) (w : World), C listed w →
    wpAnyX C P md ops Q fuel listed a → wpAny P md ops Q' fuel listed a w
  | 0, _, _, _, hw, h => ⟨h.1, hQ _ _ _ hw h.2⟩
  | fuel + 1, _, _, _, hw, h => ⟨fun h0 => hQ _ _ _ hw (h.1 h0), fun i hi => wpOp_of_x hi hw (fun a' w' hw' => wpAny_of_x hQ fuel _ a' w' hw') (h.2 i hi)⟩

theorem Ylds.of_same {i : Nat} {o : Oper} {v : Value} {a a' : Act} (hy : Ylds C P ops md i o v a) (he : execOp a'.eval o = execOp a.eval o)
    (hw : Region.wanted o (yielded ops a'.tmps) = Region.wanted o (yielded ops a.tmps)) : Ylds C P ops md i o v a' := by
  unfold Ylds at *
  rw [he, hw]
  exact hy

theorem xOp_mono {i : Nat} {a : Act} {K K' : Act → Prop} (h : ∀ a, K a → K' a) (hh : xOp C P ops md i K a) : xOp C P ops md i K' a := by
  obtain ⟨o, v, h1, h2, h3⟩ := hh; exact ⟨o, v, h1, h2, h _ h3⟩

theorem xOp_put {i j : Nat} {oi oj : Oper} {v : Value} (hj : ops[j]? = some oj) (hap : oi.apart ops oj = true)
    (hsi : ∀ cs b, oi.op ≠ .select cs b) (hsj : ∀ cs b, oj.op ≠ .select cs b) {K : Act → Prop} {a : Act}
    (hy : Ylds C P ops md i oi v a) (h : xOp C P ops md j K (a.put oi.dst v)) :
    xOp C P ops md j (fun a' => Ylds C P ops md i oi v a' ∧ K (a'.put oi.dst v)) a := by
  obtain ⟨h1, h2, h3⟩ := Oper.apart_spec hap
  obtain ⟨o, u, ho, hu, hk⟩ := h
  obtain rfl : o = oj := Option.some.inj (ho.symm.trans hj)
  refine ⟨_, u, hj, ?_, ?_, ?_⟩
  · exact hu.of_same (execOp_put _ hsj a oi.dst v h1).symm (wanted_put _ a oi.dst v h1).symm
  · exact hy.of_same (execOp_put oi hsi a _ u h3) (wanted_put oi a _ u h3)
  · rw [← Act.put_comm a v u h2]; exact hk

theorem wpAnyX_first {Q : Array Bool → Act → Prop} {i : Nat} {oi : Oper} {v : Value} (hi : ops[i]? = some oi) (hsel : ∀ (j : Nat) (o : Oper) cs b, ops[j]? = some o → o.op ≠ .select cs b) :
    ∀ (fuel : Nat) (listed : Array Bool) (a : Act),
      (∀ j oj, ops[j]? = some oj → j ≠ i → listed.getD j true = false → (∀ e ∈ oj.after, Region.binds md e = true → e.on ≠ i) → oi.apart ops oj = true) →
      i ∈ Region.ready md ops listed → Ylds C P ops md i oi v a →
      wpAnyX C P md ops Q fuel (listed.setIfInBounds i true) (a.put oi.dst v) → wpAnyX C P md ops Q (fuel + 1) listed a := by
  intro fuel
  induction fuel with
  | zero =>
    intro listed a _ hr hy H
    refine ⟨fun h => (by rw [h] at hr; cases hr), fun j hj => ?_⟩
    by_cases hji : j = i
    · subst hji; exact ⟨oi, v, hi, hy, H⟩
    · have := ready_mono hj hji
      rw [H.1] at this
      cases this
  | succ fuel ih =>
    intro listed a hfree hr hy H
    refine ⟨fun h => (by rw [h] at hr; cases hr), fun j hj => ?_⟩
    by_cases hji : j = i
    · subst hji; exact ⟨oi, v, hi, hy, H⟩
    · have h1 := H.2 j (ready_mono hj hji)
      obtain ⟨hjun, oj, hoj, hall⟩ := mem_ready.1 hj
      have hnot : ∀ e ∈ oj.after, Region.binds md e = true → e.on ≠ i := fun e he hb heq => by
        have h1 := hall e he hb
        have h0 := (mem_ready.1 hr).1
        rw [heq] at h1
        rcases Nat.lt_or_ge i listed.size with h' | h'
        · simp [h'] at h0 h1; rw [h0] at h1; cases h1
        · simp [Array.getElem?_eq_none h'] at h1
      have h2 := xOp_put hoj (hfree j oj hoj hji hjun hnot) (fun cs b => hsel i oi cs b hi) (fun cs b => hsel j oj cs b hoj) hy h1
      have hfree' : ∀ k ok, ops[k]? = some ok → k ≠ i → (listed.setIfInBounds j true).getD k true = false →
          (∀ e ∈ ok.after, Region.binds md e = true → e.on ≠ i) → oi.apart ops ok = true := fun k ok hk hki hun hno => by
        refine hfree k ok hk hki ?_ hno
        by_cases hjk : j = k
        · subst hjk; exact hjun
        · rw [getD_set_ne true hjk] at hun; exact hun
      refine xOp_mono (fun a' h3 => ih (listed.setIfInBounds j true) a' hfree' (ready_mono hr (Ne.symm hji)) h3.1 ?_) h2
      rw [Array.setIfInBounds_comm _ _ hji]
      exact h3.2

/-- The order of the text. -/
def wpLexX (C : Array Bool → World → Prop) (P : Program) (ops : Array Oper) (md : Region.Mode) (Q : Array Bool → Act → Prop) : List Oper → Nat → Array Bool → Act → Prop
  | [], _, listed, a => Q listed a
  | o :: l, k, listed, a => ∃ v, Ylds C P ops md k o v a ∧ wpLexX C P ops md Q l (k + 1) (listed.setIfInBounds k true) (a.put o.dst v)

theorem wpAnyX_lex {Q : Array Bool → Act → Prop} (hs : Region.noSelect ops = true) : ∀ (l : List Oper) (k : Nat) (listed : Array Bool) (a : Act), (∀ j, l[j]? = ops[k + j]?) →
    Region.lexFrom md ops l.length k listed = true → wpLexX C P ops md Q l k listed a → wpAnyX C P md ops Q l.length listed a
  | [], _, _, _, _, hB, h => ⟨by simpa [Region.lexFrom] using hB, h⟩
  | o :: l, k, listed, a, hl, hB, h => by
    have h0 : ops[k]? = some o := by simpa using (hl 0).symm
    simp only [List.length_cons, Region.lexFrom, Bool.and_eq_true] at hB
    obtain ⟨⟨hr, hf⟩, hB'⟩ := hB
    obtain ⟨v, hy, hK⟩ := h
    exact wpAnyX_first h0 (Region.noSelect_spec hs) l.length listed a (Region.free_spec h0 hf) (by simpa using hr) hy
      (wpAnyX_lex hs l (k + 1) _ _ (fun j => by have := hl (j + 1); simpa [Nat.add_assoc, Nat.add_comm 1 j] using this) hB' hK)

theorem wp_region_x {id : Nat} {Q' : Exit → Act → World → Prop} {a : Act} {w : World} {Q : Array Bool → Act → Prop} (hm : P.follows .mixedOrders = true) (hB : Region.lexB .any ops = true)
    (hC : C (Array.replicate ops.size false) { w with drawn := w.drawn + 1 }) (hQ : ∀ listed a w, C listed w → Q listed a → Q' .normal a w)
    (h : wpLexX C P ops .any Q ops.toList 0 (Array.replicate ops.size false) a) : (Code.region id ops true).wp P Q' a w := by
  simp only [Region.lexB, Bool.and_eq_true] at hB
  refine wp_region_any hm (wpAny_of_x hQ _ _ _ _ hC ?_)
  have := wpAnyX_lex (C := C) (md := .any) hB.1 ops.toList 0 (Array.replicate ops.size false) a (by simp) (by simpa using hB.2) h
  simpa using this
end
end Go.Ab
