/- Plain lemmas on the pure functions: the loops that read all records. No condition. -/
import Derived.Test.YtnalegahabfglaaDoorPuF
set_option linter.all false
set_option linter.unusedVariables false
set_option linter.unusedSimpArgs false
set_option linter.unusedSimpArgs false
open Go Go.Ab
namespace Go.Pu
abbrev Rec := List UInt8 × List UInt8
/-- The records at the beginning of a text: at most m, from the number k on. -/
def opens : Nat → List UInt8 → Nat → List Rec
  | 0, _, _ => []
  | m + 1, t, k => match recAt t k with
    | none => []
    | some e => e :: opens m (t.drop (lineE k e.1 e.2).length) (k + 1)
def linesE : Nat → List Rec → List UInt8
  | _, [] => []
  | k, e :: es => lineE k e.1 e.2 ++ linesE (k + 1) es
def endsE : Nat → Nat → List Rec → List Nat
  | _, _, [] => []
  | a, k, e :: es => (a + (lineE k e.1 e.2).length) :: endsE (a + (lineE k e.1 e.2).length) (k + 1) es
def flatE (es : List Rec) : List AV := es.flatMap fun e => [strA e.1, strA e.2]
def intA (n : Nat) : AV := .int .i64 (n : Int)
theorem lineE_len (k : Nat) (c r : List UInt8) : 4 ≤ (lineE k c r).length := by
  have h := dg_ne k
  have : 0 < (dg k).length := List.length_pos_iff.2 h
  have h2 := dg_ne (sumL 7 (bodyE k c r)).toNat
  have : 0 < (dg (sumL 7 (bodyE k c r)).toNat).length := List.length_pos_iff.2 h2
  simp [lineE, sealL, bodyE] at *; omega
theorem recAt_nil (k : Nat) : recAt [] k = none := by
  cases h : recAt [] k with
  | none => rfl
  | some e =>
    obtain ⟨c, r⟩ := e
    have h1 := (recAt_some h).2.length_le
    have := lineE_len k c r
    rw [List.length_nil] at h1; omega
theorem recAt_len {t : List UInt8} {k : Nat} {e : Rec} (h : recAt t k = some e) : (lineE k e.1 e.2).length ≤ t.length := (recAt_some (c := e.1) (r := e.2) h).2.length_le
theorem at_extract (s : ByteArray) (a : Nat) : s.extract a s.size = B ((L s).drop a) := L_inj (by
  rw [L_extract, L_B, List.take_of_length_le (by rw [L_len]; exact Nat.le_refl _)])
theorem flatE_len (es : List Rec) : (flatE es).length = es.length * 2 := by
  induction es with
  | nil => rfl
  | cons e es ih => simp [flatE] at *; omega
theorem recordsOf_loop (n0 : Nat) (s : ByteArray) (hs : s.size < 2 ^ 30) (hn0 : 2 ^ 40 ≤ n0) (K : Nat → Nat → List AV → List AV → Option (List AV × Nat × List AV × Nat)) :
    ∀ (m k a n : Nat) (out ends : List AV), m + k = 60 → a ≤ s.size → m < n → out.length = k * 2 → ends.length = k + 1 →
    impl_recordsOf.l2 n0 K n s k (k + 1) (a : Int) out ends =
      K (k + (opens m ((L s).drop a) k).length) (k + 1 + (opens m ((L s).drop a) k).length) (out ++ flatE (opens m ((L s).drop a) k)) (ends ++ (endsE a k (opens m ((L s).drop a) k)).map intA)
  | m, k, a, n + 1, out, ends, hm, ha, hn, ho, he => by
    have hlen : ((L s).drop a).length = s.size - a := by rw [List.length_drop, L_len]
    obtain ⟨c, r, code, h1, h2⟩ := next_eq n0 k ((L s).drop a) (by omega) hn0 (by omega)
    rw [← at_extract] at h1
    match m with
    | 0 =>
      have hk : ¬ k < 60 := by omega
      rw [dF hk, Bool.false_and] at h1
      simp (disch := omega) only [impl_recordsOf.l2, impl_recordsOf.l2S, dT, Bool.and_self, cond_true, Int.toNat_natCast, h1, bind_some', Bool.not_false, opens, List.length_nil, Nat.add_zero, flatE, List.flatMap_nil, List.append_nil, endsE, List.map_nil]
    | m + 1 =>
      have hk : k < 60 := by omega
      rw [dT hk, Bool.true_and] at h1
      unfold opens
      cases hr : recAt ((L s).drop a) k with
      | none =>
        rw [hr] at h1
        simp (disch := omega) only [impl_recordsOf.l2, impl_recordsOf.l2S, dT, Bool.and_self, cond_true, Int.toNat_natCast, h1, bind_some', Option.isSome_none, Bool.not_false, List.length_nil, Nat.add_zero, flatE, List.flatMap_nil, List.append_nil, endsE, List.map_nil]
      | some e =>
        obtain ⟨c', r'⟩ := e
        rw [hr] at h1
        obtain ⟨rfl, rfl, rfl⟩ := h2 c' r' hk hr
        have hle := recAt_len hr
        dsimp only at hle ⊢
        have hw : IntKind.wrap .i64 ((a : Int) + ((lineE k c' r').length : Int)) = ((a + (lineE k c' r').length : Nat) : Int) := by rw [w64 (by omega) (by omega)]; omega
        have ih := recordsOf_loop n0 s hs hn0 K m (k + 1) (a + (lineE k c' r').length) n (out ++ [strA c', strA r']) (ends ++ [intA (a + (lineE k c' r').length)]) (by omega) (by omega) (by omega) (by simp [ho]; omega) (by simp [he])
        rw [← List.drop_drop] at ih
        have e1 : AV.str (B c') = strA c' := rfl
        have e2 : AV.str (B r') = strA r' := rfl
        have e3 : AV.int .i64 ((a + (lineE k c' r').length : Nat) : Int) = intA (a + (lineE k c' r').length) := rfl
        have e4 : ∀ n, oneA (intA n) = true := fun _ => rfl
        have t1 : List.take (k * 2) out = out := List.take_of_length_le (by omega)
        have t2 : List.take ((k + 1) * 1) ends = ends := List.take_of_length_le (by omega)
        simp (disch := omega) only [impl_recordsOf.l2, impl_recordsOf.l2S, dT, Bool.and_self, cond_true, cond_false, Int.toNat_natCast, h1, bind_some', Option.isSome_some, Bool.not_true, List.length_cons, List.length_nil, List.all_cons, List.all_nil, hw, e1, e2, e3, e4, oneA_strA, B_size, decide_true, ho, he, t1, t2, Nat.zero_add]
        simp only [B_size, hw, e3, ih]
        generalize opens m (List.drop (lineE k c' r').length (List.drop a (L s))) (k + 1) = es
        simp only [flatE, List.flatMap_cons, endsE, List.map_cons, List.append_assoc, List.cons_append, List.nil_append]
        congr 1 <;> omega
theorem open_loop (n0 : Nat) (s : ByteArray) (hs : s.size < 2 ^ 30) (hn0 : 2 ^ 40 ≤ n0) (K : Nat → Int → List AV → Option (List AV × Nat × Int)) :
    ∀ (m k a n : Nat) (out : List AV), m + k = 60 → a ≤ s.size → m < n → out.length = k * 2 →
    spec_l12Open.l3 n0 K n s k (a : Int) out =
      K (k + (opens m ((L s).drop a) k).length) ((a + (linesE k (opens m ((L s).drop a) k)).length : Nat) : Int) (out ++ flatE (opens m ((L s).drop a) k))
  | m, k, a, n + 1, out, hm, ha, hn, ho => by
    have hlen : ((L s).drop a).length = s.size - a := by rw [List.length_drop, L_len]
    have fin : ∀ es : List Rec, es = [] → K k (a : Int) out = K (k + es.length) ((a + (linesE k es).length : Nat) : Int) (out ++ flatE es) := fun es h => by subst h; simp [linesE, flatE]
    by_cases hlt : a < s.size
    · match m with
      | 0 =>
        simp (disch := omega) only [spec_l12Open.l3, spec_l12Open.l3S, dT, dF, cond_true, cond_false]
        exact fin _ rfl
      | m + 1 =>
        obtain ⟨tt, mm, g1, g2, g3, g4, _⟩ := split_at n0 ((L s).drop a) 10 (by omega) hn0
        have h10 : ((10 : Nat) : Int) = 10 := rfl
        rw [h10, ← at_extract] at g1
        have hl := (cutL_len 10 ((L s).drop a)).1
        have d1 := decode_eq n0 k (cutL 10 ((L s).drop a)).1 (by omega) hn0 (by omega)
        obtain ⟨d2, d3⟩ := decode_recAt ((L s).drop a) k
        have g5 : decide (((mm + 1 : Nat) : Int) < 2) = !(cutL 10 ((L s).drop a)).2.2 := by
          rw [← g2, decide_eq_decide]; omega
        cases hr : recAt ((L s).drop a) k with
        | none =>
          have hes : opens (m + 1) ((L s).drop a) k = [] := by unfold opens; rw [hr]
          rw [hr] at d2
          rw [← fin _ hes]
          cases hc : (cutL 10 ((L s).drop a)).2.2
          · simp (disch := omega) only [spec_l12Open.l3, spec_l12Open.l3S, dT, cond_true, Bool.and_self, Int.toNat_natCast, g1, bind_some', List.getD_cons_zero, gStr_strA, d1, g5, hc, Bool.not_false]
          · rw [hc, Bool.true_and] at d2
            simp (disch := omega) only [spec_l12Open.l3, spec_l12Open.l3S, dT, cond_true, cond_false, Bool.and_self, Int.toNat_natCast, g1, bind_some', List.getD_cons_zero, gStr_strA, d1, g5, hc, Bool.not_true, d2, Option.isSome_none, Bool.not_false]
        | some e =>
          obtain ⟨c', r'⟩ := e
          rw [hr] at d2
          obtain ⟨d4, d5, d6⟩ := d3 c' r' hr
          have d2' : (cutL 10 ((L s).drop a)).2.2 = true ∧ (decodeL (cutL 10 ((L s).drop a)).1 k).2.2 = true := by simpa using d2
          have hle := recAt_len hr
          have hes : opens (m + 1) ((L s).drop a) k = (c', r') :: opens m (((L s).drop a).drop (lineE k c' r').length) (k + 1) := by conv => lhs; unfold opens; rw [hr]
          rw [hes]
          dsimp only at hle ⊢
          have hw1 : IntKind.wrap .i64 ((a : Int) + ((cutL 10 ((L s).drop a)).1.length : Int)) = ((a + (cutL 10 ((L s).drop a)).1.length : Nat) : Int) := by rw [w64 (by omega) (by omega)]; omega
          have hw2 : IntKind.wrap .i64 (((a + (cutL 10 ((L s).drop a)).1.length : Nat) : Int) + 1) = ((a + (lineE k c' r').length : Nat) : Int) := by rw [w64 (by omega) (by omega)]; omega
          have ih := open_loop n0 s hs hn0 K m (k + 1) (a + (lineE k c' r').length) n (out ++ [strA c', strA r']) (by omega) (by omega) (by omega) (by simp [ho]; omega)
          rw [← List.drop_drop] at ih
          have e1 : AV.str (B c') = strA c' := rfl
          have e2 : AV.str (B r') = strA r' := rfl
          have t1 : List.take (k * 2) out = out := List.take_of_length_le (by omega)
          simp (disch := omega) only [spec_l12Open.l3, spec_l12Open.l3S, dT, cond_true, cond_false, Bool.and_self, Int.toNat_natCast, g1, bind_some', List.getD_cons_zero, gStr_strA, d1, g5, d2'.1, d2'.2, Bool.not_true, d4, d5, e1, e2, List.length_cons, List.length_nil, List.all_cons, List.all_nil, oneA_strA, decide_true, ho, t1, B_size, hw1, hw2, Nat.zero_add, ih]
          generalize opens m (List.drop (lineE k c' r').length (List.drop a (L s))) (k + 1) = es
          simp only [flatE, List.flatMap_cons, linesE, List.append_assoc, List.cons_append, List.nil_append, List.length_append]
          congr 1 <;> omega
    · have hnil : (L s).drop a = [] := List.drop_eq_nil_of_le (by rw [L_len]; omega)
      simp (disch := omega) only [spec_l12Open.l3, spec_l12Open.l3S, dF, cond_false]
      refine fin _ ?_
      rw [hnil]
      cases m with
      | zero => rfl
      | succ m => unfold opens; rw [recAt_nil]
end Go.Pu
