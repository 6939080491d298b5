/- Plain lemmas on the pure functions: all records at the beginning of a text. No condition. -/
import Derived.Test.YtnalegahabfglaaDoorPuE
set_option linter.all false
set_option linter.unusedVariables false
set_option linter.unusedSimpArgs false
set_option linter.unusedSimpArgs false
open Go Go.Ab
namespace Go.Pu
theorem cut_B (n0 : Nat) (l : List UInt8) (c : UInt8) (hs : l.length < 2 ^ 31) : strings_Cut.f n0 (B l) ⟨#[c]⟩ = some (B (cutL c.toNat l).1, B (cutL c.toNat l).2.1, (cutL c.toNat l).2.2) := by
  have := cut_eq n0 (B l) c (by rw [B_size]; omega)
  rw [this]; rfl
theorem hasPrefix_eq (n0 : Nat) (t p : List UInt8) : strings_HasPrefix.f n0 (B t) (B p) = some (p.isPrefixOf t) := by
  by_cases h : p.length ≤ t.length
  · simp (disch := omega) only [strings_HasPrefix.f, internal_stringslite_HasPrefix.f, B_size, dT, cond_true, Bool.and_self, B_extract, B_toList, Int.toNat_natCast, List.drop_zero, bind_some']
    congr 1
    rw [Bool.eq_iff_iff, beq_iff_eq, List.isPrefixOf_iff_prefix]
    rw [List.prefix_iff_eq_take]; exact eq_comm
  · simp (disch := omega) only [strings_HasPrefix.f, internal_stringslite_HasPrefix.f, B_size, dF, cond_false, bind_some']
    congr 1
    symm
    rw [Bool.eq_false_iff]
    intro hp
    have := (List.isPrefixOf_iff_prefix.1 hp).length_le
    omega
theorem cutL_first_no (b : Nat) : ∀ (x : List UInt8), hasB (cutL b x).1 b = false
  | [] => rfl
  | d :: x => by
    unfold cutL
    by_cases hd : d.toNat = b
    · simp [hd, hasB_nil]
    · simp only [hd, if_false, hasB_cons, cutL_first_no b x]
      simpa using hd
def verL (l : List UInt8) : Bool := decide ((cutL 35 l).1.length ≤ 4000) && decide ((sealL (cutL 35 l).1).length ≤ 4000) && (sealL (cutL 35 l).1 == l)
theorem verify_eq (n0 : Nat) (l : List UInt8) (hs : l.length < 2 ^ 30) (hn : 2 ^ 40 ≤ n0) :
    impl_VerifyChecksum.f n0 (B l) = some (if verL l then (B (cutL 35 l).1, true) else (B [], false)) := by
  have e1 := cut_B n0 l 35 (by omega)
  have h35 : (35 : UInt8).toNat = 35 := rfl
  rw [h35] at e1
  have hl := (cutL_len 35 l).1
  have e2 := append_eq n0 (cutL 35 l).1 (by omega) hn
  rw [cutL_first_no] at e2
  unfold verL
  generalize (cutL 35 l).1 = t at *
  cases c : decide (t.length ≤ 4000) && !false && decide ((sealL t).length ≤ 4000)
  · rw [c] at e2
    simp only [Bool.not_false, Bool.and_true] at c
    simp only [impl_VerifyChecksum.f, e1, bind_some', e2, Bool.false_eq_true, if_false, cond_false, c, Bool.false_and]
  · rw [c] at e2
    simp only [Bool.not_false, Bool.and_true] at c
    simp only [impl_VerifyChecksum.f, e1, bind_some', e2, if_true, cond_true, c, Bool.true_and, B_toList]
    cases sealL t == l <;> rfl
theorem next_eq (n0 k : Nat) (t : List UInt8) (hs : t.length < 2 ^ 30) (hn : 2 ^ 40 ≤ n0) (hk : k ≤ 1000) :
    ∃ c r code, impl_nextRecord.f n0 (B t) (k : Int) = some (c, r, code, decide (k < 60) && (recAt t k).isSome) ∧
      ∀ c' r', k < 60 → recAt t k = some (c', r') → c = B c' ∧ r = B r' ∧ code = B (lineE k c' r') := by
  have e1 := cut_B n0 t 10 (by omega)
  have h10 : (10 : UInt8).toNat = 10 := rfl
  have h32 : (32 : UInt8).toNat = 32 := rfl
  have h64 : (64 : UInt8).toNat = 64 := rfl
  rw [h10] at e1
  have hl := (cutL_len 10 t).1
  have e2 := verify_eq n0 (cutL 10 t).1 (by omega) hn
  -- what recAt says of the line
  have fwd : ∀ c r, recAt t k = some (c, r) → k < 60 → (cutL 10 t).2.2 = true ∧ verL (cutL 10 t).1 = true := fun c r h hk => by
    obtain ⟨hv, y, hy⟩ := recAt_some h
    obtain ⟨p1, p2, p3, p4⟩ := parse_line k hv y
    rw [← hy, p1]
    refine ⟨rfl, ?_⟩
    have h1 := body_len hv (k := k) (by omega)
    have h2 := sealL_len (bodyE k c r)
    unfold verL
    dsimp only
    rw [p2]
    simp (disch := omega) only [dT, beq_self_eq_true, Bool.and_self]
  have hno : ¬ ((cutL 10 t).2.2 = true ∧ verL (cutL 10 t).1 = true) → (decide (k < 60) && (recAt t k).isSome) = false := fun h => by
    by_cases hk : k < 60
    · cases hr : recAt t k with
      | none => simp
      | some e => obtain ⟨c, r⟩ := e; exact absurd (fwd c r hr hk) h
    · simp [hk]
  cases he : (cutL 10 t).2.2
  · rw [he] at e1 hno
    have hno := hno (by simp)
    refine ⟨B [], B [], B [], ?_, fun c' r' hk hr => by rw [hr] at hno; simp [hk] at hno⟩
    cases hv : verL (cutL 10 t).1 <;> rw [hv] at e2 <;> simp only [impl_nextRecord.f, e1, e2, bind_some', Bool.not_false, cond_true, hno]
  · rw [he] at e1 hno
    cases hv : verL (cutL 10 t).1
    · rw [hv] at e2 hno
      have hno := hno (by simp)
      refine ⟨B [], B [], B [], ?_, fun c' r' hk hr => by rw [hr] at hno; simp [hk] at hno⟩
      simp only [impl_nextRecord.f, e1, e2, bind_some', Bool.not_false, Bool.not_true, cond_true, cond_false, hno, Bool.false_eq_true, if_false]
    · rw [hv] at e2
      have hl2 := (cutL_len 35 (cutL 10 t).1).1
      have e3 := cut_B n0 (cutL 35 (cutL 10 t).1).1 32 (by omega)
      rw [h32] at e3
      have hl3 := (cutL_len 32 (cutL 35 (cutL 10 t).1).1).2
      have e4 := cut_B n0 (cutL 32 (cutL 35 (cutL 10 t).1).1).2.1 64 (by omega)
      rw [h64] at e4
      have hl4 := cutL_len 64 (cutL 32 (cutL 35 (cutL 10 t).1).1).2.1
      have hrec : recAt t k = (if validE (cutL 64 (cutL 32 (cutL 35 (cutL 10 t).1).1).2.1).1 (cutL 64 (cutL 32 (cutL 35 (cutL 10 t).1).1).2.1).2.1 && (lineE k (cutL 64 (cutL 32 (cutL 35 (cutL 10 t).1).1).2.1).1 (cutL 64 (cutL 32 (cutL 35 (cutL 10 t).1).1).2.1).2.1).isPrefixOf t then some ((cutL 64 (cutL 32 (cutL 35 (cutL 10 t).1).1).2.1).1, (cutL 64 (cutL 32 (cutL 35 (cutL 10 t).1).1).2.1).2.1) else none) := rfl
      generalize hc0 : (cutL 64 (cutL 32 (cutL 35 (cutL 10 t).1).1).2.1).1 = c0 at *
      generalize hr0 : (cutL 64 (cutL 32 (cutL 35 (cutL 10 t).1).1).2.1).2.1 = r0 at *
      have e5 := encode_impl n0 k c0 r0 (by omega) (by omega) hn hk
      have e6 := hasPrefix_eq n0 t (lineE k c0 r0)
      by_cases a : k < 60
      · cases v : validE c0 r0
        · rw [v] at hrec e5
          refine ⟨B c0, B r0, B [], ?_, fun c' r' hk hr => by rw [hr] at hrec; simp at hrec⟩
          simp only [impl_nextRecord.f, e1, e2, e3, e4, e5, bind_some', Bool.not_true, cond_false, cond_true, if_true, Bool.and_false, Bool.false_eq_true, if_false, hrec, Bool.false_and, Option.isSome_none]
        · rw [v] at hrec e5
          refine ⟨B c0, B r0, B (lineE k c0 r0), ?_, fun c' r' hk hr => ?_⟩
          · simp (disch := omega) only [impl_nextRecord.f, e1, e2, e3, e4, e5, e6, bind_some', Bool.not_true, cond_false, cond_true, if_true, dT, Bool.and_self, Bool.true_and, hrec]
            cases (lineE k c0 r0).isPrefixOf t <;> rfl
          · rw [hr] at hrec
            cases hp : (lineE k c0 r0).isPrefixOf t
            · rw [hp] at hrec; simp at hrec
            · rw [hp] at hrec; simp at hrec; rw [hrec.1, hrec.2]; exact ⟨rfl, rfl, rfl⟩
      · refine ⟨B c0, B r0, B [], ?_, fun c' r' hk hr => absurd hk a⟩
        simp (disch := omega) only [impl_nextRecord.f, e1, e2, e3, e4, e5, bind_some', Bool.not_true, cond_false, cond_true, if_true, dF, Bool.false_and, Bool.false_eq_true, if_false]
end Go.Pu
