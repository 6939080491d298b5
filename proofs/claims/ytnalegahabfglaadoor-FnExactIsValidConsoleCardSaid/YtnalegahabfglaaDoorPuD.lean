/- Plain lemmas on the pure functions: one record at the beginning of a text. No condition. -/
import Derived.Test.YtnalegahabfglaaDoorPuC
set_option linter.all false
set_option linter.unusedVariables false
set_option linter.unusedSimpArgs false
set_option linter.unusedSimpArgs false
open Go Go.Ab
namespace Go.Pu
theorem hasB_append (x y : List UInt8) (b : Nat) : hasB (x ++ y) b = (hasB x b || hasB y b) := by simp [hasB]
theorem hasB_cons (c : UInt8) (y : List UInt8) (b : Nat) : hasB (c :: y) b = (c.toNat == b || hasB y b) := by simp [hasB]
theorem hasB_nil (b : Nat) : hasB [] b = false := rfl
theorem hasB_dg (n b : Nat) (h : b < 48 ∨ 57 < b) : hasB (dg n) b = false := by
  rw [hasB, List.any_eq_false]
  intro c hc
  have := dg_mem n c hc
  simp; omega
theorem hasB_ok {l : List UInt8} (h : l.all okB = true) (b : Nat) (hb : b < 32 ∨ 126 < b ∨ b = 35) : hasB l b = false := by
  rw [hasB, List.any_eq_false]
  intro c hc
  have := List.all_eq_true.1 h c hc
  simp [okB] at this
  simp; omega
theorem cutL_append {b : Nat} {c : UInt8} (hc : c.toNat = b) : ∀ (x y : List UInt8), hasB x b = false → cutL b (x ++ c :: y) = (x, y, true)
  | [], y, _ => by simp [cutL, hc]
  | d :: x, y, h => by
    rw [hasB_cons, Bool.or_eq_false_iff] at h
    have hd : ¬ d.toNat = b := by simpa using h.1
    simp only [List.cons_append, cutL, hd, if_false, cutL_append hc x y h.2]
theorem cutL_none {b : Nat} : ∀ (x : List UInt8), hasB x b = false → cutL b x = (x, [], false)
  | [], _ => rfl
  | d :: x, h => by
    rw [hasB_cons, Bool.or_eq_false_iff] at h
    have hd : ¬ d.toNat = b := by simpa using h.1
    simp only [cutL, hd, if_false, cutL_none x h.2]
theorem cutL_yes {b : Nat} : ∀ (x : List UInt8), (cutL b x).2.2 = true → ∃ c : UInt8, c.toNat = b ∧ x = (cutL b x).1 ++ c :: (cutL b x).2.1
  | [], h => by simp [cutL] at h
  | d :: x, h => by
    unfold cutL at h ⊢
    by_cases hd : d.toNat = b
    · simp only [hd, if_true]; exact ⟨d, hd, rfl⟩
    · simp only [hd, if_false] at h ⊢
      obtain ⟨c, h1, h2⟩ := cutL_yes x h
      exact ⟨c, h1, by rw [List.cons_append, ← h2]⟩
theorem cutL_no {b : Nat} : ∀ (x : List UInt8), (cutL b x).2.2 = false → cutL b x = (x, [], false)
  | [], _ => rfl
  | d :: x, h => by
    unfold cutL at h ⊢
    by_cases hd : d.toNat = b
    · simp [hd] at h
    · simp only [hd, if_false] at h ⊢
      rw [cutL_no x h]
theorem cutL_len (b : Nat) : ∀ (x : List UInt8), (cutL b x).1.length ≤ x.length ∧ (cutL b x).2.1.length ≤ x.length
  | [] => by simp [cutL]
  | d :: x => by
    have := cutL_len b x
    unfold cutL
    by_cases hd : d.toNat = b
    · simp [hd]
    · simp only [hd, if_false, List.length_cons]; omega
theorem u8_of {c : UInt8} {n : Nat} (h : c.toNat = n) (hn : n < 256) : c = UInt8.ofNat n := by
  apply UInt8.toNat_inj.1
  rw [h, UInt8.toNat_ofNat_of_lt' (by simpa [UInt8.size] using hn)]
theorem splitA_head (b : Nat) : ∀ (l cur : List UInt8), ∃ t, splitA b cur l = (cur ++ (cutL b l).1) :: t ∧ ((cutL b l).2.2 = false → t = []) ∧ ((cutL b l).2.2 = true → t ≠ [])
  | [], cur => ⟨[], by simp [splitA, cutL], fun _ => rfl, fun h => by simp [cutL] at h⟩
  | c :: l, cur => by
    unfold splitA cutL
    by_cases h : c.toNat = b
    · simp only [h, if_true]
      refine ⟨splitA b [] l, by simp, fun h => by simp at h, fun _ => ?_⟩
      obtain ⟨t, ht, _⟩ := splitA_head b l []
      rw [ht]; simp
    · simp only [h, if_false]
      obtain ⟨t, ht, h1, h2⟩ := splitA_head b l (cur ++ [c])
      exact ⟨t, by rw [ht]; simp, h1, h2⟩
/-! records -/
def validE (c r : List UInt8) : Bool := decide (1 ≤ c.length) && (decide (c.length ≤ 160) && (c.all okB && (!hasB c 64 && (r.all okB && decide (r.length ≤ 250)))))
def bodyE (k : Nat) (c r : List UInt8) : List UInt8 := dg k ++ [32] ++ c ++ [64] ++ r
def lineE (k : Nat) (c r : List UInt8) : List UInt8 := sealL (bodyE k c r) ++ [10]
structure ValidE (c r : List UInt8) : Prop where
  h1 : 1 ≤ c.length
  h2 : c.length ≤ 160
  h3 : c.all okB = true
  h4 : hasB c 64 = false
  h5 : r.all okB = true
  h6 : r.length ≤ 250
theorem validE_iff {c r : List UInt8} : validE c r = true ↔ ValidE c r := by
  unfold validE
  simp only [Bool.and_eq_true, decide_eq_true_eq, Bool.not_eq_true']
  exact ⟨fun ⟨a, b, c, d, e, f⟩ => ⟨a, b, c, d, e, f⟩, fun ⟨a, b, c, d, e, f⟩ => ⟨a, b, c, d, e, f⟩⟩
theorem nil_list (c : List UInt8) : (!(c == [])) = decide (1 ≤ c.length) := by cases c <;> simp
theorem record_spec (n0 : Nat) (c r : List UInt8) (hc : c.length < 2 ^ 31) (hr : r.length < 2 ^ 31) (hn : 2 ^ 40 ≤ n0) : spec_l12Record.f n0 (B c) (B r) = some (validE c r) := by
  have e1 := l12Bytes_eq n0 (B c) 160 (by rw [B_size]; omega) (by rw [B_size]; omega)
  have e2 := stands_eq n0 (B c) 64 (by rw [B_size]; omega) (by rw [B_size]; omega)
  have e3 := l12Bytes_eq n0 (B r) 250 (by rw [B_size]; omega) (by rw [B_size]; omega)
  have e4 : ((64 : Nat) : Int) = 64 := rfl
  rw [L_B, B_size] at e1 e3
  rw [L_B, e4] at e2
  have e5 : ((c.length : Int) ≤ 160) = (c.length ≤ 160) := by simp; omega
  have e6 : ((r.length : Int) ≤ 250) = (r.length ≤ 250) := by simp; omega
  simp only [spec_l12Record.f, e1, e2, e3, bind_some', B_toList, nil_list, e5, e6, validE]
  cases decide (1 ≤ c.length) <;> cases decide (c.length ≤ 160) <;> cases c.all okB <;> cases hasB c 64 <;> rfl
theorem record_impl (n0 : Nat) (c r : List UInt8) (hc : c.length < 2 ^ 31) (hr : r.length < 2 ^ 31) (hn : 2 ^ 40 ≤ n0) : impl_IsValidRecord.f n0 (B c) (B r) = some (validE c r) := by
  have e1 := isPlain_eq n0 (B c) (by rw [B_size]; omega) (by rw [B_size]; omega)
  have e2 := contains_eq n0 (B c) 64 (by rw [B_size]; omega)
  have e3 := isPlain_eq n0 (B r) (by rw [B_size]; omega) (by rw [B_size]; omega)
  have e4 : (64 : UInt8).toNat = 64 := rfl
  rw [L_B] at e1 e3
  rw [L_B, e4] at e2
  have e5 : ((c.length : Int) ≤ 160) = (c.length ≤ 160) := by simp; omega
  have e6 : ((r.length : Int) ≤ 250) = (r.length ≤ 250) := by simp; omega
  have e7 : ((c.length : Int) ≥ 1) = (1 ≤ c.length) := by simp; omega
  simp only [impl_IsValidRecord.f, impl_isCommand.f, e1, e2, e3, bind_some', B_size, e5, e6, e7, validE]
  cases decide (1 ≤ c.length) <;> cases decide (c.length ≤ 160) <;> cases c.all okB <;> cases hasB c 64 <;> simp only [cond_true, cond_false, bind_some', Bool.not_true, Bool.not_false, Bool.and_true, Bool.true_and, Bool.false_and, Bool.and_false]
  cases decide (r.length ≤ 250) <;> cases r.all okB <;> rfl
theorem body_len {k : Nat} {c r : List UInt8} (hv : ValidE c r) (hk : k < 100) : (bodyE k c r).length ≤ 420 := by
  have := dg_len 1 k (by omega)
  have := hv.h2; have := hv.h6
  simp [bodyE]; omega
theorem body_no {k : Nat} {c r : List UInt8} (hv : ValidE c r) (b : Nat) (hb : b < 32 ∨ 126 < b ∨ b = 35) : hasB (bodyE k c r) b = false := by
  have h1 := hasB_dg k b (by omega)
  have h2 := hasB_ok hv.h3 b hb
  have h3 := hasB_ok hv.h5 b hb
  simp only [bodyE, hasB_append, h1, h2, h3, hasB_cons, hasB_nil]
  have e1 : (32 : UInt8).toNat = 32 := rfl
  have e2 : (64 : UInt8).toNat = 64 := rfl
  rw [e1, e2]
  simp; omega
theorem encode_impl (n0 k : Nat) (c r : List UInt8) (hc : c.length < 2 ^ 31) (hr : r.length < 2 ^ 31) (hn : 2 ^ 40 ≤ n0) (hk : k ≤ 1000) :
    impl_EncodeRecord.f n0 (k : Int) (B c) (B r) = some (if decide (k < 60) && validE c r then (B (lineE k c r), true) else (B [], false)) := by
  have e0 := record_impl n0 c r hc hr hn
  have e1 := itoa_eq n0 k (by omega)
  by_cases a : k < 60
  · cases v : validE c r
    · rw [v] at e0
      simp (disch := omega) only [impl_EncodeRecord.f, e0, bind_some', dT, dF, cond_true, cond_false, Bool.not_false, Bool.and_false, Bool.false_eq_true, if_false]
    · rw [v] at e0
      have hv := validE_iff.1 v
      have h1 := body_len hv (k := k) (by omega)
      have h2 := sealL_len (bodyE k c r)
      have e2 := append_eq n0 (bodyE k c r) (by omega) hn
      rw [body_no hv 35 (by omega)] at e2
      simp (disch := omega) only [dT, Bool.and_self, Bool.not_false, if_true] at e2
      have h3 : (dg k ++ [32] ++ c ++ [64] ++ r).length ≤ 420 := h1
      simp only [List.length_append, List.length_cons, List.length_nil] at h3
      have e3 : dg k ++ [32] ++ c ++ [64] ++ r = bodyE k c r := rfl
      simp (disch := omega) only [impl_EncodeRecord.f, e0, e1, bind_some', dT, dF, cond_true, cond_false, Bool.not_true, Bool.and_self, if_true, B_append, B_size, List.length_append, List.length_cons, List.length_nil, e3, e2, lineE]
  · simp (disch := omega) only [impl_EncodeRecord.f, dT, dF, cond_true, cond_false, Bool.false_and, Bool.false_eq_true, if_false]
theorem line_spec (n0 k : Nat) (c r : List UInt8) (hc : c.length < 2 ^ 31) (hr : r.length < 2 ^ 31) (hn : 2 ^ 40 ≤ n0) (hk : k ≤ 1000) :
    spec_l12Line.f n0 (k : Int) (B c) (B r) = some (B (lineE k c r)) := by
  have h0 := dg_len 3 k (by omega)
  have e1 := l1Num_eq k n0 (by omega) (by omega)
  have e2 := seal_eq n0 (bodyE k c r) (by simp [bodyE]; omega) hn
  have h2 := sealL_len (bodyE k c r)
  have h3 : (bodyE k c r).length ≤ 2 ^ 33 := by simp [bodyE]; omega
  have e3 : dg k ++ [32] ++ c ++ [64] ++ r = bodyE k c r := rfl
  simp (disch := omega) only [spec_l12Line.f, e1, bind_some', dT, cond_true, B_append, B_size, List.length_append, List.length_cons, List.length_nil, e3, e2, lineE]
/-- The record at the beginning of a text. -/
def recAt (t : List UInt8) (k : Nat) : Option (List UInt8 × List UInt8) :=
  let line := (cutL 10 t).1
  let rest := (cutL 32 (cutL 35 line).1).2.1
  let e := cutL 64 rest
  if validE e.1 e.2.1 && (lineE k e.1 e.2.1).isPrefixOf t then some (e.1, e.2.1) else none
theorem parse_line (k : Nat) {c r : List UInt8} (hv : ValidE c r) (y : List UInt8) :
    cutL 10 (lineE k c r ++ y) = (sealL (bodyE k c r), y, true) ∧ (cutL 35 (sealL (bodyE k c r))).1 = bodyE k c r ∧
    cutL 32 (bodyE k c r) = (dg k, c ++ [64] ++ r, true) ∧ cutL 64 (c ++ [64] ++ r) = (c, r, true) := by
  refine ⟨?_, ?_, ?_, ?_⟩
  · unfold lineE
    rw [List.append_assoc]
    refine cutL_append (b := 10) (c := 10) rfl _ _ ?_
    simp only [sealL, hasB_append, body_no hv 10 (by omega), hasB_dg _ 10 (by omega), hasB_cons, hasB_nil]
    rfl
  · unfold sealL
    rw [List.append_assoc, List.cons_append, List.nil_append]
    rw [cutL_append (b := 35) (c := 35) rfl _ _ (body_no hv 35 (by omega))]
  · unfold bodyE
    rw [List.append_assoc, List.append_assoc, List.append_assoc]
    rw [List.cons_append, List.nil_append, cutL_append (b := 32) (c := 32) rfl _ _ (hasB_dg k 32 (by omega))]
    simp
  · rw [List.append_assoc, List.cons_append, List.nil_append]
    exact cutL_append (b := 64) (c := 64) rfl _ _ hv.h4
theorem recAt_of {t : List UInt8} {k : Nat} {c r : List UInt8} (hv : ValidE c r) (hp : lineE k c r <+: t) : recAt t k = some (c, r) := by
  obtain ⟨y, rfl⟩ := hp
  obtain ⟨h1, h2, h3, h4⟩ := parse_line k hv y
  have h5 : (lineE k c r).isPrefixOf (lineE k c r ++ y) = true := List.isPrefixOf_iff_prefix.2 (List.prefix_append _ _)
  simp only [recAt, h1, h2, h3, h4, validE_iff.2 hv, h5, Bool.and_self, if_true]
theorem recAt_some {t : List UInt8} {k : Nat} {c r : List UInt8} (h : recAt t k = some (c, r)) : ValidE c r ∧ lineE k c r <+: t := by
  simp only [recAt] at h
  split at h
  · rename_i hc
    rw [Bool.and_eq_true] at hc
    obtain ⟨h1, h2⟩ := hc
    simp only [Option.some.injEq, Prod.mk.injEq] at h
    obtain ⟨rfl, rfl⟩ := h
    exact ⟨validE_iff.1 h1, List.isPrefixOf_iff_prefix.1 h2⟩
  · cases h
end Go.Pu
