/- Plain lemmas on the pure functions: numbers, checksums. No condition. -/
import Derived.Test.YtnalegahabfglaaDoorPuB
set_option linter.all false
set_option linter.unusedVariables false
set_option linter.unusedSimpArgs false
set_option linter.unusedSimpArgs false
open Go Go.Ab
namespace Go.Pu
abbrev B (l : List UInt8) : ByteArray := ByteArray.mk (List.toArray l)
theorem B_append (l m : List UInt8) : B l ++ B m = B (l ++ m) := L_inj (by rw [L_append])
theorem B_size (l : List UInt8) : (B l).size = l.length := by simp [B, size_mk]
theorem B_toList (l : List UInt8) : ByteArray.toList (B l) = l := by rw [toList_L]
theorem B_extract (l : List UInt8) (i j : Nat) : (B l).extract i j = B ((l.take j).drop i) := L_inj (by rw [L_extract])
theorem B_L (s : ByteArray) : B (L s) = s := L_inj rfl
theorem L_B (l : List UInt8) : L (B l) = l := rfl
def sumL : Int → List UInt8 → Int
  | h, [] => h
  | h, c :: l => sumL ((41 * h + (c.toNat : Int) + 1) % 999979) l
theorem sumL_range : ∀ (l : List UInt8) (h : Int), 0 ≤ h → h < 999979 → 0 ≤ sumL h l ∧ sumL h l < 999979
  | [], h, h0, h1 => ⟨h0, h1⟩
  | c :: l, h, h0, h1 => sumL_range l _ (by omega) (by omega)
theorem step_eq {h : Int} {c : UInt8} (h0 : 0 ≤ h) (h1 : h < 999979) :
    Int.tmod (IntKind.wrap .i64 (IntKind.wrap .i64 (IntKind.wrap .i64 (41 * h) + IntKind.wrap .i64 (c.toNat : Int)) + 1)) 999979 = (41 * h + (c.toNat : Int) + 1) % 999979 := by
  have hc := u8lt c
  rw [w64 (n := 41 * h) (by omega) (by omega), w64 (n := (c.toNat : Int)) (by omega) (by omega), w64 (n := 41 * h + (c.toNat : Int)) (by omega) (by omega), w64 (by omega) (by omega)]
  rw [Int.tmod_eq_emod_of_nonneg (by omega)]
theorem l1Sum_loop (n0 : Nat) (s : ByteArray) (hs : s.size < 2 ^ 40) : ∀ (l : List UInt8) (i n : Nat) (h : Int), (L s).drop i = l → l.length < n → 0 ≤ h → h < 999979 →
    spec_l1Sum.l3 n0 (fun y => some y) n s h (i : Int) = some (sumL h l)
  | [], i, n + 1, h, hd, hn, h0, h1 => by
    have := dropN hd
    simp (disch := omega) only [spec_l1Sum.l3, spec_l1Sum.l3S, dF, cond_false, sumL]
  | c :: l, i, n + 1, h, hd, hn, h0, h1 => by
    obtain ⟨g1, g2, g3, g4⟩ := dropC hd
    have hw : IntKind.wrap .i64 ((i : Int) + 1) = ((i + 1 : Nat) : Int) := by rw [w64 (by omega) (by omega)]; omega
    have ih := l1Sum_loop n0 s hs l (i + 1) n ((41 * h + (c.toNat : Int) + 1) % 999979) g2 (by simp at hn; omega) (by omega) (by omega)
    simp (disch := omega) only [spec_l1Sum.l3, spec_l1Sum.l3S, g3, dT, cond_true, Bool.and_self, hw, step_eq, ih, sumL]
theorem checksum_loop (n0 : Nat) (s : ByteArray) (hs : s.size < 2 ^ 40) : ∀ (l : List UInt8) (i n : Nat) (h : Int), (L s).drop i = l → l.length < n → 0 ≤ h → h < 999979 →
    impl_checksum.l3 n0 (fun y => some y) n s h (s.size : Int) (i : Int) = some (sumL h l)
  | [], i, n + 1, h, hd, hn, h0, h1 => by
    have := dropN hd
    simp (disch := omega) only [impl_checksum.l3, impl_checksum.l3S, dF, cond_false, sumL]
  | c :: l, i, n + 1, h, hd, hn, h0, h1 => by
    obtain ⟨g1, g2, g3, g4⟩ := dropC hd
    have hw : IntKind.wrap .i64 ((i : Int) + 1) = ((i + 1 : Nat) : Int) := by rw [w64 (by omega) (by omega)]; omega
    have ih := checksum_loop n0 s hs l (i + 1) n ((41 * h + (c.toNat : Int) + 1) % 999979) g2 (by simp at hn; omega) (by omega) (by omega)
    simp (disch := omega) only [impl_checksum.l3, impl_checksum.l3S, g3, dT, cond_true, Bool.and_self, hw, step_eq, ih, sumL]
/-! numbers -/
abbrev dg (n : Nat) : List UInt8 := Lib.decDigits n
theorem dg_small {n : Nat} (h : n < 10) : dg n = [UInt8.ofNat (48 + n)] := by
  unfold dg; rw [Lib.decDigits, dif_pos h]
theorem dg_big {n : Nat} (h : ¬ n < 10) : dg n = dg (n / 10) ++ [UInt8.ofNat (48 + n % 10)] := by
  unfold dg; conv => lhs; rw [Lib.decDigits, dif_neg h]
theorem digit_extract (d : Nat) (hd : d < 10) : ByteArray.extract ⟨#[48, 49, 50, 51, 52, 53, 54, 55, 56, 57]⟩ d (d + 1) = B [UInt8.ofNat (48 + d)] := by
  match d, hd with
  | 0, _ => rfl | 1, _ => rfl | 2, _ => rfl | 3, _ => rfl | 4, _ => rfl | 5, _ => rfl | 6, _ => rfl | 7, _ => rfl | 8, _ => rfl | 9, _ => rfl
theorem dg_len : ∀ (e n : Nat), n < 10 ^ (e + 1) → (dg n).length ≤ e + 1
  | 0, n, h => by rw [dg_small (by simpa using h)]; simp
  | e + 1, n, h => by
    by_cases hs : n < 10
    · rw [dg_small hs]; simp
    · rw [dg_big hs, List.length_append]
      have := dg_len e (n / 10) (by rw [Nat.pow_succ] at h; omega)
      simp; omega
theorem dg_ne (n : Nat) : dg n ≠ [] := by
  by_cases h : n < 10
  · rw [dg_small h]; simp
  · rw [dg_big h]; simp
theorem dg_mem : ∀ (n : Nat), ∀ c ∈ dg n, 48 ≤ c.toNat ∧ c.toNat ≤ 57 := by
  intro n
  induction n using Nat.strongRecOn with
  | _ n ih =>
    intro c hc
    have one : ∀ d, d < 10 → 48 ≤ (UInt8.ofNat (48 + d)).toNat ∧ (UInt8.ofNat (48 + d)).toNat ≤ 57 := fun d hd => by
      rw [UInt8.toNat_ofNat_of_lt' (by simp [UInt8.size]; omega)]; omega
    by_cases h : n < 10
    · rw [dg_small h] at hc; rw [List.mem_singleton.1 hc]; exact one n h
    · rw [dg_big h] at hc
      rcases List.mem_append.1 hc with hc | hc
      · exact ih (n / 10) (by omega) c hc
      · rw [List.mem_singleton.1 hc]; exact one _ (by omega)
theorem l1Num_eq : ∀ (n : Nat) (f : Nat), n < 2 ^ 36 → n < f → spec_l1Num.f f (n : Int) = some (B (dg n)) := by
  intro n
  induction n using Nat.strongRecOn with
  | _ n ih =>
    intro f hb hf
    obtain ⟨f, rfl⟩ : ∃ g, f = g + 1 := ⟨f - 1, by omega⟩
    by_cases h : n < 10
    · have hw : IntKind.wrap .i64 ((n : Int) + 1) = ((n + 1 : Nat) : Int) := by rw [w64 (by omega) (by omega)]; omega
      simp (disch := omega) only [spec_l1Num.f, dF, cond_false, dT, cond_true, hw, Bool.and_self, Int.toNat_natCast, digit_extract, dg_small]
    · have e1 : Int.tdiv (n : Int) 10 = ((n / 10 : Nat) : Int) := by rw [Int.tdiv_eq_ediv_of_nonneg (by omega)]; omega
      have e2 : Int.tmod (n : Int) 10 = ((n % 10 : Nat) : Int) := by rw [Int.tmod_eq_emod_of_nonneg (by omega)]; omega
      have hw1 : IntKind.wrap .i64 ((n / 10 : Nat) : Int) = ((n / 10 : Nat) : Int) := w64 (by omega) (by omega)
      have hw : IntKind.wrap .i64 (((n % 10 : Nat) : Int) + 1) = ((n % 10 + 1 : Nat) : Int) := by rw [w64 (by omega) (by omega)]; omega
      have hl := dg_len 12 (n / 10) (by omega)
      simp (disch := omega) only [spec_l1Num.f, dF, cond_false, e1, e2, hw1, ih (n / 10) (by omega) f (by omega) (by omega), bind_some', hw, dT, Bool.and_self, cond_true, Int.toNat_natCast, digit_extract, B_size, List.length_cons, List.length_nil]
      rw [B_append, ← dg_big h]
theorem itoa_eq (f n : Nat) (hb : n < 2 ^ 36) : strconv_Itoa.f f (n : Int) = some (B (dg n)) := by
  have h3 : ¬ ((n : Int) < 0) := by omega
  simp (disch := omega) only [strconv_Itoa.f, dT, Bool.and_self, cond_true, Lib.itoa, h3, if_false, Int.toNat_natCast]
/-- A text with its checksum behind it. -/
def sealL (l : List UInt8) : List UInt8 := l ++ [35] ++ dg (sumL 7 l).toNat
theorem sealL_len (l : List UInt8) : (sealL l).length ≤ l.length + 7 := by
  have h := sumL_range l 7 (by omega) (by omega)
  have := dg_len 5 (sumL 7 l).toNat (by omega)
  simp [sealL]; omega
theorem seal_eq (n0 : Nat) (l : List UInt8) (hs : l.length < 2 ^ 36) (hn : 2 ^ 40 ≤ n0) : spec_l1Seal.f n0 (B l) = some (B (sealL l)) := by
  have h := sumL_range l 7 (by omega) (by omega)
  have hl := dg_len 5 (sumL 7 l).toNat (by omega)
  have e1 : spec_l1Sum.f n0 (B l) = some (((sumL 7 l).toNat : Nat) : Int) := by
    rw [Int.toNat_of_nonneg h.1]
    exact l1Sum_loop n0 (B l) (by rw [B_size]; omega) l 0 n0 7 rfl (by omega) (by omega) (by omega)
  have e2 := l1Num_eq (sumL 7 l).toNat n0 (by omega) (by omega)
  simp (disch := omega) only [spec_l1Seal.f, e1, e2, bind_some', B_append, B_size, List.length_append, List.length_cons, List.length_nil, dT, cond_true, sealL]
theorem append_eq (n0 : Nat) (l : List UInt8) (hs : l.length < 2 ^ 31) (hn : 2 ^ 40 ≤ n0) : impl_AppendChecksum.f n0 (B l) =
    some (if decide (l.length ≤ 4000) && !hasB l 35 && decide ((sealL l).length ≤ 4000) then (B (sealL l), true) else (B [], false)) := by
  have h := sumL_range l 7 (by omega) (by omega)
  have hl := dg_len 5 (sumL 7 l).toNat (by omega)
  have e1 : impl_checksum.f n0 (B l) = some (((sumL 7 l).toNat : Nat) : Int) := by
    rw [Int.toNat_of_nonneg h.1]
    exact checksum_loop n0 (B l) (by rw [B_size]; omega) l 0 n0 7 rfl (by omega) (by omega) (by omega)
  have e2 := itoa_eq n0 (sumL 7 l).toNat (by omega)
  have e3 := contains_eq n0 (B l) 35 (by rw [B_size]; omega)
  rw [L_B] at e3
  have e4 : (35 : UInt8).toNat = 35 := rfl
  rw [e4] at e3
  by_cases a : l.length ≤ 4000
  · cases b : hasB l 35
    · rw [b] at e3
      by_cases c : (sealL l).length ≤ 4000
      · have c' : (l ++ [35] ++ dg (sumL 7 l).toNat).length ≤ 4000 := c
        simp only [List.length_append, List.length_cons, List.length_nil] at c'
        simp (disch := omega) only [impl_AppendChecksum.f, e1, e2, e3, bind_some', B_append, B_size, List.length_append, List.length_cons, List.length_nil, dT, dF, cond_true, cond_false, sealL, Bool.not_false, Bool.and_self, if_true]
      · have c' : ¬ (l ++ [35] ++ dg (sumL 7 l).toNat).length ≤ 4000 := c
        simp only [List.length_append, List.length_cons, List.length_nil] at c'
        simp (disch := omega) only [impl_AppendChecksum.f, e1, e2, e3, bind_some', B_append, B_size, List.length_append, List.length_cons, List.length_nil, dT, dF, cond_true, cond_false, sealL, Bool.not_false, Bool.and_false, Bool.false_eq_true, if_false]
    · rw [b] at e3
      simp (disch := omega) only [impl_AppendChecksum.f, e3, bind_some', B_size, dT, dF, cond_true, cond_false, Bool.not_true, Bool.and_false, Bool.false_and, Bool.false_eq_true, if_false]
  · simp (disch := omega) only [impl_AppendChecksum.f, B_size, dT, dF, cond_true, Bool.false_and, Bool.false_eq_true, if_false]
end Go.Pu
