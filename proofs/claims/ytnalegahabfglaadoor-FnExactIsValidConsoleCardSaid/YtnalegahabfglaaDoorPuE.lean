/- Plain lemmas on the pure functions: both ways to read one record answer as recAt. No condition. -/
import Derived.Test.YtnalegahabfglaaDoorPuD
set_option linter.all false
set_option linter.unusedVariables false
set_option linter.unusedSimpArgs false
set_option linter.unusedSimpArgs false
open Go Go.Ab
namespace Go.Pu
theorem split_at (n0 : Nat) (l : List UInt8) (b : Nat) (hs : l.length < 2 ^ 36) (hn : 2 ^ 40 ≤ n0) :
    ∃ t m, spec_l1Split.f n0 (B l) (b : Int) = some (strA (cutL b l).1 :: t, m + 1) ∧ decide (m + 1 < 2) = !(cutL b l).2.2 ∧ m ≤ l.length ∧ t.length = m ∧ (l.length < 2 ^ 36) := by
  have h := split_eq n0 (B l) b (by rw [B_size]; exact hs) (by rw [B_size]; omega)
  obtain ⟨t, ht, h1, h2⟩ := splitA_head b l []
  rw [L_B, ht] at h
  have hlen : ∀ (l cur : List UInt8), (splitA b cur l).length ≤ l.length + 1 := by
    intro l
    induction l with
    | nil => intro cur; simp [splitA]
    | cons c l ih =>
      intro cur; unfold splitA
      split
      · have := ih []; simp; omega
      · have := ih (cur ++ [c]); simp; omega
  have hl := hlen l []
  rw [ht] at hl
  simp at hl
  refine ⟨t.map strA, t.length, by simpa using h, ?_, hl, by simp, hs⟩
  cases hc : (cutL b l).2.2
  · rw [h1 hc]; rfl
  · have := h2 hc
    have : 0 < t.length := List.length_pos_iff.2 this
    simp; omega
theorem gStr_strA (l : List UInt8) : gStr (strA l) = some (B l) := rfl
def decodeL (l : List UInt8) (k : Nat) : List UInt8 × List UInt8 × Bool :=
  let text := (cutL 35 l).1
  let a := dg k ++ [32]
  if text.length < a.length then ([], [], false)
  else if (text.take a.length == a) = false then ([], [], false)
  else
    let rest := text.drop a.length
    let ask := (cutL 64 rest).1
    if ask.length = rest.length then ([], [], false)
    else (ask, rest.drop (ask.length + 1), validE ask (rest.drop (ask.length + 1)) && (lineE k ask (rest.drop (ask.length + 1)) == l ++ [10]))
theorem decode_eq (n0 k : Nat) (l : List UInt8) (hs : l.length < 2 ^ 30) (hn : 2 ^ 40 ≤ n0) (hk : k ≤ 1000) :
    spec_l12Decode.f n0 (B l) (k : Int) = some (B (decodeL l k).1, B (decodeL l k).2.1, (decodeL l k).2.2) := by
  obtain ⟨t, m, h1, h2, h3, h4, _⟩ := split_at n0 l 35 (by omega) hn
  have h35 : ((35 : Nat) : Int) = 35 := rfl
  rw [h35] at h1
  have e1 := l1Num_eq k n0 (by omega) (by omega)
  have hd := dg_len 3 k (by omega)
  have hlen := (cutL_len 35 l).1
  unfold decodeL
  dsimp only
  generalize (cutL 35 l).1 = text at *
  have hal : (dg k ++ [32]).length = (dg k).length + 1 := by simp
  by_cases c1 : text.length < (dg k ++ [32]).length
  · rw [if_pos c1]
    rw [hal] at c1
    simp (disch := omega) only [spec_l12Decode.f, e1, h1, bind_some', dT, dF, cond_true, cond_false, B_append, B_size, List.length_append, List.length_cons, List.length_nil, Bool.and_self, List.getD_cons_zero, gStr_strA]
  · rw [if_neg c1]
    cases c2 : (text.take (dg k ++ [32]).length == dg k ++ [32])
    · rw [if_pos rfl]
      rw [hal] at c1 c2
      simp (disch := omega) only [spec_l12Decode.f, e1, h1, bind_some', dT, dF, cond_true, cond_false, B_append, B_size, List.length_append, List.length_cons, List.length_nil, Bool.and_self, List.getD_cons_zero, gStr_strA, B_extract, B_toList, Int.toNat_natCast, List.drop_zero, Nat.zero_add, c2, Bool.not_false]
    · rw [if_neg (by simp)]
      have hrl : (text.drop (dg k ++ [32]).length).length ≤ text.length := by simp
      generalize hrest : text.drop (dg k ++ [32]).length = rest at *
      have hrest' : List.drop ((dg k).length + 1) (List.take text.length text) = rest := by
        rw [List.take_length, ← hal]; exact hrest
      obtain ⟨t', m', g1, g2, g3, g4, _⟩ := split_at n0 rest 64 (by omega) hn
      have h64 : ((64 : Nat) : Int) = 64 := rfl
      rw [h64] at g1
      have hal2 := (cutL_len 64 rest).1
      generalize (cutL 64 rest).1 = ask at *
      rw [hal] at c1 c2
      by_cases c3 : ask.length = rest.length
      · rw [if_pos c3]
        simp (disch := omega) only [spec_l12Decode.f, e1, h1, bind_some', dT, dF, cond_true, cond_false, B_append, B_size, List.length_append, List.length_cons, List.length_nil, Bool.and_self, List.getD_cons_zero, gStr_strA, B_extract, B_toList, Int.toNat_natCast, List.drop_zero, Nat.zero_add, c2, Bool.not_true, hrest', g1, beqT]
      · rw [if_neg c3]
        have hw : IntKind.wrap .i64 ((ask.length : Int) + 1) = ((ask.length + 1 : Nat) : Int) := by rw [w64 (by omega) (by omega)]; omega
        have hrep : List.drop (ask.length + 1) (List.take rest.length rest) = rest.drop (ask.length + 1) := by rw [List.take_length]
        have hrl2 : (rest.drop (ask.length + 1)).length ≤ rest.length := by simp
        have e2 := record_spec n0 ask (rest.drop (ask.length + 1)) (by omega) (by omega) hn
        have e3 := line_spec n0 k ask (rest.drop (ask.length + 1)) (by omega) (by omega) hn hk
        generalize rest.drop (ask.length + 1) = reply at *
        cases v : validE ask reply
        all_goals
          rw [v] at e2
          simp (disch := omega) only [spec_l12Decode.f, e1, h1, bind_some', dT, dF, cond_true, cond_false, B_append, B_size, List.length_append, List.length_cons, List.length_nil, Bool.and_self, List.getD_cons_zero, gStr_strA, B_extract, B_toList, Int.toNat_natCast, List.drop_zero, Nat.zero_add, c2, Bool.not_true, hrest', g1, beqF, hw, hrep, e2, e3, Bool.false_and, Bool.true_and]
theorem decode_recAt (t : List UInt8) (k : Nat) : ((cutL 10 t).2.2 && (decodeL (cutL 10 t).1 k).2.2) = (recAt t k).isSome ∧
    ∀ c r, recAt t k = some (c, r) → (decodeL (cutL 10 t).1 k).1 = c ∧ (decodeL (cutL 10 t).1 k).2.1 = r ∧ (cutL 10 t).1.length + 1 = (lineE k c r).length := by
  have fwd : ∀ c r, recAt t k = some (c, r) → (cutL 10 t).2.2 = true ∧ decodeL (cutL 10 t).1 k = (c, r, true) ∧ (cutL 10 t).1.length + 1 = (lineE k c r).length := fun c r h => by
    obtain ⟨hv, y, hy⟩ := recAt_some h
    obtain ⟨p1, p2, p3, p4⟩ := parse_line k hv y
    rw [← hy, p1]
    refine ⟨rfl, ?_, by simp [lineE]⟩
    unfold decodeL
    dsimp only
    rw [p2]
    have hb : bodyE k c r = (dg k ++ [32]) ++ (c ++ [64] ++ r) := by simp [bodyE]
    rw [hb, if_neg (by simp), List.take_left, if_neg (by simp), List.drop_left, p4]
    dsimp only
    rw [if_neg (by simp)]
    have e : (c ++ [64] ++ r).drop (c.length + 1) = r := by
      rw [List.drop_append_of_le_length (by simp)]; simp
    rw [e]
    simp only [validE_iff.2 hv, lineE, hb, beq_self_eq_true, Bool.and_self]
  refine ⟨?_, fun c r h => ⟨by rw [(fwd c r h).2.1], by rw [(fwd c r h).2.1], (fwd c r h).2.2⟩⟩
  cases h : recAt t k with
  | some e => obtain ⟨c, r⟩ := e; rw [(fwd c r h).1, (fwd c r h).2.1]; rfl
  | none =>
    cases hc : (cutL 10 t).2.2 with
    | false => rfl
    | true =>
      cases hd : (decodeL (cutL 10 t).1 k).2.2 with
      | false => rfl
      | true =>
        exfalso
        obtain ⟨x, hx, ht⟩ := cutL_yes t hc
        have hx' : x = 10 := UInt8.toNat_inj.1 (by rw [hx]; rfl)
        subst hx'
        generalize (cutL 10 t).1 = line at *
        unfold decodeL at hd
        dsimp only at hd
        split at hd
        · cases hd
        · split at hd
          · cases hd
          · split at hd
            · cases hd
            · rw [Bool.and_eq_true] at hd
              obtain ⟨h1, h2⟩ := hd
              have h2 := eq_of_beq h2
              have := recAt_of (t := t) (k := k) (validE_iff.1 h1) ⟨(cutL 10 t).2.1, by rw [h2, List.append_assoc]; exact ht.symm⟩
              rw [h] at this; cases this
end Go.Pu
