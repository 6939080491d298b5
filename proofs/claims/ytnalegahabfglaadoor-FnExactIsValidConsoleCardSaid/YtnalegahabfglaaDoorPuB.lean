/- Plain lemmas on the pure functions: texts and records. No condition. -/
import Derived.Test.YtnalegahabfglaaDoorPuA
import Derived.Test.YtnalegahabfglaaDoorPrFA
set_option linter.all false
set_option linter.unusedVariables false
set_option linter.unusedSimpArgs false
set_option linter.unusedSimpArgs false
open Go Go.Ab
namespace Go.Pu
theorem dropC {s : ByteArray} {i : Nat} {c : UInt8} {l : List UInt8} (h : (L s).drop i = c :: l) : i < s.size ∧ (L s).drop (i + 1) = l ∧ bt s (i : Int) = (c.toNat : Int) ∧ l.length = s.size - (i + 1) := by
  have hlt : i < (L s).length := by
    rcases Nat.lt_or_ge i (L s).length with h' | h'
    · exact h'
    · rw [List.drop_eq_nil_of_le h'] at h; cases h
  rw [List.drop_eq_getElem_cons hlt] at h
  injection h with h1 h2
  refine ⟨by rw [← L_len]; exact hlt, h2, ?_, ?_⟩
  · rw [bt_L, List.getD_eq_getElem?_getD, List.getElem?_eq_getElem hlt]; simp [h1]
  · rw [← h2, List.length_drop, L_len]
theorem dropN {s : ByteArray} {i : Nat} (h : (L s).drop i = []) : s.size ≤ i := by
  rw [← L_len]; exact List.drop_eq_nil_iff.1 h
theorem u8lt (c : UInt8) : c.toNat < 256 := c.toNat_lt

/-! bytes of records -/
def okB (c : UInt8) : Bool := decide (32 ≤ c.toNat) && decide (c.toNat ≤ 126) && !(c.toNat == 35)
theorem isPlain_loop (n0 : Nat) (s : ByteArray) (hs : s.size < 2 ^ 40) : ∀ (l : List UInt8) (i n : Nat), (L s).drop i = l → l.length < n →
    impl_isPlain.l2 n0 (fun y => some y) (some true) n s (s.size : Int) (i : Int) = some (l.all okB)
  | [], i, n + 1, h, hn => by
    have := dropN h
    simp (disch := omega) only [impl_isPlain.l2, impl_isPlain.l2S, dT, dF, cond_false, cond_true]; rfl
  | c :: l, i, n + 1, h, hn => by
    obtain ⟨h1, h2, h3, h4⟩ := dropC h
    have ih := isPlain_loop n0 s hs l (i + 1) n h2 (by simp at hn; omega)
    have hw : IntKind.wrap .i64 ((i : Int) + 1) = ((i + 1 : Nat) : Int) := by rw [w64 (by omega) (by omega)]; omega
    simp only [List.all_cons, okB]
    simp (disch := omega) only [impl_isPlain.l2, impl_isPlain.l2S, h3, dT, cond_true, Bool.and_self, hw, ih]
    by_cases a : c.toNat < 32
    · simp (disch := omega) only [dT, dF, cond_true, Bool.false_and]
    · by_cases b : 126 < c.toNat
      · simp (disch := omega) only [dT, dF, cond_true, cond_false, Bool.false_and, Bool.and_false]
      · by_cases d : c.toNat = 35
        · simp (disch := omega) only [dT, dF, cond_true, cond_false, beqT]; simp [d]
        · simp (disch := omega) only [dT, dF, cond_true, cond_false, beqF]; simp [d]
theorem isPlain_eq (n0 : Nat) (s : ByteArray) (hs : s.size < 2 ^ 40) (hn : s.size < n0) : impl_isPlain.f n0 s = some ((L s).all okB) :=
  isPlain_loop n0 s hs (L s) 0 n0 rfl (by rw [L_len]; exact hn)
theorem l1In_eq (n0 : Nat) (x a b : Int) : spec_l1In.f n0 x a b = some (decide (a ≤ x) && decide (x ≤ b)) := by
  unfold spec_l1In.f
  by_cases h : x ≥ a
  · have h' : a ≤ x := h
    simp [h, h']
  · have h' : ¬ a ≤ x := h
    simp [h, h']
theorem l12Bytes_loop (n0 : Nat) (s : ByteArray) (m : Int) (hs : s.size < 2 ^ 40) : ∀ (l : List UInt8) (i n : Nat), (L s).drop i = l → l.length < n →
    spec_l12Bytes.l2 n0 (fun y13 y14 y15 => some y15) (fun y16 y17 => some (Decidable.decide ((↑(ByteArray.size y16) : Int) ≤ y17))) n s m (i : Int) = some (l.all okB && decide ((s.size : Int) ≤ m))
  | [], i, n + 1, h, hn => by
    have := dropN h
    simp (disch := omega) only [spec_l12Bytes.l2, spec_l12Bytes.l2S, dF, cond_false, List.all_nil, Bool.true_and]
  | c :: l, i, n + 1, h, hn => by
    obtain ⟨h1, h2, h3, h4⟩ := dropC h
    have ih := l12Bytes_loop n0 s m hs l (i + 1) n h2 (by simp at hn; omega)
    have hw : IntKind.wrap .i64 ((i : Int) + 1) = ((i + 1 : Nat) : Int) := by rw [w64 (by omega) (by omega)]; omega
    have hc := u8lt c
    have hw2 : IntKind.wrap .i64 (c.toNat : Int) = (c.toNat : Int) := w64 (by omega) (by omega)
    simp only [List.all_cons, okB]
    simp (disch := omega) only [spec_l12Bytes.l2, spec_l12Bytes.l2S, h3, hw2, l1In_eq, bind_some', dT, cond_true, Bool.and_self, hw, ih]
    by_cases a : c.toNat < 32
    · simp (disch := omega) only [dT, dF, cond_true, Bool.false_and, Bool.not_false]
    · by_cases b : 126 < c.toNat
      · simp (disch := omega) only [dT, dF, cond_true, cond_false, Bool.false_and, Bool.and_false, Bool.not_false]
      · by_cases d : c.toNat = 35
        · simp (disch := omega) only [dT, dF, cond_true, cond_false, beqT, Bool.and_self, Bool.not_true]; simp [d]
        · have e : (c.toNat == 35) = false := by simpa using d
          simp (disch := omega) only [dT, dF, cond_true, cond_false, beqF, Bool.and_self, Bool.not_true, e, Bool.not_false, Bool.true_and]
theorem l12Bytes_eq (n0 : Nat) (s : ByteArray) (m : Int) (hs : s.size < 2 ^ 40) (hn : s.size < n0) : spec_l12Bytes.f n0 s m = some ((L s).all okB && decide ((s.size : Int) ≤ m)) :=
  l12Bytes_loop n0 s m hs (L s) 0 n0 rfl (by rw [L_len]; exact hn)
/-! does a byte stand in a text -/
def hasB (l : List UInt8) (b : Nat) : Bool := l.any fun c => c.toNat == b
theorem stands_loop (n0 : Nat) (s : ByteArray) (b : Nat) (hs : s.size < 2 ^ 40) : ∀ (l : List UInt8) (i n : Nat), (L s).drop i = l → l.length < n →
    spec_l1Stands.l2 n0 (fun y12 => some y12) (some false) n s (b : Int) (i : Int) = some (hasB l b)
  | [], i, n + 1, h, hn => by
    have := dropN h
    simp (disch := omega) only [spec_l1Stands.l2, spec_l1Stands.l2S, dF, cond_false]; rfl
  | c :: l, i, n + 1, h, hn => by
    obtain ⟨h1, h2, h3, h4⟩ := dropC h
    have ih := stands_loop n0 s b hs l (i + 1) n h2 (by simp at hn; omega)
    have hw : IntKind.wrap .i64 ((i : Int) + 1) = ((i + 1 : Nat) : Int) := by rw [w64 (by omega) (by omega)]; omega
    simp only [hasB, List.any_cons] at ih ⊢
    simp (disch := omega) only [spec_l1Stands.l2, spec_l1Stands.l2S, h3, dT, cond_true, Bool.and_self, hw, ih]
    by_cases d : c.toNat = b
    · simp (disch := omega) only [beqT, cond_true]; simp [d]
    · simp (disch := omega) only [beqF, cond_false]; simp [d]
theorem stands_eq (n0 : Nat) (s : ByteArray) (b : Nat) (hs : s.size < 2 ^ 40) (hn : s.size < n0) : spec_l1Stands.f n0 s (b : Int) = some (hasB (L s) b) :=
  stands_loop n0 s b hs (L s) 0 n0 rfl (by rw [L_len]; exact hn)
theorem index_one (c : UInt8) : ∀ (l : List UInt8), Lib.index l [c] = match l.findIdx? (fun x => x.toNat == c.toNat) with | some j => (j : Int) | none => -1
  | [] => rfl
  | x :: l => by
    have ih := index_one c l
    unfold Lib.index
    rw [List.findIdx?_cons]
    by_cases h : x = c
    · subst h; simp [List.isPrefixOf]
    · have hne : ¬ x.toNat = c.toNat := fun e => h (UInt8.toNat_inj.1 e)
      have hp : List.isPrefixOf [c] (x :: l) = false := by simp [List.isPrefixOf]; exact fun e => h e.symm
      have hb : (x.toNat == c.toNat) = false := by simpa using hne
      simp only [hp, ih, hb]
      cases hf : l.findIdx? (fun x => x.toNat == c.toNat) with
      | none => simp
      | some j => simp
theorem contains_eq (n0 : Nat) (s : ByteArray) (c : UInt8) (hs : s.size < 4294967281) : strings_Contains.f n0 s ⟨#[c]⟩ = some (hasB (L s) c.toNat) := by
  simp only [strings_Contains.f, hs, decide_true, cond_true, Lib.contains, index_one]
  unfold hasB
  rw [← List.findIdx?_isSome]
  cases (L s).findIdx? (fun x => x.toNat == c.toNat) with
  | none => simp
  | some j => simp
/-- What stands before the first byte b, and behind it. -/
def cutL (b : Nat) : List UInt8 → List UInt8 × List UInt8 × Bool
  | [] => ([], [], false)
  | c :: l => if c.toNat = b then ([], l, true) else (c :: (cutL b l).1, (cutL b l).2.1, (cutL b l).2.2)
theorem cut_one (c : UInt8) : ∀ (l : List UInt8), (match l.findIdx? (fun x => x.toNat == c.toNat) with | some j => (l.take j, l.drop (j + 1), true) | none => (l, [], false)) = cutL c.toNat l
  | [] => rfl
  | x :: l => by
    have ih := cut_one c l
    rw [List.findIdx?_cons]
    unfold cutL
    by_cases h : x.toNat = c.toNat
    · simp [h]
    · have hb : (x.toNat == c.toNat) = false := by simpa using h
      simp only [hb, h, if_false]
      rw [← ih]
      cases l.findIdx? (fun x => x.toNat == c.toNat) with
      | none => simp
      | some j => simp
def cutB (s : ByteArray) (b : Nat) : ByteArray × ByteArray × Bool := (⟨(cutL b (L s)).1.toArray⟩, ⟨(cutL b (L s)).2.1.toArray⟩, (cutL b (L s)).2.2)
theorem cut_eq (n0 : Nat) (s : ByteArray) (c : UInt8) (hs : s.size < 4294967281) : strings_Cut.f n0 s ⟨#[c]⟩ = some (cutB s c.toNat) := by
  have := cut_one c (L s)
  simp only [strings_Cut.f, hs, decide_true, cond_true, Lib.cut, index_one, cutB]
  rw [← this]
  cases hf : List.findIdx? (fun x => x.toNat == c.toNat) s.data.toList with
  | none => simp [hf]
  | some j => simp [hf]
/-! split -/
def splitA (b : Nat) : List UInt8 → List UInt8 → List (List UInt8)
  | cur, [] => [cur]
  | cur, c :: l => if c.toNat = b then cur :: splitA b [] l else splitA b (cur ++ [c]) l
def strA (l : List UInt8) : AV := .str ⟨l.toArray⟩
@[simp] theorem oneA_str (s : ByteArray) : oneA (.str s) = true := rfl
@[simp] theorem oneA_strA (l : List UInt8) : oneA (strA l) = true := rfl
@[simp] theorem oneA_int (k : IntKind) (n : Int) : oneA (.int k n) = true := rfl
theorem take_extract {s : ByteArray} {a i : Nat} : (AV.str (s.extract a i)) = strA (((L s).take i).drop a) := by
  unfold strA; congr 1; exact L_inj (by rw [L_extract, L_mk])
theorem split_loop (n0 : Nat) (s : ByteArray) (b : Nat) (hs : s.size < 2 ^ 36) (k : ByteArray → Nat → Int → List AV → Option (List AV × Nat))
    (hk : ∀ (a x : Nat) (out : List AV), a ≤ s.size → x ≤ s.size → out.length = x → k s x (a : Int) out = some (out ++ [strA ((L s).drop a)], x + 1)) :
    ∀ (l : List UInt8) (i n a x : Nat) (out : List AV), (L s).drop i = l → i ≤ s.size → l.length < n → a ≤ i → x ≤ i → out.length = x →
    spec_l1Split.l4 n0 k n s (b : Int) x (a : Int) (i : Int) out =
      some (out ++ (splitA b (((L s).take i).drop a) l).map strA, x + (splitA b (((L s).take i).drop a) l).length)
  | [], i, n + 1, a, x, out, h, hi, hn, ha, hx, ho => by
    have hd := dropN h
    have hi' : s.size = i := by omega
    have ht : (L s).take i = L s := List.take_of_length_le (by rw [L_len]; omega)
    simp (disch := omega) only [spec_l1Split.l4, spec_l1Split.l4S, dF, cond_false, hk, ht]
    simp only [splitA, List.map_cons, List.map_nil, List.length_cons, List.length_nil]
  | c :: l, i, n + 1, a, x, out, h, hi, hn, ha, hx, ho => by
    obtain ⟨h1, h2, h3, h4⟩ := dropC h
    have hn' : l.length < n := by simp at hn; omega
    have hw : IntKind.wrap .i64 ((i : Int) + 1) = ((i + 1 : Nat) : Int) := by rw [w64 (by omega) (by omega)]; omega
    have hlt : i < (L s).length := by rw [L_len]; exact h1
    have hge : (L s)[i] = c := by rw [List.drop_eq_getElem_cons hlt] at h; injection h
    simp only [splitA]
    by_cases d : c.toNat = b
    · have ih := split_loop n0 s b hs k hk l (i + 1) n (i + 1) (x + 1) (out ++ [strA (((L s).take i).drop a)]) h2 (by omega) hn' (by omega) (by omega) (by simp [ho])
      have hnil : ((L s).take (i + 1)).drop (i + 1) = [] := List.drop_eq_nil_of_le (by simp; omega)
      rw [hnil] at ih
      simp (disch := omega) only [spec_l1Split.l4, spec_l1Split.l4S, h3, dT, beqT, cond_true, Bool.and_self, List.length_cons, List.length_nil, List.all_cons, List.all_nil, oneA_str, oneA_strA, Nat.mul_one, Int.toNat_natCast, ho, Nat.zero_add, List.take_of_length_le (Nat.le_of_eq ho), hw, take_extract, ih, d, if_true, decide_true]
      simp only [List.append_assoc, List.singleton_append, List.map_cons, List.length_cons]
      rw [Nat.add_assoc, Nat.add_comm 1 (List.length _)]
    · have ih := split_loop n0 s b hs k hk l (i + 1) n a x out h2 (by omega) hn' (by omega) (by omega) ho
      have hsn : ((L s).take (i + 1)).drop a = ((L s).take i).drop a ++ [c] := by
        rw [List.take_succ_eq_append_getElem hlt, hge, List.drop_append_of_le_length (by rw [List.length_take, L_len]; omega)]
      rw [hsn] at ih
      simp (disch := omega) only [spec_l1Split.l4, spec_l1Split.l4S, h3, dT, beqF, cond_true, cond_false, Bool.and_self, hw, ih, d, if_false]
theorem split_eq (n0 : Nat) (s : ByteArray) (b : Nat) (hs : s.size < 2 ^ 36) (hn : s.size < n0) : spec_l1Split.f n0 s (b : Int) = some ((splitA b [] (L s)).map strA, (splitA b [] (L s)).length) := by
  unfold spec_l1Split.f
  refine (split_loop n0 s b hs _ ?_ (L s) 0 n0 0 0 [] rfl (Nat.zero_le _) (by rw [L_len]; exact hn) (Nat.le_refl _) (Nat.le_refl _) rfl).trans ?_
  · intro a x out ha hx ho
    have ht : (L s).take s.size = L s := List.take_of_length_le (by rw [L_len]; omega)
    simp (disch := omega) only [dT, cond_true, Bool.and_self, List.length_cons, List.length_nil, List.all_cons, List.all_nil, oneA_str, oneA_strA, Nat.mul_one, Int.toNat_natCast, ho, Nat.zero_add, List.take_of_length_le (Nat.le_of_eq ho), decide_true, take_extract, ht]
    rw [List.take_of_length_le (by simp [ho])]
  · simp
end Go.Pu
