/- Texts of the claim, merged: PuB, PuC, PuD, PuE, PuF, PuG, PuH, PuJ, PuK, PuI, PuL. No condition. -/
import Derived.Test.YtnalegahabfglaaDoorPuA
import Derived.Test.YtnalegahabfglaaDoorPrFA
import Derived.KernelRfl
set_option linter.all false
set_option linter.unusedVariables false
set_option linter.unusedSimpArgs false
section
set_option linter.unusedSimpArgs false
open Go Go.Ab
namespace Go.Pu
theorem dropC {s : ByteArray} {i : Nat} {c : UInt8} {l : List UInt8} (h : (L s).drop i = c :: l) : i < s.size ∧ (L s).drop (i + 1) = l ∧ bt s (i : Int) = (c.toNat : Int) ∧ l.length = s.size - (i + 1) := by
  have hlt : i < (L s).length := by
    rcases Nat.lt_or_ge i (L s).length with h' | h'
    · exact h'
    · rw [List.drop_eq_nil_of_le h'] at h; cases h
  rw [List.drop_eq_getElem_cons hlt] at h
  injection h with h1 h2
  refine ⟨by rw [← L_len]; exact hlt, h2, ?_, ?_⟩
  · rw [bt_L, List.getD_eq_getElem?_getD, List.getElem?_eq_getElem hlt]; simp [h1]
  · rw [← h2, List.length_drop, L_len]
theorem dropN {s : ByteArray} {i : Nat} (h : (L s).drop i = []) : s.size ≤ i := by
  rw [← L_len]; exact List.drop_eq_nil_iff.1 h
theorem u8lt (c : UInt8) : c.toNat < 256 := c.toNat_lt

/-! bytes of records -/
def okB (c : UInt8) : Bool := decide (32 ≤ c.toNat) && decide (c.toNat ≤ 126) && !(c.toNat == 35)
theorem isPlain_loop (n0 : Nat) (s : ByteArray) (hs : s.size < 2 ^ 40) : ∀ (l : List UInt8) (i n : Nat), (L s).drop i = l → l.length < n →
    impl_isPlain.l2 n0 (fun y => some y) (some true) n s (s.size : Int) (i : Int) = some (l.all okB)
  | [], i, n + 1, h, hn => by
    have := dropN h
    simp (disch := omega) only [impl_isPlain.l2, impl_isPlain.l2S, dT, dF, cond_false, cond_true]; rfl
  | c :: l, i, n + 1, h, hn => by
    obtain ⟨h1, h2, h3, h4⟩ := dropC h
    have ih := isPlain_loop n0 s hs l (i + 1) n h2 (by simp at hn; omega)
    have hw : IntKind.wrap .i64 ((i : Int) + 1) = ((i + 1 : Nat) : Int) := by rw [w64 (by omega) (by omega)]; omega
    simp only [List.all_cons, okB]
    simp (disch := omega) only [impl_isPlain.l2, impl_isPlain.l2S, h3, dT, cond_true, Bool.and_self, hw, ih]
    by_cases a : c.toNat < 32
    · simp (disch := omega) only [dT, dF, cond_true, Bool.false_and]
    · by_cases b : 126 < c.toNat
      · simp (disch := omega) only [dT, dF, cond_true, cond_false, Bool.false_and, Bool.and_false]
      · by_cases d : c.toNat = 35
        · simp (disch := omega) only [dT, dF, cond_true, cond_false, beqT]; simp [d]
        · simp (disch := omega) only [dT, dF, cond_true, cond_false, beqF]; simp [d]
theorem isPlain_eq (n0 : Nat) (s : ByteArray) (hs : s.size < 2 ^ 40) (hn : s.size < n0) : impl_isPlain.f n0 s = some ((L s).all okB) :=
  isPlain_loop n0 s hs (L s) 0 n0 rfl (by rw [L_len]; exact hn)
theorem l1In_eq (n0 : Nat) (x a b : Int) : spec_l1In.f n0 x a b = some (decide (a ≤ x) && decide (x ≤ b)) := by
  unfold spec_l1In.f
  by_cases h : x ≥ a
  · have h' : a ≤ x := h
    simp [h, h']
  · have h' : ¬ a ≤ x := h
    simp [h, h']
theorem l12Bytes_loop (n0 : Nat) (s : ByteArray) (m : Int) (hs : s.size < 2 ^ 40) : ∀ (l : List UInt8) (i n : Nat), (L s).drop i = l → l.length < n →
    spec_l12Bytes.l2 n0 (fun y13 y14 y15 => some y15) (fun y16 y17 => some (Decidable.decide ((↑(ByteArray.size y16) : Int) ≤ y17))) n s m (i : Int) = some (l.all okB && decide ((s.size : Int) ≤ m))
  | [], i, n + 1, h, hn => by
    have := dropN h
    simp (disch := omega) only [spec_l12Bytes.l2, spec_l12Bytes.l2S, dF, cond_false, List.all_nil, Bool.true_and]
  | c :: l, i, n + 1, h, hn => by
    obtain ⟨h1, h2, h3, h4⟩ := dropC h
    have ih := l12Bytes_loop n0 s m hs l (i + 1) n h2 (by simp at hn; omega)
    have hw : IntKind.wrap .i64 ((i : Int) + 1) = ((i + 1 : Nat) : Int) := by rw [w64 (by omega) (by omega)]; omega
    have hc := u8lt c
    have hw2 : IntKind.wrap .i64 (c.toNat : Int) = (c.toNat : Int) := w64 (by omega) (by omega)
    simp only [List.all_cons, okB]
    simp (disch := omega) only [spec_l12Bytes.l2, spec_l12Bytes.l2S, h3, hw2, l1In_eq, bind_some', dT, cond_true, Bool.and_self, hw, ih]
    by_cases a : c.toNat < 32
    · simp (disch := omega) only [dT, dF, cond_true, Bool.false_and, Bool.not_false]
    · by_cases b : 126 < c.toNat
      · simp (disch := omega) only [dT, dF, cond_true, cond_false, Bool.false_and, Bool.and_false, Bool.not_false]
      · by_cases d : c.toNat = 35
        · simp (disch := omega) only [dT, dF, cond_true, cond_false, beqT, Bool.and_self, Bool.not_true]; simp [d]
        · have e : (c.toNat == 35) = false := by simpa using d
          simp (disch := omega) only [dT, dF, cond_true, cond_false, beqF, Bool.and_self, Bool.not_true, e, Bool.not_false, Bool.true_and]
theorem l12Bytes_eq (n0 : Nat) (s : ByteArray) (m : Int) (hs : s.size < 2 ^ 40) (hn : s.size < n0) : spec_l12Bytes.f n0 s m = some ((L s).all okB && decide ((s.size : Int) ≤ m)) :=
  l12Bytes_loop n0 s m hs (L s) 0 n0 rfl (by rw [L_len]; exact hn)
/-! does a byte stand in a text -/
def hasB (l : List UInt8) (b : Nat) : Bool := l.any fun c => c.toNat == b
theorem stands_loop (n0 : Nat) (s : ByteArray) (b : Nat) (hs : s.size < 2 ^ 40) : ∀ (l : List UInt8) (i n : Nat), (L s).drop i = l → l.length < n →
    spec_l1Stands.l2 n0 (fun y12 => some y12) (some false) n s (b : Int) (i : Int) = some (hasB l b)
  | [], i, n + 1, h, hn => by
    have := dropN h
    simp (disch := omega) only [spec_l1Stands.l2, spec_l1Stands.l2S, dF, cond_false]; rfl
  | c :: l, i, n + 1, h, hn => by
    obtain ⟨h1, h2, h3, h4⟩ := dropC h
    have ih := stands_loop n0 s b hs l (i + 1) n h2 (by simp at hn; omega)
    have hw : IntKind.wrap .i64 ((i : Int) + 1) = ((i + 1 : Nat) : Int) := by rw [w64 (by omega) (by omega)]; omega
    simp only [hasB, List.any_cons] at ih ⊢
    simp (disch := omega) only [spec_l1Stands.l2, spec_l1Stands.l2S, h3, dT, cond_true, Bool.and_self, hw, ih]
    by_cases d : c.toNat = b
    · simp (disch := omega) only [beqT, cond_true]; simp [d]
    · simp (disch := omega) only [beqF, cond_false]; simp [d]
theorem stands_eq (n0 : Nat) (s : ByteArray) (b : Nat) (hs : s.size < 2 ^ 40) (hn : s.size < n0) : spec_l1Stands.f n0 s (b : Int) = some (hasB (L s) b) :=
  stands_loop n0 s b hs (L s) 0 n0 rfl (by rw [L_len]; exact hn)
theorem index_one (c : UInt8) : ∀ (l : List UInt8), Lib.index l [c] = match l.findIdx? (fun x => x.toNat == c.toNat) with | some j => (j : Int) | none => -1
  | [] => rfl
  | x :: l => by
    have ih := index_one c l
    unfold Lib.index
    rw [List.findIdx?_cons]
    by_cases h : x = c
    · subst h; simp [List.isPrefixOf]
    · have hne : ¬ x.toNat = c.toNat := fun e => h (UInt8.toNat_inj.1 e)
      have hp : List.isPrefixOf [c] (x :: l) = false := by simp [List.isPrefixOf]; exact fun e => h e.symm
      have hb : (x.toNat == c.toNat) = false := by simpa using hne
      simp only [hp, ih, hb]
      cases hf : l.findIdx? (fun x => x.toNat == c.toNat) with
      | none => simp
      | some j => simp
theorem contains_eq (n0 : Nat) (s : ByteArray) (c : UInt8) (hs : s.size < 4294967281) : strings_Contains.f n0 s ⟨#[c]⟩ = some (hasB (L s) c.toNat) := by
  simp only [strings_Contains.f, hs, decide_true, cond_true, Lib.contains, index_one]
  unfold hasB
  rw [← List.findIdx?_isSome]
  cases (L s).findIdx? (fun x => x.toNat == c.toNat) with
  | none => simp
  | some j => simp
/-- What stands before the first byte b, and behind it. -/
def cutL (b : Nat) : List UInt8 → List UInt8 × List UInt8 × Bool
  | [] => ([], [], false)
  | c :: l => if c.toNat = b then ([], l, true) else (c :: (cutL b l).1, (cutL b l).2.1, (cutL b l).2.2)
theorem cut_one (c : UInt8) : ∀ (l : List UInt8), (match l.findIdx? (fun x => x.toNat == c.toNat) with | some j => (l.take j, l.drop (j + 1), true) | none => (l, [], false)) = cutL c.toNat l
  | [] => rfl
  | x :: l => by
    have ih := cut_one c l
    rw [List.findIdx?_cons]
    unfold cutL
    by_cases h : x.toNat = c.toNat
    · simp [h]
    · have hb : (x.toNat == c.toNat) = false := by simpa using h
      simp only [hb, h, if_false]
      rw [← ih]
      cases l.findIdx? (fun x => x.toNat == c.toNat) with
      | none => simp
      | some j => simp
def cutB (s : ByteArray) (b : Nat) : ByteArray × ByteArray × Bool := (⟨(cutL b (L s)).1.toArray⟩, ⟨(cutL b (L s)).2.1.toArray⟩, (cutL b (L s)).2.2)
theorem cut_eq (n0 : Nat) (s : ByteArray) (c : UInt8) (hs : s.size < 4294967281) : strings_Cut.f n0 s ⟨#[c]⟩ = some (cutB s c.toNat) := by
  have := cut_one c (L s)
  simp only [strings_Cut.f, hs, decide_true, cond_true, Lib.cut, index_one, cutB]
  rw [← this]
  cases hf : List.findIdx? (fun x => x.toNat == c.toNat) s.data.toList with
  | none => simp [hf]
  | some j => simp [hf]
/-! split -/
def splitA (b : Nat) : List UInt8 → List UInt8 → List (List UInt8)
  | cur, [] => [cur]
  | cur, c :: l => if c.toNat = b then cur :: splitA b [] l else splitA b (cur ++ [c]) l
def strA (l : List UInt8) : AV := .str ⟨l.toArray⟩
@[simp] theorem oneA_str (s : ByteArray) : oneA (.str s) = true := rfl
@[simp] theorem oneA_strA (l : List UInt8) : oneA (strA l) = true := rfl
@[simp] theorem oneA_int (k : IntKind) (n : Int) : oneA (.int k n) = true := rfl
theorem take_extract {s : ByteArray} {a i : Nat} : (AV.str (s.extract a i)) = strA (((L s).take i).drop a) := by
  unfold strA; congr 1; exact L_inj (by rw [L_extract, L_mk])
theorem split_loop (n0 : Nat) (s : ByteArray) (b : Nat) (hs : s.size < 2 ^ 36) (k : ByteArray → Nat → Int → List AV → Option (List AV × Nat))
    (hk : ∀ (a x : Nat) (out : List AV), a ≤ s.size → x ≤ s.size → out.length = x → k s x (a : Int) out = some (out ++ [strA ((L s).drop a)], x + 1)) :
    ∀ (l : List UInt8) (i n a x : Nat) (out : List AV), (L s).drop i = l → i ≤ s.size → l.length < n → a ≤ i → x ≤ i → out.length = x →
    spec_l1Split.l4 n0 k n s (b : Int) x (a : Int) (i : Int) out =
      some (out ++ (splitA b (((L s).take i).drop a) l).map strA, x + (splitA b (((L s).take i).drop a) l).length)
  | [], i, n + 1, a, x, out, h, hi, hn, ha, hx, ho => by
    have hd := dropN h
    have hi' : s.size = i := by omega
    have ht : (L s).take i = L s := List.take_of_length_le (by rw [L_len]; omega)
    simp (disch := omega) only [spec_l1Split.l4, spec_l1Split.l4S, dF, cond_false, hk, ht]
    simp only [splitA, List.map_cons, List.map_nil, List.length_cons, List.length_nil]
  | c :: l, i, n + 1, a, x, out, h, hi, hn, ha, hx, ho => by
    obtain ⟨h1, h2, h3, h4⟩ := dropC h
    have hn' : l.length < n := by simp at hn; omega
    have hw : IntKind.wrap .i64 ((i : Int) + 1) = ((i + 1 : Nat) : Int) := by rw [w64 (by omega) (by omega)]; omega
    have hlt : i < (L s).length := by rw [L_len]; exact h1
    have hge : (L s)[i] = c := by rw [List.drop_eq_getElem_cons hlt] at h; injection h
    simp only [splitA]
    by_cases d : c.toNat = b
    · have ih := split_loop n0 s b hs k hk l (i + 1) n (i + 1) (x + 1) (out ++ [strA (((L s).take i).drop a)]) h2 (by omega) hn' (by omega) (by omega) (by simp [ho])
      have hnil : ((L s).take (i + 1)).drop (i + 1) = [] := List.drop_eq_nil_of_le (by simp; omega)
      rw [hnil] at ih
      simp (disch := omega) only [spec_l1Split.l4, spec_l1Split.l4S, h3, dT, beqT, cond_true, Bool.and_self, List.length_cons, List.length_nil, List.all_cons, List.all_nil, oneA_str, oneA_strA, Nat.mul_one, Int.toNat_natCast, ho, Nat.zero_add, List.take_of_length_le (Nat.le_of_eq ho), hw, take_extract, ih, d, if_true, decide_true]
      simp only [List.append_assoc, List.singleton_append, List.map_cons, List.length_cons]
      rw [Nat.add_assoc, Nat.add_comm 1 (List.length _)]
    · have ih := split_loop n0 s b hs k hk l (i + 1) n a x out h2 (by omega) hn' (by omega) (by omega) ho
      have hsn : ((L s).take (i + 1)).drop a = ((L s).take i).drop a ++ [c] := by
        rw [List.take_succ_eq_append_getElem hlt, hge, List.drop_append_of_le_length (by rw [List.length_take, L_len]; omega)]
      rw [hsn] at ih
      simp (disch := omega) only [spec_l1Split.l4, spec_l1Split.l4S, h3, dT, beqF, cond_true, cond_false, Bool.and_self, hw, ih, d, if_false]
theorem split_eq (n0 : Nat) (s : ByteArray) (b : Nat) (hs : s.size < 2 ^ 36) (hn : s.size < n0) : spec_l1Split.f n0 s (b : Int) = some ((splitA b [] (L s)).map strA, (splitA b [] (L s)).length) := by
  unfold spec_l1Split.f
  refine (split_loop n0 s b hs _ ?_ (L s) 0 n0 0 0 [] rfl (Nat.zero_le _) (by rw [L_len]; exact hn) (Nat.le_refl _) (Nat.le_refl _) rfl).trans ?_
  · intro a x out ha hx ho
    have ht : (L s).take s.size = L s := List.take_of_length_le (by rw [L_len]; omega)
    simp (disch := omega) only [dT, cond_true, Bool.and_self, List.length_cons, List.length_nil, List.all_cons, List.all_nil, oneA_str, oneA_strA, Nat.mul_one, Int.toNat_natCast, ho, Nat.zero_add, List.take_of_length_le (Nat.le_of_eq ho), decide_true, take_extract, ht]
    rw [List.take_of_length_le (by simp [ho])]
  · simp
end Go.Pu
end

section
set_option linter.unusedSimpArgs false
open Go Go.Ab
namespace Go.Pu
abbrev B (l : List UInt8) : ByteArray := ByteArray.mk (List.toArray l)
theorem B_append (l m : List UInt8) : B l ++ B m = B (l ++ m) := L_inj (by rw [L_append])
theorem B_size (l : List UInt8) : (B l).size = l.length := by simp [B, size_mk]
theorem B_toList (l : List UInt8) : ByteArray.toList (B l) = l := by rw [toList_L]
theorem B_extract (l : List UInt8) (i j : Nat) : (B l).extract i j = B ((l.take j).drop i) := L_inj (by rw [L_extract])
theorem B_L (s : ByteArray) : B (L s) = s := L_inj rfl
theorem L_B (l : List UInt8) : L (B l) = l := rfl
def sumL : Int → List UInt8 → Int
  | h, [] => h
  | h, c :: l => sumL ((41 * h + (c.toNat : Int) + 1) % 999979) l
theorem sumL_range : ∀ (l : List UInt8) (h : Int), 0 ≤ h → h < 999979 → 0 ≤ sumL h l ∧ sumL h l < 999979
  | [], h, h0, h1 => ⟨h0, h1⟩
  | c :: l, h, h0, h1 => sumL_range l _ (by omega) (by omega)
theorem step_eq {h : Int} {c : UInt8} (h0 : 0 ≤ h) (h1 : h < 999979) :
    Int.tmod (IntKind.wrap .i64 (IntKind.wrap .i64 (IntKind.wrap .i64 (41 * h) + IntKind.wrap .i64 (c.toNat : Int)) + 1)) 999979 = (41 * h + (c.toNat : Int) + 1) % 999979 := by
  have hc := u8lt c
  rw [w64 (n := 41 * h) (by omega) (by omega), w64 (n := (c.toNat : Int)) (by omega) (by omega), w64 (n := 41 * h + (c.toNat : Int)) (by omega) (by omega), w64 (by omega) (by omega)]
  rw [Int.tmod_eq_emod_of_nonneg (by omega)]
theorem l1Sum_loop (n0 : Nat) (s : ByteArray) (hs : s.size < 2 ^ 40) : ∀ (l : List UInt8) (i n : Nat) (h : Int), (L s).drop i = l → l.length < n → 0 ≤ h → h < 999979 →
    spec_l1Sum.l3 n0 (fun y => some y) n s h (i : Int) = some (sumL h l)
  | [], i, n + 1, h, hd, hn, h0, h1 => by
    have := dropN hd
    simp (disch := omega) only [spec_l1Sum.l3, spec_l1Sum.l3S, dF, cond_false, sumL]
  | c :: l, i, n + 1, h, hd, hn, h0, h1 => by
    obtain ⟨g1, g2, g3, g4⟩ := dropC hd
    have hw : IntKind.wrap .i64 ((i : Int) + 1) = ((i + 1 : Nat) : Int) := by rw [w64 (by omega) (by omega)]; omega
    have ih := l1Sum_loop n0 s hs l (i + 1) n ((41 * h + (c.toNat : Int) + 1) % 999979) g2 (by simp at hn; omega) (by omega) (by omega)
    simp (disch := omega) only [spec_l1Sum.l3, spec_l1Sum.l3S, g3, dT, cond_true, Bool.and_self, hw, step_eq, ih, sumL]
theorem checksum_loop (n0 : Nat) (s : ByteArray) (hs : s.size < 2 ^ 40) : ∀ (l : List UInt8) (i n : Nat) (h : Int), (L s).drop i = l → l.length < n → 0 ≤ h → h < 999979 →
    impl_checksum.l3 n0 (fun y => some y) n s h (s.size : Int) (i : Int) = some (sumL h l)
  | [], i, n + 1, h, hd, hn, h0, h1 => by
    have := dropN hd
    simp (disch := omega) only [impl_checksum.l3, impl_checksum.l3S, dF, cond_false, sumL]
  | c :: l, i, n + 1, h, hd, hn, h0, h1 => by
    obtain ⟨g1, g2, g3, g4⟩ := dropC hd
    have hw : IntKind.wrap .i64 ((i : Int) + 1) = ((i + 1 : Nat) : Int) := by rw [w64 (by omega) (by omega)]; omega
    have ih := checksum_loop n0 s hs l (i + 1) n ((41 * h + (c.toNat : Int) + 1) % 999979) g2 (by simp at hn; omega) (by omega) (by omega)
    simp (disch := omega) only [impl_checksum.l3, impl_checksum.l3S, g3, dT, cond_true, Bool.and_self, hw, step_eq, ih, sumL]
/-! numbers -/
abbrev dg (n : Nat) : List UInt8 := Lib.decDigits n
theorem dg_small {n : Nat} (h : n < 10) : dg n = [UInt8.ofNat (48 + n)] := by
  unfold dg; rw [Lib.decDigits, dif_pos h]
theorem dg_big {n : Nat} (h : ¬ n < 10) : dg n = dg (n / 10) ++ [UInt8.ofNat (48 + n % 10)] := by
  unfold dg; conv => lhs; rw [Lib.decDigits, dif_neg h]
theorem digit_extract (d : Nat) (hd : d < 10) : ByteArray.extract ⟨#[48, 49, 50, 51, 52, 53, 54, 55, 56, 57]⟩ d (d + 1) = B [UInt8.ofNat (48 + d)] := by
  match d, hd with
  | 0, _ => rfl | 1, _ => rfl | 2, _ => rfl | 3, _ => rfl | 4, _ => rfl | 5, _ => rfl | 6, _ => rfl | 7, _ => rfl | 8, _ => rfl | 9, _ => rfl
theorem dg_len : ∀ (e n : Nat), n < 10 ^ (e + 1) → (dg n).length ≤ e + 1
  | 0, n, h => by rw [dg_small (by simpa using h)]; simp
  | e + 1, n, h => by
    by_cases hs : n < 10
    · rw [dg_small hs]; simp
    · rw [dg_big hs, List.length_append]
      have := dg_len e (n / 10) (by rw [Nat.pow_succ] at h; omega)
      simp; omega
theorem dg_ne (n : Nat) : dg n ≠ [] := by
  by_cases h : n < 10
  · rw [dg_small h]; simp
  · rw [dg_big h]; simp
theorem dg_mem : ∀ (n : Nat), ∀ c ∈ dg n, 48 ≤ c.toNat ∧ c.toNat ≤ 57 := by
  intro n
  induction n using Nat.strongRecOn with
  | _ n ih =>
    intro c hc
    have one : ∀ d, d < 10 → 48 ≤ (UInt8.ofNat (48 + d)).toNat ∧ (UInt8.ofNat (48 + d)).toNat ≤ 57 := fun d hd => by
      rw [UInt8.toNat_ofNat_of_lt' (by simp [UInt8.size]; omega)]; omega
    by_cases h : n < 10
    · rw [dg_small h] at hc; rw [List.mem_singleton.1 hc]; exact one n h
    · rw [dg_big h] at hc
      rcases List.mem_append.1 hc with hc | hc
      · exact ih (n / 10) (by omega) c hc
      · rw [List.mem_singleton.1 hc]; exact one _ (by omega)
theorem l1Num_eq : ∀ (n : Nat) (f : Nat), n < 2 ^ 36 → n < f → spec_l1Num.f f (n : Int) = some (B (dg n)) := by
  intro n
  induction n using Nat.strongRecOn with
  | _ n ih =>
    intro f hb hf
    obtain ⟨f, rfl⟩ : ∃ g, f = g + 1 := ⟨f - 1, by omega⟩
    by_cases h : n < 10
    · have hw : IntKind.wrap .i64 ((n : Int) + 1) = ((n + 1 : Nat) : Int) := by rw [w64 (by omega) (by omega)]; omega
      simp (disch := omega) only [spec_l1Num.f, dF, cond_false, dT, cond_true, hw, Bool.and_self, Int.toNat_natCast, digit_extract, dg_small]
    · have e1 : Int.tdiv (n : Int) 10 = ((n / 10 : Nat) : Int) := by rw [Int.tdiv_eq_ediv_of_nonneg (by omega)]; omega
      have e2 : Int.tmod (n : Int) 10 = ((n % 10 : Nat) : Int) := by rw [Int.tmod_eq_emod_of_nonneg (by omega)]; omega
      have hw1 : IntKind.wrap .i64 ((n / 10 : Nat) : Int) = ((n / 10 : Nat) : Int) := w64 (by omega) (by omega)
      have hw : IntKind.wrap .i64 (((n % 10 : Nat) : Int) + 1) = ((n % 10 + 1 : Nat) : Int) := by rw [w64 (by omega) (by omega)]; omega
      have hl := dg_len 12 (n / 10) (by omega)
      simp (disch := omega) only [spec_l1Num.f, dF, cond_false, e1, e2, hw1, ih (n / 10) (by omega) f (by omega) (by omega), bind_some', hw, dT, Bool.and_self, cond_true, Int.toNat_natCast, digit_extract, B_size, List.length_cons, List.length_nil]
      rw [B_append, ← dg_big h]
theorem itoa_eq (f n : Nat) (hb : n < 2 ^ 36) : strconv_Itoa.f f (n : Int) = some (B (dg n)) := by
  have h3 : ¬ ((n : Int) < 0) := by omega
  simp (disch := omega) only [strconv_Itoa.f, dT, Bool.and_self, cond_true, Lib.itoa, h3, if_false, Int.toNat_natCast]
/-- A text with its checksum behind it. -/
def sealL (l : List UInt8) : List UInt8 := l ++ [35] ++ dg (sumL 7 l).toNat
theorem sealL_len (l : List UInt8) : (sealL l).length ≤ l.length + 7 := by
  have h := sumL_range l 7 (by omega) (by omega)
  have := dg_len 5 (sumL 7 l).toNat (by omega)
  simp [sealL]; omega
theorem seal_eq (n0 : Nat) (l : List UInt8) (hs : l.length < 2 ^ 36) (hn : 2 ^ 40 ≤ n0) : spec_l1Seal.f n0 (B l) = some (B (sealL l)) := by
  have h := sumL_range l 7 (by omega) (by omega)
  have hl := dg_len 5 (sumL 7 l).toNat (by omega)
  have e1 : spec_l1Sum.f n0 (B l) = some (((sumL 7 l).toNat : Nat) : Int) := by
    rw [Int.toNat_of_nonneg h.1]
    exact l1Sum_loop n0 (B l) (by rw [B_size]; omega) l 0 n0 7 rfl (by omega) (by omega) (by omega)
  have e2 := l1Num_eq (sumL 7 l).toNat n0 (by omega) (by omega)
  simp (disch := omega) only [spec_l1Seal.f, e1, e2, bind_some', B_append, B_size, List.length_append, List.length_cons, List.length_nil, dT, cond_true, sealL]
theorem append_eq (n0 : Nat) (l : List UInt8) (hs : l.length < 2 ^ 31) (hn : 2 ^ 40 ≤ n0) : impl_AppendChecksum.f n0 (B l) =
    some (if decide (l.length ≤ 4000) && !hasB l 35 && decide ((sealL l).length ≤ 4000) then (B (sealL l), true) else (B [], false)) := by
  have h := sumL_range l 7 (by omega) (by omega)
  have hl := dg_len 5 (sumL 7 l).toNat (by omega)
  have e1 : impl_checksum.f n0 (B l) = some (((sumL 7 l).toNat : Nat) : Int) := by
    rw [Int.toNat_of_nonneg h.1]
    exact checksum_loop n0 (B l) (by rw [B_size]; omega) l 0 n0 7 rfl (by omega) (by omega) (by omega)
  have e2 := itoa_eq n0 (sumL 7 l).toNat (by omega)
  have e3 := contains_eq n0 (B l) 35 (by rw [B_size]; omega)
  rw [L_B] at e3
  have e4 : (35 : UInt8).toNat = 35 := rfl
  rw [e4] at e3
  by_cases a : l.length ≤ 4000
  · cases b : hasB l 35
    · rw [b] at e3
      by_cases c : (sealL l).length ≤ 4000
      · have c' : (l ++ [35] ++ dg (sumL 7 l).toNat).length ≤ 4000 := c
        simp only [List.length_append, List.length_cons, List.length_nil] at c'
        simp (disch := omega) only [impl_AppendChecksum.f, e1, e2, e3, bind_some', B_append, B_size, List.length_append, List.length_cons, List.length_nil, dT, dF, cond_true, cond_false, sealL, Bool.not_false, Bool.and_self, if_true]
      · have c' : ¬ (l ++ [35] ++ dg (sumL 7 l).toNat).length ≤ 4000 := c
        simp only [List.length_append, List.length_cons, List.length_nil] at c'
        simp (disch := omega) only [impl_AppendChecksum.f, e1, e2, e3, bind_some', B_append, B_size, List.length_append, List.length_cons, List.length_nil, dT, dF, cond_true, cond_false, sealL, Bool.not_false, Bool.and_false, Bool.false_eq_true, if_false]
    · rw [b] at e3
      simp (disch := omega) only [impl_AppendChecksum.f, e3, bind_some', B_size, dT, dF, cond_true, cond_false, Bool.not_true, Bool.and_false, Bool.false_and, Bool.false_eq_true, if_false]
  · simp (disch := omega) only [impl_AppendChecksum.f, B_size, dT, dF, cond_true, Bool.false_and, Bool.false_eq_true, if_false]
end Go.Pu
end

section
set_option linter.unusedSimpArgs false
open Go Go.Ab
namespace Go.Pu
theorem hasB_append (x y : List UInt8) (b : Nat) : hasB (x ++ y) b = (hasB x b || hasB y b) := by simp [hasB]
theorem hasB_cons (c : UInt8) (y : List UInt8) (b : Nat) : hasB (c :: y) b = (c.toNat == b || hasB y b) := by simp [hasB]
theorem hasB_nil (b : Nat) : hasB [] b = false := rfl
theorem hasB_dg (n b : Nat) (h : b < 48 ∨ 57 < b) : hasB (dg n) b = false := by
  rw [hasB, List.any_eq_false]
  intro c hc
  have := dg_mem n c hc
  simp; omega
theorem hasB_ok {l : List UInt8} (h : l.all okB = true) (b : Nat) (hb : b < 32 ∨ 126 < b ∨ b = 35) : hasB l b = false := by
  rw [hasB, List.any_eq_false]
  intro c hc
  have := List.all_eq_true.1 h c hc
  simp [okB] at this
  simp; omega
theorem cutL_append {b : Nat} {c : UInt8} (hc : c.toNat = b) : ∀ (x y : List UInt8), hasB x b = false → cutL b (x ++ c :: y) = (x, y, true)
  | [], y, _ => by simp [cutL, hc]
  | d :: x, y, h => by
    rw [hasB_cons, Bool.or_eq_false_iff] at h
    have hd : ¬ d.toNat = b := by simpa using h.1
    simp only [List.cons_append, cutL, hd, if_false, cutL_append hc x y h.2]
theorem cutL_none {b : Nat} : ∀ (x : List UInt8), hasB x b = false → cutL b x = (x, [], false)
  | [], _ => rfl
  | d :: x, h => by
    rw [hasB_cons, Bool.or_eq_false_iff] at h
    have hd : ¬ d.toNat = b := by simpa using h.1
    simp only [cutL, hd, if_false, cutL_none x h.2]
theorem cutL_yes {b : Nat} : ∀ (x : List UInt8), (cutL b x).2.2 = true → ∃ c : UInt8, c.toNat = b ∧ x = (cutL b x).1 ++ c :: (cutL b x).2.1
  | [], h => by simp [cutL] at h
  | d :: x, h => by
    unfold cutL at h ⊢
    by_cases hd : d.toNat = b
    · simp only [hd, if_true]; exact ⟨d, hd, rfl⟩
    · simp only [hd, if_false] at h ⊢
      obtain ⟨c, h1, h2⟩ := cutL_yes x h
      exact ⟨c, h1, by rw [List.cons_append, ← h2]⟩
theorem cutL_no {b : Nat} : ∀ (x : List UInt8), (cutL b x).2.2 = false → cutL b x = (x, [], false)
  | [], _ => rfl
  | d :: x, h => by
    unfold cutL at h ⊢
    by_cases hd : d.toNat = b
    · simp [hd] at h
    · simp only [hd, if_false] at h ⊢
      rw [cutL_no x h]
theorem cutL_len (b : Nat) : ∀ (x : List UInt8), (cutL b x).1.length ≤ x.length ∧ (cutL b x).2.1.length ≤ x.length
  | [] => by simp [cutL]
  | d :: x => by
    have := cutL_len b x
    unfold cutL
    by_cases hd : d.toNat = b
    · simp [hd]
    · simp only [hd, if_false, List.length_cons]; omega
theorem u8_of {c : UInt8} {n : Nat} (h : c.toNat = n) (hn : n < 256) : c = UInt8.ofNat n := by
  apply UInt8.toNat_inj.1
  rw [h, UInt8.toNat_ofNat_of_lt' (by simpa [UInt8.size] using hn)]
theorem splitA_head (b : Nat) : ∀ (l cur : List UInt8), ∃ t, splitA b cur l = (cur ++ (cutL b l).1) :: t ∧ ((cutL b l).2.2 = false → t = []) ∧ ((cutL b l).2.2 = true → t ≠ [])
  | [], cur => ⟨[], by simp [splitA, cutL], fun _ => rfl, fun h => by simp [cutL] at h⟩
  | c :: l, cur => by
    unfold splitA cutL
    by_cases h : c.toNat = b
    · simp only [h, if_true]
      refine ⟨splitA b [] l, by simp, fun h => by simp at h, fun _ => ?_⟩
      obtain ⟨t, ht, _⟩ := splitA_head b l []
      rw [ht]; simp
    · simp only [h, if_false]
      obtain ⟨t, ht, h1, h2⟩ := splitA_head b l (cur ++ [c])
      exact ⟨t, by rw [ht]; simp, h1, h2⟩
/-! records -/
def validE (c r : List UInt8) : Bool := decide (1 ≤ c.length) && (decide (c.length ≤ 160) && (c.all okB && (!hasB c 64 && (r.all okB && decide (r.length ≤ 250)))))
def bodyE (k : Nat) (c r : List UInt8) : List UInt8 := dg k ++ [32] ++ c ++ [64] ++ r
def lineE (k : Nat) (c r : List UInt8) : List UInt8 := sealL (bodyE k c r) ++ [10]
structure ValidE (c r : List UInt8) : Prop where
  h1 : 1 ≤ c.length
  h2 : c.length ≤ 160
  h3 : c.all okB = true
  h4 : hasB c 64 = false
  h5 : r.all okB = true
  h6 : r.length ≤ 250
theorem validE_iff {c r : List UInt8} : validE c r = true ↔ ValidE c r := by
  unfold validE
  simp only [Bool.and_eq_true, decide_eq_true_eq, Bool.not_eq_true']
  exact ⟨fun ⟨a, b, c, d, e, f⟩ => ⟨a, b, c, d, e, f⟩, fun ⟨a, b, c, d, e, f⟩ => ⟨a, b, c, d, e, f⟩⟩
theorem nil_list (c : List UInt8) : (!(c == [])) = decide (1 ≤ c.length) := by cases c <;> simp
theorem record_spec (n0 : Nat) (c r : List UInt8) (hc : c.length < 2 ^ 31) (hr : r.length < 2 ^ 31) (hn : 2 ^ 40 ≤ n0) : spec_l12Record.f n0 (B c) (B r) = some (validE c r) := by
  have e1 := l12Bytes_eq n0 (B c) 160 (by rw [B_size]; omega) (by rw [B_size]; omega)
  have e2 := stands_eq n0 (B c) 64 (by rw [B_size]; omega) (by rw [B_size]; omega)
  have e3 := l12Bytes_eq n0 (B r) 250 (by rw [B_size]; omega) (by rw [B_size]; omega)
  have e4 : ((64 : Nat) : Int) = 64 := rfl
  rw [L_B, B_size] at e1 e3
  rw [L_B, e4] at e2
  have e5 : ((c.length : Int) ≤ 160) = (c.length ≤ 160) := by simp; omega
  have e6 : ((r.length : Int) ≤ 250) = (r.length ≤ 250) := by simp; omega
  simp only [spec_l12Record.f, e1, e2, e3, bind_some', B_toList, nil_list, e5, e6, validE]
  cases decide (1 ≤ c.length) <;> cases decide (c.length ≤ 160) <;> cases c.all okB <;> cases hasB c 64 <;> rfl
theorem record_impl (n0 : Nat) (c r : List UInt8) (hc : c.length < 2 ^ 31) (hr : r.length < 2 ^ 31) (hn : 2 ^ 40 ≤ n0) : impl_IsValidRecord.f n0 (B c) (B r) = some (validE c r) := by
  have e1 := isPlain_eq n0 (B c) (by rw [B_size]; omega) (by rw [B_size]; omega)
  have e2 := contains_eq n0 (B c) 64 (by rw [B_size]; omega)
  have e3 := isPlain_eq n0 (B r) (by rw [B_size]; omega) (by rw [B_size]; omega)
  have e4 : (64 : UInt8).toNat = 64 := rfl
  rw [L_B] at e1 e3
  rw [L_B, e4] at e2
  have e5 : ((c.length : Int) ≤ 160) = (c.length ≤ 160) := by simp; omega
  have e6 : ((r.length : Int) ≤ 250) = (r.length ≤ 250) := by simp; omega
  have e7 : ((c.length : Int) ≥ 1) = (1 ≤ c.length) := by simp; omega
  simp only [impl_IsValidRecord.f, impl_isCommand.f, e1, e2, e3, bind_some', B_size, e5, e6, e7, validE]
  cases decide (1 ≤ c.length) <;> cases decide (c.length ≤ 160) <;> cases c.all okB <;> cases hasB c 64 <;> simp only [cond_true, cond_false, bind_some', Bool.not_true, Bool.not_false, Bool.and_true, Bool.true_and, Bool.false_and, Bool.and_false]
  cases decide (r.length ≤ 250) <;> cases r.all okB <;> rfl
theorem body_len {k : Nat} {c r : List UInt8} (hv : ValidE c r) (hk : k < 100) : (bodyE k c r).length ≤ 420 := by
  have := dg_len 1 k (by omega)
  have := hv.h2; have := hv.h6
  simp [bodyE]; omega
theorem body_no {k : Nat} {c r : List UInt8} (hv : ValidE c r) (b : Nat) (hb : b < 32 ∨ 126 < b ∨ b = 35) : hasB (bodyE k c r) b = false := by
  have h1 := hasB_dg k b (by omega)
  have h2 := hasB_ok hv.h3 b hb
  have h3 := hasB_ok hv.h5 b hb
  simp only [bodyE, hasB_append, h1, h2, h3, hasB_cons, hasB_nil]
  have e1 : (32 : UInt8).toNat = 32 := rfl
  have e2 : (64 : UInt8).toNat = 64 := rfl
  rw [e1, e2]
  simp; omega
theorem encode_impl (n0 k : Nat) (c r : List UInt8) (hc : c.length < 2 ^ 31) (hr : r.length < 2 ^ 31) (hn : 2 ^ 40 ≤ n0) (hk : k ≤ 1000) :
    impl_EncodeRecord.f n0 (k : Int) (B c) (B r) = some (if decide (k < 60) && validE c r then (B (lineE k c r), true) else (B [], false)) := by
  have e0 := record_impl n0 c r hc hr hn
  have e1 := itoa_eq n0 k (by omega)
  by_cases a : k < 60
  · cases v : validE c r
    · rw [v] at e0
      simp (disch := omega) only [impl_EncodeRecord.f, e0, bind_some', dT, dF, cond_true, cond_false, Bool.not_false, Bool.and_false, Bool.false_eq_true, if_false]
    · rw [v] at e0
      have hv := validE_iff.1 v
      have h1 := body_len hv (k := k) (by omega)
      have h2 := sealL_len (bodyE k c r)
      have e2 := append_eq n0 (bodyE k c r) (by omega) hn
      rw [body_no hv 35 (by omega)] at e2
      simp (disch := omega) only [dT, Bool.and_self, Bool.not_false, if_true] at e2
      have h3 : (dg k ++ [32] ++ c ++ [64] ++ r).length ≤ 420 := h1
      simp only [List.length_append, List.length_cons, List.length_nil] at h3
      have e3 : dg k ++ [32] ++ c ++ [64] ++ r = bodyE k c r := rfl
      simp (disch := omega) only [impl_EncodeRecord.f, e0, e1, bind_some', dT, dF, cond_true, cond_false, Bool.not_true, Bool.and_self, if_true, B_append, B_size, List.length_append, List.length_cons, List.length_nil, e3, e2, lineE]
  · simp (disch := omega) only [impl_EncodeRecord.f, dT, dF, cond_true, cond_false, Bool.false_and, Bool.false_eq_true, if_false]
theorem line_spec (n0 k : Nat) (c r : List UInt8) (hc : c.length < 2 ^ 31) (hr : r.length < 2 ^ 31) (hn : 2 ^ 40 ≤ n0) (hk : k ≤ 1000) :
    spec_l12Line.f n0 (k : Int) (B c) (B r) = some (B (lineE k c r)) := by
  have h0 := dg_len 3 k (by omega)
  have e1 := l1Num_eq k n0 (by omega) (by omega)
  have e2 := seal_eq n0 (bodyE k c r) (by simp [bodyE]; omega) hn
  have h2 := sealL_len (bodyE k c r)
  have h3 : (bodyE k c r).length ≤ 2 ^ 33 := by simp [bodyE]; omega
  have e3 : dg k ++ [32] ++ c ++ [64] ++ r = bodyE k c r := rfl
  simp (disch := omega) only [spec_l12Line.f, e1, bind_some', dT, cond_true, B_append, B_size, List.length_append, List.length_cons, List.length_nil, e3, e2, lineE]
/-- The record at the beginning of a text. -/
def recAt (t : List UInt8) (k : Nat) : Option (List UInt8 × List UInt8) :=
  let line := (cutL 10 t).1
  let rest := (cutL 32 (cutL 35 line).1).2.1
  let e := cutL 64 rest
  if validE e.1 e.2.1 && (lineE k e.1 e.2.1).isPrefixOf t then some (e.1, e.2.1) else none
theorem parse_line (k : Nat) {c r : List UInt8} (hv : ValidE c r) (y : List UInt8) :
    cutL 10 (lineE k c r ++ y) = (sealL (bodyE k c r), y, true) ∧ (cutL 35 (sealL (bodyE k c r))).1 = bodyE k c r ∧
    cutL 32 (bodyE k c r) = (dg k, c ++ [64] ++ r, true) ∧ cutL 64 (c ++ [64] ++ r) = (c, r, true) := by
  refine ⟨?_, ?_, ?_, ?_⟩
  · unfold lineE
    rw [List.append_assoc]
    refine cutL_append (b := 10) (c := 10) rfl _ _ ?_
    simp only [sealL, hasB_append, body_no hv 10 (by omega), hasB_dg _ 10 (by omega), hasB_cons, hasB_nil]
    rfl
  · unfold sealL
    rw [List.append_assoc, List.cons_append, List.nil_append]
    rw [cutL_append (b := 35) (c := 35) rfl _ _ (body_no hv 35 (by omega))]
  · unfold bodyE
    rw [List.append_assoc, List.append_assoc, List.append_assoc]
    rw [List.cons_append, List.nil_append, cutL_append (b := 32) (c := 32) rfl _ _ (hasB_dg k 32 (by omega))]
    simp
  · rw [List.append_assoc, List.cons_append, List.nil_append]
    exact cutL_append (b := 64) (c := 64) rfl _ _ hv.h4
theorem recAt_of {t : List UInt8} {k : Nat} {c r : List UInt8} (hv : ValidE c r) (hp : lineE k c r <+: t) : recAt t k = some (c, r) := by
  obtain ⟨y, rfl⟩ := hp
  obtain ⟨h1, h2, h3, h4⟩ := parse_line k hv y
  have h5 : (lineE k c r).isPrefixOf (lineE k c r ++ y) = true := List.isPrefixOf_iff_prefix.2 (List.prefix_append _ _)
  simp only [recAt, h1, h2, h3, h4, validE_iff.2 hv, h5, Bool.and_self, if_true]
theorem recAt_some {t : List UInt8} {k : Nat} {c r : List UInt8} (h : recAt t k = some (c, r)) : ValidE c r ∧ lineE k c r <+: t := by
  simp only [recAt] at h
  split at h
  · rename_i hc
    rw [Bool.and_eq_true] at hc
    obtain ⟨h1, h2⟩ := hc
    simp only [Option.some.injEq, Prod.mk.injEq] at h
    obtain ⟨rfl, rfl⟩ := h
    exact ⟨validE_iff.1 h1, List.isPrefixOf_iff_prefix.1 h2⟩
  · cases h
end Go.Pu
end

section
set_option linter.unusedSimpArgs false
open Go Go.Ab
namespace Go.Pu
theorem split_at (n0 : Nat) (l : List UInt8) (b : Nat) (hs : l.length < 2 ^ 36) (hn : 2 ^ 40 ≤ n0) :
    ∃ t m, spec_l1Split.f n0 (B l) (b : Int) = some (strA (cutL b l).1 :: t, m + 1) ∧ decide (m + 1 < 2) = !(cutL b l).2.2 ∧ m ≤ l.length ∧ t.length = m ∧ (l.length < 2 ^ 36) := by
  have h := split_eq n0 (B l) b (by rw [B_size]; exact hs) (by rw [B_size]; omega)
  obtain ⟨t, ht, h1, h2⟩ := splitA_head b l []
  rw [L_B, ht] at h
  have hlen : ∀ (l cur : List UInt8), (splitA b cur l).length ≤ l.length + 1 := by
    intro l
    induction l with
    | nil => intro cur; simp [splitA]
    | cons c l ih =>
      intro cur; unfold splitA
      split
      · have := ih []; simp; omega
      · have := ih (cur ++ [c]); simp; omega
  have hl := hlen l []
  rw [ht] at hl
  simp at hl
  refine ⟨t.map strA, t.length, by simpa using h, ?_, hl, by simp, hs⟩
  cases hc : (cutL b l).2.2
  · rw [h1 hc]; rfl
  · have := h2 hc
    have : 0 < t.length := List.length_pos_iff.2 this
    simp; omega
theorem gStr_strA (l : List UInt8) : gStr (strA l) = some (B l) := rfl
def decodeL (l : List UInt8) (k : Nat) : List UInt8 × List UInt8 × Bool :=
  let text := (cutL 35 l).1
  let a := dg k ++ [32]
  if text.length < a.length then ([], [], false)
  else if (text.take a.length == a) = false then ([], [], false)
  else
    let rest := text.drop a.length
    let ask := (cutL 64 rest).1
    if ask.length = rest.length then ([], [], false)
    else (ask, rest.drop (ask.length + 1), validE ask (rest.drop (ask.length + 1)) && (lineE k ask (rest.drop (ask.length + 1)) == l ++ [10]))
theorem decode_eq (n0 k : Nat) (l : List UInt8) (hs : l.length < 2 ^ 30) (hn : 2 ^ 40 ≤ n0) (hk : k ≤ 1000) :
    spec_l12Decode.f n0 (B l) (k : Int) = some (B (decodeL l k).1, B (decodeL l k).2.1, (decodeL l k).2.2) := by
  obtain ⟨t, m, h1, h2, h3, h4, _⟩ := split_at n0 l 35 (by omega) hn
  have h35 : ((35 : Nat) : Int) = 35 := rfl
  rw [h35] at h1
  have e1 := l1Num_eq k n0 (by omega) (by omega)
  have hd := dg_len 3 k (by omega)
  have hlen := (cutL_len 35 l).1
  unfold decodeL
  dsimp only
  generalize (cutL 35 l).1 = text at *
  have hal : (dg k ++ [32]).length = (dg k).length + 1 := by simp
  by_cases c1 : text.length < (dg k ++ [32]).length
  · rw [if_pos c1]
    rw [hal] at c1
    simp (disch := omega) only [spec_l12Decode.f, e1, h1, bind_some', dT, dF, cond_true, cond_false, B_append, B_size, List.length_append, List.length_cons, List.length_nil, Bool.and_self, List.getD_cons_zero, gStr_strA]
  · rw [if_neg c1]
    cases c2 : (text.take (dg k ++ [32]).length == dg k ++ [32])
    · rw [if_pos rfl]
      rw [hal] at c1 c2
      simp (disch := omega) only [spec_l12Decode.f, e1, h1, bind_some', dT, dF, cond_true, cond_false, B_append, B_size, List.length_append, List.length_cons, List.length_nil, Bool.and_self, List.getD_cons_zero, gStr_strA, B_extract, B_toList, Int.toNat_natCast, List.drop_zero, Nat.zero_add, c2, Bool.not_false]
    · rw [if_neg (by simp)]
      have hrl : (text.drop (dg k ++ [32]).length).length ≤ text.length := by simp
      generalize hrest : text.drop (dg k ++ [32]).length = rest at *
      have hrest' : List.drop ((dg k).length + 1) (List.take text.length text) = rest := by
        rw [List.take_length, ← hal]; exact hrest
      obtain ⟨t', m', g1, g2, g3, g4, _⟩ := split_at n0 rest 64 (by omega) hn
      have h64 : ((64 : Nat) : Int) = 64 := rfl
      rw [h64] at g1
      have hal2 := (cutL_len 64 rest).1
      generalize (cutL 64 rest).1 = ask at *
      rw [hal] at c1 c2
      by_cases c3 : ask.length = rest.length
      · rw [if_pos c3]
        simp (disch := omega) only [spec_l12Decode.f, e1, h1, bind_some', dT, dF, cond_true, cond_false, B_append, B_size, List.length_append, List.length_cons, List.length_nil, Bool.and_self, List.getD_cons_zero, gStr_strA, B_extract, B_toList, Int.toNat_natCast, List.drop_zero, Nat.zero_add, c2, Bool.not_true, hrest', g1, beqT]
      · rw [if_neg c3]
        have hw : IntKind.wrap .i64 ((ask.length : Int) + 1) = ((ask.length + 1 : Nat) : Int) := by rw [w64 (by omega) (by omega)]; omega
        have hrep : List.drop (ask.length + 1) (List.take rest.length rest) = rest.drop (ask.length + 1) := by rw [List.take_length]
        have hrl2 : (rest.drop (ask.length + 1)).length ≤ rest.length := by simp
        have e2 := record_spec n0 ask (rest.drop (ask.length + 1)) (by omega) (by omega) hn
        have e3 := line_spec n0 k ask (rest.drop (ask.length + 1)) (by omega) (by omega) hn hk
        generalize rest.drop (ask.length + 1) = reply at *
        cases v : validE ask reply
        all_goals
          rw [v] at e2
          simp (disch := omega) only [spec_l12Decode.f, e1, h1, bind_some', dT, dF, cond_true, cond_false, B_append, B_size, List.length_append, List.length_cons, List.length_nil, Bool.and_self, List.getD_cons_zero, gStr_strA, B_extract, B_toList, Int.toNat_natCast, List.drop_zero, Nat.zero_add, c2, Bool.not_true, hrest', g1, beqF, hw, hrep, e2, e3, Bool.false_and, Bool.true_and]
theorem decode_recAt (t : List UInt8) (k : Nat) : ((cutL 10 t).2.2 && (decodeL (cutL 10 t).1 k).2.2) = (recAt t k).isSome ∧
    ∀ c r, recAt t k = some (c, r) → (decodeL (cutL 10 t).1 k).1 = c ∧ (decodeL (cutL 10 t).1 k).2.1 = r ∧ (cutL 10 t).1.length + 1 = (lineE k c r).length := by
  have fwd : ∀ c r, recAt t k = some (c, r) → (cutL 10 t).2.2 = true ∧ decodeL (cutL 10 t).1 k = (c, r, true) ∧ (cutL 10 t).1.length + 1 = (lineE k c r).length := fun c r h => by
    obtain ⟨hv, y, hy⟩ := recAt_some h
    obtain ⟨p1, p2, p3, p4⟩ := parse_line k hv y
    rw [← hy, p1]
    refine ⟨rfl, ?_, by simp [lineE]⟩
    unfold decodeL
    dsimp only
    rw [p2]
    have hb : bodyE k c r = (dg k ++ [32]) ++ (c ++ [64] ++ r) := by simp [bodyE]
    rw [hb, if_neg (by simp), List.take_left, if_neg (by simp), List.drop_left, p4]
    dsimp only
    rw [if_neg (by simp)]
    have e : (c ++ [64] ++ r).drop (c.length + 1) = r := by
      rw [List.drop_append_of_le_length (by simp)]; simp
    rw [e]
    simp only [validE_iff.2 hv, lineE, hb, beq_self_eq_true, Bool.and_self]
  refine ⟨?_, fun c r h => ⟨by rw [(fwd c r h).2.1], by rw [(fwd c r h).2.1], (fwd c r h).2.2⟩⟩
  cases h : recAt t k with
  | some e => obtain ⟨c, r⟩ := e; rw [(fwd c r h).1, (fwd c r h).2.1]; rfl
  | none =>
    cases hc : (cutL 10 t).2.2 with
    | false => rfl
    | true =>
      cases hd : (decodeL (cutL 10 t).1 k).2.2 with
      | false => rfl
      | true =>
        exfalso
        obtain ⟨x, hx, ht⟩ := cutL_yes t hc
        have hx' : x = 10 := UInt8.toNat_inj.1 (by rw [hx]; rfl)
        subst hx'
        generalize (cutL 10 t).1 = line at *
        unfold decodeL at hd
        dsimp only at hd
        split at hd
        · cases hd
        · split at hd
          · cases hd
          · split at hd
            · cases hd
            · rw [Bool.and_eq_true] at hd
              obtain ⟨h1, h2⟩ := hd
              have h2 := eq_of_beq h2
              have := recAt_of (t := t) (k := k) (validE_iff.1 h1) ⟨(cutL 10 t).2.1, by rw [h2, List.append_assoc]; exact ht.symm⟩
              rw [h] at this; cases this
end Go.Pu
end

section
set_option linter.unusedSimpArgs false
open Go Go.Ab
namespace Go.Pu
theorem cut_B (n0 : Nat) (l : List UInt8) (c : UInt8) (hs : l.length < 2 ^ 31) : strings_Cut.f n0 (B l) ⟨#[c]⟩ = some (B (cutL c.toNat l).1, B (cutL c.toNat l).2.1, (cutL c.toNat l).2.2) := by
  have := cut_eq n0 (B l) c (by rw [B_size]; omega)
  rw [this]; rfl
theorem hasPrefix_eq (n0 : Nat) (t p : List UInt8) : strings_HasPrefix.f n0 (B t) (B p) = some (p.isPrefixOf t) := by
  by_cases h : p.length ≤ t.length
  · simp (disch := omega) only [strings_HasPrefix.f, internal_stringslite_HasPrefix.f, B_size, dT, cond_true, Bool.and_self, B_extract, B_toList, Int.toNat_natCast, List.drop_zero, bind_some']
    congr 1
    rw [Bool.eq_iff_iff, beq_iff_eq, List.isPrefixOf_iff_prefix]
    rw [List.prefix_iff_eq_take]; exact eq_comm
  · simp (disch := omega) only [strings_HasPrefix.f, internal_stringslite_HasPrefix.f, B_size, dF, cond_false, bind_some']
    congr 1
    symm
    rw [Bool.eq_false_iff]
    intro hp
    have := (List.isPrefixOf_iff_prefix.1 hp).length_le
    omega
theorem cutL_first_no (b : Nat) : ∀ (x : List UInt8), hasB (cutL b x).1 b = false
  | [] => rfl
  | d :: x => by
    unfold cutL
    by_cases hd : d.toNat = b
    · simp [hd, hasB_nil]
    · simp only [hd, if_false, hasB_cons, cutL_first_no b x]
      simpa using hd
def verL (l : List UInt8) : Bool := decide ((cutL 35 l).1.length ≤ 4000) && decide ((sealL (cutL 35 l).1).length ≤ 4000) && (sealL (cutL 35 l).1 == l)
theorem verify_eq (n0 : Nat) (l : List UInt8) (hs : l.length < 2 ^ 30) (hn : 2 ^ 40 ≤ n0) :
    impl_VerifyChecksum.f n0 (B l) = some (if verL l then (B (cutL 35 l).1, true) else (B [], false)) := by
  have e1 := cut_B n0 l 35 (by omega)
  have h35 : (35 : UInt8).toNat = 35 := rfl
  rw [h35] at e1
  have hl := (cutL_len 35 l).1
  have e2 := append_eq n0 (cutL 35 l).1 (by omega) hn
  rw [cutL_first_no] at e2
  unfold verL
  generalize (cutL 35 l).1 = t at *
  cases c : decide (t.length ≤ 4000) && !false && decide ((sealL t).length ≤ 4000)
  · rw [c] at e2
    simp only [Bool.not_false, Bool.and_true] at c
    simp only [impl_VerifyChecksum.f, e1, bind_some', e2, Bool.false_eq_true, if_false, cond_false, c, Bool.false_and]
  · rw [c] at e2
    simp only [Bool.not_false, Bool.and_true] at c
    simp only [impl_VerifyChecksum.f, e1, bind_some', e2, if_true, cond_true, c, Bool.true_and, B_toList]
    cases sealL t == l <;> rfl
theorem next_eq (n0 k : Nat) (t : List UInt8) (hs : t.length < 2 ^ 30) (hn : 2 ^ 40 ≤ n0) (hk : k ≤ 1000) :
    ∃ c r code, impl_nextRecord.f n0 (B t) (k : Int) = some (c, r, code, decide (k < 60) && (recAt t k).isSome) ∧
      ∀ c' r', k < 60 → recAt t k = some (c', r') → c = B c' ∧ r = B r' ∧ code = B (lineE k c' r') := by
  have e1 := cut_B n0 t 10 (by omega)
  have h10 : (10 : UInt8).toNat = 10 := rfl
  have h32 : (32 : UInt8).toNat = 32 := rfl
  have h64 : (64 : UInt8).toNat = 64 := rfl
  rw [h10] at e1
  have hl := (cutL_len 10 t).1
  have e2 := verify_eq n0 (cutL 10 t).1 (by omega) hn
  -- what recAt says of the line
  have fwd : ∀ c r, recAt t k = some (c, r) → k < 60 → (cutL 10 t).2.2 = true ∧ verL (cutL 10 t).1 = true := fun c r h hk => by
    obtain ⟨hv, y, hy⟩ := recAt_some h
    obtain ⟨p1, p2, p3, p4⟩ := parse_line k hv y
    rw [← hy, p1]
    refine ⟨rfl, ?_⟩
    have h1 := body_len hv (k := k) (by omega)
    have h2 := sealL_len (bodyE k c r)
    unfold verL
    dsimp only
    rw [p2]
    simp (disch := omega) only [dT, beq_self_eq_true, Bool.and_self]
  have hno : ¬ ((cutL 10 t).2.2 = true ∧ verL (cutL 10 t).1 = true) → (decide (k < 60) && (recAt t k).isSome) = false := fun h => by
    by_cases hk : k < 60
    · cases hr : recAt t k with
      | none => simp
      | some e => obtain ⟨c, r⟩ := e; exact absurd (fwd c r hr hk) h
    · simp [hk]
  cases he : (cutL 10 t).2.2
  · rw [he] at e1 hno
    have hno := hno (by simp)
    refine ⟨B [], B [], B [], ?_, fun c' r' hk hr => by rw [hr] at hno; simp [hk] at hno⟩
    cases hv : verL (cutL 10 t).1 <;> rw [hv] at e2 <;> simp only [impl_nextRecord.f, e1, e2, bind_some', Bool.not_false, cond_true, hno]
  · rw [he] at e1 hno
    cases hv : verL (cutL 10 t).1
    · rw [hv] at e2 hno
      have hno := hno (by simp)
      refine ⟨B [], B [], B [], ?_, fun c' r' hk hr => by rw [hr] at hno; simp [hk] at hno⟩
      simp only [impl_nextRecord.f, e1, e2, bind_some', Bool.not_false, Bool.not_true, cond_true, cond_false, hno, Bool.false_eq_true, if_false]
    · rw [hv] at e2
      have hl2 := (cutL_len 35 (cutL 10 t).1).1
      have e3 := cut_B n0 (cutL 35 (cutL 10 t).1).1 32 (by omega)
      rw [h32] at e3
      have hl3 := (cutL_len 32 (cutL 35 (cutL 10 t).1).1).2
      have e4 := cut_B n0 (cutL 32 (cutL 35 (cutL 10 t).1).1).2.1 64 (by omega)
      rw [h64] at e4
      have hl4 := cutL_len 64 (cutL 32 (cutL 35 (cutL 10 t).1).1).2.1
      have hrec : recAt t k = (if validE (cutL 64 (cutL 32 (cutL 35 (cutL 10 t).1).1).2.1).1 (cutL 64 (cutL 32 (cutL 35 (cutL 10 t).1).1).2.1).2.1 && (lineE k (cutL 64 (cutL 32 (cutL 35 (cutL 10 t).1).1).2.1).1 (cutL 64 (cutL 32 (cutL 35 (cutL 10 t).1).1).2.1).2.1).isPrefixOf t then some ((cutL 64 (cutL 32 (cutL 35 (cutL 10 t).1).1).2.1).1, (cutL 64 (cutL 32 (cutL 35 (cutL 10 t).1).1).2.1).2.1) else none) := rfl
      generalize hc0 : (cutL 64 (cutL 32 (cutL 35 (cutL 10 t).1).1).2.1).1 = c0 at *
      generalize hr0 : (cutL 64 (cutL 32 (cutL 35 (cutL 10 t).1).1).2.1).2.1 = r0 at *
      have e5 := encode_impl n0 k c0 r0 (by omega) (by omega) hn hk
      have e6 := hasPrefix_eq n0 t (lineE k c0 r0)
      by_cases a : k < 60
      · cases v : validE c0 r0
        · rw [v] at hrec e5
          refine ⟨B c0, B r0, B [], ?_, fun c' r' hk hr => by rw [hr] at hrec; simp at hrec⟩
          simp only [impl_nextRecord.f, e1, e2, e3, e4, e5, bind_some', Bool.not_true, cond_false, cond_true, if_true, Bool.and_false, Bool.false_eq_true, if_false, hrec, Bool.false_and, Option.isSome_none]
        · rw [v] at hrec e5
          refine ⟨B c0, B r0, B (lineE k c0 r0), ?_, fun c' r' hk hr => ?_⟩
          · simp (disch := omega) only [impl_nextRecord.f, e1, e2, e3, e4, e5, e6, bind_some', Bool.not_true, cond_false, cond_true, if_true, dT, Bool.and_self, Bool.true_and, hrec]
            cases (lineE k c0 r0).isPrefixOf t <;> rfl
          · rw [hr] at hrec
            cases hp : (lineE k c0 r0).isPrefixOf t
            · rw [hp] at hrec; simp at hrec
            · rw [hp] at hrec; simp at hrec; rw [hrec.1, hrec.2]; exact ⟨rfl, rfl, rfl⟩
      · refine ⟨B c0, B r0, B [], ?_, fun c' r' hk hr => absurd hk a⟩
        simp (disch := omega) only [impl_nextRecord.f, e1, e2, e3, e4, e5, bind_some', Bool.not_true, cond_false, cond_true, if_true, dF, Bool.false_and, Bool.false_eq_true, if_false]
end Go.Pu
end

section
set_option linter.unusedSimpArgs false
open Go Go.Ab
namespace Go.Pu
abbrev Rec := List UInt8 × List UInt8
/-- The records at the beginning of a text: at most m, from the number k on. -/
def opens : Nat → List UInt8 → Nat → List Rec
  | 0, _, _ => []
  | m + 1, t, k => match recAt t k with
    | none => []
    | some e => e :: opens m (t.drop (lineE k e.1 e.2).length) (k + 1)
def linesE : Nat → List Rec → List UInt8
  | _, [] => []
  | k, e :: es => lineE k e.1 e.2 ++ linesE (k + 1) es
def endsE : Nat → Nat → List Rec → List Nat
  | _, _, [] => []
  | a, k, e :: es => (a + (lineE k e.1 e.2).length) :: endsE (a + (lineE k e.1 e.2).length) (k + 1) es
def flatE (es : List Rec) : List AV := es.flatMap fun e => [strA e.1, strA e.2]
def intA (n : Nat) : AV := .int .i64 (n : Int)
theorem lineE_len (k : Nat) (c r : List UInt8) : 4 ≤ (lineE k c r).length := by
  have h := dg_ne k
  have : 0 < (dg k).length := List.length_pos_iff.2 h
  have h2 := dg_ne (sumL 7 (bodyE k c r)).toNat
  have : 0 < (dg (sumL 7 (bodyE k c r)).toNat).length := List.length_pos_iff.2 h2
  simp [lineE, sealL, bodyE] at *; omega
theorem recAt_nil (k : Nat) : recAt [] k = none := by
  cases h : recAt [] k with
  | none => rfl
  | some e =>
    obtain ⟨c, r⟩ := e
    have h1 := (recAt_some h).2.length_le
    have := lineE_len k c r
    rw [List.length_nil] at h1; omega
theorem recAt_len {t : List UInt8} {k : Nat} {e : Rec} (h : recAt t k = some e) : (lineE k e.1 e.2).length ≤ t.length := (recAt_some (c := e.1) (r := e.2) h).2.length_le
theorem at_extract (s : ByteArray) (a : Nat) : s.extract a s.size = B ((L s).drop a) := L_inj (by
  rw [L_extract, L_B, List.take_of_length_le (by rw [L_len]; exact Nat.le_refl _)])
theorem flatE_len (es : List Rec) : (flatE es).length = es.length * 2 := by
  induction es with
  | nil => rfl
  | cons e es ih => simp [flatE] at *; omega
theorem recordsOf_loop (n0 : Nat) (s : ByteArray) (hs : s.size < 2 ^ 30) (hn0 : 2 ^ 40 ≤ n0) (K : Nat → Nat → List AV → List AV → Option (List AV × Nat × List AV × Nat)) :
    ∀ (m k a n : Nat) (out ends : List AV), m + k = 60 → a ≤ s.size → m < n → out.length = k * 2 → ends.length = k + 1 →
    impl_recordsOf.l2 n0 K n s k (k + 1) (a : Int) out ends =
      K (k + (opens m ((L s).drop a) k).length) (k + 1 + (opens m ((L s).drop a) k).length) (out ++ flatE (opens m ((L s).drop a) k)) (ends ++ (endsE a k (opens m ((L s).drop a) k)).map intA)
  | m, k, a, n + 1, out, ends, hm, ha, hn, ho, he => by
    have hlen : ((L s).drop a).length = s.size - a := by rw [List.length_drop, L_len]
    obtain ⟨c, r, code, h1, h2⟩ := next_eq n0 k ((L s).drop a) (by omega) hn0 (by omega)
    rw [← at_extract] at h1
    match m with
    | 0 =>
      have hk : ¬ k < 60 := by omega
      rw [dF hk, Bool.false_and] at h1
      simp (disch := omega) only [impl_recordsOf.l2, impl_recordsOf.l2S, dT, Bool.and_self, cond_true, Int.toNat_natCast, h1, bind_some', Bool.not_false, opens, List.length_nil, Nat.add_zero, flatE, List.flatMap_nil, List.append_nil, endsE, List.map_nil]
    | m + 1 =>
      have hk : k < 60 := by omega
      rw [dT hk, Bool.true_and] at h1
      unfold opens
      cases hr : recAt ((L s).drop a) k with
      | none =>
        rw [hr] at h1
        simp (disch := omega) only [impl_recordsOf.l2, impl_recordsOf.l2S, dT, Bool.and_self, cond_true, Int.toNat_natCast, h1, bind_some', Option.isSome_none, Bool.not_false, List.length_nil, Nat.add_zero, flatE, List.flatMap_nil, List.append_nil, endsE, List.map_nil]
      | some e =>
        obtain ⟨c', r'⟩ := e
        rw [hr] at h1
        obtain ⟨rfl, rfl, rfl⟩ := h2 c' r' hk hr
        have hle := recAt_len hr
        dsimp only at hle ⊢
        have hw : IntKind.wrap .i64 ((a : Int) + ((lineE k c' r').length : Int)) = ((a + (lineE k c' r').length : Nat) : Int) := by rw [w64 (by omega) (by omega)]; omega
        have ih := recordsOf_loop n0 s hs hn0 K m (k + 1) (a + (lineE k c' r').length) n (out ++ [strA c', strA r']) (ends ++ [intA (a + (lineE k c' r').length)]) (by omega) (by omega) (by omega) (by simp [ho]; omega) (by simp [he])
        rw [← List.drop_drop] at ih
        have e1 : AV.str (B c') = strA c' := rfl
        have e2 : AV.str (B r') = strA r' := rfl
        have e3 : AV.int .i64 ((a + (lineE k c' r').length : Nat) : Int) = intA (a + (lineE k c' r').length) := rfl
        have e4 : ∀ n, oneA (intA n) = true := fun _ => rfl
        have t1 : List.take (k * 2) out = out := List.take_of_length_le (by omega)
        have t2 : List.take ((k + 1) * 1) ends = ends := List.take_of_length_le (by omega)
        simp (disch := omega) only [impl_recordsOf.l2, impl_recordsOf.l2S, dT, Bool.and_self, cond_true, cond_false, Int.toNat_natCast, h1, bind_some', Option.isSome_some, Bool.not_true, List.length_cons, List.length_nil, List.all_cons, List.all_nil, hw, e1, e2, e3, e4, oneA_strA, B_size, decide_true, ho, he, t1, t2, Nat.zero_add]
        simp only [B_size, hw, e3, ih]
        generalize opens m (List.drop (lineE k c' r').length (List.drop a (L s))) (k + 1) = es
        simp only [flatE, List.flatMap_cons, endsE, List.map_cons, List.append_assoc, List.cons_append, List.nil_append]
        congr 1 <;> omega
theorem open_loop (n0 : Nat) (s : ByteArray) (hs : s.size < 2 ^ 30) (hn0 : 2 ^ 40 ≤ n0) (K : Nat → Int → List AV → Option (List AV × Nat × Int)) :
    ∀ (m k a n : Nat) (out : List AV), m + k = 60 → a ≤ s.size → m < n → out.length = k * 2 →
    spec_l12Open.l3 n0 K n s k (a : Int) out =
      K (k + (opens m ((L s).drop a) k).length) ((a + (linesE k (opens m ((L s).drop a) k)).length : Nat) : Int) (out ++ flatE (opens m ((L s).drop a) k))
  | m, k, a, n + 1, out, hm, ha, hn, ho => by
    have hlen : ((L s).drop a).length = s.size - a := by rw [List.length_drop, L_len]
    have fin : ∀ es : List Rec, es = [] → K k (a : Int) out = K (k + es.length) ((a + (linesE k es).length : Nat) : Int) (out ++ flatE es) := fun es h => by subst h; simp [linesE, flatE]
    by_cases hlt : a < s.size
    · match m with
      | 0 =>
        simp (disch := omega) only [spec_l12Open.l3, spec_l12Open.l3S, dT, dF, cond_true, cond_false]
        exact fin _ rfl
      | m + 1 =>
        obtain ⟨tt, mm, g1, g2, g3, g4, _⟩ := split_at n0 ((L s).drop a) 10 (by omega) hn0
        have h10 : ((10 : Nat) : Int) = 10 := rfl
        rw [h10, ← at_extract] at g1
        have hl := (cutL_len 10 ((L s).drop a)).1
        have d1 := decode_eq n0 k (cutL 10 ((L s).drop a)).1 (by omega) hn0 (by omega)
        obtain ⟨d2, d3⟩ := decode_recAt ((L s).drop a) k
        have g5 : decide (((mm + 1 : Nat) : Int) < 2) = !(cutL 10 ((L s).drop a)).2.2 := by
          rw [← g2, decide_eq_decide]; omega
        cases hr : recAt ((L s).drop a) k with
        | none =>
          have hes : opens (m + 1) ((L s).drop a) k = [] := by unfold opens; rw [hr]
          rw [hr] at d2
          rw [← fin _ hes]
          cases hc : (cutL 10 ((L s).drop a)).2.2
          · simp (disch := omega) only [spec_l12Open.l3, spec_l12Open.l3S, dT, cond_true, Bool.and_self, Int.toNat_natCast, g1, bind_some', List.getD_cons_zero, gStr_strA, d1, g5, hc, Bool.not_false]
          · rw [hc, Bool.true_and] at d2
            simp (disch := omega) only [spec_l12Open.l3, spec_l12Open.l3S, dT, cond_true, cond_false, Bool.and_self, Int.toNat_natCast, g1, bind_some', List.getD_cons_zero, gStr_strA, d1, g5, hc, Bool.not_true, d2, Option.isSome_none, Bool.not_false]
        | some e =>
          obtain ⟨c', r'⟩ := e
          rw [hr] at d2
          obtain ⟨d4, d5, d6⟩ := d3 c' r' hr
          have d2' : (cutL 10 ((L s).drop a)).2.2 = true ∧ (decodeL (cutL 10 ((L s).drop a)).1 k).2.2 = true := by simpa using d2
          have hle := recAt_len hr
          have hes : opens (m + 1) ((L s).drop a) k = (c', r') :: opens m (((L s).drop a).drop (lineE k c' r').length) (k + 1) := by conv => lhs; unfold opens; rw [hr]
          rw [hes]
          dsimp only at hle ⊢
          have hw1 : IntKind.wrap .i64 ((a : Int) + ((cutL 10 ((L s).drop a)).1.length : Int)) = ((a + (cutL 10 ((L s).drop a)).1.length : Nat) : Int) := by rw [w64 (by omega) (by omega)]; omega
          have hw2 : IntKind.wrap .i64 (((a + (cutL 10 ((L s).drop a)).1.length : Nat) : Int) + 1) = ((a + (lineE k c' r').length : Nat) : Int) := by rw [w64 (by omega) (by omega)]; omega
          have ih := open_loop n0 s hs hn0 K m (k + 1) (a + (lineE k c' r').length) n (out ++ [strA c', strA r']) (by omega) (by omega) (by omega) (by simp [ho]; omega)
          rw [← List.drop_drop] at ih
          have e1 : AV.str (B c') = strA c' := rfl
          have e2 : AV.str (B r') = strA r' := rfl
          have t1 : List.take (k * 2) out = out := List.take_of_length_le (by omega)
          simp (disch := omega) only [spec_l12Open.l3, spec_l12Open.l3S, dT, cond_true, cond_false, Bool.and_self, Int.toNat_natCast, g1, bind_some', List.getD_cons_zero, gStr_strA, d1, g5, d2'.1, d2'.2, Bool.not_true, d4, d5, e1, e2, List.length_cons, List.length_nil, List.all_cons, List.all_nil, oneA_strA, decide_true, ho, t1, B_size, hw1, hw2, Nat.zero_add, ih]
          generalize opens m (List.drop (lineE k c' r').length (List.drop a (L s))) (k + 1) = es
          simp only [flatE, List.flatMap_cons, linesE, List.append_assoc, List.cons_append, List.nil_append, List.length_append]
          congr 1 <;> omega
    · have hnil : (L s).drop a = [] := List.drop_eq_nil_of_le (by rw [L_len]; omega)
      simp (disch := omega) only [spec_l12Open.l3, spec_l12Open.l3S, dF, cond_false]
      refine fin _ ?_
      rw [hnil]
      cases m with
      | zero => rfl
      | succ m => unfold opens; rw [recAt_nil]
end Go.Pu
end

section
set_option linter.unusedSimpArgs false
open Go Go.Ab
namespace Go.Pu
def AllV (es : List Rec) : Prop := ∀ e ∈ es, ValidE e.1 e.2
theorem opens_pre : ∀ (m : Nat) (t : List UInt8) (k : Nat), AllV (opens m t k) ∧ (opens m t k).length ≤ m ∧ linesE k (opens m t k) <+: t
  | 0, t, k => ⟨fun e h => by simp [opens] at h, Nat.le_refl _, by simp [opens, linesE]⟩
  | m + 1, t, k => by
    unfold opens
    cases hr : recAt t k with
    | none => exact ⟨fun e h => by simp at h, by simp, by simp [linesE]⟩
    | some e =>
      obtain ⟨c, r⟩ := e
      obtain ⟨hv, y, hy⟩ := recAt_some hr
      obtain ⟨h1, h2, h3⟩ := opens_pre m (t.drop (lineE k c r).length) (k + 1)
      refine ⟨fun e he => ?_, by simp; exact h2, ?_⟩
      · rcases List.mem_cons.1 he with rfl | he
        · exact hv
        · exact h1 e he
      · simp only [linesE]
        have : t = lineE k c r ++ t.drop (lineE k c r).length := by rw [← hy]; simp
        conv => rhs; rw [this]
        rw [List.prefix_append_right_inj]; exact h3
theorem opens_lines : ∀ (es : List Rec) (m k : Nat) (y : List UInt8), AllV es → es.length ≤ m → opens m (linesE k es ++ y) k = es ++ opens (m - es.length) y (k + es.length)
  | [], m, k, y, _, _ => by simp [linesE]
  | e :: es, m + 1, k, y, hv, hm => by
    have he : ValidE e.1 e.2 := hv e (List.mem_cons_self)
    have hr : recAt (linesE k (e :: es) ++ y) k = some (e.1, e.2) := recAt_of he ⟨linesE (k + 1) es ++ y, by simp [linesE]⟩
    have ih := opens_lines es m (k + 1) y (fun x hx => hv x (List.mem_cons_of_mem _ hx)) (by simpa using hm)
    have hd : (linesE k (e :: es) ++ y).drop (lineE k e.1 e.2).length = linesE (k + 1) es ++ y := by simp [linesE]
    conv => lhs; unfold opens
    rw [hr]
    dsimp only
    rw [hd, ih]
    simp only [List.cons_append, List.length_cons, Nat.add_sub_add_right]
    rw [show k + 1 + es.length = k + (es.length + 1) by omega]
theorem opens_nil (m k : Nat) : opens m [] k = [] := by
  cases m with
  | zero => rfl
  | succ m => unfold opens; rw [recAt_nil]
theorem linesE_append : ∀ (k : Nat) (xs ys : List Rec), linesE k (xs ++ ys) = linesE k xs ++ linesE (k + xs.length) ys
  | k, [], ys => by simp [linesE]
  | k, x :: xs, ys => by simp only [List.cons_append, linesE, linesE_append (k + 1) xs ys, List.append_assoc, List.length_cons]; rw [show k + 1 + xs.length = k + (xs.length + 1) by omega]
theorem endsE_get : ∀ (a k : Nat) (es : List Rec) (j : Nat), j ≤ es.length → (a :: endsE a k es)[j]? = some (a + (linesE k (es.take j)).length)
  | a, k, [], j, h => by simp at h; subst h; simp [linesE]
  | a, k, e :: es, 0, h => by simp [linesE]
  | a, k, e :: es, j + 1, h => by
    have := endsE_get (a + (lineE k e.1 e.2).length) (k + 1) es j (by simpa using h)
    simp only [endsE, List.getElem?_cons_succ, List.take_succ_cons, linesE, List.length_append]
    rw [this]; congr 1; omega
theorem endsE_len : ∀ (a k : Nat) (es : List Rec), (endsE a k es).length = es.length
  | _, _, [] => rfl
  | a, k, e :: es => by simp [endsE, endsE_len _ _ es]
theorem mem_ends {x k : Nat} {es : List Rec} : x ∈ (0 :: endsE 0 k es) ↔ ∃ j, j ≤ es.length ∧ x = (linesE k (es.take j)).length := by
  rw [List.mem_iff_getElem?]
  constructor
  · rintro ⟨j, hj⟩
    have hlt := (List.getElem?_eq_some_iff.1 hj).1
    rw [List.length_cons, endsE_len] at hlt
    rw [endsE_get 0 k es j (by omega)] at hj
    exact ⟨j, by omega, by simpa using hj.symm⟩
  · rintro ⟨j, hj, rfl⟩
    exact ⟨j, by rw [endsE_get 0 k es j hj]; simp⟩
/-- All of a text are records. -/
theorem read_all {t : List UInt8} {m k : Nat} (h : (linesE k (opens m t k)).length = t.length) : linesE k (opens m t k) = t :=
  (opens_pre m t k).2.2.eq_of_length h
theorem ends_kept {d p : List UInt8} (h : (linesE 0 (opens 60 (d ++ p) 0)).length = d.length + p.length) :
    d.length ∈ (0 :: endsE 0 0 (opens 60 (d ++ p) 0)) ↔ (linesE 0 (opens 60 d 0)).length = d.length := by
  have hall := read_all (t := d ++ p) (by rw [List.length_append]; exact h)
  obtain ⟨v1, v2, v3⟩ := opens_pre 60 (d ++ p) 0
  rw [mem_ends]
  constructor
  · rintro ⟨j, hj, hd⟩
    generalize hes : opens 60 (d ++ p) 0 = es at *
    have e1 : linesE 0 (es.take j) ++ linesE (0 + (es.take j).length) (es.drop j) = d ++ p := by
      rw [← linesE_append, List.take_append_drop]; exact hall
    obtain ⟨e2, _⟩ := List.append_inj e1 hd.symm
    have e3 := opens_lines (es.take j) 60 0 [] (fun e he => v1 e (List.mem_of_mem_take he)) (by rw [List.length_take]; omega)
    rw [opens_nil, List.append_nil, List.append_nil, e2] at e3
    rw [e3, e2]
  · intro hd
    have e1 := read_all hd
    obtain ⟨u1, u2, u3⟩ := opens_pre 60 d 0
    have e2 := opens_lines (opens 60 d 0) 60 0 p u1 u2
    rw [e1] at e2
    rw [e2]
    refine ⟨(opens 60 d 0).length, by simp, ?_⟩
    rw [List.take_left, hd]
def validL (d p : List UInt8) (n : Int) : Bool :=
  decide (d.length + p.length ≤ 30000) && (((linesE 0 (opens 60 (d ++ p) 0)).length == d.length + p.length) && (((linesE 0 (opens 60 d 0)).length == d.length) && (((opens 60 (d ++ p) 0).length : Int) == n)))
theorem l12Open_eq (n0 : Nat) (t : List UInt8) (hs : t.length < 2 ^ 30) (hn0 : 2 ^ 40 ≤ n0) :
    spec_l12Open.f n0 (B t) = some (flatE (opens 60 t 0), (opens 60 t 0).length, ((linesE 0 (opens 60 t 0)).length : Int)) := by
  unfold spec_l12Open.f
  refine (open_loop n0 (B t) (by rw [B_size]; exact hs) hn0 _ 60 0 0 n0 [] (by omega) (by omega) (by omega) rfl).trans ?_
  rw [L_B, List.drop_zero]
  simp only [Nat.zero_add, List.nil_append]
  rw [List.take_of_length_le (by rw [flatE_len]; exact Nat.le_refl _)]
theorem recordsOf_eq (n0 : Nat) (t : List UInt8) (hs : t.length < 2 ^ 30) (hn0 : 2 ^ 40 ≤ n0) :
    impl_recordsOf.f n0 (B t) = some (flatE (opens 60 t 0), (opens 60 t 0).length, (0 :: endsE 0 0 (opens 60 t 0)).map intA, (opens 60 t 0).length + 1) := by
  unfold impl_recordsOf.f
  refine (recordsOf_loop n0 (B t) (by rw [B_size]; exact hs) hn0 _ 60 0 0 n0 [] [intA 0] (by omega) (by omega) (by omega) rfl rfl).trans ?_
  rw [L_B, List.drop_zero]
  simp only [Nat.zero_add, List.nil_append]
  rw [List.take_of_length_le (by rw [flatE_len]; exact Nat.le_refl _), List.take_of_length_le (by simp [endsE_len]; omega), Nat.add_comm 1]
  rfl
theorem index_loop (n0 : Nat) (x : List Nat) (v : Nat) (hx : x.length < 2 ^ 40) : ∀ (l : List Nat) (i n : Nat), x.drop i = l → i + l.length = x.length → l.length < n →
    ∃ r, slices_Index_int_int.l2 n0 (fun y17 => some y17) (some (-1)) n (x.map intA) x.length (v : Int) (x.length : Int) (i : Int) = some r ∧ decide (r ≥ 0) = l.contains v
  | [], i, n + 1, h, hi, hn => by
    simp only [List.length_nil] at hi
    refine ⟨-1, ?_, rfl⟩
    simp (disch := omega) only [slices_Index_int_int.l2, slices_Index_int_int.l2S, dF, cond_false]
  | c :: l, i, n + 1, h, hi, hn => by
    simp only [List.length_cons] at hi hn
    have hlt : i < x.length := by omega
    rw [List.drop_eq_getElem_cons hlt] at h
    injection h with h1 h2
    have hw : IntKind.wrap .i64 ((i : Int) + 1) = ((i + 1 : Nat) : Int) := by rw [w64 (by omega) (by omega)]; omega
    have hg : gInt .i64 ((x.map intA).getD (i * 1) .undef) = some (c : Int) := by
      rw [Nat.mul_one, List.getD_eq_getElem?_getD, List.getElem?_map, List.getElem?_eq_getElem hlt, h1]; rfl
    obtain ⟨r, ih1, ih2⟩ := index_loop n0 x v hx l (i + 1) n h2 (by omega) (by omega)
    by_cases d : v = c
    · refine ⟨(i : Int), ?_, by rw [dT (by omega), d]; simp⟩
      simp (disch := omega) only [slices_Index_int_int.l2, slices_Index_int_int.l2S, dT, Bool.and_self, cond_true, Int.toNat_natCast, hg, bind_some', beqT]
    · refine ⟨r, ?_, by rw [ih2]; simp [d]⟩
      simp (disch := omega) only [slices_Index_int_int.l2, slices_Index_int_int.l2S, dT, Bool.and_self, cond_true, cond_false, Int.toNat_natCast, hg, bind_some', beqF, hw, ih1]
theorem contains_ints (n0 : Nat) (x : List Nat) (v : Nat) (hx : x.length < 2 ^ 40) (hn : 2 ^ 40 ≤ n0) : slices_Contains_int_int.f n0 (x.map intA) x.length (v : Int) = some (x.contains v) := by
  obtain ⟨r, h1, h2⟩ := index_loop n0 x v hx x 0 n0 rfl (by omega) (by omega)
  have h1' : slices_Index_int_int.f n0 (x.map intA) x.length (v : Int) = some r := h1
  simp only [slices_Contains_int_int.f, h1', bind_some', h2]
theorem valid_spec (n0 : Nat) (d p : List UInt8) (n : Int) (hd : d.length < 2 ^ 28) (hp : p.length < 2 ^ 28) (hn0 : 2 ^ 40 ≤ n0) : spec_l12Valid.f n0 (B d) (B p) n = some (validL d p n) := by
  have e1 := l12Open_eq n0 (d ++ p) (by simp; omega) hn0
  have e2 := l12Open_eq n0 d (by omega) hn0
  have hw : IntKind.wrap .i64 ((d.length : Int) + (p.length : Int)) = ((d.length + p.length : Nat) : Int) := by rw [w64 (by omega) (by omega)]; omega
  unfold validL
  by_cases a : d.length + p.length ≤ 30000
  · simp (disch := omega) only [spec_l12Valid.f, B_size, hw, dF, cond_false, dT, cond_true, B_append, e1, e2, bind_some', Bool.true_and]
    have c1 : (((linesE 0 (opens 60 (d ++ p) 0)).length : Int) == ((d.length + p.length : Nat) : Int)) = ((linesE 0 (opens 60 (d ++ p) 0)).length == d.length + p.length) := by
      rw [Bool.eq_iff_iff, beq_iff_eq, beq_iff_eq]; omega
    have c2 : (((linesE 0 (opens 60 d 0)).length : Int) == (d.length : Int)) = ((linesE 0 (opens 60 d 0)).length == d.length) := by
      rw [Bool.eq_iff_iff, beq_iff_eq, beq_iff_eq]; omega
    rw [c1, c2]
    cases (linesE 0 (opens 60 (d ++ p) 0)).length == d.length + p.length <;> cases (linesE 0 (opens 60 d 0)).length == d.length <;> rfl
  · simp (disch := omega) only [spec_l12Valid.f, B_size, hw, dT, dF, cond_true, Bool.false_and]
theorem valid_impl (n0 : Nat) (d p : List UInt8) (n : Int) (hd : d.length < 2 ^ 28) (hp : p.length < 2 ^ 28) (hn0 : 2 ^ 40 ≤ n0) : impl_IsValidLog.f n0 (B d) (B p) n = some (validL d p n) := by
  have e1 := recordsOf_eq n0 (d ++ p) (by simp; omega) hn0
  have hw : IntKind.wrap .i64 ((d.length : Int) + (p.length : Int)) = ((d.length + p.length : Nat) : Int) := by rw [w64 (by omega) (by omega)]; omega
  have hk := ends_kept (d := d) (p := p)
  have h60 := (opens_pre 60 (d ++ p) 0).2.1
  unfold validL
  by_cases a : d.length + p.length ≤ 30000
  · generalize opens 60 (d ++ p) 0 = es at *
    have hl : (0 :: endsE 0 0 es).length = es.length + 1 := by simp [endsE_len]
    have e2 := contains_ints n0 (0 :: endsE 0 0 es) d.length (by omega) hn0
    rw [hl] at e2
    have hg : gInt .i64 (((0 :: endsE 0 0 es).map intA).getD (es.length * 1) .undef) = some ((linesE 0 es).length : Int) := by
      rw [Nat.mul_one, List.getD_eq_getElem?_getD, List.getElem?_map, endsE_get 0 0 es es.length (Nat.le_refl _), List.take_length]; simp [intA, gInt]
    simp (disch := omega) only [impl_IsValidLog.f, B_size, hw, dF, cond_false, dT, cond_true, B_append, e1, bind_some', Bool.true_and, Bool.and_self, Int.toNat_natCast, hg, e2]
    have c1 : (((linesE 0 es).length : Int) == ((d.length + p.length : Nat) : Int)) = ((linesE 0 es).length == d.length + p.length) := by
      rw [Bool.eq_iff_iff, beq_iff_eq, beq_iff_eq]; omega
    rw [c1]
    cases c : (linesE 0 es).length == d.length + p.length
    · rfl
    · have hk := hk (by simpa using c)
      have c2 : (0 :: endsE 0 0 es).contains d.length = ((linesE 0 (opens 60 d 0)).length == d.length) := by
        rw [Bool.eq_iff_iff, List.contains_iff_mem, beq_iff_eq]; exact hk
      have c3 : (n == (es.length : Int)) = ((es.length : Int) == n) := by
        rw [Bool.eq_iff_iff, beq_iff_eq, beq_iff_eq]; exact eq_comm
      rw [c2, c3]
      simp only [cond_true, Bool.true_and]
      cases (linesE 0 (opens 60 d 0)).length == d.length <;> rfl
  · simp (disch := omega) only [impl_IsValidLog.f, B_size, hw, dT, dF, cond_true, Bool.false_and]
end Go.Pu
end

section
set_option linter.unusedSimpArgs false
open Go Go.Ab
namespace Go.Pu
/-- The cells of a code are bytes. -/
def CodeOk (l : List AV) (n : Nat) : Prop := n ≤ 2 ^ 40 ∧ l.length = n ∧ ∀ a ∈ l, ∃ b : Int, a = .int .u8 b ∧ 0 ≤ b ∧ b ≤ 255
theorem CodeOk.get {l : List AV} {n : Nat} (h : CodeOk l n) {i : Nat} (hi : i < n) : ∃ b : Int, gInt .u8 (l.getD i .undef) = some b ∧ 0 ≤ b ∧ b ≤ 255 := by
  obtain ⟨_, h2, h3⟩ := h
  have hlt : i < l.length := by omega
  obtain ⟨b, e, h4⟩ := h3 _ (List.getElem_mem hlt)
  refine ⟨b, ?_, h4⟩
  rw [List.getD_eq_getElem?_getD, List.getElem?_eq_getElem hlt, Option.getD_some, e]; rfl
theorem iand255 (x : Int) : 0 ≤ iand .u64 x 255 ∧ iand .u64 x 255 ≤ 255 := by
  unfold iand
  have h : (BitVec.ofInt IntKind.u64.bits x &&& BitVec.ofInt IntKind.u64.bits 255).toNat ≤ 255 := by
    rw [BitVec.toNat_and]
    exact Nat.le_trans Nat.and_le_right (by decide)
  rw [w64u (by omega) (by omega)]
  omega
theorem next_ok (n0 : Nat) {code : List AV} {n : Nat} (hc : CodeOk code n) {at' : Int} (seed : Int) (h0 : 0 ≤ at') (h1 : at' < 2 ^ 62) :
    ∃ b s, spec_l1Cur_next.f n0 code n at' seed = some (b, code, n, at' + 1, s) ∧ 0 ≤ b ∧ b ≤ 255 := by
  have hw : IntKind.i64.wrap (at' + 1) = at' + 1 := w64 (by omega) (by omega)
  have hn := hc.1
  by_cases a : at' < (n : Int)
  · obtain ⟨b, hb, b0, b1⟩ := hc.get (i := at'.toNat) (by omega)
    have hwb : IntKind.i64.wrap b = b := w64 (by omega) (by omega)
    have e : ∃ s, spec_l1Cur_next.f n0 code n at' seed = some (b, code, n, at' + 1, s) := by
      simp (disch := omega) only [spec_l1Cur_next.f, dT, cond_true, Bool.and_self, Nat.mul_one, hb, bind_some', hw, hwb, Option.some.injEq, Prod.mk.injEq, true_and, exists_eq']
    obtain ⟨s, e⟩ := e
    exact ⟨b, s, e, b0, b1⟩
  · have hi := iand255 (ishr .u64 (IntKind.wrap .u64 (IntKind.wrap .u64 (IntKind.wrap .u64 (seed * 6364136223846793005) + 0) + 462197)) 40)
    have e : ∃ s, spec_l1Cur_next.f n0 code n at' seed = some (iand .u64 (ishr .u64 (IntKind.wrap .u64 (IntKind.wrap .u64 (IntKind.wrap .u64 (seed * 6364136223846793005) + 0) + 462197)) 40) 255, code, n, at' + 1, s) := by
      simp (disch := omega) only [spec_l1Cur_next.f, dF, cond_false, hw, w64, Option.some.injEq, Prod.mk.injEq, true_and, exists_eq']
    obtain ⟨s, e⟩ := e
    exact ⟨_, s, e, hi.1, hi.2⟩
theorem tmod_range {a k : Int} (h0 : 0 ≤ a) (hk : 0 < k) : 0 ≤ Int.tmod a k ∧ Int.tmod a k < k := by
  rw [Int.tmod_eq_emod_of_nonneg h0]
  exact ⟨Int.emod_nonneg _ (by omega), Int.emod_lt_of_pos _ hk⟩
theorem pick_ok (n0 : Nat) {code : List AV} {n : Nat} (hc : CodeOk code n) (k : Int) {at' : Int} (seed : Int) (h0 : 0 ≤ at') (h1 : at' < 2 ^ 61) :
    ∃ r t s, spec_l1Cur_pick.f n0 k code n at' seed = some (r, code, n, t, s) ∧ 0 ≤ r ∧ (1 ≤ k → r < k) ∧ (k ≤ 1 → r = 0) ∧ at' ≤ t ∧ t ≤ at' + 2 := by
  by_cases a : k ≤ 1
  · refine ⟨0, at', seed, ?_, by omega, by omega, fun _ => rfl, by omega, by omega⟩
    simp (disch := omega) only [spec_l1Cur_pick.f, dT, cond_true]
  · obtain ⟨b, s, e1, b0, b1⟩ := next_ok n0 hc seed h0 (by omega)
    have hk : (k != 0) = true := bneT (by omega)
    by_cases c : k > 200
    · obtain ⟨b2, s2, e2, b20, b21⟩ := next_ok n0 hc s (at' := at' + 1) (by omega) (by omega)
      have hw1 : IntKind.i64.wrap (b * 256) = b * 256 := w64 (by omega) (by omega)
      have hw2 : IntKind.i64.wrap (b * 256 + b2) = b * 256 + b2 := w64 (by omega) (by omega)
      have hr := tmod_range (a := b * 256 + b2) (k := k) (by omega) (by omega)
      refine ⟨Int.tmod (b * 256 + b2) k, at' + 1 + 1, s2, ?_, hr.1, fun _ => hr.2, by omega, by omega, by omega⟩
      simp (disch := omega) only [spec_l1Cur_pick.f, dF, dT, cond_false, cond_true, e1, e2, bind_some', hk, hw1, hw2]
    · have hr := tmod_range (a := b) (k := k) b0 (by omega)
      refine ⟨Int.tmod b k, at' + 1, s, ?_, hr.1, fun _ => hr.2, by omega, by omega, by omega⟩
      simp (disch := omega) only [spec_l1Cur_pick.f, dF, dT, cond_false, cond_true, e1, bind_some', hk]
theorem of_ok (n0 : Nat) {code : List AV} {n : Nat} (hc : CodeOk code n) (l : List (List UInt8)) (hl : l ≠ []) (hl2 : l.length < 1000) {at' : Int} (seed : Int) (h0 : 0 ≤ at') (h1 : at' < 2 ^ 61) :
    ∃ x t s, spec_l1Cur_of.f n0 l.length code n at' seed (l.map strA) = some (B x, code, n, t, s, l.map strA) ∧ x ∈ l ∧ at' ≤ t ∧ t ≤ at' + 2 := by
  have hpos : 0 < l.length := List.length_pos_iff.2 hl
  obtain ⟨r, t, s, e, r0, r1, _, t0, t1⟩ := pick_ok n0 hc (l.length : Int) seed h0 h1
  have hlt : r.toNat < l.length := by have := r1 (by omega); omega
  refine ⟨l[r.toNat], t, s, ?_, List.getElem_mem hlt, t0, t1⟩
  have hg : gStr ((l.map strA).getD (0 + r.toNat * 1) .undef) = some (B l[r.toNat]) := by
    rw [Nat.mul_one, Nat.zero_add, List.getD_eq_getElem?_getD, List.getElem?_map, List.getElem?_eq_getElem hlt]; rfl
  have hr1 := r1 (by omega)
  simp (disch := omega) only [spec_l1Cur_of.f, e, bind_some', dT, Bool.and_self, cond_true, hg]
def intsA (l : List Int) : List AV := l.map fun x => .int .i64 x
theorem among_ok (n0 : Nat) {code : List AV} {n : Nat} (hc : CodeOk code n) (l : List Int) (hl : l ≠ []) (hl2 : l.length < 1000) {at' : Int} (seed : Int) (h0 : 0 ≤ at') (h1 : at' < 2 ^ 61) :
    ∃ x t s, spec_l1Cur_among.f n0 l.length code n at' seed (intsA l) = some (x, code, n, t, s, intsA l) ∧ x ∈ l ∧ at' ≤ t ∧ t ≤ at' + 2 := by
  have hpos : 0 < l.length := List.length_pos_iff.2 hl
  obtain ⟨r, t, s, e, r0, r1, _, t0, t1⟩ := pick_ok n0 hc (l.length : Int) seed h0 h1
  have hlt : r.toNat < l.length := by have := r1 (by omega); omega
  refine ⟨l[r.toNat], t, s, ?_, List.getElem_mem hlt, t0, t1⟩
  have hg : gInt .i64 ((intsA l).getD (0 + r.toNat * 1) .undef) = some l[r.toNat] := by
    rw [Nat.mul_one, Nat.zero_add, List.getD_eq_getElem?_getD, intsA, List.getElem?_map, List.getElem?_eq_getElem hlt]; rfl
  have hr1 := r1 (by omega)
  simp (disch := omega) only [spec_l1Cur_among.f, e, bind_some', dT, Bool.and_self, cond_true, hg]
theorem one_ok (n0 : Nat) {code : List AV} {n : Nat} (hc : CodeOk code n) (k : Int) {at' : Int} (seed : Int) (h0 : 0 ≤ at') (h1 : at' < 2 ^ 61) :
    ∃ b t s, spec_l1Cur_one.f n0 k code n at' seed = some (b, code, n, t, s) ∧ at' ≤ t ∧ t ≤ at' + 2 := by
  obtain ⟨r, t, s, e, _, _, _, t0, t1⟩ := pick_ok n0 hc k seed h0 h1
  refine ⟨r == 0, t, s, ?_, t0, t1⟩
  simp only [spec_l1Cur_one.f, e, bind_some']
end Go.Pu
end

section
set_option linter.unusedSimpArgs false
open Go Go.Ab
namespace Go.Pu
theorem spoilt_ok (n0 : Nat) {code : List AV} {n : Nat} (hc : CodeOk code n) (t w : List UInt8) (ht : t.length < 2 ^ 30) (hw0 : w ≠ []) (hw : w.length < 1000) {at' : Int} (seed : Int) (h0 : 0 ≤ at') (h1 : at' < 2 ^ 60) :
    ∃ r u s, spec_l1Cur_spoilt.f n0 (B t) (B w) code n at' seed = some (B r, code, n, u, s) ∧ r.length ≤ t.length + 1 ∧ at' ≤ u ∧ u ≤ at' + 6 := by
  have hwp : 0 < w.length := List.length_pos_iff.2 hw0
  by_cases a : t = []
  · subst a
    refine ⟨w.take 1, at', seed, ?_, by simp; omega, by omega, by omega⟩
    simp (disch := omega) only [spec_l1Cur_spoilt.f, B_toList, beq_self_eq_true, cond_true, dT, B_size, Bool.and_self, B_extract, List.drop_zero]
  · have htp : 0 < t.length := List.length_pos_iff.2 a
    have hb : (t == ([] : List UInt8)) = false := by simpa using a
    obtain ⟨i, u1, s1, e1, i0, i1, _, a1, a2⟩ := pick_ok n0 hc (t.length : Int) seed h0 (by omega)
    obtain ⟨j, u2, s2, e2, j0, j1, _, a3, a4⟩ := pick_ok n0 hc (w.length : Int) s1 (at' := u1) (by omega) (by omega)
    obtain ⟨k, u3, s3, e3, k0, k1, _, a5, a6⟩ := pick_ok n0 hc 3 s2 (at' := u2) (by omega) (by omega)
    have hi := i1 (by omega)
    have hj := j1 (by omega)
    have hwi : IntKind.i64.wrap (i + 1) = i + 1 := w64 (by omega) (by omega)
    by_cases c0 : k = 0
    · simp (disch := omega) only [spec_l1Cur_spoilt.f, B_toList, hb, cond_false, cond_true, e1, e2, e3, bind_some', dT, Bool.and_self, B_size, B_extract, B_append, List.length_append, List.length_drop, List.length_take, List.drop_zero, beqT, hwi]
      exact ⟨_, u3, s3, rfl, by simp only [List.length_append, List.length_drop, List.length_take]; omega, by omega, by omega⟩
    · by_cases c1 : k = 1
      · simp (disch := omega) only [spec_l1Cur_spoilt.f, B_toList, hb, cond_false, cond_true, e1, e2, e3, bind_some', dT, Bool.and_self, B_size, B_extract, B_append, List.length_append, List.length_drop, List.length_take, List.drop_zero, beqT, beqF, hwi]
        exact ⟨_, u3, s3, rfl, by simp only [List.length_append, List.length_drop, List.length_take]; omega, by omega, by omega⟩
      · simp (disch := omega) only [spec_l1Cur_spoilt.f, B_toList, hb, cond_false, cond_true, e1, e2, e3, bind_some', dT, Bool.and_self, B_size, B_extract, B_append, List.length_append, List.length_drop, List.length_take, List.drop_zero, beqT, beqF, hwi]
        exact ⟨_, u3, s3, rfl, by simp only [List.length_append, List.length_drop, List.length_take]; omega, by omega, by omega⟩
end Go.Pu
end

section
set_option linter.unusedSimpArgs false
open Go Go.Ab
namespace Go.Pu
def inS (a : Int) : Bool := decide (0 ≤ a) && decide (a ≤ 63)
def okS (a0 a1 a2 a3 a4 a5 : Int) : Bool := inS a0 && (inS a1 && (inS a2 && (inS a3 && (inS a4 && inS a5))))
theorem l2Sheet_un (n a0 a1 a2 a3 a4 a5) : spec_l2Sheet.f (n + 7) a0 a1 a2 a3 a4 a5 =
    ((spec_l1In.f (n + 7) a0 0 63).bind fun v => bif !v then some false else
     (spec_l1In.f (n + 7) a1 0 63).bind fun v => bif !v then some false else
     (spec_l1In.f (n + 7) a2 0 63).bind fun v => bif !v then some false else
     (spec_l1In.f (n + 7) a3 0 63).bind fun v => bif !v then some false else
     (spec_l1In.f (n + 7) a4 0 63).bind fun v => bif !v then some false else
     (spec_l1In.f (n + 7) a5 0 63).bind fun v => bif !v then some false else some true) := by kernel_rfl
theorem l1In_inS (n0 : Nat) (a : Int) : spec_l1In.f n0 a 0 63 = some (inS a) := l1In_eq n0 a 0 63
theorem l2Sheet_eq (n0 : Nat) (hn : 7 ≤ n0) (a0 a1 a2 a3 a4 a5) : spec_l2Sheet.f n0 a0 a1 a2 a3 a4 a5 = some (okS a0 a1 a2 a3 a4 a5) := by
  obtain ⟨n, rfl⟩ : ∃ m, n0 = m + 7 := ⟨n0 - 7, by omega⟩
  rw [l2Sheet_un]
  simp only [l1In_inS, bind_some', okS]
  cases inS a0 <;> cases inS a1 <;> cases inS a2 <;> cases inS a3 <;> cases inS a4 <;> cases inS a5 <;> rfl
theorem setOf_un (n a0 a1 a2 a3 a4 a5) : ∃ v, impl_setOf.f (n + 7) a0 a1 a2 a3 a4 a5 =
    (bif decide (a0 < 0) then some (0, false) else bif decide (a0 > 63) then some (0, false) else
     bif decide (a1 < 0) then some (0, false) else bif decide (a1 > 63) then some (0, false) else
     bif decide (a2 < 0) then some (0, false) else bif decide (a2 > 63) then some (0, false) else
     bif decide (a3 < 0) then some (0, false) else bif decide (a3 > 63) then some (0, false) else
     bif decide (a4 < 0) then some (0, false) else bif decide (a4 > 63) then some (0, false) else
     bif decide (a5 < 0) then some (0, false) else bif decide (a5 > 63) then some (0, false) else
     some (v, true)) := ⟨ior .u64 (ior .u64 (ior .u64 (ior .u64 (ior .u64 (ior .u64 0 (ishl .u64 (IntKind.wrap .u64 a0) 0)) (ishl .u64 (IntKind.wrap .u64 a1) 6)) (ishl .u64 (IntKind.wrap .u64 a2) 12)) (ishl .u64 (IntKind.wrap .u64 a3) 18)) (ishl .u64 (IntKind.wrap .u64 a4) 24)) (ishl .u64 (IntKind.wrap .u64 a5) 30), by kernel_rfl⟩
theorem inS_cases (a : Int) : inS a = (!(decide (a < 0)) && !(decide (a > 63))) := by
  rw [Bool.eq_iff_iff]; simp [inS]
theorem isSheet_eq (n0 : Nat) (hn : 7 ≤ n0) (a0 a1 a2 a3 a4 a5) : impl_IsSheet.f n0 a0 a1 a2 a3 a4 a5 = some (okS a0 a1 a2 a3 a4 a5) := by
  obtain ⟨n, rfl⟩ : ∃ m, n0 = m + 7 := ⟨n0 - 7, by omega⟩
  obtain ⟨v, h⟩ := setOf_un n a0 a1 a2 a3 a4 a5
  simp only [impl_IsSheet.f, h, okS, inS_cases]
  cases decide (a0 < 0) <;> cases decide (a0 > 63) <;> try rfl
  cases decide (a1 < 0) <;> cases decide (a1 > 63) <;> try rfl
  cases decide (a2 < 0) <;> cases decide (a2 > 63) <;> try rfl
  cases decide (a3 < 0) <;> cases decide (a3 > 63) <;> try rfl
  cases decide (a4 < 0) <;> cases decide (a4 > 63) <;> try rfl
  cases decide (a5 < 0) <;> cases decide (a5 > 63) <;> rfl
theorem toIntA6_un (n a0 a1 a2 a3 a4 a5) : laws_toIntA6.f (n + 7) a0 a1 a2 a3 a4 a5 = some (a0, a1, a2, a3, a4, a5) := by kernel_rfl
theorem toIntA6_eq (n0 : Nat) (hn : 7 ≤ n0) (a0 a1 a2 a3 a4 a5) : laws_toIntA6.f n0 a0 a1 a2 a3 a4 a5 = some (a0, a1, a2, a3, a4, a5) := by
  obtain ⟨n, rfl⟩ : ∃ m, n0 = m + 7 := ⟨n0 - 7, by omega⟩
  exact toIntA6_un n a0 a1 a2 a3 a4 a5
def okShop (a0 a1 a2 a3 a4 a5 b0 b1 b2 b3 b4 b5 p c : Int) : Bool :=
  okS a0 a1 a2 a3 a4 a5 && (okS b0 b1 b2 b3 b4 b5 && ((decide (0 ≤ p) && decide (p ≤ 1000)) && (decide (0 ≤ c) && decide (c ≤ 1000))))
theorem good_spec (n0 : Nat) (hn : 7 ≤ n0) (a0 a1 a2 a3 a4 a5 b0 b1 b2 b3 b4 b5 p c) : spec_l12Good.f n0 a0 a1 a2 a3 a4 a5 b0 b1 b2 b3 b4 b5 p c = some (okShop a0 a1 a2 a3 a4 a5 b0 b1 b2 b3 b4 b5 p c) := by
  simp only [spec_l12Good.f, l2Sheet_eq n0 hn, l1In_eq, bind_some', okShop]
  cases okS a0 a1 a2 a3 a4 a5 <;> cases okS b0 b1 b2 b3 b4 b5 <;> cases (decide (0 ≤ p) && decide (p ≤ 1000)) <;> rfl
theorem isShop_impl (n0 : Nat) (hn : 7 ≤ n0) (a0 a1 a2 a3 a4 a5 b0 b1 b2 b3 b4 b5 p c) : impl_IsShop.f n0 a0 a1 a2 a3 a4 a5 b0 b1 b2 b3 b4 b5 p c = some (okShop a0 a1 a2 a3 a4 a5 b0 b1 b2 b3 b4 b5 p c) := by
  have e1 : decide (p ≥ 0) = decide (0 ≤ p) := rfl
  have e2 : decide (c ≥ 0) = decide (0 ≤ c) := rfl
  simp only [impl_IsShop.f, isSheet_eq n0 hn, bind_some', okShop, e1, e2]
  cases okS a0 a1 a2 a3 a4 a5 <;> cases okS b0 b1 b2 b3 b4 b5 <;> cases decide (0 ≤ p) <;> cases decide (p ≤ 1000) <;> cases decide (0 ≤ c) <;> rfl
theorem console_spec (n0 : Nat) (hn0 : 2 ^ 40 ≤ n0) (a0 a1 a2 a3 a4 a5 b0 b1 b2 b3 b4 b5 p c) (d q : List UInt8) (n : Int) (hd : d.length < 2 ^ 28) (hq : q.length < 2 ^ 28) :
    spec_IsValidConsole.f n0 a0 a1 a2 a3 a4 a5 b0 b1 b2 b3 b4 b5 p c (B d) (B q) n = some (okShop a0 a1 a2 a3 a4 a5 b0 b1 b2 b3 b4 b5 p c && validL d q n) := by
  simp only [spec_IsValidConsole.f, good_spec n0 (by omega), valid_spec n0 d q n hd hq hn0, bind_some']
  cases okShop a0 a1 a2 a3 a4 a5 b0 b1 b2 b3 b4 b5 p c <;> rfl
theorem console_impl (n0 : Nat) (hn0 : 2 ^ 40 ≤ n0) (a0 a1 a2 a3 a4 a5 b0 b1 b2 b3 b4 b5 p c) (d q : List UInt8) (n : Int) (hd : d.length < 2 ^ 28) (hq : q.length < 2 ^ 28) :
    impl_IsValidConsole.f n0 a0 a1 a2 a3 a4 a5 b0 b1 b2 b3 b4 b5 p c (B d) (B q) n = some (okShop a0 a1 a2 a3 a4 a5 b0 b1 b2 b3 b4 b5 p c && validL d q n) := by
  simp only [impl_IsValidConsole.f, isShop_impl n0 (by omega), valid_impl n0 d q n hd hq hn0, bind_some']
  cases okShop a0 a1 a2 a3 a4 a5 b0 b1 b2 b3 b4 b5 p c <;> rfl
theorem toConsole_eq (n0 : Nat) (hn : 7 ≤ n0) (a0 a1 a2 a3 a4 a5 b0 b1 b2 b3 b4 b5 p c : Int) (d q : ByteArray) (n : Int) :
    laws_toConsole.f n0 a0 a1 a2 a3 a4 a5 b0 b1 b2 b3 b4 b5 p c d q n = some (a0, a1, a2, a3, a4, a5, b0, b1, b2, b3, b4, b5, p, c, d, q, n) := by
  simp only [laws_toConsole.f, laws_toShop.f, laws_toSheet.f, laws_toLog.f, toIntA6_eq n0 hn, bind_some']
/-- What is left of the budget behind a log. -/
theorem szLog_eq (n0 : Nat) (d q : ByteArray) (n : Int) (hd : d.size < 2 ^ 63) (hq : q.size < 2 ^ 63) :
    laws_szLog.f n0 d q n 1048576 = some (if (d.size : Int) + (q.size : Int) ≤ 1048576 then 1048576 - (d.size : Int) - (q.size : Int) else -1) := by
  have hw1 : IntKind.wrap .i64 (1048576 - (d.size : Int)) = 1048576 - (d.size : Int) := w64 (by omega) (by omega)
  simp only [laws_szLog.f, hw1]
  by_cases a : 1048576 - (d.size : Int) < 0
  · have b : ¬ ((d.size : Int) + (q.size : Int) ≤ 1048576) := by omega
    simp only [dT a, cond_true, if_neg b]
  · have hw2 : IntKind.wrap .i64 (1048576 - (d.size : Int) - (q.size : Int)) = 1048576 - (d.size : Int) - (q.size : Int) := w64 (by omega) (by omega)
    simp only [dF a, cond_false, hw2]
    by_cases b : (d.size : Int) + (q.size : Int) ≤ 1048576
    · have c : ¬ (1048576 - (d.size : Int) - (q.size : Int) < 0) := by omega
      simp only [dF c, cond_false, if_pos b]
    · have c : 1048576 - (d.size : Int) - (q.size : Int) < 0 := by omega
      simp only [dT c, cond_true, if_neg b]
theorem isValidConsole_law (n0 : Nat) (hn0 : 2 ^ 40 ≤ n0) (a0 a1 a2 a3 a4 a5 b0 b1 b2 b3 b4 b5 p c : Int) (d q : ByteArray) (n : Int) (hd : d.size < 2 ^ 63) (hq : q.size < 2 ^ 63) :
    laws_FnExactIsValidConsole.f n0 a0 a1 a2 a3 a4 a5 b0 b1 b2 b3 b4 b5 p c d q n = some true := by
  simp only [laws_FnExactIsValidConsole.f, laws_szConsole.f, szLog_eq n0 d q n hd hq, bind_some']
  by_cases h : (d.size : Int) + (q.size : Int) ≤ 1048576
  · have hL1 := L_len d
    have hL2 := L_len q
    have e1 := console_spec n0 hn0 a0 a1 a2 a3 a4 a5 b0 b1 b2 b3 b4 b5 p c (L d) (L q) n (by omega) (by omega)
    have e2 := console_impl n0 hn0 a0 a1 a2 a3 a4 a5 b0 b1 b2 b3 b4 b5 p c (L d) (L q) n (by omega) (by omega)
    rw [B_L, B_L] at e1 e2
    have g : ¬ (1048576 - (d.size : Int) - (q.size : Int) < 0) := by omega
    simp only [if_pos h, dF g, cond_false, toConsole_eq n0 (by omega), bind_some', e1, e2, beq_self_eq_true, Bool.not_true]
  · simp only [if_neg h]
    rfl
end Go.Pu
end

section
set_option linter.unusedSimpArgs false
open Go Go.Ab
namespace Go.Pu
theorem encode_spec (n0 k : Nat) (c r : List UInt8) (hc : c.length < 2 ^ 31) (hr : r.length < 2 ^ 31) (hn : 2 ^ 40 ≤ n0) (hk : k ≤ 1000) :
    spec_EncodeRecord.f n0 (k : Int) (B c) (B r) = some (if decide (k < 60) && validE c r then (B (lineE k c r), true) else (B [], false)) := by
  have e1 := l1In_eq n0 (k : Int) 0 59
  have e2 := record_spec n0 c r hc hr hn
  have e3 := line_spec n0 k c r hc hr hn hk
  have h1 : (decide ((0 : Int) ≤ (k : Int)) && decide ((k : Int) ≤ 59)) = decide (k < 60) := by
    rw [Bool.eq_iff_iff]; simp; omega
  rw [h1] at e1
  simp only [spec_EncodeRecord.f, e1, e2, e3, bind_some']
  cases decide (k < 60) <;> cases validE c r <;> rfl
theorem encode_neg (n0 : Nat) (k : Int) (hk : k < 0 ∨ 60 ≤ k) (c r : List UInt8) : spec_EncodeRecord.f n0 k (B c) (B r) = some (B [], false) ∧ impl_EncodeRecord.f n0 k (B c) (B r) = some (B [], false) := by
  have e1 := l1In_eq n0 k 0 59
  have h1 : (decide ((0 : Int) ≤ k) && decide (k ≤ 59)) = false := by
    rw [Bool.eq_false_iff]; intro h; simp at h; omega
  rw [h1] at e1
  refine ⟨by simp only [spec_EncodeRecord.f, e1, bind_some']; rfl, ?_⟩
  by_cases h : k < 0
  · simp (disch := omega) only [impl_EncodeRecord.f, dT, cond_true]
  · simp (disch := omega) only [impl_EncodeRecord.f, dT, dF, cond_true, cond_false]
/-- A log behind an append. -/
def appendL (d p : List UInt8) (n : Int) (c r : List UInt8) : List UInt8 × List UInt8 × Int × Int :=
  if validL d p n && validE c r then (if n = 60 then (d, p, n, 2) else (d, p ++ lineE n.toNat c r, n + 1, 0)) else (d, p, n, 1)
theorem validL_n {d p : List UInt8} {n : Int} (h : validL d p n = true) : 0 ≤ n ∧ n ≤ 60 ∧ n = ((opens 60 (d ++ p) 0).length : Int) ∧ d.length + p.length ≤ 30000 := by
  unfold validL at h
  simp only [Bool.and_eq_true, decide_eq_true_eq, beq_iff_eq] at h
  have := (opens_pre 60 (d ++ p) 0).2.1
  omega
theorem append_impl (n0 : Nat) (d p : List UInt8) (n : Int) (c r : List UInt8) (hd : d.length < 2 ^ 28) (hp : p.length < 2 ^ 28) (hc : c.length < 2 ^ 28) (hr : r.length < 2 ^ 28) (hn0 : 2 ^ 40 ≤ n0) :
    impl_AppendRecord.f n0 (B d) (B p) n (B c) (B r) = some (B (appendL d p n c r).1, B (appendL d p n c r).2.1, (appendL d p n c r).2.2.1, (appendL d p n c r).2.2.2) := by
  have e1 := valid_impl n0 d p n hd hp hn0
  have e2 := record_impl n0 c r (by omega) (by omega) hn0
  unfold appendL
  cases v : validL d p n
  · rw [v] at e1
    simp only [impl_AppendRecord.f, e1, bind_some', Bool.not_false, cond_true, Bool.false_and, Bool.false_eq_true, if_false]
  · obtain ⟨n1, n2, _, n4⟩ := validL_n v
    rw [v] at e1
    cases w : validE c r
    · rw [w] at e2
      simp only [impl_AppendRecord.f, e1, e2, bind_some', Bool.not_true, Bool.not_false, cond_true, cond_false, Bool.and_false, Bool.false_eq_true, if_false]
    · rw [w] at e2
      by_cases h : n = 60
      · subst h
        simp only [impl_AppendRecord.f, e1, e2, bind_some', Bool.not_true, cond_true, cond_false, Bool.and_self, if_true, beq_self_eq_true]
      · have hnn : ((n.toNat : Nat) : Int) = n := Int.toNat_of_nonneg n1
        have e3 := encode_impl n0 n.toNat c r (by omega) (by omega) hn0 (by omega)
        rw [hnn, w, dT (p := n.toNat < 60) (by omega)] at e3
        have hl := sealL_len (bodyE n.toNat c r)
        have hb := body_len (validE_iff.1 w) (k := n.toNat) (by omega)
        have hll : (lineE n.toNat c r).length ≤ 430 := by simp [lineE]; omega
        have hw : IntKind.i64.wrap (n + 1) = n + 1 := w64 (by omega) (by omega)
        simp (disch := omega) only [impl_AppendRecord.f, e1, e2, e3, bind_some', Bool.not_true, cond_true, cond_false, Bool.and_self, if_true, beqF, dT, B_size, B_append, hw, if_neg h]
theorem sync_impl (n0 : Nat) (d p : List UInt8) (n : Int) (hd : d.length < 2 ^ 28) (hp : p.length < 2 ^ 28) (hn0 : 2 ^ 40 ≤ n0) :
    impl_SyncLog.f n0 (B d) (B p) n = some (if validL d p n then (B (d ++ p), B [], n, true) else (B [], B [], 0, false)) := by
  have e1 := valid_impl n0 d p n hd hp hn0
  simp (disch := omega) only [impl_SyncLog.f, e1, bind_some', dT, B_size, B_append, cond_true]
  cases validL d p n <;> rfl
theorem sync_spec (n0 : Nat) (d p : List UInt8) (n : Int) (hd : d.length < 2 ^ 28) (hp : p.length < 2 ^ 28) (hn0 : 2 ^ 40 ≤ n0) :
    spec_SyncLog.f n0 (B d) (B p) n = some (if validL d p n then (B (d ++ p), B [], n, true) else (B [], B [], 0, false)) := by
  have e1 := valid_spec n0 d p n hd hp hn0
  simp (disch := omega) only [spec_SyncLog.f, e1, bind_some', dT, B_size, B_append, cond_true]
  cases validL d p n <;> rfl
/-- The records of a log. -/
def recsL (d p : List UInt8) (n : Int) : List Rec := if validL d p n then opens 60 (d ++ p) 0 else []
theorem records_spec (n0 : Nat) (d p : List UInt8) (n : Int) (hd : d.length < 2 ^ 28) (hp : p.length < 2 ^ 28) (hn0 : 2 ^ 40 ≤ n0) :
    spec_LogRecords.f n0 (B d) (B p) n = some (flatE (recsL d p n), (recsL d p n).length, validL d p n) := by
  have e1 := valid_spec n0 d p n hd hp hn0
  have e2 := l12Open_eq n0 (d ++ p) (by simp; omega) hn0
  simp (disch := omega) only [spec_LogRecords.f, e1, e2, bind_some', dT, B_size, B_append, cond_true, recsL]
  cases validL d p n <;> rfl
theorem records_impl (n0 : Nat) (d p : List UInt8) (n : Int) (hd : d.length < 2 ^ 28) (hp : p.length < 2 ^ 28) (hn0 : 2 ^ 40 ≤ n0) :
    impl_LogRecords.f n0 (B d) (B p) n = some (flatE (recsL d p n), (recsL d p n).length, validL d p n) := by
  have e1 := valid_impl n0 d p n hd hp hn0
  have e2 := recordsOf_eq n0 (d ++ p) (by simp; omega) hn0
  simp (disch := omega) only [impl_LogRecords.f, e1, e2, bind_some', dT, B_size, B_append, cond_true, recsL]
  cases validL d p n <;> rfl
theorem flat_get (es : List Rec) : ∀ (i : Nat) (e : Rec), es[i]? = some e → gStr ((flatE es).getD (i * 2) .undef) = some (B e.1) ∧ gStr ((flatE es).getD (i * 2 + 1) .undef) = some (B e.2) := by
  induction es with
  | nil => intro i e h; simp at h
  | cons x es ih =>
    intro i e h
    cases i with
    | zero => simp at h; subst h; exact ⟨rfl, rfl⟩
    | succ i =>
      have := ih i e (by simpa using h)
      have e1 : flatE (x :: es) = strA x.1 :: strA x.2 :: flatE es := rfl
      rw [e1, show (i + 1) * 2 = i * 2 + 1 + 1 by omega]
      simpa using this
theorem vRecords_loop (n0 : Nat) (xs ys : List Rec) (hl : xs.length = ys.length) (hs : xs.length < 2 ^ 40) : ∀ (d i n : Nat), i + d = xs.length → d < n →
    laws_vRecords.l4 n0 (fun y => some y) (some true) n (flatE xs) xs.length (flatE ys) ys.length (i : Int) = some (decide (xs.drop i = ys.drop i))
  | 0, i, n + 1, hi, hn => by
    have h1 : xs.drop i = [] := List.drop_eq_nil_of_le (by omega)
    have h2 : ys.drop i = [] := List.drop_eq_nil_of_le (by omega)
    simp (disch := omega) only [laws_vRecords.l4, laws_vRecords.l4S, dF, cond_false, h1, h2, decide_true]
  | d + 1, i, n + 1, hi, hn => by
    have hx : i < xs.length := by omega
    have hy : i < ys.length := by omega
    have ih := vRecords_loop n0 xs ys hl hs d (i + 1) n (by omega) (by omega)
    obtain ⟨x1, x2⟩ := flat_get xs i _ (List.getElem?_eq_getElem hx)
    obtain ⟨y1, y2⟩ := flat_get ys i _ (List.getElem?_eq_getElem hy)
    have lx := flatE_len xs
    have ly := flatE_len ys
    have hw : IntKind.wrap .i64 ((i : Int) + 1) = ((i + 1 : Nat) : Int) := by rw [w64 (by omega) (by omega)]; omega
    rw [List.drop_eq_getElem_cons hx, List.drop_eq_getElem_cons hy]
    simp (disch := omega) only [laws_vRecords.l4, laws_vRecords.l4S, dT, Bool.and_self, cond_true, Int.toNat_natCast, x1, x2, y1, y2, bind_some', B_toList, hw, ih, Bool.and_true]
    by_cases h1 : xs[i].1 = ys[i].1
    · by_cases h2 : xs[i].2 = ys[i].2
      · have : xs[i] = ys[i] := Prod.ext h1 h2
        simp only [h1, h2, beq_self_eq_true, Bool.and_self, Bool.not_true, cond_false, this, List.cons.injEq, true_and]
      · have hb : (xs[i].2 == ys[i].2) = false := by simpa using h2
        simp only [hb, Bool.and_false, Bool.not_false, cond_true]
        rw [dF]; intro h; injection h with h _; exact h2 (by rw [h])
    · have hb : (xs[i].1 == ys[i].1) = false := by simpa using h1
      simp only [hb, Bool.false_and, Bool.not_false, cond_true]
      rw [dF]; intro h; injection h with h _; exact h1 (by rw [h])
theorem vRecords_eq (n0 : Nat) (xs ys : List Rec) (hs : xs.length < 2 ^ 30) (hn0 : 2 ^ 40 ≤ n0) :
    laws_vRecords.f n0 (flatE xs) xs.length (flatE ys) ys.length = some (decide (xs = ys)) := by
  by_cases h : xs.length = ys.length
  · have := vRecords_loop n0 xs ys h (by omega) xs.length 0 n0 (by omega) (by omega)
    simp (disch := omega) only [laws_vRecords.f, bneF, cond_false]
    exact this
  · simp (disch := omega) only [laws_vRecords.f, bneT, cond_true]
    rw [dF]; intro e; exact h (by rw [e])
end Go.Pu
end
