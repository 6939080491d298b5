/- Plain lemmas: checks that are decided, numbers that do not wrap, bytes as lists. No condition. -/
import Derived.Test.YtnalegahabfglaaDoorAbDoor
import Derived.Lib.IndexMore
import Derived.Lib.ItoaNum
set_option linter.all false
set_option linter.unusedVariables false
set_option linter.unusedSimpArgs false
open Go Go.Ab
namespace Go.Pu
theorem w64 {n : Int} (h0 : -9223372036854775808 ≤ n) (h1 : n ≤ 9223372036854775807) : IntKind.i64.wrap n = n := by
  unfold IntKind.wrap
  simp [IntKind.bits, IntKind.signed]
  omega
theorem w64u {n : Int} (h0 : 0 ≤ n) (h1 : n ≤ 18446744073709551615) : IntKind.u64.wrap n = n := by
  unfold IntKind.wrap
  simp [IntKind.bits, IntKind.signed]
  omega
theorem dT {p : Prop} [Decidable p] (h : p) : Decidable.decide p = true := decide_eq_true h
theorem dF {p : Prop} [Decidable p] (h : ¬ p) : Decidable.decide p = false := decide_eq_false h
theorem bind_some' {α β : Type} (a : α) (f : α → Option β) : (some a).bind f = f a := rfl
theorem beqT {a b : Int} (h : a = b) : (a == b) = true := by simpa using h
theorem beqF {a b : Int} (h : a ≠ b) : (a == b) = false := by simpa using h
theorem bneT {a b : Int} (h : a ≠ b) : (a != b) = true := by simpa using h
theorem bneF {a b : Int} (h : a = b) : (a != b) = false := by simpa using h
/-- The bytes of a text. -/
abbrev L (s : ByteArray) : List UInt8 := s.data.toList
theorem L_len (s : ByteArray) : (L s).length = s.size := Array.length_toList
theorem L_append (a b : ByteArray) : L (a ++ b) = L a ++ L b := by simp [L]
theorem L_inj {a b : ByteArray} (h : L a = L b) : a = b := by
  ext1; exact Array.ext' h
theorem L_mk (l : List UInt8) : L ⟨l.toArray⟩ = l := by simp [L]
theorem L_lit (a : Array UInt8) : L ⟨a⟩ = a.toList := rfl
theorem L_extract (s : ByteArray) (i j : Nat) : L (s.extract i j) = ((L s).take j).drop i := by
  simp [L, ByteArray.data_extract, List.extract_eq_take_drop, List.drop_take]
theorem size_mk (a : Array UInt8) : (ByteArray.mk a).size = a.size := rfl
theorem toList_L (s : ByteArray) : s.toList = L s := by
  exact ByteArray.toList_eq s
theorem bt_L (s : ByteArray) (i : Nat) : bt s (i : Int) = (((L s).getD i 0).toNat : Int) := by
  unfold bt; simp [L, Array.getD_eq_getD_getElem?, List.getD_eq_getElem?_getD]
theorem bt_range (s : ByteArray) (i : Int) : 0 ≤ bt s i ∧ bt s i ≤ 255 := by
  unfold bt
  have := (s.data.getD i.toNat 0).toNat_lt
  omega
end Go.Pu
