/- Plain lemmas on the pure functions: IsValidConsole as the reference has it. No condition. -/
import Derived.Test.YtnalegahabfglaaDoorPuH
import Derived.KernelRfl
set_option linter.all false
set_option linter.unusedVariables false
set_option linter.unusedSimpArgs false
set_option linter.unusedSimpArgs false
open Go Go.Ab
namespace Go.Pu
def inS (a : Int) : Bool := decide (0 ≤ a) && decide (a ≤ 63)
def okS (a0 a1 a2 a3 a4 a5 : Int) : Bool := inS a0 && (inS a1 && (inS a2 && (inS a3 && (inS a4 && inS a5))))
theorem l2Sheet_un (n a0 a1 a2 a3 a4 a5) : spec_l2Sheet.f (n + 7) a0 a1 a2 a3 a4 a5 =
    ((spec_l1In.f (n + 7) a0 0 63).bind fun v => bif !v then some false else
     (spec_l1In.f (n + 7) a1 0 63).bind fun v => bif !v then some false else
     (spec_l1In.f (n + 7) a2 0 63).bind fun v => bif !v then some false else
     (spec_l1In.f (n + 7) a3 0 63).bind fun v => bif !v then some false else
     (spec_l1In.f (n + 7) a4 0 63).bind fun v => bif !v then some false else
     (spec_l1In.f (n + 7) a5 0 63).bind fun v => bif !v then some false else some true) := by kernel_rfl
theorem l1In_inS (n0 : Nat) (a : Int) : spec_l1In.f n0 a 0 63 = some (inS a) := l1In_eq n0 a 0 63
theorem l2Sheet_eq (n0 : Nat) (hn : 7 ≤ n0) (a0 a1 a2 a3 a4 a5) : spec_l2Sheet.f n0 a0 a1 a2 a3 a4 a5 = some (okS a0 a1 a2 a3 a4 a5) := by
  obtain ⟨n, rfl⟩ : ∃ m, n0 = m + 7 := ⟨n0 - 7, by omega⟩
  rw [l2Sheet_un]
  simp only [l1In_inS, bind_some', okS]
  cases inS a0 <;> cases inS a1 <;> cases inS a2 <;> cases inS a3 <;> cases inS a4 <;> cases inS a5 <;> rfl
theorem setOf_un (n a0 a1 a2 a3 a4 a5) : ∃ v, impl_setOf.f (n + 7) a0 a1 a2 a3 a4 a5 =
    (bif decide (a0 < 0) then some (0, false) else bif decide (a0 > 63) then some (0, false) else
     bif decide (a1 < 0) then some (0, false) else bif decide (a1 > 63) then some (0, false) else
     bif decide (a2 < 0) then some (0, false) else bif decide (a2 > 63) then some (0, false) else
     bif decide (a3 < 0) then some (0, false) else bif decide (a3 > 63) then some (0, false) else
     bif decide (a4 < 0) then some (0, false) else bif decide (a4 > 63) then some (0, false) else
     bif decide (a5 < 0) then some (0, false) else bif decide (a5 > 63) then some (0, false) else
     some (v, true)) := ⟨ior .u64 (ior .u64 (ior .u64 (ior .u64 (ior .u64 (ior .u64 0 (ishl .u64 (IntKind.wrap .u64 a0) 0)) (ishl .u64 (IntKind.wrap .u64 a1) 6)) (ishl .u64 (IntKind.wrap .u64 a2) 12)) (ishl .u64 (IntKind.wrap .u64 a3) 18)) (ishl .u64 (IntKind.wrap .u64 a4) 24)) (ishl .u64 (IntKind.wrap .u64 a5) 30), by kernel_rfl⟩
theorem inS_cases (a : Int) : inS a = (!(decide (a < 0)) && !(decide (a > 63))) := by
  rw [Bool.eq_iff_iff]; simp [inS]
theorem isSheet_eq (n0 : Nat) (hn : 7 ≤ n0) (a0 a1 a2 a3 a4 a5) : impl_IsSheet.f n0 a0 a1 a2 a3 a4 a5 = some (okS a0 a1 a2 a3 a4 a5) := by
  obtain ⟨n, rfl⟩ : ∃ m, n0 = m + 7 := ⟨n0 - 7, by omega⟩
  obtain ⟨v, h⟩ := setOf_un n a0 a1 a2 a3 a4 a5
  simp only [impl_IsSheet.f, h, okS, inS_cases]
  cases decide (a0 < 0) <;> cases decide (a0 > 63) <;> try rfl
  cases decide (a1 < 0) <;> cases decide (a1 > 63) <;> try rfl
  cases decide (a2 < 0) <;> cases decide (a2 > 63) <;> try rfl
  cases decide (a3 < 0) <;> cases decide (a3 > 63) <;> try rfl
  cases decide (a4 < 0) <;> cases decide (a4 > 63) <;> try rfl
  cases decide (a5 < 0) <;> cases decide (a5 > 63) <;> rfl
theorem toIntA6_un (n a0 a1 a2 a3 a4 a5) : laws_toIntA6.f (n + 7) a0 a1 a2 a3 a4 a5 = some (a0, a1, a2, a3, a4, a5) := by kernel_rfl
theorem toIntA6_eq (n0 : Nat) (hn : 7 ≤ n0) (a0 a1 a2 a3 a4 a5) : laws_toIntA6.f n0 a0 a1 a2 a3 a4 a5 = some (a0, a1, a2, a3, a4, a5) := by
  obtain ⟨n, rfl⟩ : ∃ m, n0 = m + 7 := ⟨n0 - 7, by omega⟩
  exact toIntA6_un n a0 a1 a2 a3 a4 a5
def okShop (a0 a1 a2 a3 a4 a5 b0 b1 b2 b3 b4 b5 p c : Int) : Bool :=
  okS a0 a1 a2 a3 a4 a5 && (okS b0 b1 b2 b3 b4 b5 && ((decide (0 ≤ p) && decide (p ≤ 1000)) && (decide (0 ≤ c) && decide (c ≤ 1000))))
theorem good_spec (n0 : Nat) (hn : 7 ≤ n0) (a0 a1 a2 a3 a4 a5 b0 b1 b2 b3 b4 b5 p c) : spec_l12Good.f n0 a0 a1 a2 a3 a4 a5 b0 b1 b2 b3 b4 b5 p c = some (okShop a0 a1 a2 a3 a4 a5 b0 b1 b2 b3 b4 b5 p c) := by
  simp only [spec_l12Good.f, l2Sheet_eq n0 hn, l1In_eq, bind_some', okShop]
  cases okS a0 a1 a2 a3 a4 a5 <;> cases okS b0 b1 b2 b3 b4 b5 <;> cases (decide (0 ≤ p) && decide (p ≤ 1000)) <;> rfl
theorem isShop_impl (n0 : Nat) (hn : 7 ≤ n0) (a0 a1 a2 a3 a4 a5 b0 b1 b2 b3 b4 b5 p c) : impl_IsShop.f n0 a0 a1 a2 a3 a4 a5 b0 b1 b2 b3 b4 b5 p c = some (okShop a0 a1 a2 a3 a4 a5 b0 b1 b2 b3 b4 b5 p c) := by
  have e1 : decide (p ≥ 0) = decide (0 ≤ p) := rfl
  have e2 : decide (c ≥ 0) = decide (0 ≤ c) := rfl
  simp only [impl_IsShop.f, isSheet_eq n0 hn, bind_some', okShop, e1, e2]
  cases okS a0 a1 a2 a3 a4 a5 <;> cases okS b0 b1 b2 b3 b4 b5 <;> cases decide (0 ≤ p) <;> cases decide (p ≤ 1000) <;> cases decide (0 ≤ c) <;> rfl
theorem console_spec (n0 : Nat) (hn0 : 2 ^ 40 ≤ n0) (a0 a1 a2 a3 a4 a5 b0 b1 b2 b3 b4 b5 p c) (d q : List UInt8) (n : Int) (hd : d.length < 2 ^ 28) (hq : q.length < 2 ^ 28) :
    spec_IsValidConsole.f n0 a0 a1 a2 a3 a4 a5 b0 b1 b2 b3 b4 b5 p c (B d) (B q) n = some (okShop a0 a1 a2 a3 a4 a5 b0 b1 b2 b3 b4 b5 p c && validL d q n) := by
  simp only [spec_IsValidConsole.f, good_spec n0 (by omega), valid_spec n0 d q n hd hq hn0, bind_some']
  cases okShop a0 a1 a2 a3 a4 a5 b0 b1 b2 b3 b4 b5 p c <;> rfl
theorem console_impl (n0 : Nat) (hn0 : 2 ^ 40 ≤ n0) (a0 a1 a2 a3 a4 a5 b0 b1 b2 b3 b4 b5 p c) (d q : List UInt8) (n : Int) (hd : d.length < 2 ^ 28) (hq : q.length < 2 ^ 28) :
    impl_IsValidConsole.f n0 a0 a1 a2 a3 a4 a5 b0 b1 b2 b3 b4 b5 p c (B d) (B q) n = some (okShop a0 a1 a2 a3 a4 a5 b0 b1 b2 b3 b4 b5 p c && validL d q n) := by
  simp only [impl_IsValidConsole.f, isShop_impl n0 (by omega), valid_impl n0 d q n hd hq hn0, bind_some']
  cases okShop a0 a1 a2 a3 a4 a5 b0 b1 b2 b3 b4 b5 p c <;> rfl
theorem toConsole_eq (n0 : Nat) (hn : 7 ≤ n0) (a0 a1 a2 a3 a4 a5 b0 b1 b2 b3 b4 b5 p c : Int) (d q : ByteArray) (n : Int) :
    laws_toConsole.f n0 a0 a1 a2 a3 a4 a5 b0 b1 b2 b3 b4 b5 p c d q n = some (a0, a1, a2, a3, a4, a5, b0, b1, b2, b3, b4, b5, p, c, d, q, n) := by
  simp only [laws_toConsole.f, laws_toShop.f, laws_toSheet.f, laws_toLog.f, toIntA6_eq n0 hn, bind_some']
/-- What is left of the budget behind a log. -/
theorem szLog_eq (n0 : Nat) (d q : ByteArray) (n : Int) (hd : d.size < 2 ^ 63) (hq : q.size < 2 ^ 63) :
    laws_szLog.f n0 d q n 1048576 = some (if (d.size : Int) + (q.size : Int) ≤ 1048576 then 1048576 - (d.size : Int) - (q.size : Int) else -1) := by
  have hw1 : IntKind.wrap .i64 (1048576 - (d.size : Int)) = 1048576 - (d.size : Int) := w64 (by omega) (by omega)
  simp only [laws_szLog.f, hw1]
  by_cases a : 1048576 - (d.size : Int) < 0
  · have b : ¬ ((d.size : Int) + (q.size : Int) ≤ 1048576) := by omega
    simp only [dT a, cond_true, if_neg b]
  · have hw2 : IntKind.wrap .i64 (1048576 - (d.size : Int) - (q.size : Int)) = 1048576 - (d.size : Int) - (q.size : Int) := w64 (by omega) (by omega)
    simp only [dF a, cond_false, hw2]
    by_cases b : (d.size : Int) + (q.size : Int) ≤ 1048576
    · have c : ¬ (1048576 - (d.size : Int) - (q.size : Int) < 0) := by omega
      simp only [dF c, cond_false, if_pos b]
    · have c : 1048576 - (d.size : Int) - (q.size : Int) < 0 := by omega
      simp only [dT c, cond_true, if_neg b]
theorem isValidConsole_law (n0 : Nat) (hn0 : 2 ^ 40 ≤ n0) (a0 a1 a2 a3 a4 a5 b0 b1 b2 b3 b4 b5 p c : Int) (d q : ByteArray) (n : Int) (hd : d.size < 2 ^ 63) (hq : q.size < 2 ^ 63) :
    laws_FnExactIsValidConsole.f n0 a0 a1 a2 a3 a4 a5 b0 b1 b2 b3 b4 b5 p c d q n = some true := by
  simp only [laws_FnExactIsValidConsole.f, laws_szConsole.f, szLog_eq n0 d q n hd hq, bind_some']
  by_cases h : (d.size : Int) + (q.size : Int) ≤ 1048576
  · have hL1 := L_len d
    have hL2 := L_len q
    have e1 := console_spec n0 hn0 a0 a1 a2 a3 a4 a5 b0 b1 b2 b3 b4 b5 p c (L d) (L q) n (by omega) (by omega)
    have e2 := console_impl n0 hn0 a0 a1 a2 a3 a4 a5 b0 b1 b2 b3 b4 b5 p c (L d) (L q) n (by omega) (by omega)
    rw [B_L, B_L] at e1 e2
    have g : ¬ (1048576 - (d.size : Int) - (q.size : Int) < 0) := by omega
    simp only [if_pos h, dF g, cond_false, toConsole_eq n0 (by omega), bind_some', e1, e2, beq_self_eq_true, Bool.not_true]
  · simp only [if_neg h]
    rfl
end Go.Pu
