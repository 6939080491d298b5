/- The abstract machine, part 2: its operations, each in continuation form. No condition. -/
import Derived.Test.YtnalegahabfglaaDoorAbDefs
import Derived.Laws.Rows
import Derived.Laws.StructEq
import Derived.Deep.AppendSrc
set_option linter.all false
set_option linter.unusedVariables false
set_option linter.unusedSimpArgs false
namespace Go.Ab
open Go

def ofScalar : Value → AV
  | .int k n => .int k n
  | .bool b => .bool b
  | .string s => .str s
  | .pointer none => .nilp
  | .slice none 0 0 => .nils
  | .map none => .nilm
  | .nilFunc => .nilf
  | .nilIface => .nili
  | _ => .undef

def ofConst : Value → AV
  | .agg cs => .agg (cs.toList.map ofScalar)
  | v => ofScalar v

def aeval (tmps : List AV) : Operand → AV
  | .tmp t => tmps.getD t .undef
  | .const v => ofConst v
  | .global _ => .undef
  | .func f => .fn (.func f) [] []

def AV.cells : AV → List AV
  | .agg cs => cs
  | v => [v]

mutual
def closed : AV → Bool
  | .agg cs => closedL cs
  | .tup cs => closedL cs
  | .fn _ xs ys => closedL xs && closedL ys
  | .iface _ v => closed v
  | .ptr .. => false
  | .sref .. => false
  | .map _ => false
  | _ => true
def closedL : List AV → Bool
  | [] => true
  | a :: as => closed a && closedL as
end

inductive CK where
  | int (k : IntKind) | bool | str | any

def cks (P : Program) : Nat → TypeId → List CK
  | 0, _ => []
  | n + 1, t =>
    match P.underlying t with
    | some (.int k) => [.int k]
    | some .bool => [.bool]
    | some .string => [.str]
    | some (.struct fs) => (fs.toList.map fun f => cks P n f.type).flatten
    | some (.array l e) => (List.replicate l (cks P n e)).flatten
    | _ => [.any]

def gInt (k : IntKind) : AV → Option Int
  | .int k' n => if k = k' then some n else none
  | _ => none
def gBool : AV → Option Bool
  | .bool b => some b
  | _ => none
def gStr : AV → Option ByteArray
  | .str s => some s
  | _ => none
theorem gInt_eq {k v n} (h : gInt k v = some n) : v = .int k n := by
  cases v <;> simp [gInt] at h
  obtain ⟨rfl, rfl⟩ := h; rfl
theorem gBool_eq {v b} (h : gBool v = some b) : v = .bool b := by cases v <;> simp [gBool] at h; subst h; rfl
theorem gStr_eq {v s} (h : gStr v = some s) : v = .str s := by cases v <;> simp [gStr] at h; subst h; rfl

section
variable {R : Type}

/-- A check. -/
def chk (b : Bool) (x : Option R) : Option R := bif b then x else none
theorem chk_some {b : Bool} {x : Option R} {r : R} (h : chk b x = some r) : b = true ∧ x = some r := by
  cases b <;> simp [chk] at h ⊢; exact h

def cellK (c : CK) (a : AV) (k : AV → Option R) : Option R :=
  match c with
  | .int kd => (gInt kd a).bind fun n => k (.int kd n)
  | .bool => (gBool a).bind fun b => k (.bool b)
  | .str => (gStr a).bind fun s => k (.str s)
  | .any => k a
theorem cellK_some {c : CK} {a : AV} {k : AV → Option R} {r : R} (h : cellK c a k = some r) : k a = some r := by
  cases c <;> simp only [cellK] at h
  · obtain ⟨n, h1, h2⟩ := Option.bind_eq_some_iff.1 h; rw [gInt_eq h1]; exact h2
  · obtain ⟨n, h1, h2⟩ := Option.bind_eq_some_iff.1 h; rw [gBool_eq h1]; exact h2
  · obtain ⟨n, h1, h2⟩ := Option.bind_eq_some_iff.1 h; rw [gStr_eq h1]; exact h2
  · exact h

def cellsK : List CK → List AV → Nat → (List AV → Option R) → Option R
  | [], _, _, k => k []
  | c :: r, cs, off, k => cellK c (cs.getD off .undef) fun v => cellsK r cs (off + 1) fun vs => k (v :: vs)

def isAggD : TypeDesc → Bool
  | .struct _ | .array _ _ => true
  | _ => false

/-- What is read at a cell of a list of cells, as a value of a type. -/
def readK (P : Program) (t : TypeId) (cs : List AV) (off : Nat) (k : AV → Option R) : Option R :=
  match P.underlying t with
  | none => none
  | some (.int kd) => (gInt kd (cs.getD off .undef)).bind fun n => k (.int kd n)
  | some .bool => (gBool (cs.getD off .undef)).bind fun b => k (.bool b)
  | some .string => (gStr (cs.getD off .undef)).bind fun s => k (.str s)
  | some d =>
    bif isAggD d then
      match P.info? t with
      | some i => bif i.size == (cks P 9 t).length then chk (decide (off + i.size ≤ cs.length)) (cellsK (cks P 9 t) cs off fun vs => k (.agg vs)) else none
      | none => none
    else chk (decide (off < cs.length)) (k (cs.getD off .undef))

def szOf (P : Program) (t : TypeId) : Nat := ((P.info? t).map (·.size)).getD 0

end
end Go.Ab
