/- The abstract machine: where the fixed tail of a region begins. No condition. -/
import Derived.Test.YtnalegahabfglaaDoorAbDefs
import Derived.StillTail
set_option linter.all false
set_option linter.unusedVariables false
set_option linter.unusedSimpArgs false
namespace Go.Ab
open Go
def waitsL (l : List Oper) (j i : Nat) : Bool :=
  match l[j]? with
  | some o => o.after.toList.any fun e => Region.binds .any e && e.on == i
  | none => false
/-- Where the fixed tail of a region begins: each operation of it waits for the one before. -/
def chainFrom (l : List Oper) : Nat → Nat
  | 0 => 0
  | n + 1 => bif waitsL l (n + 1) n then chainFrom l n else n + 1
def sinkL (l : List Oper) (n : Nat) : Bool := (List.range n).all fun i => ((List.range (n + 1)).drop (i + 1)).any fun j => waitsL l j i
def tailAt (ops : Array Oper) : Option Nat :=
  ((List.range ops.toList.length).drop (chainFrom ops.toList (ops.toList.length - 1))).find? fun n => sinkL ops.toList n
end Go.Ab
