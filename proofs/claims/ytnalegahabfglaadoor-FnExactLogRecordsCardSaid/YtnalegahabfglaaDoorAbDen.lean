/- The abstract machine, part 16: the interpreter, in continuation form. No condition. -/
import Derived.Test.YtnalegahabfglaaDoorAbMerge
import Derived.Test.YtnalegahabfglaaDoorAbTail0
import Derived.Test.YtnalegahabfglaaDoorAbMake
import Derived.Test.YtnalegahabfglaaDoorAbConv
import Derived.Test.YtnalegahabfglaaDoorAbEq
set_option linter.all false
set_option linter.unusedVariables false
set_option linter.unusedSimpArgs false
namespace Go.Ab
open Go

mutual
def idsOf : AV → List Nat
  | .ptr i _ => [i]
  | .sref i _ _ _ => [i]
  | .map i => [i]
  | .agg cs => idsL cs
  | .tup cs => idsL cs
  | .fn _ xs ys => idsL xs ++ idsL ys
  | .iface _ v => idsOf v
  | _ => []
def idsL : List AV → List Nat
  | [] => []
  | a :: as => idsOf a ++ idsL as
end
def idsO : AObj → List Nat
  | .cells false cs => idsL cs
  | .map false es => idsL (es.map (·.1)) ++ idsL (es.map (·.2))
  | _ => []

/-- The live objects that can be come to, in the order in which they are met. -/
def reach (objs : List AObj) : Nat → List Nat → List Nat → List Nat
  | 0, _, acc => acc.reverse
  | _ + 1, [], acc => acc.reverse
  | n + 1, i :: t, acc =>
    bif acc.contains i || !(objs.getD i .dead).live then reach objs n t acc else reach objs n (t ++ idsO (objs.getD i .dead)) (i :: acc)

inductive Ex where
  | normal | exit (id : Nat) | ret

mutual
/-- A nil slice is told as an empty one; that a slice is full is forgotten. -/
def wkA : AV → AV
  | .nils => .sval [] 0 false
  | .sval cs n _ => .sval cs n false
  | .agg cs => .agg (wkAL cs)
  | .tup cs => .tup (wkAL cs)
  | v => v
def wkAL : List AV → List AV
  | [] => []
  | a :: as => wkA a :: wkAL as
end

section
variable {R : Type}
abbrev Ctr (R : Type) := FuncId → List AV → List AObj → (AV → List AObj → Option R) → Option R

def callK (Γ : Ctr R) (objs : List AObj) (g : FuncId) (args : List AV) (k : AV → List AObj → Option R) : Option R :=
  match reach objs 200 (idsL args) [] with
  | [] => Γ g (renL (fun _ => none) (wkAL args)) [] fun v objs' => k (ren (backF [] 0 objs.length) v) (mergeO objs [] objs')
  | ids => bif nodup ids && ids.all fun i => (objs.getD i .dead).live then
      Γ g (renL (idx ids) (wkAL args)) (pickO objs ids) fun v objs' => k (ren (backF ids ids.length objs.length) v) (mergeO objs ids objs')
    else none

def putA (t : List AV) (dst : Option Nat) (v : AV) : List AV :=
  match dst with
  | some d => t.set d v
  | none => t

def isEff : Op → Bool
  | .box .. | .alloc .. | .store .. | .buildSlice .. | .call ⟨.builtin .append, _, _⟩ => true
  | _ => false

/-- An operation that leaves memory alone, literals of structs and arrays with them. -/
def quiet2K (P : Program) (objs : List AObj) (ρ : Operand → AV) (o : Op) (k : AV → Option R) : Option R :=
  match o with
  | .build t ps => buildK P ρ t ps k
  | .binOp op ty x y u => match ρ x, ρ y with
    | .agg xs, .agg ys => aggEqK P op ty (.agg xs) (.agg ys) k
    | _, _ => quietK P objs ρ (.binOp op ty x y u) k
  | .convert s d x => bif isBytes P s && isStrT P d then toStrK objs (ρ x) k else quietK P objs ρ (.convert s d x) k
  | o => quietK P objs ρ o k

def operK (P : Program) (Γ : Ctr R) (o : Oper) (t : List AV) (objs : List AObj) (k : List AV → List AObj → Option R) : Option R :=
  match o.op with
  | .call ⟨.value f, args, _⟩ => match aeval t f with
    | .fn (.func g) first cap => callK Γ objs g (first ++ args.toList.map (aeval t) ++ cap) fun v objs' => k (putA t o.dst v) objs'
    | _ => none
  | op => bif isEff op then effK P objs (aeval t) op fun v objs' => k (putA t o.dst v) objs'
    else bif isEff2 P op then eff2K P objs (aeval t) op fun v objs' => k (putA t o.dst v) objs'
    else quiet2K P objs (aeval t) op fun v => k (putA t o.dst v) objs

/-- A guard: `exec` or `skip`, over the temporaries in which the guard's value stands written out. -/
def guardK (ops : Array Oper) (o : Oper) (t : List AV) (exec skip : List AV → Option R) : Option R :=
  match o.guard with
  | none => exec t
  | some (j, want) =>
    match (ops[j]?).bind (·.dst) with
    | none => skip t
    | some d =>
      match t.getD d .undef with
      | .bool g =>
        bif g then (bif want then exec (t.set d (.bool true)) else skip (t.set d (.bool true)))
        else (bif want then skip (t.set d (.bool false)) else exec (t.set d (.bool false)))
      | .tup [] => skip t
      | _ => none

def opsK (P : Program) (Γ : Ctr R) (ops : Array Oper) : List Oper → List AV → List AObj → (List AV → List AObj → Option R) → Option R
  | [], t, objs, k => k t objs
  | o :: l, t, objs, k => guardK ops o t
      (fun t => operK P Γ o t objs fun t' objs' => opsK P Γ ops l t' objs' k)
      (fun t => opsK P Γ ops l (putA t o.dst (.tup [])) objs k)

mutual
/-- The one value that it stands for. -/
def conc : AV → Option Value
  | .int k n => some (.int k n)
  | .bool b => some (.bool b)
  | .str s => some (.string s)
  | .agg cs => (concL cs).map fun l => .agg l.toArray
  | .tup cs => (concL cs).map fun l => .tuple l.toArray
  | .nilp => some (.pointer none)
  | .nils => some (.slice none 0 0)
  | _ => none
def concL : List AV → Option (List Value)
  | [] => some []
  | a :: as => (conc a).bind fun v => (concL as).map fun l => v :: l
end

/-- Some objects alone. -/
def maskO (f : Nat → Bool) : Nat → List AObj → List AObj
  | _, [] => []
  | n, o :: os => (bif f n then o else .dead) :: maskO f (n + 1) os
def isCellsO : AObj → Bool
  | .cells .. => true
  | _ => false
def canTouch (o0 : List AObj) (ids : List Nat) : Bool := ids.all fun i => isCellsO (o0.getD i .dead)
/-- It waits for the last write. -/
def waits (o : Oper) : Option Nat → Bool
  | none => true
  | some j => o.after.any fun e => Region.binds .any e && e.on == j

def rdOf : AV → List Nat
  | .ptr i _ => [i]
  | .sref i _ _ _ => [i]
  | _ => []
/-- One operation: its value, the objects behind it, what it reads, and, if it writes, what. -/
def xoperK (P : Program) (Γ : Ctr R) (o : Oper) (last : Option Nat) (t : List AV) (o0 objs : List AObj) (k : AV → List AObj → List Nat → Option (List Nat) → Option R) : Option R :=
  match o.op with
  | .call ⟨.value f, args, _⟩ => match aeval t f with
    | .fn (.func g) first cap =>
      bif closedL (first ++ args.toList.map (aeval t) ++ cap) then
        Γ g (wkAL (first ++ args.toList.map (aeval t) ++ cap)) [] fun v objs' => match objs', conc v with
          | [], some _ => k v objs [] none
          | _, _ => none
      else
        bif nodup (reach objs 200 (idsL (first ++ args.toList.map (aeval t) ++ cap)) []) && ((reach objs 200 (idsL (first ++ args.toList.map (aeval t) ++ cap)) []).all fun i => (objs.getD i .dead).live) && canTouch o0 (reach objs 200 (idsL (first ++ args.toList.map (aeval t) ++ cap)) []) && waits o last then
          Γ g (renL (idx (reach objs 200 (idsL (first ++ args.toList.map (aeval t) ++ cap)) [])) (wkAL (first ++ args.toList.map (aeval t) ++ cap))) (pickO objs (reach objs 200 (idsL (first ++ args.toList.map (aeval t) ++ cap)) [])) fun v objs' => match conc v with
            | some _ => bif objs'.length == (reach objs 200 (idsL (first ++ args.toList.map (aeval t) ++ cap)) []).length then
                k v (mergeO objs (reach objs 200 (idsL (first ++ args.toList.map (aeval t) ++ cap)) []) objs') [] (some (reach objs 200 (idsL (first ++ args.toList.map (aeval t) ++ cap)) [])) else none
            | none => none
        else none
    | _ => none
  | .store ty p x => match aeval t p with
    | .ptr i off =>
      bif closedL [aeval t x] && (objs.getD i .dead).live && canTouch o0 [i] && waits o last then
        storeK P (pickO objs [i]) ty (.ptr 0 off) (aeval t x) fun v objs' => match v with
          | .tup [] => bif objs'.length == 1 then k (.tup []) (mergeO objs [i] objs') [] (some [i]) else none
          | _ => none
      else none
    | _ => none
  | .load ty p => quietK P (maskO (fun j => (rdOf (aeval t p)).contains j) 0 o0) (aeval t) (.load ty p) fun v => k v objs (rdOf (aeval t p)) none
  | .slice ty x lo hi mx => quietK P (maskO (fun j => (rdOf (aeval t x)).contains j) 0 o0) (aeval t) (.slice ty x lo hi mx) fun v => k v objs (rdOf (aeval t x)) none
  | .convert s d x => quiet2K P (maskO (fun j => (rdOf (aeval t x)).contains j) 0 o0) (aeval t) (.convert s d x) fun v => k v objs (rdOf (aeval t x)) none
  | op => bif isEff op then none else quiet2K P (maskO (fun _ => false) 0 o0) (aeval t) op fun v => k v objs [] none

/-- A write waits for each earlier read of what it writes. -/
def rdOk (o : Oper) (rd : List (Nat × List Nat)) (ids : List Nat) : Bool := rd.all fun x => (x.2.all fun i => !ids.contains i) || waits o (some x.1)
def xopsK (P : Program) (Γ : Ctr R) (ops : Array Oper) (o0 : List AObj) : List Oper → Nat → Option Nat → List AV → List AObj → List (Nat × List Nat) → List Nat → (List AV → List AObj → Option R) → Option R
  | [], _, _, t, objs, _, _, k => k t objs
  | o :: l, n, last, t, objs, rd, tc, k => guardK ops o t
      (fun t => xoperK P Γ o last t o0 objs fun v objs' rd' tc' => match tc' with
        | none => bif rd'.all fun i => !tc.contains i then xopsK P Γ ops o0 l (n + 1) last (putA t o.dst v) objs' ((n, rd') :: rd) tc k else none
        | some ids => bif rdOk o rd ids then xopsK P Γ ops o0 l (n + 1) (some n) (putA t o.dst v) objs' rd (ids ++ tc) k else none)
      (fun t => xopsK P Γ ops o0 l (n + 1) last (putA t o.dst (.tup [])) objs rd tc k)
/-- A frame of which some temporaries alone are known. -/
def spread : List Nat → List AV → List AV → List AV
  | d :: ds, v :: vs, t => spread ds vs (t.set d v)
  | _, _, t => t
def frame (nt : Nat) (live : List Nat) (vs : List AV) : List AV := spread live vs (List.replicate nt .undef)

/-- The temporaries that are kept, over the objects that can be come to from them. -/
def normK (m : Nat) (live : List Nat) (t : List AV) (objs : List AObj) (k : List AV → List AObj → Option R) : Option R :=
  let t1 := live.map fun d => t.getD d .undef
  let keep := List.range m ++ (reach objs 200 (List.range m ++ idsL t1) []).filter fun i => decide (m ≤ i)
  bif nodup keep then k (renL (idx keep) t1) (pickO objs keep) else none

abbrev Kont (R : Type) := Ex → List AV → List AObj → Option R
abbrev Body (R : Type) := List AV → List AObj → Kont R → Option R

/-- What stands behind a round. -/
def roundK (m : Nat) (live out : List Nat) (L : List AV → List AObj → Option R) (k : Kont R) : Kont R := fun e t' objs' => match e with
  | .normal => normK m live t' objs' L
  | e => normK m out t' objs' fun v1 o1 => k e v1 o1

/-- The rounds of a loop, from a state that is in its form. -/
def loopK (nt m : Nat) (live out : List Nat) (f : Body R) : Nat → List AV → List AObj → Kont R → Option R
  | 0, _, _, _ => none
  | n + 1, vs, objs, k => f (frame nt live vs) objs (roundK m live out (fun v1 o1 => loopK nt m live out f n v1 o1 k) k)

def key : Code → Nat
  | .region id _ _ => id
  | .seq a _ => key a
  | .block _ b => key b
  | .loop b => key b
  | .scope b => key b
  | _ => 0

/-- Which temporaries are kept at the heads of loops, behind loops, and at joins (by the number of the first region there). -/
structure Ann where
  live : Nat → List Nat
  out : Nat → List Nat
  cut : Nat → Option (List Nat)

/-- What is told of loops and of what stands behind joins. -/
structure Hnd (R : Type) where
  loop : Nat → Body R → Body R
  cut : Nat → Body R → Body R

variable (P : Program) (Γ : Ctr R) (A : Ann) (H : Hnd R) (nt m : Nat)
def denK : Code → List AV → List AObj → Kont R → Option R
  | .skip, t, o, k => k .normal t o
  | .region _ ops draw, t, o, k => bif draw then
      match tailAt ops with
      | some n => xopsK P Γ ops o (ops.toList.take n) 0 none t o [] [] (fun t' o' => opsK P Γ ops (ops.toList.drop n) t' o' (fun t' o' => k .normal t' o'))
      | none => xopsK P Γ ops o ops.toList 0 none t o [] [] (fun t' o' => k .normal t' o')
    else opsK P Γ ops ops.toList t o (fun t' o' => k .normal t' o')
  | .seq a b, t, o, k => denK a t o fun e t' o' => match e with
    | .normal => match A.cut (key b) with
      | none => denK b t' o' k
      | some l => normK m l t' o' fun v1 o1 => H.cut (key b) (fun v o k => denK b (frame nt l v) o fun e t2 o2 => normK m (A.out (key b)) t2 o2 fun v3 o3 => k e v3 o3) v1 o1 fun e v3 o3 => k e (frame nt (A.out (key b)) v3) o3
    | e => k e t' o'
  | .cond c x y, t, o, k => match aeval t c with
    | .bool b => bif b then denK x t o k else denK y t o k
    | _ => none
  | .block id b, t, o, k => denK b t o fun e t' o' => match e with
    | .exit i => bif i == id then k .normal t' o' else k (.exit i) t' o'
    | e => k e t' o'
  | .loop b, t, o, k => normK m (A.live (key b)) t o fun v1 o1 => H.loop (key b) (fun t o k => denK b t o k) v1 o1 fun e v2 o2 => k e (frame nt (A.out (key b)) v2) o2
  | .exit id, t, o, k => k (.exit id) t o
  | .ret, t, o, k => k .ret t o
  | _, _, _, _ => none

def loopsOf : Code → List Code
  | .seq a b => loopsOf a ++ loopsOf b
  | .cond _ a b => loopsOf a ++ loopsOf b
  | .block _ b => loopsOf b
  | .loop b => b :: loopsOf b
  | _ => []
def cutsOf : Code → List Code
  | .seq a b => (if (A.cut (key b)).isSome then [b] else []) ++ (cutsOf a ++ cutsOf b)
  | .cond _ a b => cutsOf a ++ cutsOf b
  | .block _ b => cutsOf b
  | .loop b => cutsOf b
  | _ => []

def resK : List ResultVar → List AV → List AObj → (List AV → Option R) → Option R
  | [], _, _, k => k []
  | .tmp i :: l, t, o, k => resK l t o fun vs => k (t.getD i .undef :: vs)
  | .cell a ty :: l, t, o, k => loadK P o ty (t.getD a .undef) fun v => resK l t o fun vs => k (v :: vs)

def oneV : List AV → AV
  | [v] => v
  | vs => .tup vs
end
end Go.Ab
