/- The abstract machine, part 3: operations that leave memory alone, and their soundness. No condition. -/
import Derived.Test.YtnalegahabfglaaDoorAbOps
set_option linter.all false
set_option linter.unusedVariables false
set_option linter.unusedSimpArgs false
namespace Go.Ab
open Go
section
variable {R : Type}

def iand (k : IntKind) (a b : Int) : Int := k.wrap ((BitVec.ofInt k.bits a &&& BitVec.ofInt k.bits b).toNat)
def ior (k : IntKind) (a b : Int) : Int := k.wrap ((BitVec.ofInt k.bits a ||| BitVec.ofInt k.bits b).toNat)
def ixor (k : IntKind) (a b : Int) : Int := k.wrap ((BitVec.ofInt k.bits a ^^^ BitVec.ofInt k.bits b).toNat)
def iandnot (k : IntKind) (a b : Int) : Int := k.wrap ((BitVec.ofInt k.bits a &&& ~~~ (BitVec.ofInt k.bits b)).toNat)
def ishl (k : IntKind) (a b : Int) : Int := k.wrap (a * 2 ^ (min b.toNat k.bits))
def ishr (k : IntKind) (a b : Int) : Int := a.fdiv (2 ^ (min b.toNat k.bits))

def intBinK (op : BinOp) (kd : IntKind) (a b : Int) (k : AV → Option R) : Option R :=
  match op with
  | .add => k (.int kd (kd.wrap (a + b)))
  | .sub => k (.int kd (kd.wrap (a - b)))
  | .mul => k (.int kd (kd.wrap (a * b)))
  | .quo => chk (b != 0) (k (.int kd (kd.wrap (a.tdiv b))))
  | .rem => chk (b != 0) (k (.int kd (a.tmod b)))
  | .and => k (.int kd (iand kd a b))
  | .or => k (.int kd (ior kd a b))
  | .xor => k (.int kd (ixor kd a b))
  | .andNot => k (.int kd (iandnot kd a b))
  | .eql => k (.bool (a == b))
  | .neq => k (.bool (a != b))
  | .lss => k (.bool (decide (a < b)))
  | .leq => k (.bool (decide (a ≤ b)))
  | .gtr => k (.bool (decide (a > b)))
  | .geq => k (.bool (decide (a ≥ b)))
  | _ => none

def strBinK (op : BinOp) (a b : ByteArray) (k : AV → Option R) : Option R :=
  match op with
  | .add => chk (decide (a.size + b.size ≤ 1099511627776)) (k (.str (a ++ b)))
  | .eql => k (.bool (a.toList == b.toList))
  | .neq => k (.bool (!(a.toList == b.toList)))
  | .lss => k (.bool (Op.bytesLess a.toList b.toList))
  | _ => none

/-- Cells compared one by one. -/
def cellsEq : List AV → List AV → Option Bool
  | [], [] => some true
  | .int j a :: xs, .int k b :: ys => if j = k then (cellsEq xs ys).map fun r => a == b && r else none
  | .bool a :: xs, .bool b :: ys => (cellsEq xs ys).map fun r => a == b && r
  | .str a :: xs, .str b :: ys => (cellsEq xs ys).map fun r => a.toList == b.toList && r
  | _, _ => none

def binK (P : Program) (op : BinOp) (t : TypeId) (x y : AV) (cst : Bool) (k : AV → Option R) : Option R :=
  match x, y with
  | .int kd a, .int yk b =>
    match op with
    | .shl => chk (decide (0 ≤ b)) (k (.int kd (ishl kd a b)))
    | .shr => chk (decide (0 ≤ b)) (k (.int kd (ishr kd a b)))
    | op => if kd = yk then intBinK op kd a b k else none
  | .str a, .str b => strBinK op a b k
  | .bool a, .bool b =>
    match P.underlying t with
    | some .bool => match op with
      | .eql => k (.bool (a == b))
      | .neq => k (.bool (!(a == b)))
      | _ => none
    | _ => none
  | .nili, .nili => match P.underlying t, cst with
    | some (.interface _), true => match op with
      | .eql => k (.bool true)
      | .neq => k (.bool false)
      | _ => none
    | _, _ => none
  | .iface _ _, .nili | .nili, .iface _ _ => match P.underlying t with
    | some (.interface _) => match op with
      | .eql => k (.bool false)
      | .neq => k (.bool true)
      | _ => none
    | _ => none
  | _, _ => none

def unK (op : UnOp) (x : AV) (k : AV → Option R) : Option R :=
  match op, x with
  | .neg, .int kd n => k (.int kd (kd.wrap (0 - n)))
  | .xor, .int kd n => k (.int kd (ixor kd (if kd.signed then -1 else kd.max) n))
  | .not, .bool b => k (.bool !b)
  | _, _ => none

def convK (P : Program) (src dst : TypeId) (x : AV) (k : AV → Option R) : Option R :=
  match P.underlying src, P.underlying dst, x with
  | some _, some (.int kd), .int _ n => k (.int kd (kd.wrap n))
  | some _, some .string, .str s => k (.str s)
  | _, _, _ => none

def isConst : Operand → Bool
  | .const _ => true
  | _ => false
end

theorem eqIn_nn {P : Program} {t : TypeId} {ms} (ht : P.underlying t = some (.interface ms)) (d : Nat) (w : World) : (Op.equalIn (d + 1) t .nilIface .nilIface).run P w = .ok true w := by
  simp [Op.equalIn, run_underlying ht]
theorem eqIn_in {P : Program} {t : TypeId} {ms} (ht : P.underlying t = some (.interface ms)) (d : Nat) (w : World) (u : TypeId) (x : Value) : (Op.equalIn (d + 1) t (.iface u x) .nilIface).run P w = .ok false w := by
  simp [Op.equalIn, run_underlying ht]
theorem eqIn_ni {P : Program} {t : TypeId} {ms} (ht : P.underlying t = some (.interface ms)) (d : Nat) (w : World) (u : TypeId) (x : Value) : (Op.equalIn (d + 1) t .nilIface (.iface u x)).run P w = .ok false w := by
  simp [Op.equalIn, run_underlying ht]

theorem binK_ok {E : Env} {G : Gh} {ι : Inj} {R : Type} {op : BinOp} {t : TypeId} {x y : AV} {k : AV → Option R} {r : R} {x' y' : Value} {ox oy : Operand}
    (h : binK E.P op t x y (isConst ox || isConst oy) k = some r) (hx : VRel G ι x x') (hy : VRel G ι y y') :
    ∃ v v', k v = some r ∧ VRel G ι v v' ∧ ∀ w, (eqGuard op t ox oy x' y' >>= fun _ => binOp op t x' y').run E.P w = .ok v' w := by
  unfold binK at h
  split at h
  · rename_i kd a yk b
    rw [hx.int_inv, hy.int_inv]
    split at h
    · obtain ⟨h1, h2⟩ := chk_some h
      have hb : ¬ b < 0 := by simp at h1; omega
      exact ⟨_, _, h2, .int _ _, fun w => by simp [eqGuard, binOp, Op.shift, hb, ishl]⟩
    · obtain ⟨h1, h2⟩ := chk_some h
      have hb : ¬ b < 0 := by simp at h1; omega
      exact ⟨_, _, h2, .int _ _, fun w => by simp [eqGuard, binOp, Op.shift, hb, ishr]⟩
    · split at h
      · rename_i he; subst he
        cases op <;> simp only [intBinK] at h <;> first
          | (cases h; done)
          | exact ⟨_, _, h, .int _ _, fun w => by simp [eqGuard, binOp, Op.intArith, Op.intBits, iand, ior, ixor, iandnot]⟩
          | exact ⟨_, _, h, .bool _, fun w => by simp [eqGuard, binOp, Op.intCmp]⟩
          | (obtain ⟨h1, h2⟩ := chk_some h
             have hb : b ≠ 0 := by simpa using h1
             exact ⟨_, _, h2, .int _ _, fun w => by simp [eqGuard, binOp, Op.intDiv, hb]⟩)
          | (rename_i h1 h2; exact absurd rfl h1)
          | (rename_i h1 h2; exact absurd rfl h2)
      · cases h
  · rename_i a b
    rw [hx.str_inv, hy.str_inv]
    cases op <;> simp only [strBinK] at h <;> first
      | (cases h; done)
      | exact ⟨_, _, h, .bool _, fun w => by simp [eqGuard, binOp, Op.stringOp]⟩
      | (obtain ⟨h1, h2⟩ := chk_some h
         have hb : a.size + b.size ≤ 1099511627776 := by simpa using h1
         refine ⟨_, _, h2, .str _, fun w => ?_⟩
         have hm : IntKind.i64.max = 9223372036854775807 := by decide
         have : ¬ (((a.size + b.size : Nat) : Int) > IntKind.i64.max) := by rw [hm]; omega
         simp only [eqGuard, binOp, Op.stringOp, this, if_false]
         simp)
  · rename_i a b
    rw [hx.bool_inv, hy.bool_inv]
    split at h
    · rename_i ht
      split at h
      · exact ⟨_, _, h, .bool _, fun w => by simp [eqGuard, run_eql_bool w t a b ht]⟩
      · exact ⟨_, _, h, .bool _, fun w => by simp [eqGuard, run_neq_bool w t a b ht]⟩
      · cases h
    · cases h
  · cases hx; cases hy
    split at h
    · rename_i ms ht hc
      have hg : ∀ w, (eqGuard op t ox oy .nilIface .nilIface).run E.P w = .ok () w := fun w => by
        cases op <;> cases ox <;> cases oy <;> first | (simp [isConst] at hc; done) | simp [eqGuard]
      have he : ∀ w, (Op.equal t .nilIface .nilIface).run E.P w = .ok true w := fun w => eqIn_nn ht 9999 w
      split at h
      · exact ⟨_, _, h, .bool _, fun w => by simp [hg, binOp, he]⟩
      · exact ⟨_, _, h, .bool _, fun w => by simp [hg, binOp, he]⟩
      · cases h
    · cases h
  · cases hx; cases hy
    split at h
    · rename_i ms ht
      have he : ∀ u x w, (Op.equal t (.iface u x) .nilIface).run E.P w = .ok false w := fun u x w => eqIn_in ht 9999 w u x
      split at h
      · exact ⟨_, _, h, .bool _, fun w => by simp [eqGuard, binOp, he]⟩
      · exact ⟨_, _, h, .bool _, fun w => by simp [eqGuard, binOp, he]⟩
      · cases h
    · cases h
  · cases hx; cases hy
    split at h
    · rename_i ms ht
      have he : ∀ u x w, (Op.equal t .nilIface (.iface u x)).run E.P w = .ok false w := fun u x w => eqIn_ni ht 9999 w u x
      split at h
      · exact ⟨_, _, h, .bool _, fun w => by simp [eqGuard, binOp, he]⟩
      · exact ⟨_, _, h, .bool _, fun w => by simp [eqGuard, binOp, he]⟩
      · cases h
    · cases h
  · cases h

theorem unK_ok {P : Program} {G : Gh} {ι : Inj} {R : Type} {op : UnOp} {x : AV} {k : AV → Option R} {r : R} {x' : Value}
    (h : unK op x k = some r) (hx : VRel G ι x x') : ∃ v v', k v = some r ∧ VRel G ι v v' ∧ ∀ w, (Op.unary op x').run P w = .ok v' w := by
  unfold unK at h
  split at h
  · rw [hx.int_inv]; exact ⟨_, _, h, .int _ _, fun w => by simp [Op.unary, Op.intArith]⟩
  · rw [hx.int_inv]; exact ⟨_, _, h, .int _ _, fun w => by simp [Op.unary, Op.intBits, ixor]⟩
  · rw [hx.bool_inv]; exact ⟨_, _, h, .bool _, fun w => by simp [Op.unary]⟩
  · cases h

theorem convK_ok {P : Program} {G : Gh} {ι : Inj} {R : Type} {s d : TypeId} {x : AV} {k : AV → Option R} {r : R} {x' : Value}
    (h : convK P s d x k = some r) (hx : VRel G ι x x') : ∃ v v', k v = some r ∧ VRel G ι v v' ∧ ∀ w, (convert s d x').run P w = .ok v' w := by
  unfold convK at h
  split at h
  · rename_i hs hd; rw [hx.int_inv]; exact ⟨_, _, h, .int _ _, fun w => by simp [convert, run_underlying hs, run_underlying hd, Conv.intToInt]⟩
  · rename_i hs hd; rw [hx.str_inv]; exact ⟨_, _, h, .str _, fun w => by simp [convert, run_underlying hs, run_underlying hd]⟩
  · cases h
end Go.Ab
