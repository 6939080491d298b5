/- The abstract machine, part 5: every operation that leaves memory alone, and its soundness. No condition. -/
import Derived.Test.YtnalegahabfglaaDoorAbMem
set_option linter.all false
set_option linter.unusedVariables false
set_option linter.unusedSimpArgs false
namespace Go.Ab
open Go
section
variable {R : Type}

def pickA (t : Bool) (a b : AV) : AV :=
  match a, b with
  | .bool x, .bool y => .bool (bif t then x else y)
  | a, b => bif t then a else b

def bnd (v : AV) (y : Nat) (k : Nat → Option R) : Option R :=
  match v with
  | .int _ n => chk (decide (0 ≤ n) && decide (n ≤ (y : Int))) (k n.toNat)
  | _ => none
def bndO (v : Option AV) (y d : Nat) (k : Nat → Option R) : Option R :=
  match v with
  | some v => bnd v y k
  | none => k d

def sliceSK (sz : Nat) (x : AV) (lo hi mx : Option AV) (k : AV → Option R) : Option R :=
  match x, mx with
  | .sref i off len sz', none =>
    bif sz == sz' then bndO hi len len fun h => bndO lo h 0 fun l => bif h == l then k (.sval [] 0 false) else k (.sref i (off + l * sz) (h - l) sz) else none
  | .sval cs len _, none => bndO hi len len fun h => bndO lo h 0 fun l => k (.sval ((cs.drop (l * sz)).take ((h - l) * sz)) (h - l) false)
  | .nils, none => bndO hi 0 0 fun h => bndO lo h 0 fun _ => k .nils
  | .sref _ _ len _, some m | .sval _ len _, some m =>
    bif hi.isSome then bnd m len fun m => bndO hi m m fun h => bndO lo h 0 fun l => bif m == l then k (.sval [] 0 true) else none else none
  | .nils, some m => bif hi.isSome then bnd m 0 fun m => bndO hi m m fun h => bndO lo h 0 fun _ => k .nils else none
  | _, _ => none

def sliceAK (sz n : Nat) (x : AV) (lo hi mx : Option AV) (k : AV → Option R) : Option R :=
  match x, mx with
  | .ptr i off, none => bndO hi n n fun h => bndO lo h 0 fun l => bif h == l then k (.sval [] 0 false) else k (.sref i (off + l * sz) (h - l) sz)
  | .cptr cs off, none => bndO hi n n fun h => bndO lo h 0 fun l => k (.sval ((cs.drop (off + l * sz)).take ((h - l) * sz)) (h - l) false)
  | _, _ => none

def sliceK (P : Program) (objs : List AObj) (t : TypeId) (x : AV) (lo hi mx : Option AV) (k : AV → Option R) : Option R :=
  match P.underlying t with
  | some .string => match x, mx with
    | .str s, none => bndO hi s.size s.size fun h => bndO lo h 0 fun l => k (.str (s.extract l h))
    | _, _ => none
  | some (.slice e) => bif szOf P e == 0 then none else sliceSK (szOf P e) x lo hi mx k
  | some (.array n e) => bif szOf P e == 0 then none else match memOf objs x with
    | some (cs, off) => chk (decide (off + n * szOf P e ≤ cs.length)) (sliceAK (szOf P e) n x lo hi mx k)
    | none => none
  | _ => none

def fieldAddrK (P : Program) (s : TypeId) (x : AV) (f : Nat) (k : AV → Option R) : Option R :=
  match P.underlying s with
  | some (.struct fs) => match fs[f]? with
    | some fd => bif szOf P fd.type == 0 then none else match x with
      | .ptr i off => k (.ptr i (off + fd.offset))
      | .cptr cs off => k (.cptr cs (off + fd.offset))
      | _ => none
    | none => none
  | _ => none

def fieldK (P : Program) (t : TypeId) (x : AV) (f : Nat) (k : AV → Option R) : Option R :=
  match P.underlying t, x with
  | some (.struct fs), .agg cs => match fs[f]? with
    | some fd => readK P fd.type cs fd.offset k
    | none => none
  | _, _ => none

def indexAddrK (P : Program) (t : TypeId) (x ix : AV) (k : AV → Option R) : Option R :=
  match P.underlying t, x, ix with
  | some (.array len e), .ptr i off, .int _ n => chk (decide (0 ≤ n) && decide (n < (len : Int))) (bif szOf P e == 0 then none else k (.ptr i (off + n.toNat * szOf P e)))
  | some (.array len e), .cptr cs off, .int _ n => chk (decide (0 ≤ n) && decide (n < (len : Int))) (bif szOf P e == 0 then none else k (.cptr cs (off + n.toNat * szOf P e)))
  | some (.slice e), .sref i off len _, .int _ n => chk (decide (0 ≤ n) && decide (n < (len : Int))) (bif szOf P e == 0 then none else k (.ptr i (off + n.toNat * szOf P e)))
  | some (.slice e), .sval cs len _, .int _ n => chk (decide (0 ≤ n) && decide (n < (len : Int))) (bif szOf P e == 0 then none else k (.cptr cs (n.toNat * szOf P e)))
  | _, _, _ => none

/-- The byte of a string at a place. -/
def bt (s : ByteArray) (i : Int) : Int := ((s.data.getD i.toNat 0).toNat : Int)

def indexK (P : Program) (t : TypeId) (x ix : AV) (k : AV → Option R) : Option R :=
  match P.underlying t, x, ix with
  | some (.array len e), .agg cs, .int _ n => chk (decide (0 ≤ n) && decide (n < (len : Int))) (bif szOf P e == 0 then none else readK P e cs (n.toNat * szOf P e) k)
  | some .string, .str s, .int _ n => chk (decide (0 ≤ n) && decide (n < (s.size : Int))) (k (.int .u8 (bt s n)))
  | _, _, _ => none

def lenK (P : Program) (t : TypeId) (x : AV) (k : AV → Option R) : Option R :=
  match P.underlying t, x with
  | some .string, .str s => k (.int .i64 (s.size : Int))
  | some (.array n _), _ => k (.int .i64 (n : Int))
  | some (.slice _), .sref _ _ n _ => k (.int .i64 (n : Int))
  | some (.slice _), .sval _ n _ => k (.int .i64 (n : Int))
  | some (.slice _), .nils => k (.int .i64 0)
  | _, _ => none

def loadK (P : Program) (objs : List AObj) (t : TypeId) (x : AV) (k : AV → Option R) : Option R :=
  match memOf objs x with
  | some (cs, off) => readK P t cs off k
  | none => none

/-- Operations that leave memory alone. -/
def quietK (P : Program) (objs : List AObj) (ρ : Operand → AV) (o : Op) (k : AV → Option R) : Option R :=
  match o with
  | .move x => k (ρ x)
  | .assign x => k (ρ x)
  | .pick c a b => match ρ c with
    | .bool t => k (pickA t (ρ a) (ρ b))
    | _ => none
  | .nilCheck x => match ρ x with
    | .ptr i off => k (.ptr i off)
    | .cptr cs off => k (.cptr cs off)
    | .fn (.func f) a b => k (.fn (.func f) a b)
    | _ => none
  | .extract x i => match ρ x with
    | .tup vs => match vs[i]? with
      | some v => k v
      | none => none
    | _ => none
  | .makeFunc f first cap => k (.fn f (first.toList.map ρ) (cap.toList.map ρ))
  | .makeInterface t x => match P.underlying t with
    | none => none
    | some (.interface _) => none
    | some _ => k (.iface t (ρ x))
  | .binOp op t x y _ => binK P op t (ρ x) (ρ y) (isConst x || isConst y) k
  | .unOp op _ x => unK op (ρ x) k
  | .convert s d x => convK P s d (ρ x) k
  | .slice t x lo hi mx => sliceK P objs t (ρ x) (lo.map ρ) (hi.map ρ) (mx.map ρ) k
  | .fieldAddr s x f => fieldAddrK P s (ρ x) f k
  | .field t x f => fieldK P t (ρ x) f k
  | .indexAddr t x ix => indexAddrK P t (ρ x) (ρ ix) k
  | .index t x ix => indexK P t (ρ x) (ρ ix) k
  | .load t x => loadK P objs t (ρ x) k
  | .call ⟨.builtin .len, args, ts⟩ => match args[0]?, ts[0]? with
    | some x, some t => lenK P t (ρ x) k
    | _, _ => none
  | _ => none
end

theorem bnd_some {R : Type} {v : AV} {y : Nat} {k : Nat → Option R} {r : R} (h : bnd v y k = some r) :
    ∃ kd n, v = .int kd n ∧ 0 ≤ n ∧ n ≤ (y : Int) ∧ k n.toNat = some r := by
  cases v <;> simp only [bnd] at h <;> try cases h
  obtain ⟨h1, h2⟩ := chk_some h
  simp at h1
  exact ⟨_, _, rfl, h1.1, h1.2, h2⟩

theorem run_sliceBound {P : Program} {kd : IntKind} {n : Int} {y : Nat} {c : BoundsCode} (h0 : 0 ≤ n) (h1 : n ≤ (y : Int)) (w : World) :
    (Instr.sliceBound (.int kd n) y c).run P w = .ok n.toNat w := by
  simp [Instr.sliceBound, asIntOf, h0, h1]

/-- An optional bound, on both sides. -/
def ORelO (G : Gh) (ι : Inj) : Option AV → Option Value → Prop
  | none, none => True
  | some a, some v => VRel G ι a v
  | _, _ => False

theorem bounds_ok {P : Program} {G : Gh} {ι : Inj} {R : Type} {lo hi : Option AV} {lo' hi' : Option Value} {len cap : Nat} {isS : Bool} {k : Nat → Nat → Option R} {r : R}
    (hlo : ORelO G ι lo lo') (hhi : ORelO G ι hi hi') (hlc : len ≤ cap)
    (h : (bndO hi len len fun h => bndO lo h 0 fun l => k h l) = some r) :
    ∃ l h, l ≤ h ∧ h ≤ len ∧ k h l = some r ∧ ∀ w, (Instr.sliceBounds isS len cap lo' hi' none).run P w = .ok (l, h, cap) w := by
  cases hi with
  | none =>
    cases hi' with
    | some _ => exact hhi.elim
    | none =>
      simp only [bndO] at h
      cases lo with
      | none =>
        cases lo' with
        | some _ => exact hlo.elim
        | none => exact ⟨0, len, Nat.zero_le _, Nat.le_refl _, h, fun w => by simp [Instr.sliceBounds]⟩
      | some v =>
        cases lo' with
        | none => exact hlo.elim
        | some v' =>
          obtain ⟨kd, n, rfl, h0, h1, h3⟩ := bnd_some h
          have hv : v' = .int kd n := VRel.int_inv hlo
          subst hv
          exact ⟨n.toNat, len, by omega, Nat.le_refl _, h3, fun w => by simp [Instr.sliceBounds, run_sliceBound h0 h1]⟩
  | some u =>
    cases hi' with
    | none => exact hhi.elim
    | some u' =>
      simp only [bndO] at h
      obtain ⟨kd, m, rfl, h0, h1, h2⟩ := bnd_some h
      have hv : u' = .int kd m := VRel.int_inv hhi
      subst hv
      have h1' : m ≤ (cap : Int) := by omega
      cases lo with
      | none =>
        cases lo' with
        | some _ => exact hlo.elim
        | none => exact ⟨0, m.toNat, Nat.zero_le _, by omega, h2, fun w => by simp [Instr.sliceBounds, run_sliceBound h0 h1']⟩
      | some v =>
        cases lo' with
        | none => exact hlo.elim
        | some v' =>
          obtain ⟨kd2, n, rfl, h02, h12, h3⟩ := bnd_some h2
          have hv : v' = .int kd2 n := VRel.int_inv hlo
          subst hv
          exact ⟨n.toNat, m.toNat, by omega, by omega, h3, fun w => by simp [Instr.sliceBounds, run_sliceBound h0 h1', run_sliceBound h02 h12]⟩

theorem bounds_ok3 {P : Program} {G : Gh} {ι : Inj} {R : Type} {lo hi : Option AV} {lo' hi' : Option Value} {m : AV} {m' : Value} {len cap y : Nat} {k : Nat → Nat → Nat → Option R} {r : R}
    (hlo : ORelO G ι lo lo') (hhi : ORelO G ι hi hi') (hm : VRel G ι m m') (hlc : y ≤ cap) (hs : hi.isSome = true)
    (h : (bnd m y fun m => bndO hi m m fun h => bndO lo h 0 fun l => k m h l) = some r) :
    ∃ l h m1, l ≤ h ∧ h ≤ m1 ∧ m1 ≤ y ∧ k m1 h l = some r ∧ ∀ w, (Instr.sliceBounds true len cap lo' hi' (some m')).run P w = .ok (l, h, m1) w := by
  obtain ⟨kd, n, rfl, h0, h1, h2⟩ := bnd_some h
  have hv : m' = .int kd n := VRel.int_inv hm
  subst hv
  have h1' : n ≤ (cap : Int) := by omega
  cases hi with
  | none => simp at hs
  | some v =>
    cases hi' with
    | none => exact hhi.elim
    | some v' =>
      simp only [bndO] at h2
      obtain ⟨kd2, n2, rfl, h02, h12, h22⟩ := bnd_some h2
      have hv : v' = .int kd2 n2 := VRel.int_inv hhi
      subst hv
      cases lo with
      | none =>
        cases lo' with
        | some _ => exact hlo.elim
        | none =>
          exact ⟨0, n2.toNat, n.toNat, Nat.zero_le _, by omega, by omega, h22, fun w => by
            simp [Instr.sliceBounds, run_sliceBound h0 h1', run_sliceBound h02 h12]⟩
      | some u =>
        cases lo' with
        | none => exact hlo.elim
        | some u' =>
          obtain ⟨kd3, n3, rfl, h03, h13, h23⟩ := bnd_some h22
          have hv : u' = .int kd3 n3 := VRel.int_inv hlo
          subst hv
          exact ⟨n3.toNat, n2.toNat, n.toNat, by omega, by omega, by omega, h23, fun w => by
            simp [Instr.sliceBounds, run_sliceBound h0 h1', run_sliceBound h02 h12, run_sliceBound h03 h13]⟩
end Go.Ab
