/- Texts of the claim, merged: AbQuiet, AbQuietOk, AbQuietAll, AbEff, AbEff2, AbEff3, AbEff4, AbAppend, AbAppend2. No condition. -/
import Derived.Test.YtnalegahabfglaaDoorAbMem
import Derived.Deep.Upon
set_option linter.all false
set_option linter.unusedVariables false
set_option linter.unusedSimpArgs false
section
namespace Go.Ab
open Go
section
variable {R : Type}

def pickA (t : Bool) (a b : AV) : AV :=
  match a, b with
  | .bool x, .bool y => .bool (bif t then x else y)
  | a, b => bif t then a else b

def bnd (v : AV) (y : Nat) (k : Nat → Option R) : Option R :=
  match v with
  | .int _ n => chk (decide (0 ≤ n) && decide (n ≤ (y : Int))) (k n.toNat)
  | _ => none
def bndO (v : Option AV) (y d : Nat) (k : Nat → Option R) : Option R :=
  match v with
  | some v => bnd v y k
  | none => k d

def sliceSK (sz : Nat) (x : AV) (lo hi mx : Option AV) (k : AV → Option R) : Option R :=
  match x, mx with
  | .sref i off len sz', none =>
    bif sz == sz' then bndO hi len len fun h => bndO lo h 0 fun l => bif h == l then k (.sval [] 0 false) else k (.sref i (off + l * sz) (h - l) sz) else none
  | .sval cs len _, none => bndO hi len len fun h => bndO lo h 0 fun l => k (.sval ((cs.drop (l * sz)).take ((h - l) * sz)) (h - l) false)
  | .nils, none => bndO hi 0 0 fun h => bndO lo h 0 fun _ => k .nils
  | .sref _ _ len _, some m | .sval _ len _, some m =>
    bif hi.isSome then bnd m len fun m => bndO hi m m fun h => bndO lo h 0 fun l => bif m == l then k (.sval [] 0 true) else none else none
  | .nils, some m => bif hi.isSome then bnd m 0 fun m => bndO hi m m fun h => bndO lo h 0 fun _ => k .nils else none
  | _, _ => none

def sliceAK (sz n : Nat) (x : AV) (lo hi mx : Option AV) (k : AV → Option R) : Option R :=
  match x, mx with
  | .ptr i off, none => bndO hi n n fun h => bndO lo h 0 fun l => bif h == l then k (.sval [] 0 false) else k (.sref i (off + l * sz) (h - l) sz)
  | .cptr cs off, none => bndO hi n n fun h => bndO lo h 0 fun l => k (.sval ((cs.drop (off + l * sz)).take ((h - l) * sz)) (h - l) false)
  | _, _ => none

def sliceK (P : Program) (objs : List AObj) (t : TypeId) (x : AV) (lo hi mx : Option AV) (k : AV → Option R) : Option R :=
  match P.underlying t with
  | some .string => match x, mx with
    | .str s, none => bndO hi s.size s.size fun h => bndO lo h 0 fun l => k (.str (s.extract l h))
    | _, _ => none
  | some (.slice e) => bif szOf P e == 0 then none else sliceSK (szOf P e) x lo hi mx k
  | some (.array n e) => bif szOf P e == 0 then none else match memOf objs x with
    | some (cs, off) => chk (decide (off + n * szOf P e ≤ cs.length)) (sliceAK (szOf P e) n x lo hi mx k)
    | none => none
  | _ => none

def fieldAddrK (P : Program) (s : TypeId) (x : AV) (f : Nat) (k : AV → Option R) : Option R :=
  match P.underlying s with
  | some (.struct fs) => match fs[f]? with
    | some fd => bif szOf P fd.type == 0 then none else match x with
      | .ptr i off => k (.ptr i (off + fd.offset))
      | .cptr cs off => k (.cptr cs (off + fd.offset))
      | _ => none
    | none => none
  | _ => none

def fieldK (P : Program) (t : TypeId) (x : AV) (f : Nat) (k : AV → Option R) : Option R :=
  match P.underlying t, x with
  | some (.struct fs), .agg cs => match fs[f]? with
    | some fd => readK P fd.type cs fd.offset k
    | none => none
  | _, _ => none

def indexAddrK (P : Program) (t : TypeId) (x ix : AV) (k : AV → Option R) : Option R :=
  match P.underlying t, x, ix with
  | some (.array len e), .ptr i off, .int _ n => chk (decide (0 ≤ n) && decide (n < (len : Int))) (bif szOf P e == 0 then none else k (.ptr i (off + n.toNat * szOf P e)))
  | some (.array len e), .cptr cs off, .int _ n => chk (decide (0 ≤ n) && decide (n < (len : Int))) (bif szOf P e == 0 then none else k (.cptr cs (off + n.toNat * szOf P e)))
  | some (.slice e), .sref i off len _, .int _ n => chk (decide (0 ≤ n) && decide (n < (len : Int))) (bif szOf P e == 0 then none else k (.ptr i (off + n.toNat * szOf P e)))
  | some (.slice e), .sval cs len _, .int _ n => chk (decide (0 ≤ n) && decide (n < (len : Int))) (bif szOf P e == 0 then none else k (.cptr cs (n.toNat * szOf P e)))
  | _, _, _ => none

/-- The byte of a string at a place. -/
def bt (s : ByteArray) (i : Int) : Int := ((s.data.getD i.toNat 0).toNat : Int)

def indexK (P : Program) (t : TypeId) (x ix : AV) (k : AV → Option R) : Option R :=
  match P.underlying t, x, ix with
  | some (.array len e), .agg cs, .int _ n => chk (decide (0 ≤ n) && decide (n < (len : Int))) (bif szOf P e == 0 then none else readK P e cs (n.toNat * szOf P e) k)
  | some .string, .str s, .int _ n => chk (decide (0 ≤ n) && decide (n < (s.size : Int))) (k (.int .u8 (bt s n)))
  | _, _, _ => none

def lenK (P : Program) (t : TypeId) (x : AV) (k : AV → Option R) : Option R :=
  match P.underlying t, x with
  | some .string, .str s => k (.int .i64 (s.size : Int))
  | some (.array n _), _ => k (.int .i64 (n : Int))
  | some (.slice _), .sref _ _ n _ => k (.int .i64 (n : Int))
  | some (.slice _), .sval _ n _ => k (.int .i64 (n : Int))
  | some (.slice _), .nils => k (.int .i64 0)
  | _, _ => none

def loadK (P : Program) (objs : List AObj) (t : TypeId) (x : AV) (k : AV → Option R) : Option R :=
  match memOf objs x with
  | some (cs, off) => readK P t cs off k
  | none => none

/-- Operations that leave memory alone. -/
def quietK (P : Program) (objs : List AObj) (ρ : Operand → AV) (o : Op) (k : AV → Option R) : Option R :=
  match o with
  | .move x => k (ρ x)
  | .assign x => k (ρ x)
  | .pick c a b => match ρ c with
    | .bool t => k (pickA t (ρ a) (ρ b))
    | _ => none
  | .nilCheck x => match ρ x with
    | .ptr i off => k (.ptr i off)
    | .cptr cs off => k (.cptr cs off)
    | .fn (.func f) a b => k (.fn (.func f) a b)
    | _ => none
  | .extract x i => match ρ x with
    | .tup vs => match vs[i]? with
      | some v => k v
      | none => none
    | _ => none
  | .makeFunc f first cap => k (.fn f (first.toList.map ρ) (cap.toList.map ρ))
  | .makeInterface t x => match P.underlying t with
    | none => none
    | some (.interface _) => none
    | some _ => k (.iface t (ρ x))
  | .binOp op t x y _ => binK P op t (ρ x) (ρ y) (isConst x || isConst y) k
  | .unOp op _ x => unK op (ρ x) k
  | .convert s d x => convK P s d (ρ x) k
  | .slice t x lo hi mx => sliceK P objs t (ρ x) (lo.map ρ) (hi.map ρ) (mx.map ρ) k
  | .fieldAddr s x f => fieldAddrK P s (ρ x) f k
  | .field t x f => fieldK P t (ρ x) f k
  | .indexAddr t x ix => indexAddrK P t (ρ x) (ρ ix) k
  | .index t x ix => indexK P t (ρ x) (ρ ix) k
  | .load t x => loadK P objs t (ρ x) k
  | .call ⟨.builtin .len, args, ts⟩ => match args[0]?, ts[0]? with
    | some x, some t => lenK P t (ρ x) k
    | _, _ => none
  | _ => none
end

theorem bnd_some {R : Type} {v : AV} {y : Nat} {k : Nat → Option R} {r : R} (h : bnd v y k = some r) :
    ∃ kd n, v = .int kd n ∧ 0 ≤ n ∧ n ≤ (y : Int) ∧ k n.toNat = some r := by
  cases v <;> simp only [bnd] at h <;> try cases h
  obtain ⟨h1, h2⟩ := chk_some h
  simp at h1
  exact ⟨_, _, rfl, h1.1, h1.2, h2⟩

theorem run_sliceBound {P : Program} {kd : IntKind} {n : Int} {y : Nat} {c : BoundsCode} (h0 : 0 ≤ n) (h1 : n ≤ (y : Int)) (w : World) :
    (Instr.sliceBound (.int kd n) y c).run P w = .ok n.toNat w := by
  simp [Instr.sliceBound, asIntOf, h0, h1]

/-- An optional bound, on both sides. -/
def ORelO (G : Gh) (ι : Inj) : Option AV → Option Value → Prop
  | none, none => True
  | some a, some v => VRel G ι a v
  | _, _ => False

theorem bounds_ok {P : Program} {G : Gh} {ι : Inj} {R : Type} {lo hi : Option AV} {lo' hi' : Option Value} {len cap : Nat} {isS : Bool} {k : Nat → Nat → Option R} {r : R}
    (hlo : ORelO G ι lo lo') (hhi : ORelO G ι hi hi') (hlc : len ≤ cap)
    (h : (bndO hi len len fun h => bndO lo h 0 fun l => k h l) = some r) :
    ∃ l h, l ≤ h ∧ h ≤ len ∧ k h l = some r ∧ ∀ w, (Instr.sliceBounds isS len cap lo' hi' none).run P w = .ok (l, h, cap) w := by
  cases hi with
  | none =>
    cases hi' with
    | some _ => exact hhi.elim
    | none =>
      simp only [bndO] at h
      cases lo with
      | none =>
        cases lo' with
        | some _ => exact hlo.elim
        | none => exact ⟨0, len, Nat.zero_le _, Nat.le_refl _, h, fun w => by simp [Instr.sliceBounds]⟩
      | some v =>
        cases lo' with
        | none => exact hlo.elim
        | some v' =>
          obtain ⟨kd, n, rfl, h0, h1, h3⟩ := bnd_some h
          have hv : v' = .int kd n := VRel.int_inv hlo
          subst hv
          exact ⟨n.toNat, len, by omega, Nat.le_refl _, h3, fun w => by simp [Instr.sliceBounds, run_sliceBound h0 h1]⟩
  | some u =>
    cases hi' with
    | none => exact hhi.elim
    | some u' =>
      simp only [bndO] at h
      obtain ⟨kd, m, rfl, h0, h1, h2⟩ := bnd_some h
      have hv : u' = .int kd m := VRel.int_inv hhi
      subst hv
      have h1' : m ≤ (cap : Int) := by omega
      cases lo with
      | none =>
        cases lo' with
        | some _ => exact hlo.elim
        | none => exact ⟨0, m.toNat, Nat.zero_le _, by omega, h2, fun w => by simp [Instr.sliceBounds, run_sliceBound h0 h1']⟩
      | some v =>
        cases lo' with
        | none => exact hlo.elim
        | some v' =>
          obtain ⟨kd2, n, rfl, h02, h12, h3⟩ := bnd_some h2
          have hv : v' = .int kd2 n := VRel.int_inv hlo
          subst hv
          exact ⟨n.toNat, m.toNat, by omega, by omega, h3, fun w => by simp [Instr.sliceBounds, run_sliceBound h0 h1', run_sliceBound h02 h12]⟩

theorem bounds_ok3 {P : Program} {G : Gh} {ι : Inj} {R : Type} {lo hi : Option AV} {lo' hi' : Option Value} {m : AV} {m' : Value} {len cap y : Nat} {k : Nat → Nat → Nat → Option R} {r : R}
    (hlo : ORelO G ι lo lo') (hhi : ORelO G ι hi hi') (hm : VRel G ι m m') (hlc : y ≤ cap) (hs : hi.isSome = true)
    (h : (bnd m y fun m => bndO hi m m fun h => bndO lo h 0 fun l => k m h l) = some r) :
    ∃ l h m1, l ≤ h ∧ h ≤ m1 ∧ m1 ≤ y ∧ k m1 h l = some r ∧ ∀ w, (Instr.sliceBounds true len cap lo' hi' (some m')).run P w = .ok (l, h, m1) w := by
  obtain ⟨kd, n, rfl, h0, h1, h2⟩ := bnd_some h
  have hv : m' = .int kd n := VRel.int_inv hm
  subst hv
  have h1' : n ≤ (cap : Int) := by omega
  cases hi with
  | none => simp at hs
  | some v =>
    cases hi' with
    | none => exact hhi.elim
    | some v' =>
      simp only [bndO] at h2
      obtain ⟨kd2, n2, rfl, h02, h12, h22⟩ := bnd_some h2
      have hv : v' = .int kd2 n2 := VRel.int_inv hhi
      subst hv
      cases lo with
      | none =>
        cases lo' with
        | some _ => exact hlo.elim
        | none =>
          exact ⟨0, n2.toNat, n.toNat, Nat.zero_le _, by omega, by omega, h22, fun w => by
            simp [Instr.sliceBounds, run_sliceBound h0 h1', run_sliceBound h02 h12]⟩
      | some u =>
        cases lo' with
        | none => exact hlo.elim
        | some u' =>
          obtain ⟨kd3, n3, rfl, h03, h13, h23⟩ := bnd_some h22
          have hv : u' = .int kd3 n3 := VRel.int_inv hlo
          subst hv
          exact ⟨n3.toNat, n2.toNat, n.toNat, by omega, by omega, by omega, h23, fun w => by
            simp [Instr.sliceBounds, run_sliceBound h0 h1', run_sliceBound h02 h12, run_sliceBound h03 h13]⟩
end Go.Ab
end

section
namespace Go.Ab
open Go

theorem ofScalar_rel (G : Gh) (ι : Inj) (v : Value) : VRel G ι (ofScalar v) v := by
  unfold ofScalar
  split <;> first | constructor | exact .undef _

theorem ofConst_rel (G : Gh) (ι : Inj) (v : Value) : VRel G ι (ofConst v) v := by
  unfold ofConst
  split
  · refine VRel.aggL ⟨by simp, fun i a v h1 h2 => ?_⟩
    rw [List.getElem?_map, h2] at h1
    simp at h1; subst h1
    exact ofScalar_rel G ι v
  · exact ofScalar_rel G ι v

theorem aeval_rel {G : Gh} {ι : Inj} {tmps : List AV} {a : Act} (h : LRel G ι tmps a.tmps.toList) (x : Operand) : VRel G ι (aeval tmps x) (a.eval x) := by
  cases x with
  | tmp t =>
    simp only [aeval, Act.eval]
    rw [List.getD_eq_getElem?_getD]
    cases ht : tmps[t]? with
    | none => exact .undef _
    | some v =>
      obtain ⟨u, hu, hr⟩ := h.get ht
      have : a.tmps.getD t undef = u := by
        have hu' : a.tmps[t]? = some u := by simpa using hu
        simp [hu']
      rw [this]; exact hr
  | const v => exact ofConst_rel G ι v
  | global g => exact .undef _
  | func f => exact .fn (by simp) (fun i a v h => by simp at h) (by simp) (fun i a v h => by simp at h)

theorem cell_slot {G : Gh} {ι : Inj} {f : Operand → AV} {f' : Operand → Value} (h : ∀ x, VRel G ι (f x) (f' x)) (xs : Array Operand) :
    LRel G ι (xs.toList.map f) (xs.map f').toList := by
  refine ⟨by simp, fun i a v h1 h2 => ?_⟩
  rw [List.getElem?_map] at h1
  simp only [Array.toList_map, List.getElem?_map] at h2
  cases hx : xs.toList[i]? with
  | none => rw [hx] at h1; simp at h1
  | some x => rw [hx] at h1 h2; simp at h1 h2; subst h1 h2; exact h x

section
variable {E : Env} {G : Gh} {ι : Inj} {R : Type} {k : AV → Option R} {r : R}

theorem sval_empty {B o cap : Nat} {full : Bool} (hf : full = true → cap = 0) : VRel G ι (.sval [] 0 full) (.slice (some ⟨B, o, none⟩) 0 cap) :=
  .sval (fun _ => .nilFunc) (fun j hj => by simp at hj) (fun j a h => by simp at h) hf (Nat.zero_le _)

theorem szOf_run {P : Program} {t : TypeId} (h : (szOf P t == 0) = false) (w : World) : (sizeOf t).run P w = .ok (szOf P t) w := by
  unfold szOf at *
  cases hi : P.info? t with
  | none => simp [hi] at h
  | some i => simp [sizeOf, typeInfo, hi]

theorem sizeOf_eq {P : Program} {t : TypeId} {i : TypeInfo} (h : P.info? t = some i) (w : World) : (sizeOf t).run P w = .ok i.size w := by
  simp [sizeOf, typeInfo, h]

theorem sval_sub {cs : List AV} {B o c : Nat} {vf : Nat → Value} (hg : ∀ j, j < cs.length → G B (o + j) = some (vf j)) (h : ∀ (j : Nat) (a : AV), cs[j]? = some a → VRel G noInj a (vf j))
    (d n len cap : Nat) (hl : len ≤ cap) (hc : c = o + d) : VRel G ι (.sval ((cs.drop d).take n) len false) (.slice (some ⟨B, c, none⟩) len cap) := by
  subst hc
  refine .sval (fun j => vf (d + j)) (fun j hj => ?_) (fun j a ha => ?_) (fun h => by cases h) hl
  · simp only [List.length_take, List.length_drop] at hj
    rw [Nat.add_assoc]; exact hg (d + j) (by omega)
  · rw [List.getElem?_take] at ha
    split at ha
    · rw [List.getElem?_drop] at ha; exact h _ _ ha
    · cases ha

theorem szOf_info {P : Program} {t : TypeId} {n : Nat} (h : szOf P t = n) (hn : n ≠ 0) : ∃ i, P.info? t = some i ∧ i.size = n := by
  unfold szOf at h
  cases hi : P.info? t with
  | none => simp [hi] at h; omega
  | some i => exact ⟨i, rfl, by simpa [hi] using h⟩

theorem sliceSK_ok {t e : TypeId} {sz : Nat} {x : AV} {x' : Value} {lo hi mx : Option AV} {lo' hi' mx' : Option Value} (ht : E.P.underlying t = some (.slice e)) (hsz : ∀ w, (sizeOf e).run E.P w = .ok sz w)
    (h : sliceSK sz x lo hi mx k = some r) (hx : VRel G ι x x') (hlo : ORelO G ι lo lo') (hhi : ORelO G ι hi hi') (hmx : ORelO G ι mx mx') :
    ∃ v v', k v = some r ∧ VRel G ι v v' ∧ ∀ w, (Instr.sliceAt t x' lo' hi' mx').run E.P w = .ok v' w := by
  have key : ∀ (len cap l hN m1 B off : Nat) (mx' : Option Value), (∀ w, (Instr.sliceBounds true len cap lo' hi' mx').run E.P w = .ok (l, hN, m1) w) →
      ∀ w, (Instr.sliceAt t (.slice (some ⟨B, off, none⟩) len cap) lo' hi' mx').run E.P w =
        .ok (.slice (some (if m1 = l then ⟨B, off, none⟩ else ⟨B, off + l * sz, none⟩)) (hN - l) (m1 - l)) w := fun len cap l hN m1 B off mx' h4 w => by
    simp only [Instr.sliceAt, Sem.run_bind, run_underlying ht, Result.andThen_ok, Instr.slice, h4, hsz, Sem.run_pure]
    by_cases hcl : m1 = l <;> simp [hcl, Addr.add_lit]
  have keyn : ∀ (l hN m1 : Nat) (mx' : Option Value), (∀ w, (Instr.sliceBounds true 0 0 lo' hi' mx').run E.P w = .ok (l, hN, m1) w) → l = 0 → hN = 0 → m1 = 0 →
      ∀ w, (Instr.sliceAt t (.slice none 0 0) lo' hi' mx').run E.P w = .ok (.slice none 0 0) w := fun l hN m1 mx' h4 e1 e2 e3 w => by
    subst e1 e2 e3
    simp [Instr.sliceAt, run_underlying ht, Instr.slice, h4, hsz]
  unfold sliceSK at h
  split at h
  · rename_i i off len sz'
    cases mx' with
    | some _ => exact hmx.elim
    | none =>
      cases hs : sz == sz'
      · simp [hs] at h
      · simp only [hs, cond_true] at h
        have hs' : sz = sz' := by simpa using hs
        subst hs'
        cases hx with
        | sref hι hc hl =>
          rename_i cap B C
          obtain ⟨l, hN, h1, h2, h3, h4⟩ := bounds_ok (P := E.P) (isS := true) hlo hhi hl h
          have hrun := key len cap l hN cap B off none h4
          cases hb : hN == l
          · simp only [hb, cond_false] at h3
            have hne : hN ≠ l := by simpa using hb
            have hcl : ¬ cap = l := by omega
            simp only [hcl, if_false] at hrun
            refine ⟨_, _, h3, .sref hι ?_ (by omega), hrun⟩
            have : l * sz + (cap - l) * sz = cap * sz := by rw [← Nat.add_mul]; congr 1; omega
            omega
          · simp only [hb, cond_true] at h3
            have hne : hN = l := by simpa using hb
            subst hne
            simp only [Nat.sub_self] at hrun
            by_cases hcl : cap = hN
            · simp only [hcl, if_true] at hrun
              exact ⟨_, _, h3, sval_empty (by simp), by simpa [hcl] using hrun⟩
            · simp only [hcl, if_false] at hrun
              exact ⟨_, _, h3, sval_empty (by simp), hrun⟩
  · rename_i cs len full
    cases mx' with
    | some _ => exact hmx.elim
    | none =>
      cases hx with
      | svalNil =>
        obtain ⟨l, hN, h1, h2, h3, h4⟩ := bounds_ok (P := E.P) (isS := true) hlo hhi (Nat.le_refl 0) h
        have hz : hN - l = 0 := by omega
        rw [hz] at h3
        have e0 : (([] : List AV).drop (l * sz)).take (0 * sz) = [] := by simp
        rw [e0] at h3
        exact ⟨_, _, h3, .svalNil, keyn l hN 0 none h4 (by omega) (by omega) rfl⟩
      | sval vf hg hv hf hl =>
        rename_i B off cap
        obtain ⟨l, hN, h1, h2, h3, h4⟩ := bounds_ok (P := E.P) (isS := true) hlo hhi hl h
        have hrun := key len cap l hN cap B off none h4
        by_cases hcl : cap = l
        · simp only [hcl, if_true] at hrun
          have : hN - l = 0 := by omega
          rw [this] at h3 hrun
          have e0 : (cs.drop (l * sz)).take (0 * sz) = [] := by simp
          rw [e0] at h3
          exact ⟨_, _, h3, sval_empty (by simp), by simpa [hcl] using hrun⟩
        · simp only [hcl, if_false] at hrun
          exact ⟨_, _, h3, sval_sub hg hv _ _ _ _ (by omega) rfl, hrun⟩
  · cases mx' with
    | some _ => exact hmx.elim
    | none =>
      cases hx
      obtain ⟨l, hN, h1, h2, h3, h4⟩ := bounds_ok (P := E.P) (isS := true) hlo hhi (Nat.le_refl 0) h
      exact ⟨_, _, h3, .nils, keyn l hN 0 none h4 (by omega) (by omega) rfl⟩
  · rename_i i off len sz' m
    cases mx' with
    | none => exact hmx.elim
    | some m' =>
      cases hh : hi.isSome
      · simp [hh] at h
      · simp only [hh, cond_true] at h
        cases hx with
        | sref hι hc hl =>
          rename_i cap B C
          obtain ⟨l, hN, m1, h1, h2, h2', h3, h4⟩ := bounds_ok3 (P := E.P) (len := len) hlo hhi hmx hl hh h
          have hrun := key len cap l hN m1 B off (some m') h4
          cases hb : m1 == l
          · simp [hb] at h3
          · simp only [hb, cond_true] at h3
            have hne : m1 = l := by simpa using hb
            have hN0 : hN - l = 0 := by omega
            have hm0 : m1 - l = 0 := by omega
            simp only [hne, if_true, hN0, Nat.sub_self] at hrun
            exact ⟨_, _, h3, sval_empty (by simp), hrun⟩
  · rename_i cs len full m
    cases mx' with
    | none => exact hmx.elim
    | some m' =>
      cases hh : hi.isSome
      · simp [hh] at h
      · simp only [hh, cond_true] at h
        cases hx with
        | svalNil =>
          obtain ⟨l, hN, m1, h1, h2, h2', h3, h4⟩ := bounds_ok3 (P := E.P) (len := 0) hlo hhi hmx (Nat.le_refl 0) hh h
          cases hb : m1 == l
          · simp [hb] at h3
          · simp only [hb, cond_true] at h3
            exact ⟨_, _, h3, .svalNil, keyn l hN m1 (some m') h4 (by omega) (by omega) (by omega)⟩
        | sval vf hg hv hf hl =>
          rename_i B off cap
          obtain ⟨l, hN, m1, h1, h2, h2', h3, h4⟩ := bounds_ok3 (P := E.P) (len := len) hlo hhi hmx hl hh h
          have hrun := key len cap l hN m1 B off (some m') h4
          cases hb : m1 == l
          · simp [hb] at h3
          · simp only [hb, cond_true] at h3
            have hne : m1 = l := by simpa using hb
            have hN0 : hN - l = 0 := by omega
            simp only [hne, if_true, hN0, Nat.sub_self] at hrun
            exact ⟨_, _, h3, sval_empty (by simp), hrun⟩
  · rename_i m
    cases mx' with
    | none => exact hmx.elim
    | some m' =>
      cases hh : hi.isSome
      · simp [hh] at h
      · simp only [hh, cond_true] at h
        cases hx
        obtain ⟨l, hN, m1, h1, h2, h2', h3, h4⟩ := bounds_ok3 (P := E.P) (len := 0) hlo hhi hmx (Nat.le_refl 0) hh h
        exact ⟨_, _, h3, .nils, keyn l hN m1 (some m') h4 (by omega) (by omega) (by omega)⟩
  · cases h

theorem sliceK_ok {objs : List AObj} {w0 : World} {t : TypeId} {x : AV} {x' : Value} {lo hi mx : Option AV} {lo' hi' mx' : Option Value} (h : sliceK E.P objs t x lo hi mx k = some r)
    (hR : Rel E G ι objs w0) (hx : VRel G ι x x') (hlo : ORelO G ι lo lo') (hhi : ORelO G ι hi hi') (hmx : ORelO G ι mx mx') :
    ∃ v v', k v = some r ∧ VRel G ι v v' ∧ ∀ w, (Instr.sliceAt t x' lo' hi' mx').run E.P w = .ok v' w := by
  unfold sliceK at h
  split at h
  · rename_i ht
    split at h
    · rename_i s
      rw [hx.str_inv]
      cases mx' with
      | some _ => exact hmx.elim
      | none =>
        obtain ⟨l, hN, h1, h2, h3, h4⟩ := bounds_ok (P := E.P) (isS := false) hlo hhi (Nat.le_refl _) h
        exact ⟨_, _, h3, .str _, fun w => by simp [Instr.sliceAt, Instr.slice, run_underlying ht, h4]⟩
    · cases h
  · rename_i e ht
    cases hs : szOf E.P e == 0
    · simp only [hs, cond_false] at h
      exact sliceSK_ok ht (szOf_run hs) h hx hlo hhi hmx
    · simp [hs] at h
  · rename_i n e ht
    cases hs : szOf E.P e == 0
    · simp only [hs, cond_false] at h
      split at h
      · rename_i cs off hm
        replace h := chk_some h; obtain ⟨hc, h⟩ := h
        have hc' : off + n * szOf E.P e ≤ cs.length := by simpa using hc
        have key : ∀ (l hN B o : Nat), (∀ w, (Instr.sliceBounds false n n lo' hi' none).run E.P w = .ok (l, hN, n) w) →
            ∀ w, (Instr.sliceAt t (.pointer (some ⟨B, o, none⟩)) lo' hi' none).run E.P w =
              .ok (.slice (some (if n = l then ⟨B, o, none⟩ else ⟨B, o + l * szOf E.P e, none⟩)) (hN - l) (n - l)) w := fun l hN B o h4 w => by
          simp only [Instr.sliceAt, Sem.run_bind, run_underlying ht, Result.andThen_ok, Instr.sureAddr, h4, szOf_run hs, Sem.run_pure]
          by_cases hcl : n = l <;> simp [hcl, Addr.add_lit]
        unfold sliceAK at h
        split at h
        · rename_i i off1
          cases mx' with
          | some _ => exact hmx.elim
          | none =>
            obtain ⟨l, hN, h1, h2, h3, h4⟩ := bounds_ok (P := E.P) (isS := false) hlo hhi (Nat.le_refl _) h
            cases hx with
            | ptr hι =>
              rename_i B C
              have hrun := key l hN B off1 h4
              cases hb : hN == l
              · simp only [hb, cond_false] at h3
                have hne : hN ≠ l := by simpa using hb
                have hcl : ¬ n = l := by omega
                simp only [hcl, if_false] at hrun
                refine ⟨_, _, h3, .sref hι ?_ (by omega), hrun⟩
                simp only [memOf] at hm
                split at hm
                · rename_i flat cs1 hi
                  simp at hm; obtain ⟨rfl, rfl⟩ := hm
                  obtain ⟨B', C', e1, _, _, e3⟩ := hR.obj _ _ hi rfl
                  rw [hι] at e1; simp at e1; obtain ⟨rfl, rfl⟩ := e1
                  obtain ⟨⟨c, e', lo1, hi1, _, hC, _, hl⟩, _⟩ := e3
                  have : cs1.length ≤ c.size := by have := hl.1; simp at this; omega
                  have : l * szOf E.P e + (n - l) * szOf E.P e = n * szOf E.P e := by rw [← Nat.add_mul]; congr 1; omega
                  omega
                · cases hm
              · simp only [hb, cond_true] at h3
                have hne : hN = l := by simpa using hb
                subst hne
                simp only [Nat.sub_self] at hrun
                by_cases hcl : n = hN
                · simp only [hcl, if_true] at hrun
                  exact ⟨_, _, h3, sval_empty (by simp), by simpa [hcl] using hrun⟩
                · simp only [hcl, if_false] at hrun
                  exact ⟨_, _, h3, sval_empty (by simp), hrun⟩
        · rename_i cs1 off1
          cases mx' with
          | some _ => exact hmx.elim
          | none =>
            obtain ⟨l, hN, h1, h2, h3, h4⟩ := bounds_ok (P := E.P) (isS := false) hlo hhi (Nat.le_refl _) h
            cases hx with
            | cptr vf hg hv =>
              rename_i B o
              have hrun := key l hN B (o + off1) h4
              by_cases hcl : n = l
              · simp only [hcl, if_true] at hrun
                have : hN - l = 0 := by omega
                rw [this] at h3 hrun
                have e0 : (cs1.drop (off1 + l * szOf E.P e)).take (0 * szOf E.P e) = [] := by simp
                rw [e0] at h3
                exact ⟨_, _, h3, sval_empty (by simp), by simpa [hcl] using hrun⟩
              · simp only [hcl, if_false] at hrun
                exact ⟨_, _, h3, sval_sub hg hv _ _ _ _ (by omega) (by omega), hrun⟩
        · cases h
      · cases h
    · simp [hs] at h
  · cases h
end
end Go.Ab
end

section
namespace Go.Ab
open Go
section
variable {E : Env} {G : Gh} {ι : Inj} {R : Type} {k : AV → Option R} {r : R}

theorem ORelO_map {f : Operand → AV} {f' : Operand → Value} (h : ∀ x, VRel G ι (f x) (f' x)) (o : Option Operand) : ORelO G ι (o.map f) (o.map f') := by
  cases o with
  | none => trivial
  | some x => exact h x

theorem fieldAddrK_ok {s : TypeId} {x : AV} {x' : Value} {f : Nat} (h : fieldAddrK E.P s x f k = some r) (hx : VRel G ι x x') :
    ∃ v v', k v = some r ∧ VRel G ι v v' ∧ ∀ w, (Instr.fieldAt s x' f).run E.P w = .ok v' w := by
  unfold fieldAddrK at h
  split at h
  · rename_i fs ht
    split at h
    · rename_i fd hf
      cases hs : szOf E.P fd.type == 0
      · simp only [hs, cond_false] at h
        have hz : ∀ w, (sizeOf fd.type).run E.P w = .ok (szOf E.P fd.type) w := szOf_run hs
        have hz0 : ¬ szOf E.P fd.type = 0 := by simpa using hs
        split at h
        · cases hx with
          | ptr hι =>
            exact ⟨_, _, h, .ptr hι, fun w => by
              simp [Instr.fieldAt, run_underlying ht, hf, Instr.sureAddr, fieldPlace, hz, hz0, Addr.add_lit]⟩
        · cases hx with
          | cptr vf hg hv =>
            exact ⟨_, _, h, .cptr vf hg hv, fun w => by
              simp [Instr.fieldAt, run_underlying ht, hf, Instr.sureAddr, fieldPlace, hz, hz0, Addr.add_lit, Nat.add_assoc]⟩
        · cases h
      · simp [hs] at h
    · cases h
  · cases h

theorem fieldK_ok {t : TypeId} {x : AV} {x' : Value} {f : Nat} (h : fieldK E.P t x f k = some r) (hx : VRel G ι x x') :
    ∃ v v', k v = some r ∧ VRel G ι v v' ∧ ∀ w, (Instr.field t x' f).run E.P w = .ok v' w := by
  unfold fieldK at h
  split at h
  · rename_i fs cs ht
    split at h
    · rename_i fd hf
      obtain ⟨vs, rfl, hl⟩ := hx.agg_inv
      obtain ⟨v, v', h1, h2, h3⟩ := readK_part h hl
      exact ⟨v, v', h1, h2, fun w => by simp [Instr.field, run_underlying ht, hf, asAgg, h3]⟩
    · cases h
  · cases h

theorem indexAddrK_ok {t : TypeId} {x ix : AV} {x' ix' : Value} (h : indexAddrK E.P t x ix k = some r) (hx : VRel G ι x x') (hi : VRel G ι ix ix') :
    ∃ v v', k v = some r ∧ VRel G ι v v' ∧ ∀ w, (Instr.indexAt t x' ix').run E.P w = .ok v' w := by
  unfold indexAddrK at h
  split at h
  · rename_i len e i off kd n ht
    obtain ⟨hc, h⟩ := chk_some h
    simp at hc
    rw [hi.int_inv]
    cases hs : szOf E.P e == 0
    · rename_i h'; clear h'
      simp only [hs, cond_false] at h
      cases hx with
      | ptr hι =>
        exact ⟨_, _, h, .ptr hι, fun w => by
          simp [Instr.indexAt, asIntOf, run_underlying ht, Instr.sureAddr, hc.1, hc.2, szOf_run hs, Addr.add_lit]⟩
    · simp [hs] at h
  · rename_i len e cs off kd n ht
    obtain ⟨hc, h⟩ := chk_some h
    simp at hc
    rw [hi.int_inv]
    cases hs : szOf E.P e == 0
    · simp only [hs, cond_false] at h
      cases hx with
      | cptr vf hg hv =>
        exact ⟨_, _, h, .cptr vf hg hv, fun w => by
          simp [Instr.indexAt, asIntOf, run_underlying ht, Instr.sureAddr, hc.1, hc.2, szOf_run hs, Addr.add_lit, Nat.add_assoc]⟩
    · simp [hs] at h
  · rename_i e i off len sz kd n ht
    obtain ⟨hc, h⟩ := chk_some h
    simp at hc
    rw [hi.int_inv]
    cases hs : szOf E.P e == 0
    · simp only [hs, cond_false] at h
      cases hx with
      | sref hι _ _ =>
        exact ⟨_, _, h, .ptr hι, fun w => by
          simp [Instr.indexAt, asIntOf, run_underlying ht, hc.1, hc.2, szOf_run hs, Addr.add_lit]⟩
    · simp [hs] at h
  · rename_i e cs len full kd n ht
    obtain ⟨hc, h⟩ := chk_some h
    simp at hc
    rw [hi.int_inv]
    cases hs : szOf E.P e == 0
    · simp only [hs, cond_false] at h
      cases hx with
      | svalNil => exact absurd hc.2 (by simp; omega)
      | sval vf hg hv _ _ =>
        exact ⟨_, _, h, .cptr vf hg hv, fun w => by
          simp [Instr.indexAt, asIntOf, run_underlying ht, hc.1, hc.2, szOf_run hs, Addr.add_lit]⟩
    · simp [hs] at h
  · cases h

theorem indexK_ok {t : TypeId} {x ix : AV} {x' ix' : Value} (h : indexK E.P t x ix k = some r) (hx : VRel G ι x x') (hi : VRel G ι ix ix') :
    ∃ v v', k v = some r ∧ VRel G ι v v' ∧ ∀ w, (Instr.index t x' ix').run E.P w = .ok v' w := by
  unfold indexK at h
  split at h
  · rename_i len e cs kd n ht
    obtain ⟨hc, h⟩ := chk_some h
    simp at hc
    rw [hi.int_inv]
    cases hs : szOf E.P e == 0
    · simp only [hs, cond_false] at h
      obtain ⟨vs, rfl, hl⟩ := hx.agg_inv
      obtain ⟨v, v', h1, h2, h3⟩ := readK_part h hl
      exact ⟨v, v', h1, h2, fun w => by simp [Instr.index, asIntOf, run_underlying ht, hc.1, hc.2, szOf_run hs, h3]⟩
    · simp [hs] at h
  · rename_i s kd n ht
    obtain ⟨hc, h⟩ := chk_some h
    simp at hc
    rw [hi.int_inv, hx.str_inv]
    have hlt : n.toNat < s.size := by omega
    refine ⟨_, _, h, .int _ _, fun w => ?_⟩
    have hb : s[n.toNat]? = some (s[n.toNat]'hlt) := by simp [hlt]
    have he : bt s n = ((s[n.toNat]'hlt).toNat : Int) := by
      unfold bt
      have hlt' : n.toNat < s.data.size := hlt
      rw [Array.getD_eq_getD_getElem?, Array.getElem?_eq_getElem hlt']
      rfl
    simp [Instr.index, asIntOf, run_underlying ht, hc.1, hb, he]
  · cases h

theorem lenK_ok {t ty : TypeId} {x : AV} {x' : Value} (h : lenK E.P t x k = some r) (hx : VRel G ι x x') (ts : Array TypeId) (xs : Array Value) (h1 : ts[0]? = some t) (h2 : xs[0]? = some x') :
    ∃ v v', k v = some r ∧ VRel G ι v v' ∧ ∀ w, (Builtin.len_ ts ty xs).run E.P w = .ok v' w := by
  unfold lenK at h
  split at h
  · rename_i s ht
    rw [hx.str_inv] at h2
    exact ⟨_, _, h, .int _ _, fun w => by simp [Builtin.len_, h1, h2, run_underlying ht, goInt]⟩
  · rename_i n e ht
    exact ⟨_, _, h, .int _ _, fun w => by simp [Builtin.len_, h1, h2, run_underlying ht, goInt]⟩
  · rename_i e i off n sz ht
    cases hx with
    | sref _ _ _ => exact ⟨_, _, h, .int _ _, fun w => by simp [Builtin.len_, h1, h2, run_underlying ht, goInt]⟩
  · rename_i e cs n full ht
    cases hx with
    | svalNil => exact ⟨_, _, h, .int _ _, fun w => by simp [Builtin.len_, h1, h2, run_underlying ht, goInt]⟩
    | sval _ _ _ _ _ => exact ⟨_, _, h, .int _ _, fun w => by simp [Builtin.len_, h1, h2, run_underlying ht, goInt]⟩
  · rename_i e ht
    cases hx
    exact ⟨_, _, h, .int _ _, fun w => by simp [Builtin.len_, h1, h2, run_underlying ht, goInt]⟩
  · cases h

theorem loadX_ok {X : Nat → Prop} {objs : List AObj} {w0 : World} {t : TypeId} {x : AV} {x' : Value} (h : loadK E.P objs t x k = some r) (hx : VRel G ι x x') (hR : Rel E G ι objs w0) (hX : NoX X G ι objs) :
    ∃ v v', k v = some r ∧ VRel G ι v v' ∧ ∀ w, AgreeX X w0 w → (Instr.loadAt t x').run E.P w = .ok v' w := by
  unfold loadK at h
  split at h
  · rename_i cs off hm
    obtain ⟨B, o, rfl, hs, hn⟩ := mem_ok hm hx hR
    obtain ⟨v, v', h1, h2, h3⟩ := readK_load h hs (hn X hX)
    exact ⟨v, v', h1, h2, fun w hw => by simp [Instr.loadAt, Instr.sureAddr, h3 w hw]⟩
  · cases h

/-- **An operation that leaves memory alone.** -/
theorem quietX_ok {X : Nat → Prop} {objs : List AObj} {w0 : World} {o : Oper} {ρ : Operand → AV} {ρ' : Operand → Value} (h : quietK E.P objs ρ o.op k = some r)
    (hρ : ∀ x, VRel G ι (ρ x) (ρ' x)) (hR : Rel E G ι objs w0) (hX : NoX X G ι objs) :
    ∃ v v', k v = some r ∧ VRel G ι v v' ∧ ∀ w, AgreeX X w0 w → (execOp ρ' o).run E.P w = .ok (.value v') w := by
  have lift : ∀ (s : Sem Value), (∃ v v', k v = some r ∧ VRel G ι v v' ∧ ∀ w, s.run E.P w = .ok v' w) → (∀ w, (execOp ρ' o).run E.P w = (s >>= fun v => pure (Next.value v)).run E.P w) →
      ∃ v v', k v = some r ∧ VRel G ι v v' ∧ ∀ w, AgreeX X w0 w → (execOp ρ' o).run E.P w = .ok (.value v') w := fun s ⟨v, v', h1, h2, h3⟩ he =>
    ⟨v, v', h1, h2, fun w _ => by rw [he]; simp [h3]⟩
  unfold quietK at h
  split at h
  · rename_i x ho; exact ⟨_, _, h, hρ x, fun w _ => by simp [execOp, ho]⟩
  · rename_i x ho; exact ⟨_, _, h, hρ x, fun w _ => by simp [execOp, ho]⟩
  · rename_i c a b ho
    split at h
    · rename_i t hc
      have hc' := hρ c
      rw [hc] at hc'
      have hc2 := hc'.bool_inv
      refine ⟨_, (if t then ρ' a else ρ' b), h, ?_, fun w _ => by cases t <;> simp [execOp, ho, hc2, asBool]⟩
      have ha := hρ a
      have hb := hρ b
      unfold pickA
      split
      · rename_i x y e1 e2
        rw [e1] at ha; rw [e2] at hb
        rw [ha.bool_inv, hb.bool_inv]
        cases t <;> exact .bool _
      · cases t
        · exact hb
        · exact ha
    · cases h
  · rename_i x ho
    have hx := hρ x
    split at h
    · rename_i i off he
      rw [he] at hx
      cases hv : ρ' x with
      | pointer a =>
        rw [hv] at hx
        cases hx with
        | ptr hι => exact ⟨_, _, h, .ptr hι, fun w _ => by simp [execOp, ho, hv]⟩
      | _ => rw [hv] at hx; cases hx
    · rename_i cs off he
      rw [he] at hx
      cases hv : ρ' x with
      | pointer a =>
        rw [hv] at hx
        cases hx with
        | cptr vf hg hvv => exact ⟨_, _, h, .cptr vf hg hvv, fun w _ => by simp [execOp, ho, hv]⟩
      | _ => rw [hv] at hx; cases hx
    · rename_i f a b he
      rw [he] at hx
      cases hv : ρ' x with
      | func fn us vs =>
        rw [hv] at hx
        cases hx with
        | fn h1 h2 h3 h4 => exact ⟨_, _, h, .fn h1 h2 h3 h4, fun w _ => by simp [execOp, ho, hv]⟩
      | _ => rw [hv] at hx; cases hx
    · cases h
  · rename_i x i ho
    have hx := hρ x
    split at h
    · rename_i vs he
      rw [he] at hx
      obtain ⟨us, hu, hl⟩ := hx.tup_inv
      split at h
      · rename_i v hv
        obtain ⟨u, hu2, hr⟩ := hl.get hv
        have hu3 : us[i]? = some u := by simpa using hu2
        exact ⟨_, _, h, hr, fun w _ => by simp [execOp, ho, hu, Instr.extract, hu3]⟩
      · cases h
    · cases h
  · rename_i f first cap ho
    refine ⟨_, .func f (first.map ρ') (cap.map ρ'), h, ?_, fun w _ => by simp [execOp, ho, Instr.makeFunc]⟩
    have h1 := cell_slot hρ first
    have h2 := cell_slot hρ cap
    exact .fn (by simp) (fun i a v e1 e2 => h1.2 i a v e1 (by simpa using e2)) (by simp) (fun i a v e1 e2 => h2.2 i a v e1 (by simpa using e2))
  · rename_i t x ho
    split at h
    · cases h
    · cases h
    · rename_i d hd ht
      refine ⟨_, _, h, .iface t (hρ x), fun w _ => ?_⟩
      have : (Instr.makeInterface t (ρ' x)).run E.P w = .ok (.iface t (ρ' x)) w := by
        cases d <;> first | (exact absurd rfl (hd _)) | simp [Instr.makeInterface, run_underlying ht]
      simp [execOp, ho, this]
  · rename_i op t x y yt ho
    exact lift _ (binK_ok h (hρ x) (hρ y)) (fun w => by simp [execOp, ho])
  · rename_i op t x ho
    exact lift _ (unK_ok h (hρ x)) (fun w => by simp [execOp, ho])
  · rename_i s d x ho
    exact lift _ (convK_ok h (hρ x)) (fun w => by simp [execOp, ho])
  · rename_i t x lo hi mx ho
    exact lift _ (sliceK_ok h hR (hρ x) (ORelO_map hρ lo) (ORelO_map hρ hi) (ORelO_map hρ mx)) (fun w => by simp [execOp, ho])
  · rename_i s x f ho
    exact lift _ (fieldAddrK_ok h (hρ x)) (fun w => by simp [execOp, ho])
  · rename_i s x f ho
    exact lift _ (fieldK_ok h (hρ x)) (fun w => by simp [execOp, ho])
  · rename_i s x f ho
    exact lift _ (indexAddrK_ok h (hρ x) (hρ f)) (fun w => by simp [execOp, ho])
  · rename_i s x f ho
    exact lift _ (indexK_ok h (hρ x) (hρ f)) (fun w => by simp [execOp, ho])
  · rename_i t x ho
    obtain ⟨v, v', h1, h2, h3⟩ := loadX_ok h (hρ x) hR hX
    exact ⟨v, v', h1, h2, fun w hw => by simp [execOp, ho, h3 w hw]⟩
  · rename_i args ts ho
    split at h
    · rename_i x t hx ht
      obtain ⟨v, v', h1, h2, h3⟩ := lenK_ok (ty := o.type) h (hρ x) ts (args.map ρ') ht (by simp [hx])
      exact ⟨v, v', h1, h2, fun w _ => by simp [execOp, ho, resolve, invoke, builtin, h3]⟩
    · cases h
  · cases h
end
end Go.Ab
end

section
namespace Go.Ab
open Go
section
variable {E : Env} {G : Gh} {ι : Inj} {objs : List AObj} {w : World}

theorem Rel.of_heap {w' : World} (h : Rel E G ι objs w) (hh : w'.heap = w.heap) : Rel E G ι objs w' := by
  have hc : ∀ a, w'.cell? a = w.cell? a := fun a => by simp [World.cell?, hh]
  refine ⟨fun b o v e => by rw [hc]; exact h.stays b o v e, fun i o hi hl => ?_, h.inj, h.fresh, by rw [hh]; exact h.glob, by rw [hh]; exact h.size⟩
  obtain ⟨B, C, h1, h2, h3, h4⟩ := h.obj i o hi hl
  refine ⟨B, C, h1, h2, by rw [hh]; exact h3, ?_⟩
  cases o <;> simp only [ORel, hh] at h4 ⊢ <;> exact h4

theorem Rel.unsealed_new (h : Rel E G ι objs w) {B : Nat} (hB : w.heap.size ≤ B) (o : Nat) : G B o = none := by
  cases hg : G B o with
  | none => rfl
  | some v =>
    have := block_lt_of_cell (h.stays B o v hg)
    simp at this; omega

def Inj.add (ι : Inj) (n : Nat) (e : Nat × Nat) : Inj := fun i => if i = n then some e else ι i
theorem Inj.add_le {n : Nat} (hn : ι n = none) (e : Nat × Nat) : ι.le (ι.add n e) := fun i x h => by
  unfold Inj.add
  split
  · subst_vars; rw [hn] at h; cases h
  · exact h
theorem Inj.add_self (n : Nat) (e : Nat × Nat) : (ι.add n e) n = some e := by simp [Inj.add]

theorem ORel.lift {ι' : Inj} {w' : World} {B C : Nat} {o : AObj} (h : ORel G ι w B C o) (hi : ι.le ι') (hb : w'.heap[B]? = w.heap[B]?) : ORel G ι' w' B C o := by
  cases o with
  | cells flat cs =>
    obtain ⟨⟨c, e, lo, hi1, h1, h2, h3, h4⟩, h5⟩ := h
    refine ⟨⟨c, e, lo, hi1, by rw [hb]; exact h1, h2, h3, ?_⟩, h5⟩
    cases flat
    · exact LRel.mono (by simpa using h4) (Gh.le_refl _) hi
    · simpa using h4
  | map flat es =>
    obtain ⟨ents, clock, h1, h2, h3⟩ := h
    refine ⟨ents, clock, by rw [hb]; exact h1, h2, fun i e x he hx => ?_⟩
    have := h3 i e x he hx
    cases flat
    · exact ⟨this.1.monoι hi, this.2.monoι hi⟩
    · exact this
  | iter s pos => simp only [ORel] at h ⊢; rw [hb]; exact h
  | dead => trivial

theorem heap_lt {w : World} {b : Nat} {x : Obj} (h : w.heap[b]? = some x) : b < w.heap.size := by
  rcases Nat.lt_or_ge b w.heap.size with h' | h'
  · exact h'
  · simp [Array.getElem?_eq_none h'] at h

/-- A new object in a new block. -/
theorem Rel.add (h : Rel E G ι objs w) (X : Obj) (o : AObj) (C : Nat)
    (hX : ORel G (ι.add objs.length (w.heap.size, C)) (w.alloc X) w.heap.size C o) :
    Rel E G (ι.add objs.length (w.heap.size, C)) (objs ++ [o]) (w.alloc X) ∧
    Ext (LiveB ι objs) G ι w G (ι.add objs.length (w.heap.size, C)) (objs ++ [o]) (w.alloc X) := by
  have hn : ι objs.length = none := h.fresh _ (Nat.le_refl _)
  have hle := Inj.add_le hn (w.heap.size, C)
  have hold : ∀ b, b < w.heap.size → (w.alloc X).heap[b]? = w.heap[b]? := fun b hb => heap_alloc_old w X b hb
  have hget : ∀ (i : Nat) (p : AObj), (objs ++ [o])[i]? = some p → (i < objs.length ∧ objs[i]? = some p) ∨ (i = objs.length ∧ p = o) := fun i p hi => by
    rw [List.getElem?_append] at hi
    split at hi
    · rename_i hlt; exact .inl ⟨hlt, hi⟩
    · rename_i hlt
      have : i - objs.length = 0 := by
        rcases Nat.eq_zero_or_pos (i - objs.length) with h0 | h0
        · exact h0
        · have : [o][i - objs.length]? = none := by simp; omega
          rw [this] at hi; cases hi
      rw [this] at hi
      exact .inr ⟨by omega, by simpa using hi.symm⟩
  have holdι : ∀ i, i < objs.length → (ι.add objs.length (w.heap.size, C)) i = ι i := fun i hi => by
    unfold Inj.add; rw [if_neg (by omega)]
  have hliveB : ∀ b, b < w.heap.size → LiveB (ι.add objs.length (w.heap.size, C)) (objs ++ [o]) b → LiveB ι objs b := by
    rintro b hb ⟨i, p, D, hi, hl, hι⟩
    rcases hget i p hi with ⟨hlt, hi'⟩ | ⟨rfl, rfl⟩
    · rw [holdι i hlt] at hι; exact ⟨i, p, D, hi', hl, hι⟩
    · rw [Inj.add_self] at hι; simp at hι; omega
  refine ⟨⟨fun b o' v hg => ?_, fun i p hi hl => ?_, fun i j p q B C1 C2 hi hlp hj hlq e1 e2 => ?_, fun i hi => ?_, fun b hb => ?_, ?_⟩,
    ⟨rfl, rfl, rfl, by simp, fun b hb _ => hold b hb, Gh.le_refl _, fun _ _ _ _ => rfl, hle, hliveB⟩⟩
  · have := h.stays b o' v hg
    have hlt := block_lt_of_cell this
    rw [World.cell?_alloc_lt w X ⟨b, o', none⟩ hlt]; exact this
  · rcases hget i p hi with ⟨hlt, hi'⟩ | ⟨rfl, rfl⟩
    · obtain ⟨B, D, h1, h2, h3, h4⟩ := h.obj i p hi' hl
      exact ⟨B, D, by rw [holdι i hlt]; exact h1, h2, by simp; omega, h4.lift hle (hold B h3)⟩
    · exact ⟨w.heap.size, C, Inj.add_self _ _, h.size, by simp, hX⟩
  · rcases hget i p hi with ⟨hlt, hi'⟩ | ⟨rfl, rfl⟩ <;> rcases hget j q hj with ⟨hlt2, hj'⟩ | ⟨rfl, rfl⟩
    · rw [holdι i hlt] at e1; rw [holdι j hlt2] at e2; exact h.inj i j p q B C1 C2 hi' hlp hj' hlq e1 e2
    · rw [holdι i hlt] at e1; rw [Inj.add_self] at e2
      obtain ⟨B', D', g1, _, g3, _⟩ := h.obj i p hi' hlp
      rw [e1] at g1; simp at g1 e2; omega
    · rw [holdι j hlt2] at e2; rw [Inj.add_self] at e1
      obtain ⟨B', D', g1, _, g3, _⟩ := h.obj j q hj' hlq
      rw [e2] at g1; simp at g1 e1; omega
    · rfl
  · simp at hi
    unfold Inj.add
    rw [if_neg (by omega)]; exact h.fresh i (by omega)
  · rw [hold b (Nat.lt_of_lt_of_le hb h.size)]; exact h.glob b hb
  · simp; have := h.size; omega

theorem AV.cells_rel {a : AV} {v : Value} (h : VRel G ι a v) (ha : a ≠ .undef) : LRel G ι a.cells v.cells.toList := by
  cases a with
  | undef => exact absurd rfl ha
  | agg cs => obtain ⟨vs, rfl, hl⟩ := h.agg_inv; simpa [AV.cells, Value.cells] using hl
  | _ =>
    have hv : v.cells = #[v] := by cases h <;> rfl
    rw [hv]
    exact LRel.cons h LRel.nil

theorem closed_rel_aux {a : AV} {v : Value} (h : VRel G ι a v) : (closed a = true → VRel G noInj a v) := by
  have hL : ∀ (cs : List AV), closedL cs = true → ∀ a ∈ cs, closed a = true := by
    intro cs
    induction cs with
    | nil => intro _ a ha; cases ha
    | cons b bs ih =>
      intro h a ha
      simp only [closedL, Bool.and_eq_true] at h
      cases ha with
      | head => exact h.1
      | tail _ ha => exact ih h.2 a ha
  induction h with
  | agg hl _ ih => intro hc; exact .agg hl fun i a v h1 h2 => ih i a v h1 h2 (hL _ (by simpa [closed] using hc) a (List.mem_of_getElem? h1))
  | tup hl _ ih => intro hc; exact .tup hl fun i a v h1 h2 => ih i a v h1 h2 (hL _ (by simpa [closed] using hc) a (List.mem_of_getElem? h1))
  | fn hx _ hy _ ih1 ih2 =>
    intro hc
    simp only [closed, Bool.and_eq_true] at hc
    exact .fn hx (fun i a v h1 h2 => ih1 i a v h1 h2 (hL _ hc.1 a (List.mem_of_getElem? h1))) hy (fun i a v h1 h2 => ih2 i a v h1 h2 (hL _ hc.2 a (List.mem_of_getElem? h1)))
  | iface t _ ih => intro hc; exact .iface t (ih (by simpa [closed] using hc))
  | cptr vf hg h _ => intro _; exact .cptr vf hg h
  | sval vf hg h hf hl _ => intro _; exact .sval vf hg h hf hl
  | ptr _ => intro hc; simp [closed] at hc
  | sref _ _ _ => intro hc; simp [closed] at hc
  | map _ => intro hc; simp [closed] at hc
  | _ => intro _; constructor

theorem closedL_mem : ∀ {cs : List AV}, closedL cs = true → ∀ a ∈ cs, closed a = true
  | [], _, _, ha => by cases ha
  | b :: bs, h, a, ha => by
    simp only [closedL, Bool.and_eq_true] at h
    cases ha with
    | head => exact h.1
    | tail _ ha => exact closedL_mem h.2 a ha

theorem LRel.closed {cs : List AV} {vs : List Value} (h : LRel G ι cs vs) (hc : closedL cs = true) : LRel G noInj cs vs :=
  ⟨h.1, fun i a v h1 h2 => closed_rel_aux (h.2 i a v h1 h2) (closedL_mem hc a (List.mem_of_getElem? h1))⟩

theorem LRel.flat {cs : List AV} {vs : List Value} (h : LRel G ι cs vs) {ι' : Inj} (hi : ι.le ι') : LRel G (if closedL cs then noInj else ι') cs vs := by
  cases hc : closedL cs
  · simpa using h.mono (Gh.le_refl _) hi
  · simpa using h.closed hc

/-- A row of cells as a new object. -/
theorem Rel.addCells (h : Rel E G ι objs w) (cs : List AV) (vs : Array Value) (e : TypeId) (hl : LRel G ι cs vs.toList) :
    ∃ ι', Rel E G ι' (objs ++ [.cells (closedL cs) cs]) (w.alloc (.cells vs e)) ∧ Ext (LiveB ι objs) G ι w G ι' (objs ++ [.cells (closedL cs) cs]) (w.alloc (.cells vs e)) ∧
      ι' objs.length = some (w.heap.size, vs.size) := by
  have hn : ι objs.length = none := h.fresh _ (Nat.le_refl _)
  refine ⟨ι.add objs.length (w.heap.size, vs.size), ?_⟩
  have := h.add (.cells vs e) (.cells (closedL cs) cs) vs.size (by
    refine ⟨⟨vs, e, 0, 0, heap_alloc_new w _, rfl, .inl (Nat.le_refl _), ?_⟩, fun o => h.unsealed_new (Nat.le_refl _) o⟩
    have e1 : vs.toList.take cs.length = vs.toList := List.take_of_length_le (by rw [hl.1]; exact Nat.le_refl _)
    rw [e1]
    exact hl.flat (Inj.add_le hn _))
  exact ⟨this.1, this.2, Inj.add_self _ _⟩
end
end Go.Ab
end

section
namespace Go.Ab
open Go

def setL (cs : List AV) (off : Nat) : List AV → List AV
  | [] => cs
  | v :: vs => setL (cs.set off v) (off + 1) vs
def setA (c : Array Value) (off : Nat) : List Value → Array Value
  | [] => c
  | v :: vs => setA (c.setIfInBounds off v) (off + 1) vs

theorem setA_size : ∀ (vs : List Value) (c : Array Value) (off : Nat), (setA c off vs).size = c.size
  | [], _, _ => rfl
  | v :: vs, c, off => by rw [setA, setA_size vs]; simp
theorem setL_length : ∀ (vs : List AV) (c : List AV) (off : Nat), (setL c off vs).length = c.length
  | [], _, _ => rfl
  | v :: vs, c, off => by rw [setL, setL_length vs]; simp

/-- A value that one cell holds, for sure. -/
def oneA : AV → Bool
  | .agg _ | .tup _ | .undef => false
  | _ => true
theorem oneA_one {G : Gh} {ι : Inj} {a : AV} {v : Value} (h : VRel G ι a v) (ho : oneA a = true) : v.oneCell' = true := by
  cases h <;> first | rfl | (simp [oneA] at ho)

section
variable {E : Env} {G : Gh} {ι : Inj} {objs : List AObj} {w : World}

theorem setL_rel {ι : Inj} : ∀ (as : List AV) (vs : List Value) (cs : List AV) (c : Array Value) (off n : Nat), LRel G ι as vs → LRel G ι cs (c.toList.take n) → off + as.length ≤ n →
    LRel G ι (setL cs off as) ((setA c off vs).toList.take n)
  | [], [], cs, c, off, n, _, h, _ => h
  | a :: as, v :: vs, cs, c, off, n, ha, h, hn => by
    simp only [setL, setA]
    have h1 : VRel G ι a v := ha.2 0 a v rfl rfl
    have h2 : LRel G ι as vs := ⟨by have := ha.1; simpa using this, fun i a v e1 e2 => ha.2 (i + 1) a v (by simpa using e1) (by simpa using e2)⟩
    simp only [List.length_cons] at hn
    refine setL_rel as vs _ _ (off + 1) n h2 ?_ (by omega)
    have e : (c.setIfInBounds off v).toList.take n = (c.toList.take n).set off v := by
      rw [Array.toList_setIfInBounds, List.take_set]
    rw [e]
    exact h.set off h1
  | [], v :: vs, _, _, _, _, ha, _, _ => by have := ha.1; simp at this
  | a :: as, [], _, _, _, _, ha, _, _ => by have := ha.1; simp at this

theorem heap_setCells (b : Nat) : ∀ (vs : List Value) (off : Nat) (w : World) (c : Array Value) (e : TypeId) (fz : Nat × Nat), w.heap[b]? = some (.cells c e fz) →
    (w.setCells b off vs).heap[b]? = some (.cells (setA c off vs) e fz)
  | [], _, _, _, _, _, h => h
  | v :: vs, off, w, c, e, fz, h => by
    simp only [World.setCells, setA]
    refine heap_setCells b vs (off + 1) _ _ e fz ?_
    simp only [World.setCell, Array.getElem?_modify, if_true, h, Option.map_some]
    rfl
theorem heap_setCells_other (b k : Nat) (hk : k ≠ b) : ∀ (vs : List Value) (off : Nat) (w : World), (w.setCells b off vs).heap[k]? = w.heap[k]?
  | [], _, _ => rfl
  | v :: vs, off, w => by
    simp only [World.setCells]
    rw [heap_setCells_other b k hk vs, heap_setCell_other _ _ _ _ hk]
theorem size_setCells (b : Nat) : ∀ (vs : List Value) (off : Nat) (w : World), (w.setCells b off vs).heap.size = w.heap.size
  | [], _, _ => rfl
  | v :: vs, off, w => by simp only [World.setCells]; rw [size_setCells b vs]; simp
theorem os_setCells (b : Nat) : ∀ (vs : List Value) (off : Nat) (w : World), (w.setCells b off vs).os = w.os ∧ (w.setCells b off vs).tape = w.tape ∧ (w.setCells b off vs).output = w.output
  | [], _, _ => ⟨rfl, rfl, rfl⟩
  | v :: vs, off, w => by simp only [World.setCells]; exact os_setCells b vs (off + 1) _

/-- An object's block turns, all others stay. -/
theorem Rel.setObj {w' : World} (h : Rel E G ι objs w) {i B C : Nat} {o o' : AObj} (hi : objs[i]? = some o) (hl : o.live = true) (hι : ι i = some (B, C))
    (hu : ∀ x, G B x = none) (hother : ∀ b, b ≠ B → w'.heap[b]? = w.heap[b]?) (hsize : w'.heap.size = w.heap.size) (hos : w'.os = w.os ∧ w'.tape = w.tape ∧ w'.output = w.output)
    (ho : o'.live = true → ORel G ι w' B C o') :
    Rel E G ι (objs.set i o') w' ∧ Ext (LiveB ι objs) G ι w G ι (objs.set i o') w' := by
  obtain ⟨B', C', g1, g2, g3, g4⟩ := h.obj i o hi hl
  rw [hι] at g1; simp at g1; obtain ⟨rfl, rfl⟩ := g1
  have hilt : i < objs.length := by
    rcases Nat.lt_or_ge i objs.length with h' | h'
    · exact h'
    · simp [List.getElem?_eq_none h'] at hi
  have hget : ∀ (j : Nat) (p : AObj), (objs.set i o')[j]? = some p → (j ≠ i ∧ objs[j]? = some p) ∨ (j = i ∧ p = o') := fun j p hj => by
    rw [List.getElem?_set] at hj
    split at hj
    · rename_i e; subst e; exact .inr ⟨rfl, by simpa using hj.symm⟩
    · rename_i e; exact .inl ⟨fun e' => e e'.symm, hj⟩
  have hback : ∀ (j : Nat) (p : AObj), (objs.set i o')[j]? = some p → p.live = true → ∃ q, objs[j]? = some q ∧ q.live = true := fun j p hj hp => by
    rcases hget j p hj with ⟨_, hj'⟩ | ⟨rfl, rfl⟩
    · exact ⟨p, hj', hp⟩
    · exact ⟨o, hi, hl⟩
  refine ⟨⟨fun b x v hg => ?_, fun j p hj hp => ?_, fun j k p q D C1 C2 hj hp hk hq e1 e2 => ?_, fun j hj => h.fresh j (by simpa using hj), fun b hb => ?_, by rw [hsize]; exact h.size⟩,
    ⟨hos.1, hos.2.1, hos.2.2, by omega, fun b hb hL => hother b fun e => hL (by subst e; exact ⟨i, o, _, hi, hl, hι⟩), Gh.le_refl _, fun _ _ _ _ => rfl, Inj.le_refl _, ?_⟩⟩
  · have hb : b ≠ B := fun e => by subst e; rw [hu] at hg; cases hg
    rw [World.cell?_of_block (w := w) (hother b hb)]; exact h.stays b x v hg
  · rcases hget j p hj with ⟨hne, hj'⟩ | ⟨rfl, rfl⟩
    · obtain ⟨D, F, f1, f2, f3, f4⟩ := h.obj j p hj' hp
      have hD : D ≠ B := fun e => by subst e; exact hne (h.inj j i p o D F C hj' hp hi hl f1 hι)
      exact ⟨D, F, f1, f2, by omega, f4.lift (Inj.le_refl _) (hother D hD)⟩
    · exact ⟨B, C, hι, g2, by omega, ho hp⟩
  · obtain ⟨p', hj', hp'⟩ := hback j p hj hp
    obtain ⟨q', hk', hq'⟩ := hback k q hk hq
    exact h.inj j k p' q' D C1 C2 hj' hp' hk' hq' e1 e2
  · have hb' : b ≠ B := by omega
    rw [hother b hb']; exact h.glob b hb
  · rintro b hb ⟨j, p, D, hj, hp, e⟩
    obtain ⟨p', hj', hp'⟩ := hback j p hj hp
    exact ⟨j, p', D, hj', hp', e⟩

/-- A store of some cells into an object. -/
theorem Rel.store (h : Rel E G ι objs w) {i off : Nat} {flat : Bool} {cs as : List AV} {vs : List Value} {B C : Nat} (hi : objs[i]? = some (.cells flat cs)) (hι : ι i = some (B, C))
    (hv : LRel G ι as vs) (hone : ∀ a ∈ as, oneA a = true) (hoff : off + as.length ≤ cs.length) :
    (storeCells ⟨B, off, none⟩ vs).run E.P w = .ok () (w.setCells B off vs) ∧
    Rel E G ι (objs.set i (.cells (flat && closedL as) (setL cs off as))) (w.setCells B off vs) ∧
    Ext (LiveB ι objs) G ι w G ι (objs.set i (.cells (flat && closedL as) (setL cs off as))) (w.setCells B off vs) := by
  obtain ⟨B', C', g1, g2, g3, g4⟩ := h.obj i _ hi rfl
  rw [hι] at g1; simp at g1; obtain ⟨rfl, rfl⟩ := g1
  obtain ⟨⟨c, e, lo, hi1, hb, hC, hfz, hl⟩, hu⟩ := g4
  have hlen : cs.length ≤ c.size := by have := hl.1; simp at this; omega
  have hvl : vs.length = as.length := hv.1.symm
  refine ⟨?_, ?_⟩
  · have := run_storeCells_cells (P := E.P) B off vs 0 w (fun j hj => by
        have : off + 0 + j < c.size := by omega
        simp [World.cell?, hb]; omega) (fun j hj => by
        simp [World.frozen?, hb]; omega) (fun v hm => by
        obtain ⟨j, hj, hjv⟩ := List.mem_iff_getElem.1 hm
        have hja : j < as.length := by omega
        exact oneA_one (hv.2 j as[j] v (List.getElem?_eq_getElem hja) (by rw [List.getElem?_eq_getElem hj, hjv])) (hone _ (List.getElem_mem hja)))
    simpa using this
  · refine h.setObj (o := .cells flat cs) hi rfl hι hu (fun b hb' => heap_setCells_other B b hb' vs off w) (size_setCells B vs off w) (os_setCells B vs off w) fun _ => ?_
    refine ⟨⟨_, e, lo, hi1, heap_setCells B vs off w c e (lo, hi1) hb, by rw [setA_size]; exact hC, hfz, ?_⟩, hu⟩
    rw [setL_length]
    cases flat
    · simp only [Bool.false_and, Bool.false_eq_true, if_false] at hl ⊢
      exact setL_rel as vs cs c off cs.length hv (by simpa using hl) hoff
    · cases hcl : closedL as
      · simp only [Bool.and_false, Bool.false_eq_true, if_false, if_true] at hl ⊢
        exact setL_rel as vs cs c off cs.length hv (hl.mono (Gh.le_refl _) (noInj_le ι)) hoff
      · simp only [Bool.and_self, if_true] at hl ⊢
        exact setL_rel as vs cs c off cs.length (hv.closed hcl) hl hoff
end
end Go.Ab
end

section
namespace Go.Ab
open Go

def fillA (place : Nat → Option (Nat × Nat)) (cs : List AV) : List (Nat × AV) → Option (List AV)
  | [] => some cs
  | (i, v) :: rest =>
    match place i with
    | none => none
    | some (off, size) => bif v.cells.length == size && decide (off + v.cells.length ≤ cs.length) && oneOrAgg v then fillA place (setL cs off v.cells) rest else none
where oneOrAgg : AV → Bool
  | .undef => false
  | _ => true

theorem foldl_setA (vs : List Value) : ∀ (c : Array Value) (off j : Nat), ((vs.zipIdx j).foldl (fun cs (x : Value × Nat) => cs.setIfInBounds (off + x.2) x.1) c) = setA c (off + j) vs := by
  induction vs with
  | nil => intro c off j; rfl
  | cons v vs ih => intro c off j; simp only [List.zipIdx_cons, List.foldl_cons, setA]; rw [ih]; rfl

section
variable {E : Env} {G : Gh} {ι : Inj}

def PRel (G : Gh) (ι : Inj) : List (Nat × AV) → List (Nat × Value) → Prop
  | [], [] => True
  | a :: as, v :: vs => a.1 = v.1 ∧ VRel G ι a.2 v.2 ∧ PRel G ι as vs
  | _, _ => False

theorem fillA_ok (place : Nat → Option (Nat × Nat)) : ∀ (ps : List (Nat × AV)) (qs : List (Nat × Value)) (cs cs' : List AV) (c : Array Value), PRel G ι ps qs → LRel G ι cs c.toList →
    fillA place cs ps = some cs' → ∃ c', Instr.fill place c qs = some c' ∧ LRel G ι cs' c'.toList
  | [], [], cs, cs', c, _, hl, h => by simp [fillA] at h; subst h; exact ⟨c, rfl, hl⟩
  | (i, v) :: ps, (i', u) :: qs, cs, cs', c, hp, hl, h => by
    obtain ⟨h1, h2, h3⟩ := hp
    simp only at h1 h2; subst h1
    simp only [fillA] at h
    simp only [Instr.fill]
    split at h
    · cases h
    · rename_i off size hpl
      cases hb : (v.cells.length == size && decide (off + v.cells.length ≤ cs.length) && fillA.oneOrAgg v)
      · simp [hb] at h
      · simp only [hb, cond_true] at h
        simp only [Bool.and_eq_true, beq_iff_eq, decide_eq_true_eq] at hb
        have hne : v ≠ .undef := fun e => by subst e; simp [fillA.oneOrAgg] at hb
        have hcr := AV.cells_rel h2 hne
        have hlen : v.cells.length = u.cells.size := by simpa using hcr.1
        have hcl : cs.length = c.size := by simpa using hl.1
        simp only [hpl]
        have hno : ¬ (u.cells.size ≠ size ∨ off + u.cells.size > c.size) := by omega
        have hno2 : (decide (u.cells.size ≠ size) || decide (off + u.cells.size > c.size)) = false := by simpa using hno
        rw [if_neg (by simpa using hno)]
        have hfold : (u.cells.zipIdx.foldl (fun cs (x : Value × Nat) => cs.setIfInBounds (off + x.2) x.1) c) = setA c off u.cells.toList := by
          rw [← Array.foldl_toList]
          have := foldl_setA u.cells.toList c off 0
          simpa using this
        rw [hfold]
        refine fillA_ok place ps qs _ cs' _ h3 ?_ h
        have h4 := setL_rel v.cells u.cells.toList cs c off c.size hcr (by simpa [List.take_of_length_le] using hl) (by omega)
        have h5 : (setA c off u.cells.toList).toList.take c.size = (setA c off u.cells.toList).toList :=
          List.take_of_length_le (by rw [Array.length_toList, setA_size]; exact Nat.le_refl _)
        rw [h5] at h4; exact h4
  | [], _ :: _, _, _, _, hp, _, _ => hp.elim
  | _ :: _, [], _, _, _, hp, _, _ => hp.elim

theorem mapM_run {α β : Type} {P : Program} (f : α → Sem β) (g : α → β) (w : World) : ∀ (xs : List α), (∀ x ∈ xs, (f x).run P w = .ok (g x) w) → (xs.mapM f).run P w = .ok (xs.map g) w
  | [], _ => by simp
  | x :: xs, h => by
    rw [List.mapM_cons, Sem.run_bind, h x (by simp)]
    simp only [Result.andThen_ok, Sem.run_bind, mapM_run f g w xs (fun y hy => h y (by simp [hy]))]
    simp
theorem amapM_run {α β : Type} {P : Program} (f : α → Sem β) (g : α → β) (w : World) (xs : Array α) (h : ∀ x ∈ xs, (f x).run P w = .ok (g x) w) : (xs.mapM f).run P w = .ok (xs.map g) w := by
  rw [Array.mapM_eq_mapM_toList, Sem.run_map, mapM_run f g w xs.toList (fun x hx => h x (by simpa using hx))]
  simp only [Result.andThen_ok]
  congr 1
  apply Array.ext'
  simp
end

section
variable {R : Type}
def partsA (ρ : Operand → AV) (ps : Array (Nat × Operand)) : List (Nat × AV) := ps.toList.map fun p => (p.1, ρ p.2)

def buildK (P : Program) (ρ : Operand → AV) (t : TypeId) (ps : Array (Nat × Operand)) (k : AV → Option R) : Option R :=
  match (P.info? t).bind (·.zero), P.underlying t with
  | some z, some (.struct fs) =>
    bif fs.all fun f => (P.info? f.type).isSome then
      match fillA (fun i => (fs[i]?).map fun f => (f.offset, szOf P f.type)) (ofConst z).cells (partsA ρ ps) with
      | some cs => k (.agg cs)
      | none => none
    else none
  | some z, some (.array _ e) =>
    bif (P.info? e).isSome then
      match fillA (fun i => some (i * szOf P e, szOf P e)) (ofConst z).cells (partsA ρ ps) with
      | some cs => k (.agg cs)
      | none => none
    else none
  | _, _ => none
end

theorem partsA_rel {G : Gh} {ι : Inj} {ρ : Operand → AV} {ρ' : Operand → Value} (hρ : ∀ x, VRel G ι (ρ x) (ρ' x)) (ps : Array (Nat × Operand)) :
    PRel G ι (partsA ρ ps) (ps.map fun (i, x) => (i, ρ' x)).toList := by
  unfold partsA
  rw [Array.toList_map]
  generalize ps.toList = l
  induction l with
  | nil => trivial
  | cons p l ih => exact ⟨rfl, hρ _, ih⟩

theorem ofConst_cells {G : Gh} {ι : Inj} {z : Value} {cs : List AV} (h : (ofConst z).cells = cs) (hne : ofConst z ≠ .undef) : LRel G ι cs z.cells.toList := by
  subst h; exact AV.cells_rel (ofConst_rel G ι z) hne

/-- The zero value's cells, as they are known. -/
theorem zero_cells {G : Gh} {ι : Inj} (z : Value) : LRel G ι (ofConst z).cells z.cells.toList := by
  by_cases hne : ofConst z = .undef
  · cases z with
    | agg cs => simp [ofConst] at hne
    | _ =>
      simp only [ofConst] at hne ⊢
      rw [hne]
      exact LRel.cons (.undef _) LRel.nil
  · exact AV.cells_rel (ofConst_rel G ι z) hne

theorem buildK_ok {E : Env} {G : Gh} {ι : Inj} {R : Type} {ρ : Operand → AV} {ρ' : Operand → Value} {t : TypeId} {ps : Array (Nat × Operand)} {k : AV → Option R} {r : R}
    (h : buildK E.P ρ t ps k = some r) (hρ : ∀ x, VRel G ι (ρ x) (ρ' x)) :
    ∃ v v', k v = some r ∧ VRel G ι v v' ∧ ∀ w, (Instr.build t (ps.map fun (i, x) => (i, ρ' x))).run E.P w = .ok v' w := by
  unfold buildK at h
  split at h
  · rename_i z fs hz ht
    obtain ⟨i0, hi0, hz0⟩ := Option.bind_eq_some_iff.1 hz
    cases hb : fs.all fun f => (E.P.info? f.type).isSome
    · simp [hb] at h
    · simp only [hb, cond_true] at h
      split at h
      · rename_i cs hf
        obtain ⟨c', h1, h2⟩ := fillA_ok _ _ _ _ _ _ (partsA_rel hρ ps) (zero_cells z) hf
        refine ⟨_, .agg c', h, VRel.aggL h2, fun w => ?_⟩
        have hm : (fs.mapM fun f => (do pure (f.offset, ← sizeOf f.type) : Sem (Nat × Nat))).run E.P w = .ok (fs.map fun f => (f.offset, szOf E.P f.type)) w := by
          refine amapM_run _ _ w fs fun f hf => ?_
          have := Array.all_eq_true'.1 hb f hf
          obtain ⟨i1, hi1⟩ := Option.isSome_iff_exists.1 this
          simp [sizeOf_eq hi1, szOf, hi1]
        have hfill : (Instr.fill (fun i => (fs.map fun f => (f.offset, szOf E.P f.type))[i]?) z.cells (ps.map fun (i, x) => (i, ρ' x)).toList) = some c' := by
          rw [← h1]
          congr 1
          funext i
          simp
        simp only [Instr.build, Sem.run_bind, zeroValue, typeInfo, run_program, Result.andThen_ok, hi0, Sem.run_pure, hz0, run_underlying ht, hm]
        rw [hfill]; simp
      · cases h
  · rename_i z n e hz ht
    obtain ⟨i0, hi0, hz0⟩ := Option.bind_eq_some_iff.1 hz
    cases hb : (E.P.info? e).isSome
    · simp [hb] at h
    · simp only [hb, cond_true] at h
      obtain ⟨i1, hi1⟩ := Option.isSome_iff_exists.1 hb
      split at h
      · rename_i cs hf
        obtain ⟨c', h1, h2⟩ := fillA_ok _ _ _ _ _ _ (partsA_rel hρ ps) (zero_cells z) hf
        refine ⟨_, .agg c', h, VRel.aggL h2, fun w => ?_⟩
        have hs : szOf E.P e = i1.size := by simp [szOf, hi1]
        rw [hs] at h1
        simp only [Instr.build, Sem.run_bind, zeroValue, typeInfo, run_program, Result.andThen_ok, hi0, Sem.run_pure, hz0, run_underlying ht, sizeOf_eq hi1]
        rw [h1]; simp
      · cases h
  · cases h
end Go.Ab
end

section
namespace Go.Ab
open Go
section
variable {R : Type}

/-- An operation that makes or writes memory: its value, and the objects behind it. -/
def boxK (objs : List AObj) (a : AV) (k : AV → List AObj → Option R) : Option R :=
  match a with
  | .undef => none
  | a => k (.ptr objs.length 0) (objs ++ [.cells (closedL a.cells) a.cells])

def storeK (P : Program) (objs : List AObj) (t : TypeId) (p a : AV) (k : AV → List AObj → Option R) : Option R :=
  match p, a with
  | _, .undef => none
  | .ptr i off, a =>
    match objs[i]? with
    | some (.cells flat cs) =>
      bif a.cells.length == szOf P t && !(szOf P t == 0) && a.cells.all oneA then
        chk (decide (off + a.cells.length ≤ cs.length)) (k (.tup []) (objs.set i (.cells (flat && closedL a.cells) (setL cs off a.cells))))
      else none
    | _ => none
  | _, _ => none

def zerosL (zs : List AV) (n : Nat) : List AV := (List.range n).map fun i => zs.getD (i % zs.length) .undef

def buildSliceK (P : Program) (ρ : Operand → AV) (objs : List AObj) (t : TypeId) (len : Nat) (ps : Array (Nat × Operand)) (k : AV → List AObj → Option R) : Option R :=
  match P.underlying t with
  | some (.slice e) =>
    match P.info? e with
    | some i =>
      bif decide (i.size ≠ 0) && decide (len * i.size ≤ 16777216) && i.zero.isSome && decide ((i.zero.getD .nilFunc).cells.size ≠ 0) then
        match fillA (fun j => some (j * i.size, i.size)) (zerosL (ofConst (i.zero.getD .nilFunc)).cells (len * i.size)) (partsA ρ ps) with
        | some cs => k (.sref objs.length 0 len i.size) (objs ++ [.cells (closedL cs) cs])
        | none => none
      else none
    | none => none
  | _ => none

/-- What is appended: its cells, how many elements they are, whether they are closed for sure. -/
def srcOf (sz : Nat) (objs : List AObj) : AV → Option (List AV × Nat × Bool)
  | .sref j off n _ => match objs[j]? with
    | some (.cells flat cs) => some ((cs.drop off).take (n * sz), n, flat)
    | _ => none
  | .sval cs n _ => some (cs.take (n * sz), n, true)
  | .nils => some ([], 0, true)
  | _ => none

def appendK (P : Program) (objs : List AObj) (ts : Array TypeId) (s x : AV) (k : AV → List AObj → Option R) : Option R :=
  match ts[0]?, ts[1]? with
  | some t, some tx =>
    match P.underlying t, P.underlying tx with
    | some (.slice e), some (.slice _) =>
      match P.info? e with
      | some i =>
        bif decide (i.size ≠ 0) && i.zero.isSome && decide ((i.zero.getD .nilFunc).cells.size = i.size) then
          match srcOf i.size objs x with
          | some (news, n, cl) =>
            match s with
            | .sref b 0 len sz =>
              match objs[b]? with
              | some (.cells flat cs) =>
                bif sz == i.size then
                  chk (decide (news.length = n * i.size) && news.all oneA && decide (len * i.size ≤ cs.length) && decide ((len + n) * i.bytes ≤ 140737488355328) && decide (len + n ≤ 1099511627776))
                    (k (.sref objs.length 0 (len + n) i.size) (objs.set b .dead ++ [.cells (flat && (cl || closedL news)) (cs.take (len * i.size) ++ news)]))
                else none
              | _ => none
            | .nils =>
              chk (decide (news.length = n * i.size) && news.all oneA && decide (n * i.bytes ≤ 140737488355328) && decide (n ≤ 1099511627776))
                (bif n == 0 then k .nils objs else k (.sref objs.length 0 n i.size) (objs ++ [.cells (cl || closedL news) news]))
            | .sval [] 0 true =>
              chk (decide (news.length = n * i.size) && news.all oneA && decide (n * i.bytes ≤ 140737488355328) && decide (n ≤ 1099511627776))
                (bif n == 0 then k (.sval [] 0 true) objs else k (.sref objs.length 0 n i.size) (objs ++ [.cells (cl || closedL news) news]))
            | _ => none
          | none => none
        else none
      | none => none
    | _, _ => none
  | _, _ => none

def effK (P : Program) (objs : List AObj) (ρ : Operand → AV) (o : Op) (k : AV → List AObj → Option R) : Option R :=
  match o with
  | .box _ x => boxK objs (ρ x) k
  | .alloc t => match (P.info? t).bind (·.zero) with
    | some z => boxK objs (ofConst z) k
    | none => none
  | .store t p x => storeK P objs t (ρ p) (ρ x) k
  | .buildSlice t len ps => buildSliceK P ρ objs t len ps k
  | .call ⟨.builtin .append, args, ts⟩ => match args[0]?, args[1]? with
    | some s, some x => bif args.size == 2 && ts.size == 2 then appendK P objs ts (ρ s) (ρ x) k else none
    | _, _ => none
  | _ => none
end

/-- What such an operation comes to. -/
def EffOk (E : Env) (G : Gh) (ι : Inj) (objs : List AObj) (w : World) (v : AV) (objs' : List AObj) (run : Result Next) : Prop :=
  ∃ v' w' nx ι', run = .ok nx w' ∧ (nx = .value v' ∨ (nx = .skip ∧ v' = undef)) ∧ VRel G ι' v v' ∧ Rel E G ι' objs' w' ∧ Ext (LiveB ι objs) G ι w G ι' objs' w'

section
variable {E : Env} {G : Gh} {ι : Inj} {R : Type} {objs : List AObj} {w : World} {k : AV → List AObj → Option R} {r : R}

theorem boxK_ok {a : AV} {v : Value} {e : TypeId} (h : boxK objs a k = some r) (hv : VRel G ι a v) (hR : Rel E G ι objs w) :
    ∃ u objs', k u objs' = some r ∧ EffOk E G ι objs w u objs' (.ok (.value (.pointer (some ⟨w.heap.size, 0, none⟩))) (w.alloc (.cells v.cells e))) := by
  have hne : a ≠ .undef := fun e => by subst e; simp [boxK] at h
  have hk : k (.ptr objs.length 0) (objs ++ [.cells (closedL a.cells) a.cells]) = some r := by
    cases a <;> first | exact h | exact absurd rfl hne
  obtain ⟨ι', h1, h2, h3⟩ := hR.addCells a.cells v.cells e (AV.cells_rel hv hne)
  exact ⟨_, _, hk, _, _, _, ι', rfl, .inl rfl, .ptr h3, h1, h2⟩

theorem storeK_ok {t : TypeId} {p a : AV} {p' v : Value} (h : storeK E.P objs t p a k = some r) (hp : VRel G ι p p') (hv : VRel G ι a v) (hR : Rel E G ι objs w) :
    ∃ objs', k (.tup []) objs' = some r ∧ ∃ w', (Instr.storeAt t p' v).run E.P w = .ok () w' ∧ Rel E G ι objs' w' ∧ Ext (LiveB ι objs) G ι w G ι objs' w' := by
  unfold storeK at h
  split at h
  · cases h
  · rename_i i off hne
    split at h
    · rename_i flat cs hi
      cases hb : (a.cells.length == szOf E.P t && !(szOf E.P t == 0) && a.cells.all oneA)
      · simp [hb] at h
      · simp only [hb, cond_true] at h
        simp only [Bool.and_eq_true, beq_iff_eq] at hb
        obtain ⟨hc, hk⟩ := chk_some h
        have hc' : off + a.cells.length ≤ cs.length := by simpa using hc
        have hcr := AV.cells_rel hv hne
        cases hp with
        | ptr hι =>
          rename_i B C
          have hone : ∀ x ∈ a.cells, oneA x = true := fun x hx => List.all_eq_true.1 hb.2 x hx
          obtain ⟨s1, s2, s3⟩ := hR.store hi hι hcr hone hc'
          refine ⟨_, hk, _, ?_, s2, s3⟩
          have hlen : a.cells.length = v.cells.size := by simpa using hcr.1
          have hsz : ∀ w, (sizeOf t).run E.P w = .ok (szOf E.P t) w := szOf_run (by simpa using hb.1.2)
          simp [Instr.storeAt, Instr.sureAddr, storeVar, hsz, ← hlen, hb.1.1, s1]
    · cases h
  · cases h

theorem fillA_length (place : Nat → Option (Nat × Nat)) : ∀ (ps : List (Nat × AV)) (cs cs' : List AV), fillA place cs ps = some cs' → cs'.length = cs.length
  | [], cs, cs', h => by simp [fillA] at h; rw [h]
  | (i, v) :: ps, cs, cs', h => by
    simp only [fillA] at h
    split at h
    · cases h
    · rename_i off size hpl
      cases hb : (v.cells.length == size && decide (off + v.cells.length ≤ cs.length) && fillA.oneOrAgg v)
      · simp [hb] at h
      · simp only [hb, cond_true] at h
        rw [fillA_length place ps _ _ h, setL_length]

theorem zeros_rel {zs : List AV} {z : Array Value} (h : LRel G ι zs z.toList) (hz : z.size ≠ 0) (n : Nat) : LRel G ι (zerosL zs n) ((Array.range n).map (z[· % z.size]!)).toList := by
  refine ⟨by simp [zerosL], fun i a v h1 h2 => ?_⟩
  unfold zerosL at h1
  rw [List.getElem?_map] at h1
  simp only [Array.toList_map, List.getElem?_map, Array.toList_range] at h2
  cases hi : (List.range n)[i]? with
  | none => rw [hi] at h1; simp at h1
  | some j =>
    rw [hi] at h1 h2
    simp only [Option.map_some, Option.some.injEq] at h1 h2
    subst h1 h2
    have hl : zs.length = z.size := by simpa using h.1
    have hlt : j % z.size < z.size := Nat.mod_lt _ (by omega)
    rw [hl, List.getD_eq_getElem?_getD]
    have hzlt : j % z.size < zs.length := by omega
    rw [List.getElem?_eq_getElem hzlt]
    simp only [Option.getD_some]
    have : z[j % z.size]! = z[j % z.size] := by simp [hlt]
    rw [this]
    exact h.2 _ _ _ (List.getElem?_eq_getElem hzlt) (by simp [hlt])

theorem buildSliceK_ok {ρ : Operand → AV} {ρ' : Operand → Value} {t : TypeId} {len : Nat} {ps : Array (Nat × Operand)} (h : buildSliceK E.P ρ objs t len ps k = some r)
    (hρ : ∀ x, VRel G ι (ρ x) (ρ' x)) (hR : Rel E G ι objs w) :
    ∃ u objs', k u objs' = some r ∧ ∃ v' w' ι', (Instr.buildSlice t len (ps.map fun (i, x) => (i, ρ' x))).run E.P w = .ok v' w' ∧ VRel G ι' u v' ∧ Rel E G ι' objs' w' ∧ Ext (LiveB ι objs) G ι w G ι' objs' w' := by
  unfold buildSliceK at h
  split at h
  · rename_i e ht
    split at h
    · rename_i i hi
      cases hb : (decide (i.size ≠ 0) && decide (len * i.size ≤ 16777216) && i.zero.isSome && decide ((i.zero.getD .nilFunc).cells.size ≠ 0))
      · simp only [hb, cond_false] at h; cases h
      · simp only [hb, cond_true] at h
        simp only [Bool.and_eq_true, decide_eq_true_eq] at hb
        obtain ⟨⟨⟨hb1, hb2⟩, hb3⟩, hb4⟩ := hb
        obtain ⟨z, hz⟩ := Option.isSome_iff_exists.1 hb3
        rw [hz] at h hb4
        simp only [Option.getD_some] at h hb4
        split at h
        · rename_i cs hf
          obtain ⟨c', h1, h2⟩ := fillA_ok _ _ _ _ _ _ (partsA_rel hρ ps) (zeros_rel (zero_cells z) hb4 (len * i.size)) hf
          obtain ⟨ι', g1, g2, g3⟩ := hR.addCells cs c' e h2
          have hcl : len * i.size ≤ c'.size := by
            have e1 := fillA_length _ _ _ _ hf
            have e2 := h2.1
            simp only [zerosL, List.length_map, List.length_range] at e1
            simp only [Array.length_toList] at e2
            omega
          refine ⟨_, _, h, .slice (some ⟨w.heap.size, 0, none⟩) len len, _, ι', ?_, .sref g3 (by simpa using hcl) (Nat.le_refl _), g1, g2⟩
          have hn : ¬ (len * i.size > 2 ^ 24) := by omega
          simp only [Instr.buildSlice, Sem.run_bind, run_underlying ht, Result.andThen_ok, sizeOf_eq hi, Sem.run_ite, hn, if_false]
          by_cases h0 : len * i.size = 0
          · have e0 : ∀ (z : Array Value), (Array.range (len * i.size)).map (fun x => z[x % z.size]!) = #[] := fun z => by rw [h0]; simp
            rw [e0] at h1
            simp only [h0, if_true, Sem.run_pure, Result.andThen_ok]
            have e1 : (Array.range 0).map (fun x => (#[] : Array Value)[x % (#[] : Array Value).size]!) = #[] := by simp
            rw [e1, h1]
            simp [newRow]
          · simp only [h0, if_false, Sem.run_bind, zeroValue, typeInfo, run_program, Result.andThen_ok, hi, Sem.run_pure, hz]
            rw [h1]
            simp [newRow]
        · cases h
    · cases h
  · cases h
end
end Go.Ab
end

section
namespace Go.Ab
open Go
section
variable {E : Env} {G : Gh} {ι : Inj} {R : Type} {objs : List AObj} {w : World} {k : AV → List AObj → Option R} {r : R}

/-- An object is given up. -/
theorem Rel.drop (h : Rel E G ι objs w) (i : Nat) : Rel E G ι (objs.set i .dead) w ∧ Ext (LiveB ι objs) G ι w G ι (objs.set i .dead) w := by
  have hget : ∀ (j : Nat) (p : AObj), (objs.set i .dead)[j]? = some p → p.live = true → objs[j]? = some p := fun j p hj hp => by
    rw [List.getElem?_set] at hj
    split at hj
    · split at hj
      · simp at hj; subst hj; simp [AObj.live] at hp
      · cases hj
    · exact hj
  refine ⟨⟨h.stays, fun j p hj hp => h.obj j p (hget j p hj hp) hp, fun j k p q B C D hj hp hk hq => h.inj j k p q B C D (hget j p hj hp) hp (hget k q hk hq) hq,
    fun j hj => h.fresh j (by simpa using hj), h.glob, h.size⟩,
    ⟨rfl, rfl, rfl, Nat.le_refl _, fun _ _ _ => rfl, Gh.le_refl _, fun _ _ _ _ => rfl, Inj.le_refl _, ?_⟩⟩
  rintro b _ ⟨j, p, C, hj, hp, e⟩
  exact ⟨j, p, C, hget j p hj hp, hp, e⟩

/-- An object gets a new number, the old one is dead. -/
theorem Rel.move (h : Rel E G ι objs w) {i B C : Nat} {o : AObj} (hi : objs[i]? = some o) (hl : o.live = true) (hι : ι i = some (B, C)) :
    Rel E G (ι.add objs.length (B, C)) (objs.set i .dead ++ [o]) w ∧ Ext (LiveB ι objs) G ι w G (ι.add objs.length (B, C)) (objs.set i .dead ++ [o]) w := by
  have hn : ι objs.length = none := h.fresh _ (Nat.le_refl _)
  have hle := Inj.add_le hn (B, C)
  have hilt : i < objs.length := by
    rcases Nat.lt_or_ge i objs.length with h' | h'
    · exact h'
    · simp [List.getElem?_eq_none h'] at hi
  have hget : ∀ (j : Nat) (p : AObj), (objs.set i .dead ++ [o])[j]? = some p → p.live = true → (j ≠ i ∧ j < objs.length ∧ objs[j]? = some p) ∨ (j = objs.length ∧ p = o) := fun j p hj hp => by
    rw [List.getElem?_append] at hj
    split at hj
    · rename_i hlt
      rw [List.getElem?_set] at hj
      split at hj
      · cases hj; simp [AObj.live] at hp
      · rename_i hne; exact .inl ⟨fun e => hne e.symm, by simpa using hlt, hj⟩
    · rename_i hlt
      simp at hlt
      have : j - (objs.set i .dead).length = 0 := by
        rcases Nat.eq_zero_or_pos (j - (objs.set i .dead).length) with h0 | h0
        · exact h0
        · have : [o][j - (objs.set i .dead).length]? = none := by simp; simp at h0; omega
          rw [this] at hj; cases hj
      rw [this] at hj
      simp at this
      exact .inr ⟨by omega, by simpa using hj.symm⟩
  have holdι : ∀ j, j < objs.length → (ι.add objs.length (B, C)) j = ι j := fun j hj => by unfold Inj.add; rw [if_neg (by omega)]
  -- where a live one was before
  have hback : ∀ (j : Nat) (p : AObj) (D F : Nat), (objs.set i .dead ++ [o])[j]? = some p → p.live = true → (ι.add objs.length (B, C)) j = some (D, F) →
      ∃ j', objs[j']? = some p ∧ ι j' = some (D, F) ∧ (j' = i → j = objs.length) ∧ (j' ≠ i → j = j') := fun j p D F hj hp e => by
    rcases hget j p hj hp with ⟨hne, hlt, hj'⟩ | ⟨rfl, rfl⟩
    · rw [holdι j hlt] at e; exact ⟨j, hj', e, fun e' => absurd e' hne, fun _ => rfl⟩
    · rw [Inj.add_self] at e; cases e; exact ⟨i, hi, hι, fun _ => rfl, fun hne => absurd rfl hne⟩
  refine ⟨⟨h.stays, fun j p hj hp => ?_, fun j l p q D F F' hj hp hl' hq e1 e2 => ?_, fun j hj => ?_, h.glob, h.size⟩,
    ⟨rfl, rfl, rfl, Nat.le_refl _, fun _ _ _ => rfl, Gh.le_refl _, fun _ _ _ _ => rfl, hle, ?_⟩⟩
  · rcases hget j p hj hp with ⟨hne, hlt, hj'⟩ | ⟨rfl, rfl⟩
    · obtain ⟨D, F, g1, g2, g3, g4⟩ := h.obj j p hj' hp
      exact ⟨D, F, by rw [holdι j hlt]; exact g1, g2, g3, g4.lift hle rfl⟩
    · obtain ⟨D, F, g1, g2, g3, g4⟩ := h.obj i p hi hl
      rw [hι] at g1; cases g1
      exact ⟨B, C, Inj.add_self _ _, g2, g3, g4.lift hle rfl⟩
  · obtain ⟨j', a1, a2, a3, a4⟩ := hback j p D F hj hp e1
    obtain ⟨l', b1, b2, b3, b4⟩ := hback l q D F' hl' hq e2
    have := h.inj j' l' p q D F F' a1 hp b1 hq a2 b2
    subst this
    by_cases hji : j' = i
    · rw [a3 hji, b3 hji]
    · rw [a4 hji, b4 hji]
  · simp at hj
    unfold Inj.add; rw [if_neg (by omega)]; exact h.fresh j (by omega)
  · rintro b _ ⟨j, p, F, hj, hp, e⟩
    obtain ⟨j', a1, a2, _, _⟩ := hback j p b F hj hp e
    exact ⟨j', p, F, a1, hp, a2⟩

theorem setA_take : ∀ (vs : List Value) (c : Array Value) (off : Nat), off + vs.length ≤ c.size → (setA c off vs).toList.take (off + vs.length) = c.toList.take off ++ vs
  | [], c, off, _ => by simp [setA]
  | v :: vs, c, off, h => by
    simp only [setA, List.length_cons] at h ⊢
    have := setA_take vs (c.setIfInBounds off v) (off + 1) (by simp; omega)
    rw [show off + (vs.length + 1) = off + 1 + vs.length by omega, this]
    have hlt : off < c.toList.length := by simp; omega
    rw [Array.toList_setIfInBounds, List.take_set, List.take_succ_eq_append_getElem hlt, List.set_append_right _ _ (by simp; omega)]
    have : (List.take off c.toList).length = off := by simp; omega
    rw [this]; simp

theorem news_of_seen {B o : Nat} {cs : List AV} {off n : Nat} {ι' : Inj} (hcell : ∀ j a, cs[off + j]? = some a → ∃ v, VRel G ι' a v ∧ w.cell? ⟨B, o + j, none⟩ = some v)
    (hlen : ((cs.drop off).take n).length = n) :
    ∃ news' : List Value, LRel G ι' ((cs.drop off).take n) news' ∧ news'.length = n ∧ ∀ j u, news'[j]? = some u → w.cell? ⟨B, o + j, none⟩ = some u := by
  simp only [List.length_take, List.length_drop] at hlen
  obtain ⟨l, hl, hp⟩ := exists_list n (fun j u => ∀ a, cs[off + j]? = some a → VRel G ι' a u ∧ w.cell? ⟨B, o + j, none⟩ = some u) (fun j hj => by
    have hlt : off + j < cs.length := by omega
    obtain ⟨u, hu, hc⟩ := hcell j _ (List.getElem?_eq_getElem hlt)
    refine ⟨u, fun a ha => ?_⟩
    rw [List.getElem?_eq_getElem hlt] at ha; cases ha
    exact ⟨hu, hc⟩)
  have hget : ∀ j u, l[j]? = some u → ∃ a, cs[off + j]? = some a ∧ VRel G ι' a u ∧ w.cell? ⟨B, o + j, none⟩ = some u := fun j u hu => by
    have hj : j < l.length := by
      rcases Nat.lt_or_ge j l.length with h' | h'
      · exact h'
      · simp [List.getElem?_eq_none h'] at hu
    have hlt : off + j < cs.length := by omega
    exact ⟨_, List.getElem?_eq_getElem hlt, hp j u hu _ (List.getElem?_eq_getElem hlt)⟩
  refine ⟨l, ⟨by simp; omega, fun j a u h1 h2 => ?_⟩, hl, fun j u hu => ?_⟩
  · obtain ⟨a', ha', hr, _⟩ := hget j u h2
    rw [List.getElem?_take] at h1
    split at h1
    · rw [List.getElem?_drop] at h1; rw [ha'] at h1; cases h1; exact hr
    · cases h1
  · obtain ⟨_, _, _, hc⟩ := hget j u hu; exact hc

theorem srcOf_ok {sz n : Nat} {x : AV} {x' : Value} {news : List AV} {cl : Bool} {tx e' : TypeId} (h : srcOf sz objs x = some (news, n, cl)) (hx : VRel G ι x x') (hR : Rel E G ι objs w)
    (hn : news.length = n * sz) (h1 : ∀ a ∈ news, oneA a = true) (hk : E.P.underlying tx = some (.slice e')) :
    ∃ news', LRel G (if cl || closedL news then noInj else ι) news news' ∧ Src E.P sz tx x' n news' w := by
  have one : ∀ {ι' : Inj} {news' : List Value}, LRel G ι' news news' → ∀ u ∈ news', u.oneCell' = true := fun hl u hu => by
    obtain ⟨j, hj, hju⟩ := List.mem_iff_getElem.1 hu
    have hja : j < news.length := by rw [hl.1]; exact hj
    exact oneA_one (hl.2 j _ _ (List.getElem?_eq_getElem hja) (by rw [List.getElem?_eq_getElem hj, hju])) (h1 _ (List.getElem_mem hja))
  have fin : ∀ {news' : List Value} {b : Bool}, LRel G (if b then noInj else ι) news news' → LRel G (if b || closedL news then noInj else ι) news news' := fun {news' b} hl => by
    cases b
    · cases hc : closedL news
      · simpa using hl
      · simpa using (LRel.closed (by simpa using hl) hc)
    · simpa using hl
  unfold srcOf at h
  split at h
  · rename_i j off m sz'
    split at h
    · rename_i flat cs hj
      simp only [Option.some.injEq, Prod.mk.injEq] at h
      obtain ⟨rfl, rfl, rfl⟩ := h
      cases hx with
      | sref hι hc hl =>
        rename_i cap B C
        obtain ⟨B', C', g1, g2, g3, ⟨c, e1, lo, hi1, hb, hC, hfz, hrel⟩, hu⟩ := hR.obj j _ hj rfl
        rw [hι] at g1; cases g1
        obtain ⟨news', q1, q2, q3⟩ := news_of_seen (w := w) (B := B) (o := off) (cs := cs) (off := off) (n := m * sz) (G := G) (ι' := if flat then noInj else ι) (fun q a ha => by
          obtain ⟨v, hv, hr⟩ := hrel.get ha
          refine ⟨v, hr, ?_⟩
          rw [List.getElem?_take] at hv
          split at hv
          · simp [World.cell?, hb]; simpa using hv
          · cases hv) hn
        exact ⟨news', fin q1, Src.ofSlice w hk _ m cap news' q2 (fun q u hq => by rw [Addr.add_lit]; exact q3 q u hq) (one q1)⟩
    · cases h
  · rename_i cs m full
    simp only [Option.some.injEq, Prod.mk.injEq] at h
    obtain ⟨rfl, rfl, rfl⟩ := h
    cases hx with
    | svalNil => exact ⟨[], by simpa using LRel.nil, Src.ofNil w hk 0⟩
    | sval vf hg hv hf hl =>
      rename_i B off cap
      obtain ⟨news', q1, q2, q3⟩ := news_of_seen (w := w) (B := B) (o := off) (cs := cs) (off := 0) (n := m * sz) (G := G) (ι' := noInj) (fun q a ha => by
          have hlt : q < cs.length := by
            rcases Nat.lt_or_ge q cs.length with h' | h'
            · exact h'
            · simp [List.getElem?_eq_none h'] at ha
          exact ⟨vf q, hv q a (by simpa using ha), hR.stays _ _ _ (hg q hlt)⟩) (by simpa using hn)
      have q1' : LRel G noInj (cs.take (m * sz)) news' := by simpa using q1
      exact ⟨news', by simpa using q1', Src.ofSlice w hk _ m cap news' q2 (fun q u hq => by rw [Addr.add_lit]; exact q3 q u hq) (one q1')⟩
  · simp only [Option.some.injEq, Prod.mk.injEq] at h
    obtain ⟨rfl, rfl, rfl⟩ := h
    cases hx
    exact ⟨[], by simpa using LRel.nil, Src.ofNil w hk 0⟩
  · cases h
end
end Go.Ab
end

section
namespace Go.Ab
open Go
section
variable {E : Env} {G : Gh} {ι : Inj} {R : Type} {objs : List AObj} {w : World} {k : AV → List AObj → Option R} {r : R}

theorem Rel.drew (h : Rel E G ι objs w) : Rel E G ι objs w.drew := h.of_heap rfl
theorem Ext.drew {ι' : Inj} {objs' : List AObj} {w' : World} {G' : Gh} (h : Ext (LiveB ι objs) G ι w.drew G' ι' objs' w') : Ext (LiveB ι objs) G ι w G' ι' objs' w' :=
  ⟨h.os, h.tape, h.output, h.size, h.keep, h.gle, h.gold, h.ile, h.lv⟩

/-- A new row whose first cells are known. -/
theorem Rel.addRow (h : Rel E G ι objs w) (flat : Bool) (cs : List AV) (vs : Array Value) (e : TypeId) (hl : ∀ ι', ι.le ι' → LRel G (if flat then noInj else ι') cs (vs.toList.take cs.length)) :
    ∃ ι', Rel E G ι' (objs ++ [.cells flat cs]) (w.alloc (.cells vs e)) ∧ Ext (LiveB ι objs) G ι w G ι' (objs ++ [.cells flat cs]) (w.alloc (.cells vs e)) ∧
      ι' objs.length = some (w.heap.size, vs.size) := by
  have hn : ι objs.length = none := h.fresh _ (Nat.le_refl _)
  refine ⟨ι.add objs.length (w.heap.size, vs.size), ?_⟩
  have := h.add (.cells vs e) (.cells flat cs) vs.size
    ⟨⟨vs, e, 0, 0, heap_alloc_new w _, rfl, .inl (Nat.le_refl _), hl _ (Inj.add_le hn _)⟩, fun o => h.unsealed_new (Nat.le_refl _) o⟩
  exact ⟨this.1, this.2, Inj.add_self _ _⟩

/-- The arm that grows, from known old cells. -/
theorem append_grow {t tx ty e : TypeId} {i : TypeInfo} {z : Value} (ht : E.P.underlying t = some (.slice e)) (hi : E.P.info? e = some i) (hz : i.zero = some z) (hzs : z.cells.size = i.size)
    (hR : Rel E G ι objs w) {base : Option Addr} {len cap n : Nat} {olds news : List AV} {olds' news' : List Value} {x' : Value} {fo fn : Bool}
    (ho : LRel G (if fo then noInj else ι) olds olds') (hn : LRel G (if fn then noInj else ι) news news') (hs : Src E.P i.size tx x' n news' w)
    (hold : (Builtin.firstCells i.size len (.slice base len cap)).run E.P w.drew = .ok olds'.toArray w.drew) (hol : olds'.length = len * i.size)
    (hg : cap < len + n) (hb : (len + n) * i.bytes ≤ 140737488355328) (hm : len + n ≤ 1099511627776) :
    ∃ v' w' ι', (Builtin.append_ #[t, tx] ty #[.slice base len cap, x']).run E.P w = .ok v' w' ∧ VRel G ι' (.sref objs.length 0 (len + n) i.size) v' ∧
      Rel E G ι' (objs ++ [.cells (fo && fn) (olds ++ news)]) w' ∧ Ext (LiveB ι objs) G ι w G ι' (objs ++ [.cells (fo && fn) (olds ++ news)]) w' := by
  have hrun := run_append_grow_src (P := E.P) w t tx ty e i z ht hi hz base len cap olds' hold x' n news' hs hg (by omega) (growslice_fits hg hb)
  obtain ⟨ι', g1, g2, g3⟩ := (hR.drew).addRow (fo && fn) (olds ++ news) ((olds' ++ news').toArray ++ Builtin.zeroCells z.cells (grownCap w (len + n) cap e - (len + n))) e (fun ι' hle => by
    have e1 : (((olds' ++ news').toArray ++ Builtin.zeroCells z.cells (grownCap w (len + n) cap e - (len + n))).toList.take (olds ++ news).length) = olds' ++ news' := by
      rw [Array.toList_append]
      rw [List.take_append_of_le_length (by simp [ho.1, hn.1])]
      exact List.take_of_length_le (by simp [ho.1, hn.1])
    rw [e1]
    cases fo <;> cases fn
    · exact (LRel.append (by simpa using ho) (by simpa using hn)).mono (Gh.le_refl _) hle
    · exact (LRel.append (by simpa using ho) ((by simpa using hn : LRel G noInj news news').mono (Gh.le_refl _) (noInj_le ι))).mono (Gh.le_refl _) hle
    · exact (LRel.append ((by simpa using ho : LRel G noInj olds olds').mono (Gh.le_refl _) (noInj_le ι)) (by simpa using hn)).mono (Gh.le_refl _) hle
    · simpa using LRel.append (by simpa using ho) (by simpa using hn))
  refine ⟨_, _, ι', hrun, .sref g3 ?_ (grownCap_ge w (len + n) cap e), g1, g2.drew⟩
  have hge := grownCap_ge w (len + n) cap e
  have hnl := hs.newsLen
  simp only [Array.size_append, List.size_toArray, List.length_append, size_zeroCells, hzs, hol, hnl, Nat.zero_add]
  have : len * i.size + n * i.size + (grownCap w (len + n) cap e - (len + n)) * i.size = grownCap w (len + n) cap e * i.size := by
    rw [← Nat.add_mul, ← Nat.add_mul]; congr 1; omega
  omega

theorem appendK_ok {ts : Array TypeId} {ty : TypeId} {s x : AV} {s' x' : Value} (hts : ts.size = 2) (h : appendK E.P objs ts s x k = some r) (hs : VRel G ι s s') (hx : VRel G ι x x') (hR : Rel E G ι objs w) :
    ∃ u objs', k u objs' = some r ∧ ∃ v' w' ι', (Builtin.append_ ts ty #[s', x']).run E.P w = .ok v' w' ∧ VRel G ι' u v' ∧ Rel E G ι' objs' w' ∧ Ext (LiveB ι objs) G ι w G ι' objs' w' := by
  unfold appendK at h
  split at h
  · rename_i t tx h0 h1
    have hts' : ts = #[t, tx] := by
      apply Array.ext (by simp [hts])
      intro i hi1 hi2
      simp at hi2
      match i, hi2 with
      | 0, _ => simpa [Array.getElem?_eq_getElem hi1] using h0
      | 1, _ => simpa [Array.getElem?_eq_getElem hi1] using h1
    subst hts'
    clear h0 h1 hts
    split at h
    · rename_i e e' ht htx
      split at h
      · rename_i i hi
        cases hb : (decide (i.size ≠ 0) && i.zero.isSome && decide ((i.zero.getD .nilFunc).cells.size = i.size))
        · simp only [hb, cond_false] at h; cases h
        · simp only [hb, cond_true] at h
          simp only [Bool.and_eq_true, decide_eq_true_eq] at hb
          obtain ⟨⟨hsz, hz0⟩, hzs⟩ := hb
          obtain ⟨z, hz⟩ := Option.isSome_iff_exists.1 hz0
          rw [hz] at hzs
          simp only [Option.getD_some] at hzs
          split at h
          · rename_i news n cl hsrc
            split at h
            · -- an object
              rename_i b len sz
              split at h
              · rename_i flat cs hbo
                cases hse : sz == i.size
                · simp [hse] at h
                · simp only [hse, cond_true] at h
                  have hse' : sz = i.size := by simpa using hse
                  subst hse'
                  obtain ⟨hc, hk⟩ := chk_some h
                  simp only [Bool.and_eq_true, decide_eq_true_eq] at hc
                  obtain ⟨⟨⟨⟨hc1, hc2⟩, hc3⟩, hc4⟩, hc5⟩ := hc
                  have hone : ∀ a ∈ news, oneA a = true := fun a ha => List.all_eq_true.1 hc2 a ha
                  obtain ⟨news', hnr, hsr⟩ := srcOf_ok hsrc hx hR hc1 hone htx
                  cases hs with
                  | sref hι hcap hlc =>
                    rename_i cap B C
                    obtain ⟨B', C', g1, g2, g3, ⟨c, e1, lo, hi1, hbk, hC, hfz, hrel⟩, hu⟩ := hR.obj b _ hbo rfl
                    rw [hι] at g1; cases g1
                    have hcsl : cs.length ≤ c.size := by have := hrel.1; simp at this; omega
                    -- the old cells
                    have hold : LRel G (if flat then noInj else ι) (cs.take (len * i.size)) (c.toList.take (len * i.size)) := by
                      have := hrel.take (len * i.size)
                      rw [List.take_take, Nat.min_eq_left hc3] at this
                      exact this
                    by_cases hroom : len + n ≤ cap
                    · -- room
                      have hle : (len + n) * i.size ≤ cap * i.size := Nat.mul_le_mul_right _ hroom
                      rw [Nat.add_mul] at hle
                      have hnl := hsr.newsLen
                      have hrun := run_append_room_src (P := E.P) w t tx ty e i ht hi B 0 len cap x' n news' hsr hroom
                        (fun j hj => by simp [World.cell?, hbk]; omega) (fun j hj => by simp [World.frozen?, hbk]; omega)
                      simp only [Nat.zero_add] at hrun
                      obtain ⟨q1, q2⟩ := hR.setObj (o := .cells flat cs) (o' := .cells (flat && (cl || closedL news)) (cs.take (len * i.size) ++ news)) (w' := w.setCells B (len * i.size) news')
                        hbo rfl hι hu (fun b' hb' => heap_setCells_other B b' hb' _ _ w) (size_setCells B _ _ w) (os_setCells B _ _ w) (fun _ => by
                          refine ⟨⟨_, e1, lo, hi1, heap_setCells B news' (len * i.size) w c e1 (lo, hi1) hbk, by rw [setA_size]; exact hC, hfz, ?_⟩, hu⟩
                          have e2 : (cs.take (len * i.size) ++ news).length = len * i.size + news'.length := by
                            simp only [List.length_append, List.length_take, hnr.1]; omega
                          rw [e2, setA_take news' c (len * i.size) (by omega)]
                          cases flat
                          · simp only [Bool.false_and, Bool.false_eq_true, if_false] at hold ⊢
                            refine LRel.append (by simpa using hold) ?_
                            cases hcn : (cl || closedL news)
                            · simpa [hcn] using hnr
                            · exact (by simpa [hcn] using hnr : LRel G noInj news news').mono (Gh.le_refl _) (noInj_le ι)
                          · cases hcn : (cl || closedL news)
                            · simp only [Bool.and_false, Bool.false_eq_true, if_false]
                              exact LRel.append ((by simpa using hold : LRel G noInj _ _).mono (Gh.le_refl _) (noInj_le ι)) (by simpa [hcn] using hnr)
                            · simpa using LRel.append (by simpa using hold) (by simpa [hcn] using hnr))
                      have hlen : (objs.set b (AObj.cells (flat && (cl || closedL news)) (cs.take (len * i.size) ++ news))).length = objs.length := by simp
                      have hblt : b < objs.length := by
                        rcases Nat.lt_or_ge b objs.length with h' | h'
                        · exact h'
                        · simp [List.getElem?_eq_none h'] at hbo
                      obtain ⟨m1, m2⟩ := q1.move (i := b) (B := B) (C := C) (o := .cells (flat && (cl || closedL news)) (cs.take (len * i.size) ++ news)) (by simp [hblt]) rfl hι
                      rw [hlen, List.set_set] at m1 m2
                      exact ⟨_, _, hk, _, _, _, hrun, .sref (Inj.add_self _ _) (by simpa using hcap) hroom, m1, q2.trans m2⟩
                    · -- a new row
                      obtain ⟨d1, d2⟩ := hR.drop b
                      have hfirst : (Builtin.firstCells i.size len (.slice (some ⟨B, 0, none⟩) len cap)).run E.P w.drew = .ok (c.toList.take (len * i.size)).toArray w.drew := by
                        refine run_firstCells_some w.drew i.size len _ len cap _ (by simp; omega) fun j v hv => ?_
                        rw [Addr.add_lit]
                        rw [List.getElem?_take] at hv
                        split at hv
                        · simp only [World.cell?_drew, Nat.zero_add]
                          simp [World.cell?, hbk]; simpa using hv
                        · cases hv
                      obtain ⟨v', w', ι', a1, a2, a3, a4⟩ := append_grow (ty := ty) ht hi hz hzs d1 hold hnr hsr hfirst (by simp; omega) (by omega) hc4 hc5
                      simp only [List.length_set] at a2
                      exact ⟨_, _, hk, v', w', ι', a1, a2, a3, d2.trans a4⟩
              · cases h
            · -- nil
              obtain ⟨hc, hk⟩ := chk_some h
              simp only [Bool.and_eq_true, decide_eq_true_eq] at hc
              obtain ⟨⟨⟨hc1, hc2⟩, hc4⟩, hc5⟩ := hc
              have hone : ∀ a ∈ news, oneA a = true := fun a ha => List.all_eq_true.1 hc2 a ha
              obtain ⟨news', hnr, hsr⟩ := srcOf_ok hsrc hx hR hc1 hone htx
              cases hs
              cases hn0 : n == 0
              · simp only [hn0, cond_false] at hk
                have hn0' : n ≠ 0 := by simpa using hn0
                obtain ⟨v', w', ι', a1, a2, a3, a4⟩ := append_grow (ty := ty) (fo := true) (fn := cl || closedL news) (olds := []) (olds' := []) (len := 0) (cap := 0) (base := none) ht hi hz hzs hR LRel.nil hnr hsr
                  (run_firstCells_none w.drew i.size 0 0 0) (by simp) (by omega) (by simpa using hc4) (by simpa using hc5)
                simp only [Nat.zero_add, Bool.true_and, List.nil_append] at a2 a3 a4
                exact ⟨_, _, hk, v', w', ι', a1, a2, a3, a4⟩
              · simp only [hn0, cond_true] at hk
                have hn0' : n = 0 := by simpa using hn0
                subst hn0'
                have hnil : news' = [] := List.eq_nil_of_length_eq_zero (by rw [← hnr.1, hc1]; simp)
                subst hnil
                exact ⟨_, _, hk, _, w, ι, run_append_nothing w t tx ty e i ht hi none 0 0 (Nat.le_refl _) x' hsr, .nils, hR, Ext.refl _ _ _ _⟩
            · -- an empty one without room
              obtain ⟨hc, hk⟩ := chk_some h
              simp only [Bool.and_eq_true, decide_eq_true_eq] at hc
              obtain ⟨⟨⟨hc1, hc2⟩, hc4⟩, hc5⟩ := hc
              have hone : ∀ a ∈ news, oneA a = true := fun a ha => List.all_eq_true.1 hc2 a ha
              obtain ⟨news', hnr, hsr⟩ := srcOf_ok hsrc hx hR hc1 hone htx
              cases hs with
              | svalNil =>
                cases hn0 : n == 0
                · simp only [hn0, cond_false] at hk
                  have hn0' : n ≠ 0 := by simpa using hn0
                  obtain ⟨v', w', ι', a1, a2, a3, a4⟩ := append_grow (ty := ty) (fo := true) (fn := cl || closedL news) (olds := []) (olds' := []) (len := 0) (cap := 0) (base := none) ht hi hz hzs hR LRel.nil hnr hsr
                    (run_firstCells_none w.drew i.size 0 0 0) (by simp) (by omega) (by simpa using hc4) (by simpa using hc5)
                  simp only [Nat.zero_add, Bool.true_and, List.nil_append] at a2 a3 a4
                  exact ⟨_, _, hk, v', w', ι', a1, a2, a3, a4⟩
                · simp only [hn0, cond_true] at hk
                  have hn0' : n = 0 := by simpa using hn0
                  subst hn0'
                  have hnil : news' = [] := List.eq_nil_of_length_eq_zero (by rw [← hnr.1, hc1]; simp)
                  subst hnil
                  exact ⟨_, _, hk, _, w, ι, run_append_nothing w t tx ty e i ht hi none 0 0 (Nat.le_refl _) x' hsr, .svalNil, hR, Ext.refl _ _ _ _⟩
              | sval vf hg hv hf hl =>
                rename_i B off cap
                have hcap : cap = 0 := hf rfl
                subst hcap
                cases hn0 : n == 0
                · simp only [hn0, cond_false] at hk
                  have hn0' : n ≠ 0 := by simpa using hn0
                  obtain ⟨v', w', ι', a1, a2, a3, a4⟩ := append_grow (ty := ty) (fo := true) (fn := cl || closedL news) (olds := []) (olds' := []) (len := 0) (cap := 0) (base := some ⟨B, off, none⟩) ht hi hz hzs hR LRel.nil hnr hsr
                    (run_firstCells_some w.drew i.size 0 _ 0 0 [] (by simp) (fun j v hv => by simp at hv)) (by simp) (by omega) (by simpa using hc4) (by simpa using hc5)
                  simp only [Nat.zero_add, Bool.true_and, List.nil_append] at a2 a3 a4
                  exact ⟨_, _, hk, v', w', ι', a1, a2, a3, a4⟩
                · simp only [hn0, cond_true] at hk
                  have hn0' : n = 0 := by simpa using hn0
                  subst hn0'
                  have hnil : news' = [] := List.eq_nil_of_length_eq_zero (by rw [← hnr.1, hc1]; simp)
                  subst hnil
                  exact ⟨_, _, hk, _, w, ι, run_append_nothing w t tx ty e i ht hi _ 0 0 (Nat.le_refl _) x' hsr, .sval vf hg hv (fun _ => rfl) hl, hR, Ext.refl _ _ _ _⟩
            · cases h
          · cases h
      · cases h
    · cases h
  · cases h
end
end Go.Ab
end
