/- The abstract machine: equality of structs and arrays. No condition. -/
import Derived.Test.YtnalegahabfglaaDoorAbMem
import Derived.Laws.StructEq
import Derived.ChangeKeysEq
set_option linter.all false
set_option linter.unusedVariables false
set_option linter.unusedSimpArgs false
namespace Go.Ab
open Go
section
variable {R : Type}

def eqFsK (P : Program) (rec : TypeId → AV → AV → (Bool → Option R) → Option R) (xs ys : List AV) : List Field → (Bool → Option R) → Option R
  | [], k => k true
  | f :: fs, k => bif f.name == "_" then eqFsK P rec xs ys fs k else
    readK P f.type xs f.offset fun u => readK P f.type ys f.offset fun v => rec f.type u v fun b => eqFsK P rec xs ys fs fun c => k (b && c)
def eqIsK (P : Program) (rec : TypeId → AV → AV → (Bool → Option R) → Option R) (e : TypeId) (sz : Nat) (xs ys : List AV) : List Nat → (Bool → Option R) → Option R
  | [], k => k true
  | i :: is, k => readK P e xs (i * sz) fun u => readK P e ys (i * sz) fun v => rec e u v fun b => eqIsK P rec e sz xs ys is fun c => k (b && c)
def eqK (P : Program) : Nat → TypeId → AV → AV → (Bool → Option R) → Option R
  | 0, _, _, _, _ => none
  | d + 1, t, x, y, k => match P.underlying t, x, y with
    | some .bool, .bool a, .bool b => k (a == b)
    | some (.int _), .int kd a, .int kd' b => if kd = kd' then k (a == b) else none
    | some .string, .str a, .str b => k (a.toList == b.toList)
    | some (.struct fs), .agg xs, .agg ys => bif P.stoodInHeld t then none else eqFsK P (eqK P d) xs ys fs.toList k
    | some (.array n e), .agg xs, .agg ys => match P.info? e with
      | some _ => eqIsK P (eqK P d) e (P.cellsOf e) xs ys (List.range n) k
      | none => none
    | _, _, _ => none
def aggEqK (P : Program) (op : BinOp) (t : TypeId) (x y : AV) (k : AV → Option R) : Option R :=
  bif P.eqGuardType P.depth t then none else
  match op with
  | .eql => eqK P 8 t x y fun b => k (.bool b)
  | .neq => eqK P 8 t x y fun b => k (.bool (!b))
  | _ => none
end

section
variable {P : Program} {G : Gh} {ι : Inj} {R : Type} {r : R}
def RecOk (P : Program) (G : Gh) (ι : Inj) {R : Type} (r : R) (d : Nat) (rec : TypeId → AV → AV → (Bool → Option R) → Option R) : Prop :=
  ∀ (t : TypeId) (x y : AV) (x' y' : Value) (k : Bool → Option R), rec t x y k = some r → VRel G ι x x' → VRel G ι y y' → ∃ b, k b = some r ∧ ∀ w, (Op.equalIn d t x' y').run P w = .ok b w

theorem eqFsK_ok {d : Nat} {rec : TypeId → AV → AV → (Bool → Option R) → Option R} (hrec : RecOk P G ι r d rec) {xs ys : List AV} {xs' ys' : Array Value} (hx : LRel G ι xs xs'.toList) (hy : LRel G ι ys ys'.toList) :
    ∀ (fs : List Field) (k : Bool → Option R), eqFsK P rec xs ys fs k = some r → ∃ b, k b = some r ∧ ∀ w, (Op.eqFields d xs' ys' fs).run P w = .ok b w
  | [], k, h => ⟨true, h, fun w => by simp [Op.eqFields]⟩
  | f :: fs, k, h => by
    simp only [eqFsK] at h
    cases hn : (f.name == "_")
    · simp only [hn, cond_false] at h
      have hn' : f.name ≠ "_" := by simpa using hn
      obtain ⟨u, u', h1, h2, h3⟩ := readK_part h hx
      obtain ⟨v, v', h4, h5, h6⟩ := readK_part h1 hy
      obtain ⟨b, h7, h8⟩ := hrec _ _ _ _ _ _ h4 h2 h5
      obtain ⟨c, h9, h10⟩ := eqFsK_ok hrec hx hy fs _ h7
      refine ⟨b && c, h9, fun w => ?_⟩
      simp only [Op.eqFields, hn', ne_eq, not_false_eq_true, if_true, Sem.run_bind, h3, h6, h8, Result.andThen_ok]
      cases b
      · simp
      · simp [h10]
    · simp only [hn, cond_true] at h
      obtain ⟨c, h9, h10⟩ := eqFsK_ok hrec hx hy fs k h
      have hn' : f.name = "_" := by simpa using hn
      exact ⟨c, h9, fun w => by simp [Op.eqFields, hn', h10]⟩

theorem eqIsK_ok {d : Nat} {rec : TypeId → AV → AV → (Bool → Option R) → Option R} (hrec : RecOk P G ι r d rec) {e : TypeId} {sz : Nat} {xs ys : List AV} {xs' ys' : Array Value} (hx : LRel G ι xs xs'.toList) (hy : LRel G ι ys ys'.toList) :
    ∀ (is : List Nat) (k : Bool → Option R), eqIsK P rec e sz xs ys is k = some r → ∃ b, k b = some r ∧ ∀ w, (Op.eqItems d e sz xs' ys' is).run P w = .ok b w
  | [], k, h => ⟨true, h, fun w => by simp [Op.eqItems]⟩
  | i :: is, k, h => by
    simp only [eqIsK] at h
    obtain ⟨u, u', h1, h2, h3⟩ := readK_part h hx
    obtain ⟨v, v', h4, h5, h6⟩ := readK_part h1 hy
    obtain ⟨b, h7, h8⟩ := hrec _ _ _ _ _ _ h4 h2 h5
    obtain ⟨c, h9, h10⟩ := eqIsK_ok hrec hx hy is _ h7
    refine ⟨b && c, h9, fun w => ?_⟩
    simp only [Op.eqItems, Sem.run_bind, h3, h6, h8, Result.andThen_ok]
    cases b
    · simp
    · simp [h10]

theorem eqK_ok : ∀ (n d : Nat), RecOk P G ι r (d + n) (eqK P n)
  | 0, d => fun t x y x' y' k h => by cases h
  | n + 1, d => fun t x y x' y' k h hx hy => by
    simp only [eqK] at h
    rw [show d + (n + 1) = (d + n) + 1 from rfl]
    split at h
    · rename_i a b ht
      rw [hx.bool_inv, hy.bool_inv]
      exact ⟨_, h, fun w => run_equalIn_bool' w _ t a b ht⟩
    · rename_i kk kd a kd' b ht
      split at h
      · rename_i he; subst he
        rw [hx.int_inv, hy.int_inv]
        exact ⟨_, h, fun w => run_equalIn_int w _ t _ _ a b ht⟩
      · cases h
    · rename_i a b ht
      rw [hx.str_inv, hy.str_inv]
      exact ⟨_, h, fun w => run_equalIn_string w _ t a b ht⟩
    · rename_i fs xs ys ht
      obtain ⟨xs', rfl, hxl⟩ := hx.agg_inv
      obtain ⟨ys', rfl, hyl⟩ := hy.agg_inv
      cases hp : P.stoodInHeld t
      · simp only [hp, cond_false] at h
        have hf : P.fieldsOf t = fs := by simp [Program.fieldsOf, ht]
        obtain ⟨b, h1, h2⟩ := eqFsK_ok (eqK_ok n d) hxl hyl _ _ h
        exact ⟨b, h1, fun w => by rw [run_equalIn_struct w _ t xs' ys' (by rw [hf]; exact ht) hp, hf]; exact h2 w⟩
      · simp [hp] at h
    · rename_i len e xs ys ht
      obtain ⟨xs', rfl, hxl⟩ := hx.agg_inv
      obtain ⟨ys', rfl, hyl⟩ := hy.agg_inv
      split at h
      · rename_i i hi
        obtain ⟨b, h1, h2⟩ := eqIsK_ok (eqK_ok n d) hxl hyl _ _ h
        exact ⟨b, h1, fun w => by rw [run_equalIn_array w _ xs' ys' ht hi]; exact h2 w⟩
      · cases h
    · cases h

theorem aggEqK_ok {op : BinOp} {t : TypeId} {xs ys : List AV} {k : AV → Option R} {x' y' : Value} {ox oy : Operand}
    (h : aggEqK P op t (.agg xs) (.agg ys) k = some r) (hx : VRel G ι (.agg xs) x') (hy : VRel G ι (.agg ys) y') :
    ∃ v v', k v = some r ∧ VRel G ι v v' ∧ ∀ w, (eqGuard op t ox oy x' y' >>= fun _ => binOp op t x' y').run P w = .ok v' w := by
  obtain ⟨xs', rfl, hxl⟩ := hx.agg_inv
  obtain ⟨ys', rfl, hyl⟩ := hy.agg_inv
  unfold aggEqK at h
  cases hg : P.eqGuardType P.depth t
  · simp only [hg, cond_false] at h
    split at h
    · obtain ⟨b, h1, h2⟩ := eqK_ok 8 9992 t _ _ _ _ _ h hx hy
      exact ⟨_, _, h1, .bool _, fun w => by rw [Sem.run_bind, run_eqGuard_agg w .eql t ox oy xs' ys' hg]; simp only [Result.andThen_ok]; rw [run_eql_struct w t xs' ys', h2 w]; rfl⟩
    · obtain ⟨b, h1, h2⟩ := eqK_ok 8 9992 t _ _ _ _ _ h hx hy
      exact ⟨_, _, h1, .bool _, fun w => by rw [Sem.run_bind, run_eqGuard_agg w .neq t ox oy xs' ys' hg]; simp only [Result.andThen_ok]; rw [run_neq_struct w t xs' ys', h2 w]; rfl⟩
    · cases h
  · simp [hg] at h
end
end Go.Ab
