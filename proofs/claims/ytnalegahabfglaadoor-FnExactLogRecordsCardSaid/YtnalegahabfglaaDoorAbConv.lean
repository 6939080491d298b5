/- The abstract machine: bytes to text. No condition. -/
import Derived.Test.YtnalegahabfglaaDoorAbMem
import Derived.Laws.BytesArg
set_option linter.all false
set_option linter.unusedVariables false
set_option linter.unusedSimpArgs false
namespace Go.Ab
open Go
section
variable {R : Type}
def bytesL : List AV → Option (List Int)
  | [] => some []
  | a :: as => (gInt .u8 a).bind fun n => (bytesL as).map fun l => n :: l
def rowOf (objs : List AObj) : AV → Option (List AV × Nat)
  | .sref i off n sz => bif sz == 1 then (match objs[i]? with
    | some (.cells _ cs) => some ((cs.drop off).take n, n)
    | _ => none) else none
  | .sval cs n _ => some (cs.take n, n)
  | .nils => some ([], 0)
  | _ => none
def isU8 : Option TypeDesc → Bool
  | some (.int .u8) => true
  | _ => false
def isBytes (P : Program) (t : TypeId) : Bool :=
  match P.underlying t with
  | some (.slice e) => isU8 (P.underlying e)
  | _ => false
def isStrT (P : Program) (t : TypeId) : Bool :=
  match P.underlying t with
  | some .string => true
  | _ => false
def toStrK (objs : List AObj) (x : AV) (k : AV → Option R) : Option R :=
  match rowOf objs x with
  | some (row, n) => (bytesL row).bind fun l => chk (decide (row.length = n)) (k (.str (strOfNums l)))
  | none => none
end
theorem bytesL_ok : ∀ (as : List AV) (l : List Int), bytesL as = some l → l.length = as.length ∧ ∀ (j : Nat) (a : AV), as[j]? = some a → a = .int .u8 (l.getD j 0)
  | [], l, h => by simp [bytesL] at h; subst h; exact ⟨rfl, fun j a h => by simp at h⟩
  | a :: as, l, h => by
    simp only [bytesL] at h
    obtain ⟨n, h1, h2⟩ := Option.bind_eq_some_iff.1 h
    obtain ⟨l', h3, rfl⟩ := Option.map_eq_some_iff.1 h2
    obtain ⟨h4, h5⟩ := bytesL_ok as l' h3
    refine ⟨by simp [h4], fun j b hb => ?_⟩
    cases j with
    | zero => simp at hb; subst hb; simpa using gInt_eq h1
    | succ j => simpa using h5 j b (by simpa using hb)

theorem toStrK_ok {E : Env} {G : Gh} {ι : Inj} {R : Type} {objs : List AObj} {w0 : World} {x : AV} {x' : Value} {k : AV → Option R} {r : R} {X : Nat → Prop} (h : toStrK objs x k = some r) (hx : VRel G ι x x') (hR : Rel E G ι objs w0) (hX : NoX X G ι objs)
    {s d : TypeId} (hs : isBytes E.P s = true) (hd : isStrT E.P d = true) :
    ∃ v v', k v = some r ∧ VRel G ι v v' ∧ ∀ w, AgreeX X w0 w → (convert s d x').run E.P w = .ok v' w := by
  obtain ⟨e, hse, he⟩ : ∃ e, E.P.underlying s = some (.slice e) ∧ E.P.underlying e = some (.int .u8) := by
    unfold isBytes at hs
    split at hs
    · rename_i e he
      refine ⟨e, he, ?_⟩
      unfold isU8 at hs
      split at hs
      · assumption
      · cases hs
    · cases hs
  have hdt : E.P.underlying d = some .string := by
    unfold isStrT at hd
    split at hd
    · assumption
    · cases hd
  unfold toStrK at h
  split at h
  · rename_i row n hrow
    obtain ⟨l, h1, h2⟩ := Option.bind_eq_some_iff.1 h
    obtain ⟨h3, h4⟩ := chk_some h2
    have hrl : row.length = n := by simpa using h3
    obtain ⟨hl, hb⟩ := bytesL_ok row l h1
    refine ⟨_, .string (strOfNums l), h4, .str _, fun w hw => ?_⟩
    have main : ∀ (B o cap : Nat), (0 < n → ¬ X B) → (∀ (j : Nat) (a : AV), row[j]? = some a → ∃ v, VRel G ι a v ∧ w0.cell? ⟨B, o + j, none⟩ = some v) →
        (convert s d (.slice (some ⟨B, o, none⟩) n cap)).run E.P w = .ok (.string (strOfNums l)) w := fun B o cap hB hc =>
      run_convert_bytes_arg w s e hse he B o n cap l (by omega) (fun i hi => by
        have hir : i < row.length := by omega
        obtain ⟨v, hv, hcell⟩ := hc i _ (List.getElem?_eq_getElem hir)
        rw [hb i _ (List.getElem?_eq_getElem hir)] at hv
        rw [hv.int_inv] at hcell
        exact hw _ _ _ (hB (by omega)) hcell) d hdt
    have nilC : n = 0 → l = [] := fun h0 => List.length_eq_zero_iff.1 (by omega)
    unfold rowOf at hrow
    split at hrow
    · rename_i i off m sz
      cases hsz : (sz == 1)
      · simp [hsz] at hrow
      · simp only [hsz, cond_true] at hrow
        split at hrow
        · rename_i flat cs hi
          simp only [Option.some.injEq, Prod.mk.injEq] at hrow
          obtain ⟨rfl, rfl⟩ := hrow
          cases hx with
          | sref hι hcap hle =>
            obtain ⟨B', C', g1, _, _, g2⟩ := hR.obj _ _ hi rfl
            rw [hι] at g1; cases g1
            refine main _ _ _ (fun _ => hX.1 _ _ _ _ hi rfl hι) fun j a ha => ?_
            rw [List.getElem?_take] at ha
            split at ha
            · rw [List.getElem?_drop] at ha
              obtain ⟨v, hv, hc⟩ := g2.cells_cell ha
              exact ⟨v, hv, hc⟩
            · cases ha
        · cases hrow
    · rename_i cs m full
      simp only [Option.some.injEq, Prod.mk.injEq] at hrow
      obtain ⟨rfl, rfl⟩ := hrow
      cases hx with
      | sval vf hg hv hf hle =>
        have hcs : ∀ j a, (cs.take m)[j]? = some a → cs[j]? = some a ∧ j < cs.length := fun j a ha => by
          rw [List.getElem?_take] at ha
          split at ha
          · exact ⟨ha, (List.getElem?_eq_some_iff.1 ha).1⟩
          · cases ha
        refine main _ _ _ (fun h0 => ?_) fun j a ha => ⟨_, (hv j a (hcs j a ha).1).closed, hR.stays _ _ _ (hg j (hcs j a ha).2)⟩
        have : 0 < cs.length := by simp at hrl; omega
        exact hX.2 _ _ _ (hg 0 this)
      | svalNil =>
        have := nilC rfl
        subst this
        exact run_convert_bytes_nil w s e hse he 0 0 d hdt
    · simp only [Option.some.injEq, Prod.mk.injEq] at hrow
      obtain ⟨rfl, rfl⟩ := hrow
      cases hx
      have := nilC rfl
      subst this
      exact run_convert_bytes_nil w s e hse he 0 0 d hdt
    · cases hrow
  · cases h
end Go.Ab
