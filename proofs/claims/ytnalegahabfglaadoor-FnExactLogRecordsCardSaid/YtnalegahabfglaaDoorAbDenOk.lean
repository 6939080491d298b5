/- The abstract machine, part 17: soundness of single operations. No condition. -/
import Derived.Test.YtnalegahabfglaaDoorAbDen
set_option linter.all false
set_option linter.unusedVariables false
set_option linter.unusedSimpArgs false
namespace Go.Ab
open Go
section
variable {E : Env} {G : Gh} {ι : Inj} {R : Type} {objs : List AObj} {w : World} {r : R}

theorem quiet2X_ok {X : Nat → Prop} {k : AV → Option R} {w0 : World} {o : Oper} {ρ : Operand → AV} {ρ' : Operand → Value} (h : quiet2K E.P objs ρ o.op k = some r)
    (hρ : ∀ x, VRel G ι (ρ x) (ρ' x)) (hR : Rel E G ι objs w0) (hX : NoX X G ι objs) :
    ∃ v v', k v = some r ∧ VRel G ι v v' ∧ ∀ w, AgreeX X w0 w → (execOp ρ' o).run E.P w = .ok (.value v') w := by
  unfold quiet2K at h
  split at h
  · rename_i t ps ho
    obtain ⟨v, v', h1, h2, h3⟩ := buildK_ok h hρ
    exact ⟨v, v', h1, h2, fun w _ => by simp [execOp, ho, h3]⟩
  · rename_i op ty x y u ho
    split at h
    · rename_i xs ys e1 e2
      have h1 := hρ x
      have h2 := hρ y
      rw [e1] at h1; rw [e2] at h2
      obtain ⟨v, v', g1, g2, g3⟩ := aggEqK_ok (ox := x) (oy := y) h h1 h2
      refine ⟨v, v', g1, g2, fun w _ => ?_⟩
      have he : (execOp ρ' o).run E.P w = ((eqGuard op ty x y (ρ' x) (ρ' y) >>= fun _ => binOp op ty (ρ' x) (ρ' y)) >>= fun v => pure (Next.value v)).run E.P w := by simp [execOp, ho]
      rw [he, Sem.run_bind, g3 w]; rfl
    · exact quietX_ok (by rw [ho]; exact h) hρ hR hX
  · rename_i s d x ho
    cases hb : (isBytes E.P s && isStrT E.P d)
    · simp only [hb, cond_false] at h
      exact quietX_ok (by rw [ho]; exact h) hρ hR hX
    · simp only [hb, cond_true] at h
      simp only [Bool.and_eq_true] at hb
      obtain ⟨v, v', h1, h2, h3⟩ := toStrK_ok h (hρ x) hR hX hb.1 hb.2
      exact ⟨v, v', h1, h2, fun w hw => by simp [execOp, ho, h3 w hw]⟩
  · exact quietX_ok h hρ hR hX

theorem quiet2K_ok {k : AV → Option R} {w0 : World} {o : Oper} {ρ : Operand → AV} {ρ' : Operand → Value} (h : quiet2K E.P objs ρ o.op k = some r)
    (hρ : ∀ x, VRel G ι (ρ x) (ρ' x)) (hR : Rel E G ι objs w0) :
    ∃ v v', k v = some r ∧ VRel G ι v v' ∧ ∀ w, Agree w0 w → (execOp ρ' o).run E.P w = .ok (.value v') w := by
  obtain ⟨v, v', h1, h2, h3⟩ := quiet2X_ok h hρ hR (NoX.none G ι objs)
  exact ⟨v, v', h1, h2, fun w hw => h3 w hw.toX⟩

theorem effK_ok {k : AV → List AObj → Option R} {o : Oper} {ρ : Operand → AV} {ρ' : Operand → Value} (h : effK E.P objs ρ o.op k = some r)
    (hρ : ∀ x, VRel G ι (ρ x) (ρ' x)) (hR : Rel E G ι objs w) :
    ∃ v objs', k v objs' = some r ∧ EffOk E G ι objs w v objs' ((execOp ρ' o).run E.P w) := by
  unfold effK at h
  split at h
  · rename_i e x ho
    obtain ⟨u, objs', h1, h2⟩ := boxK_ok (e := e) h (hρ x) hR
    refine ⟨u, objs', h1, ?_⟩
    have : (execOp ρ' o).run E.P w = .ok (.value (.pointer (some ⟨w.heap.size, 0, none⟩))) (w.alloc (.cells (ρ' x).cells e)) := by
      simp [execOp, ho, Instr.box, newVar, newRow]
    rw [this]; exact h2
  · rename_i e ho
    split at h
    · rename_i z hz
      obtain ⟨i0, hi0, hz0⟩ := Option.bind_eq_some_iff.1 hz
      obtain ⟨u, objs', h1, h2⟩ := boxK_ok (e := e) h (ofConst_rel G ι z) hR
      refine ⟨u, objs', h1, ?_⟩
      have : (execOp ρ' o).run E.P w = .ok (.value (.pointer (some ⟨w.heap.size, 0, none⟩))) (w.alloc (.cells z.cells e)) := by
        simp [execOp, ho, Instr.alloc, newVar, newRow, zeroValue, typeInfo, hi0, hz0]
      rw [this]; exact h2
    · cases h
  · rename_i t p x ho
    obtain ⟨objs', h1, w', h2, h3, h4⟩ := storeK_ok h (hρ p) (hρ x) hR
    refine ⟨_, objs', h1, undef, w', .skip, ι, ?_, .inr ⟨rfl, rfl⟩, .tupL (by simpa using LRel.nil), h3, h4⟩
    simp [execOp, ho, h2]
  · rename_i t len ps ho
    obtain ⟨u, objs', h1, v', w', ι', h2, h3, h4, h5⟩ := buildSliceK_ok h hρ hR
    refine ⟨u, objs', h1, v', w', _, ι', ?_, .inl rfl, h3, h4, h5⟩
    simp [execOp, ho, h2]
  · rename_i args ts ho
    split at h
    · rename_i s x hs hx
      cases hb : (args.size == 2 && ts.size == 2)
      · simp [hb] at h
      · simp only [hb, cond_true] at h
        simp only [Bool.and_eq_true, beq_iff_eq] at hb
        obtain ⟨u, objs', h1, v', w', ι', h2, h3, h4, h5⟩ := appendK_ok (ty := o.type) hb.2 h (hρ s) (hρ x) hR
        refine ⟨u, objs', h1, v', w', _, ι', ?_, .inl rfl, h3, h4, h5⟩
        have ha : args.map ρ' = #[ρ' s, ρ' x] := by
          apply Array.ext (by simp [hb.1])
          intro i hi1 hi2
          simp at hi2
          match i, hi2 with
          | 0, _ => have : args[0]? = some args[0] := Array.getElem?_eq_getElem _; rw [this] at hs; simp at hs; simp [hs]
          | 1, _ => have : args[1]? = some args[1] := Array.getElem?_eq_getElem _; rw [this] at hx; simp at hx; simp [hx]
        simp [execOp, ho, resolve, invoke, builtin, ha, h2]
    · cases h
  · cases h
end

/-! ### What the interpreter's state stands for -/
structure St0 where
  L : Nat → Prop
  G : Gh
  ι : Inj
  w : World
  m : Nat
  nt : Nat

/-- The state in the midst of a call. -/
def Inv (E : Env) (s : St0) (t : List AV) (objs : List AObj) (a : Act) (w : World) : Prop :=
  ∃ G ι, Rel E G ι objs w ∧ LRel G ι t a.tmps.toList ∧ Ext s.L s.G s.ι s.w G ι objs w ∧ a.defers = [] ∧ a.tmps.size = s.nt

theorem LRel.put {G : Gh} {ι : Inj} {t : List AV} {a : Act} (h : LRel G ι t a.tmps.toList) (dst : Option Nat) {v : AV} {v' : Value} (hv : VRel G ι v v') :
    LRel G ι (putA t dst v) (a.put dst v').tmps.toList := by
  cases dst with
  | none => exact h
  | some d =>
    simp only [putA, Act.put, Array.toList_setIfInBounds]
    exact h.set d hv
theorem put_defers (a : Act) (dst : Option Nat) (v : Value) : (a.put dst v).defers = a.defers := by cases dst <;> rfl
theorem put_size (a : Act) (dst : Option Nat) (v : Value) : (a.put dst v).tmps.size = a.tmps.size := by cases dst <;> simp [Act.put]
theorem skip_rel {G : Gh} {ι : Inj} : VRel G ι (.tup []) undef := .tupL (by simpa using LRel.nil)

/-- A temporary's value written out: nothing turns. -/
theorem set_same {t : List AV} {d : Nat} {g : Bool} (h : t.getD d .undef = .bool g) : t.set d (.bool g) = t := by
  have := getD_undef h (by simp)
  apply List.ext_getElem?
  intro i
  rw [List.getElem?_set]
  split
  · rename_i e; subst e
    split
    · exact this.symm
    · rename_i hlt; rw [List.getElem?_eq_none (by omega)]
  · rfl

theorem guardK_ok {R : Type} {r : R} {ops : Array Oper} {o : Oper} {t : List AV} {exec skip : List AV → Option R} (h : guardK ops o t exec skip = some r)
    {G : Gh} {ι : Inj} {a : Act} (ht : LRel G ι t a.tmps.toList) :
    (Region.wanted o (yielded ops a.tmps) = true ∧ exec t = some r) ∨ (Region.wanted o (yielded ops a.tmps) = false ∧ skip t = some r) := by
  unfold guardK at h
  split at h
  · rename_i hg; exact .inl ⟨by simp [Region.wanted, hg], h⟩
  · rename_i j want hg
    split at h
    · rename_i hd; exact .inr ⟨by simp [Region.wanted, hg, yielded, hd], h⟩
    · rename_i d hd
      have key : ∀ v, t.getD d .undef = v → v ≠ .undef → ∃ u, a.tmps[d]? = some u ∧ VRel G ι v u := fun v hv hne => by
        obtain ⟨u, hu, hr⟩ := ht.get (getD_undef hv hne)
        exact ⟨u, by simpa using hu, hr⟩
      split at h
      · rename_i g hv
        obtain ⟨u, hu, hr⟩ := key _ hv (by simp)
        have hu' := hr.bool_inv
        subst hu'
        cases g <;> cases want <;> simp only [cond_true, cond_false] at h <;> rw [set_same hv] at h
        · exact .inl ⟨by simp [Region.wanted, hg, yielded, hd, hu], h⟩
        · exact .inr ⟨by simp [Region.wanted, hg, yielded, hd, hu], h⟩
        · exact .inr ⟨by simp [Region.wanted, hg, yielded, hd, hu], h⟩
        · exact .inl ⟨by simp [Region.wanted, hg, yielded, hd, hu], h⟩
      · rename_i hv
        obtain ⟨u, hu, hr⟩ := key _ hv (by simp)
        obtain ⟨vs, rfl, hl⟩ := hr.tup_inv
        exact .inr ⟨by simp [Region.wanted, hg, yielded, hd, hu], h⟩
      · cases h

/-- A function that a call enters. -/
def Enters (P : Program) (g : FuncId) : Prop := ∃ fn, P.funcs[g]? = some fn ∧ (fn.name == "runtime.NumGoroutine") = false ∧ fn.body.isNone = false

theorem run_call {P : Program} {g : FuncId} (h : Enters P g) {o : Oper} {f : Operand} {args : Array Operand} {ts : Array TypeId} {ρ' : Operand → Value} {us vs : Array Value}
    (ho : o.op = .call ⟨.value f, args, ts⟩) (hf : ρ' f = .func (.func g) us vs) (w : World) :
    (execOp ρ' o).run P w = .ok (.enter g (us ++ args.map ρ' ++ vs)) w := by
  obtain ⟨fn, h1, h2, h3⟩ := h
  have h2' : ¬ fn.name = "runtime.NumGoroutine" := by simpa using h2
  have h3' : ¬ fn.body = none := fun e => by rw [e] at h3; simp at h3
  simp [execOp, ho, resolve, hf, Deferred.ofValue, invoke, callFunc, h1, h2', h3']

/-- The contracts are sound. -/
def CtrOk (E : Env) {R : Type} (Γ : Ctr R) : Prop := ∀ g args objs k r, Γ g args objs k = some r → Enters E.P g ∧ ∃ v objs', Sim E g args objs v objs' ∧ k v objs' = some r

end Go.Ab
