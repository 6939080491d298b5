/- The abstract machine, part 18: soundness of regions and of code. No condition. -/
import Derived.Test.YtnalegahabfglaaDoorAbDenOk
set_option linter.all false
set_option linter.unusedVariables false
set_option linter.unusedSimpArgs false
namespace Go.Ab
open Go
section
variable {E : Env} {R : Type} {r : R}

theorem reach_live (objs : List AObj) : ∀ (n : Nat) (t acc : List Nat), (∀ i ∈ acc, (objs.getD i .dead).live = true) → ∀ i ∈ reach objs n t acc, (objs.getD i .dead).live = true
  | 0, t, acc, h, i, hi => h i (by simpa [reach] using hi)
  | n + 1, [], acc, h, i, hi => h i (by simpa [reach] using hi)
  | n + 1, j :: t, acc, h, i, hi => by
    simp only [reach] at hi
    cases hb : (acc.contains j || !(objs.getD j .dead).live)
    · simp only [hb, cond_false] at hi
      refine reach_live objs n _ _ (fun i' hi' => ?_) i hi
      cases hi' with
      | head => simp only [Bool.or_eq_false_iff, Bool.not_eq_false'] at hb; exact hb.2
      | tail _ hi' => exact h i' hi'
    · simp only [hb, cond_true] at hi
      exact reach_live objs n _ _ h i hi

/-- A call, seen by the caller. -/
theorem callK_ok {Γ : Ctr R} (hΓ : CtrOk E Γ) {G : Gh} {ι : Inj} {objs : List AObj} {w : World} {g : FuncId} {args : List AV} {args' : Array Value} {k : AV → List AObj → Option R}
    (h : callK Γ objs g args k = some r) (hR : Rel E G ι objs w) (ha : LRel G ι args args'.toList) :
    Enters E.P g ∧ Calls E.P g args' w fun e w' => ∃ G' ι' v v' objs', e = .returned v' ∧ k v objs' = some r ∧ VRel G' ι' v v' ∧ Rel E G' ι' objs' w' ∧ Ext (LiveB ι objs) G ι w G' ι' objs' w' := by
  have gen : ∀ (ids : List Nat), nodup ids = true → (∀ i ∈ ids, (objs.getD i .dead).live = true) →
      (Γ g (renL (idx ids) args) (pickO objs ids) fun v objs' => k (ren (backF ids ids.length objs.length) v) (mergeO objs ids objs')) = some r →
      Enters E.P g ∧ Calls E.P g args' w fun e w' => ∃ G' ι' v v' objs', e = .returned v' ∧ k v objs' = some r ∧ VRel G' ι' v v' ∧ Rel E G' ι' objs' w' ∧ Ext (LiveB ι objs) G ι w G' ι' objs' w' := fun ids hn hl hk => by
    obtain ⟨hen, v, objs', hs, hk2⟩ := hΓ _ _ _ _ _ hk
    refine ⟨hen, (hs G (pickι ι ids) w args' (hR.pick hn) (LRel.ren (pick_carries ι ids) ha)).mono ?_⟩
    rintro e w' ⟨G', ι', v', he, hv, hR', hx⟩
    obtain ⟨m1, m2, m3⟩ := hR.merge hn (fun i hi => by
      have := hl i hi
      rw [List.getD_eq_getElem?_getD] at this
      cases ho : objs[i]? with
      | none => rw [ho] at this; simp [AObj.live] at this
      | some o => rw [ho] at this; exact ⟨o, rfl, this⟩) hR' hx
    exact ⟨G', _, _, v', _, he, hk2, ren_rel m3 hv, m1, m2⟩
  unfold callK at h
  generalize reach objs 200 (idsL args) [] = ids at h
  cases ids with
  | nil => exact gen [] rfl (fun i hi => by cases hi) h
  | cons i0 l0 =>
    generalize i0 :: l0 = ids at h
    have h' : (bif nodup ids && ids.all fun i => (objs.getD i .dead).live then
      Γ g (renL (idx ids) args) (pickO objs ids) fun v objs' => k (ren (backF ids ids.length objs.length) v) (mergeO objs ids objs') else none) = some r := by
      cases ids <;> exact h
    cases hb : (nodup ids && ids.all fun i => (objs.getD i .dead).live)
    · rw [hb] at h'; cases h'
    · rw [hb] at h'
      simp only [Bool.and_eq_true, List.all_eq_true] at hb
      exact gen _ hb.1 hb.2 h'

theorem args_rel {G : Gh} {ι : Inj} {t : List AV} {a : Act} (ht : LRel G ι t a.tmps.toList) {first cap : List AV} {us vs : Array Value} (h1 : LRel G ι first us.toList) (h2 : LRel G ι cap vs.toList) (args : Array Operand) :
    LRel G ι (first ++ args.toList.map (aeval t) ++ cap) (us ++ args.map a.eval ++ vs).toList := by
  have := (h1.append (cell_slot (aeval_rel ht) args)).append h2
  simpa using this

theorem fn_inv {G : Gh} {ι : Inj} {g : Fn} {xs ys : List AV} {v : Value} (h : VRel G ι (.fn g xs ys) v) : ∃ us vs : Array Value, v = .func g us vs ∧ LRel G ι xs us.toList ∧ LRel G ι ys vs.toList := by
  cases h with
  | fn hx h1 hy h2 => exact ⟨_, _, rfl, ⟨by simpa using hx, fun i a v e1 e2 => h1 i a v e1 (by simpa using e2)⟩, ⟨by simpa using hy, fun i a v e1 e2 => h2 i a v e1 (by simpa using e2)⟩⟩

/-- One operation of a region in the text's order. -/
theorem operK_ok {Γ : Ctr R} (hΓ : CtrOk E Γ) {s : St0} {o : Oper} {t : List AV} {objs : List AObj} {k : List AV → List AObj → Option R} (h : operK E.P Γ o t objs k = some r)
    {a : Act} {w : World} (hI : Inv E s t objs a w) {next : Act → World → Prop} {Q : Exit → Act → World → Prop}
    (hn : ∀ t' objs' a' w', k t' objs' = some r → Inv E s t' objs' a' w' → next a' w') : o.wp E.P a w next Q := by
  obtain ⟨G, ι, hR, ht, hx, hd, hz⟩ := hI
  have fin : ∀ (v : AV) (objs' : List AObj) (v' : Value) (w' : World) (G' : Gh) (ι' : Inj), k (putA t o.dst v) objs' = some r → VRel G' ι' v v' → Rel E G' ι' objs' w' → Ext (LiveB ι objs) G ι w G' ι' objs' w' →
      next (a.put o.dst v') w' := fun v objs' v' w' G' ι' hk hv hR' hx' =>
    hn _ _ _ _ hk ⟨G', ι', hR', (ht.mono hx'.gle hx'.ile).put o.dst hv, hx.trans hx', by rw [put_defers]; exact hd, by rw [put_size]; exact hz⟩
  unfold Oper.wp
  unfold operK at h
  split at h
  · rename_i f args ts ho
    split at h
    · rename_i g first cap hf
      have hfr := aeval_rel ht f
      rw [hf] at hfr
      obtain ⟨us, vs, hfv, h1, h2⟩ := fn_inv hfr
      obtain ⟨hen, hc⟩ := callK_ok hΓ h hR (args_rel ht h1 h2 args)
      rw [run_call hen ho hfv, Oper.upon_enter]
      refine hc.mono ?_
      rintro e w' ⟨G', ι', v, v', objs', rfl, hk, hv, hR', hx'⟩
      exact fin v objs' v' w' G' ι' hk hv hR' hx'
    · cases h
  · cases hb : isEff o.op
    · simp only [hb, cond_false] at h
      obtain ⟨v, v', hk, hv, hrun⟩ := quiet2K_ok h (aeval_rel ht) hR
      rw [hrun w (Agree.refl w), Oper.upon_value]
      exact fin v objs v' w G ι hk hv hR (Ext.refl _ _ _ _)
    · simp only [hb, cond_true] at h
      obtain ⟨v, objs', hk, v', w', nx, ι', hrun, hnx, hv, hR', hx'⟩ := effK_ok h (aeval_rel ht) hR
      rw [hrun]
      rcases hnx with rfl | ⟨rfl, rfl⟩
      · rw [Oper.upon_value]; exact fin v objs' v' w' G ι' hk hv hR' hx'
      · rw [Oper.upon_skip]; exact fin v objs' undef w' G ι' hk hv hR' hx'

theorem opsK_ok {Γ : Ctr R} (hΓ : CtrOk E Γ) {s : St0} {ops : Array Oper} {Q : Exit → Act → World → Prop} {k : List AV → List AObj → Option R}
    (hQ : ∀ t' objs' a' w', k t' objs' = some r → Inv E s t' objs' a' w' → Q .normal a' w') :
    ∀ (l : List Oper) (n : Nat), ops.toList.drop n = l → ∀ (t : List AV) (objs : List AObj) (a : Act) (w : World), opsK E.P Γ ops l t objs k = some r → Inv E s t objs a w →
      wpOps E.P ops Q (List.range' n l.length) a w
  | [], n, _, t, objs, a, w, h, hI => hQ t objs a w h hI
  | o :: l, n, hl, t, objs, a, w, h, hI => by
    have hn : ops[n]? = some o := by
      have : (ops.toList.drop n)[0]? = some o := by rw [hl]; rfl
      rw [List.getElem?_drop] at this
      simpa using this
    have hl' : ops.toList.drop (n + 1) = l := by rw [← List.drop_drop, hl]; rfl
    simp only [opsK] at h
    obtain ⟨G, ι, hR, ht, hx, hd, hz⟩ := hI
    simp only [List.length_cons, List.range'_succ, wpOps, hn]
    rcases guardK_ok h ht with ⟨hw, h1⟩ | ⟨hw, h1⟩
    · rw [if_pos hw]
      left
      exact operK_ok hΓ h1 ⟨G, ι, hR, ht, hx, hd, hz⟩ fun t' objs' a' w' hk hI' => opsK_ok hΓ hQ l (n + 1) hl' t' objs' a' w' hk hI'
    · rw [if_neg (by rw [hw]; simp)]
      exact opsK_ok hΓ hQ l (n + 1) hl' _ _ _ _ h1 ⟨G, ι, hR, ht.put o.dst skip_rel, hx, by rw [put_defers]; exact hd, by rw [put_size]; exact hz⟩
end
end Go.Ab
