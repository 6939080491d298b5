/- Texts of the claim, merged: AbRun, AbRun2, AbAny, AbAny2, AbAny3, AbAny4, AbTail, AbRun3. No condition. -/
import Derived.Test.YtnalegahabfglaaDoorAbDenOk
import Derived.StillTail
import Derived.Test.YtnalegahabfglaaDoorAbTail0
set_option linter.all false
set_option linter.unusedVariables false
set_option linter.unusedSimpArgs false
section
namespace Go.Ab
open Go
section
variable {E : Env} {R : Type} {r : R}

theorem reach_live (objs : List AObj) : ∀ (n : Nat) (t acc : List Nat), (∀ i ∈ acc, (objs.getD i .dead).live = true) → ∀ i ∈ reach objs n t acc, (objs.getD i .dead).live = true
  | 0, t, acc, h, i, hi => h i (by simpa [reach] using hi)
  | n + 1, [], acc, h, i, hi => h i (by simpa [reach] using hi)
  | n + 1, j :: t, acc, h, i, hi => by
    simp only [reach] at hi
    cases hb : (acc.contains j || !(objs.getD j .dead).live)
    · simp only [hb, cond_false] at hi
      refine reach_live objs n _ _ (fun i' hi' => ?_) i hi
      cases hi' with
      | head => simp only [Bool.or_eq_false_iff, Bool.not_eq_false'] at hb; exact hb.2
      | tail _ hi' => exact h i' hi'
    · simp only [hb, cond_true] at hi
      exact reach_live objs n _ _ h i hi

theorem wkA_rel {G : Gh} {ι : Inj} {a : AV} {v : Value} (h : VRel G ι a v) : VRel G ι (wkA a) v := by
  have hL : ∀ (cs : List AV), wkAL cs = cs.map wkA := by
    intro cs
    induction cs with
    | nil => rfl
    | cons c cs ih => simp only [wkAL, List.map_cons, ih]
  induction h with
  | agg hl _ ih =>
    simp only [wkA, hL]
    refine .agg (by simpa using hl) fun i a v h1 h2 => ?_
    rw [List.getElem?_map] at h1
    obtain ⟨b, hb, rfl⟩ := Option.map_eq_some_iff.1 h1
    exact ih i b v hb h2
  | tup hl _ ih =>
    simp only [wkA, hL]
    refine .tup (by simpa using hl) fun i a v h1 h2 => ?_
    rw [List.getElem?_map] at h1
    obtain ⟨b, hb, rfl⟩ := Option.map_eq_some_iff.1 h1
    exact ih i b v hb h2
  | nils => simp only [wkA]; exact .svalNil
  | svalNil => simp only [wkA]; exact .svalNil
  | sval vf hg h hf hl _ => simp only [wkA]; exact .sval vf hg h (fun e => by cases e) hl
  | undef v => simp only [wkA]; exact .undef v
  | int k n => simp only [wkA]; exact .int k n
  | bool b => simp only [wkA]; exact .bool b
  | str s => simp only [wkA]; exact .str s
  | ptr h => simp only [wkA]; exact .ptr h
  | nilp => simp only [wkA]; exact .nilp
  | cptr vf hg h _ => simp only [wkA]; exact .cptr vf hg h
  | sref h hc hl => simp only [wkA]; exact .sref h hc hl
  | map h => simp only [wkA]; exact .map h
  | nilm => simp only [wkA]; exact .nilm
  | fn hx h1 hy h2 _ _ => simp only [wkA]; exact .fn hx h1 hy h2
  | nilf => simp only [wkA]; exact .nilf
  | iface t h _ => simp only [wkA]; exact .iface t h
  | nili => simp only [wkA]; exact .nili
theorem wkAL_rel {G : Gh} {ι : Inj} : ∀ {as : List AV} {vs : List Value}, LRel G ι as vs → LRel G ι (wkAL as) vs
  | [], vs, h => h
  | a :: as, [], h => absurd h.1 (by simp)
  | a :: as, v :: vs, h => by
    simp only [wkAL]
    exact LRel.cons (wkA_rel (h.2 0 a v rfl rfl)) (wkAL_rel ⟨by simpa using h.1, fun i b u h1 h2 => h.2 (i + 1) b u (by simpa using h1) (by simpa using h2)⟩)

/-- A call, seen by the caller. -/
theorem callK_ok {Γ : Ctr R} (hΓ : CtrOk E Γ) {G : Gh} {ι : Inj} {objs : List AObj} {w : World} {g : FuncId} {args : List AV} {args' : Array Value} {k : AV → List AObj → Option R}
    (h : callK Γ objs g args k = some r) (hR : Rel E G ι objs w) (ha : LRel G ι args args'.toList) :
    Enters E.P g ∧ Calls E.P g args' w fun e w' => ∃ G' ι' v v' objs', e = .returned v' ∧ k v objs' = some r ∧ VRel G' ι' v v' ∧ Rel E G' ι' objs' w' ∧ Ext (LiveB ι objs) G ι w G' ι' objs' w' := by
  have gen : ∀ (ids : List Nat), nodup ids = true → (∀ i ∈ ids, (objs.getD i .dead).live = true) →
      (Γ g (renL (idx ids) (wkAL args)) (pickO objs ids) fun v objs' => k (ren (backF ids ids.length objs.length) v) (mergeO objs ids objs')) = some r →
      Enters E.P g ∧ Calls E.P g args' w fun e w' => ∃ G' ι' v v' objs', e = .returned v' ∧ k v objs' = some r ∧ VRel G' ι' v v' ∧ Rel E G' ι' objs' w' ∧ Ext (LiveB ι objs) G ι w G' ι' objs' w' := fun ids hn hl hk => by
    obtain ⟨hen, v, objs', hs, hk2⟩ := hΓ _ _ _ _ _ hk
    refine ⟨hen, (hs G (pickι ι ids) w args' (hR.pick hn) (LRel.ren (pick_carries ι ids) (wkAL_rel ha))).mono ?_⟩
    rintro e w' ⟨G', ι', v', he, hv, hR', hx⟩
    obtain ⟨m1, m2, m3⟩ := hR.merge hn (fun i hi => by
      have := hl i hi
      rw [List.getD_eq_getElem?_getD] at this
      cases ho : objs[i]? with
      | none => rw [ho] at this; simp [AObj.live] at this
      | some o => rw [ho] at this; exact ⟨o, rfl, this⟩) hR' hx
    exact ⟨G', _, _, v', _, he, hk2, ren_rel m3 hv, m1, m2⟩
  unfold callK at h
  generalize reach objs 200 (idsL args) [] = ids at h
  cases ids with
  | nil => exact gen [] rfl (fun i hi => by cases hi) h
  | cons i0 l0 =>
    generalize i0 :: l0 = ids at h
    have h' : (bif nodup ids && ids.all fun i => (objs.getD i .dead).live then
      Γ g (renL (idx ids) (wkAL args)) (pickO objs ids) fun v objs' => k (ren (backF ids ids.length objs.length) v) (mergeO objs ids objs') else none) = some r := by
      cases ids <;> exact h
    cases hb : (nodup ids && ids.all fun i => (objs.getD i .dead).live)
    · rw [hb] at h'; cases h'
    · rw [hb] at h'
      simp only [Bool.and_eq_true, List.all_eq_true] at hb
      exact gen _ hb.1 hb.2 h'

theorem args_rel {G : Gh} {ι : Inj} {t : List AV} {a : Act} (ht : LRel G ι t a.tmps.toList) {first cap : List AV} {us vs : Array Value} (h1 : LRel G ι first us.toList) (h2 : LRel G ι cap vs.toList) (args : Array Operand) :
    LRel G ι (first ++ args.toList.map (aeval t) ++ cap) (us ++ args.map a.eval ++ vs).toList := by
  have := (h1.append (cell_slot (aeval_rel ht) args)).append h2
  simpa using this

theorem fn_inv {G : Gh} {ι : Inj} {g : Fn} {xs ys : List AV} {v : Value} (h : VRel G ι (.fn g xs ys) v) : ∃ us vs : Array Value, v = .func g us vs ∧ LRel G ι xs us.toList ∧ LRel G ι ys vs.toList := by
  cases h with
  | fn hx h1 hy h2 => exact ⟨_, _, rfl, ⟨by simpa using hx, fun i a v e1 e2 => h1 i a v e1 (by simpa using e2)⟩, ⟨by simpa using hy, fun i a v e1 e2 => h2 i a v e1 (by simpa using e2)⟩⟩

/-- One operation of a region in the text's order. -/
theorem operK_ok {Γ : Ctr R} (hΓ : CtrOk E Γ) {s : St0} {o : Oper} {t : List AV} {objs : List AObj} {k : List AV → List AObj → Option R} (h : operK E.P Γ o t objs k = some r)
    {a : Act} {w : World} (hI : Inv E s t objs a w) {next : Act → World → Prop} {Q : Exit → Act → World → Prop}
    (hn : ∀ t' objs' a' w', k t' objs' = some r → Inv E s t' objs' a' w' → next a' w') : o.wp E.P a w next Q := by
  obtain ⟨G, ι, hR, ht, hx, hd, hz⟩ := hI
  have fin : ∀ (v : AV) (objs' : List AObj) (v' : Value) (w' : World) (G' : Gh) (ι' : Inj), k (putA t o.dst v) objs' = some r → VRel G' ι' v v' → Rel E G' ι' objs' w' → Ext (LiveB ι objs) G ι w G' ι' objs' w' →
      next (a.put o.dst v') w' := fun v objs' v' w' G' ι' hk hv hR' hx' =>
    hn _ _ _ _ hk ⟨G', ι', hR', (ht.mono hx'.gle hx'.ile).put o.dst hv, hx.trans hx', by rw [put_defers]; exact hd, by rw [put_size]; exact hz⟩
  unfold Oper.wp
  unfold operK at h
  split at h
  · rename_i f args ts ho
    split at h
    · rename_i g first cap hf
      have hfr := aeval_rel ht f
      rw [hf] at hfr
      obtain ⟨us, vs, hfv, h1, h2⟩ := fn_inv hfr
      obtain ⟨hen, hc⟩ := callK_ok hΓ h hR (args_rel ht h1 h2 args)
      rw [run_call hen ho hfv, Oper.upon_enter]
      refine hc.mono ?_
      rintro e w' ⟨G', ι', v, v', objs', rfl, hk, hv, hR', hx'⟩
      exact fin v objs' v' w' G' ι' hk hv hR' hx'
    · cases h
  · cases hb : isEff o.op
    · simp only [hb, cond_false] at h
      cases hb2 : isEff2 E.P o.op
      · simp only [hb2, cond_false] at h
        obtain ⟨v, v', hk, hv, hrun⟩ := quiet2K_ok h (aeval_rel ht) hR
        rw [hrun w (Agree.refl w), Oper.upon_value]
        exact fin v objs v' w G ι hk hv hR (Ext.refl _ _ _ _)
      · simp only [hb2, cond_true] at h
        obtain ⟨v, objs', hk, v', w', nx, ι', hrun, hnx, hv, hR', hx'⟩ := eff2K_ok h (aeval_rel ht) hR
        rw [hrun]
        rcases hnx with rfl | ⟨rfl, rfl⟩
        · rw [Oper.upon_value]; exact fin v objs' v' w' G ι' hk hv hR' hx'
        · rw [Oper.upon_skip]; exact fin v objs' undef w' G ι' hk hv hR' hx'
    · simp only [hb, cond_true] at h
      obtain ⟨v, objs', hk, v', w', nx, ι', hrun, hnx, hv, hR', hx'⟩ := effK_ok h (aeval_rel ht) hR
      rw [hrun]
      rcases hnx with rfl | ⟨rfl, rfl⟩
      · rw [Oper.upon_value]; exact fin v objs' v' w' G ι' hk hv hR' hx'
      · rw [Oper.upon_skip]; exact fin v objs' undef w' G ι' hk hv hR' hx'

theorem opsK_ok {Γ : Ctr R} (hΓ : CtrOk E Γ) {s : St0} {ops : Array Oper} {Q : Exit → Act → World → Prop} {k : List AV → List AObj → Option R}
    (hQ : ∀ t' objs' a' w', k t' objs' = some r → Inv E s t' objs' a' w' → Q .normal a' w') :
    ∀ (l : List Oper) (n : Nat), ops.toList.drop n = l → ∀ (t : List AV) (objs : List AObj) (a : Act) (w : World), opsK E.P Γ ops l t objs k = some r → Inv E s t objs a w →
      wpOps E.P ops Q (List.range' n l.length) a w
  | [], n, _, t, objs, a, w, h, hI => hQ t objs a w h hI
  | o :: l, n, hl, t, objs, a, w, h, hI => by
    have hn : ops[n]? = some o := by
      have : (ops.toList.drop n)[0]? = some o := by rw [hl]; rfl
      rw [List.getElem?_drop] at this
      simpa using this
    have hl' : ops.toList.drop (n + 1) = l := by rw [← List.drop_drop, hl]; rfl
    simp only [opsK] at h
    obtain ⟨G, ι, hR, ht, hx, hd, hz⟩ := hI
    simp only [List.length_cons, List.range'_succ, wpOps, hn]
    rcases guardK_ok h ht with ⟨hw, h1⟩ | ⟨hw, h1⟩
    · rw [if_pos hw]
      left
      exact operK_ok hΓ h1 ⟨G, ι, hR, ht, hx, hd, hz⟩ fun t' objs' a' w' hk hI' => opsK_ok hΓ hQ l (n + 1) hl' t' objs' a' w' hk hI'
    · rw [if_neg (by rw [hw]; simp)]
      exact opsK_ok hΓ hQ l (n + 1) hl' _ _ _ _ h1 ⟨G, ι, hR, ht.put o.dst skip_rel, hx, by rw [put_defers]; exact hd, by rw [put_size]; exact hz⟩
end
end Go.Ab
end

section
namespace Go.Ab
open Go
section
variable {E : Env} {R : Type} {r : R}

theorem concL_get : ∀ (cs : List AV) (l : List Value), concL cs = some l → l.length = cs.length ∧ ∀ (i : Nat) (a : AV), cs[i]? = some a → ∃ c, l[i]? = some c ∧ conc a = some c
  | [], l, h => by simp [concL] at h; subst h; exact ⟨rfl, fun i a h => by simp at h⟩
  | a :: as, l, h => by
    simp only [concL] at h
    obtain ⟨v, hv, h2⟩ := Option.bind_eq_some_iff.1 h
    obtain ⟨l', hl', rfl⟩ := Option.map_eq_some_iff.1 h2
    obtain ⟨h3, h4⟩ := concL_get as l' hl'
    refine ⟨by simp [h3], fun i b hb => ?_⟩
    cases i with
    | zero => simp at hb; subst hb; exact ⟨v, rfl, hv⟩
    | succ i => simpa using h4 i b (by simpa using hb)

theorem conc_eq {G : Gh} {ι : Inj} {a : AV} {v : Value} (h : VRel G ι a v) : ∀ c, conc a = some c → v = c := by
  induction h with
  | agg hl h ih =>
    rename_i cs vs
    intro c hc
    simp only [conc, Option.map_eq_some_iff] at hc
    obtain ⟨l, hl', rfl⟩ := hc
    obtain ⟨h3, h4⟩ := concL_get _ _ hl'
    congr 1
    apply Array.ext (by simp [h3, hl])
    intro i h1 h2
    have hi : i < cs.length := by omega
    obtain ⟨c, hc1, hc2⟩ := h4 i _ (List.getElem?_eq_getElem hi)
    have := ih i _ _ (List.getElem?_eq_getElem hi) (Array.getElem?_eq_getElem h1) c hc2
    rw [this]
    have : l.toArray[i]? = some c := by simpa using hc1
    rw [Array.getElem?_eq_getElem h2] at this
    exact (Option.some.inj this).symm
  | tup hl h ih =>
    rename_i cs vs
    intro c hc
    simp only [conc, Option.map_eq_some_iff] at hc
    obtain ⟨l, hl', rfl⟩ := hc
    obtain ⟨h3, h4⟩ := concL_get _ _ hl'
    congr 1
    apply Array.ext (by simp [h3, hl])
    intro i h1 h2
    have hi : i < cs.length := by omega
    obtain ⟨c, hc1, hc2⟩ := h4 i _ (List.getElem?_eq_getElem hi)
    have := ih i _ _ (List.getElem?_eq_getElem hi) (Array.getElem?_eq_getElem h1) c hc2
    rw [this]
    have : l.toArray[i]? = some c := by simpa using hc1
    rw [Array.getElem?_eq_getElem h2] at this
    exact (Option.some.inj this).symm
  | int k n => intro c hc; simp [conc] at hc; exact hc
  | bool b => intro c hc; simp [conc] at hc; exact hc
  | str b => intro c hc; simp [conc] at hc; exact hc
  | nilp => intro c hc; simp [conc] at hc; exact hc
  | nils => intro c hc; simp [conc] at hc; exact hc
  | _ => intro c hc; simp [conc] at hc

mutual
theorem conc_rel (G : Gh) (ι : Inj) : ∀ (a : AV) (c : Value), conc a = some c → VRel G ι a c
  | .int k n, c, h => by simp [conc] at h; subst h; exact .int _ _
  | .bool b, c, h => by simp [conc] at h; subst h; exact .bool _
  | .str s, c, h => by simp [conc] at h; subst h; exact .str _
  | .agg cs, c, h => by
    simp only [conc, Option.map_eq_some_iff] at h
    obtain ⟨l, hl, rfl⟩ := h
    exact .aggL (by simpa using concL_rel G ι cs l hl)
  | .tup cs, c, h => by
    simp only [conc, Option.map_eq_some_iff] at h
    obtain ⟨l, hl, rfl⟩ := h
    exact .tupL (by simpa using concL_rel G ι cs l hl)
  | .nilp, c, h => by simp [conc] at h; subst h; exact .nilp
  | .nils, c, h => by simp [conc] at h; subst h; exact .nils
  | .undef, c, h => by simp [conc] at h
  | .ptr _ _, c, h => by simp [conc] at h
  | .cptr _ _, c, h => by simp [conc] at h
  | .sref _ _ _ _, c, h => by simp [conc] at h
  | .sval _ _ _, c, h => by simp [conc] at h
  | .map _, c, h => by simp [conc] at h
  | .nilm, c, h => by simp [conc] at h
  | .fn _ _ _, c, h => by simp [conc] at h
  | .nilf, c, h => by simp [conc] at h
  | .iface _ _, c, h => by simp [conc] at h
  | .nili, c, h => by simp [conc] at h
theorem concL_rel (G : Gh) (ι : Inj) : ∀ (as : List AV) (l : List Value), concL as = some l → LRel G ι as l
  | [], l, h => by simp [concL] at h; subst h; exact LRel.nil
  | a :: as, l, h => by
    simp only [concL] at h
    obtain ⟨v, hv, h2⟩ := Option.bind_eq_some_iff.1 h
    obtain ⟨l', hl', rfl⟩ := Option.map_eq_some_iff.1 h2
    exact LRel.cons (conc_rel G ι a v hv) (concL_rel G ι as l' hl')
end

/-- The worlds among which the operations of such a region move. -/
def Cls (E : Env) (s : St0) (G1 : Gh) (ι : Inj) (objs : List AObj) (w1 w : World) : Prop :=
  (∃ G, Rel E G ι objs w ∧ Ext s.L s.G s.ι s.w G ι objs w ∧ G1.le G) ∧ Agree w1 w ∧ w1.heap.size ≤ w.heap.size

end
end Go.Ab
end

section
namespace Go.Ab
open Go
section
variable {P : Program} {ops : Array Oper} {md : Region.Mode} (C : Array Bool → World → Prop)

/-- What is asked of one step: its value, and a world that the next class holds. -/
def stepUpon (P : Program) (D : World → Prop) (v : Value) : Result Next → Prop
  | .ok (.value u) w' => D w' ∧ u = v
  | .ok .skip w' => D w' ∧ v = undef
  | .ok (.enter f args) w' => Calls P f args w' fun e w'' => e = .returned v ∧ D w''
  | _ => False

def Ylds (P : Program) (ops : Array Oper) (md : Region.Mode) (i : Nat) (o : Oper) (v : Value) (a : Act) : Prop :=
  (Region.wanted o (yielded ops a.tmps) = true ∧ ∀ listed w, i ∈ Region.ready md ops listed → C listed w → stepUpon P (C (listed.setIfInBounds i true)) v ((execOp a.eval o).run P w)) ∨
  (Region.wanted o (yielded ops a.tmps) = false ∧ v = undef ∧ ∀ listed w, i ∈ Region.ready md ops listed → C listed w → C (listed.setIfInBounds i true) w)

def xOp (P : Program) (ops : Array Oper) (md : Region.Mode) (i : Nat) (K : Act → Prop) (a : Act) : Prop :=
  ∃ o v, ops[i]? = some o ∧ Ylds C P ops md i o v a ∧ K (a.put o.dst v)

def wpAnyX (P : Program) (md : Region.Mode) (ops : Array Oper) (Q : Array Bool → Act → Prop) : Nat → Array Bool → Act → Prop
  | 0, listed, a => Region.ready md ops listed = [] ∧ Q listed a
  | fuel + 1, listed, a =>
    (Region.ready md ops listed = [] → Q listed a) ∧
    ∀ i ∈ Region.ready md ops listed, xOp C P ops md i (wpAnyX P md ops Q fuel (listed.setIfInBounds i true)) a

variable {C}
theorem wpOp_of_x {i : Nat} {a : Act} {K : Act → Prop} {K' : Act → World → Prop} {Q' : Exit → Act → World → Prop} {listed : Array Bool} {w : World} (hi : i ∈ Region.ready md ops listed) (hC : C listed w)
    (h : ∀ a w', C (listed.setIfInBounds i true) w' → K a → K' a w') (hh : xOp C P ops md i K a) : wpOp P ops Q' i K' a w := by
  obtain ⟨o, v, ho, hy, hk⟩ := hh
  unfold wpOp
  simp only [ho]
  rcases hy with ⟨hw, hs⟩ | ⟨hw, rfl, hs⟩
  · simp only [hw, if_true]
    left
    have h3 := hs listed w hi hC
    unfold Oper.wp
    generalize (execOp a.eval o).run P w = r at *
    cases r with
    | ok n w' =>
      cases n <;> simp only [stepUpon] at h3 <;> simp only [Oper.upon]
      case value u => obtain ⟨e1, rfl⟩ := h3; exact h _ _ e1 hk
      case skip => obtain ⟨e1, rfl⟩ := h3; exact h _ _ e1 hk
      case enter f args => exact h3.mono fun e w'' ⟨he, hw''⟩ => by subst he; exact h _ _ hw'' hk
    | halt x w' => simp only [stepUpon] at h3
  · simp only [hw, Bool.false_eq_true, if_false]
    exact h _ _ (hs listed w hi hC) hk

theorem wpAny_of_x {Q : Array Bool → Act → Prop} {Q' : Exit → Act → World → Prop} (hQ : ∀ listed a w, C listed w → Q listed a → Q' .normal a w) : ∀ (fuel : Nat) (listed : Array Bool) (a : Act) (w : World), C listed w →
    wpAnyX C P md ops Q fuel listed a → wpAny P md ops Q' fuel listed a w
  | 0, _, _, _, hw, h => ⟨h.1, hQ _ _ _ hw h.2⟩
  | fuel + 1, _, _, _, hw, h => ⟨fun h0 => hQ _ _ _ hw (h.1 h0), fun i hi => wpOp_of_x hi hw (fun a' w' hw' => wpAny_of_x hQ fuel _ a' w' hw') (h.2 i hi)⟩

theorem Ylds.of_same {i : Nat} {o : Oper} {v : Value} {a a' : Act} (hy : Ylds C P ops md i o v a) (he : execOp a'.eval o = execOp a.eval o)
    (hw : Region.wanted o (yielded ops a'.tmps) = Region.wanted o (yielded ops a.tmps)) : Ylds C P ops md i o v a' := by
  unfold Ylds at *
  rw [he, hw]
  exact hy

theorem xOp_mono {i : Nat} {a : Act} {K K' : Act → Prop} (h : ∀ a, K a → K' a) (hh : xOp C P ops md i K a) : xOp C P ops md i K' a := by
  obtain ⟨o, v, h1, h2, h3⟩ := hh; exact ⟨o, v, h1, h2, h _ h3⟩

theorem xOp_put {i j : Nat} {oi oj : Oper} {v : Value} (hj : ops[j]? = some oj) (hap : oi.apart ops oj = true)
    (hsi : ∀ cs b, oi.op ≠ .select cs b) (hsj : ∀ cs b, oj.op ≠ .select cs b) {K : Act → Prop} {a : Act}
    (hy : Ylds C P ops md i oi v a) (h : xOp C P ops md j K (a.put oi.dst v)) :
    xOp C P ops md j (fun a' => Ylds C P ops md i oi v a' ∧ K (a'.put oi.dst v)) a := by
  obtain ⟨h1, h2, h3⟩ := Oper.apart_spec hap
  obtain ⟨o, u, ho, hu, hk⟩ := h
  obtain rfl : o = oj := Option.some.inj (ho.symm.trans hj)
  refine ⟨_, u, hj, ?_, ?_, ?_⟩
  · exact hu.of_same (execOp_put _ hsj a oi.dst v h1).symm (wanted_put _ a oi.dst v h1).symm
  · exact hy.of_same (execOp_put oi hsi a _ u h3) (wanted_put oi a _ u h3)
  · rw [← Act.put_comm a v u h2]; exact hk

theorem wpAnyX_first {Q : Array Bool → Act → Prop} {i : Nat} {oi : Oper} {v : Value} (hi : ops[i]? = some oi) (hsel : ∀ (j : Nat) (o : Oper) cs b, ops[j]? = some o → o.op ≠ .select cs b) :
    ∀ (fuel : Nat) (listed : Array Bool) (a : Act),
      (∀ j oj, ops[j]? = some oj → j ≠ i → listed.getD j true = false → (∀ e ∈ oj.after, Region.binds md e = true → e.on ≠ i) → oi.apart ops oj = true) →
      i ∈ Region.ready md ops listed → Ylds C P ops md i oi v a →
      wpAnyX C P md ops Q fuel (listed.setIfInBounds i true) (a.put oi.dst v) → wpAnyX C P md ops Q (fuel + 1) listed a := by
  intro fuel
  induction fuel with
  | zero =>
    intro listed a _ hr hy H
    refine ⟨fun h => (by rw [h] at hr; cases hr), fun j hj => ?_⟩
    by_cases hji : j = i
    · subst hji; exact ⟨oi, v, hi, hy, H⟩
    · have := ready_mono hj hji
      rw [H.1] at this
      cases this
  | succ fuel ih =>
    intro listed a hfree hr hy H
    refine ⟨fun h => (by rw [h] at hr; cases hr), fun j hj => ?_⟩
    by_cases hji : j = i
    · subst hji; exact ⟨oi, v, hi, hy, H⟩
    · have h1 := H.2 j (ready_mono hj hji)
      obtain ⟨hjun, oj, hoj, hall⟩ := mem_ready.1 hj
      have hnot : ∀ e ∈ oj.after, Region.binds md e = true → e.on ≠ i := fun e he hb heq => by
        have h1 := hall e he hb
        have h0 := (mem_ready.1 hr).1
        rw [heq] at h1
        rcases Nat.lt_or_ge i listed.size with h' | h'
        · simp [h'] at h0 h1; rw [h0] at h1; cases h1
        · simp [Array.getElem?_eq_none h'] at h1
      have h2 := xOp_put hoj (hfree j oj hoj hji hjun hnot) (fun cs b => hsel i oi cs b hi) (fun cs b => hsel j oj cs b hoj) hy h1
      have hfree' : ∀ k ok, ops[k]? = some ok → k ≠ i → (listed.setIfInBounds j true).getD k true = false →
          (∀ e ∈ ok.after, Region.binds md e = true → e.on ≠ i) → oi.apart ops ok = true := fun k ok hk hki hun hno => by
        refine hfree k ok hk hki ?_ hno
        by_cases hjk : j = k
        · subst hjk; exact hjun
        · rw [getD_set_ne true hjk] at hun; exact hun
      refine xOp_mono (fun a' h3 => ih (listed.setIfInBounds j true) a' hfree' (ready_mono hr (Ne.symm hji)) h3.1 ?_) h2
      rw [Array.setIfInBounds_comm _ _ hji]
      exact h3.2

/-- The order of the text. -/
def wpLexX (C : Array Bool → World → Prop) (P : Program) (ops : Array Oper) (md : Region.Mode) (Q : Array Bool → Act → Prop) : List Oper → Nat → Array Bool → Act → Prop
  | [], _, listed, a => Q listed a
  | o :: l, k, listed, a => ∃ v, Ylds C P ops md k o v a ∧ wpLexX C P ops md Q l (k + 1) (listed.setIfInBounds k true) (a.put o.dst v)

theorem wpAnyX_lex {Q : Array Bool → Act → Prop} (hs : Region.noSelect ops = true) : ∀ (l : List Oper) (k : Nat) (listed : Array Bool) (a : Act), (∀ j, l[j]? = ops[k + j]?) →
    Region.lexFrom md ops l.length k listed = true → wpLexX C P ops md Q l k listed a → wpAnyX C P md ops Q l.length listed a
  | [], _, _, _, _, hB, h => ⟨by simpa [Region.lexFrom] using hB, h⟩
  | o :: l, k, listed, a, hl, hB, h => by
    have h0 : ops[k]? = some o := by simpa using (hl 0).symm
    simp only [List.length_cons, Region.lexFrom, Bool.and_eq_true] at hB
    obtain ⟨⟨hr, hf⟩, hB'⟩ := hB
    obtain ⟨v, hy, hK⟩ := h
    exact wpAnyX_first h0 (Region.noSelect_spec hs) l.length listed a (Region.free_spec h0 hf) (by simpa using hr) hy
      (wpAnyX_lex hs l (k + 1) _ _ (fun j => by have := hl (j + 1); simpa [Nat.add_assoc, Nat.add_comm 1 j] using this) hB' hK)

theorem wp_region_x {id : Nat} {Q' : Exit → Act → World → Prop} {a : Act} {w : World} {Q : Array Bool → Act → Prop} (hm : P.follows .mixedOrders = true) (hB : Region.lexB .any ops = true)
    (hC : C (Array.replicate ops.size false) { w with drawn := w.drawn + 1 }) (hQ : ∀ listed a w, C listed w → Q listed a → Q' .normal a w)
    (h : wpLexX C P ops .any Q ops.toList 0 (Array.replicate ops.size false) a) : (Code.region id ops true).wp P Q' a w := by
  simp only [Region.lexB, Bool.and_eq_true] at hB
  refine wp_region_any hm (wpAny_of_x hQ _ _ _ _ hC ?_)
  have := wpAnyX_lex (C := C) (md := .any) hB.1 ops.toList 0 (Array.replicate ops.size false) a (by simp) (by simpa using hB.2) h
  simpa using this
end
end Go.Ab
end

section
namespace Go.Ab
open Go
section
variable {R : Type}

theorem maskO_get (f : Nat → Bool) : ∀ (objs : List AObj) (n i : Nat), (maskO f n objs)[i]? = (objs[i]?).map fun o => bif f (n + i) then o else .dead
  | [], n, i => by simp [maskO]
  | o :: os, n, i => by
    cases i with
    | zero => simp [maskO]
    | succ i => simp only [maskO, List.getElem?_cons_succ, maskO_get f os (n + 1) i]; rw [Nat.add_right_comm, Nat.add_assoc]
theorem maskO_length (f : Nat → Bool) : ∀ (objs : List AObj) (n : Nat), (maskO f n objs).length = objs.length
  | [], _ => rfl
  | o :: os, n => by simp [maskO, maskO_length f os]
theorem Rel.mask {E : Env} {G : Gh} {ι : Inj} {objs : List AObj} {w : World} (h : Rel E G ι objs w) (f : Nat → Bool) : Rel E G ι (maskO f 0 objs) w := by
  have back : ∀ (i : Nat) (o : AObj), (maskO f 0 objs)[i]? = some o → o.live = true → objs[i]? = some o ∧ f i = true := fun i o hi hl => by
    rw [maskO_get] at hi
    obtain ⟨p, hp, rfl⟩ := Option.map_eq_some_iff.1 hi
    rw [Nat.zero_add] at hl ⊢
    cases hf : f i
    · rw [hf] at hl; cases hl
    · exact ⟨hp, rfl⟩
  refine ⟨h.stays, fun i o hi hl => h.obj i o (back i o hi hl).1 hl, fun i j o p B C D hi ho hj hp => h.inj i j o p B C D (back i o hi ho).1 ho (back j p hj hp).1 hp,
    fun i hi => h.fresh i (by rwa [maskO_length] at hi), h.glob, h.size⟩

end

/-- What is listed is closed under what it waits for. -/
def Clsd (ops : Array Oper) (listed : Array Bool) : Prop := listed.size = ops.size ∧
  ∀ (j : Nat) (o : Oper), ops[j]? = some o → listed.getD j false = true → ∀ e ∈ o.after, Region.binds .any e = true → listed.getD e.on false = true
theorem Clsd.set {ops : Array Oper} {listed : Array Bool} {i : Nat} (h : Clsd ops listed) (hi : i ∈ Region.ready .any ops listed) : Clsd ops (listed.setIfInBounds i true) := by
  obtain ⟨_, oi, hoi, hall⟩ := mem_ready.1 hi
  refine ⟨by simp [h.1], fun j oj hj hl e he hb => ?_⟩
  by_cases hij : i = j
  · subst hij
    have : oj = oi := Option.some.inj (hj.symm.trans hoi)
    subst this
    exact getD_set_true (hall e he hb)
  · rw [getD_set_ne false hij] at hl
    exact getD_set_true (h.2 j oj hj hl e he hb)

/-- How far the writes have come. -/
def Done (es : List Nat) (listed : Array Bool) (s : Nat) : Prop := s ≤ es.length ∧ ∀ m j, es[m]? = some j → (listed.getD j true = true ↔ m < s)

/-- The blocks that are written. -/
def XB (ι : Inj) (tc : List Nat) (b : Nat) : Prop := ∃ i ∈ tc, ∃ C, ι i = some (b, C)

/-- The worlds of such a region: how far the writes have come. -/
def ClX (E : Env) (ops : Array Oper) (s0 : St0) (G1 : Gh) (ι : Inj) (w1 : World) (S : List (List AObj)) (es : List Nat) (T : List (List Nat)) (listed : Array Bool) (w : World) : Prop :=
  Clsd ops listed ∧ ∃ s so, S[s]? = some so ∧ Done es listed s ∧
    (∃ G, Rel E G ι so w ∧ Ext s0.L s0.G s0.ι s0.w G ι so w ∧ G1.le G) ∧ AgreeX (XB ι (T.take s).flatten) w1 w ∧ w1.heap.size ≤ w.heap.size

theorem getD_set_self (l : Array Bool) (i : Nat) : (l.setIfInBounds i true).getD i true = true := by
  simp only [Array.getD_eq_getD_getElem?, Array.getElem?_setIfInBounds]
  simp
  split <;> simp_all

section
variable {E : Env} {ops : Array Oper} {s0 : St0} {G1 : Gh} {ι : Inj} {w1 : World} {S : List (List AObj)} {es : List Nat} {T : List (List Nat)} {listed : Array Bool}

theorem Done.quiet {n s : Nat} (hn : n ∉ es) (h : Done es listed s) : Done es (listed.setIfInBounds n true) s :=
  ⟨h.1, fun m j hj => by
    have hne : j ≠ n := fun e => hn (e ▸ List.mem_of_getElem? hj)
    rw [getD_set_ne true (Ne.symm hne)]; exact h.2 m j hj⟩

theorem ClX.quiet {n : Nat} (hn : n ∉ es) (hr : n ∈ Region.ready .any ops listed) {w w' : World} (h : ClX E ops s0 G1 ι w1 S es T listed w)
    (hw : ∀ s so G, Done es listed s → Rel E G ι so w → Ext s0.L s0.G s0.ι s0.w G ι so w → G1.le G → AgreeX (XB ι (T.take s).flatten) w1 w → w1.heap.size ≤ w.heap.size →
      (∃ G', Rel E G' ι so w' ∧ Ext s0.L s0.G s0.ι s0.w G' ι so w' ∧ G1.le G') ∧ AgreeX (XB ι (T.take s).flatten) w1 w' ∧ w1.heap.size ≤ w'.heap.size) : ClX E ops s0 G1 ι w1 S es T (listed.setIfInBounds n true) w' := by
  obtain ⟨hc, s, so, h1, h2, ⟨G, h4, h5, h6⟩, h7, h8⟩ := h
  exact ⟨hc.set hr, s, so, h1, h2.quiet hn, hw s so G h2 h4 h5 h6 h7 h8⟩
end
end Go.Ab
end

section
namespace Go.Ab
open Go
section
variable {E : Env} {ops : Array Oper} {R : Type} {r : R} {s0 : St0} {G1 : Gh} {ι : Inj} {w1 : World}

theorem canTouch_get {o0 : List AObj} {ids : List Nat} (h : canTouch o0 ids = true) {i : Nat} (hi : i ∈ ids) : ∃ flat cs, o0[i]? = some (.cells flat cs) := by
  have := List.all_eq_true.1 h i hi
  rw [List.getD_eq_getElem?_getD] at this
  cases ho : o0[i]? with
  | none => rw [ho] at this; simp [isCellsO] at this
  | some o => rw [ho] at this; cases o <;> first | exact ⟨_, _, rfl⟩ | simp [isCellsO] at this

theorem noX_of {o0 : List AObj} (hR : Rel E G1 ι o0 w1) {tc : List Nat} (hc : canTouch o0 tc = true) (f : Nat → Bool) (hf : ∀ i, f i = true → i ∉ tc) : NoX (XB ι tc) G1 ι (maskO f 0 o0) := by
  refine ⟨fun i o B C hi hl hB hX => ?_, fun b o v hg hX => ?_⟩
  · rw [maskO_get] at hi
    obtain ⟨p, hp, rfl⟩ := Option.map_eq_some_iff.1 hi
    rw [Nat.zero_add] at hl
    cases hfi : f i
    · rw [hfi] at hl; cases hl
    · rw [hfi] at hl
      obtain ⟨j, hj, C', hB'⟩ := hX
      obtain ⟨flat, cs, ho⟩ := canTouch_get hc hj
      have := hR.inj i j p _ B C C' hp hl ho rfl hB hB'
      exact hf i hfi (this ▸ hj)
  · obtain ⟨j, hj, C', hB'⟩ := hX
    obtain ⟨flat, cs, ho⟩ := canTouch_get hc hj
    obtain ⟨B, C, h1, _, _, h2⟩ := hR.obj j _ ho rfl
    rw [hB'] at h1; cases h1
    rw [h2.2 o] at hg; cases hg

theorem canTouch_sub {o0 : List AObj} {a b : List Nat} (h : canTouch o0 b = true) (hs : ∀ i ∈ a, i ∈ b) : canTouch o0 a = true :=
  List.all_eq_true.2 fun i hi => List.all_eq_true.1 h i (hs i hi)
theorem flatten_take {T : List (List Nat)} {s i : Nat} (h : i ∈ (T.take s).flatten) : i ∈ T.flatten := by
  obtain ⟨l, hl, hi⟩ := List.mem_flatten.1 h
  exact List.mem_flatten.2 ⟨l, List.mem_of_mem_take hl, hi⟩
/-- What a quiet step gives. -/
def QStep (E : Env) (ops : Array Oper) (s0 : St0) (G1 : Gh) (ι : Inj) (w1 : World) (o0 : List AObj) (a : Act) (o : Oper) (rd : List Nat) (v' : Value) : Prop :=
  ∀ (T : List (List Nat)), canTouch o0 T.flatten = true → ∀ (S : List (List AObj)) (es : List Nat) (listed : Array Bool) (n : Nat) (w : World), n ∉ es → n ∈ Region.ready .any ops listed →
    (∀ s, Done es listed s → ∀ i ∈ rd, i ∉ (T.take s).flatten) → ClX E ops s0 G1 ι w1 S es T listed w →
    stepUpon E.P (ClX E ops s0 G1 ι w1 S es T (listed.setIfInBounds n true)) v' ((execOp a.eval o).run E.P w)
/-- What a writing step gives. -/
def WStep (E : Env) (s0 : St0) (G1 : Gh) (ι : Inj) (objs objs' : List AObj) (a : Act) (o : Oper) (ids : List Nat) (v' : Value) : Prop :=
  ∀ (G : Gh) (w : World), Rel E G ι objs w → Ext s0.L s0.G s0.ι s0.w G ι objs w → G1.le G →
    stepUpon E.P (fun w' => (∃ G', Rel E G' ι objs' w' ∧ Ext s0.L s0.G s0.ι s0.w G' ι objs' w' ∧ G1.le G') ∧ (∀ b, b < w.heap.size → ¬ XB ι ids b → w'.heap[b]? = w.heap[b]?) ∧ w.heap.size ≤ w'.heap.size) v' ((execOp a.eval o).run E.P w)

theorem qstep_of {o0 : List AObj} (hR : Rel E G1 ι o0 w1) {a : Act} {o : Oper} {f : Nat → Bool} {rd : List Nat} (hf : ∀ i, f i = true → i ∈ rd) {v' : Value}
    (h : ∀ X, NoX X G1 ι (maskO f 0 o0) → ∀ w, AgreeX X w1 w → (execOp a.eval o).run E.P w = .ok (.value v') w) : QStep E ops s0 G1 ι w1 o0 a o rd v' := by
  intro T hc S es listed n w hn hrd hd hC
  have hC0 := hC
  obtain ⟨_, s, so, _, h2, _, hag, _⟩ := hC0
  rw [h (XB ι (T.take s).flatten) (noX_of hR (canTouch_sub hc fun i hi => flatten_take hi) f fun i hi => hd s h2 i (hf i hi)) w hag]
  exact ⟨hC.quiet hn hrd fun s so G _ h1 h2 h3 h4 h5 => ⟨⟨G, h1, h2, h3⟩, h4, h5⟩, rfl⟩

theorem merge_self (so : List AObj) (G' : Gh) (ι ι' : Inj) (h : ∀ i, so.length ≤ i → ι i = none) (m : Nat) : mergeι ι ι' so.length m m = ι := by
  funext i
  unfold mergeι
  split
  · rfl
  · rename_i hlt; rw [if_neg (by omega)]; exact (h i (by omega)).symm

/-- A call, or a store, that hands its objects on and gives back a plain value. -/
theorem wmerge {objs : List AObj} {ids : List Nat} (hn : nodup ids = true) (hl : ∀ i ∈ ids, (objs.getD i .dead).live = true) {G G' : Gh} {ι' : Inj} {objs' : List AObj} {w w' : World}
    (hR : Rel E G ι objs w) (hx : Ext s0.L s0.G s0.ι s0.w G ι objs w) (hG : G1.le G) (hlen : objs'.length = ids.length)
    (hR' : Rel E G' ι' objs' w') (hx' : Ext (LiveB (pickι ι ids) (pickO objs ids)) G (pickι ι ids) w G' ι' objs' w') :
    (∃ G', Rel E G' ι (mergeO objs ids objs') w' ∧ Ext s0.L s0.G s0.ι s0.w G' ι (mergeO objs ids objs') w' ∧ G1.le G') ∧ (∀ b, b < w.heap.size → ¬ XB ι ids b → w'.heap[b]? = w.heap[b]?) ∧ w.heap.size ≤ w'.heap.size := by
  obtain ⟨m1, m2, m3⟩ := hR.merge hn (fun i hi => by
    have := hl i hi
    rw [List.getD_eq_getElem?_getD] at this
    cases ho : objs[i]? with
    | none => rw [ho] at this; simp [AObj.live] at this
    | some o => rw [ho] at this; exact ⟨o, rfl, this⟩) hR' hx'
  rw [hlen, merge_self objs G' ι ι' hR.fresh] at m1 m2
  refine ⟨⟨G', m1, hx.trans m2, Gh.le_trans hG m2.gle⟩, fun b hb hX => hx'.keep b hb fun hlv => hX ?_, m2.size⟩
  obtain ⟨k, p, C, h1, h2, h3⟩ := hlv
  unfold pickι at h3
  obtain ⟨i, hi, hιi⟩ := Option.bind_eq_some_iff.1 h3
  exact ⟨i, List.mem_of_getElem? hi, C, hιi⟩

/-- One value, whatever lies outside what is known. -/
theorem qstep_quiet {o0 : List AObj} (hR : Rel E G1 ι o0 w1) {a : Act} {o : Oper} {t : List AV} (ht : LRel G1 ι t a.tmps.toList) {f : Nat → Bool} {rd : List Nat} (hf : ∀ i, f i = true → i ∈ rd) {k : AV → Option R}
    (h : quiet2K E.P (maskO f 0 o0) (aeval t) o.op k = some r) : ∃ v v', k v = some r ∧ VRel G1 ι v v' ∧ QStep E ops s0 G1 ι w1 o0 a o rd v' := by
  let X : Nat → Prop := fun b => (¬ ∃ i p C, (maskO f 0 o0)[i]? = some p ∧ p.live = true ∧ ι i = some (b, C)) ∧ ¬ ∃ o v, G1 b o = some v
  have hX : NoX X G1 ι (maskO f 0 o0) := ⟨fun i p B C h1 h2 h3 h4 => h4.1 ⟨i, p, C, h1, h2, h3⟩, fun b o v h1 h4 => h4.2 ⟨o, v, h1⟩⟩
  obtain ⟨v, v', h1, h2, h3⟩ := quiet2X_ok h (aeval_rel ht) (hR.mask f) hX
  refine ⟨v, v', h1, h2, qstep_of hR hf fun Y hY w hw => h3 w fun b o u hb hc => hw b o u (fun hy => hb ⟨fun ⟨i, p, C, g1, g2, g3⟩ => hY.1 i p b C g1 g2 g3 hy, fun ⟨o', v, g1⟩ => hY.2 b o' v g1 hy⟩) hc⟩

theorem storeK_param {P : Program} {objs : List AObj} {ty : TypeId} {p x : AV} {k : AV → List AObj → Option R} (h : storeK P objs ty p x k = some r) :
    ∃ o', storeK P objs ty p x (fun v o => some (v, o)) = some (.tup [], o') ∧ k (.tup []) o' = some r := by
  unfold storeK at h
  split at h
  · cases h
  · rename_i i off a hne
    split at h
    · rename_i flat cs hi
      cases hb : (x.cells.length == szOf P ty && !(szOf P ty == 0) && x.cells.all oneA)
      · simp [hb] at h
      · simp only [hb, cond_true] at h
        obtain ⟨hc, hk⟩ := chk_some h
        refine ⟨_, ?_, hk⟩
        unfold storeK
        simp only [hi, hb, cond_true]
        unfold chk
        rw [hc]; rfl
    · cases h
  · cases h

theorem xoperK_ok {Γ : Ctr R} (hΓ : CtrOk E Γ) {o0 objs : List AObj} (hR1 : Rel E G1 ι o0 w1) {o : Oper} {last : Option Nat} {t : List AV} {k : AV → List AObj → List Nat → Option (List Nat) → Option R}
    (h : xoperK E.P Γ o last t o0 objs k = some r) {a : Act} (ht : LRel G1 ι t a.tmps.toList) :
    ∃ v v' rd, VRel G1 ι v v' ∧ ((k v objs rd none = some r ∧ QStep E ops s0 G1 ι w1 o0 a o rd v') ∨
      ∃ objs' ids, k v objs' rd (some ids) = some r ∧ waits o last = true ∧ canTouch o0 ids = true ∧ WStep E s0 G1 ι objs objs' a o ids v') := by
  unfold xoperK at h
  split at h
  · rename_i f args ts ho
    split at h
    · rename_i g first cap hf
      have hfr := aeval_rel ht f
      rw [hf] at hfr
      obtain ⟨us, vs, hfv, e1, e2⟩ := fn_inv hfr
      have hargs0 := args_rel ht e1 e2 args
      cases hcl : closedL (first ++ args.toList.map (aeval t) ++ cap)
      · simp only [hcl, cond_false] at h
        generalize reach objs 200 (idsL (first ++ args.toList.map (aeval t) ++ cap)) [] = ids at h
        cases hb : (nodup ids && (ids.all fun i => (objs.getD i .dead).live) && canTouch o0 ids && waits o last)
        · simp only [hb, cond_false] at h; cases h
        · simp only [hb, cond_true] at h
          simp only [Bool.and_eq_true] at hb
          obtain ⟨⟨⟨hn, hl⟩, hct⟩, hwt⟩ := hb
          obtain ⟨hen, v, objs', hs, hk⟩ := hΓ _ _ _ _ _ h
          split at hk
          · rename_i cv hcv
            cases hlen : (objs'.length == ids.length)
            · simp [hlen] at hk
            · simp only [hlen, cond_true] at hk
              refine ⟨v, cv, [], conc_rel G1 ι v cv hcv, .inr ⟨_, ids, hk, hwt, hct, fun G w hR hx hG => ?_⟩⟩
              rw [run_call hen ho hfv]
              refine (hs G (pickι ι ids) w _ (hR.pick hn) (LRel.ren (pick_carries ι ids) (wkAL_rel (hargs0.mono hG (Inj.le_refl _))))).mono ?_
              rintro e w' ⟨G', ι', v', rfl, hv, hR', hx'⟩
              exact ⟨by rw [conc_eq hv cv hcv], wmerge hn (fun i hi => List.all_eq_true.1 hl i hi) hR hx hG (by simpa using hlen) hR' hx'⟩
          · cases hk
      · simp only [hcl, cond_true] at h
        obtain ⟨hen, v, objs', hs, hk⟩ := hΓ _ _ _ _ _ h
        split at hk
        · rename_i cv hcv
          refine ⟨v, cv, [], conc_rel G1 ι v cv hcv, .inl ⟨hk, fun T hc S es listed n w hnn hrd hd hC => ?_⟩⟩
          rw [run_call hen ho hfv]
          obtain ⟨hcl0, s, so, g1, g2, ⟨G, hR, hx, hG⟩, hag, hsz⟩ := hC
          refine (hs G (pickι ι []) w _ (hR.pick (keep := []) rfl) (wkAL_rel ((hargs0.closed hcl).mono hG (noInj_le _)))).mono ?_
          rintro e w' ⟨G', ι', v', rfl, hv, hR', hx'⟩
          obtain ⟨m1, m2, m3⟩ := wmerge (s0 := s0) (G1 := G1) (ids := []) rfl (fun i hi => by cases hi) hR hx hG rfl hR' hx'
          refine ⟨by rw [conc_eq hv cv hcv], hcl0.set hrd, s, so, g1, g2.quiet hnn, m1, fun b o v hX hc => ?_, Nat.le_trans hsz m3⟩
          have := hag b o v hX hc
          have hb := block_lt_of_cell this
          rw [← this]
          exact World.cell?_of_block (w := w) (m2 b hb fun ⟨i, hi, _⟩ => by cases hi)
        · cases hk
    · cases h
  · rename_i ty p x ho
    split at h
    · rename_i i off hp
      cases hb : (closedL [aeval t x] && (objs.getD i .dead).live && canTouch o0 [i] && waits o last)
      · simp only [hb, cond_false] at h; cases h
      · simp only [hb, cond_true] at h
        simp only [Bool.and_eq_true] at hb
        obtain ⟨⟨⟨hcl, hl⟩, hct⟩, hwt⟩ := hb
        have hpr := aeval_rel ht p
        rw [hp] at hpr
        have hxr := aeval_rel ht x
        have hxc : VRel G1 noInj (aeval t x) (a.eval x) := closed_rel_aux hxr (closedL_mem hcl _ (by simp))
        obtain ⟨o', hk0, hk⟩ := storeK_param h
        dsimp only at hk
        cases hlen : (o'.length == 1)
        · simp [hlen] at hk
        · simp only [hlen, cond_true] at hk
          refine ⟨.tup [], undef, [], skip_rel, .inr ⟨_, [i], hk, hwt, hct, fun G w hR hx hG => ?_⟩⟩
          have hR2 := hR.pick (keep := [i]) rfl
          have hp2 : VRel G (pickι ι [i]) (.ptr 0 off) (a.eval p) := by
            cases hpv : a.eval p with
            | pointer q => rw [hpv] at hpr; cases hpr with | ptr hι => exact .ptr (by simpa [pickι] using hι)
            | _ => rw [hpv] at hpr; cases hpr
          obtain ⟨o2, h1, w', h2, h3, h4⟩ := storeK_ok hk0 hp2 ((hxc.mono hG (Inj.le_refl _)).closed) hR2
          simp only [Option.some.injEq, Prod.mk.injEq, true_and] at h1
          subst h1
          have hrun : (execOp a.eval o).run E.P w = .ok .skip w' := by
            simp [execOp, ho, h2]
          rw [hrun]
          exact ⟨wmerge rfl (fun j hj => by simp at hj; subst hj; exact hl) hR hx hG (by simpa using hlen) h3 h4, rfl⟩
    · cases h
  · rename_i ty p ho
    obtain ⟨v, v', h1, h2, h3⟩ := qstep_quiet (s0 := s0) (o := o) hR1 ht (f := fun j => (rdOf (aeval t p)).contains j) (rd := rdOf (aeval t p)) (fun j hj => by simpa using hj) (k := fun v => k v objs (rdOf (aeval t p)) none) (by rw [ho]; exact h)
    exact ⟨v, v', _, h2, .inl ⟨h1, h3⟩⟩
  · rename_i ty x lo hi mx ho
    obtain ⟨v, v', h1, h2, h3⟩ := qstep_quiet (s0 := s0) (o := o) hR1 ht (f := fun j => (rdOf (aeval t x)).contains j) (rd := rdOf (aeval t x)) (fun j hj => by simpa using hj) (k := fun v => k v objs (rdOf (aeval t x)) none) (by rw [ho]; exact h)
    exact ⟨v, v', _, h2, .inl ⟨h1, h3⟩⟩
  · rename_i s d x ho
    obtain ⟨v, v', h1, h2, h3⟩ := qstep_quiet (s0 := s0) (o := o) hR1 ht (f := fun j => (rdOf (aeval t x)).contains j) (rd := rdOf (aeval t x)) (fun j hj => by simpa using hj) (k := fun v => k v objs (rdOf (aeval t x)) none) (by rw [ho]; exact h)
    exact ⟨v, v', _, h2, .inl ⟨h1, h3⟩⟩
  · rename_i op _ _ _ _ _
    cases hb : isEff o.op
    · simp only [hb, cond_false] at h
      obtain ⟨v, v', h1, h2, h3⟩ := qstep_quiet (s0 := s0) (o := o) hR1 ht (f := fun _ => false) (rd := []) (fun j hj => by cases hj) (k := fun v => k v objs [] none) h
      exact ⟨v, v', [], h2, .inl ⟨h1, h3⟩⟩
    · simp only [hb, cond_true] at h; cases h
end
end Go.Ab
end

section
namespace Go.Ab
open Go
section
variable {E : Env} {R : Type} {r : R} {s0 : St0} {G1 : Gh} {ι : Inj} {w1 : World}

/-- What holds at the end, in the text's order. -/
def EndX (G1 : Gh) (ι : Inj) (nt : Nat) (es : List Nat) (t : List AV) (listed : Array Bool) (a : Act) : Prop :=
  (∀ j ∈ es, listed.getD j true = true) ∧ LRel G1 ι t a.tmps.toList ∧ a.defers = [] ∧ a.tmps.size = nt

theorem waits_spec {o : Oper} {j : Nat} (h : waits o (some j) = true) : ∃ e ∈ o.after, Region.binds .any e = true ∧ e.on = j := by
  simp only [waits, Array.any_eq_true, Bool.and_eq_true, beq_iff_eq] at h
  obtain ⟨q, hq1, hq2, hq3⟩ := h
  exact ⟨_, Array.getElem_mem hq1, hq2, hq3⟩
theorem getD_tt {lst : Array Bool} {j : Nat} (h : lst.getD j false = true) : lst.getD j true = true := by
  simp only [Array.getD_eq_getD_getElem?] at h ⊢
  cases hx : lst[j]? with
  | none => rw [hx] at h; simp at h
  | some b => rw [hx] at h; simpa using h

theorem xopsK_ok {Γ : Ctr R} (hΓ : CtrOk E Γ) {o0 : List AObj} (hR1 : Rel E G1 ι o0 w1) {ops : Array Oper} {k : List AV → List AObj → Option R} :
    ∀ (l : List Oper) (n : Nat) (last : Option Nat) (t : List AV) (objs : List AObj) (rd : List (Nat × List Nat)) (tc : List Nat) (a : Act), xopsK E.P Γ ops o0 l n last t objs rd tc k = some r →
      (∀ j, j < l.length → l[j]? = ops[n + j]?) → LRel G1 ι t a.tmps.toList → a.defers = [] → a.tmps.size = s0.nt → canTouch o0 tc = true →
      ∃ (Ss : List (List AObj)) (es : List Nat) (Ts : List (List Nat)) (tE : List AV) (oE : List AObj), k tE oE = some r ∧ canTouch o0 Ts.flatten = true ∧
        Ss.length = es.length ∧ Ts.length = es.length ∧ (∀ j ∈ es, n ≤ j ∧ j < n + l.length) ∧ (objs :: Ss)[es.length]? = some oE ∧
        (∀ (m j : Nat) (ids : List Nat), es[m]? = some j → Ts[m]? = some ids → ∀ x ∈ rd, (∀ i ∈ x.2, i ∉ ids) ∨ ∃ o, ops[j]? = some o ∧ ∃ e ∈ o.after, Region.binds .any e = true ∧ e.on = x.1) ∧
        ∀ (preS : List (List AObj)) (preE : List Nat) (preT : List (List Nat)) (listed : Array Bool), preS.length = preE.length → preT.length = preE.length → (∀ j ∈ preE, j < n) → preE.getLast? = last → (∀ i ∈ preT.flatten, i ∈ tc) → (∀ j, j < n → listed.getD j true = true) →
          wpLexX (ClX E ops s0 G1 ι w1 (preS ++ objs :: Ss) (preE ++ es) (preT ++ Ts)) E.P ops .any (EndX G1 ι s0.nt (preE ++ es) tE) l n listed a
  | [], n, last, t, objs, rd, tc, a, h, hl, ht, hd, hz, hct => by
    simp only [xopsK] at h
    refine ⟨[], [], [], t, objs, h, rfl, rfl, rfl, fun j hj => (by cases hj), rfl, fun m j ids hj => by simp at hj, fun preS preE preT listed h1 h2 h3 h4 h5 h6 => ?_⟩
    exact ⟨fun j hj => h6 j (h3 j (by simpa using hj)), ht, hd, hz⟩
  | o :: l, n, last, t, objs, rd, tc, a, h, hl, ht, hd, hz, hct => by
    have h0 : ops[n]? = some o := by simpa using (hl 0 (by simp)).symm
    have hl' : ∀ j, j < l.length → l[j]? = ops[n + 1 + j]? := fun j hj => by have := hl (j + 1) (by simpa using hj); simpa [Nat.add_assoc, Nat.add_comm 1 j] using this
    have hset : ∀ (listed : Array Bool), (∀ j, j < n → listed.getD j true = true) → ∀ j, j < n + 1 → (listed.setIfInBounds n true).getD j true = true := fun listed h j hj => by
      by_cases hjn : j = n
      · subst hjn; exact getD_set_self _ _
      · rw [getD_set_ne true (Ne.symm hjn)]; exact h j (by omega)
    simp only [xopsK] at h
    rcases guardK_ok h ht with ⟨hw, h1⟩ | ⟨hw, h1⟩
    · obtain ⟨v, v', rd', hv, hcase⟩ := xoperK_ok (ops := ops) (s0 := s0) hΓ hR1 h1 ht
      rcases hcase with ⟨hk, hq⟩ | ⟨objs', ids, hk, hwt, hcan, hws⟩
      · dsimp only at hk
        cases hrt : (rd'.all fun i => !tc.contains i)
        · rw [hrt] at hk; cases hk
        · rw [hrt] at hk; simp only [cond_true] at hk
          obtain ⟨Ss, es, Ts, tE, oE, g1, g2, g3, g4, g5, g6, gw, g7⟩ := xopsK_ok hΓ hR1 l (n + 1) last _ objs _ tc (a.put o.dst v') hk hl' (ht.put o.dst hv) (by rw [put_defers]; exact hd) (by rw [put_size]; exact hz) hct
          refine ⟨Ss, es, Ts, tE, oE, g1, g2, g3, g4, fun j hj => by have := g5 j hj; simp only [List.length_cons]; omega, g6, fun m j ids hj hi x hx => gw m j ids hj hi x (List.mem_cons_of_mem _ hx), fun preS preE preT listed p1 p2 p3 p4 p5 p6 => ?_⟩
          refine ⟨v', .inl ⟨hw, fun lst w hr hC => ?_⟩, g7 preS preE preT _ p1 p2 (fun j hj => by have := p3 j hj; omega) p4 p5 (hset _ p6)⟩
          have hnn : n ∉ preE ++ es := fun hm => by
            rcases List.mem_append.1 hm with hm | hm
            · have := p3 n hm; omega
            · have := g5 n hm; omega
          have hcan : canTouch o0 (preT ++ Ts).flatten = true := by
            rw [List.flatten_append]
            unfold canTouch at g2 hct ⊢
            rw [List.all_append, g2, Bool.and_true]
            exact List.all_eq_true.2 fun i hi => List.all_eq_true.1 hct i (p5 i hi)
          refine hq (preT ++ Ts) hcan _ _ lst n w hnn hr (fun s hD i hi hm => ?_) hC
          -- what is read is not yet written
          obtain ⟨ids, hid, him⟩ := List.mem_flatten.1 hm
          obtain ⟨m, hmlt, hme⟩ := List.mem_iff_getElem.1 hid
          rw [List.length_take] at hmlt
          rw [List.getElem_take] at hme
          have hms : m < s := by omega
          rcases Nat.lt_or_ge m preT.length with hlt | hge
          · rw [List.getElem_append_left hlt] at hme
            have : i ∈ tc := p5 i (List.mem_flatten.2 ⟨ids, hme ▸ List.getElem_mem hlt, him⟩)
            have hno := List.all_eq_true.1 hrt i hi
            simp [this] at hno
          · rw [List.getElem_append_right hge] at hme
            have hml : m - preT.length < Ts.length := by have := hmlt; rw [List.length_append] at this; omega
            have hj : es[m - preT.length]? = some (es[m - preT.length]'(by omega)) := List.getElem?_eq_getElem (by omega)
            have hTi : Ts[m - preT.length]? = some ids := by rw [List.getElem?_eq_getElem hml, hme]
            rcases gw _ _ ids hj hTi (n, rd') List.mem_cons_self with hdis | ⟨oj, hoj, e, he, hb, hon⟩
            · exact hdis i hi him
            · have hje : (preE ++ es)[m]? = some (es[m - preT.length]'(by omega)) := by
                rw [List.getElem?_append_right (by omega), ← p2]; exact hj
              have hlj := (hD.2 m _ hje).2 hms
              obtain ⟨hcl, _⟩ := hC
              have hjs : (es[m - preT.length]'(by omega)) < lst.size := by rw [hcl.1]; exact (Array.getElem?_eq_some_iff.1 hoj).1
              have hun := (mem_ready.1 hr).1
              have hlj' : lst.getD (es[m - preT.length]'(by omega)) false = true := by
                simp [hjs] at hlj ⊢; exact hlj
              have := hcl.2 _ oj hoj hlj' e he hb
              rw [hon] at this
              have := getD_tt this
              rw [hun] at this; cases this
      · dsimp only at hk
        cases hrk : rdOk o rd ids
        · rw [hrk] at hk; cases hk
        · rw [hrk] at hk; simp only [cond_true] at hk
          have hcan' : canTouch o0 (ids ++ tc) = true := by unfold canTouch at hcan hct ⊢; rw [List.all_append, hcan, hct]; rfl
          obtain ⟨Ss, es, Ts, tE, oE, g1, g2, g3, g4, g5, g6, gw, g7⟩ := xopsK_ok hΓ hR1 l (n + 1) (some n) _ objs' rd _ (a.put o.dst v') hk hl' (ht.put o.dst hv) (by rw [put_defers]; exact hd) (by rw [put_size]; exact hz) hcan'
          refine ⟨objs' :: Ss, n :: es, ids :: Ts, tE, oE, g1, ?_, by simp [g3], by simp [g4], fun j hj => ?_, by simpa using g6, fun m j ids' hj hi x hx => ?_, fun preS preE preT listed p1 p2 p3 p4 p5 p6 => ?_⟩
          · rw [List.flatten_cons]; unfold canTouch at hcan g2 ⊢; rw [List.all_append, hcan, g2]; rfl
          · rcases List.mem_cons.1 hj with rfl | hj
            · simp
            · have := g5 j hj; simp only [List.length_cons]; omega
          · cases m with
            | zero =>
              simp only [List.getElem?_cons_zero, Option.some.injEq] at hj hi
              subst hj hi
              have := List.all_eq_true.1 hrk x hx
              rw [Bool.or_eq_true] at this
              rcases this with h1 | h1
              · refine .inl fun i hi => ?_
                have := List.all_eq_true.1 h1 i hi
                simpa using this
              · exact .inr ⟨o, h0, waits_spec h1⟩
            | succ m => exact gw m j ids' (by simpa using hj) (by simpa using hi) x hx
          · have e1 : preS ++ objs :: objs' :: Ss = (preS ++ [objs]) ++ objs' :: Ss := by simp
            have e2 : preE ++ n :: es = (preE ++ [n]) ++ es := by simp
            have e3 : preT ++ ids :: Ts = (preT ++ [ids]) ++ Ts := by simp
            have hlex := g7 (preS ++ [objs]) (preE ++ [n]) (preT ++ [ids]) (listed.setIfInBounds n true) (by simp [p1]) (by simp [p2]) (fun j hj => by
              rcases List.mem_append.1 hj with hj | hj
              · have := p3 j hj; omega
              · simp at hj; omega) (by simp) (fun i hi => by
              rw [List.flatten_append] at hi
              rcases List.mem_append.1 hi with hi | hi
              · exact List.mem_append_right _ (p5 i hi)
              · simp at hi; exact List.mem_append_left _ hi) (hset _ p6)
            rw [e1, e2, e3]
            refine ⟨v', .inl ⟨hw, fun lst w hr hC => ?_⟩, hlex⟩
            obtain ⟨hcl, s, so, c1, ⟨c2, c3⟩, ⟨G, c4, c5, c6⟩, c7, c8⟩ := hC
            obtain ⟨hun, oo, hoo, hall⟩ := mem_ready.1 hr
            have hoe : oo = o := Option.some.inj (hoo.symm.trans h0)
            rw [hoe] at hall
            have hat : ((preE ++ [n]) ++ es)[preE.length]? = some n := by simp
            have hle : s ≤ preE.length := by
              rcases Nat.lt_or_ge preE.length s with hlt | hge
              · have := (c3 _ _ hat).2 hlt; rw [hun] at this; cases this
              · exact hge
            have hge : preE.length ≤ s := by
              rcases Nat.eq_zero_or_pos preE.length with h0' | hpos
              · omega
              · have hlast : preE[preE.length - 1]? = preE.getLast? := by rw [List.getLast?_eq_getElem?]
                cases hq : preE.getLast? with
                | none => rw [List.getLast?_eq_none_iff] at hq; subst hq; simp at hpos
                | some j =>
                  rw [hq] at hlast
                  rw [← p4, hq] at hwt
                  obtain ⟨e, he, hb, hon⟩ := waits_spec hwt
                  have hls := hall e he hb
                  rw [hon] at hls
                  have hat' : ((preE ++ [n]) ++ es)[preE.length - 1]? = some j := by
                    rw [List.append_assoc, List.getElem?_append_left (by omega)]; exact hlast
                  have := (c3 _ _ hat').1 (getD_tt hls)
                  omega
            have hs : s = preS.length := by omega
            subst hs
            have hso : so = objs := by
              have : ((preS ++ [objs]) ++ objs' :: Ss)[preS.length]? = some objs := by simp
              rw [this] at c1; exact (Option.some.inj c1).symm
            subst hso
            have hstep := hws G w c4 c5 c6
            have fin : ∀ w', ((∃ G', Rel E G' ι objs' w' ∧ Ext s0.L s0.G s0.ι s0.w G' ι objs' w' ∧ G1.le G') ∧ (∀ b, b < w.heap.size → ¬ XB ι ids b → w'.heap[b]? = w.heap[b]?) ∧ w.heap.size ≤ w'.heap.size) →
                ClX E ops s0 G1 ι w1 ((preS ++ [so]) ++ objs' :: Ss) ((preE ++ [n]) ++ es) ((preT ++ [ids]) ++ Ts) (lst.setIfInBounds n true) w' := fun w' ⟨d1, d2, d3⟩ => by
              refine ⟨hcl.set hr, preS.length + 1, objs', by simp, ⟨by simp; omega, fun m j hj => ?_⟩, d1, fun b o v hX hc => ?_, Nat.le_trans c8 d3⟩
              · by_cases hm : m = preE.length
                · subst hm
                  rw [hat] at hj; cases hj
                  rw [getD_set_self]; simp; omega
                · have hne : j ≠ n := fun e => by
                    subst e
                    rcases Nat.lt_or_ge m preE.length with hlt | hge
                    · rw [List.append_assoc, List.getElem?_append_left hlt] at hj
                      have := p3 j (List.mem_of_getElem? hj); omega
                    · have hgt : preE.length + 1 ≤ m := by omega
                      rw [List.getElem?_append_right (by simp; omega)] at hj
                      have := g5 j (List.mem_of_getElem? hj); omega
                  rw [getD_set_ne true (Ne.symm hne), c3 m j hj]
                  omega
              · have ht1 : (((preT ++ [ids]) ++ Ts).take (preS.length + 1)).flatten = preT.flatten ++ ids := by
                  rw [List.take_append_of_le_length (by simp; omega), List.take_of_length_le (by simp; omega)]
                  simp
                have ht0 : (((preT ++ [ids]) ++ Ts).take preS.length).flatten = preT.flatten := by
                  rw [List.append_assoc, List.take_append_of_le_length (by omega), List.take_of_length_le (by omega)]
                rw [ht1] at hX
                have hcell := c7 b o v (by rw [ht0]; exact fun ⟨i, hi, C, hC⟩ => hX ⟨i, List.mem_append_left _ hi, C, hC⟩) hc
                have hb := block_lt_of_cell hcell
                rw [← hcell]
                exact World.cell?_of_block (w := w) (d2 b hb fun ⟨i, hi, C, hC⟩ => hX ⟨i, List.mem_append_right _ hi, C, hC⟩)
            generalize (execOp a.eval o).run E.P w = res at hstep ⊢
            cases res with
            | ok nx w' =>
              cases nx <;> simp only [stepUpon] at hstep ⊢
              case value u => exact ⟨fin _ hstep.1, hstep.2⟩
              case skip => exact ⟨fin _ hstep.1, hstep.2⟩
              case enter f args => exact hstep.mono fun e w'' ⟨he, hd⟩ => ⟨he, fin _ hd⟩
            | halt x w' => simp only [stepUpon] at hstep
    · obtain ⟨Ss, es, Ts, tE, oE, g1, g2, g3, g4, g5, g6, gw, g7⟩ := xopsK_ok hΓ hR1 l (n + 1) last _ objs rd tc (a.put o.dst undef) h1 hl' (ht.put o.dst skip_rel) (by rw [put_defers]; exact hd) (by rw [put_size]; exact hz) hct
      refine ⟨Ss, es, Ts, tE, oE, g1, g2, g3, g4, fun j hj => by have := g5 j hj; simp only [List.length_cons]; omega, g6, gw, fun preS preE preT listed p1 p2 p3 p4 p5 p6 => ?_⟩
      refine ⟨undef, .inr ⟨hw, rfl, fun lst w hr hC => ?_⟩, g7 preS preE preT _ p1 p2 (fun j hj => by have := p3 j hj; omega) p4 p5 (hset _ p6)⟩
      have hnn : n ∉ preE ++ es := fun hm => by
        rcases List.mem_append.1 hm with hm | hm
        · have := p3 n hm; omega
        · have := g5 n hm; omega
      exact hC.quiet hnn hr fun s so G _ h1 h2 h3 h4 h5 => ⟨⟨G, h1, h2, h3⟩, h4, h5⟩
end
end Go.Ab
end

section
namespace Go.Ab
open Go
section
variable {P : Program} {ops : Array Oper} {md : Region.Mode} (C : Array Bool → World → Prop)

def wpAnyXL (P : Program) (md : Region.Mode) (ops : Array Oper) (n : Nat) (Lq : Array Bool → Act → Prop) : Nat → Array Bool → Act → Prop
  | 0, listed, a => Lq listed a
  | f + 1, listed, a =>
    Region.ready md ops listed ≠ [] ∧ ∀ i ∈ Region.ready md ops listed, i < n ∧ xOp C P ops md i (wpAnyXL P md ops n Lq f (listed.setIfInBounds i true)) a

variable {C}
theorem wpAny_of_xhead {n g : Nat} {Lq : Array Bool → Act → Prop} {Q' : Exit → Act → World → Prop} (hL : ∀ listed a w, C listed w → Lq listed a → wpAny P md ops Q' g listed a w) :
    ∀ (f : Nat) (listed : Array Bool) (a : Act) (w : World), C listed w → wpAnyXL C P md ops n Lq f listed a → wpAny P md ops Q' (f + g) listed a w
  | 0, listed, a, w, hC, h => by rw [Nat.zero_add]; exact hL _ _ _ hC h
  | f + 1, listed, a, w, hC, h => by
    rw [show f + 1 + g = (f + g) + 1 by omega]
    exact ⟨fun h0 => absurd h0 h.1, fun i hi => wpOp_of_x hi hC (fun a' w' hC' h' => wpAny_of_xhead hL f _ a' w' hC' h') (h.2 i hi).2⟩

theorem wpAnyXL_first {n i : Nat} {oi : Oper} {v : Value} {Lq : Array Bool → Act → Prop} (hi : ops[i]? = some oi) (hsel : ∀ (j : Nat) (o : Oper) cs b, ops[j]? = some o → o.op ≠ .select cs b)
    (hs : Region.sinkB md ops n = true) (hc : Region.chainB md ops n = true) (hn : n < ops.size) (hin : i < n)
    (hdone : ∀ listed a, Lq listed a → ∀ j ∈ Region.ready md ops listed, n ≤ j) :
    ∀ (f : Nat) (listed : Array Bool) (a : Act), HeadInv md ops n listed →
      (∀ j oj, ops[j]? = some oj → j ≠ i → listed.getD j true = false → (∀ e ∈ oj.after, Region.binds md e = true → e.on ≠ i) → oi.apart ops oj = true) →
      i ∈ Region.ready md ops listed → Ylds C P ops md i oi v a →
      wpAnyXL C P md ops n Lq f (listed.setIfInBounds i true) (a.put oi.dst v) → wpAnyXL C P md ops n Lq (f + 1) listed a := by
  intro f
  induction f with
  | zero =>
    intro listed a inv _ hr hy H
    have hun := (mem_ready.1 hr).1
    refine ⟨fun h => (by rw [h] at hr; cases hr), fun j hj => ?_⟩
    have hjn : j < n := by
      rcases Nat.lt_or_ge j n with h | h
      · exact h
      · exact absurd hj (tail_waits hs hc hn inv _ i rfl hin hun j h)
    refine ⟨hjn, ?_⟩
    by_cases hji : j = i
    · subst hji; exact ⟨oi, v, hi, hy, H⟩
    · have := hdone _ _ H j (ready_mono hj hji)
      omega
  | succ f ih =>
    intro listed a inv hfree hr hy H
    have hun := (mem_ready.1 hr).1
    refine ⟨fun h => (by rw [h] at hr; cases hr), fun j hj => ?_⟩
    have hjn : j < n := by
      rcases Nat.lt_or_ge j n with h | h
      · exact h
      · exact absurd hj (tail_waits hs hc hn inv _ i rfl hin hun j h)
    refine ⟨hjn, ?_⟩
    by_cases hji : j = i
    · subst hji; exact ⟨oi, v, hi, hy, H⟩
    · have h1 := (H.2 j (ready_mono hj hji)).2
      obtain ⟨hjun, oj, hoj, hall⟩ := mem_ready.1 hj
      have hnot : ∀ e ∈ oj.after, Region.binds md e = true → e.on ≠ i := fun e he hb heq => by
        have h1 := hall e he hb
        rw [heq, getD_both hun] at h1
        cases h1
      have h2 := xOp_put hoj (hfree j oj hoj hji hjun hnot) (fun cs b => hsel i oi cs b hi) (fun cs b => hsel j oj cs b hoj) hy h1
      have hfree' : ∀ k ok, ops[k]? = some ok → k ≠ i → (listed.setIfInBounds j true).getD k true = false →
          (∀ e ∈ ok.after, Region.binds md e = true → e.on ≠ i) → oi.apart ops ok = true := fun k ok hk hki hun hno => by
        refine hfree k ok hk hki ?_ hno
        by_cases hjk : j = k
        · subst hjk; exact hjun
        · rw [getD_set_ne true hjk] at hun; exact hun
      refine xOp_mono (fun a' h3 => ih (listed.setIfInBounds j true) a' (inv.set hj hjn) hfree' (ready_mono hr (Ne.symm hji)) h3.1 ?_) h2
      rw [Array.setIfInBounds_comm _ _ hji]
      exact h3.2

theorem wpAnyXL_lex {n g : Nat} {Q : Array Bool → Act → Prop} (hsel : Region.noSelect ops = true) (hs : Region.sinkB md ops n = true) (hc : Region.chainB md ops n = true) (hn : n < ops.size) :
    ∀ (l : List Oper) (k : Nat) (listed : Array Bool) (a : Act), (∀ j, j < l.length → l[j]? = ops[k + j]?) → k + l.length = n → HeadInv md ops n listed →
    Region.lexHead md ops g l.length k listed = true → wpLexX C P ops md Q l k listed a →
    wpAnyXL C P md ops n (fun listed' a' => Region.seqB md ops g n listed' = true ∧ Q listed' a') l.length listed a
  | [], k, listed, a, _, hk, _, hB, h => by
    have : k = n := by simpa using hk
    subst this
    exact ⟨by simpa [Region.lexHead] using hB, h⟩
  | o :: l, k, listed, a, hl, hk, inv, hB, h => by
    have h0 : ops[k]? = some o := by simpa using (hl 0 (by simp)).symm
    simp only [List.length_cons, Region.lexHead, Bool.and_eq_true] at hB
    obtain ⟨⟨hr, hf⟩, hB'⟩ := hB
    have hkn : k < n := by simp only [List.length_cons] at hk; omega
    have hr' : k ∈ Region.ready md ops listed := by simpa using hr
    obtain ⟨v, hy, hK⟩ := h
    exact wpAnyXL_first h0 (Region.noSelect_spec hsel) hs hc hn hkn (fun listed' a' hL => seqB_ready hL.1) l.length listed a inv (Region.free_spec h0 hf) hr' hy
      (wpAnyXL_lex hsel hs hc hn l (k + 1) _ _ (fun j hj => by have := hl (j + 1) (by simp; omega); simpa [Nat.add_assoc, Nat.add_comm 1 j] using this) (by simp only [List.length_cons] at hk; omega) (inv.set hr' hkn) hB' hK)

theorem wpAny_of_seqOps {Q' : Exit → Act → World → Prop} : ∀ (l k : Nat) (listed : Array Bool) (a : Act) (w : World),
    Region.seqB md ops l k listed = true → wpOps P ops Q' (List.range' k l) a w → wpAny P md ops Q' l listed a w
  | 0, _, _, _, _, hB, h => ⟨by simpa [Region.seqB] using hB, h⟩
  | l + 1, k, listed, a, w, hB, h => by
    simp only [Region.seqB, Bool.and_eq_true, decide_eq_true_eq] at hB
    refine ⟨fun h1 => (by rw [hB.1] at h1; cases h1), fun i hi => ?_⟩
    rw [hB.1] at hi
    have hik : i = k := by simpa using hi
    subst hik
    rw [List.range'_succ, wpOps_cons] at h
    exact wpOp_mono (fun a' w' h' => wpAny_of_seqOps l (i + 1) _ a' w' hB.2 h') h

theorem wp_region_xtail {id : Nat} {Q' : Exit → Act → World → Prop} {a : Act} {w : World} {Q : Array Bool → Act → Prop} (n : Nat) (hm : P.follows .mixedOrders = true) (hB : Region.lexTailB .any ops n = true)
    (hC : C (Array.replicate ops.size false) { w with drawn := w.drawn + 1 })
    (hQ : ∀ listed a w, C listed w → Q listed a → wpOps P ops Q' (List.range' n (ops.size - n)) a w)
    (h : wpLexX C P ops .any Q (ops.toList.take n) 0 (Array.replicate ops.size false) a) : (Code.region id ops true).wp P Q' a w := by
  simp only [Region.lexTailB, Bool.and_eq_true, decide_eq_true_eq] at hB
  obtain ⟨⟨⟨⟨hsel, hn⟩, hs⟩, hc⟩, hlex⟩ := hB
  have htl : (ops.toList.take n).length = n := by simp; omega
  have inv0 : HeadInv .any ops n (Array.replicate ops.size false) :=
    ⟨by simp, fun j oj _ hl => (by rw [getD_replicate_false] at hl; cases hl), fun t _ ht => getD_in (by simpa using ht) (getD_replicate_false _ _)⟩
  have H := wpAnyXL_lex (md := .any) (g := ops.size - n) hsel hs hc hn (ops.toList.take n) 0 _ a (fun j hj => by
    have hj' : j < n := by rw [htl] at hj; exact hj
    simp [hj']) (by simpa using htl) inv0 (by rw [htl]; exact hlex) h
  refine wp_region_any hm ?_
  have := wpAny_of_xhead (Q' := Q') (g := ops.size - n) (fun listed a' w' hC' hL => wpAny_of_seqOps (md := .any) (Q' := Q') (ops.size - n) n listed a' w' hL.1 (hQ listed a' w' hC' hL.2)) _ _ _ _ hC H
  rw [htl, show n + (ops.size - n) = ops.size by omega] at this
  exact this
end

end Go.Ab
end

section
namespace Go.Ab
open Go

/-- Every region whose order is open may be walked in the text's order. -/
def drawsOk : Code → Bool
  | .region _ ops draw => !draw || (match tailAt ops with | some n => Region.lexTailB .any ops n | none => Region.lexB .any ops)
  | .seq a b => drawsOk a && drawsOk b
  | .cond _ a b => drawsOk a && drawsOk b
  | .block _ b => drawsOk b
  | .loop b => drawsOk b
  | _ => true

def exOf : Ex → Exit
  | .normal => .normal
  | .exit id => .exit id
  | .ret => .ret

section
variable {E : Env} {R : Type} {r : R}

/-- The kept temporaries, one for one with those of the machine. -/
def KRel (G : Gh) (ι : Inj) (live : List Nat) (vs : List AV) (tmps : Array Value) : Prop :=
  vs.length = live.length ∧ ∀ (j : Nat) (d : Nat) (v : AV) (u : Value), live[j]? = some d → vs[j]? = some v → tmps[d]? = some u → VRel G ι v u

theorem LRel.set_same {G : Gh} {ι : Inj} {as : List AV} {vs : List Value} (h : LRel G ι as vs) (d : Nat) {a : AV} (ha : ∀ u, vs[d]? = some u → VRel G ι a u) : LRel G ι (as.set d a) vs := by
  refine ⟨by simpa using h.1, fun i b u h1 h2 => ?_⟩
  rw [List.getElem?_set] at h1
  split at h1
  · rename_i e; subst e
    split at h1
    · cases h1; exact ha u h2
    · cases h1
  · exact h.2 i b u h1 h2

theorem spread_rel {G : Gh} {ι : Inj} {tmps : Array Value} : ∀ (live : List Nat) (vs t : List AV), KRel G ι live vs tmps → LRel G ι t tmps.toList → LRel G ι (spread live vs t) tmps.toList
  | [], vs, t, _, h => by simpa [spread] using h
  | d :: ds, [], t, hk, h => by simpa [spread] using h
  | d :: ds, v :: vs, t, hk, h => by
    simp only [spread]
    refine spread_rel ds vs _ ⟨by simpa using hk.1, fun j d' v' u e1 e2 e3 => hk.2 (j + 1) d' v' u (by simpa using e1) (by simpa using e2) e3⟩ (h.set_same d fun u hu => ?_)
    exact hk.2 0 d v u rfl rfl (by simpa using hu)

theorem frame_rel {G : Gh} {ι : Inj} {tmps : Array Value} {nt : Nat} (hn : tmps.size = nt) {live : List Nat} {vs : List AV} (h : KRel G ι live vs tmps) : LRel G ι (frame nt live vs) tmps.toList := by
  refine spread_rel live vs _ h ⟨by simp [hn], fun i a v h1 _ => ?_⟩
  rw [List.getElem?_replicate] at h1
  split at h1
  · cases h1; exact .undef _
  · cases h1

/-- The state in its form. -/
def InvV (E : Env) (s : St0) (live : List Nat) (vs : List AV) (objs : List AObj) (a : Act) (w : World) : Prop :=
  ∃ G ι, Rel E G ι objs w ∧ KRel G ι live vs a.tmps ∧ Ext s.L s.G s.ι s.w G ι objs w ∧ a.defers = [] ∧ a.tmps.size = s.nt
theorem InvV.frame {s : St0} {live : List Nat} {vs : List AV} {objs : List AObj} {a : Act} {w : World} (h : InvV E s live vs objs a w) : Inv E s (frame s.nt live vs) objs a w := by
  obtain ⟨G, ι, hR, hk, hx, hd, hz⟩ := h
  exact ⟨G, ι, hR, frame_rel hz hk, hx, hd, hz⟩

theorem normK_ok {s : St0} {live : List Nat} {t : List AV} {objs : List AObj} {k : List AV → List AObj → Option R} (h : normK s.m live t objs k = some r)
    {a : Act} {w : World} (hI : Inv E s t objs a w) (hm : ∀ i, s.m ≤ i → s.ι i = none) : ∃ vs objs', k vs objs' = some r ∧ InvV E s live vs objs' a w := by
  obtain ⟨G, ι, hR, ht, hx, hd, hz⟩ := hI
  unfold normK at h
  dsimp only at h
  generalize (reach objs 200 (List.range s.m ++ idsL (live.map fun d => t.getD d .undef)) []).filter (fun i => decide (s.m ≤ i)) = l at h
  cases hb : nodup (List.range s.m ++ l)
  · simp [hb] at h
  · simp only [hb, cond_true] at h
    refine ⟨_, _, h, G, _, hR.pick hb, ⟨by simp [renL_eq], fun j d v u e1 e2 e3 => ?_⟩, hx.pick hm fun i hi => ?_, hd, hz⟩
    · rw [renL_eq, List.map_map, List.getElem?_map, e1] at e2
      simp only [Option.map_some, Function.comp_apply, Option.some.injEq] at e2
      subst e2
      refine ren_rel (pick_carries ι _) ?_
      have := aeval_rel ht (.tmp d)
      simp only [aeval, Act.eval] at this
      have hu : a.tmps.getD d undef = u := by simp [e3]
      rwa [hu] at this
    · rw [List.getElem?_append_left (by simpa using hi)]
      simp [hi]

/-- What is told of a loop is true. -/
def LoopOk (P : Program) {R : Type} (Γ : Ctr R) (A : Ann) (H : Hnd R) (nt m : Nat) (b : Code) : Prop :=
  ∀ t o k r, H.loop (key b) (fun t o k => denK P Γ A H nt m b t o k) t o k = some r → ∃ n, loopK nt m (A.live (key b)) (A.out (key b)) (fun t o k => denK P Γ A H nt m b t o k) n t o k = some r
/-- What is told of what stands behind a join is true. -/
def CutOk (P : Program) {R : Type} (Γ : Ctr R) (A : Ann) (H : Hnd R) (nt m : Nat) (b : Code) : Prop :=
  ∀ l, A.cut (key b) = some l → ∀ v o k r, H.cut (key b) (fun v o k => denK P Γ A H nt m b (frame nt l v) o fun e t2 o2 => normK m (A.out (key b)) t2 o2 fun v3 o3 => k e v3 o3) v o k = some r →
    (denK P Γ A H nt m b (frame nt l v) o fun e t2 o2 => normK m (A.out (key b)) t2 o2 fun v3 o3 => k e v3 o3) = some r

theorem denK_ok {Γ : Ctr R} (hΓ : CtrOk E Γ) (hmix : E.P.follows .mixedOrders = true) {s : St0} (hm : ∀ i, s.m ≤ i → s.ι i = none) {A : Ann} {H : Hnd R} :
    ∀ (c : Code) (t : List AV) (objs : List AObj) (k : Kont R) (a : Act) (w : World) (Q : Exit → Act → World → Prop),
      drawsOk c = true → (∀ b ∈ loopsOf c, LoopOk E.P Γ A H s.nt s.m b) → (∀ b ∈ cutsOf A c, CutOk E.P Γ A H s.nt s.m b) → denK E.P Γ A H s.nt s.m c t objs k = some r → Inv E s t objs a w →
      (∀ e t' objs' a' w', k e t' objs' = some r → Inv E s t' objs' a' w' → Q (exOf e) a' w') → c.wp E.P Q a w
  | .skip, t, objs, k, a, w, Q, _, _, _, h, hI, hQ => wp_skip (hQ .normal t objs a w (by simpa [denK] using h) hI)
  | .region id ops draw, t, objs, k, a, w, Q, hdr, _, _, h, hI, hQ => by
    simp only [denK] at h
    cases draw
    · simp only [cond_false] at h
      refine wp_region ?_
      have := opsK_ok hΓ (s := s) (ops := ops) (Q := Q) (k := fun t' o' => k .normal t' o') (fun t' objs' a' w' hk hI' => hQ .normal t' objs' a' w' hk hI') ops.toList 0 (by simp) t objs a w h hI
      rw [List.range_eq_range']
      simpa using this
    · simp only [cond_true] at h
      obtain ⟨G, ι, hR, ht, hx, hd, hz⟩ := hI
      have hR1 : Rel E G ι objs { w with drawn := w.drawn + 1 } := hR.of_heap rfl
      have hx1 : Ext s.L s.G s.ι s.w G ι objs { w with drawn := w.drawn + 1 } := ⟨hx.os, hx.tape, hx.output, hx.size, hx.keep, hx.gle, hx.gold, hx.ile, hx.lv⟩
      -- the start of the classes, and their end
      have start : ∀ (Ss : List (List AObj)) (es : List Nat) (Ts : List (List Nat)) (m : Nat), m ≤ ops.size → (∀ j ∈ es, 0 ≤ j ∧ j < 0 + m) →
          ClX E ops s G ι { w with drawn := w.drawn + 1 } ([] ++ objs :: Ss) ([] ++ es) ([] ++ Ts) (Array.replicate ops.size false) { w with drawn := w.drawn + 1 } := fun Ss es Ts m hm g5 => by
        have hes : ∀ j ∈ es, (Array.replicate ops.size false).getD j true = true → False := fun j hj ht => by
          have hlt : j < ops.size := by have := (g5 j hj).2; omega
          simp [Array.getD_eq_getD_getElem?, hlt] at ht
        exact ⟨⟨by simp, fun j oj _ hl => (by rw [getD_replicate_false] at hl; cases hl)⟩, 0, objs, rfl, ⟨by omega, fun m j hj => ⟨fun ht => (hes j (List.mem_of_getElem? (by simpa using hj)) ht).elim, fun h => by omega⟩⟩, ⟨G, hR1, hx1, Gh.le_refl _⟩, fun b o v _ hc => hc, Nat.le_refl _⟩
      have fin : ∀ (Ss : List (List AObj)) (es : List Nat) (Ts : List (List Nat)) (tE : List AV) (oE : List AObj) (listed : Array Bool) (a' : Act) (w' : World), (objs :: Ss)[es.length]? = some oE →
          ClX E ops s G ι { w with drawn := w.drawn + 1 } ([] ++ objs :: Ss) ([] ++ es) ([] ++ Ts) listed w' → EndX G ι s.nt ([] ++ es) tE listed a' → Inv E s tE oE a' w' := fun Ss es Ts tE oE listed a' w' g6 hC hE => by
        obtain ⟨_, st, so, c1, ⟨c2, c3⟩, ⟨G', c4, c5, c6⟩, _, _⟩ := hC
        obtain ⟨e1, e2, e3, e4⟩ := hE
        have hst : st = es.length := by
          rcases Nat.lt_or_ge st es.length with hlt | hge
          · have hj : ([] ++ es)[st]? = some es[st] := by simp [List.getElem?_eq_getElem hlt]
            have := (c3 st _ hj).1 (e1 _ (List.mem_of_getElem? hj)); omega
          · have : st ≤ es.length := by simpa using c2
            omega
        subst hst
        have hso : so = oE := by
          have : ([] ++ objs :: Ss)[es.length]? = some oE := g6
          rw [this] at c1; exact (Option.some.inj c1).symm
        subst hso
        exact ⟨G', ι, c4, e2.mono c6 (Inj.le_refl _), c5, e3, e4⟩
      split at h
      · rename_i n hn
        have hB : Region.lexTailB .any ops n = true := by
          rw [drawsOk, hn] at hdr
          simpa using hdr
        have hnlt : n < ops.size := by
          simp only [Region.lexTailB, Bool.and_eq_true, decide_eq_true_eq] at hB; exact hB.1.1.1.2
        have htl : (ops.toList.take n).length = n := by simp; omega
        obtain ⟨Ss, es, Ts, tE, oE, g1, g2, g3, g4, g5, g6, gw, g7⟩ := xopsK_ok (s0 := s) (w1 := { w with drawn := w.drawn + 1 }) hΓ hR1 (ops.toList.take n) 0 none t objs [] [] a h (fun j hj => by
          have hj' : j < n := by rw [htl] at hj; exact hj
          simp [hj']) ht hd hz rfl
        refine wp_region_xtail (C := ClX E ops s G ι { w with drawn := w.drawn + 1 } ([] ++ objs :: Ss) ([] ++ es) ([] ++ Ts)) n hmix hB (start Ss es Ts n (by omega) (by rw [htl] at g5; exact g5)) (fun listed a' w' hC hE => ?_) (g7 [] [] [] (Array.replicate ops.size false) rfl rfl (fun j hj => by cases hj) rfl (fun i hi => by cases hi) (fun j hj => by omega))
        have hI' := fin Ss es Ts tE oE listed a' w' g6 hC hE
        have := opsK_ok hΓ (s := s) (ops := ops) (Q := Q) (k := fun t' o' => k .normal t' o') (fun t' objs' a' w' hk hI' => hQ .normal t' objs' a' w' hk hI') (ops.toList.drop n) n rfl tE oE a' w' g1 hI'
        simpa using this
      · rename_i hn
        have hlex : Region.lexB .any ops = true := by
          rw [drawsOk, hn] at hdr
          simpa using hdr
        obtain ⟨Ss, es, Ts, tE, oE, g1, g2, g3, g4, g5, g6, gw, g7⟩ := xopsK_ok (s0 := s) (w1 := { w with drawn := w.drawn + 1 }) hΓ hR1 ops.toList 0 none t objs [] [] a h (fun j _ => by simp) ht hd hz rfl
        refine wp_region_x (C := ClX E ops s G ι { w with drawn := w.drawn + 1 } ([] ++ objs :: Ss) ([] ++ es) ([] ++ Ts)) hmix hlex (start Ss es Ts ops.size (Nat.le_refl _) (by simpa using g5)) (fun listed a' w' hC hE => ?_) (g7 [] [] [] (Array.replicate ops.size false) rfl rfl (fun j hj => by cases hj) rfl (fun i hi => by cases hi) (fun j hj => by omega))
        exact hQ .normal tE oE a' w' g1 (fin Ss es Ts tE oE listed a' w' g6 hC hE)
  | .seq x y, t, objs, k, a, w, Q, hdr, hL, hC, h, hI, hQ => by
    simp only [denK] at h
    simp only [drawsOk, Bool.and_eq_true] at hdr
    simp only [loopsOf, List.mem_append] at hL
    simp only [cutsOf, List.mem_append] at hC
    refine wp_seq (denK_ok hΓ hmix hm x t objs _ a w _ hdr.1 (fun b hb => hL b (.inl hb)) (fun b hb => hC b (.inr (.inl hb))) h hI fun e t' objs' a' w' hk hI' => ?_)
    cases e with
    | normal =>
      dsimp only at hk
      split at hk
      · exact denK_ok hΓ hmix hm y t' objs' k a' w' Q hdr.2 (fun b hb => hL b (.inr hb)) (fun b hb => hC b (.inr (.inr hb))) hk hI' hQ
      · rename_i l hl
        obtain ⟨v1, o1, h1, hI1⟩ := normK_ok hk hI' hm
        have := hC y (.inl (by rw [hl]; simp)) l hl _ _ _ _ h1
        refine denK_ok hΓ hmix hm y _ o1 _ a' w' Q hdr.2 (fun b hb => hL b (.inr hb)) (fun b hb => hC b (.inr (.inr hb))) this hI1.frame fun e t2 o2 a2 w2 hk2 hI2 => ?_
        obtain ⟨v3, o3, h3, hI3⟩ := normK_ok hk2 hI2 hm
        exact hQ e _ o3 a2 w2 h3 hI3.frame
    | exit id => exact hQ (.exit id) t' objs' a' w' hk hI'
    | ret => exact hQ .ret t' objs' a' w' hk hI'
  | .cond c x y, t, objs, k, a, w, Q, hdr, hL, hC, h, hI, hQ => by
    simp only [denK] at h
    simp only [drawsOk, Bool.and_eq_true] at hdr
    simp only [loopsOf, List.mem_append] at hL
    simp only [cutsOf, List.mem_append] at hC
    split at h
    · rename_i b hb
      have hI' := hI
      obtain ⟨G, ι, hR, ht, hx, hd, hz⟩ := hI
      have hv := aeval_rel ht c
      rw [hb] at hv
      have hv' := hv.bool_inv
      cases b
      · simp only [cond_false] at h; exact wp_cond_false hv' (denK_ok hΓ hmix hm y t objs k a w Q hdr.2 (fun b hb => hL b (.inr hb)) (fun b hb => hC b (.inr hb)) h hI' hQ)
      · simp only [cond_true] at h; exact wp_cond_true hv' (denK_ok hΓ hmix hm x t objs k a w Q hdr.1 (fun b hb => hL b (.inl hb)) (fun b hb => hC b (.inl hb)) h hI' hQ)
    · cases h
  | .block id b, t, objs, k, a, w, Q, hdr, hL, hC, h, hI, hQ => by
    simp only [denK] at h
    refine wp_block (denK_ok hΓ hmix hm b t objs _ a w _ (by simpa [drawsOk] using hdr) (by simpa [loopsOf] using hL) (by simpa [cutsOf] using hC) h hI fun e t' objs' a' w' hk hI' => ?_)
    cases e with
    | normal => exact hQ .normal t' objs' a' w' hk hI'
    | exit i =>
      simp only [exOf, Exit.inBlock]
      cases hb : i == id
      · simp only [hb, cond_false] at hk
        rw [if_neg (by simpa using hb)]
        exact hQ (.exit i) t' objs' a' w' hk hI'
      · simp only [hb, cond_true] at hk
        rw [if_pos (by simpa using hb)]
        exact hQ .normal t' objs' a' w' hk hI'
    | ret => exact hQ .ret t' objs' a' w' hk hI'
  | .loop b, t, objs, k, a, w, Q, hdr, hL, hC, h, hI, hQ => by
    simp only [denK] at h
    have hdr' : drawsOk b = true := by simpa [drawsOk] using hdr
    simp only [loopsOf, List.mem_cons] at hL
    simp only [cutsOf] at hC
    obtain ⟨v0, o0, h0, hI0⟩ := normK_ok h hI hm
    obtain ⟨N, hN⟩ := hL b (.inl rfl) _ _ _ _ h0
    refine wp_loop_rounds N ?_
    have key : ∀ (n : Nat) (vs : List AV) (objs : List AObj) (a : Act) (w : World), loopK s.nt s.m (A.live (Go.Ab.key b)) (A.out (Go.Ab.key b)) (fun t o k => denK E.P Γ A H s.nt s.m b t o k) n vs objs
          (fun e v2 o2 => k e (frame s.nt (A.out (Go.Ab.key b)) v2) o2) = some r → InvV E s (A.live (Go.Ab.key b)) vs objs a w → Code.rounds E.P b Q n a w := by
      intro n
      induction n with
      | zero => intro vs objs a w h _; simp [loopK] at h
      | succ n ih =>
        intro vs objs a w h hI
        simp only [loopK] at h
        rw [rounds_succ]
        refine denK_ok hΓ hmix hm b _ objs _ a w _ hdr' (fun b' hb => hL b' (.inr hb)) hC h hI.frame fun e t' objs' a' w' hk hI' => ?_
        cases e with
        | normal =>
          simp only [roundK] at hk
          obtain ⟨v1, o1, h1, hI1⟩ := normK_ok hk hI' hm
          exact ih v1 o1 a' w' h1 hI1
        | exit id =>
          simp only [roundK] at hk
          obtain ⟨v1, o1, h1, hI1⟩ := normK_ok hk hI' hm
          exact hQ (.exit id) _ o1 a' w' h1 hI1.frame
        | ret =>
          simp only [roundK] at hk
          obtain ⟨v1, o1, h1, hI1⟩ := normK_ok hk hI' hm
          exact hQ .ret _ o1 a' w' h1 hI1.frame
    exact key N v0 o0 a w hN hI0
  | .exit id, t, objs, k, a, w, Q, _, _, _, h, hI, hQ => wp_exit (hQ (.exit id) t objs a w (by simpa [denK] using h) hI)
  | .ret, t, objs, k, a, w, Q, _, _, _, h, hI, hQ => wp_ret (hQ .ret t objs a w (by simpa [denK] using h) hI)
  | .rangeFunc .., t, objs, k, a, w, Q, _, _, _, h, _, _ => by simp [denK] at h
  | .scope _, t, objs, k, a, w, Q, _, _, _, h, _, _ => by simp [denK] at h
  | .label _, t, objs, k, a, w, Q, _, _, _, h, _, _ => by simp [denK] at h
  | .goto _, t, objs, k, a, w, Q, _, _, _, h, _, _ => by simp [denK] at h
  | .refuse _, t, objs, k, a, w, Q, _, _, _, h, _, _ => by simp [denK] at h
end
end Go.Ab
end
