/- The abstract machine: soundness of such regions, one operation. No condition. -/
import Derived.Test.YtnalegahabfglaaDoorAbAny2
set_option linter.all false
set_option linter.unusedVariables false
set_option linter.unusedSimpArgs false
namespace Go.Ab
open Go
section
variable {E : Env} {R : Type} {r : R} {s0 : St0} {G1 : Gh} {ι : Inj} {w1 : World}

/-- The blocks that are written. -/
def XB (ι : Inj) (tc : List Nat) (b : Nat) : Prop := ∃ i ∈ tc, ∃ C, ι i = some (b, C)

theorem canTouch_get {o0 : List AObj} {ids : List Nat} (h : canTouch o0 ids = true) {i : Nat} (hi : i ∈ ids) : ∃ flat cs, o0[i]? = some (.cells flat cs) := by
  have := List.all_eq_true.1 h i hi
  rw [List.getD_eq_getElem?_getD] at this
  cases ho : o0[i]? with
  | none => rw [ho] at this; simp [isCellsO] at this
  | some o => rw [ho] at this; cases o <;> first | exact ⟨_, _, rfl⟩ | simp [isCellsO] at this

theorem noX_of {o0 : List AObj} (hR : Rel E G1 ι o0 w1) {tc : List Nat} (hc : canTouch o0 tc = true) (f : Nat → Bool) (hf : ∀ i, f i = true → i ∉ tc) : NoX (XB ι tc) G1 ι (maskO f 0 o0) := by
  refine ⟨fun i o B C hi hl hB hX => ?_, fun b o v hg hX => ?_⟩
  · rw [maskO_get] at hi
    obtain ⟨p, hp, rfl⟩ := Option.map_eq_some_iff.1 hi
    rw [Nat.zero_add] at hl
    cases hfi : f i
    · rw [hfi] at hl; cases hl
    · rw [hfi] at hl
      obtain ⟨j, hj, C', hB'⟩ := hX
      obtain ⟨flat, cs, ho⟩ := canTouch_get hc hj
      have := hR.inj i j p _ B C C' hp hl ho rfl hB hB'
      exact hf i hfi (this ▸ hj)
  · obtain ⟨j, hj, C', hB'⟩ := hX
    obtain ⟨flat, cs, ho⟩ := canTouch_get hc hj
    obtain ⟨B, C, h1, _, _, h2⟩ := hR.obj j _ ho rfl
    rw [hB'] at h1; cases h1
    rw [h2.2 o] at hg; cases hg

/-- What a quiet step gives. -/
def QStep (E : Env) (s0 : St0) (G1 : Gh) (ι : Inj) (w1 : World) (o0 : List AObj) (a : Act) (o : Oper) (rd : List Nat) (v' : Value) : Prop :=
  ∀ (tc : List Nat), canTouch o0 tc = true → (∀ i ∈ rd, i ∉ tc) → ∀ (S : List (List AObj)) (es : List Nat) (listed : Array Bool) (n : Nat) (w : World), n ∉ es → ClX E s0 G1 ι w1 S es (XB ι tc) listed w →
    stepUpon E.P (ClX E s0 G1 ι w1 S es (XB ι tc) (listed.setIfInBounds n true)) v' ((execOp a.eval o).run E.P w)
/-- What a writing step gives. -/
def WStep (E : Env) (s0 : St0) (G1 : Gh) (ι : Inj) (objs objs' : List AObj) (a : Act) (o : Oper) (ids : List Nat) (v' : Value) : Prop :=
  ∀ (G : Gh) (w : World), Rel E G ι objs w → Ext s0.L s0.G s0.ι s0.w G ι objs w → G1.le G →
    stepUpon E.P (fun w' => (∃ G', Rel E G' ι objs' w' ∧ Ext s0.L s0.G s0.ι s0.w G' ι objs' w' ∧ G1.le G') ∧ (∀ b, b < w.heap.size → ¬ XB ι ids b → w'.heap[b]? = w.heap[b]?) ∧ w.heap.size ≤ w'.heap.size) v' ((execOp a.eval o).run E.P w)

theorem qstep_of {o0 : List AObj} (hR : Rel E G1 ι o0 w1) {a : Act} {o : Oper} {f : Nat → Bool} {rd : List Nat} (hf : ∀ i, f i = true → i ∈ rd) {v' : Value}
    (h : ∀ X, NoX X G1 ι (maskO f 0 o0) → ∀ w, AgreeX X w1 w → (execOp a.eval o).run E.P w = .ok (.value v') w) : QStep E s0 G1 ι w1 o0 a o rd v' := by
  intro tc hc hd S es listed n w hn hC
  have hag : AgreeX (XB ι tc) w1 w := by obtain ⟨s, so, _, _, _, _, h7, _⟩ := hC; exact h7
  rw [h (XB ι tc) (noX_of hR hc f fun i hi => hd i (hf i hi)) w hag]
  exact ⟨hC.quiet hn fun so G h1 h2 h3 h4 h5 => ⟨⟨G, h1, h2, h3⟩, h4, h5⟩, rfl⟩

theorem merge_self (so : List AObj) (G' : Gh) (ι ι' : Inj) (h : ∀ i, so.length ≤ i → ι i = none) (m : Nat) : mergeι ι ι' so.length m m = ι := by
  funext i
  unfold mergeι
  split
  · rfl
  · rename_i hlt; rw [if_neg (by omega)]; exact (h i (by omega)).symm

/-- A call, or a store, that hands its objects on and gives back a plain value. -/
theorem wmerge {objs : List AObj} {ids : List Nat} (hn : nodup ids = true) (hl : ∀ i ∈ ids, (objs.getD i .dead).live = true) {G G' : Gh} {ι' : Inj} {objs' : List AObj} {w w' : World}
    (hR : Rel E G ι objs w) (hx : Ext s0.L s0.G s0.ι s0.w G ι objs w) (hG : G1.le G) (hlen : objs'.length = ids.length)
    (hR' : Rel E G' ι' objs' w') (hx' : Ext (LiveB (pickι ι ids) (pickO objs ids)) G (pickι ι ids) w G' ι' objs' w') :
    (∃ G', Rel E G' ι (mergeO objs ids objs') w' ∧ Ext s0.L s0.G s0.ι s0.w G' ι (mergeO objs ids objs') w' ∧ G1.le G') ∧ (∀ b, b < w.heap.size → ¬ XB ι ids b → w'.heap[b]? = w.heap[b]?) ∧ w.heap.size ≤ w'.heap.size := by
  obtain ⟨m1, m2, m3⟩ := hR.merge hn (fun i hi => by
    have := hl i hi
    rw [List.getD_eq_getElem?_getD] at this
    cases ho : objs[i]? with
    | none => rw [ho] at this; simp [AObj.live] at this
    | some o => rw [ho] at this; exact ⟨o, rfl, this⟩) hR' hx'
  rw [hlen, merge_self objs G' ι ι' hR.fresh] at m1 m2
  refine ⟨⟨G', m1, hx.trans m2, Gh.le_trans hG m2.gle⟩, fun b hb hX => hx'.keep b hb fun hlv => hX ?_, m2.size⟩
  obtain ⟨k, p, C, h1, h2, h3⟩ := hlv
  unfold pickι at h3
  obtain ⟨i, hi, hιi⟩ := Option.bind_eq_some_iff.1 h3
  exact ⟨i, List.mem_of_getElem? hi, C, hιi⟩

/-- One value, whatever lies outside what is known. -/
theorem qstep_quiet {o0 : List AObj} (hR : Rel E G1 ι o0 w1) {a : Act} {o : Oper} {t : List AV} (ht : LRel G1 ι t a.tmps.toList) {f : Nat → Bool} {rd : List Nat} (hf : ∀ i, f i = true → i ∈ rd) {k : AV → Option R}
    (h : quiet2K E.P (maskO f 0 o0) (aeval t) o.op k = some r) : ∃ v v', k v = some r ∧ VRel G1 ι v v' ∧ QStep E s0 G1 ι w1 o0 a o rd v' := by
  let X : Nat → Prop := fun b => (¬ ∃ i p C, (maskO f 0 o0)[i]? = some p ∧ p.live = true ∧ ι i = some (b, C)) ∧ ¬ ∃ o v, G1 b o = some v
  have hX : NoX X G1 ι (maskO f 0 o0) := ⟨fun i p B C h1 h2 h3 h4 => h4.1 ⟨i, p, C, h1, h2, h3⟩, fun b o v h1 h4 => h4.2 ⟨o, v, h1⟩⟩
  obtain ⟨v, v', h1, h2, h3⟩ := quiet2X_ok h (aeval_rel ht) (hR.mask f) hX
  refine ⟨v, v', h1, h2, qstep_of hR hf fun Y hY w hw => h3 w fun b o u hb hc => hw b o u (fun hy => hb ⟨fun ⟨i, p, C, g1, g2, g3⟩ => hY.1 i p b C g1 g2 g3 hy, fun ⟨o', v, g1⟩ => hY.2 b o' v g1 hy⟩) hc⟩

theorem storeK_param {P : Program} {objs : List AObj} {ty : TypeId} {p x : AV} {k : AV → List AObj → Option R} (h : storeK P objs ty p x k = some r) :
    ∃ o', storeK P objs ty p x (fun v o => some (v, o)) = some (.tup [], o') ∧ k (.tup []) o' = some r := by
  unfold storeK at h
  split at h
  · cases h
  · rename_i i off a hne
    split at h
    · rename_i flat cs hi
      cases hb : (x.cells.length == szOf P ty && !(szOf P ty == 0) && x.cells.all oneA)
      · simp [hb] at h
      · simp only [hb, cond_true] at h
        obtain ⟨hc, hk⟩ := chk_some h
        refine ⟨_, ?_, hk⟩
        unfold storeK
        simp only [hi, hb, cond_true]
        unfold chk
        rw [hc]; rfl
    · cases h
  · cases h

theorem xoperK_ok {Γ : Ctr R} (hΓ : CtrOk E Γ) {o0 objs : List AObj} (hR1 : Rel E G1 ι o0 w1) {o : Oper} {last : Option Nat} {t : List AV} {k : AV → List AObj → List Nat → Option (List Nat) → Option R}
    (h : xoperK E.P Γ o last t o0 objs k = some r) {a : Act} (ht : LRel G1 ι t a.tmps.toList) :
    ∃ v v' rd, VRel G1 ι v v' ∧ ((k v objs rd none = some r ∧ QStep E s0 G1 ι w1 o0 a o rd v') ∨
      ∃ objs' ids, k v objs' rd (some ids) = some r ∧ waits o last = true ∧ canTouch o0 ids = true ∧ WStep E s0 G1 ι objs objs' a o ids v') := by
  unfold xoperK at h
  split at h
  · rename_i f args ts ho
    split at h
    · rename_i g first cap hf
      have hfr := aeval_rel ht f
      rw [hf] at hfr
      obtain ⟨us, vs, hfv, e1, e2⟩ := fn_inv hfr
      have hargs0 := args_rel ht e1 e2 args
      cases hcl : closedL (first ++ args.toList.map (aeval t) ++ cap)
      · simp only [hcl, cond_false] at h
        generalize reach objs 200 (idsL (first ++ args.toList.map (aeval t) ++ cap)) [] = ids at h
        cases hb : (nodup ids && (ids.all fun i => (objs.getD i .dead).live) && canTouch o0 ids && waits o last)
        · simp only [hb, cond_false] at h; cases h
        · simp only [hb, cond_true] at h
          simp only [Bool.and_eq_true] at hb
          obtain ⟨⟨⟨hn, hl⟩, hct⟩, hwt⟩ := hb
          obtain ⟨hen, v, objs', hs, hk⟩ := hΓ _ _ _ _ _ h
          split at hk
          · rename_i cv hcv
            cases hlen : (objs'.length == ids.length)
            · simp [hlen] at hk
            · simp only [hlen, cond_true] at hk
              refine ⟨v, cv, [], conc_rel G1 ι v cv hcv, .inr ⟨_, ids, hk, hwt, hct, fun G w hR hx hG => ?_⟩⟩
              rw [run_call hen ho hfv]
              refine (hs G (pickι ι ids) w _ (hR.pick hn) (LRel.ren (pick_carries ι ids) (hargs0.mono hG (Inj.le_refl _)))).mono ?_
              rintro e w' ⟨G', ι', v', rfl, hv, hR', hx'⟩
              exact ⟨by rw [conc_eq hv cv hcv], wmerge hn (fun i hi => List.all_eq_true.1 hl i hi) hR hx hG (by simpa using hlen) hR' hx'⟩
          · cases hk
      · simp only [hcl, cond_true] at h
        obtain ⟨hen, v, objs', hs, hk⟩ := hΓ _ _ _ _ _ h
        split at hk
        · rename_i cv hcv
          refine ⟨v, cv, [], conc_rel G1 ι v cv hcv, .inl ⟨hk, fun tc hc hd S es listed n w hnn hC => ?_⟩⟩
          rw [run_call hen ho hfv]
          have hC0 := hC
          obtain ⟨s, so, g1, g2, g3, ⟨G, hR, hx, hG⟩, hag, hsz⟩ := hC
          refine (hs G (pickι ι []) w _ (hR.pick (keep := []) rfl) ((hargs0.closed hcl).mono hG (noInj_le _))).mono ?_
          rintro e w' ⟨G', ι', v', rfl, hv, hR', hx'⟩
          obtain ⟨m1, m2, m3⟩ := wmerge (s0 := s0) (G1 := G1) (ids := []) rfl (fun i hi => by cases hi) hR hx hG rfl hR' hx'
          refine ⟨by rw [conc_eq hv cv hcv], s, so, g1, g2, fun m j hj => ?_, m1, fun b o v hX hc => ?_, Nat.le_trans hsz m3⟩
          · have hne : j ≠ n := fun e => hnn (e ▸ List.mem_of_getElem? hj)
            rw [getD_set_ne true (Ne.symm hne)]; exact g3 m j hj
          · have := hag b o v hX hc
            have hb := block_lt_of_cell this
            rw [← this]
            exact World.cell?_of_block (w := w) (m2 b hb fun ⟨i, hi, _⟩ => by cases hi)
        · cases hk
    · cases h
  · rename_i ty p x ho
    split at h
    · rename_i i off hp
      cases hb : (closedL [aeval t x] && (objs.getD i .dead).live && canTouch o0 [i] && waits o last)
      · simp only [hb, cond_false] at h; cases h
      · simp only [hb, cond_true] at h
        simp only [Bool.and_eq_true] at hb
        obtain ⟨⟨⟨hcl, hl⟩, hct⟩, hwt⟩ := hb
        have hpr := aeval_rel ht p
        rw [hp] at hpr
        have hxr := aeval_rel ht x
        have hxc : VRel G1 noInj (aeval t x) (a.eval x) := closed_rel_aux hxr (closedL_mem hcl _ (by simp))
        obtain ⟨o', hk0, hk⟩ := storeK_param h
        dsimp only at hk
        cases hlen : (o'.length == 1)
        · simp [hlen] at hk
        · simp only [hlen, cond_true] at hk
          refine ⟨.tup [], undef, [], skip_rel, .inr ⟨_, [i], hk, hwt, hct, fun G w hR hx hG => ?_⟩⟩
          have hR2 := hR.pick (keep := [i]) rfl
          have hp2 : VRel G (pickι ι [i]) (.ptr 0 off) (a.eval p) := by
            cases hpv : a.eval p with
            | pointer q => rw [hpv] at hpr; cases hpr with | ptr hι => exact .ptr (by simpa [pickι] using hι)
            | _ => rw [hpv] at hpr; cases hpr
          obtain ⟨o2, h1, w', h2, h3, h4⟩ := storeK_ok hk0 hp2 ((hxc.mono hG (Inj.le_refl _)).closed) hR2
          simp only [Option.some.injEq, Prod.mk.injEq, true_and] at h1
          subst h1
          have hrun : (execOp a.eval o).run E.P w = .ok .skip w' := by
            simp [execOp, ho, h2]
          rw [hrun]
          exact ⟨wmerge rfl (fun j hj => by simp at hj; subst hj; exact hl) hR hx hG (by simpa using hlen) h3 h4, rfl⟩
    · cases h
  · rename_i ty p ho
    obtain ⟨v, v', h1, h2, h3⟩ := qstep_quiet (s0 := s0) (o := o) hR1 ht (f := fun j => (rdOf (aeval t p)).contains j) (rd := rdOf (aeval t p)) (fun j hj => by simpa using hj) (k := fun v => k v objs (rdOf (aeval t p)) none) (by rw [ho]; exact h)
    exact ⟨v, v', _, h2, .inl ⟨h1, h3⟩⟩
  · rename_i ty x lo hi mx ho
    obtain ⟨v, v', h1, h2, h3⟩ := qstep_quiet (s0 := s0) (o := o) hR1 ht (f := fun j => (rdOf (aeval t x)).contains j) (rd := rdOf (aeval t x)) (fun j hj => by simpa using hj) (k := fun v => k v objs (rdOf (aeval t x)) none) (by rw [ho]; exact h)
    exact ⟨v, v', _, h2, .inl ⟨h1, h3⟩⟩
  · rename_i s d x ho
    obtain ⟨v, v', h1, h2, h3⟩ := qstep_quiet (s0 := s0) (o := o) hR1 ht (f := fun j => (rdOf (aeval t x)).contains j) (rd := rdOf (aeval t x)) (fun j hj => by simpa using hj) (k := fun v => k v objs (rdOf (aeval t x)) none) (by rw [ho]; exact h)
    exact ⟨v, v', _, h2, .inl ⟨h1, h3⟩⟩
  · rename_i op _ _ _ _ _
    cases hb : isEff o.op
    · simp only [hb, cond_false] at h
      obtain ⟨v, v', h1, h2, h3⟩ := qstep_quiet (s0 := s0) (o := o) hR1 ht (f := fun _ => false) (rd := []) (fun j hj => by cases hj) (k := fun v => k v objs [] none) h
      exact ⟨v, v', [], h2, .inl ⟨h1, h3⟩⟩
    · simp only [hb, cond_true] at h; cases h
end
end Go.Ab
