/- The abstract machine, part 21: an object's cells are sealed. No condition. -/
import Derived.Test.YtnalegahabfglaaDoorAbRunToAbRun3
set_option linter.all false
set_option linter.unusedVariables false
set_option linter.unusedSimpArgs false
namespace Go.Ab
open Go

mutual
def sealV (i : Nat) (cs : List AV) : AV → AV
  | .agg xs => .agg (sealL i cs xs)
  | .tup xs => .tup (sealL i cs xs)
  | .fn g xs ys => .fn g (sealL i cs xs) (sealL i cs ys)
  | .iface t v => .iface t (sealV i cs v)
  | .ptr j off => bif j == i then .cptr cs off else .ptr j off
  | .sref j off len sz => bif j == i then .sval ((cs.drop off).take (len * sz)) len false else .sref j off len sz
  | v => v
def sealL (i : Nat) (cs : List AV) : List AV → List AV
  | [] => []
  | a :: as => sealV i cs a :: sealL i cs as
end
theorem sealL_eq (i : Nat) (cs : List AV) : ∀ (as : List AV), sealL i cs as = as.map (sealV i cs)
  | [] => rfl
  | a :: as => by simp only [sealL, List.map_cons, sealL_eq i cs as]

def sealO (i : Nat) (cs : List AV) : AObj → AObj
  | .cells false xs => .cells false (sealL i cs xs)
  | .map false es => .map false (es.map fun e => (sealV i cs e.1, sealV i cs e.2))
  | o => o
theorem sealO_live (i : Nat) (cs : List AV) (o : AObj) : (sealO i cs o).live = o.live := by
  unfold sealO; split <;> rfl

section
variable {E : Env} {G G' : Gh} {ι : Inj} {objs : List AObj} {w : World}

/-- What sealing does to a value. -/
theorem sealV_rel {i B C : Nat} {cs : List AV} {vf : Nat → Value} (hG : G.le G') (hg : ∀ j, j < cs.length → G' B (0 + j) = some (vf j))
    (hv : ∀ (j : Nat) (a : AV), cs[j]? = some a → VRel G' noInj a (vf j)) {ι0 : Inj} {a : AV} {v : Value} (h : VRel G ι0 a v) : ι0 i = some (B, C) ∨ ι0 i = none → VRel G' ι0 (sealV i cs a) v := by
  induction h with
  | agg hl _ ih =>
    intro hi
    simp only [sealV, sealL_eq]
    refine .agg (by simpa using hl) fun n a v h1 h2 => ?_
    rw [List.getElem?_map] at h1
    obtain ⟨b, hb, rfl⟩ := Option.map_eq_some_iff.1 h1
    exact ih n b v hb h2 hi
  | tup hl _ ih =>
    intro hi
    simp only [sealV, sealL_eq]
    refine .tup (by simpa using hl) fun n a v h1 h2 => ?_
    rw [List.getElem?_map] at h1
    obtain ⟨b, hb, rfl⟩ := Option.map_eq_some_iff.1 h1
    exact ih n b v hb h2 hi
  | fn hx _ hy _ ih1 ih2 =>
    intro hi
    simp only [sealV, sealL_eq]
    refine .fn (by simpa using hx) (fun n a v h1 h2 => ?_) (by simpa using hy) (fun n a v h1 h2 => ?_)
    · rw [List.getElem?_map] at h1
      obtain ⟨b, hb, rfl⟩ := Option.map_eq_some_iff.1 h1
      exact ih1 n b v hb h2 hi
    · rw [List.getElem?_map] at h1
      obtain ⟨b, hb, rfl⟩ := Option.map_eq_some_iff.1 h1
      exact ih2 n b v hb h2 hi
  | iface t _ ih => intro hi; simp only [sealV]; exact .iface t (ih hi)
  | ptr h =>
    rename_i ι1 j off B' C'
    intro hi
    simp only [sealV]
    cases hb : j == i
    · simp only [cond_false]; exact .ptr h
    · simp only [cond_true]
      have hji : j = i := by simpa using hb
      subst hji
      rcases hi with hi | hi
      · rw [h] at hi; cases hi
        have := VRel.cptr (G := G') (ι := ι1) (off := off) vf hg hv
        rwa [Nat.zero_add] at this
      · rw [h] at hi; cases hi
  | sref h hc hl =>
    rename_i ι1 j off len sz cap B' C'
    intro hi
    simp only [sealV]
    cases hb : j == i
    · simp only [cond_false]; exact .sref h hc hl
    · simp only [cond_true]
      have hji : j = i := by simpa using hb
      subst hji
      rcases hi with hi | hi
      · rw [h] at hi; cases hi
        exact sval_sub hg hv off (len * sz) len cap hl (by omega)
      · rw [h] at hi; cases hi
  | cptr vf' hg' h' _ => intro _; simp only [sealV]; exact .cptr vf' (fun j hj => hG _ _ _ (hg' j hj)) fun j a hj => (h' j a hj).mono hG (Inj.le_refl _)
  | sval vf' hg' h' hf hl _ => intro _; simp only [sealV]; exact .sval vf' (fun j hj => hG _ _ _ (hg' j hj)) (fun j a hj => (h' j a hj).mono hG (Inj.le_refl _)) hf hl
  | map h => intro _; simp only [sealV]; exact .map h
  | _ => intro _; simp only [sealV]; constructor

theorem Rel.shut (h : Rel E G ι objs w) {i : Nat} {flat : Bool} {cs : List AV} (hi : objs[i]? = some (.cells flat cs)) (hc : (flat || closedL cs) = true) :
    ∃ G', Rel E G' ι ((objs.map (sealO i cs)).set i .dead) w ∧ Ext (LiveB ι objs) G ι w G' ι ((objs.map (sealO i cs)).set i .dead) w ∧ ∀ a v, VRel G ι a v → VRel G' ι (sealV i cs a) v := by
  obtain ⟨B, C, g1, g2, g3, ⟨c, e, lo, hi1, hb, hC, hfz, hl⟩, hu⟩ := h.obj i _ hi rfl
  have hlen : cs.length ≤ c.size := by have := hl.1; simp at this; omega
  have hcl : LRel G noInj cs (c.toList.take cs.length) := by
    cases flat
    · exact LRel.closed (by simpa using hl) (by simpa using hc)
    · simpa using hl
  let G' : Gh := fun b o => if b = B ∧ o < cs.length then c[o]? else G b o
  have hG : G.le G' := fun b o v hg => by
    show (if b = B ∧ o < cs.length then c[o]? else G b o) = some v
    rw [if_neg (fun hh => by rw [hh.1, hu] at hg; cases hg)]; exact hg
  have hother : ∀ b, b ≠ B → ∀ o, G' b o = G b o := fun b hbB o => by
    show (if b = B ∧ o < cs.length then c[o]? else G b o) = _
    rw [if_neg (fun hh => hbB hh.1)]
  have hg : ∀ j, j < cs.length → G' B (0 + j) = some (c.getD j undef) := fun j hj => by
    show (if B = B ∧ 0 + j < cs.length then c[0 + j]? else G B (0 + j)) = _
    rw [if_pos ⟨rfl, by omega⟩, Nat.zero_add]
    have : j < c.size := by omega
    simp [this]
  have hv : ∀ (j : Nat) (a : AV), cs[j]? = some a → VRel G' noInj a (c.getD j undef) := fun j a ha => by
    obtain ⟨u, hu', hr⟩ := hcl.get ha
    rw [List.getElem?_take] at hu'
    split at hu'
    · have : c[j]? = some u := by simpa using hu'
      have : c.getD j undef = u := by simp [this]
      rw [this]; exact hr.mono hG (Inj.le_refl _)
    · cases hu'
  have hval : ∀ a v, VRel G ι a v → VRel G' ι (sealV i cs a) v := fun a v hr => sealV_rel hG hg hv hr (.inl g1)
  have hget : ∀ (j : Nat) (p : AObj), ((objs.map (sealO i cs)).set i .dead)[j]? = some p → p.live = true → j ≠ i ∧ ∃ q, objs[j]? = some q ∧ q.live = true ∧ p = sealO i cs q := fun j p hj hp => by
    rw [List.getElem?_set] at hj
    split at hj
    · split at hj
      · cases hj; simp [AObj.live] at hp
      · cases hj
    · rename_i hne
      rw [List.getElem?_map] at hj
      obtain ⟨q, hq, rfl⟩ := Option.map_eq_some_iff.1 hj
      rw [sealO_live] at hp
      exact ⟨fun e => hne e.symm, q, hq, hp, rfl⟩
  refine ⟨G', ⟨fun b o v hgv => ?_, fun j p hj hp => ?_, fun j l p q B1 C1 C2 hj hp hl' hq e1 e2 => ?_, fun j hj => h.fresh j (by simpa using hj), h.glob, h.size⟩,
    ⟨rfl, rfl, rfl, Nat.le_refl _, fun _ _ _ => rfl, hG, fun b _ hL o => hother b (fun e' => hL (by subst e'; exact ⟨i, _, _, hi, rfl, g1⟩)) o, Inj.le_refl _, ?_⟩, hval⟩
  · have hgv' : (if b = B ∧ o < cs.length then c[o]? else G b o) = some v := hgv
    split at hgv'
    · rename_i hh
      obtain ⟨rfl, hlt⟩ := hh
      simp [World.cell?, hb, hgv']
    · exact h.stays b o v hgv'
  · obtain ⟨hne, q, hq, hql, rfl⟩ := hget j p hj hp
    obtain ⟨D, F, f1, f2, f3, f4⟩ := h.obj j q hq hql
    have hD : D ≠ B := fun e' => by subst e'; exact hne (h.inj j i q _ D F C hq hql hi rfl f1 g1)
    refine ⟨D, F, f1, f2, f3, ?_⟩
    cases q with
    | cells fl xs =>
      obtain ⟨⟨c2, e2, lo2, hi2, q1, q2, q3, q4⟩, q5⟩ := f4
      cases fl
      · simp only [sealO]
        refine ⟨⟨c2, e2, lo2, hi2, q1, q2, q3, ?_⟩, fun o => by rw [hother D hD]; exact q5 o⟩
        have hlen2 : (sealL i cs xs).length = xs.length := by rw [sealL_eq]; simp
        rw [hlen2]
        simp only [Bool.false_eq_true, if_false] at q4 ⊢
        rw [sealL_eq]
        refine ⟨by simpa using q4.1, fun n a v h1 h2 => ?_⟩
        rw [List.getElem?_map] at h1
        obtain ⟨b, hb', rfl⟩ := Option.map_eq_some_iff.1 h1
        exact hval b v (q4.2 n b v hb' h2)
      · exact ⟨⟨c2, e2, lo2, hi2, q1, q2, q3, by simpa using LRel.mono (by simpa using q4) hG (Inj.le_refl _)⟩, fun o => by rw [hother D hD]; exact q5 o⟩
    | map fl es =>
      obtain ⟨ents, clock, q1, q2, q3⟩ := f4
      cases fl
      · refine ⟨ents, clock, q1, by simpa using q2, fun n e' x he hx => ?_⟩
        rw [List.getElem?_map] at he
        obtain ⟨b, hb', rfl⟩ := Option.map_eq_some_iff.1 he
        exact ⟨hval _ _ (q3 n b x hb' hx).1, hval _ _ (q3 n b x hb' hx).2⟩
      · exact ⟨ents, clock, q1, q2, fun n e' x he hx => ⟨(q3 n e' x he hx).1.mono hG (Inj.le_refl _), (q3 n e' x he hx).2.mono hG (Inj.le_refl _)⟩⟩
    | iter s pos => exact f4
    | dead => trivial
  · obtain ⟨_, p', hp1, hp2, _⟩ := hget j p hj hp
    obtain ⟨_, q', hq1, hq2, _⟩ := hget l q hl' hq
    exact h.inj j l p' q' B1 C1 C2 hp1 hp2 hq1 hq2 e1 e2
  · rintro b _ ⟨j, p, F, hj, hp, e'⟩
    obtain ⟨_, q, hq, hql, _⟩ := hget j p hj hp
    exact ⟨j, q, F, hq, hql, e'⟩
end

section
variable {R : Type}
def sealK : List Nat → AV → List AObj → (AV → List AObj → Option R) → Option R
  | [], v, o, k => k v o
  | i :: l, v, o, k =>
    match o[i]? with
    | some (.cells flat cs) => bif flat || closedL cs then sealK l (sealV i cs v) ((o.map (sealO i cs)).set i .dead) k else sealK l v o k
    | _ => sealK l v o k

def finK (own : Bool) (m : Nat) (v : AV) (o : List AObj) (k : AV → List AObj → Option R) : Option R :=
  sealK (bif own then [] else ((reach o 200 (idsOf v ++ List.range m) []).filter fun i => decide (m ≤ i)).reverse) v o fun v o =>
    let keep := List.range m ++ (reach o 200 (List.range m ++ idsOf v) []).filter fun i => decide (m ≤ i)
    bif nodup keep then k (wkA (ren (idx keep) v)) (pickO o keep) else none

def funK (P : Program) (Γ : Ctr R) (A : Ann) (H : Hnd R) (own : Bool) (fn : Func) (c : Code) (args : List AV) (objs : List AObj) (k : AV → List AObj → Option R) : Option R :=
  denK P Γ A H (max fn.ntmps args.length) objs.length c (args ++ List.replicate (fn.ntmps - args.length) .undef) objs fun e t o => match e with
    | .exit _ => none
    | _ => resK P fn.results.toList t o fun vs => finK own objs.length (oneV vs) o k
end

section
variable {E : Env} {R : Type} {r : R}

theorem sealK_ok {L : Nat → Prop} {G0 : Gh} {ι0 : Inj} {w0 w : World} {k : AV → List AObj → Option R} {v' : Value} : ∀ (l : List Nat) (v : AV) (o : List AObj) (G : Gh) (ι : Inj),
    sealK l v o k = some r → Rel E G ι o w → VRel G ι v v' → Ext L G0 ι0 w0 G ι o w → ∃ G' v2 o2, k v2 o2 = some r ∧ Rel E G' ι o2 w ∧ VRel G' ι v2 v' ∧ Ext L G0 ι0 w0 G' ι o2 w
  | [], v, o, G, ι, h, hR, hv, hx => ⟨G, v, o, h, hR, hv, hx⟩
  | i :: l, v, o, G, ι, h, hR, hv, hx => by
    simp only [sealK] at h
    split at h
    · rename_i flat cs hi
      cases hc : (flat || closedL cs)
      · simp only [hc, cond_false] at h; exact sealK_ok l v o G ι h hR hv hx
      · simp only [hc, cond_true] at h
        obtain ⟨G', h1, h2, h3⟩ := hR.shut hi hc
        exact sealK_ok l _ _ G' ι h h1 (h3 v v' hv) (hx.trans h2)
    · exact sealK_ok l v o G ι h hR hv hx

theorem finK_ok {own : Bool} {s : St0} {v : AV} {v' : Value} {o : List AObj} {k : AV → List AObj → Option R} {G : Gh} {ι : Inj} {w : World} (h : finK own s.m v o k = some r)
    (hR : Rel E G ι o w) (hv : VRel G ι v v') (hx : Ext s.L s.G s.ι s.w G ι o w) (hm : ∀ i, s.m ≤ i → s.ι i = none) :
    ∃ G' ι' v2 o2, k v2 o2 = some r ∧ Rel E G' ι' o2 w ∧ VRel G' ι' v2 v' ∧ Ext s.L s.G s.ι s.w G' ι' o2 w := by
  unfold finK at h
  obtain ⟨G', v2, o2, h1, h2, h3, h4⟩ := sealK_ok _ v o G ι h hR hv hx
  dsimp only at h1
  generalize (reach o2 200 (List.range s.m ++ idsOf v2) []).filter (fun i => decide (s.m ≤ i)) = l at h1
  cases hb : nodup (List.range s.m ++ l)
  · simp [hb] at h1
  · simp only [hb, cond_true] at h1
    exact ⟨G', _, _, _, h1, h2.pick hb, wkA_rel (ren_rel (pick_carries ι _) h3), h4.pick hm fun i hi => by
      rw [List.getElem?_append_left (by simpa using hi)]
      simp [hi]⟩

def resF (tmps : Array Value) : ResultVar → Sem Value
  | .tmp i => pure (tmps.getD i undef)
  | .cell p ty => do loadVar ty (← asAddr (tmps.getD p undef))

theorem resK_ok {G : Gh} {ι : Inj} {a : Act} {t : List AV} {o : List AObj} {w : World} (ht : LRel G ι t a.tmps.toList) (hR : Rel E G ι o w) :
    ∀ (l : List ResultVar) (k : List AV → Option R), resK E.P l t o k = some r →
      ∃ vs vs', k vs = some r ∧ LRel G ι vs vs' ∧ (l.mapM (resF a.tmps)).run E.P w = .ok vs' w
  | [], k, h => ⟨[], [], h, LRel.nil, by simp⟩
  | .tmp i :: l, k, h => by
    simp only [resK] at h
    obtain ⟨vs, vs', h1, h2, h3⟩ := resK_ok ht hR l _ h
    refine ⟨_, _, h1, LRel.cons (aeval_rel ht (.tmp i)) h2, ?_⟩
    have h0 : (resF a.tmps (.tmp i)).run E.P w = .ok (a.eval (.tmp i)) w := by simp [resF, Act.eval]
    rw [List.mapM_cons, Sem.run_bind, h0]
    simp only [Result.andThen_ok, Sem.run_bind, h3]
    simp
  | .cell p ty :: l, k, h => by
    simp only [resK] at h
    unfold loadK at h
    split at h
    · rename_i cs off hmo
      obtain ⟨B, o', hp, hs, _⟩ := mem_ok hmo (aeval_rel ht (.tmp p)) hR
      obtain ⟨v, v', h1, h2, h3⟩ := readK_load h hs (X := fun _ => False) (fun _ h => h)
      obtain ⟨vs, vs', h4, h5, h6⟩ := resK_ok ht hR l _ h1
      refine ⟨_, _, h4, LRel.cons h2 h5, ?_⟩
      have hp' : a.tmps.getD p undef = .pointer (some ⟨B, o', none⟩) := hp
      have h0 : (resF a.tmps (.cell p ty)).run E.P w = .ok v' w := by
        simp only [resF, hp', asAddr, Sem.run_bind, Sem.run_pure, Result.andThen_ok, h3 w (Agree.refl w).toX]
      rw [List.mapM_cons, Sem.run_bind, h0]
      simp only [Result.andThen_ok, Sem.run_bind, h6]
      simp
    · cases h

theorem oneV_rel {G : Gh} {ι : Inj} {vs : List AV} {vs' : List Value} (h : LRel G ι vs vs') :
    VRel G ι (oneV vs) (if h : vs'.toArray.size = 1 then vs'.toArray[0] else .tuple vs'.toArray) := by
  match vs, vs', h with
  | [], [], h => simp only [oneV]; exact .tupL (by simpa using h)
  | [v], [v'], h => simp only [oneV]; exact h.2 0 v v' rfl rfl
  | v :: u :: vs, v' :: u' :: vs', h => simp only [oneV]; simpa using VRel.tupL (vs := (v' :: u' :: vs').toArray) (by simpa using h)
  | [], _ :: _, h => exact absurd h.1 (by simp)
  | [v], [], h => exact absurd h.1 (by simp)
  | [v], _ :: _ :: _, h => exact absurd h.1 (by simp)
  | _ :: _ :: _, [], h => exact absurd h.1 (by simp)
  | _ :: _ :: _, [_], h => exact absurd h.1 (by simp)

/-- **A function whose body the interpreter runs to a result does so on the machine.** -/
theorem sim_of {Γ : Ctr R} (hΓ : CtrOk E Γ) (hmix : E.P.follows .mixedOrders = true) {f : FuncId} {fn : Func} {c : Code} (hf : E.P.funcs[f]? = some fn) (hb : fn.body = some c) (hdr : drawsOk c = true)
    {A : Ann} {H : Hnd R} {own : Bool} {args : List AV} {objs : List AObj} (hL : ∀ b ∈ loopsOf c, LoopOk E.P Γ A H (max fn.ntmps args.length) objs.length b) (hC : ∀ b ∈ cutsOf A c, CutOk E.P Γ A H (max fn.ntmps args.length) objs.length b)
    {dec : AV → List AObj → Option R} (h : funK E.P Γ A H own fn c args objs dec = some r)
    {ev : AV} {eo : List AObj} (hdec : ∀ v o, dec v o = some r → v = ev ∧ o = eo) : Sim E f args objs ev eo := by
  intro G ι w args' hR ha
  refine calls_of_wp hf hb ?_
  let s : St0 := ⟨LiveB ι objs, G, ι, w, objs.length, max fn.ntmps args.length⟩
  have hm : ∀ i, s.m ≤ i → s.ι i = none := hR.fresh
  have hlen : args.length = args'.size := by simpa using ha.1
  have hI : Inv E s (args ++ List.replicate (fn.ntmps - args.length) .undef) objs { tmps := args' ++ Array.replicate (fn.ntmps - args'.size) undef, defers := [] } w := by
    refine ⟨G, ι, hR, ?_, Ext.refl _ _ _ _, rfl, by simp [s, hlen]; omega⟩
    simp only [Array.toList_append, Array.toList_replicate]
    refine ha.append ⟨by simp [hlen], fun i a v h1 _ => ?_⟩
    rw [List.getElem?_replicate] at h1
    split at h1
    · cases h1; exact .undef _
    · cases h1
  unfold funK at h
  refine denK_ok hΓ hmix (s := s) hm c _ objs _ _ w _ hdr hL hC h hI fun e t' objs' a' w' hk hI' => ?_
  obtain ⟨G1, ι1, hR1, ht1, hx1, hd1, _⟩ := hI'
  have fin : (resK E.P fn.results.toList t' objs' fun vs => finK own objs.length (oneV vs) objs' dec) = some r →
      a'.defers = [] ∧ ∃ v, (results fn a'.tmps).run E.P w' = .ok v w' ∧ ∃ G' ι' v', Ending.returned v = .returned v' ∧ VRel G' ι' ev v' ∧ Rel E G' ι' eo w' ∧ Ext (LiveB ι objs) G ι w G' ι' eo w' := fun h => by
    obtain ⟨vs, vs', h1, h2, h3⟩ := resK_ok ht1 hR1 _ _ h
    obtain ⟨G2, ι2, v2, o2, h4, h5, h6, h7⟩ := finK_ok (s := s) h1 hR1 (oneV_rel h2) hx1 hm
    obtain ⟨rfl, rfl⟩ := hdec _ _ h4
    refine ⟨hd1, _, ?_, G2, ι2, _, rfl, h6, h5, h7⟩
    have hres : results fn a'.tmps = (do
        let vs ← fn.results.mapM (resF a'.tmps)
        pure (if h : vs.size = 1 then vs[0] else .tuple vs)) := by
      unfold results
      congr 1
    rw [hres, Array.mapM_eq_mapM_toList, Sem.run_bind, Sem.run_map, h3]
    simp
  cases e with
  | normal => exact fin hk
  | exit id => cases hk
  | ret => exact fin hk
end

theorem forall_nil {α : Type} {p : α → Prop} {l : List α} (h : l = []) : ∀ b ∈ l, p b := fun b hb => by rw [h] at hb; cases hb
theorem forall_getD {α : Type} {p : α → Prop} {l : List α} (n : Nat) (hn : l.length = n) (d : α) (h : ∀ i, i < n → p (l.getD i d)) : ∀ b ∈ l, p b := fun b hb => by
  obtain ⟨i, hi, e⟩ := List.mem_iff_getElem.1 hb
  have := h i (by omega)
  rw [List.getD_eq_getElem?_getD, List.getElem?_eq_getElem hi] at this
  simpa [e] using this
end Go.Ab
