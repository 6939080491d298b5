/- The abstract machine, part 20: soundness of code. No condition. -/
import Derived.Test.YtnalegahabfglaaDoorAbAny4
set_option linter.all false
set_option linter.unusedVariables false
set_option linter.unusedSimpArgs false
namespace Go.Ab
open Go

/-- Every region whose order is open may be walked in the text's order. -/
def drawsOk : Code → Bool
  | .region _ ops draw => !draw || Region.lexB .any ops
  | .seq a b => drawsOk a && drawsOk b
  | .cond _ a b => drawsOk a && drawsOk b
  | .block _ b => drawsOk b
  | .loop b => drawsOk b
  | _ => true

def exOf : Ex → Exit
  | .normal => .normal
  | .exit id => .exit id
  | .ret => .ret

section
variable {E : Env} {R : Type} {r : R}

/-- The kept temporaries, one for one with those of the machine. -/
def KRel (G : Gh) (ι : Inj) (live : List Nat) (vs : List AV) (tmps : Array Value) : Prop :=
  vs.length = live.length ∧ ∀ (j : Nat) (d : Nat) (v : AV) (u : Value), live[j]? = some d → vs[j]? = some v → tmps[d]? = some u → VRel G ι v u

theorem LRel.set_same {G : Gh} {ι : Inj} {as : List AV} {vs : List Value} (h : LRel G ι as vs) (d : Nat) {a : AV} (ha : ∀ u, vs[d]? = some u → VRel G ι a u) : LRel G ι (as.set d a) vs := by
  refine ⟨by simpa using h.1, fun i b u h1 h2 => ?_⟩
  rw [List.getElem?_set] at h1
  split at h1
  · rename_i e; subst e
    split at h1
    · cases h1; exact ha u h2
    · cases h1
  · exact h.2 i b u h1 h2

theorem spread_rel {G : Gh} {ι : Inj} {tmps : Array Value} : ∀ (live : List Nat) (vs t : List AV), KRel G ι live vs tmps → LRel G ι t tmps.toList → LRel G ι (spread live vs t) tmps.toList
  | [], vs, t, _, h => by simpa [spread] using h
  | d :: ds, [], t, hk, h => by simpa [spread] using h
  | d :: ds, v :: vs, t, hk, h => by
    simp only [spread]
    refine spread_rel ds vs _ ⟨by simpa using hk.1, fun j d' v' u e1 e2 e3 => hk.2 (j + 1) d' v' u (by simpa using e1) (by simpa using e2) e3⟩ (h.set_same d fun u hu => ?_)
    exact hk.2 0 d v u rfl rfl (by simpa using hu)

theorem frame_rel {G : Gh} {ι : Inj} {tmps : Array Value} {nt : Nat} (hn : tmps.size = nt) {live : List Nat} {vs : List AV} (h : KRel G ι live vs tmps) : LRel G ι (frame nt live vs) tmps.toList := by
  refine spread_rel live vs _ h ⟨by simp [hn], fun i a v h1 _ => ?_⟩
  rw [List.getElem?_replicate] at h1
  split at h1
  · cases h1; exact .undef _
  · cases h1

/-- The state in its form. -/
def InvV (E : Env) (s : St0) (live : List Nat) (vs : List AV) (objs : List AObj) (a : Act) (w : World) : Prop :=
  ∃ G ι, Rel E G ι objs w ∧ KRel G ι live vs a.tmps ∧ Ext s.L s.G s.ι s.w G ι objs w ∧ a.defers = [] ∧ a.tmps.size = s.nt
theorem InvV.frame {s : St0} {live : List Nat} {vs : List AV} {objs : List AObj} {a : Act} {w : World} (h : InvV E s live vs objs a w) : Inv E s (frame s.nt live vs) objs a w := by
  obtain ⟨G, ι, hR, hk, hx, hd, hz⟩ := h
  exact ⟨G, ι, hR, frame_rel hz hk, hx, hd, hz⟩

theorem normK_ok {s : St0} {live : List Nat} {t : List AV} {objs : List AObj} {k : List AV → List AObj → Option R} (h : normK s.m live t objs k = some r)
    {a : Act} {w : World} (hI : Inv E s t objs a w) (hm : ∀ i, s.m ≤ i → s.ι i = none) : ∃ vs objs', k vs objs' = some r ∧ InvV E s live vs objs' a w := by
  obtain ⟨G, ι, hR, ht, hx, hd, hz⟩ := hI
  unfold normK at h
  dsimp only at h
  generalize (reach objs 200 (List.range s.m ++ idsL (live.map fun d => t.getD d .undef)) []).filter (fun i => decide (s.m ≤ i)) = l at h
  cases hb : nodup (List.range s.m ++ l)
  · simp [hb] at h
  · simp only [hb, cond_true] at h
    refine ⟨_, _, h, G, _, hR.pick hb, ⟨by simp [renL_eq], fun j d v u e1 e2 e3 => ?_⟩, hx.pick hm fun i hi => ?_, hd, hz⟩
    · rw [renL_eq, List.map_map, List.getElem?_map, e1] at e2
      simp only [Option.map_some, Function.comp_apply, Option.some.injEq] at e2
      subst e2
      refine ren_rel (pick_carries ι _) ?_
      have := aeval_rel ht (.tmp d)
      simp only [aeval, Act.eval] at this
      have hu : a.tmps.getD d undef = u := by simp [e3]
      rwa [hu] at this
    · rw [List.getElem?_append_left (by simpa using hi)]
      simp [hi]

/-- What is told of a loop is true. -/
def LoopOk (P : Program) {R : Type} (Γ : Ctr R) (A : Ann) (H : Hnd R) (nt m : Nat) (b : Code) : Prop :=
  ∀ t o k r, H.loop (key b) (fun t o k => denK P Γ A H nt m b t o k) t o k = some r → ∃ n, loopK nt m (A.live (key b)) (A.out (key b)) (fun t o k => denK P Γ A H nt m b t o k) n t o k = some r
/-- What is told of what stands behind a join is true. -/
def CutOk (P : Program) {R : Type} (Γ : Ctr R) (A : Ann) (H : Hnd R) (nt m : Nat) (b : Code) : Prop :=
  ∀ l, A.cut (key b) = some l → ∀ v o k r, H.cut (key b) (fun v o k => denK P Γ A H nt m b (frame nt l v) o fun e t2 o2 => normK m (A.out (key b)) t2 o2 fun v3 o3 => k e v3 o3) v o k = some r →
    (denK P Γ A H nt m b (frame nt l v) o fun e t2 o2 => normK m (A.out (key b)) t2 o2 fun v3 o3 => k e v3 o3) = some r

theorem denK_ok {Γ : Ctr R} (hΓ : CtrOk E Γ) (hmix : E.P.follows .mixedOrders = true) {s : St0} (hm : ∀ i, s.m ≤ i → s.ι i = none) {A : Ann} {H : Hnd R} :
    ∀ (c : Code) (t : List AV) (objs : List AObj) (k : Kont R) (a : Act) (w : World) (Q : Exit → Act → World → Prop),
      drawsOk c = true → (∀ b ∈ loopsOf c, LoopOk E.P Γ A H s.nt s.m b) → (∀ b ∈ cutsOf A c, CutOk E.P Γ A H s.nt s.m b) → denK E.P Γ A H s.nt s.m c t objs k = some r → Inv E s t objs a w →
      (∀ e t' objs' a' w', k e t' objs' = some r → Inv E s t' objs' a' w' → Q (exOf e) a' w') → c.wp E.P Q a w
  | .skip, t, objs, k, a, w, Q, _, _, _, h, hI, hQ => wp_skip (hQ .normal t objs a w (by simpa [denK] using h) hI)
  | .region id ops draw, t, objs, k, a, w, Q, hdr, _, _, h, hI, hQ => by
    simp only [denK] at h
    cases draw
    · simp only [cond_false] at h
      refine wp_region ?_
      have := opsK_ok hΓ (s := s) (ops := ops) (Q := Q) (k := fun t' o' => k .normal t' o') (fun t' objs' a' w' hk hI' => hQ .normal t' objs' a' w' hk hI') ops.toList 0 (by simp) t objs a w h hI
      rw [List.range_eq_range']
      simpa using this
    · simp only [cond_true] at h
      obtain ⟨G, ι, hR, ht, hx, hd, hz⟩ := hI
      have hlex : Region.lexB .any ops = true := by simpa [drawsOk] using hdr
      have hR1 : Rel E G ι objs { w with drawn := w.drawn + 1 } := hR.of_heap rfl
      have hx1 : Ext s.L s.G s.ι s.w G ι objs { w with drawn := w.drawn + 1 } := ⟨hx.os, hx.tape, hx.output, hx.size, hx.keep, hx.gle, hx.gold, hx.ile, hx.lv⟩
      obtain ⟨Ss, es, TC, RD, tE, oE, g1, g2, g3, g4, g5, g6, g7⟩ := xopsK_ok (s0 := s) (w1 := { w with drawn := w.drawn + 1 }) hΓ hR1 ops.toList 0 none t objs [] [] a h (by simp) ht hd hz rfl
      refine wp_region_x (C := ClX E s G ι { w with drawn := w.drawn + 1 } ([] ++ objs :: Ss) ([] ++ es) (XB ι (TC ++ []))) hmix hlex ?_ (fun listed a' w' hC hE => ?_) (g7 [] [] (Array.replicate ops.size false) rfl (fun j hj => by cases hj) rfl (fun j hj => by omega))
      · have hes : ∀ j ∈ es, (Array.replicate ops.size false).getD j true = true → False := fun j hj ht => by
          have hlt := (g5 j hj).2
          simp only [Nat.zero_add, Array.length_toList] at hlt
          simp [Array.getD_eq_getD_getElem?, hlt] at ht
        refine ⟨0, objs, rfl, by omega, fun m j hj => ⟨fun ht => (hes j (List.mem_of_getElem? (by simpa using hj)) ht).elim, fun h => by omega⟩, ⟨G, hR1, hx1, Gh.le_refl _⟩, fun b o v _ hc => hc, Nat.le_refl _⟩
      · obtain ⟨st, so, c1, c2, c3, ⟨G', c4, c5, c6⟩, _, _⟩ := hC
        obtain ⟨e1, e2, e3, e4⟩ := hE
        have hst : st = es.length := by
          rcases Nat.lt_or_ge st es.length with hlt | hge
          · have hj : ([] ++ es)[st]? = some es[st] := by simp [List.getElem?_eq_getElem hlt]
            have := (c3 st _ hj).1 (e1 _ (List.mem_of_getElem? hj)); omega
          · have : st ≤ es.length := by simpa using c2
            omega
        subst hst
        have hso : so = oE := by
          have : ([] ++ objs :: Ss)[es.length]? = some oE := g6
          rw [this] at c1; exact (Option.some.inj c1).symm
        subst hso
        exact hQ .normal tE so a' w' g1 ⟨G', ι, c4, e2.mono c6 (Inj.le_refl _), c5, e3, e4⟩
  | .seq x y, t, objs, k, a, w, Q, hdr, hL, hC, h, hI, hQ => by
    simp only [denK] at h
    simp only [drawsOk, Bool.and_eq_true] at hdr
    simp only [loopsOf, List.mem_append] at hL
    simp only [cutsOf, List.mem_append] at hC
    refine wp_seq (denK_ok hΓ hmix hm x t objs _ a w _ hdr.1 (fun b hb => hL b (.inl hb)) (fun b hb => hC b (.inr (.inl hb))) h hI fun e t' objs' a' w' hk hI' => ?_)
    cases e with
    | normal =>
      dsimp only at hk
      split at hk
      · exact denK_ok hΓ hmix hm y t' objs' k a' w' Q hdr.2 (fun b hb => hL b (.inr hb)) (fun b hb => hC b (.inr (.inr hb))) hk hI' hQ
      · rename_i l hl
        obtain ⟨v1, o1, h1, hI1⟩ := normK_ok hk hI' hm
        have := hC y (.inl (by rw [hl]; simp)) l hl _ _ _ _ h1
        refine denK_ok hΓ hmix hm y _ o1 _ a' w' Q hdr.2 (fun b hb => hL b (.inr hb)) (fun b hb => hC b (.inr (.inr hb))) this hI1.frame fun e t2 o2 a2 w2 hk2 hI2 => ?_
        obtain ⟨v3, o3, h3, hI3⟩ := normK_ok hk2 hI2 hm
        exact hQ e _ o3 a2 w2 h3 hI3.frame
    | exit id => exact hQ (.exit id) t' objs' a' w' hk hI'
    | ret => exact hQ .ret t' objs' a' w' hk hI'
  | .cond c x y, t, objs, k, a, w, Q, hdr, hL, hC, h, hI, hQ => by
    simp only [denK] at h
    simp only [drawsOk, Bool.and_eq_true] at hdr
    simp only [loopsOf, List.mem_append] at hL
    simp only [cutsOf, List.mem_append] at hC
    split at h
    · rename_i b hb
      have hI' := hI
      obtain ⟨G, ι, hR, ht, hx, hd, hz⟩ := hI
      have hv := aeval_rel ht c
      rw [hb] at hv
      have hv' := hv.bool_inv
      cases b
      · simp only [cond_false] at h; exact wp_cond_false hv' (denK_ok hΓ hmix hm y t objs k a w Q hdr.2 (fun b hb => hL b (.inr hb)) (fun b hb => hC b (.inr hb)) h hI' hQ)
      · simp only [cond_true] at h; exact wp_cond_true hv' (denK_ok hΓ hmix hm x t objs k a w Q hdr.1 (fun b hb => hL b (.inl hb)) (fun b hb => hC b (.inl hb)) h hI' hQ)
    · cases h
  | .block id b, t, objs, k, a, w, Q, hdr, hL, hC, h, hI, hQ => by
    simp only [denK] at h
    refine wp_block (denK_ok hΓ hmix hm b t objs _ a w _ (by simpa [drawsOk] using hdr) (by simpa [loopsOf] using hL) (by simpa [cutsOf] using hC) h hI fun e t' objs' a' w' hk hI' => ?_)
    cases e with
    | normal => exact hQ .normal t' objs' a' w' hk hI'
    | exit i =>
      simp only [exOf, Exit.inBlock]
      cases hb : i == id
      · simp only [hb, cond_false] at hk
        rw [if_neg (by simpa using hb)]
        exact hQ (.exit i) t' objs' a' w' hk hI'
      · simp only [hb, cond_true] at hk
        rw [if_pos (by simpa using hb)]
        exact hQ .normal t' objs' a' w' hk hI'
    | ret => exact hQ .ret t' objs' a' w' hk hI'
  | .loop b, t, objs, k, a, w, Q, hdr, hL, hC, h, hI, hQ => by
    simp only [denK] at h
    have hdr' : drawsOk b = true := by simpa [drawsOk] using hdr
    simp only [loopsOf, List.mem_cons] at hL
    simp only [cutsOf] at hC
    obtain ⟨v0, o0, h0, hI0⟩ := normK_ok h hI hm
    obtain ⟨N, hN⟩ := hL b (.inl rfl) _ _ _ _ h0
    refine wp_loop_rounds N ?_
    have key : ∀ (n : Nat) (vs : List AV) (objs : List AObj) (a : Act) (w : World), loopK s.nt s.m (A.live (Go.Ab.key b)) (A.out (Go.Ab.key b)) (fun t o k => denK E.P Γ A H s.nt s.m b t o k) n vs objs
          (fun e v2 o2 => k e (frame s.nt (A.out (Go.Ab.key b)) v2) o2) = some r → InvV E s (A.live (Go.Ab.key b)) vs objs a w → Code.rounds E.P b Q n a w := by
      intro n
      induction n with
      | zero => intro vs objs a w h _; simp [loopK] at h
      | succ n ih =>
        intro vs objs a w h hI
        simp only [loopK] at h
        rw [rounds_succ]
        refine denK_ok hΓ hmix hm b _ objs _ a w _ hdr' (fun b' hb => hL b' (.inr hb)) hC h hI.frame fun e t' objs' a' w' hk hI' => ?_
        cases e with
        | normal =>
          simp only [roundK] at hk
          obtain ⟨v1, o1, h1, hI1⟩ := normK_ok hk hI' hm
          exact ih v1 o1 a' w' h1 hI1
        | exit id =>
          simp only [roundK] at hk
          obtain ⟨v1, o1, h1, hI1⟩ := normK_ok hk hI' hm
          exact hQ (.exit id) _ o1 a' w' h1 hI1.frame
        | ret =>
          simp only [roundK] at hk
          obtain ⟨v1, o1, h1, hI1⟩ := normK_ok hk hI' hm
          exact hQ .ret _ o1 a' w' h1 hI1.frame
    exact key N v0 o0 a w hN hI0
  | .exit id, t, objs, k, a, w, Q, _, _, _, h, hI, hQ => wp_exit (hQ (.exit id) t objs a w (by simpa [denK] using h) hI)
  | .ret, t, objs, k, a, w, Q, _, _, _, h, hI, hQ => wp_ret (hQ .ret t objs a w (by simpa [denK] using h) hI)
  | .rangeFunc .., t, objs, k, a, w, Q, _, _, _, h, _, _ => by simp [denK] at h
  | .scope _, t, objs, k, a, w, Q, _, _, _, h, _, _ => by simp [denK] at h
  | .label _, t, objs, k, a, w, Q, _, _, _, h, _, _ => by simp [denK] at h
  | .goto _, t, objs, k, a, w, Q, _, _, _, h, _, _ => by simp [denK] at h
  | .refuse _, t, objs, k, a, w, Q, _, _, _, h, _, _ => by simp [denK] at h
end
end Go.Ab
