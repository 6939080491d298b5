/- The abstract machine: soundness of such regions, whole. No condition. -/
import Derived.Test.YtnalegahabfglaaDoorAbAny3
set_option linter.all false
set_option linter.unusedVariables false
set_option linter.unusedSimpArgs false
namespace Go.Ab
open Go
section
variable {E : Env} {R : Type} {r : R} {s0 : St0} {G1 : Gh} {ι : Inj} {w1 : World}

/-- What holds at the end, in the text's order. -/
def EndX (G1 : Gh) (ι : Inj) (nt : Nat) (es : List Nat) (t : List AV) (listed : Array Bool) (a : Act) : Prop :=
  (∀ j ∈ es, listed.getD j true = true) ∧ LRel G1 ι t a.tmps.toList ∧ a.defers = [] ∧ a.tmps.size = nt

theorem xopsK_ok {Γ : Ctr R} (hΓ : CtrOk E Γ) {o0 : List AObj} (hR1 : Rel E G1 ι o0 w1) {ops : Array Oper} {k : List AV → List AObj → Option R} :
    ∀ (l : List Oper) (n : Nat) (last : Option Nat) (t : List AV) (objs : List AObj) (rd tc : List Nat) (a : Act), xopsK E.P Γ ops o0 l n last t objs rd tc k = some r →
      (∀ j, l[j]? = ops[n + j]?) → LRel G1 ι t a.tmps.toList → a.defers = [] → a.tmps.size = s0.nt → canTouch o0 tc = true →
      ∃ (Ss : List (List AObj)) (es TC RD : List Nat) (tE : List AV) (oE : List AObj), k tE oE = some r ∧ (∀ i ∈ RD ++ rd, i ∉ TC ++ tc) ∧ canTouch o0 (TC ++ tc) = true ∧
        Ss.length = es.length ∧ (∀ j ∈ es, n ≤ j ∧ j < n + l.length) ∧ (objs :: Ss)[es.length]? = some oE ∧
        ∀ (preS : List (List AObj)) (preE : List Nat) (listed : Array Bool), preS.length = preE.length → (∀ j ∈ preE, j < n) → preE.getLast? = last → (∀ j, j < n → listed.getD j true = true) →
          wpLexX (ClX E s0 G1 ι w1 (preS ++ objs :: Ss) (preE ++ es) (XB ι (TC ++ tc))) E.P ops .any (EndX G1 ι s0.nt (preE ++ es) tE) l n listed a
  | [], n, last, t, objs, rd, tc, a, h, hl, ht, hd, hz, hct => by
    simp only [xopsK] at h
    cases hb : (rd.all fun i => !tc.contains i)
    · rw [hb] at h; cases h
    · rw [hb] at h; simp only [cond_true] at h
      refine ⟨[], [], [], [], t, objs, h, fun i hi => ?_, hct, rfl, fun j hj => (by cases hj), rfl, fun preS preE listed h1 h2 h3 h4 => ?_⟩
      · have := List.all_eq_true.1 hb i (by simpa using hi)
        simpa using this
      · exact ⟨fun j hj => h4 j (h2 j (by simpa using hj)), ht, hd, hz⟩
  | o :: l, n, last, t, objs, rd, tc, a, h, hl, ht, hd, hz, hct => by
    have h0 : ops[n]? = some o := by simpa using (hl 0).symm
    have hl' : ∀ j, l[j]? = ops[n + 1 + j]? := fun j => by have := hl (j + 1); simpa [Nat.add_assoc, Nat.add_comm 1 j] using this
    have hset : ∀ (listed : Array Bool), (∀ j, j < n → listed.getD j true = true) → ∀ j, j < n + 1 → (listed.setIfInBounds n true).getD j true = true := fun listed h j hj => by
      by_cases hjn : j = n
      · subst hjn; exact getD_set_self _ _
      · rw [getD_set_ne true (Ne.symm hjn)]; exact h j (by omega)
    simp only [xopsK] at h
    rcases guardK_ok h ht with ⟨hw, h1⟩ | ⟨hw, h1⟩
    · obtain ⟨v, v', rd', hv, hcase⟩ := xoperK_ok (s0 := s0) hΓ hR1 h1 ht
      rcases hcase with ⟨hk, hq⟩ | ⟨objs', ids, hk, hwt, hcan, hws⟩
      · dsimp only at hk
        obtain ⟨Ss, es, TC, RD, tE, oE, g1, g2, g3, g4, g5, g6, g7⟩ := xopsK_ok hΓ hR1 l (n + 1) last _ objs _ tc (a.put o.dst v') hk hl' (ht.put o.dst hv) (by rw [put_defers]; exact hd) (by rw [put_size]; exact hz) hct
        refine ⟨Ss, es, TC, RD ++ rd', tE, oE, g1, fun i hi => g2 i (by simpa [List.append_assoc] using hi), g3, g4, fun j hj => by have := g5 j hj; simp only [List.length_cons]; omega, g6, fun preS preE listed p1 p2 p3 p4 => ?_⟩
        refine ⟨v', .inl ⟨hw, fun listed w hr hC => ?_⟩, g7 preS preE _ p1 (fun j hj => by have := p2 j hj; omega) p3 (hset _ p4)⟩
        have hnn : n ∉ preE ++ es := fun hm => by
          rcases List.mem_append.1 hm with hm | hm
          · have := p2 n hm; omega
          · have := g5 n hm; omega
        exact hq (TC ++ tc) g3 (fun i hi => g2 i (by simp [hi])) _ _ listed n w hnn hC
      · dsimp only at hk
        have hcan' : canTouch o0 (ids ++ tc) = true := by unfold canTouch at hcan hct ⊢; rw [List.all_append, hcan, hct]; rfl
        obtain ⟨Ss, es, TC, RD, tE, oE, g1, g2, g3, g4, g5, g6, g7⟩ := xopsK_ok hΓ hR1 l (n + 1) (some n) _ objs' _ (ids ++ tc) (a.put o.dst v') hk hl' (ht.put o.dst hv) (by rw [put_defers]; exact hd) (by rw [put_size]; exact hz) hcan'
        refine ⟨objs' :: Ss, n :: es, TC ++ ids, RD ++ rd', tE, oE, g1, fun i hi => ?_, by simpa [List.append_assoc] using g3, by simp [g4], fun j hj => ?_, by simpa using g6, fun preS preE listed p1 p2 p3 p4 => ?_⟩
        · have := g2 i (by simpa [List.append_assoc] using hi)
          simpa [List.append_assoc] using this
        · rcases List.mem_cons.1 hj with rfl | hj
          · simp
          · have := g5 j hj; simp only [List.length_cons]; omega
        · have e1 : preS ++ objs :: objs' :: Ss = (preS ++ [objs]) ++ objs' :: Ss := by simp
          have e2 : preE ++ n :: es = (preE ++ [n]) ++ es := by simp
          have e3 : (TC ++ ids) ++ tc = TC ++ (ids ++ tc) := by simp
          have hlex := g7 (preS ++ [objs]) (preE ++ [n]) (listed.setIfInBounds n true) (by simp [p1]) (fun j hj => by
            rcases List.mem_append.1 hj with hj | hj
            · have := p2 j hj; omega
            · simp at hj; omega) (by simp) (hset _ p4)
          rw [e3, e1, e2]
          refine ⟨v', .inl ⟨hw, fun lst w hr hC => ?_⟩, hlex⟩
          obtain ⟨s, so, c1, c2, c3, ⟨G, c4, c5, c6⟩, c7, c8⟩ := hC
          obtain ⟨hun, oo, hoo, hall⟩ := mem_ready.1 hr
          have hoe : oo = o := Option.some.inj (hoo.symm.trans h0)
          rw [hoe] at hall
          have hat : ((preE ++ [n]) ++ es)[preE.length]? = some n := by simp
          have hle : s ≤ preE.length := by
            rcases Nat.lt_or_ge preE.length s with hlt | hge
            · have := (c3 _ _ hat).2 hlt; rw [hun] at this; cases this
            · exact hge
          have hge : preE.length ≤ s := by
            rcases Nat.eq_zero_or_pos preE.length with h0' | hpos
            · omega
            · have hlast : preE[preE.length - 1]? = preE.getLast? := by rw [List.getLast?_eq_getElem?]
              cases hq : preE.getLast? with
              | none => rw [List.getLast?_eq_none_iff] at hq; subst hq; simp at hpos
              | some j =>
                rw [hq] at hlast
                rw [← p3, hq] at hwt
                simp only [waits, Array.any_eq_true, Bool.and_eq_true, beq_iff_eq] at hwt
                obtain ⟨q, hq1, hq2, hq3⟩ := hwt
                have hls := hall _ (Array.getElem_mem hq1) hq2
                rw [hq3] at hls
                have hat' : ((preE ++ [n]) ++ es)[preE.length - 1]? = some j := by
                  rw [List.append_assoc, List.getElem?_append_left (by omega)]; exact hlast
                have hls' : lst.getD j true = true := by
                  simp only [Array.getD_eq_getD_getElem?] at hls ⊢
                  cases hx : lst[j]? with
                  | none => rw [hx] at hls; simp at hls
                  | some b => rw [hx] at hls; simpa using hls
                have := (c3 _ _ hat').1 hls'
                omega
          have hs : s = preS.length := by omega
          subst hs
          have hso : so = objs := by
            have : ((preS ++ [objs]) ++ objs' :: Ss)[preS.length]? = some objs := by simp
            rw [this] at c1; exact (Option.some.inj c1).symm
          subst hso
          have hstep := hws G w c4 c5 c6
          have fin : ∀ w', ((∃ G', Rel E G' ι objs' w' ∧ Ext s0.L s0.G s0.ι s0.w G' ι objs' w' ∧ G1.le G') ∧ (∀ b, b < w.heap.size → ¬ XB ι ids b → w'.heap[b]? = w.heap[b]?) ∧ w.heap.size ≤ w'.heap.size) →
              ClX E s0 G1 ι w1 ((preS ++ [so]) ++ objs' :: Ss) ((preE ++ [n]) ++ es) (XB ι (TC ++ (ids ++ tc))) (lst.setIfInBounds n true) w' := fun w' ⟨d1, d2, d3⟩ => by
            refine ⟨preS.length + 1, objs', by simp, by simp; omega, fun m j hj => ?_, d1, fun b o v hX hc => ?_, Nat.le_trans c8 d3⟩
            · by_cases hm : m = preE.length
              · subst hm
                rw [hat] at hj; cases hj
                rw [getD_set_self]; simp; omega
              · have hne : j ≠ n := fun e => by
                  subst e
                  rcases Nat.lt_or_ge m preE.length with hlt | hge
                  · rw [List.append_assoc, List.getElem?_append_left hlt] at hj
                    have := p2 j (List.mem_of_getElem? hj); omega
                  · have hgt : preE.length + 1 ≤ m := by omega
                    rw [List.getElem?_append_right (by simp; omega)] at hj
                    have := g5 j (List.mem_of_getElem? hj); omega
                rw [getD_set_ne true (Ne.symm hne), c3 m j hj]
                omega
            · have hcell := c7 b o v hX hc
              have hb := block_lt_of_cell hcell
              rw [← hcell]
              refine World.cell?_of_block (w := w) (d2 b hb fun ⟨i, hi, C, hC⟩ => hX ⟨i, by simp [hi], C, hC⟩)
          generalize (execOp a.eval o).run E.P w = res at hstep ⊢
          cases res with
          | ok nx w' =>
            cases nx <;> simp only [stepUpon] at hstep ⊢
            case value u => exact ⟨fin _ hstep.1, hstep.2⟩
            case skip => exact ⟨fin _ hstep.1, hstep.2⟩
            case enter f args => exact hstep.mono fun e w'' ⟨he, hd⟩ => ⟨he, fin _ hd⟩
          | halt x w' => simp only [stepUpon] at hstep
    · obtain ⟨Ss, es, TC, RD, tE, oE, g1, g2, g3, g4, g5, g6, g7⟩ := xopsK_ok hΓ hR1 l (n + 1) last _ objs _ tc (a.put o.dst undef) h1 hl' (ht.put o.dst skip_rel) (by rw [put_defers]; exact hd) (by rw [put_size]; exact hz) hct
      refine ⟨Ss, es, TC, RD, tE, oE, g1, g2, g3, g4, fun j hj => by have := g5 j hj; simp only [List.length_cons]; omega, g6, fun preS preE listed p1 p2 p3 p4 => ?_⟩
      refine ⟨undef, .inr ⟨hw, rfl, fun listed w hr hC => ?_⟩, g7 preS preE _ p1 (fun j hj => by have := p2 j hj; omega) p3 (hset _ p4)⟩
      have hnn : n ∉ preE ++ es := fun hm => by
        rcases List.mem_append.1 hm with hm | hm
        · have := p2 n hm; omega
        · have := g5 n hm; omega
      exact hC.quiet hnn fun so G h1 h2 h3 h4 h5 => ⟨⟨G, h1, h2, h3⟩, h4, h5⟩
end
end Go.Ab
