/- The abstract machine, part 19: soundness of regions whose order is open. No condition. -/
import Derived.Test.YtnalegahabfglaaDoorAbRun
set_option linter.all false
set_option linter.unusedVariables false
set_option linter.unusedSimpArgs false
namespace Go.Ab
open Go
section
variable {E : Env} {R : Type} {r : R}

theorem concL_get : ∀ (cs : List AV) (l : List Value), concL cs = some l → l.length = cs.length ∧ ∀ (i : Nat) (a : AV), cs[i]? = some a → ∃ c, l[i]? = some c ∧ conc a = some c
  | [], l, h => by simp [concL] at h; subst h; exact ⟨rfl, fun i a h => by simp at h⟩
  | a :: as, l, h => by
    simp only [concL] at h
    obtain ⟨v, hv, h2⟩ := Option.bind_eq_some_iff.1 h
    obtain ⟨l', hl', rfl⟩ := Option.map_eq_some_iff.1 h2
    obtain ⟨h3, h4⟩ := concL_get as l' hl'
    refine ⟨by simp [h3], fun i b hb => ?_⟩
    cases i with
    | zero => simp at hb; subst hb; exact ⟨v, rfl, hv⟩
    | succ i => simpa using h4 i b (by simpa using hb)

theorem conc_eq {G : Gh} {ι : Inj} {a : AV} {v : Value} (h : VRel G ι a v) : ∀ c, conc a = some c → v = c := by
  induction h with
  | agg hl h ih =>
    rename_i cs vs
    intro c hc
    simp only [conc, Option.map_eq_some_iff] at hc
    obtain ⟨l, hl', rfl⟩ := hc
    obtain ⟨h3, h4⟩ := concL_get _ _ hl'
    congr 1
    apply Array.ext (by simp [h3, hl])
    intro i h1 h2
    have hi : i < cs.length := by omega
    obtain ⟨c, hc1, hc2⟩ := h4 i _ (List.getElem?_eq_getElem hi)
    have := ih i _ _ (List.getElem?_eq_getElem hi) (Array.getElem?_eq_getElem h1) c hc2
    rw [this]
    have : l.toArray[i]? = some c := by simpa using hc1
    rw [Array.getElem?_eq_getElem h2] at this
    exact (Option.some.inj this).symm
  | tup hl h ih =>
    rename_i cs vs
    intro c hc
    simp only [conc, Option.map_eq_some_iff] at hc
    obtain ⟨l, hl', rfl⟩ := hc
    obtain ⟨h3, h4⟩ := concL_get _ _ hl'
    congr 1
    apply Array.ext (by simp [h3, hl])
    intro i h1 h2
    have hi : i < cs.length := by omega
    obtain ⟨c, hc1, hc2⟩ := h4 i _ (List.getElem?_eq_getElem hi)
    have := ih i _ _ (List.getElem?_eq_getElem hi) (Array.getElem?_eq_getElem h1) c hc2
    rw [this]
    have : l.toArray[i]? = some c := by simpa using hc1
    rw [Array.getElem?_eq_getElem h2] at this
    exact (Option.some.inj this).symm
  | int k n => intro c hc; simp [conc] at hc; exact hc
  | bool b => intro c hc; simp [conc] at hc; exact hc
  | str b => intro c hc; simp [conc] at hc; exact hc
  | nilp => intro c hc; simp [conc] at hc; exact hc
  | nils => intro c hc; simp [conc] at hc; exact hc
  | _ => intro c hc; simp [conc] at hc

mutual
theorem conc_rel (G : Gh) (ι : Inj) : ∀ (a : AV) (c : Value), conc a = some c → VRel G ι a c
  | .int k n, c, h => by simp [conc] at h; subst h; exact .int _ _
  | .bool b, c, h => by simp [conc] at h; subst h; exact .bool _
  | .str s, c, h => by simp [conc] at h; subst h; exact .str _
  | .agg cs, c, h => by
    simp only [conc, Option.map_eq_some_iff] at h
    obtain ⟨l, hl, rfl⟩ := h
    exact .aggL (by simpa using concL_rel G ι cs l hl)
  | .tup cs, c, h => by
    simp only [conc, Option.map_eq_some_iff] at h
    obtain ⟨l, hl, rfl⟩ := h
    exact .tupL (by simpa using concL_rel G ι cs l hl)
  | .nilp, c, h => by simp [conc] at h; subst h; exact .nilp
  | .nils, c, h => by simp [conc] at h; subst h; exact .nils
  | .undef, c, h => by simp [conc] at h
  | .ptr _ _, c, h => by simp [conc] at h
  | .cptr _ _, c, h => by simp [conc] at h
  | .sref _ _ _ _, c, h => by simp [conc] at h
  | .sval _ _ _, c, h => by simp [conc] at h
  | .map _, c, h => by simp [conc] at h
  | .nilm, c, h => by simp [conc] at h
  | .fn _ _ _, c, h => by simp [conc] at h
  | .nilf, c, h => by simp [conc] at h
  | .iface _ _, c, h => by simp [conc] at h
  | .nili, c, h => by simp [conc] at h
theorem concL_rel (G : Gh) (ι : Inj) : ∀ (as : List AV) (l : List Value), concL as = some l → LRel G ι as l
  | [], l, h => by simp [concL] at h; subst h; exact LRel.nil
  | a :: as, l, h => by
    simp only [concL] at h
    obtain ⟨v, hv, h2⟩ := Option.bind_eq_some_iff.1 h
    obtain ⟨l', hl', rfl⟩ := Option.map_eq_some_iff.1 h2
    exact LRel.cons (conc_rel G ι a v hv) (concL_rel G ι as l' hl')
end

/-- The worlds among which the operations of such a region move. -/
def Cls (E : Env) (s : St0) (G1 : Gh) (ι : Inj) (objs : List AObj) (w1 w : World) : Prop :=
  (∃ G, Rel E G ι objs w ∧ Ext s.L s.G s.ι s.w G ι objs w ∧ G1.le G) ∧ Agree w1 w ∧ w1.heap.size ≤ w.heap.size

theorem qopsK_ok {Γ : Ctr R} (hΓ : CtrOk E Γ) {s : St0} {G1 : Gh} {ι : Inj} {objs : List AObj} {w1 : World} (hR1 : Rel E G1 ι objs w1) {ops : Array Oper} {Q : Act → Prop} {k : List AV → Option R}
    (hQ : ∀ t' a', k t' = some r → LRel G1 ι t' a'.tmps.toList → a'.defers = [] → a'.tmps.size = s.nt → Q a') :
    ∀ (l : List Oper) (t : List AV) (a : Act), qopsK E.P Γ ops l t objs k = some r → LRel G1 ι t a.tmps.toList → a.defers = [] → a.tmps.size = s.nt → wpQuiet E.P ops (Cls E s G1 ι objs w1) Q l a
  | [], t, a, h, ht, hd, hz => hQ t a h ht hd hz
  | o :: l, t, a, h, ht, hd, hz => by
    simp only [qopsK] at h
    simp only [wpQuiet]
    rcases guardK_ok h ht with ⟨hw, h1⟩ | ⟨hw, h1⟩
    · rw [if_pos hw]
      have fin : ∀ (v : AV) (v' : Value), qopsK E.P Γ ops l (putA t o.dst v) objs k = some r → VRel G1 ι v v' → (∀ w, Cls E s G1 ι objs w1 w → o.quietAt E.P a (Cls E s G1 ι objs w1) w v') →
          o.quiet E.P a (Cls E s G1 ι objs w1) (wpQuiet E.P ops (Cls E s G1 ι objs w1) Q l) := fun v v' hk hv hq =>
        ⟨v', hq, qopsK_ok hΓ hR1 hQ l _ _ hk (ht.put o.dst hv) (by rw [put_defers]; exact hd) (by rw [put_size]; exact hz)⟩
      unfold qoperK at h1
      split at h1
      · rename_i f args ts ho
        split at h1
        · rename_i g first cap hf
          have hfr := aeval_rel ht f
          rw [hf] at hfr
          obtain ⟨us, vs, hfv, e1, e2⟩ := fn_inv hfr
          cases hcl : closedL (first ++ args.toList.map (aeval t) ++ cap)
          · simp only [hcl, cond_false] at h1; cases h1
          · simp only [hcl, cond_true] at h1
            obtain ⟨hen, v, objs', hs, hk⟩ := hΓ _ _ _ _ _ h1
            split at hk
            · rename_i cv hcv
              have hargs := (args_rel ht e1 e2 args).closed hcl
              have hcvr : ∀ G2 ι2 v', VRel G2 ι2 v v' → v' = cv := fun G2 ι2 v' hv => conc_eq hv cv hcv
              have hvr : VRel G1 ι v cv := conc_rel G1 ι v cv hcv
              refine fin v cv hk hvr fun w hC => ?_
              obtain ⟨⟨G, hR, hx, hG⟩, hag, hsz⟩ := hC
              unfold Oper.quietAt
              rw [run_call hen ho hfv]
              refine ⟨rfl, (hs G (pickι ι []) w _ (hR.pick (keep := []) rfl) (hargs.mono hG (noInj_le _))).mono ?_⟩
              rintro e w' ⟨G', ι', v', rfl, hv, hR', hx'⟩
              obtain ⟨m1, m2, m3⟩ := hR.merge (ids := []) rfl (fun i hi => by cases hi) hR' hx'
              have hι : mergeι ι ι' objs.length 0 0 = ι := by
                funext i
                unfold mergeι
                split
                · rfl
                · rename_i hlt; rw [if_neg (by omega)]; exact (hR.fresh i (by omega)).symm
              have hobj : mergeO objs [] [] = objs := rfl
              simp only [List.length_nil] at m1 m2
              rw [hι, hobj] at m1 m2
              refine ⟨by rw [hcvr _ _ _ hv], ⟨G', m1, hx.trans m2, Gh.le_trans hG m2.gle⟩, fun b hb => ?_, Nat.le_trans hsz m2.size⟩
              have hkeep := hx'.keep b (by omega) (fun hl => by
                obtain ⟨i, o, C, h1, _, _⟩ := hl
                simp at h1)
              rw [hkeep]; exact hag b hb
            · cases hk
        · cases h1
      · cases hb : isEff o.op
        · simp only [hb, cond_false] at h1
          obtain ⟨v, v', hk, hv, hrun⟩ := quiet2K_ok h1 (aeval_rel ht) hR1
          refine fin v v' hk hv fun w hC => ?_
          unfold Oper.quietAt
          rw [hrun w hC.2.1]
          exact ⟨rfl, rfl⟩
        · simp only [hb, cond_true] at h1; cases h1
    · rw [if_neg (by rw [hw]; simp)]
      exact qopsK_ok hΓ hR1 hQ l _ _ h1 (ht.put o.dst skip_rel) (by rw [put_defers]; exact hd) (by rw [put_size]; exact hz)
end
end Go.Ab
