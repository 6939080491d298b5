/- The abstract machine, part 6: soundness of the operations that leave memory alone. No condition. -/
import Derived.Test.YtnalegahabfglaaDoorAbQuiet
set_option linter.all false
set_option linter.unusedVariables false
set_option linter.unusedSimpArgs false
namespace Go.Ab
open Go

theorem ofScalar_rel (G : Gh) (ι : Inj) (v : Value) : VRel G ι (ofScalar v) v := by
  unfold ofScalar
  split <;> first | constructor | exact .undef _

theorem ofConst_rel (G : Gh) (ι : Inj) (v : Value) : VRel G ι (ofConst v) v := by
  unfold ofConst
  split
  · refine VRel.aggL ⟨by simp, fun i a v h1 h2 => ?_⟩
    rw [List.getElem?_map, h2] at h1
    simp at h1; subst h1
    exact ofScalar_rel G ι v
  · exact ofScalar_rel G ι v

theorem aeval_rel {G : Gh} {ι : Inj} {tmps : List AV} {a : Act} (h : LRel G ι tmps a.tmps.toList) (x : Operand) : VRel G ι (aeval tmps x) (a.eval x) := by
  cases x with
  | tmp t =>
    simp only [aeval, Act.eval]
    rw [List.getD_eq_getElem?_getD]
    cases ht : tmps[t]? with
    | none => exact .undef _
    | some v =>
      obtain ⟨u, hu, hr⟩ := h.get ht
      have : a.tmps.getD t undef = u := by
        have hu' : a.tmps[t]? = some u := by simpa using hu
        simp [hu']
      rw [this]; exact hr
  | const v => exact ofConst_rel G ι v
  | global g => exact .undef _
  | func f => exact .fn (by simp) (fun i a v h => by simp at h) (by simp) (fun i a v h => by simp at h)

theorem cell_slot {G : Gh} {ι : Inj} {f : Operand → AV} {f' : Operand → Value} (h : ∀ x, VRel G ι (f x) (f' x)) (xs : Array Operand) :
    LRel G ι (xs.toList.map f) (xs.map f').toList := by
  refine ⟨by simp, fun i a v h1 h2 => ?_⟩
  rw [List.getElem?_map] at h1
  simp only [Array.toList_map, List.getElem?_map] at h2
  cases hx : xs.toList[i]? with
  | none => rw [hx] at h1; simp at h1
  | some x => rw [hx] at h1 h2; simp at h1 h2; subst h1 h2; exact h x

section
variable {E : Env} {G : Gh} {ι : Inj} {R : Type} {k : AV → Option R} {r : R}

theorem sval_empty {B o cap : Nat} {full : Bool} (hf : full = true → cap = 0) : VRel G ι (.sval [] 0 full) (.slice (some ⟨B, o, none⟩) 0 cap) :=
  .sval (fun _ => .nilFunc) (fun j hj => by simp at hj) (fun j a h => by simp at h) hf (Nat.zero_le _)

theorem szOf_run {P : Program} {t : TypeId} (h : (szOf P t == 0) = false) (w : World) : (sizeOf t).run P w = .ok (szOf P t) w := by
  unfold szOf at *
  cases hi : P.info? t with
  | none => simp [hi] at h
  | some i => simp [sizeOf, typeInfo, hi]

theorem sizeOf_eq {P : Program} {t : TypeId} {i : TypeInfo} (h : P.info? t = some i) (w : World) : (sizeOf t).run P w = .ok i.size w := by
  simp [sizeOf, typeInfo, h]

theorem sval_sub {cs : List AV} {B o c : Nat} {vf : Nat → Value} (hg : ∀ j, j < cs.length → G B (o + j) = some (vf j)) (h : ∀ (j : Nat) (a : AV), cs[j]? = some a → VRel G noInj a (vf j))
    (d n len cap : Nat) (hl : len ≤ cap) (hc : c = o + d) : VRel G ι (.sval ((cs.drop d).take n) len false) (.slice (some ⟨B, c, none⟩) len cap) := by
  subst hc
  refine .sval (fun j => vf (d + j)) (fun j hj => ?_) (fun j a ha => ?_) (fun h => by cases h) hl
  · simp only [List.length_take, List.length_drop] at hj
    rw [Nat.add_assoc]; exact hg (d + j) (by omega)
  · rw [List.getElem?_take] at ha
    split at ha
    · rw [List.getElem?_drop] at ha; exact h _ _ ha
    · cases ha

theorem szOf_info {P : Program} {t : TypeId} {n : Nat} (h : szOf P t = n) (hn : n ≠ 0) : ∃ i, P.info? t = some i ∧ i.size = n := by
  unfold szOf at h
  cases hi : P.info? t with
  | none => simp [hi] at h; omega
  | some i => exact ⟨i, rfl, by simpa [hi] using h⟩

theorem sliceSK_ok {t e : TypeId} {sz : Nat} {x : AV} {x' : Value} {lo hi mx : Option AV} {lo' hi' mx' : Option Value} (ht : E.P.underlying t = some (.slice e)) (hsz : ∀ w, (sizeOf e).run E.P w = .ok sz w)
    (h : sliceSK sz x lo hi mx k = some r) (hx : VRel G ι x x') (hlo : ORelO G ι lo lo') (hhi : ORelO G ι hi hi') (hmx : ORelO G ι mx mx') :
    ∃ v v', k v = some r ∧ VRel G ι v v' ∧ ∀ w, (Instr.sliceAt t x' lo' hi' mx').run E.P w = .ok v' w := by
  have key : ∀ (len cap l hN m1 B off : Nat) (mx' : Option Value), (∀ w, (Instr.sliceBounds true len cap lo' hi' mx').run E.P w = .ok (l, hN, m1) w) →
      ∀ w, (Instr.sliceAt t (.slice (some ⟨B, off, none⟩) len cap) lo' hi' mx').run E.P w =
        .ok (.slice (some (if m1 = l then ⟨B, off, none⟩ else ⟨B, off + l * sz, none⟩)) (hN - l) (m1 - l)) w := fun len cap l hN m1 B off mx' h4 w => by
    simp only [Instr.sliceAt, Sem.run_bind, run_underlying ht, Result.andThen_ok, Instr.slice, h4, hsz, Sem.run_pure]
    by_cases hcl : m1 = l <;> simp [hcl, Addr.add_lit]
  have keyn : ∀ (l hN m1 : Nat) (mx' : Option Value), (∀ w, (Instr.sliceBounds true 0 0 lo' hi' mx').run E.P w = .ok (l, hN, m1) w) → l = 0 → hN = 0 → m1 = 0 →
      ∀ w, (Instr.sliceAt t (.slice none 0 0) lo' hi' mx').run E.P w = .ok (.slice none 0 0) w := fun l hN m1 mx' h4 e1 e2 e3 w => by
    subst e1 e2 e3
    simp [Instr.sliceAt, run_underlying ht, Instr.slice, h4, hsz]
  unfold sliceSK at h
  split at h
  · rename_i i off len sz'
    cases mx' with
    | some _ => exact hmx.elim
    | none =>
      cases hs : sz == sz'
      · simp [hs] at h
      · simp only [hs, cond_true] at h
        have hs' : sz = sz' := by simpa using hs
        subst hs'
        cases hx with
        | sref hι hc hl =>
          rename_i cap B C
          obtain ⟨l, hN, h1, h2, h3, h4⟩ := bounds_ok (P := E.P) (isS := true) hlo hhi hl h
          have hrun := key len cap l hN cap B off none h4
          cases hb : hN == l
          · simp only [hb, cond_false] at h3
            have hne : hN ≠ l := by simpa using hb
            have hcl : ¬ cap = l := by omega
            simp only [hcl, if_false] at hrun
            refine ⟨_, _, h3, .sref hι ?_ (by omega), hrun⟩
            have : l * sz + (cap - l) * sz = cap * sz := by rw [← Nat.add_mul]; congr 1; omega
            omega
          · simp only [hb, cond_true] at h3
            have hne : hN = l := by simpa using hb
            subst hne
            simp only [Nat.sub_self] at hrun
            by_cases hcl : cap = hN
            · simp only [hcl, if_true] at hrun
              exact ⟨_, _, h3, sval_empty (by simp), by simpa [hcl] using hrun⟩
            · simp only [hcl, if_false] at hrun
              exact ⟨_, _, h3, sval_empty (by simp), hrun⟩
  · rename_i cs len full
    cases mx' with
    | some _ => exact hmx.elim
    | none =>
      cases hx with
      | svalNil =>
        obtain ⟨l, hN, h1, h2, h3, h4⟩ := bounds_ok (P := E.P) (isS := true) hlo hhi (Nat.le_refl 0) h
        have hz : hN - l = 0 := by omega
        rw [hz] at h3
        have e0 : (([] : List AV).drop (l * sz)).take (0 * sz) = [] := by simp
        rw [e0] at h3
        exact ⟨_, _, h3, .svalNil, keyn l hN 0 none h4 (by omega) (by omega) rfl⟩
      | sval vf hg hv hf hl =>
        rename_i B off cap
        obtain ⟨l, hN, h1, h2, h3, h4⟩ := bounds_ok (P := E.P) (isS := true) hlo hhi hl h
        have hrun := key len cap l hN cap B off none h4
        by_cases hcl : cap = l
        · simp only [hcl, if_true] at hrun
          have : hN - l = 0 := by omega
          rw [this] at h3 hrun
          have e0 : (cs.drop (l * sz)).take (0 * sz) = [] := by simp
          rw [e0] at h3
          exact ⟨_, _, h3, sval_empty (by simp), by simpa [hcl] using hrun⟩
        · simp only [hcl, if_false] at hrun
          exact ⟨_, _, h3, sval_sub hg hv _ _ _ _ (by omega) rfl, hrun⟩
  · cases mx' with
    | some _ => exact hmx.elim
    | none =>
      cases hx
      obtain ⟨l, hN, h1, h2, h3, h4⟩ := bounds_ok (P := E.P) (isS := true) hlo hhi (Nat.le_refl 0) h
      exact ⟨_, _, h3, .nils, keyn l hN 0 none h4 (by omega) (by omega) rfl⟩
  · rename_i i off len sz' m
    cases mx' with
    | none => exact hmx.elim
    | some m' =>
      cases hh : hi.isSome
      · simp [hh] at h
      · simp only [hh, cond_true] at h
        cases hx with
        | sref hι hc hl =>
          rename_i cap B C
          obtain ⟨l, hN, m1, h1, h2, h2', h3, h4⟩ := bounds_ok3 (P := E.P) (len := len) hlo hhi hmx hl hh h
          have hrun := key len cap l hN m1 B off (some m') h4
          cases hb : m1 == l
          · simp [hb] at h3
          · simp only [hb, cond_true] at h3
            have hne : m1 = l := by simpa using hb
            have hN0 : hN - l = 0 := by omega
            have hm0 : m1 - l = 0 := by omega
            simp only [hne, if_true, hN0, Nat.sub_self] at hrun
            exact ⟨_, _, h3, sval_empty (by simp), hrun⟩
  · rename_i cs len full m
    cases mx' with
    | none => exact hmx.elim
    | some m' =>
      cases hh : hi.isSome
      · simp [hh] at h
      · simp only [hh, cond_true] at h
        cases hx with
        | svalNil =>
          obtain ⟨l, hN, m1, h1, h2, h2', h3, h4⟩ := bounds_ok3 (P := E.P) (len := 0) hlo hhi hmx (Nat.le_refl 0) hh h
          cases hb : m1 == l
          · simp [hb] at h3
          · simp only [hb, cond_true] at h3
            exact ⟨_, _, h3, .svalNil, keyn l hN m1 (some m') h4 (by omega) (by omega) (by omega)⟩
        | sval vf hg hv hf hl =>
          rename_i B off cap
          obtain ⟨l, hN, m1, h1, h2, h2', h3, h4⟩ := bounds_ok3 (P := E.P) (len := len) hlo hhi hmx hl hh h
          have hrun := key len cap l hN m1 B off (some m') h4
          cases hb : m1 == l
          · simp [hb] at h3
          · simp only [hb, cond_true] at h3
            have hne : m1 = l := by simpa using hb
            have hN0 : hN - l = 0 := by omega
            simp only [hne, if_true, hN0, Nat.sub_self] at hrun
            exact ⟨_, _, h3, sval_empty (by simp), hrun⟩
  · rename_i m
    cases mx' with
    | none => exact hmx.elim
    | some m' =>
      cases hh : hi.isSome
      · simp [hh] at h
      · simp only [hh, cond_true] at h
        cases hx
        obtain ⟨l, hN, m1, h1, h2, h2', h3, h4⟩ := bounds_ok3 (P := E.P) (len := 0) hlo hhi hmx (Nat.le_refl 0) hh h
        exact ⟨_, _, h3, .nils, keyn l hN m1 (some m') h4 (by omega) (by omega) (by omega)⟩
  · cases h

theorem sliceK_ok {objs : List AObj} {w0 : World} {t : TypeId} {x : AV} {x' : Value} {lo hi mx : Option AV} {lo' hi' mx' : Option Value} (h : sliceK E.P objs t x lo hi mx k = some r)
    (hR : Rel E G ι objs w0) (hx : VRel G ι x x') (hlo : ORelO G ι lo lo') (hhi : ORelO G ι hi hi') (hmx : ORelO G ι mx mx') :
    ∃ v v', k v = some r ∧ VRel G ι v v' ∧ ∀ w, (Instr.sliceAt t x' lo' hi' mx').run E.P w = .ok v' w := by
  unfold sliceK at h
  split at h
  · rename_i ht
    split at h
    · rename_i s
      rw [hx.str_inv]
      cases mx' with
      | some _ => exact hmx.elim
      | none =>
        obtain ⟨l, hN, h1, h2, h3, h4⟩ := bounds_ok (P := E.P) (isS := false) hlo hhi (Nat.le_refl _) h
        exact ⟨_, _, h3, .str _, fun w => by simp [Instr.sliceAt, Instr.slice, run_underlying ht, h4]⟩
    · cases h
  · rename_i e ht
    cases hs : szOf E.P e == 0
    · simp only [hs, cond_false] at h
      exact sliceSK_ok ht (szOf_run hs) h hx hlo hhi hmx
    · simp [hs] at h
  · rename_i n e ht
    cases hs : szOf E.P e == 0
    · simp only [hs, cond_false] at h
      split at h
      · rename_i cs off hm
        replace h := chk_some h; obtain ⟨hc, h⟩ := h
        have hc' : off + n * szOf E.P e ≤ cs.length := by simpa using hc
        have key : ∀ (l hN B o : Nat), (∀ w, (Instr.sliceBounds false n n lo' hi' none).run E.P w = .ok (l, hN, n) w) →
            ∀ w, (Instr.sliceAt t (.pointer (some ⟨B, o, none⟩)) lo' hi' none).run E.P w =
              .ok (.slice (some (if n = l then ⟨B, o, none⟩ else ⟨B, o + l * szOf E.P e, none⟩)) (hN - l) (n - l)) w := fun l hN B o h4 w => by
          simp only [Instr.sliceAt, Sem.run_bind, run_underlying ht, Result.andThen_ok, Instr.sureAddr, h4, szOf_run hs, Sem.run_pure]
          by_cases hcl : n = l <;> simp [hcl, Addr.add_lit]
        unfold sliceAK at h
        split at h
        · rename_i i off1
          cases mx' with
          | some _ => exact hmx.elim
          | none =>
            obtain ⟨l, hN, h1, h2, h3, h4⟩ := bounds_ok (P := E.P) (isS := false) hlo hhi (Nat.le_refl _) h
            cases hx with
            | ptr hι =>
              rename_i B C
              have hrun := key l hN B off1 h4
              cases hb : hN == l
              · simp only [hb, cond_false] at h3
                have hne : hN ≠ l := by simpa using hb
                have hcl : ¬ n = l := by omega
                simp only [hcl, if_false] at hrun
                refine ⟨_, _, h3, .sref hι ?_ (by omega), hrun⟩
                simp only [memOf] at hm
                split at hm
                · rename_i flat cs1 hi
                  simp at hm; obtain ⟨rfl, rfl⟩ := hm
                  obtain ⟨B', C', e1, _, _, e3⟩ := hR.obj _ _ hi rfl
                  rw [hι] at e1; simp at e1; obtain ⟨rfl, rfl⟩ := e1
                  obtain ⟨⟨c, e', lo1, hi1, _, hC, _, hl⟩, _⟩ := e3
                  have : cs1.length ≤ c.size := by have := hl.1; simp at this; omega
                  have : l * szOf E.P e + (n - l) * szOf E.P e = n * szOf E.P e := by rw [← Nat.add_mul]; congr 1; omega
                  omega
                · cases hm
              · simp only [hb, cond_true] at h3
                have hne : hN = l := by simpa using hb
                subst hne
                simp only [Nat.sub_self] at hrun
                by_cases hcl : n = hN
                · simp only [hcl, if_true] at hrun
                  exact ⟨_, _, h3, sval_empty (by simp), by simpa [hcl] using hrun⟩
                · simp only [hcl, if_false] at hrun
                  exact ⟨_, _, h3, sval_empty (by simp), hrun⟩
        · rename_i cs1 off1
          cases mx' with
          | some _ => exact hmx.elim
          | none =>
            obtain ⟨l, hN, h1, h2, h3, h4⟩ := bounds_ok (P := E.P) (isS := false) hlo hhi (Nat.le_refl _) h
            cases hx with
            | cptr vf hg hv =>
              rename_i B o
              have hrun := key l hN B (o + off1) h4
              by_cases hcl : n = l
              · simp only [hcl, if_true] at hrun
                have : hN - l = 0 := by omega
                rw [this] at h3 hrun
                have e0 : (cs1.drop (off1 + l * szOf E.P e)).take (0 * szOf E.P e) = [] := by simp
                rw [e0] at h3
                exact ⟨_, _, h3, sval_empty (by simp), by simpa [hcl] using hrun⟩
              · simp only [hcl, if_false] at hrun
                exact ⟨_, _, h3, sval_sub hg hv _ _ _ _ (by omega) (by omega), hrun⟩
        · cases h
      · cases h
    · simp [hs] at h
  · cases h
end
end Go.Ab
