/- The abstract machine, part 12: append. No condition. -/
import Derived.Test.YtnalegahabfglaaDoorAbEff4
import Derived.Deep.Upon
set_option linter.all false
set_option linter.unusedVariables false
set_option linter.unusedSimpArgs false
namespace Go.Ab
open Go
section
variable {E : Env} {G : Gh} {ι : Inj} {R : Type} {objs : List AObj} {w : World} {k : AV → List AObj → Option R} {r : R}

/-- An object is given up. -/
theorem Rel.drop (h : Rel E G ι objs w) (i : Nat) : Rel E G ι (objs.set i .dead) w ∧ Ext (LiveB ι objs) G ι w G ι (objs.set i .dead) w := by
  have hget : ∀ (j : Nat) (p : AObj), (objs.set i .dead)[j]? = some p → p.live = true → objs[j]? = some p := fun j p hj hp => by
    rw [List.getElem?_set] at hj
    split at hj
    · split at hj
      · simp at hj; subst hj; simp [AObj.live] at hp
      · cases hj
    · exact hj
  refine ⟨⟨h.stays, fun j p hj hp => h.obj j p (hget j p hj hp) hp, fun j k p q B C D hj hp hk hq => h.inj j k p q B C D (hget j p hj hp) hp (hget k q hk hq) hq,
    fun j hj => h.fresh j (by simpa using hj), h.glob, h.size⟩,
    ⟨rfl, rfl, rfl, Nat.le_refl _, fun _ _ _ => rfl, Gh.le_refl _, fun _ _ _ _ => rfl, Inj.le_refl _, ?_⟩⟩
  rintro b _ ⟨j, p, C, hj, hp, e⟩
  exact ⟨j, p, C, hget j p hj hp, hp, e⟩

/-- An object gets a new number, the old one is dead. -/
theorem Rel.move (h : Rel E G ι objs w) {i B C : Nat} {o : AObj} (hi : objs[i]? = some o) (hl : o.live = true) (hι : ι i = some (B, C)) :
    Rel E G (ι.add objs.length (B, C)) (objs.set i .dead ++ [o]) w ∧ Ext (LiveB ι objs) G ι w G (ι.add objs.length (B, C)) (objs.set i .dead ++ [o]) w := by
  have hn : ι objs.length = none := h.fresh _ (Nat.le_refl _)
  have hle := Inj.add_le hn (B, C)
  have hilt : i < objs.length := by
    rcases Nat.lt_or_ge i objs.length with h' | h'
    · exact h'
    · simp [List.getElem?_eq_none h'] at hi
  have hget : ∀ (j : Nat) (p : AObj), (objs.set i .dead ++ [o])[j]? = some p → p.live = true → (j ≠ i ∧ j < objs.length ∧ objs[j]? = some p) ∨ (j = objs.length ∧ p = o) := fun j p hj hp => by
    rw [List.getElem?_append] at hj
    split at hj
    · rename_i hlt
      rw [List.getElem?_set] at hj
      split at hj
      · cases hj; simp [AObj.live] at hp
      · rename_i hne; exact .inl ⟨fun e => hne e.symm, by simpa using hlt, hj⟩
    · rename_i hlt
      simp at hlt
      have : j - (objs.set i .dead).length = 0 := by
        rcases Nat.eq_zero_or_pos (j - (objs.set i .dead).length) with h0 | h0
        · exact h0
        · have : [o][j - (objs.set i .dead).length]? = none := by simp; simp at h0; omega
          rw [this] at hj; cases hj
      rw [this] at hj
      simp at this
      exact .inr ⟨by omega, by simpa using hj.symm⟩
  have holdι : ∀ j, j < objs.length → (ι.add objs.length (B, C)) j = ι j := fun j hj => by unfold Inj.add; rw [if_neg (by omega)]
  -- where a live one was before
  have hback : ∀ (j : Nat) (p : AObj) (D F : Nat), (objs.set i .dead ++ [o])[j]? = some p → p.live = true → (ι.add objs.length (B, C)) j = some (D, F) →
      ∃ j', objs[j']? = some p ∧ ι j' = some (D, F) ∧ (j' = i → j = objs.length) ∧ (j' ≠ i → j = j') := fun j p D F hj hp e => by
    rcases hget j p hj hp with ⟨hne, hlt, hj'⟩ | ⟨rfl, rfl⟩
    · rw [holdι j hlt] at e; exact ⟨j, hj', e, fun e' => absurd e' hne, fun _ => rfl⟩
    · rw [Inj.add_self] at e; cases e; exact ⟨i, hi, hι, fun _ => rfl, fun hne => absurd rfl hne⟩
  refine ⟨⟨h.stays, fun j p hj hp => ?_, fun j l p q D F F' hj hp hl' hq e1 e2 => ?_, fun j hj => ?_, h.glob, h.size⟩,
    ⟨rfl, rfl, rfl, Nat.le_refl _, fun _ _ _ => rfl, Gh.le_refl _, fun _ _ _ _ => rfl, hle, ?_⟩⟩
  · rcases hget j p hj hp with ⟨hne, hlt, hj'⟩ | ⟨rfl, rfl⟩
    · obtain ⟨D, F, g1, g2, g3, g4⟩ := h.obj j p hj' hp
      exact ⟨D, F, by rw [holdι j hlt]; exact g1, g2, g3, g4.lift hle rfl⟩
    · obtain ⟨D, F, g1, g2, g3, g4⟩ := h.obj i p hi hl
      rw [hι] at g1; cases g1
      exact ⟨B, C, Inj.add_self _ _, g2, g3, g4.lift hle rfl⟩
  · obtain ⟨j', a1, a2, a3, a4⟩ := hback j p D F hj hp e1
    obtain ⟨l', b1, b2, b3, b4⟩ := hback l q D F' hl' hq e2
    have := h.inj j' l' p q D F F' a1 hp b1 hq a2 b2
    subst this
    by_cases hji : j' = i
    · rw [a3 hji, b3 hji]
    · rw [a4 hji, b4 hji]
  · simp at hj
    unfold Inj.add; rw [if_neg (by omega)]; exact h.fresh j (by omega)
  · rintro b _ ⟨j, p, F, hj, hp, e⟩
    obtain ⟨j', a1, a2, _, _⟩ := hback j p b F hj hp e
    exact ⟨j', p, F, a1, hp, a2⟩

theorem setA_take : ∀ (vs : List Value) (c : Array Value) (off : Nat), off + vs.length ≤ c.size → (setA c off vs).toList.take (off + vs.length) = c.toList.take off ++ vs
  | [], c, off, _ => by simp [setA]
  | v :: vs, c, off, h => by
    simp only [setA, List.length_cons] at h ⊢
    have := setA_take vs (c.setIfInBounds off v) (off + 1) (by simp; omega)
    rw [show off + (vs.length + 1) = off + 1 + vs.length by omega, this]
    have hlt : off < c.toList.length := by simp; omega
    rw [Array.toList_setIfInBounds, List.take_set, List.take_succ_eq_append_getElem hlt, List.set_append_right _ _ (by simp; omega)]
    have : (List.take off c.toList).length = off := by simp; omega
    rw [this]; simp

theorem news_of_seen {B o : Nat} {cs : List AV} {off n : Nat} {ι' : Inj} (hcell : ∀ j a, cs[off + j]? = some a → ∃ v, VRel G ι' a v ∧ w.cell? ⟨B, o + j, none⟩ = some v)
    (hlen : ((cs.drop off).take n).length = n) :
    ∃ news' : List Value, LRel G ι' ((cs.drop off).take n) news' ∧ news'.length = n ∧ ∀ j u, news'[j]? = some u → w.cell? ⟨B, o + j, none⟩ = some u := by
  simp only [List.length_take, List.length_drop] at hlen
  obtain ⟨l, hl, hp⟩ := exists_list n (fun j u => ∀ a, cs[off + j]? = some a → VRel G ι' a u ∧ w.cell? ⟨B, o + j, none⟩ = some u) (fun j hj => by
    have hlt : off + j < cs.length := by omega
    obtain ⟨u, hu, hc⟩ := hcell j _ (List.getElem?_eq_getElem hlt)
    refine ⟨u, fun a ha => ?_⟩
    rw [List.getElem?_eq_getElem hlt] at ha; cases ha
    exact ⟨hu, hc⟩)
  have hget : ∀ j u, l[j]? = some u → ∃ a, cs[off + j]? = some a ∧ VRel G ι' a u ∧ w.cell? ⟨B, o + j, none⟩ = some u := fun j u hu => by
    have hj : j < l.length := by
      rcases Nat.lt_or_ge j l.length with h' | h'
      · exact h'
      · simp [List.getElem?_eq_none h'] at hu
    have hlt : off + j < cs.length := by omega
    exact ⟨_, List.getElem?_eq_getElem hlt, hp j u hu _ (List.getElem?_eq_getElem hlt)⟩
  refine ⟨l, ⟨by simp; omega, fun j a u h1 h2 => ?_⟩, hl, fun j u hu => ?_⟩
  · obtain ⟨a', ha', hr, _⟩ := hget j u h2
    rw [List.getElem?_take] at h1
    split at h1
    · rw [List.getElem?_drop] at h1; rw [ha'] at h1; cases h1; exact hr
    · cases h1
  · obtain ⟨_, _, _, hc⟩ := hget j u hu; exact hc

theorem srcOf_ok {sz n : Nat} {x : AV} {x' : Value} {news : List AV} {cl : Bool} {tx e' : TypeId} (h : srcOf sz objs x = some (news, n, cl)) (hx : VRel G ι x x') (hR : Rel E G ι objs w)
    (hn : news.length = n * sz) (h1 : ∀ a ∈ news, oneA a = true) (hk : E.P.underlying tx = some (.slice e')) :
    ∃ news', LRel G (if cl || closedL news then noInj else ι) news news' ∧ Src E.P sz tx x' n news' w := by
  have one : ∀ {ι' : Inj} {news' : List Value}, LRel G ι' news news' → ∀ u ∈ news', u.oneCell' = true := fun hl u hu => by
    obtain ⟨j, hj, hju⟩ := List.mem_iff_getElem.1 hu
    have hja : j < news.length := by rw [hl.1]; exact hj
    exact oneA_one (hl.2 j _ _ (List.getElem?_eq_getElem hja) (by rw [List.getElem?_eq_getElem hj, hju])) (h1 _ (List.getElem_mem hja))
  have fin : ∀ {news' : List Value} {b : Bool}, LRel G (if b then noInj else ι) news news' → LRel G (if b || closedL news then noInj else ι) news news' := fun {news' b} hl => by
    cases b
    · cases hc : closedL news
      · simpa using hl
      · simpa using (LRel.closed (by simpa using hl) hc)
    · simpa using hl
  unfold srcOf at h
  split at h
  · rename_i j off m sz'
    split at h
    · rename_i flat cs hj
      simp only [Option.some.injEq, Prod.mk.injEq] at h
      obtain ⟨rfl, rfl, rfl⟩ := h
      cases hx with
      | sref hι hc hl =>
        rename_i cap B C
        obtain ⟨B', C', g1, g2, g3, ⟨c, e1, lo, hi1, hb, hC, hfz, hrel⟩, hu⟩ := hR.obj j _ hj rfl
        rw [hι] at g1; cases g1
        obtain ⟨news', q1, q2, q3⟩ := news_of_seen (w := w) (B := B) (o := off) (cs := cs) (off := off) (n := m * sz) (G := G) (ι' := if flat then noInj else ι) (fun q a ha => by
          obtain ⟨v, hv, hr⟩ := hrel.get ha
          refine ⟨v, hr, ?_⟩
          rw [List.getElem?_take] at hv
          split at hv
          · simp [World.cell?, hb]; simpa using hv
          · cases hv) hn
        exact ⟨news', fin q1, Src.ofSlice w hk _ m cap news' q2 (fun q u hq => by rw [Addr.add_lit]; exact q3 q u hq) (one q1)⟩
    · cases h
  · rename_i cs m full
    simp only [Option.some.injEq, Prod.mk.injEq] at h
    obtain ⟨rfl, rfl, rfl⟩ := h
    cases hx with
    | svalNil => exact ⟨[], by simpa using LRel.nil, Src.ofNil w hk 0⟩
    | sval vf hg hv hf hl =>
      rename_i B off cap
      obtain ⟨news', q1, q2, q3⟩ := news_of_seen (w := w) (B := B) (o := off) (cs := cs) (off := 0) (n := m * sz) (G := G) (ι' := noInj) (fun q a ha => by
          have hlt : q < cs.length := by
            rcases Nat.lt_or_ge q cs.length with h' | h'
            · exact h'
            · simp [List.getElem?_eq_none h'] at ha
          exact ⟨vf q, hv q a (by simpa using ha), hR.stays _ _ _ (hg q hlt)⟩) (by simpa using hn)
      have q1' : LRel G noInj (cs.take (m * sz)) news' := by simpa using q1
      exact ⟨news', by simpa using q1', Src.ofSlice w hk _ m cap news' q2 (fun q u hq => by rw [Addr.add_lit]; exact q3 q u hq) (one q1')⟩
  · simp only [Option.some.injEq, Prod.mk.injEq] at h
    obtain ⟨rfl, rfl, rfl⟩ := h
    cases hx
    exact ⟨[], by simpa using LRel.nil, Src.ofNil w hk 0⟩
  · cases h
end
end Go.Ab
