/- The abstract machine, part 13: append is sound. No condition. -/
import Derived.Test.YtnalegahabfglaaDoorAbAppend
set_option linter.all false
set_option linter.unusedVariables false
set_option linter.unusedSimpArgs false
namespace Go.Ab
open Go
section
variable {E : Env} {G : Gh} {ι : Inj} {R : Type} {objs : List AObj} {w : World} {k : AV → List AObj → Option R} {r : R}

theorem Rel.drew (h : Rel E G ι objs w) : Rel E G ι objs w.drew := h.of_heap rfl
theorem Ext.drew {ι' : Inj} {objs' : List AObj} {w' : World} {G' : Gh} (h : Ext (LiveB ι objs) G ι w.drew G' ι' objs' w') : Ext (LiveB ι objs) G ι w G' ι' objs' w' :=
  ⟨h.os, h.tape, h.output, h.size, h.keep, h.gle, h.gold, h.ile, h.lv⟩

/-- A new row whose first cells are known. -/
theorem Rel.addRow (h : Rel E G ι objs w) (flat : Bool) (cs : List AV) (vs : Array Value) (e : TypeId) (hl : ∀ ι', ι.le ι' → LRel G (if flat then noInj else ι') cs (vs.toList.take cs.length)) :
    ∃ ι', Rel E G ι' (objs ++ [.cells flat cs]) (w.alloc (.cells vs e)) ∧ Ext (LiveB ι objs) G ι w G ι' (objs ++ [.cells flat cs]) (w.alloc (.cells vs e)) ∧
      ι' objs.length = some (w.heap.size, vs.size) := by
  have hn : ι objs.length = none := h.fresh _ (Nat.le_refl _)
  refine ⟨ι.add objs.length (w.heap.size, vs.size), ?_⟩
  have := h.add (.cells vs e) (.cells flat cs) vs.size
    ⟨⟨vs, e, 0, 0, heap_alloc_new w _, rfl, .inl (Nat.le_refl _), hl _ (Inj.add_le hn _)⟩, fun o => h.unsealed_new (Nat.le_refl _) o⟩
  exact ⟨this.1, this.2, Inj.add_self _ _⟩

/-- The arm that grows, from known old cells. -/
theorem append_grow {t tx ty e : TypeId} {i : TypeInfo} {z : Value} (ht : E.P.underlying t = some (.slice e)) (hi : E.P.info? e = some i) (hz : i.zero = some z) (hzs : z.cells.size = i.size)
    (hR : Rel E G ι objs w) {base : Option Addr} {len cap n : Nat} {olds news : List AV} {olds' news' : List Value} {x' : Value} {fo fn : Bool}
    (ho : LRel G (if fo then noInj else ι) olds olds') (hn : LRel G (if fn then noInj else ι) news news') (hs : Src E.P i.size tx x' n news' w)
    (hold : (Builtin.firstCells i.size len (.slice base len cap)).run E.P w.drew = .ok olds'.toArray w.drew) (hol : olds'.length = len * i.size)
    (hg : cap < len + n) (hb : (len + n) * i.bytes ≤ 140737488355328) (hm : len + n ≤ 1099511627776) :
    ∃ v' w' ι', (Builtin.append_ #[t, tx] ty #[.slice base len cap, x']).run E.P w = .ok v' w' ∧ VRel G ι' (.sref objs.length 0 (len + n) i.size) v' ∧
      Rel E G ι' (objs ++ [.cells (fo && fn) (olds ++ news)]) w' ∧ Ext (LiveB ι objs) G ι w G ι' (objs ++ [.cells (fo && fn) (olds ++ news)]) w' := by
  have hrun := run_append_grow_src (P := E.P) w t tx ty e i z ht hi hz base len cap olds' hold x' n news' hs hg (by omega) (growslice_fits hg hb)
  obtain ⟨ι', g1, g2, g3⟩ := (hR.drew).addRow (fo && fn) (olds ++ news) ((olds' ++ news').toArray ++ Builtin.zeroCells z.cells (grownCap w (len + n) cap e - (len + n))) e (fun ι' hle => by
    have e1 : (((olds' ++ news').toArray ++ Builtin.zeroCells z.cells (grownCap w (len + n) cap e - (len + n))).toList.take (olds ++ news).length) = olds' ++ news' := by
      rw [Array.toList_append]
      rw [List.take_append_of_le_length (by simp [ho.1, hn.1])]
      exact List.take_of_length_le (by simp [ho.1, hn.1])
    rw [e1]
    cases fo <;> cases fn
    · exact (LRel.append (by simpa using ho) (by simpa using hn)).mono (Gh.le_refl _) hle
    · exact (LRel.append (by simpa using ho) ((by simpa using hn : LRel G noInj news news').mono (Gh.le_refl _) (noInj_le ι))).mono (Gh.le_refl _) hle
    · exact (LRel.append ((by simpa using ho : LRel G noInj olds olds').mono (Gh.le_refl _) (noInj_le ι)) (by simpa using hn)).mono (Gh.le_refl _) hle
    · simpa using LRel.append (by simpa using ho) (by simpa using hn))
  refine ⟨_, _, ι', hrun, .sref g3 ?_ (grownCap_ge w (len + n) cap e), g1, g2.drew⟩
  have hge := grownCap_ge w (len + n) cap e
  have hnl := hs.newsLen
  simp only [Array.size_append, List.size_toArray, List.length_append, size_zeroCells, hzs, hol, hnl, Nat.zero_add]
  have : len * i.size + n * i.size + (grownCap w (len + n) cap e - (len + n)) * i.size = grownCap w (len + n) cap e * i.size := by
    rw [← Nat.add_mul, ← Nat.add_mul]; congr 1; omega
  omega

theorem appendK_ok {ts : Array TypeId} {ty : TypeId} {s x : AV} {s' x' : Value} (hts : ts.size = 2) (h : appendK E.P objs ts s x k = some r) (hs : VRel G ι s s') (hx : VRel G ι x x') (hR : Rel E G ι objs w) :
    ∃ u objs', k u objs' = some r ∧ ∃ v' w' ι', (Builtin.append_ ts ty #[s', x']).run E.P w = .ok v' w' ∧ VRel G ι' u v' ∧ Rel E G ι' objs' w' ∧ Ext (LiveB ι objs) G ι w G ι' objs' w' := by
  unfold appendK at h
  split at h
  · rename_i t tx h0 h1
    have hts' : ts = #[t, tx] := by
      apply Array.ext (by simp [hts])
      intro i hi1 hi2
      simp at hi2
      match i, hi2 with
      | 0, _ => simpa [Array.getElem?_eq_getElem hi1] using h0
      | 1, _ => simpa [Array.getElem?_eq_getElem hi1] using h1
    subst hts'
    clear h0 h1 hts
    split at h
    · rename_i e e' ht htx
      split at h
      · rename_i i hi
        cases hb : (decide (i.size ≠ 0) && i.zero.isSome && decide ((i.zero.getD .nilFunc).cells.size = i.size))
        · simp only [hb, cond_false] at h; cases h
        · simp only [hb, cond_true] at h
          simp only [Bool.and_eq_true, decide_eq_true_eq] at hb
          obtain ⟨⟨hsz, hz0⟩, hzs⟩ := hb
          obtain ⟨z, hz⟩ := Option.isSome_iff_exists.1 hz0
          rw [hz] at hzs
          simp only [Option.getD_some] at hzs
          split at h
          · rename_i news n cl hsrc
            split at h
            · -- an object
              rename_i b len sz
              split at h
              · rename_i flat cs hbo
                cases hse : sz == i.size
                · simp [hse] at h
                · simp only [hse, cond_true] at h
                  have hse' : sz = i.size := by simpa using hse
                  subst hse'
                  obtain ⟨hc, hk⟩ := chk_some h
                  simp only [Bool.and_eq_true, decide_eq_true_eq] at hc
                  obtain ⟨⟨⟨⟨hc1, hc2⟩, hc3⟩, hc4⟩, hc5⟩ := hc
                  have hone : ∀ a ∈ news, oneA a = true := fun a ha => List.all_eq_true.1 hc2 a ha
                  obtain ⟨news', hnr, hsr⟩ := srcOf_ok hsrc hx hR hc1 hone htx
                  cases hs with
                  | sref hι hcap hlc =>
                    rename_i cap B C
                    obtain ⟨B', C', g1, g2, g3, ⟨c, e1, lo, hi1, hbk, hC, hfz, hrel⟩, hu⟩ := hR.obj b _ hbo rfl
                    rw [hι] at g1; cases g1
                    have hcsl : cs.length ≤ c.size := by have := hrel.1; simp at this; omega
                    -- the old cells
                    have hold : LRel G (if flat then noInj else ι) (cs.take (len * i.size)) (c.toList.take (len * i.size)) := by
                      have := hrel.take (len * i.size)
                      rw [List.take_take, Nat.min_eq_left hc3] at this
                      exact this
                    by_cases hroom : len + n ≤ cap
                    · -- room
                      have hle : (len + n) * i.size ≤ cap * i.size := Nat.mul_le_mul_right _ hroom
                      rw [Nat.add_mul] at hle
                      have hnl := hsr.newsLen
                      have hrun := run_append_room_src (P := E.P) w t tx ty e i ht hi B 0 len cap x' n news' hsr hroom
                        (fun j hj => by simp [World.cell?, hbk]; omega) (fun j hj => by simp [World.frozen?, hbk]; omega)
                      simp only [Nat.zero_add] at hrun
                      obtain ⟨q1, q2⟩ := hR.setObj (o := .cells flat cs) (o' := .cells (flat && (cl || closedL news)) (cs.take (len * i.size) ++ news)) (w' := w.setCells B (len * i.size) news')
                        hbo rfl hι hu (fun b' hb' => heap_setCells_other B b' hb' _ _ w) (size_setCells B _ _ w) (os_setCells B _ _ w) (fun _ => by
                          refine ⟨⟨_, e1, lo, hi1, heap_setCells B news' (len * i.size) w c e1 (lo, hi1) hbk, by rw [setA_size]; exact hC, hfz, ?_⟩, hu⟩
                          have e2 : (cs.take (len * i.size) ++ news).length = len * i.size + news'.length := by
                            simp only [List.length_append, List.length_take, hnr.1]; omega
                          rw [e2, setA_take news' c (len * i.size) (by omega)]
                          cases flat
                          · simp only [Bool.false_and, Bool.false_eq_true, if_false] at hold ⊢
                            refine LRel.append (by simpa using hold) ?_
                            cases hcn : (cl || closedL news)
                            · simpa [hcn] using hnr
                            · exact (by simpa [hcn] using hnr : LRel G noInj news news').mono (Gh.le_refl _) (noInj_le ι)
                          · cases hcn : (cl || closedL news)
                            · simp only [Bool.and_false, Bool.false_eq_true, if_false]
                              exact LRel.append ((by simpa using hold : LRel G noInj _ _).mono (Gh.le_refl _) (noInj_le ι)) (by simpa [hcn] using hnr)
                            · simpa using LRel.append (by simpa using hold) (by simpa [hcn] using hnr))
                      have hlen : (objs.set b (AObj.cells (flat && (cl || closedL news)) (cs.take (len * i.size) ++ news))).length = objs.length := by simp
                      have hblt : b < objs.length := by
                        rcases Nat.lt_or_ge b objs.length with h' | h'
                        · exact h'
                        · simp [List.getElem?_eq_none h'] at hbo
                      obtain ⟨m1, m2⟩ := q1.move (i := b) (B := B) (C := C) (o := .cells (flat && (cl || closedL news)) (cs.take (len * i.size) ++ news)) (by simp [hblt]) rfl hι
                      rw [hlen, List.set_set] at m1 m2
                      exact ⟨_, _, hk, _, _, _, hrun, .sref (Inj.add_self _ _) (by simpa using hcap) hroom, m1, q2.trans m2⟩
                    · -- a new row
                      obtain ⟨d1, d2⟩ := hR.drop b
                      have hfirst : (Builtin.firstCells i.size len (.slice (some ⟨B, 0, none⟩) len cap)).run E.P w.drew = .ok (c.toList.take (len * i.size)).toArray w.drew := by
                        refine run_firstCells_some w.drew i.size len _ len cap _ (by simp; omega) fun j v hv => ?_
                        rw [Addr.add_lit]
                        rw [List.getElem?_take] at hv
                        split at hv
                        · simp only [World.cell?_drew, Nat.zero_add]
                          simp [World.cell?, hbk]; simpa using hv
                        · cases hv
                      obtain ⟨v', w', ι', a1, a2, a3, a4⟩ := append_grow (ty := ty) ht hi hz hzs d1 hold hnr hsr hfirst (by simp; omega) (by omega) hc4 hc5
                      simp only [List.length_set] at a2
                      exact ⟨_, _, hk, v', w', ι', a1, a2, a3, d2.trans a4⟩
              · cases h
            · -- nil
              obtain ⟨hc, hk⟩ := chk_some h
              simp only [Bool.and_eq_true, decide_eq_true_eq] at hc
              obtain ⟨⟨⟨hc1, hc2⟩, hc4⟩, hc5⟩ := hc
              have hone : ∀ a ∈ news, oneA a = true := fun a ha => List.all_eq_true.1 hc2 a ha
              obtain ⟨news', hnr, hsr⟩ := srcOf_ok hsrc hx hR hc1 hone htx
              cases hs
              cases hn0 : n == 0
              · simp only [hn0, cond_false] at hk
                have hn0' : n ≠ 0 := by simpa using hn0
                obtain ⟨v', w', ι', a1, a2, a3, a4⟩ := append_grow (ty := ty) (fo := true) (fn := cl || closedL news) (olds := []) (olds' := []) (len := 0) (cap := 0) (base := none) ht hi hz hzs hR LRel.nil hnr hsr
                  (run_firstCells_none w.drew i.size 0 0 0) (by simp) (by omega) (by simpa using hc4) (by simpa using hc5)
                simp only [Nat.zero_add, Bool.true_and, List.nil_append] at a2 a3 a4
                exact ⟨_, _, hk, v', w', ι', a1, a2, a3, a4⟩
              · simp only [hn0, cond_true] at hk
                have hn0' : n = 0 := by simpa using hn0
                subst hn0'
                have hnil : news' = [] := List.eq_nil_of_length_eq_zero (by rw [← hnr.1, hc1]; simp)
                subst hnil
                exact ⟨_, _, hk, _, w, ι, run_append_nothing w t tx ty e i ht hi none 0 0 (Nat.le_refl _) x' hsr, .nils, hR, Ext.refl _ _ _ _⟩
            · -- an empty one without room
              obtain ⟨hc, hk⟩ := chk_some h
              simp only [Bool.and_eq_true, decide_eq_true_eq] at hc
              obtain ⟨⟨⟨hc1, hc2⟩, hc4⟩, hc5⟩ := hc
              have hone : ∀ a ∈ news, oneA a = true := fun a ha => List.all_eq_true.1 hc2 a ha
              obtain ⟨news', hnr, hsr⟩ := srcOf_ok hsrc hx hR hc1 hone htx
              cases hs with
              | svalNil =>
                cases hn0 : n == 0
                · simp only [hn0, cond_false] at hk
                  have hn0' : n ≠ 0 := by simpa using hn0
                  obtain ⟨v', w', ι', a1, a2, a3, a4⟩ := append_grow (ty := ty) (fo := true) (fn := cl || closedL news) (olds := []) (olds' := []) (len := 0) (cap := 0) (base := none) ht hi hz hzs hR LRel.nil hnr hsr
                    (run_firstCells_none w.drew i.size 0 0 0) (by simp) (by omega) (by simpa using hc4) (by simpa using hc5)
                  simp only [Nat.zero_add, Bool.true_and, List.nil_append] at a2 a3 a4
                  exact ⟨_, _, hk, v', w', ι', a1, a2, a3, a4⟩
                · simp only [hn0, cond_true] at hk
                  have hn0' : n = 0 := by simpa using hn0
                  subst hn0'
                  have hnil : news' = [] := List.eq_nil_of_length_eq_zero (by rw [← hnr.1, hc1]; simp)
                  subst hnil
                  exact ⟨_, _, hk, _, w, ι, run_append_nothing w t tx ty e i ht hi none 0 0 (Nat.le_refl _) x' hsr, .svalNil, hR, Ext.refl _ _ _ _⟩
              | sval vf hg hv hf hl =>
                rename_i B off cap
                have hcap : cap = 0 := hf rfl
                subst hcap
                cases hn0 : n == 0
                · simp only [hn0, cond_false] at hk
                  have hn0' : n ≠ 0 := by simpa using hn0
                  obtain ⟨v', w', ι', a1, a2, a3, a4⟩ := append_grow (ty := ty) (fo := true) (fn := cl || closedL news) (olds := []) (olds' := []) (len := 0) (cap := 0) (base := some ⟨B, off, none⟩) ht hi hz hzs hR LRel.nil hnr hsr
                    (run_firstCells_some w.drew i.size 0 _ 0 0 [] (by simp) (fun j v hv => by simp at hv)) (by simp) (by omega) (by simpa using hc4) (by simpa using hc5)
                  simp only [Nat.zero_add, Bool.true_and, List.nil_append] at a2 a3 a4
                  exact ⟨_, _, hk, v', w', ι', a1, a2, a3, a4⟩
                · simp only [hn0, cond_true] at hk
                  have hn0' : n = 0 := by simpa using hn0
                  subst hn0'
                  have hnil : news' = [] := List.eq_nil_of_length_eq_zero (by rw [← hnr.1, hc1]; simp)
                  subst hnil
                  exact ⟨_, _, hk, _, w, ι, run_append_nothing w t tx ty e i ht hi _ 0 0 (Nat.le_refl _) x' hsr, .sval vf hg hv (fun _ => rfl) hl, hR, Ext.refl _ _ _ _⟩
            · cases h
          · cases h
      · cases h
    · cases h
  · cases h
end
end Go.Ab
