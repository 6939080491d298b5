/- The abstract machine, part 15: what a call leaves, seen by the caller. No condition. -/
import Derived.Test.YtnalegahabfglaaDoorAbHeap
set_option linter.all false
set_option linter.unusedVariables false
set_option linter.unusedSimpArgs false
namespace Go.Ab
open Go

def backF (ids : List Nat) (m base k : Nat) : Option Nat := bif decide (k < m) then ids[k]? else some (base + (k - m))

def updO (ids : List Nat) (objs' : List AObj) (f : Nat → Option Nat) : Nat → List AObj → List AObj
  | _, [] => []
  | i, o :: os => (match idx ids i with
    | some k => renO f (objs'.getD k .dead)
    | none => o) :: updO ids objs' f (i + 1) os

def mergeO (objs : List AObj) (ids : List Nat) (objs' : List AObj) : List AObj :=
  match ids, objs' with
  | [], [] => objs
  | ids, objs' => updO ids objs' (backF ids ids.length objs.length) 0 objs ++ (objs'.drop ids.length).map (renO (backF ids ids.length objs.length))

theorem updO_get (ids : List Nat) (objs' : List AObj) (f : Nat → Option Nat) : ∀ (objs : List AObj) (n i : Nat),
    (updO ids objs' f n objs)[i]? = (objs[i]?).map fun o => match idx ids (n + i) with
      | some k => renO f (objs'.getD k .dead)
      | none => o
  | [], n, i => by simp [updO]
  | o :: os, n, i => by
    cases i with
    | zero => simp [updO]
    | succ i => simp only [updO, List.getElem?_cons_succ, updO_get ids objs' f os (n + 1) i]; rw [show n + 1 + i = n + (i + 1) by omega]
theorem updO_length (ids : List Nat) (objs' : List AObj) (f : Nat → Option Nat) : ∀ (objs : List AObj) (n : Nat), (updO ids objs' f n objs).length = objs.length
  | [], _ => rfl
  | o :: os, n => by simp [updO, updO_length ids objs' f os (n + 1)]

theorem mergeO_eq (objs : List AObj) (ids : List Nat) (objs' : List AObj) :
    mergeO objs ids objs' = updO ids objs' (backF ids ids.length objs.length) 0 objs ++ (objs'.drop ids.length).map (renO (backF ids ids.length objs.length)) := by
  unfold mergeO
  split
  · have : ∀ (os : List AObj) (n : Nat) f, updO [] [] f n os = os := by
      intro os
      induction os with
      | nil => intros; rfl
      | cons o os ih => intro n f; simp [updO, idx, ih]
    simp [this]
  · rfl

theorem idx_none {l : List Nat} {i : Nat} (h : idx l i = none) : i ∉ l := by
  induction l with
  | nil => simp
  | cons j r ih =>
    simp only [idx] at h
    cases hb : i == j
    · simp only [hb, cond_false, Option.map_eq_none_iff] at h
      have := ih h
      simp at hb; simp [hb, this]
    · simp [hb] at h

section
variable {E : Env} {G G' : Gh} {ι ιc' : Inj} {objs objs' : List AObj} {w w' : World} {ids : List Nat}

theorem mergeO_get {i : Nat} {p : AObj} (h : (mergeO objs ids objs')[i]? = some p) (hp : p.live = true) :
    (i < objs.length ∧ i ∉ ids ∧ objs[i]? = some p) ∨
    (∃ (k : Nat) (q : AObj), ids[k]? = some i ∧ i < objs.length ∧ objs'[k]? = some q ∧ q.live = true ∧ p = renO (backF ids ids.length objs.length) q) ∨
    (∃ (k : Nat) (q : AObj), ids.length ≤ k ∧ i = objs.length + (k - ids.length) ∧ objs'[k]? = some q ∧ q.live = true ∧ p = renO (backF ids ids.length objs.length) q) := by
  rw [mergeO_eq, List.getElem?_append, updO_length] at h
  split at h
  · rename_i hlt
    rw [updO_get] at h
    obtain ⟨o, ho, hm⟩ := Option.map_eq_some_iff.1 h
    simp only [Nat.zero_add] at hm
    split at hm
    · rename_i k hk
      refine .inr (.inl ⟨k, objs'.getD k .dead, idx_get hk, hlt, ?_, ?_, hm.symm⟩)
      · subst hm
        rw [renO_live, List.getD_eq_getElem?_getD] at hp
        rw [List.getD_eq_getElem?_getD]
        cases hq : objs'[k]? with
        | none => rw [hq] at hp; simp [AObj.live] at hp
        | some q => rfl
      · subst hm; rw [renO_live] at hp; exact hp
    · rename_i hk
      subst hm
      exact .inl ⟨hlt, idx_none hk, ho⟩
  · rename_i hge
    rw [List.getElem?_map] at h
    obtain ⟨q, hq, rfl⟩ := Option.map_eq_some_iff.1 h
    rw [List.getElem?_drop] at hq
    rw [renO_live] at hp
    exact .inr (.inr ⟨ids.length + (i - objs.length), q, by omega, by omega, hq, hp, rfl⟩)

def mergeι (ι ιc' : Inj) (base m n : Nat) : Inj := fun i => if i < base then ι i else if i - base < n - m then ιc' (m + (i - base)) else none

theorem Rel.merge (h : Rel E G ι objs w) (hn : nodup ids = true) (hl : ∀ i ∈ ids, ∃ o, objs[i]? = some o ∧ o.live = true) (hc : Rel E G' ιc' objs' w')
    (he : Ext (LiveB (pickι ι ids) (pickO objs ids)) G (pickι ι ids) w G' ιc' objs' w') :
    Rel E G' (mergeι ι ιc' objs.length ids.length objs'.length) (mergeO objs ids objs') w' ∧
    Ext (LiveB ι objs) G ι w G' (mergeι ι ιc' objs.length ids.length objs'.length) (mergeO objs ids objs') w' ∧
    Carries (backF ids ids.length objs.length) ιc' (mergeι ι ιc' objs.length ids.length objs'.length) := by
  have hids : ∀ (k i : Nat), ids[k]? = some i → ∃ e o, objs[i]? = some o ∧ o.live = true ∧ ι i = some e ∧ ιc' k = some e ∧ i < objs.length := fun k i hk => by
    obtain ⟨o, ho, hol⟩ := hl i (List.mem_of_getElem? hk)
    obtain ⟨B, C, g1, _, _, _⟩ := h.obj i o ho hol
    refine ⟨(B, C), o, ho, hol, g1, he.ile k (B, C) (by simp [pickι, hk, g1]), ?_⟩
    rcases Nat.lt_or_ge i objs.length with h' | h'
    · exact h'
    · simp [List.getElem?_eq_none h'] at ho
  have hLc : ∀ b, LiveB (pickι ι ids) (pickO objs ids) b → ∃ k i C, ids[k]? = some i ∧ ι i = some (b, C) ∧ LiveB ι objs b := fun b ⟨k, p, C, h1, h2, h3⟩ => by
    obtain ⟨i, o, g1, g2, g3, rfl⟩ := pickO_get h1 h2
    have e : ι i = some (b, C) := by simpa [pickι, g1] using h3
    exact ⟨k, i, C, g1, e, i, o, C, g2, g3, e⟩
  have hcarry : Carries (backF ids ids.length objs.length) ιc' (mergeι ι ιc' objs.length ids.length objs'.length) := fun k j e hk hι => by
    unfold backF at hk
    cases hd : decide (k < ids.length)
    · simp only [hd, cond_false, Option.some.injEq] at hk
      have hge : ids.length ≤ k := by simpa using hd
      subst hk
      have hlt : k < objs'.length := by
        rcases Nat.lt_or_ge k objs'.length with h' | h'
        · exact h'
        · rw [hc.fresh k h'] at hι; cases hι
      unfold mergeι
      rw [if_neg (by omega), if_pos (by omega), show ids.length + (objs.length + (k - ids.length) - objs.length) = k by omega]
      exact hι
    · simp only [hd, cond_true] at hk
      obtain ⟨e', o, _, _, g1, g2, g3⟩ := hids k j hk
      rw [g2] at hι
      unfold mergeι
      rw [if_pos g3, g1]; exact hι
  -- an object that was not handed over stays as it was
  have hstay : ∀ (i : Nat) (o : AObj), i < objs.length → i ∉ ids → objs[i]? = some o → o.live = true → ∃ B C, ι i = some (B, C) ∧ E.nb ≤ B ∧ B < w.heap.size ∧ w'.heap[B]? = w.heap[B]? ∧ (∀ x, G' B x = G B x) ∧
      ¬ LiveB (pickι ι ids) (pickO objs ids) B ∧ ORel G ι w B C o := fun i o hi hni ho hol => by
    obtain ⟨B, C, g1, g2, g3, g4⟩ := h.obj i o ho hol
    have hnL : ¬ LiveB (pickι ι ids) (pickO objs ids) B := fun hL => by
      obtain ⟨k, i', C', f1, f2, _⟩ := hLc B hL
      obtain ⟨o', ho', hol'⟩ := hl i' (List.mem_of_getElem? f1)
      have := h.inj i i' o o' B C C' ho hol ho' hol' g1 f2
      subst this
      exact hni (List.mem_of_getElem? f1)
    exact ⟨B, C, g1, g2, g3, he.keep B g3 hnL, he.gold B g3 hnL, hnL, g4⟩
  have hι : ∀ i, i < objs.length → mergeι ι ιc' objs.length ids.length objs'.length i = ι i := fun i hi => by unfold mergeι; rw [if_pos hi]
  have hnew : ∀ k, ids.length ≤ k → k < objs'.length → mergeι ι ιc' objs.length ids.length objs'.length (objs.length + (k - ids.length)) = ιc' k := fun k h1 h2 => by
    unfold mergeι
    rw [if_neg (by omega), if_pos (by omega), show ids.length + (objs.length + (k - ids.length) - objs.length) = k by omega]
  have hle : ι.le (mergeι ι ιc' objs.length ids.length objs'.length) := fun i e hi => by
    rcases Nat.lt_or_ge i objs.length with h' | h'
    · rw [hι i h']; exact hi
    · rw [h.fresh i h'] at hi; cases hi
  -- where a live one is
  have hwhere : ∀ (i : Nat) (p : AObj) (B C : Nat), (mergeO objs ids objs')[i]? = some p → p.live = true → mergeι ι ιc' objs.length ids.length objs'.length i = some (B, C) →
      (i < objs.length ∧ i ∉ ids ∧ objs[i]? = some p ∧ ι i = some (B, C)) ∨
      (∃ (k : Nat) (q : AObj), objs'[k]? = some q ∧ q.live = true ∧ ιc' k = some (B, C) ∧ (ids[k]? = some i ∨ (ids.length ≤ k ∧ i = objs.length + (k - ids.length)))) := fun i p B C hi hp e => by
    rcases mergeO_get hi hp with ⟨h1, h2, h3⟩ | ⟨k, q, h1, h2, h3, h4, _⟩ | ⟨k, q, h1, h2, h3, h4, _⟩
    · rw [hι i h1] at e; exact .inl ⟨h1, h2, h3, e⟩
    · obtain ⟨e', o, _, _, g1, g2, _⟩ := hids k i h1
      rw [hι i h2, g1] at e
      exact .inr ⟨k, q, h3, h4, by rw [g2, e], .inl h1⟩
    · have hlt : k < objs'.length := by
        rcases Nat.lt_or_ge k objs'.length with h' | h'
        · exact h'
        · simp [List.getElem?_eq_none h'] at h3
      subst h2
      rw [hnew k h1 hlt] at e
      exact .inr ⟨k, q, h3, h4, e, .inr ⟨h1, rfl⟩⟩
  refine ⟨⟨hc.stays, fun i p hi hp => ?_, fun i j p q B C D hi hp hj hq e1 e2 => ?_, fun i hi => ?_, hc.glob, hc.size⟩,
    ⟨he.os, he.tape, he.output, he.size, fun b hb hL => he.keep b hb fun hl' => hL ((hLc b hl').elim fun _ ⟨_, _, _, _, x⟩ => x), he.gle,
      fun b hb hL => he.gold b hb fun hl' => hL ((hLc b hl').elim fun _ ⟨_, _, _, _, x⟩ => x), hle, ?_⟩, hcarry⟩
  · rcases mergeO_get hi hp with ⟨h1, h2, h3⟩ | ⟨k, q, h1, h2, h3, h4, rfl⟩ | ⟨k, q, h1, h2, h3, h4, rfl⟩
    · obtain ⟨B, C, g1, g2, g3, g4, g5, g6, g7⟩ := hstay i p h1 h2 h3 hp
      refine ⟨B, C, by rw [hι i h1]; exact g1, g2, Nat.lt_of_lt_of_le g3 he.size, ?_⟩
      cases p with
      | cells flat cs =>
        obtain ⟨⟨c, e, lo, hi1, f1, f2, f3, f4⟩, f5⟩ := g7
        refine ⟨⟨c, e, lo, hi1, by rw [g4]; exact f1, f2, f3, ?_⟩, fun o => by rw [g5]; exact f5 o⟩
        cases flat
        · exact LRel.mono (by simpa using f4) he.gle hle
        · simpa using LRel.mono (by simpa using f4) he.gle (Inj.le_refl _)
      | map flat es =>
        obtain ⟨ents, clock, f1, f2, f3⟩ := g7
        refine ⟨ents, clock, by rw [g4]; exact f1, f2, fun i e x he' hx => ?_⟩
        have := f3 i e x he' hx
        cases flat
        · exact ⟨this.1.mono he.gle hle, this.2.mono he.gle hle⟩
        · exact ⟨this.1.mono he.gle (Inj.le_refl _), this.2.mono he.gle (Inj.le_refl _)⟩
      | iter s pos => simp only [ORel] at g7 ⊢; rw [g4]; exact g7
      | dead => trivial
    · obtain ⟨B, C, g1, g2, g3, g4⟩ := hc.obj k q h3 h4
      have hk : k < ids.length := by
        rcases Nat.lt_or_ge k ids.length with h' | h'
        · exact h'
        · simp [List.getElem?_eq_none h'] at h1
      have hb : backF ids ids.length objs.length k = some i := by simp [backF, hk, ← h1]
      exact ⟨B, C, hcarry k i _ hb g1, g2, g3, g4.ren hcarry⟩
    · obtain ⟨B, C, g1, g2, g3, g4⟩ := hc.obj k q h3 h4
      have hb : backF ids ids.length objs.length k = some i := by
        have hk : ¬ k < ids.length := by omega
        simp [backF, hk, h2]
      exact ⟨B, C, hcarry k i _ hb g1, g2, g3, g4.ren hcarry⟩
  · rcases hwhere i p B C hi hp e1 with ⟨a1, a2, a3, a4⟩ | ⟨k, q1, a1, a2, a3, a4⟩ <;> rcases hwhere j q B D hj hq e2 with ⟨b1, b2, b3, b4⟩ | ⟨l, q2, b1, b2, b3, b4⟩
    · exact h.inj i j p q B C D a3 hp b3 hq a4 b4
    · exfalso
      obtain ⟨B', C', g1, g2, g3, g4, g5, g6, g7⟩ := hstay i p a1 a2 a3 hp
      rw [a4] at g1; cases g1
      exact g6 (he.lv B g3 ⟨l, q2, D, b1, b2, b3⟩)
    · exfalso
      obtain ⟨B', C', g1, g2, g3, g4, g5, g6, g7⟩ := hstay j q b1 b2 b3 hq
      rw [b4] at g1; cases g1
      exact g6 (he.lv B g3 ⟨k, q1, C, a1, a2, a3⟩)
    · have := hc.inj k l q1 q2 B C D a1 a2 b1 b2 a3 b3
      subst this
      rcases a4 with x | ⟨x1, x2⟩ <;> rcases b4 with y | ⟨y1, y2⟩
      · rw [x] at y; exact Option.some.inj y
      · simp [List.getElem?_eq_none y1] at x
      · simp [List.getElem?_eq_none x1] at y
      · rw [x2, y2]
  · have hlen : (mergeO objs ids objs').length = objs.length + (objs'.length - ids.length) := by rw [mergeO_eq]; simp [updO_length]
    rw [hlen] at hi
    unfold mergeι
    rw [if_neg (by omega), if_neg (by omega)]
  · rintro b hb ⟨i, p, C, hi, hp, e⟩
    rcases hwhere i p b C hi hp e with ⟨a1, a2, a3, a4⟩ | ⟨k, q, a1, a2, a3, _⟩
    · exact ⟨i, p, C, a3, hp, a4⟩
    · exact (hLc b (he.lv b hb ⟨k, q, C, a1, a2, a3⟩)).elim fun _ ⟨_, _, _, _, x⟩ => x
end
end Go.Ab
