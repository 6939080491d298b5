/- The abstract machine, part 14: objects renumbered, given up, sealed. No condition. -/
import Derived.Test.YtnalegahabfglaaDoorAbQuietToAbAppend2
set_option linter.all false
set_option linter.unusedVariables false
set_option linter.unusedSimpArgs false
namespace Go.Ab
open Go

mutual
def ren (f : Nat → Option Nat) : AV → AV
  | .agg cs => .agg (renL f cs)
  | .tup cs => .tup (renL f cs)
  | .ptr i off => match f i with
    | some j => .ptr j off
    | none => .undef
  | .sref i off len sz => match f i with
    | some j => .sref j off len sz
    | none => .undef
  | .map i => match f i with
    | some j => .map j
    | none => .undef
  | .fn g xs ys => .fn g (renL f xs) (renL f ys)
  | .iface t v => .iface t (ren f v)
  | v => v
def renL (f : Nat → Option Nat) : List AV → List AV
  | [] => []
  | a :: as => ren f a :: renL f as
end
theorem renL_eq (f : Nat → Option Nat) : ∀ (as : List AV), renL f as = as.map (ren f)
  | [] => rfl
  | a :: as => by simp only [renL, List.map_cons, renL_eq f as]

def renO (f : Nat → Option Nat) : AObj → AObj
  | .cells true cs => .cells true cs
  | .cells false cs => .cells false (renL f cs)
  | .map true es => .map true es
  | .map false es => .map false (es.map fun e => (ren f e.1, ren f e.2))
  | o => o
theorem renO_live (f : Nat → Option Nat) (o : AObj) : (renO f o).live = o.live := by
  unfold renO; split <;> rfl

/-- Renamed numbers stand for the same blocks. -/
def Carries (f : Nat → Option Nat) (ι ι' : Inj) : Prop := ∀ i j e, f i = some j → ι i = some e → ι' j = some e

theorem ren_rel {G : Gh} {ι ι' : Inj} {f : Nat → Option Nat} (hf : Carries f ι ι') {a : AV} {v : Value} (h : VRel G ι a v) : VRel G ι' (ren f a) v := by
  induction h generalizing ι' f with
  | agg hl _ ih =>
    simp only [ren, renL_eq]
    refine .agg (by simpa using hl) fun i a v h1 h2 => ?_
    rw [List.getElem?_map] at h1
    obtain ⟨b, hb, rfl⟩ := Option.map_eq_some_iff.1 h1
    exact ih i b v hb h2 hf
  | tup hl _ ih =>
    simp only [ren, renL_eq]
    refine .tup (by simpa using hl) fun i a v h1 h2 => ?_
    rw [List.getElem?_map] at h1
    obtain ⟨b, hb, rfl⟩ := Option.map_eq_some_iff.1 h1
    exact ih i b v hb h2 hf
  | fn hx _ hy _ ih1 ih2 =>
    simp only [ren, renL_eq]
    refine .fn (by simpa using hx) (fun i a v h1 h2 => ?_) (by simpa using hy) (fun i a v h1 h2 => ?_)
    · rw [List.getElem?_map] at h1
      obtain ⟨b, hb, rfl⟩ := Option.map_eq_some_iff.1 h1
      exact ih1 i b v hb h2 hf
    · rw [List.getElem?_map] at h1
      obtain ⟨b, hb, rfl⟩ := Option.map_eq_some_iff.1 h1
      exact ih2 i b v hb h2 hf
  | iface t _ ih => simp only [ren]; exact .iface t (ih hf)
  | ptr h =>
    simp only [ren]
    split
    · rename_i j hj; exact .ptr (hf _ _ _ hj h)
    · exact .undef _
  | sref h hc hl =>
    simp only [ren]
    split
    · rename_i j hj; exact .sref (hf _ _ _ hj h) hc hl
    · exact .undef _
  | map h =>
    simp only [ren]
    split
    · rename_i j hj; exact .map (hf _ _ _ hj h)
    · exact .undef _
  | cptr vf hg h _ => simp only [ren]; exact .cptr vf hg h
  | sval vf hg h hf' hl _ => simp only [ren]; exact .sval vf hg h hf' hl
  | _ => simp only [ren]; constructor

theorem LRel.ren {G : Gh} {ι ι' : Inj} {f : Nat → Option Nat} (hf : Carries f ι ι') {as : List AV} {vs : List Value} (h : LRel G ι as vs) : LRel G ι' (renL f as) vs := by
  rw [renL_eq]
  refine ⟨by simpa using h.1, fun i a v h1 h2 => ?_⟩
  rw [List.getElem?_map] at h1
  obtain ⟨b, hb, rfl⟩ := Option.map_eq_some_iff.1 h1
  exact ren_rel hf (h.2 i b v hb h2)

theorem ORel.ren {G : Gh} {ι ι' : Inj} {w : World} {B C : Nat} {f : Nat → Option Nat} (hf : Carries f ι ι') {o : AObj} (h : ORel G ι w B C o) : ORel G ι' w B C (renO f o) := by
  cases o with
  | cells flat cs =>
    obtain ⟨⟨c, e, lo, hi1, h1, h2, h3, h4⟩, h5⟩ := h
    cases flat
    · simp only [renO]
      refine ⟨⟨c, e, lo, hi1, h1, h2, h3, ?_⟩, h5⟩
      have : (renL f cs).length = cs.length := by rw [renL_eq]; simp
      rw [this]
      simpa using LRel.ren hf (by simpa using h4)
    · exact ⟨⟨c, e, lo, hi1, h1, h2, h3, h4⟩, h5⟩
  | map flat es =>
    obtain ⟨ents, clock, h1, h2, h3⟩ := h
    cases flat
    · refine ⟨ents, clock, h1, by simpa using h2, fun i e x he hx => ?_⟩
      rw [List.getElem?_map] at he
      obtain ⟨b, hb, rfl⟩ := Option.map_eq_some_iff.1 he
      exact ⟨ren_rel hf (h3 i b x hb hx).1, ren_rel hf (h3 i b x hb hx).2⟩
    · exact ⟨ents, clock, h1, h2, h3⟩
  | iter s pos => exact h
  | dead => trivial

/-- The place of a number in a list. -/
def idx (l : List Nat) (i : Nat) : Option Nat :=
  match l with
  | [] => none
  | j :: r => bif i == j then some 0 else (idx r i).map (· + 1)
theorem idx_get : ∀ {l : List Nat} {i k : Nat}, idx l i = some k → l[k]? = some i
  | [], _, _, h => by simp [idx] at h
  | j :: r, i, k, h => by
    simp only [idx] at h
    cases hb : i == j
    · simp only [hb, cond_false, Option.map_eq_some_iff] at h
      obtain ⟨k', hk, rfl⟩ := h
      simpa using idx_get hk
    · simp only [hb, cond_true, Option.some.injEq] at h
      subst h
      simp at hb; simp [hb]

def nodup : List Nat → Bool
  | [] => true
  | i :: r => !(r.contains i) && nodup r
theorem nodup_get : ∀ {l : List Nat}, nodup l = true → ∀ {j k i : Nat}, l[j]? = some i → l[k]? = some i → j = k
  | [], _, _, _, _, h, _ => by simp at h
  | a :: r, h, j, k, i, h1, h2 => by
    simp only [nodup, Bool.and_eq_true, Bool.not_eq_true', List.contains_eq_mem] at h
    have hn : a ∉ r := by simpa using h.1
    cases j with
    | zero =>
      cases k with
      | zero => rfl
      | succ k => simp at h1 h2; subst h1; exact absurd (List.mem_of_getElem? h2) hn
    | succ j =>
      cases k with
      | zero => simp at h1 h2; subst h2; exact absurd (List.mem_of_getElem? h1) hn
      | succ k => simp at h1 h2; rw [nodup_get h.2 h1 h2]

/-- The objects of some numbers, in that order, renamed. -/
def pickO (objs : List AObj) (keep : List Nat) : List AObj := keep.map fun i => renO (idx keep) (objs.getD i .dead)
def pickι (ι : Inj) (keep : List Nat) : Inj := fun k => (keep[k]?).bind ι

theorem pick_carries (ι : Inj) (keep : List Nat) : Carries (idx keep) ι (pickι ι keep) := fun i j e h1 h2 => by
  simp [pickι, idx_get h1, h2]

section
variable {E : Env} {G : Gh} {ι : Inj} {objs : List AObj} {w : World}

theorem pickO_get {keep : List Nat} {k : Nat} {p : AObj} (hk : (pickO objs keep)[k]? = some p) (hp : p.live = true) :
    ∃ i o, keep[k]? = some i ∧ objs[i]? = some o ∧ o.live = true ∧ p = renO (idx keep) o := by
  unfold pickO at hk
  rw [List.getElem?_map] at hk
  obtain ⟨i, hi, rfl⟩ := Option.map_eq_some_iff.1 hk
  rw [renO_live] at hp
  rw [List.getD_eq_getElem?_getD] at hp ⊢
  cases ho : objs[i]? with
  | none => rw [ho] at hp; simp [AObj.live] at hp
  | some o => rw [ho] at hp; exact ⟨i, o, hi, ho, hp, rfl⟩

theorem Rel.pick (h : Rel E G ι objs w) {keep : List Nat} (hn : nodup keep = true) : Rel E G (pickι ι keep) (pickO objs keep) w where
  stays := h.stays
  obj := fun k p hk hp => by
    obtain ⟨i, o, h1, h2, h3, rfl⟩ := pickO_get hk hp
    obtain ⟨B, C, g1, g2, g3, g4⟩ := h.obj i o h2 h3
    exact ⟨B, C, by simp [pickι, h1, g1], g2, g3, g4.ren (pick_carries ι keep)⟩
  inj := fun j k p q B C D hj hp hk hq e1 e2 => by
    obtain ⟨i, o, h1, h2, h3, rfl⟩ := pickO_get hj hp
    obtain ⟨i', o', h1', h2', h3', rfl⟩ := pickO_get hk hq
    simp [pickι, h1] at e1
    simp [pickι, h1'] at e2
    have := h.inj i i' o o' B C D h2 h3 h2' h3' e1 e2
    subst this
    exact nodup_get hn h1 h1'
  fresh := fun k hk => by
    have : keep[k]? = none := by simp [pickO] at hk; simp [hk]
    simp [pickι, this]
  glob := h.glob
  size := h.size

/-- The turn of the world since the entry, seen by the picked objects: the entry's own come first, in their order. -/
theorem Ext.pick {L : Nat → Prop} {G0 : Gh} {ι0 : Inj} {w0 : World} (h : Ext L G0 ι0 w0 G ι objs w) {keep : List Nat} {m : Nat} (hm : ∀ i, m ≤ i → ι0 i = none)
    (hk : ∀ i, i < m → keep[i]? = some i) : Ext L G0 ι0 w0 G (pickι ι keep) (pickO objs keep) w where
  os := h.os
  tape := h.tape
  output := h.output
  size := h.size
  keep := h.keep
  gle := h.gle
  gold := h.gold
  ile := fun i e hi => by
    rcases Nat.lt_or_ge i m with hlt | hge
    · simp [pickι, hk i hlt, h.ile i e hi]
    · rw [hm i hge] at hi; cases hi
  lv := fun b hb hl => by
    obtain ⟨k, p, C, h1, h2, h3⟩ := hl
    obtain ⟨i, o, g1, g2, g3, rfl⟩ := pickO_get h1 h2
    exact h.lv b hb ⟨i, o, C, g2, g3, by simpa [pickι, g1] using h3⟩
end
end Go.Ab
