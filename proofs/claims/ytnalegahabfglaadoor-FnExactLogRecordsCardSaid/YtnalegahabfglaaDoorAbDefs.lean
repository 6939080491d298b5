/- The abstract machine, part 1: its values and objects, how they stand for the machine's values and memory, and how that relation lasts. No condition. -/
import Derived.Calls
import Derived.LoopN
import Derived.Below
import Derived.Deep.Quiet
set_option linter.all false
set_option linter.unusedVariables false
set_option linter.unusedSimpArgs false
namespace Go.Ab
open Go

/-- Abstract values. `undef` stands for any value; `cptr`, `sval` point into sealed memory, whose contents they bear. -/
inductive AV where
  | undef
  | int (k : IntKind) (n : Int)
  | bool (b : Bool)
  | str (s : ByteArray)
  | agg (cs : List AV)
  | tup (vs : List AV)
  | ptr (i off : Nat)
  | nilp
  | cptr (cs : List AV) (off : Nat)
  | sref (i off len sz : Nat)
  | sval (cs : List AV) (len : Nat) (full : Bool)
  | nils
  | map (i : Nat)
  | nilm
  | fn (f : Fn) (first cap : List AV)
  | nilf
  | iface (t : TypeId) (v : AV)
  | nili
  deriving Inhabited

inductive AObj where
  | cells (flat : Bool) (cs : List AV)
  | map (flat : Bool) (es : List (AV × AV))
  | iter (s : ByteArray) (pos : Nat)
  | dead
  deriving Inhabited

def AObj.live : AObj → Bool
  | .dead => false
  | _ => true

/-- Sealed cells: their contents last for ever. -/
abbrev Gh := Nat → Nat → Option Value
/-- An object's number, and the block that it is, with the number of that block's cells. -/
abbrev Inj := Nat → Option (Nat × Nat)
def noInj : Inj := fun _ => none

inductive VRel (G : Gh) : Inj → AV → Value → Prop
  | undef {ι} (v : Value) : VRel G ι .undef v
  | int {ι} (k : IntKind) (n : Int) : VRel G ι (.int k n) (.int k n)
  | bool {ι} (b : Bool) : VRel G ι (.bool b) (.bool b)
  | str {ι} (s : ByteArray) : VRel G ι (.str s) (.string s)
  | agg {ι} {cs : List AV} {vs : Array Value} (hl : cs.length = vs.size)
      (h : ∀ (i : Nat) (a : AV) (v : Value), cs[i]? = some a → vs[i]? = some v → VRel G ι a v) : VRel G ι (.agg cs) (.agg vs)
  | tup {ι} {cs : List AV} {vs : Array Value} (hl : cs.length = vs.size)
      (h : ∀ (i : Nat) (a : AV) (v : Value), cs[i]? = some a → vs[i]? = some v → VRel G ι a v) : VRel G ι (.tup cs) (.tuple vs)
  | ptr {ι : Inj} {i off B C : Nat} (h : ι i = some (B, C)) : VRel G ι (.ptr i off) (.pointer (some ⟨B, off, none⟩))
  | nilp {ι} : VRel G ι .nilp (.pointer none)
  | cptr {ι} {cs : List AV} {B o off : Nat} (vf : Nat → Value) (hg : ∀ j, j < cs.length → G B (o + j) = some (vf j))
      (h : ∀ (j : Nat) (a : AV), cs[j]? = some a → VRel G noInj a (vf j)) : VRel G ι (.cptr cs off) (.pointer (some ⟨B, o + off, none⟩))
  | sref {ι : Inj} {i off len sz cap B C : Nat} (h : ι i = some (B, C)) (hc : off + cap * sz ≤ C) (hl : len ≤ cap) :
      VRel G ι (.sref i off len sz) (.slice (some ⟨B, off, none⟩) len cap)
  | sval {ι} {cs : List AV} {len : Nat} {full : Bool} {B off cap : Nat} (vf : Nat → Value) (hg : ∀ j, j < cs.length → G B (off + j) = some (vf j))
      (h : ∀ (j : Nat) (a : AV), cs[j]? = some a → VRel G noInj a (vf j)) (hf : full = true → cap = len) (hl : len ≤ cap) :
      VRel G ι (.sval cs len full) (.slice (some ⟨B, off, none⟩) len cap)
  | svalNil {ι} {full : Bool} : VRel G ι (.sval [] 0 full) (.slice none 0 0)
  | nils {ι} : VRel G ι .nils (.slice none 0 0)
  | map {ι : Inj} {i r C : Nat} (h : ι i = some (r, C)) : VRel G ι (.map i) (.map (some r))
  | nilm {ι} : VRel G ι .nilm (.map none)
  | fn {ι} {f : Fn} {xs ys : List AV} {us vs : Array Value} (hx : xs.length = us.size)
      (h1 : ∀ (i : Nat) (a : AV) (v : Value), xs[i]? = some a → us[i]? = some v → VRel G ι a v) (hy : ys.length = vs.size)
      (h2 : ∀ (i : Nat) (a : AV) (v : Value), ys[i]? = some a → vs[i]? = some v → VRel G ι a v) : VRel G ι (.fn f xs ys) (.func f us vs)
  | nilf {ι} : VRel G ι .nilf .nilFunc
  | iface {ι} (t : TypeId) {a : AV} {v : Value} (h : VRel G ι a v) : VRel G ι (.iface t a) (.iface t v)
  | nili {ι} : VRel G ι .nili .nilIface

def Gh.le (G G' : Gh) : Prop := ∀ b o v, G b o = some v → G' b o = some v
def Inj.le (ι ι' : Inj) : Prop := ∀ i e, ι i = some e → ι' i = some e
theorem Gh.le_refl (G : Gh) : G.le G := fun _ _ _ h => h
theorem Inj.le_refl (ι : Inj) : ι.le ι := fun _ _ h => h
theorem Gh.le_trans {G G' G'' : Gh} (h : G.le G') (h' : G'.le G'') : G.le G'' := fun b o v e => h' b o v (h b o v e)
theorem Inj.le_trans {ι ι' ι'' : Inj} (h : ι.le ι') (h' : ι'.le ι'') : ι.le ι'' := fun i e he => h' i e (h i e he)
theorem noInj_le (ι : Inj) : noInj.le ι := fun _ _ h => by cases h

theorem VRel.mono {G G' : Gh} {ι : Inj} {a : AV} {v : Value} (h : VRel G ι a v) (hG : G.le G') : ∀ {ι' : Inj}, ι.le ι' → VRel G' ι' a v := by
  induction h with
  | undef v => intro ι' _; exact .undef v
  | int k n => intro ι' _; exact .int k n
  | bool b => intro ι' _; exact .bool b
  | str s => intro ι' _; exact .str s
  | agg hl _ ih => intro ι' hi; exact .agg hl fun i a v h1 h2 => ih i a v h1 h2 hi
  | tup hl _ ih => intro ι' hi; exact .tup hl fun i a v h1 h2 => ih i a v h1 h2 hi
  | ptr h => intro ι' hi; exact .ptr (hi _ _ h)
  | nilp => intro ι' _; exact .nilp
  | cptr vf hg _ ih => intro ι' _; exact .cptr vf (fun j hj => hG _ _ _ (hg j hj)) fun j a hj => ih j a hj (Inj.le_refl _)
  | sref h hc hl => intro ι' hi; exact .sref (hi _ _ h) hc hl
  | sval vf hg _ hf hl ih => intro ι' _; exact .sval vf (fun j hj => hG _ _ _ (hg j hj)) (fun j a hj => ih j a hj (Inj.le_refl _)) hf hl
  | svalNil => intro ι' _; exact .svalNil
  | nils => intro ι' _; exact .nils
  | map h => intro ι' hi; exact .map (hi _ _ h)
  | nilm => intro ι' _; exact .nilm
  | fn hx _ hy _ ih1 ih2 => intro ι' hi; exact .fn hx (fun i a v h1 h2 => ih1 i a v h1 h2 hi) hy (fun i a v h1 h2 => ih2 i a v h1 h2 hi)
  | nilf => intro ι' _; exact .nilf
  | iface t _ ih => intro ι' hi; exact .iface t (ih hi)
  | nili => intro ι' _; exact .nili

theorem VRel.monoι {G : Gh} {ι ι' : Inj} {a : AV} {v : Value} (h : VRel G ι a v) (hi : ι.le ι') : VRel G ι' a v := h.mono (Gh.le_refl G) hi
theorem VRel.closed {G : Gh} {ι : Inj} {a : AV} {v : Value} (h : VRel G noInj a v) : VRel G ι a v := h.monoι (noInj_le ι)

/-- Lists of values, one for one. -/
def LRel (G : Gh) (ι : Inj) (as : List AV) (vs : List Value) : Prop :=
  as.length = vs.length ∧ ∀ (i : Nat) (a : AV) (v : Value), as[i]? = some a → vs[i]? = some v → VRel G ι a v

theorem LRel.nil {G ι} : LRel G ι [] [] := ⟨rfl, fun i a v h => by simp at h⟩
theorem LRel.cons {G ι a v as vs} (h : VRel G ι a v) (hs : LRel G ι as vs) : LRel G ι (a :: as) (v :: vs) := by
  refine ⟨by simp [hs.1], fun i b u h1 h2 => ?_⟩
  cases i with
  | zero => simp at h1 h2; subst h1 h2; exact h
  | succ i => simp at h1 h2; exact hs.2 i b u h1 h2
theorem LRel.mono {G G' ι ι' as vs} (h : LRel G ι as vs) (hG : Gh.le G G') (hi : Inj.le ι ι') : LRel G' ι' as vs :=
  ⟨h.1, fun i a v h1 h2 => (h.2 i a v h1 h2).mono hG hi⟩
theorem LRel.append {G ι as vs bs us} (h : LRel G ι as vs) (h' : LRel G ι bs us) : LRel G ι (as ++ bs) (vs ++ us) := by
  refine ⟨by simp [h.1, h'.1], fun i a v h1 h2 => ?_⟩
  rw [List.getElem?_append] at h1 h2
  rw [← h.1] at h2
  split at h1
  · rename_i hlt; simp only [hlt, if_true] at h2; exact h.2 i a v h1 h2
  · rename_i hlt; simp only [hlt, if_false] at h2; exact h'.2 _ a v h1 h2
theorem LRel.take {G ι as vs} (h : LRel G ι as vs) (n : Nat) : LRel G ι (as.take n) (vs.take n) := by
  refine ⟨by simp [h.1], fun i a v h1 h2 => ?_⟩
  rw [List.getElem?_take] at h1 h2
  split at h1
  · rename_i hlt; simp only [hlt, if_true] at h2; exact h.2 i a v h1 h2
  · simp at h1
theorem LRel.drop {G ι as vs} (h : LRel G ι as vs) (n : Nat) : LRel G ι (as.drop n) (vs.drop n) := by
  refine ⟨by simp [h.1], fun i a v h1 h2 => ?_⟩
  rw [List.getElem?_drop] at h1 h2
  exact h.2 _ a v h1 h2
theorem LRel.get {G ι as vs} (h : LRel G ι as vs) {i : Nat} {a : AV} (ha : as[i]? = some a) : ∃ v, vs[i]? = some v ∧ VRel G ι a v := by
  have hi : i < as.length := by
    rcases Nat.lt_or_ge i as.length with h' | h'
    · exact h'
    · simp [List.getElem?_eq_none h'] at ha
  have hv : vs[i]? = some (vs[i]'(h.1 ▸ hi)) := List.getElem?_eq_getElem _
  exact ⟨_, hv, h.2 i a _ ha hv⟩
theorem LRel.set {G ι as vs} (h : LRel G ι as vs) (n : Nat) {a : AV} {v : Value} (hav : VRel G ι a v) : LRel G ι (as.set n a) (vs.set n v) := by
  refine ⟨by simp [h.1], fun i b u h1 h2 => ?_⟩
  rw [List.getElem?_set] at h1 h2
  split at h1
  · rename_i hn
    simp only [hn, if_true] at h2
    split at h1
    · simp at h1; subst h1
      split at h2
      · simp at h2; subst h2; exact hav
      · simp at h2
    · simp at h1
  · rename_i hn; simp only [hn, if_false] at h2; exact h.2 i b u h1 h2

theorem VRel.aggL {G ι cs} {vs : Array Value} (h : LRel G ι cs vs.toList) : VRel G ι (.agg cs) (.agg vs) :=
  .agg (by simpa using h.1) fun i a v h1 h2 => h.2 i a v h1 (by simpa using h2)
theorem VRel.tupL {G ι cs} {vs : Array Value} (h : LRel G ι cs vs.toList) : VRel G ι (.tup cs) (.tuple vs) :=
  .tup (by simpa using h.1) fun i a v h1 h2 => h.2 i a v h1 (by simpa using h2)
theorem VRel.agg_inv {G ι cs v} (h : VRel G ι (.agg cs) v) : ∃ vs : Array Value, v = .agg vs ∧ LRel G ι cs vs.toList := by
  cases h with
  | agg hl h => exact ⟨_, rfl, by simpa using hl, fun i a v h1 h2 => h i a v h1 (by simpa using h2)⟩
theorem VRel.tup_inv {G ι cs v} (h : VRel G ι (.tup cs) v) : ∃ vs : Array Value, v = .tuple vs ∧ LRel G ι cs vs.toList := by
  cases h with
  | tup hl h => exact ⟨_, rfl, by simpa using hl, fun i a v h1 h2 => h i a v h1 (by simpa using h2)⟩
theorem VRel.int_inv {G ι k n v} (h : VRel G ι (.int k n) v) : v = .int k n := by cases h; rfl
theorem VRel.bool_inv {G ι b v} (h : VRel G ι (.bool b) v) : v = .bool b := by cases h; rfl
theorem VRel.str_inv {G ι s v} (h : VRel G ι (.str s) v) : v = .string s := by cases h; rfl

/-! ### Worlds -/
structure Env where
  P : Program
  nb : Nat
  gl : Nat → Option Obj

def ORel (G : Gh) (ι : Inj) (w : World) (B C : Nat) : AObj → Prop
  | .cells flat cs => (∃ c e lo hi, w.heap[B]? = some (.cells c e (lo, hi)) ∧ c.size = C ∧ (hi ≤ lo ∨ C ≤ lo) ∧
      LRel G (if flat then noInj else ι) cs (c.toList.take cs.length)) ∧ ∀ o, G B o = none
  | .map flat es => ∃ ents clock, w.heap[B]? = some (.map ents clock) ∧ ents.size = es.length ∧
      ∀ (i : Nat) (e : AV × AV) (x : MapEntry), es[i]? = some e → ents[i]? = some x → VRel G (if flat then noInj else ι) e.1 x.key ∧ VRel G (if flat then noInj else ι) e.2 x.val
  | .iter s pos => w.heap[B]? = some (.stringIter s pos)
  | .dead => True

structure Rel (E : Env) (G : Gh) (ι : Inj) (objs : List AObj) (w : World) : Prop where
  stays : ∀ b o v, G b o = some v → w.cell? ⟨b, o, none⟩ = some v
  obj : ∀ (i : Nat) (o : AObj), objs[i]? = some o → o.live = true → ∃ B C, ι i = some (B, C) ∧ E.nb ≤ B ∧ B < w.heap.size ∧ ORel G ι w B C o
  inj : ∀ (i j : Nat) (o p : AObj) (B C D : Nat), objs[i]? = some o → o.live = true → objs[j]? = some p → p.live = true →
    ι i = some (B, C) → ι j = some (B, D) → i = j
  fresh : ∀ i, objs.length ≤ i → ι i = none
  glob : ∀ b, b < E.nb → w.heap[b]? = E.gl b
  size : E.nb ≤ w.heap.size

/-- The blocks of the live objects. -/
def LiveB (ι : Inj) (objs : List AObj) (b : Nat) : Prop := ∃ (i : Nat) (o : AObj) (C : Nat), objs[i]? = some o ∧ o.live = true ∧ ι i = some (b, C)

/-- How the world may turn, from a start whose blocks `L` may be written. -/
structure Ext (L : Nat → Prop) (G : Gh) (ι : Inj) (w : World) (G' : Gh) (ι' : Inj) (objs' : List AObj) (w' : World) : Prop where
  os : w'.os = w.os
  tape : w'.tape = w.tape
  output : w'.output = w.output
  size : w.heap.size ≤ w'.heap.size
  keep : ∀ b, b < w.heap.size → ¬ L b → w'.heap[b]? = w.heap[b]?
  gle : G.le G'
  gold : ∀ b, b < w.heap.size → ¬ L b → ∀ o, G' b o = G b o
  ile : ι.le ι'
  lv : ∀ b, b < w.heap.size → LiveB ι' objs' b → L b

theorem Ext.refl (G : Gh) (ι : Inj) (objs : List AObj) (w : World) : Ext (LiveB ι objs) G ι w G ι objs w :=
  ⟨rfl, rfl, rfl, Nat.le_refl _, fun _ _ _ => rfl, Gh.le_refl _, fun _ _ _ _ => rfl, Inj.le_refl _, fun _ _ h => h⟩

theorem Ext.trans {L : Nat → Prop} {G G1 G2 : Gh} {ι ι1 ι2 : Inj} {o1 o2 : List AObj} {w w1 w2 : World}
    (h : Ext L G ι w G1 ι1 o1 w1) (h' : Ext (LiveB ι1 o1) G1 ι1 w1 G2 ι2 o2 w2) : Ext L G ι w G2 ι2 o2 w2 where
  os := h'.os.trans h.os
  tape := h'.tape.trans h.tape
  output := h'.output.trans h.output
  size := Nat.le_trans h.size h'.size
  keep := fun b hb hL => (h'.keep b (Nat.lt_of_lt_of_le hb h.size) fun hl => hL (h.lv b hb hl)).trans (h.keep b hb hL)
  gle := Gh.le_trans h.gle h'.gle
  gold := fun b hb hL o => (h'.gold b (Nat.lt_of_lt_of_le hb h.size) (fun hl => hL (h.lv b hb hl)) o).trans (h.gold b hb hL o)
  ile := Inj.le_trans h.ile h'.ile
  lv := fun b hb hl => h.lv b hb (h'.lv b (Nat.lt_of_lt_of_le hb h.size) hl)

/-- What a call comes to, in terms of the abstract machine. -/
def Sim (E : Env) (f : FuncId) (args : List AV) (objs : List AObj) (v : AV) (objs' : List AObj) : Prop :=
  ∀ (G : Gh) (ι : Inj) (w : World) (args' : Array Value), Rel E G ι objs w → LRel G ι args args'.toList →
    Calls E.P f args' w fun e w' => ∃ G' ι' v', e = .returned v' ∧ VRel G' ι' v v' ∧ Rel E G' ι' objs' w' ∧ Ext (LiveB ι objs) G ι w G' ι' objs' w'

end Go.Ab
