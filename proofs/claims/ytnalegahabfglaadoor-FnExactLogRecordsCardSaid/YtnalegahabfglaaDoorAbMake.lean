/- The abstract machine: make of slices, bytes of a text. No condition. -/
import Derived.Test.YtnalegahabfglaaDoorAbHeap
import Derived.Test.YtnalegahabfglaaDoorAbConv
import Derived.Laws.MakeOwn
import Derived.Laws.IdiomStrings
set_option linter.all false
set_option linter.unusedVariables false
set_option linter.unusedSimpArgs false
namespace Go.Ab
open Go

def bytesA (s : ByteArray) : List AV := s.data.toList.map fun b => .int .u8 (b.toNat : Int)
theorem bytesA_length (s : ByteArray) : (bytesA s).length = s.size := by
  have : s.data.toList.length = s.size := Array.length_toList
  simp [bytesA, this]
theorem grownCap_ge' {P : Program} (w : World) (n c : Nat) (e : TypeId) : n ≤ grownCap w n c e := grownCap_ge w n c e

section
variable {R : Type}
def makeSliceK (P : Program) (objs : List AObj) (t : TypeId) (l c : AV) (k : AV → List AObj → Option R) : Option R :=
  match P.underlying t, l, c with
  | some (.slice e), .int _ l, .int _ c =>
    match P.info? e with
    | some i =>
      bif i.zero.isSome && decide ((i.zero.getD .nilFunc).cells.size ≠ 0) && closedL (ofConst (i.zero.getD .nilFunc)).cells then
        chk (decide (0 ≤ l) && decide (l ≤ c) && decide ((i.bytes : Int) * c ≤ 281474976710656) && decide (c ≤ 9223372036854775807))
          (k (.sref objs.length 0 l.toNat i.size) (objs ++ [.cells true (zerosL (ofConst (i.zero.getD .nilFunc)).cells (c.toNat * i.size))]))
      else none
    | none => none
  | _, _, _ => none
def bytesK (objs : List AObj) (x : AV) (k : AV → List AObj → Option R) : Option R :=
  match x with
  | .str s => k (.sref objs.length 0 s.size 1) (objs ++ [.cells true (bytesA s)])
  | _ => none
/-- Further operations that make or write memory. -/
def isEff2 (P : Program) : Op → Bool
  | .makeSlice .. => true
  | .convert s d _ => isStrT P s && isBytes P d
  | _ => false
def eff2K (P : Program) (objs : List AObj) (ρ : Operand → AV) (o : Op) (k : AV → List AObj → Option R) : Option R :=
  match o with
  | .makeSlice t l c => makeSliceK P objs t (ρ l) (ρ c) k
  | .convert s d x => bif isStrT P s && isBytes P d then bytesK objs (ρ x) k else none
  | _ => none
end

section
variable {E : Env} {G : Gh} {ι : Inj} {R : Type} {objs : List AObj} {w : World} {k : AV → List AObj → Option R} {r : R}

theorem Rel.addRowF (h : Rel E G ι objs w) (flat : Bool) (cs : List AV) (vs : Array Value) (e : TypeId) (lo hi : Nat) (hf : hi ≤ lo ∨ vs.size ≤ lo) (hl : ∀ ι', ι.le ι' → LRel G (if flat then noInj else ι') cs (vs.toList.take cs.length)) :
    ∃ ι', Rel E G ι' (objs ++ [.cells flat cs]) (w.alloc (.cells vs e (lo, hi))) ∧ Ext (LiveB ι objs) G ι w G ι' (objs ++ [.cells flat cs]) (w.alloc (.cells vs e (lo, hi))) ∧
      ι' objs.length = some (w.heap.size, vs.size) := by
  have hn : ι objs.length = none := h.fresh _ (Nat.le_refl _)
  refine ⟨ι.add objs.length (w.heap.size, vs.size), ?_⟩
  have := h.add (.cells vs e (lo, hi)) (.cells flat cs) vs.size
    ⟨⟨vs, e, lo, hi, heap_alloc_new w _, rfl, hf, hl _ (Inj.add_le hn _)⟩, fun o => h.unsealed_new (Nat.le_refl _) o⟩
  exact ⟨this.1, this.2, Inj.add_self _ _⟩

theorem makeSliceK_ok {t : TypeId} {l c : AV} {l' c' : Value} (h : makeSliceK E.P objs t l c k = some r) (hl : VRel G ι l l') (hc : VRel G ι c c') (hR : Rel E G ι objs w) :
    ∃ u objs', k u objs' = some r ∧ ∃ v' w' ι', (Instr.makeSlice t l' c').run E.P w = .ok v' w' ∧ VRel G ι' u v' ∧ Rel E G ι' objs' w' ∧ Ext (LiveB ι objs) G ι w G ι' objs' w' := by
  unfold makeSliceK at h
  split at h
  · rename_i e kl l kc c ht
    rw [hl.int_inv, hc.int_inv]
    split at h
    · rename_i i hi
      cases hb : (i.zero.isSome && decide ((i.zero.getD .nilFunc).cells.size ≠ 0) && closedL (ofConst (i.zero.getD .nilFunc)).cells)
      · simp only [hb, cond_false] at h; cases h
      · simp only [hb, cond_true] at h
        simp only [Bool.and_eq_true, decide_eq_true_eq] at hb
        obtain ⟨⟨hb1, hb2⟩, hb3⟩ := hb
        obtain ⟨z, hz⟩ := Option.isSome_iff_exists.1 hb1
        rw [hz] at h hb2 hb3
        simp only [Option.getD_some] at h hb2 hb3
        obtain ⟨g1, g2⟩ := chk_some h
        simp only [Bool.and_eq_true, decide_eq_true_eq] at g1
        obtain ⟨⟨⟨g3, g4⟩, g5⟩, g6⟩ := g1
        have hrun := run_make (P := E.P) w t e i z ht hi hz kl kc l c g3 g4 g5 g6
        have hzr : LRel G noInj (zerosL (ofConst z).cells (c.toNat * i.size)) (madeCells z.cells (c.toNat * i.size)).toList := by
          have := zeros_rel (G := G) (ι := noInj) (zero_cells z) hb2 (c.toNat * i.size)
          exact this
        obtain ⟨ι', h1, h2, h3⟩ := hR.addRowF true (zerosL (ofConst z).cells (c.toNat * i.size)) (madeCells z.cells (c.toNat * i.size)) e 0 0 (.inl (Nat.le_refl _)) (fun ι' _ => by
          rw [List.take_of_length_le (by rw [hzr.1]; exact Nat.le_refl _)]
          simpa using hzr)
        refine ⟨_, _, g2, _, _, ι', hrun, .sref h3 ?_ ?_, h1, h2⟩
        · rw [size_madeCells]; omega
        · omega
    · cases h
  · cases h

theorem bytesK_ok {s d : TypeId} {x : AV} {x' : Value} (h : bytesK objs x k = some r) (hs : isStrT E.P s = true) (hd : isBytes E.P d = true) (hx : VRel G ι x x') (hR : Rel E G ι objs w) :
    ∃ u objs', k u objs' = some r ∧ ∃ v' w' ι', (convert s d x').run E.P w = .ok v' w' ∧ VRel G ι' u v' ∧ Rel E G ι' objs' w' ∧ Ext (LiveB ι objs) G ι w G ι' objs' w' := by
  obtain ⟨e, hde, he⟩ : ∃ e, E.P.underlying d = some (.slice e) ∧ E.P.underlying e = some (.int .u8) := by
    unfold isBytes at hd
    split at hd
    · rename_i e he
      refine ⟨e, he, ?_⟩
      unfold isU8 at hd
      split at hd
      · assumption
      · cases hd
    · cases hd
  have hst : E.P.underlying s = some .string := by
    unfold isStrT at hs
    split at hs
    · assumption
    · cases hs
  unfold bytesK at h
  split at h
  · rename_i b
    rw [hx.str_inv]
    have hsz : b.data.toList.length = b.size := Array.length_toList
    have hge := grownCap_ge' (P := E.P) w b.size 0 e
    have hsize : (bytesRow b (grownCap w b.size 0 e)).size = grownCap w b.size 0 e := by
      have : b.data.size = b.size := rfl
      simp only [bytesRow, Array.size_append, Array.size_map, Array.size_replicate, this]; omega
    obtain ⟨ι', h1, h2, h3⟩ := (hR.drew).addRowF true (bytesA b) (bytesRow b (grownCap w b.size 0 e)) e (bytesRow b (grownCap w b.size 0 e)).size ((bytesRow b (grownCap w b.size 0 e)).size + 1) (.inr (Nat.le_refl _)) (fun ι' _ => by
      have e1 : (bytesRow b (grownCap w b.size 0 e)).toList.take (bytesA b).length = b.data.toList.map fun c => Value.int .u8 (c.toNat : Int) := by
        rw [bytesA_length]
        simp only [bytesRow, Array.toList_append, Array.toList_map]
        rw [List.take_append_of_le_length (by simp [hsz]), List.take_of_length_le (by simp [hsz])]
      rw [e1]
      refine ⟨by simp [bytesA], fun i a v h1 h2 => ?_⟩
      simp only [bytesA, List.getElem?_map, Option.map_eq_some_iff] at h1 h2
      obtain ⟨c, hc, rfl⟩ := h1
      obtain ⟨c', hc', rfl⟩ := h2
      rw [hc] at hc'; cases hc'
      exact .int _ _)
    refine ⟨_, _, h, _, _, ι', run_bytes_of_string w s d e b hst hde he, .sref h3 ?_ ?_, h1, h2.drew⟩
    · rw [hsize]; omega
    · exact hge
  · cases h

theorem eff2K_ok {ρ : Operand → AV} {o : Oper} {a : Act} (h : eff2K E.P objs ρ o.op k = some r) (hρ : ∀ x, VRel G ι (ρ x) (a.eval x)) (hR : Rel E G ι objs w) :
    ∃ u objs', k u objs' = some r ∧ EffOk E G ι objs w u objs' ((execOp a.eval o).run E.P w) := by
  unfold eff2K at h
  split at h
  · rename_i t l c ho
    obtain ⟨u, objs', h1, v', w', ι', h2, h3, h4, h5⟩ := makeSliceK_ok h (hρ l) (hρ c) hR
    exact ⟨u, objs', h1, v', w', .value v', ι', by simp [execOp, ho, h2], .inl rfl, h3, h4, h5⟩
  · rename_i s d x ho
    cases hb : (isStrT E.P s && isBytes E.P d)
    · simp [hb] at h
    · simp only [hb, cond_true] at h
      rw [Bool.and_eq_true] at hb
      obtain ⟨u, objs', h1, v', w', ι', h2, h3, h4, h5⟩ := bytesK_ok h hb.1 hb.2 (hρ x) hR
      exact ⟨u, objs', h1, v', w', .value v', ι', by simp [execOp, ho, h2], .inl rfl, h3, h4, h5⟩
  · cases h
end
end Go.Ab
