/- The abstract machine, part 11: operations that make or write memory. No condition. -/
import Derived.Test.YtnalegahabfglaaDoorAbEff3
set_option linter.all false
set_option linter.unusedVariables false
set_option linter.unusedSimpArgs false
namespace Go.Ab
open Go
section
variable {R : Type}

/-- An operation that makes or writes memory: its value, and the objects behind it. -/
def boxK (objs : List AObj) (a : AV) (k : AV → List AObj → Option R) : Option R :=
  match a with
  | .undef => none
  | a => k (.ptr objs.length 0) (objs ++ [.cells (closedL a.cells) a.cells])

def storeK (P : Program) (objs : List AObj) (t : TypeId) (p a : AV) (k : AV → List AObj → Option R) : Option R :=
  match p, a with
  | _, .undef => none
  | .ptr i off, a =>
    match objs[i]? with
    | some (.cells flat cs) =>
      bif a.cells.length == szOf P t && !(szOf P t == 0) && a.cells.all oneA then
        chk (decide (off + a.cells.length ≤ cs.length)) (k (.tup []) (objs.set i (.cells (flat && closedL a.cells) (setL cs off a.cells))))
      else none
    | _ => none
  | _, _ => none

def zerosL (zs : List AV) (n : Nat) : List AV := (List.range n).map fun i => zs.getD (i % zs.length) .undef

def buildSliceK (P : Program) (ρ : Operand → AV) (objs : List AObj) (t : TypeId) (len : Nat) (ps : Array (Nat × Operand)) (k : AV → List AObj → Option R) : Option R :=
  match P.underlying t with
  | some (.slice e) =>
    match P.info? e with
    | some i =>
      bif decide (i.size ≠ 0) && decide (len * i.size ≤ 16777216) && i.zero.isSome && decide ((i.zero.getD .nilFunc).cells.size ≠ 0) then
        match fillA (fun j => some (j * i.size, i.size)) (zerosL (ofConst (i.zero.getD .nilFunc)).cells (len * i.size)) (partsA ρ ps) with
        | some cs => k (.sref objs.length 0 len i.size) (objs ++ [.cells (closedL cs) cs])
        | none => none
      else none
    | none => none
  | _ => none

/-- What is appended: its cells, how many elements they are, whether they are closed for sure. -/
def srcOf (sz : Nat) (objs : List AObj) : AV → Option (List AV × Nat × Bool)
  | .sref j off n _ => match objs[j]? with
    | some (.cells flat cs) => some ((cs.drop off).take (n * sz), n, flat)
    | _ => none
  | .sval cs n _ => some (cs.take (n * sz), n, true)
  | .nils => some ([], 0, true)
  | _ => none

def appendK (P : Program) (objs : List AObj) (ts : Array TypeId) (s x : AV) (k : AV → List AObj → Option R) : Option R :=
  match ts[0]?, ts[1]? with
  | some t, some tx =>
    match P.underlying t, P.underlying tx with
    | some (.slice e), some (.slice _) =>
      match P.info? e with
      | some i =>
        bif decide (i.size ≠ 0) && i.zero.isSome && decide ((i.zero.getD .nilFunc).cells.size = i.size) then
          match srcOf i.size objs x with
          | some (news, n, cl) =>
            match s with
            | .sref b 0 len sz =>
              match objs[b]? with
              | some (.cells flat cs) =>
                bif sz == i.size then
                  chk (decide (news.length = n * i.size) && news.all oneA && decide (len * i.size ≤ cs.length) && decide ((len + n) * i.bytes ≤ 140737488355328) && decide (len + n ≤ 1099511627776))
                    (k (.sref objs.length 0 (len + n) i.size) (objs.set b .dead ++ [.cells (flat && (cl || closedL news)) (cs.take (len * i.size) ++ news)]))
                else none
              | _ => none
            | .nils =>
              chk (decide (news.length = n * i.size) && news.all oneA && decide (n * i.bytes ≤ 140737488355328) && decide (n ≤ 1099511627776))
                (bif n == 0 then k .nils objs else k (.sref objs.length 0 n i.size) (objs ++ [.cells (cl || closedL news) news]))
            | .sval [] 0 true =>
              chk (decide (news.length = n * i.size) && news.all oneA && decide (n * i.bytes ≤ 140737488355328) && decide (n ≤ 1099511627776))
                (bif n == 0 then k (.sval [] 0 true) objs else k (.sref objs.length 0 n i.size) (objs ++ [.cells (cl || closedL news) news]))
            | _ => none
          | none => none
        else none
      | none => none
    | _, _ => none
  | _, _ => none

def effK (P : Program) (objs : List AObj) (ρ : Operand → AV) (o : Op) (k : AV → List AObj → Option R) : Option R :=
  match o with
  | .box _ x => boxK objs (ρ x) k
  | .alloc t => match (P.info? t).bind (·.zero) with
    | some z => boxK objs (ofConst z) k
    | none => none
  | .store t p x => storeK P objs t (ρ p) (ρ x) k
  | .buildSlice t len ps => buildSliceK P ρ objs t len ps k
  | .call ⟨.builtin .append, args, ts⟩ => match args[0]?, args[1]? with
    | some s, some x => bif args.size == 2 && ts.size == 2 then appendK P objs ts (ρ s) (ρ x) k else none
    | _, _ => none
  | _ => none
end

/-- What such an operation comes to. -/
def EffOk (E : Env) (G : Gh) (ι : Inj) (objs : List AObj) (w : World) (v : AV) (objs' : List AObj) (run : Result Next) : Prop :=
  ∃ v' w' nx ι', run = .ok nx w' ∧ (nx = .value v' ∨ (nx = .skip ∧ v' = undef)) ∧ VRel G ι' v v' ∧ Rel E G ι' objs' w' ∧ Ext (LiveB ι objs) G ι w G ι' objs' w'

section
variable {E : Env} {G : Gh} {ι : Inj} {R : Type} {objs : List AObj} {w : World} {k : AV → List AObj → Option R} {r : R}

theorem boxK_ok {a : AV} {v : Value} {e : TypeId} (h : boxK objs a k = some r) (hv : VRel G ι a v) (hR : Rel E G ι objs w) :
    ∃ u objs', k u objs' = some r ∧ EffOk E G ι objs w u objs' (.ok (.value (.pointer (some ⟨w.heap.size, 0, none⟩))) (w.alloc (.cells v.cells e))) := by
  have hne : a ≠ .undef := fun e => by subst e; simp [boxK] at h
  have hk : k (.ptr objs.length 0) (objs ++ [.cells (closedL a.cells) a.cells]) = some r := by
    cases a <;> first | exact h | exact absurd rfl hne
  obtain ⟨ι', h1, h2, h3⟩ := hR.addCells a.cells v.cells e (AV.cells_rel hv hne)
  exact ⟨_, _, hk, _, _, _, ι', rfl, .inl rfl, .ptr h3, h1, h2⟩

theorem storeK_ok {t : TypeId} {p a : AV} {p' v : Value} (h : storeK E.P objs t p a k = some r) (hp : VRel G ι p p') (hv : VRel G ι a v) (hR : Rel E G ι objs w) :
    ∃ objs', k (.tup []) objs' = some r ∧ ∃ w', (Instr.storeAt t p' v).run E.P w = .ok () w' ∧ Rel E G ι objs' w' ∧ Ext (LiveB ι objs) G ι w G ι objs' w' := by
  unfold storeK at h
  split at h
  · cases h
  · rename_i i off hne
    split at h
    · rename_i flat cs hi
      cases hb : (a.cells.length == szOf E.P t && !(szOf E.P t == 0) && a.cells.all oneA)
      · simp [hb] at h
      · simp only [hb, cond_true] at h
        simp only [Bool.and_eq_true, beq_iff_eq] at hb
        obtain ⟨hc, hk⟩ := chk_some h
        have hc' : off + a.cells.length ≤ cs.length := by simpa using hc
        have hcr := AV.cells_rel hv hne
        cases hp with
        | ptr hι =>
          rename_i B C
          have hone : ∀ x ∈ a.cells, oneA x = true := fun x hx => List.all_eq_true.1 hb.2 x hx
          obtain ⟨s1, s2, s3⟩ := hR.store hi hι hcr hone hc'
          refine ⟨_, hk, _, ?_, s2, s3⟩
          have hlen : a.cells.length = v.cells.size := by simpa using hcr.1
          have hsz : ∀ w, (sizeOf t).run E.P w = .ok (szOf E.P t) w := szOf_run (by simpa using hb.1.2)
          simp [Instr.storeAt, Instr.sureAddr, storeVar, hsz, ← hlen, hb.1.1, s1]
    · cases h
  · cases h

theorem fillA_length (place : Nat → Option (Nat × Nat)) : ∀ (ps : List (Nat × AV)) (cs cs' : List AV), fillA place cs ps = some cs' → cs'.length = cs.length
  | [], cs, cs', h => by simp [fillA] at h; rw [h]
  | (i, v) :: ps, cs, cs', h => by
    simp only [fillA] at h
    split at h
    · cases h
    · rename_i off size hpl
      cases hb : (v.cells.length == size && decide (off + v.cells.length ≤ cs.length) && fillA.oneOrAgg v)
      · simp [hb] at h
      · simp only [hb, cond_true] at h
        rw [fillA_length place ps _ _ h, setL_length]

theorem zeros_rel {zs : List AV} {z : Array Value} (h : LRel G ι zs z.toList) (hz : z.size ≠ 0) (n : Nat) : LRel G ι (zerosL zs n) ((Array.range n).map (z[· % z.size]!)).toList := by
  refine ⟨by simp [zerosL], fun i a v h1 h2 => ?_⟩
  unfold zerosL at h1
  rw [List.getElem?_map] at h1
  simp only [Array.toList_map, List.getElem?_map, Array.toList_range] at h2
  cases hi : (List.range n)[i]? with
  | none => rw [hi] at h1; simp at h1
  | some j =>
    rw [hi] at h1 h2
    simp only [Option.map_some, Option.some.injEq] at h1 h2
    subst h1 h2
    have hl : zs.length = z.size := by simpa using h.1
    have hlt : j % z.size < z.size := Nat.mod_lt _ (by omega)
    rw [hl, List.getD_eq_getElem?_getD]
    have hzlt : j % z.size < zs.length := by omega
    rw [List.getElem?_eq_getElem hzlt]
    simp only [Option.getD_some]
    have : z[j % z.size]! = z[j % z.size] := by simp [hlt]
    rw [this]
    exact h.2 _ _ _ (List.getElem?_eq_getElem hzlt) (by simp [hlt])

theorem buildSliceK_ok {ρ : Operand → AV} {ρ' : Operand → Value} {t : TypeId} {len : Nat} {ps : Array (Nat × Operand)} (h : buildSliceK E.P ρ objs t len ps k = some r)
    (hρ : ∀ x, VRel G ι (ρ x) (ρ' x)) (hR : Rel E G ι objs w) :
    ∃ u objs', k u objs' = some r ∧ ∃ v' w' ι', (Instr.buildSlice t len (ps.map fun (i, x) => (i, ρ' x))).run E.P w = .ok v' w' ∧ VRel G ι' u v' ∧ Rel E G ι' objs' w' ∧ Ext (LiveB ι objs) G ι w G ι' objs' w' := by
  unfold buildSliceK at h
  split at h
  · rename_i e ht
    split at h
    · rename_i i hi
      cases hb : (decide (i.size ≠ 0) && decide (len * i.size ≤ 16777216) && i.zero.isSome && decide ((i.zero.getD .nilFunc).cells.size ≠ 0))
      · simp only [hb, cond_false] at h; cases h
      · simp only [hb, cond_true] at h
        simp only [Bool.and_eq_true, decide_eq_true_eq] at hb
        obtain ⟨⟨⟨hb1, hb2⟩, hb3⟩, hb4⟩ := hb
        obtain ⟨z, hz⟩ := Option.isSome_iff_exists.1 hb3
        rw [hz] at h hb4
        simp only [Option.getD_some] at h hb4
        split at h
        · rename_i cs hf
          obtain ⟨c', h1, h2⟩ := fillA_ok _ _ _ _ _ _ (partsA_rel hρ ps) (zeros_rel (zero_cells z) hb4 (len * i.size)) hf
          obtain ⟨ι', g1, g2, g3⟩ := hR.addCells cs c' e h2
          have hcl : len * i.size ≤ c'.size := by
            have e1 := fillA_length _ _ _ _ hf
            have e2 := h2.1
            simp only [zerosL, List.length_map, List.length_range] at e1
            simp only [Array.length_toList] at e2
            omega
          refine ⟨_, _, h, .slice (some ⟨w.heap.size, 0, none⟩) len len, _, ι', ?_, .sref g3 (by simpa using hcl) (Nat.le_refl _), g1, g2⟩
          have hn : ¬ (len * i.size > 2 ^ 24) := by omega
          simp only [Instr.buildSlice, Sem.run_bind, run_underlying ht, Result.andThen_ok, sizeOf_eq hi, Sem.run_ite, hn, if_false]
          by_cases h0 : len * i.size = 0
          · have e0 : ∀ (z : Array Value), (Array.range (len * i.size)).map (fun x => z[x % z.size]!) = #[] := fun z => by rw [h0]; simp
            rw [e0] at h1
            simp only [h0, if_true, Sem.run_pure, Result.andThen_ok]
            have e1 : (Array.range 0).map (fun x => (#[] : Array Value)[x % (#[] : Array Value).size]!) = #[] := by simp
            rw [e1, h1]
            simp [newRow]
          · simp only [h0, if_false, Sem.run_bind, zeroValue, typeInfo, run_program, Result.andThen_ok, hi, Sem.run_pure, hz]
            rw [h1]
            simp [newRow]
        · cases h
    · cases h
  · cases h
end
end Go.Ab
