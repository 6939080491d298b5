/- The Go functions as Lean functions, further. No condition. -/
import Derived.Test.YtnalegahabfglaaDoorPrRA
set_option linter.all false
set_option linter.unusedVariables false
set_option linter.unusedSimpArgs false
set_option maxRecDepth 1000000
set_option maxHeartbeats 0
set_option linter.unusedVariables false
open Go Go.Ab
noncomputable section
noncomputable def laws_vBig.dec (v : Go.Ab.AV) (o : List Go.Ab.AObj) : Option Bool := match v, o with
  | Go.Ab.AV.bool a2, [] => some (a2)
  | _, _ => none
noncomputable def laws_vBig.A : Go.Ab.Ann := { live := fun _ => [], out := fun _ => [], cut := fun _ => none }
noncomputable def laws_vBig.G (n : Nat) {R : Type} : Go.Ab.Ctr R := fun g args objs k => none
noncomputable def laws_vBig.B (i : Nat) : Go.Code := (Go.Ab.loopsOf (bodyOf Go.Proofs.Tryd.f18)).getD i Go.Code.skip
noncomputable def laws_vBig.H (n : Nat) : Go.Ab.Hnd Bool := { loop := fun key _ v o K => none, cut := fun _ _ _ _ _ => none }
theorem laws_vBig.loops (n0 : Nat) : ∀ b ∈ Go.Ab.loopsOf (bodyOf Go.Proofs.Tryd.f18), Go.Ab.LoopOk Go.Proofs.Tryd.prog (laws_vBig.G n0) laws_vBig.A (laws_vBig.H n0) 6 0 b := Go.Ab.forall_nil (by kernel_rfl)
theorem laws_vBig.cuts (n0 : Nat) : ∀ b ∈ Go.Ab.cutsOf laws_vBig.A (bodyOf Go.Proofs.Tryd.f18), Go.Ab.CutOk Go.Proofs.Tryd.prog (laws_vBig.G n0) laws_vBig.A (laws_vBig.H n0) 6 0 b := Go.Ab.forall_nil (by kernel_rfl)
theorem laws_vBig.eq (n : Nat) (a0 : List Go.Ab.AV) (a1 : Nat) : Go.Ab.funK Go.Proofs.Tryd.prog (laws_vBig.G n) laws_vBig.A (laws_vBig.H n) false Go.Proofs.Tryd.f18 (bodyOf Go.Proofs.Tryd.f18) [Go.Ab.AV.sval a0 a1 Bool.false] [] laws_vBig.dec = laws_vBig.f n a0 a1 := by kernel_rfl
theorem laws_vBig.gok (X : Wd) (n : Nat) {R : Type} : Go.Ab.CtrOk (En X) (laws_vBig.G n : Go.Ab.Ctr R) := by
  intro g args objs k r h
  cases h
theorem laws_vBig.hdec (r : Bool) (v : Go.Ab.AV) (o : List Go.Ab.AObj) (h : laws_vBig.dec v o = some r) : v = Go.Ab.AV.bool (r) ∧ o = [] := by
  unfold laws_vBig.dec at h
  split at h
  · cases h; exact ⟨rfl, rfl⟩
  · cases h
theorem laws_vBig.sim (X : Wd) (n : Nat) (a0 : List Go.Ab.AV) (a1 : Nat) (r : Bool) (h : laws_vBig.f n a0 a1 = some r) : Go.Ab.Sim (En X) 18 [Go.Ab.AV.sval a0 a1 Bool.false] [] (Go.Ab.AV.bool (r)) [] :=
  Go.Ab.sim_of (E := En X) (laws_vBig.gok X n) mix (fn := Go.Proofs.Tryd.f18) (c := (bodyOf Go.Proofs.Tryd.f18)) (by kernel_rfl) (by kernel_rfl) (by kernel_rfl) (laws_vBig.loops n) (laws_vBig.cuts n) ((laws_vBig.eq n a0 a1).trans h) (laws_vBig.hdec r)
noncomputable def laws_vBig.ctr (n : Nat) {R : Type} : List Go.Ab.AV → List Go.Ab.AObj → (Go.Ab.AV → List Go.Ab.AObj → Option R) → Option R
  | [Go.Ab.AV.sval a0 a1 Bool.false], [], k => (laws_vBig.f n a0 a1).bind fun r => k (Go.Ab.AV.bool (r)) []
  | _, _, _ => none
noncomputable def laws_vBig.fits : List Go.Ab.AV → List Go.Ab.AObj → Bool
  | [Go.Ab.AV.sval a0 a1 Bool.false], [] => true
  | _, _ => false
theorem laws_vBig.ok (X : Wd) (n : Nat) {R : Type} (args : List Go.Ab.AV) (objs : List Go.Ab.AObj) (k : Go.Ab.AV → List Go.Ab.AObj → Option R) (r : R) (h : laws_vBig.ctr n args objs k = some r) :
    Go.Ab.Enters Go.Proofs.Tryd.prog 18 ∧ ∃ v objs', Go.Ab.Sim (En X) 18 args objs v objs' ∧ k v objs' = some r := by
  unfold laws_vBig.ctr at h
  split at h
  · obtain ⟨x, h1, h2⟩ := Option.bind_eq_some_iff.1 h
    exact ⟨⟨Go.Proofs.Tryd.f18, by kernel_rfl, by kernel_rfl, by kernel_rfl⟩, _, _, laws_vBig.sim X n _ _ x h1, h2⟩
  · cases h

noncomputable def spec_l1Cur_next.dec (v : Go.Ab.AV) (o : List Go.Ab.AObj) : Option (Int × (List Go.Ab.AV) × Nat × Int × Int) := match v, o with
  | Go.Ab.AV.int Go.IntKind.i64 a4, [Go.Ab.AObj.cells Bool.true [Go.Ab.AV.sval a5 a6 Bool.false, Go.Ab.AV.int Go.IntKind.i64 a7, Go.Ab.AV.int Go.IntKind.u64 a8]] => some (a4, a5, a6, a7, a8)
  | _, _ => none
noncomputable def spec_l1Cur_next.A : Go.Ab.Ann := { live := fun _ => [], out := fun _ => [], cut := fun _ => none }
noncomputable def spec_l1Cur_next.G (n : Nat) {R : Type} : Go.Ab.Ctr R := fun g args objs k => none
noncomputable def spec_l1Cur_next.B (i : Nat) : Go.Code := (Go.Ab.loopsOf (bodyOf Go.Proofs.Tryd.f78)).getD i Go.Code.skip
noncomputable def spec_l1Cur_next.H (n : Nat) : Go.Ab.Hnd (Int × (List Go.Ab.AV) × Nat × Int × Int) := { loop := fun key _ v o K => none, cut := fun _ _ _ _ _ => none }
theorem spec_l1Cur_next.loops (n0 : Nat) : ∀ b ∈ Go.Ab.loopsOf (bodyOf Go.Proofs.Tryd.f78), Go.Ab.LoopOk Go.Proofs.Tryd.prog (spec_l1Cur_next.G n0) spec_l1Cur_next.A (spec_l1Cur_next.H n0) 62 1 b := Go.Ab.forall_nil (by kernel_rfl)
theorem spec_l1Cur_next.cuts (n0 : Nat) : ∀ b ∈ Go.Ab.cutsOf spec_l1Cur_next.A (bodyOf Go.Proofs.Tryd.f78), Go.Ab.CutOk Go.Proofs.Tryd.prog (spec_l1Cur_next.G n0) spec_l1Cur_next.A (spec_l1Cur_next.H n0) 62 1 b := Go.Ab.forall_nil (by kernel_rfl)
theorem spec_l1Cur_next.eq (n : Nat) (a0 : List Go.Ab.AV) (a1 : Nat) (a2 : Int) (a3 : Int) : Go.Ab.funK Go.Proofs.Tryd.prog (spec_l1Cur_next.G n) spec_l1Cur_next.A (spec_l1Cur_next.H n) false Go.Proofs.Tryd.f78 (bodyOf Go.Proofs.Tryd.f78) [Go.Ab.AV.ptr 0 0] [Go.Ab.AObj.cells Bool.true [Go.Ab.AV.sval a0 a1 Bool.false, Go.Ab.AV.int Go.IntKind.i64 a2, Go.Ab.AV.int Go.IntKind.u64 a3]] spec_l1Cur_next.dec = spec_l1Cur_next.f n a0 a1 a2 a3 := by kernel_rfl
theorem spec_l1Cur_next.gok (X : Wd) (n : Nat) {R : Type} : Go.Ab.CtrOk (En X) (spec_l1Cur_next.G n : Go.Ab.Ctr R) := by
  intro g args objs k r h
  cases h
theorem spec_l1Cur_next.hdec (r : (Int × (List Go.Ab.AV) × Nat × Int × Int)) (v : Go.Ab.AV) (o : List Go.Ab.AObj) (h : spec_l1Cur_next.dec v o = some r) : v = Go.Ab.AV.int Go.IntKind.i64 (r.1) ∧ o = [Go.Ab.AObj.cells Bool.true [Go.Ab.AV.sval (r.2.1) (r.2.2.1) Bool.false, Go.Ab.AV.int Go.IntKind.i64 (r.2.2.2.1), Go.Ab.AV.int Go.IntKind.u64 (r.2.2.2.2)]] := by
  unfold spec_l1Cur_next.dec at h
  split at h
  · cases h; exact ⟨rfl, rfl⟩
  · cases h
theorem spec_l1Cur_next.sim (X : Wd) (n : Nat) (a0 : List Go.Ab.AV) (a1 : Nat) (a2 : Int) (a3 : Int) (r : (Int × (List Go.Ab.AV) × Nat × Int × Int)) (h : spec_l1Cur_next.f n a0 a1 a2 a3 = some r) : Go.Ab.Sim (En X) 78 [Go.Ab.AV.ptr 0 0] [Go.Ab.AObj.cells Bool.true [Go.Ab.AV.sval a0 a1 Bool.false, Go.Ab.AV.int Go.IntKind.i64 a2, Go.Ab.AV.int Go.IntKind.u64 a3]] (Go.Ab.AV.int Go.IntKind.i64 (r.1)) [Go.Ab.AObj.cells Bool.true [Go.Ab.AV.sval (r.2.1) (r.2.2.1) Bool.false, Go.Ab.AV.int Go.IntKind.i64 (r.2.2.2.1), Go.Ab.AV.int Go.IntKind.u64 (r.2.2.2.2)]] :=
  Go.Ab.sim_of (E := En X) (spec_l1Cur_next.gok X n) mix (fn := Go.Proofs.Tryd.f78) (c := (bodyOf Go.Proofs.Tryd.f78)) (by kernel_rfl) (by kernel_rfl) (by kernel_rfl) (spec_l1Cur_next.loops n) (spec_l1Cur_next.cuts n) ((spec_l1Cur_next.eq n a0 a1 a2 a3).trans h) (spec_l1Cur_next.hdec r)
noncomputable def spec_l1Cur_next.ctr (n : Nat) {R : Type} : List Go.Ab.AV → List Go.Ab.AObj → (Go.Ab.AV → List Go.Ab.AObj → Option R) → Option R
  | [Go.Ab.AV.ptr 0 0], [Go.Ab.AObj.cells Bool.true [Go.Ab.AV.sval a0 a1 Bool.false, Go.Ab.AV.int Go.IntKind.i64 a2, Go.Ab.AV.int Go.IntKind.u64 a3]], k => (spec_l1Cur_next.f n a0 a1 a2 a3).bind fun r => k (Go.Ab.AV.int Go.IntKind.i64 (r.1)) [Go.Ab.AObj.cells Bool.true [Go.Ab.AV.sval (r.2.1) (r.2.2.1) Bool.false, Go.Ab.AV.int Go.IntKind.i64 (r.2.2.2.1), Go.Ab.AV.int Go.IntKind.u64 (r.2.2.2.2)]]
  | _, _, _ => none
noncomputable def spec_l1Cur_next.fits : List Go.Ab.AV → List Go.Ab.AObj → Bool
  | [Go.Ab.AV.ptr 0 0], [Go.Ab.AObj.cells Bool.true [Go.Ab.AV.sval a0 a1 Bool.false, Go.Ab.AV.int Go.IntKind.i64 a2, Go.Ab.AV.int Go.IntKind.u64 a3]] => true
  | _, _ => false
theorem spec_l1Cur_next.ok (X : Wd) (n : Nat) {R : Type} (args : List Go.Ab.AV) (objs : List Go.Ab.AObj) (k : Go.Ab.AV → List Go.Ab.AObj → Option R) (r : R) (h : spec_l1Cur_next.ctr n args objs k = some r) :
    Go.Ab.Enters Go.Proofs.Tryd.prog 78 ∧ ∃ v objs', Go.Ab.Sim (En X) 78 args objs v objs' ∧ k v objs' = some r := by
  unfold spec_l1Cur_next.ctr at h
  split at h
  · obtain ⟨x, h1, h2⟩ := Option.bind_eq_some_iff.1 h
    exact ⟨⟨Go.Proofs.Tryd.f78, by kernel_rfl, by kernel_rfl, by kernel_rfl⟩, _, _, spec_l1Cur_next.sim X n _ _ _ _ x h1, h2⟩
  · cases h

noncomputable def spec_l1Cur_pick.dec (v : Go.Ab.AV) (o : List Go.Ab.AObj) : Option (Int × (List Go.Ab.AV) × Nat × Int × Int) := match v, o with
  | Go.Ab.AV.int Go.IntKind.i64 a5, [Go.Ab.AObj.cells Bool.true [Go.Ab.AV.sval a6 a7 Bool.false, Go.Ab.AV.int Go.IntKind.i64 a8, Go.Ab.AV.int Go.IntKind.u64 a9]] => some (a5, a6, a7, a8, a9)
  | _, _ => none
noncomputable def spec_l1Cur_pick.A : Go.Ab.Ann := { live := fun _ => [], out := fun _ => [], cut := fun _ => none }
noncomputable def spec_l1Cur_pick.G (n : Nat) {R : Type} : Go.Ab.Ctr R := fun g args objs k => match g with | 78 => spec_l1Cur_next.ctr n args objs k | _ => none
noncomputable def spec_l1Cur_pick.B (i : Nat) : Go.Code := (Go.Ab.loopsOf (bodyOf Go.Proofs.Tryd.f58)).getD i Go.Code.skip
noncomputable def spec_l1Cur_pick.H (n : Nat) : Go.Ab.Hnd (Int × (List Go.Ab.AV) × Nat × Int × Int) := { loop := fun key _ v o K => none, cut := fun _ _ _ _ _ => none }
theorem spec_l1Cur_pick.loops (n0 : Nat) : ∀ b ∈ Go.Ab.loopsOf (bodyOf Go.Proofs.Tryd.f58), Go.Ab.LoopOk Go.Proofs.Tryd.prog (spec_l1Cur_pick.G n0) spec_l1Cur_pick.A (spec_l1Cur_pick.H n0) 20 1 b := Go.Ab.forall_nil (by kernel_rfl)
theorem spec_l1Cur_pick.cuts (n0 : Nat) : ∀ b ∈ Go.Ab.cutsOf spec_l1Cur_pick.A (bodyOf Go.Proofs.Tryd.f58), Go.Ab.CutOk Go.Proofs.Tryd.prog (spec_l1Cur_pick.G n0) spec_l1Cur_pick.A (spec_l1Cur_pick.H n0) 20 1 b := Go.Ab.forall_nil (by kernel_rfl)
theorem spec_l1Cur_pick.eq (n : Nat) (a4 : Int) (a0 : List Go.Ab.AV) (a1 : Nat) (a2 : Int) (a3 : Int) : Go.Ab.funK Go.Proofs.Tryd.prog (spec_l1Cur_pick.G n) spec_l1Cur_pick.A (spec_l1Cur_pick.H n) false Go.Proofs.Tryd.f58 (bodyOf Go.Proofs.Tryd.f58) [Go.Ab.AV.ptr 0 0, Go.Ab.AV.int Go.IntKind.i64 a4] [Go.Ab.AObj.cells Bool.true [Go.Ab.AV.sval a0 a1 Bool.false, Go.Ab.AV.int Go.IntKind.i64 a2, Go.Ab.AV.int Go.IntKind.u64 a3]] spec_l1Cur_pick.dec = spec_l1Cur_pick.f n a4 a0 a1 a2 a3 := by kernel_rfl
theorem spec_l1Cur_pick.gok (X : Wd) (n : Nat) {R : Type} : Go.Ab.CtrOk (En X) (spec_l1Cur_pick.G n : Go.Ab.Ctr R) := by
  intro g args objs k r h
  unfold spec_l1Cur_pick.G at h
  split at h
  · exact spec_l1Cur_next.ok X _ args objs k r h
  · cases h
theorem spec_l1Cur_pick.hdec (r : (Int × (List Go.Ab.AV) × Nat × Int × Int)) (v : Go.Ab.AV) (o : List Go.Ab.AObj) (h : spec_l1Cur_pick.dec v o = some r) : v = Go.Ab.AV.int Go.IntKind.i64 (r.1) ∧ o = [Go.Ab.AObj.cells Bool.true [Go.Ab.AV.sval (r.2.1) (r.2.2.1) Bool.false, Go.Ab.AV.int Go.IntKind.i64 (r.2.2.2.1), Go.Ab.AV.int Go.IntKind.u64 (r.2.2.2.2)]] := by
  unfold spec_l1Cur_pick.dec at h
  split at h
  · cases h; exact ⟨rfl, rfl⟩
  · cases h
theorem spec_l1Cur_pick.sim (X : Wd) (n : Nat) (a4 : Int) (a0 : List Go.Ab.AV) (a1 : Nat) (a2 : Int) (a3 : Int) (r : (Int × (List Go.Ab.AV) × Nat × Int × Int)) (h : spec_l1Cur_pick.f n a4 a0 a1 a2 a3 = some r) : Go.Ab.Sim (En X) 58 [Go.Ab.AV.ptr 0 0, Go.Ab.AV.int Go.IntKind.i64 a4] [Go.Ab.AObj.cells Bool.true [Go.Ab.AV.sval a0 a1 Bool.false, Go.Ab.AV.int Go.IntKind.i64 a2, Go.Ab.AV.int Go.IntKind.u64 a3]] (Go.Ab.AV.int Go.IntKind.i64 (r.1)) [Go.Ab.AObj.cells Bool.true [Go.Ab.AV.sval (r.2.1) (r.2.2.1) Bool.false, Go.Ab.AV.int Go.IntKind.i64 (r.2.2.2.1), Go.Ab.AV.int Go.IntKind.u64 (r.2.2.2.2)]] :=
  Go.Ab.sim_of (E := En X) (spec_l1Cur_pick.gok X n) mix (fn := Go.Proofs.Tryd.f58) (c := (bodyOf Go.Proofs.Tryd.f58)) (by kernel_rfl) (by kernel_rfl) (by kernel_rfl) (spec_l1Cur_pick.loops n) (spec_l1Cur_pick.cuts n) ((spec_l1Cur_pick.eq n a4 a0 a1 a2 a3).trans h) (spec_l1Cur_pick.hdec r)
noncomputable def spec_l1Cur_pick.ctr (n : Nat) {R : Type} : List Go.Ab.AV → List Go.Ab.AObj → (Go.Ab.AV → List Go.Ab.AObj → Option R) → Option R
  | [Go.Ab.AV.ptr 0 0, Go.Ab.AV.int Go.IntKind.i64 a4], [Go.Ab.AObj.cells Bool.true [Go.Ab.AV.sval a0 a1 Bool.false, Go.Ab.AV.int Go.IntKind.i64 a2, Go.Ab.AV.int Go.IntKind.u64 a3]], k => (spec_l1Cur_pick.f n a4 a0 a1 a2 a3).bind fun r => k (Go.Ab.AV.int Go.IntKind.i64 (r.1)) [Go.Ab.AObj.cells Bool.true [Go.Ab.AV.sval (r.2.1) (r.2.2.1) Bool.false, Go.Ab.AV.int Go.IntKind.i64 (r.2.2.2.1), Go.Ab.AV.int Go.IntKind.u64 (r.2.2.2.2)]]
  | _, _, _ => none
noncomputable def spec_l1Cur_pick.fits : List Go.Ab.AV → List Go.Ab.AObj → Bool
  | [Go.Ab.AV.ptr 0 0, Go.Ab.AV.int Go.IntKind.i64 a4], [Go.Ab.AObj.cells Bool.true [Go.Ab.AV.sval a0 a1 Bool.false, Go.Ab.AV.int Go.IntKind.i64 a2, Go.Ab.AV.int Go.IntKind.u64 a3]] => true
  | _, _ => false
theorem spec_l1Cur_pick.ok (X : Wd) (n : Nat) {R : Type} (args : List Go.Ab.AV) (objs : List Go.Ab.AObj) (k : Go.Ab.AV → List Go.Ab.AObj → Option R) (r : R) (h : spec_l1Cur_pick.ctr n args objs k = some r) :
    Go.Ab.Enters Go.Proofs.Tryd.prog 58 ∧ ∃ v objs', Go.Ab.Sim (En X) 58 args objs v objs' ∧ k v objs' = some r := by
  unfold spec_l1Cur_pick.ctr at h
  split at h
  · obtain ⟨x, h1, h2⟩ := Option.bind_eq_some_iff.1 h
    exact ⟨⟨Go.Proofs.Tryd.f58, by kernel_rfl, by kernel_rfl, by kernel_rfl⟩, _, _, spec_l1Cur_pick.sim X n _ _ _ _ _ x h1, h2⟩
  · cases h

noncomputable def spec_l1Cur_of.dec (v : Go.Ab.AV) (o : List Go.Ab.AObj) : Option (ByteArray × (List Go.Ab.AV) × Nat × Int × Int × (List Go.Ab.AV)) := match v, o with
  | Go.Ab.AV.str a7, [Go.Ab.AObj.cells Bool.true [Go.Ab.AV.sval a8 a9 Bool.false, Go.Ab.AV.int Go.IntKind.i64 a10, Go.Ab.AV.int Go.IntKind.u64 a11], Go.Ab.AObj.cells Bool.true a14] => some (a7, a8, a9, a10, a11, a14)
  | _, _ => none
noncomputable def spec_l1Cur_of.A : Go.Ab.Ann := { live := fun _ => [], out := fun _ => [], cut := fun _ => none }
noncomputable def spec_l1Cur_of.G (n : Nat) {R : Type} : Go.Ab.Ctr R := fun g args objs k => match g with | 58 => spec_l1Cur_pick.ctr n args objs k | _ => none
noncomputable def spec_l1Cur_of.B (i : Nat) : Go.Code := (Go.Ab.loopsOf (bodyOf Go.Proofs.Tryd.f70)).getD i Go.Code.skip
noncomputable def spec_l1Cur_of.H (n : Nat) : Go.Ab.Hnd (ByteArray × (List Go.Ab.AV) × Nat × Int × Int × (List Go.Ab.AV)) := { loop := fun key _ v o K => none, cut := fun _ _ _ _ _ => none }
theorem spec_l1Cur_of.loops (n0 : Nat) : ∀ b ∈ Go.Ab.loopsOf (bodyOf Go.Proofs.Tryd.f70), Go.Ab.LoopOk Go.Proofs.Tryd.prog (spec_l1Cur_of.G n0) spec_l1Cur_of.A (spec_l1Cur_of.H n0) 12 2 b := Go.Ab.forall_nil (by kernel_rfl)
theorem spec_l1Cur_of.cuts (n0 : Nat) : ∀ b ∈ Go.Ab.cutsOf spec_l1Cur_of.A (bodyOf Go.Proofs.Tryd.f70), Go.Ab.CutOk Go.Proofs.Tryd.prog (spec_l1Cur_of.G n0) spec_l1Cur_of.A (spec_l1Cur_of.H n0) 12 2 b := Go.Ab.forall_nil (by kernel_rfl)
theorem spec_l1Cur_of.eq (n : Nat) (a5 : Nat) (a0 : List Go.Ab.AV) (a1 : Nat) (a2 : Int) (a3 : Int) (a6 : List Go.Ab.AV) : Go.Ab.funK Go.Proofs.Tryd.prog (spec_l1Cur_of.G n) spec_l1Cur_of.A (spec_l1Cur_of.H n) false Go.Proofs.Tryd.f70 (bodyOf Go.Proofs.Tryd.f70) [Go.Ab.AV.ptr 0 0, Go.Ab.AV.sref 1 0 a5 1] [Go.Ab.AObj.cells Bool.true [Go.Ab.AV.sval a0 a1 Bool.false, Go.Ab.AV.int Go.IntKind.i64 a2, Go.Ab.AV.int Go.IntKind.u64 a3], Go.Ab.AObj.cells Bool.true a6] spec_l1Cur_of.dec = spec_l1Cur_of.f n a5 a0 a1 a2 a3 a6 := by kernel_rfl
theorem spec_l1Cur_of.gok (X : Wd) (n : Nat) {R : Type} : Go.Ab.CtrOk (En X) (spec_l1Cur_of.G n : Go.Ab.Ctr R) := by
  intro g args objs k r h
  unfold spec_l1Cur_of.G at h
  split at h
  · exact spec_l1Cur_pick.ok X _ args objs k r h
  · cases h
theorem spec_l1Cur_of.hdec (r : (ByteArray × (List Go.Ab.AV) × Nat × Int × Int × (List Go.Ab.AV))) (v : Go.Ab.AV) (o : List Go.Ab.AObj) (h : spec_l1Cur_of.dec v o = some r) : v = Go.Ab.AV.str (r.1) ∧ o = [Go.Ab.AObj.cells Bool.true [Go.Ab.AV.sval (r.2.1) (r.2.2.1) Bool.false, Go.Ab.AV.int Go.IntKind.i64 (r.2.2.2.1), Go.Ab.AV.int Go.IntKind.u64 (r.2.2.2.2.1)], Go.Ab.AObj.cells Bool.true (r.2.2.2.2.2)] := by
  unfold spec_l1Cur_of.dec at h
  split at h
  · cases h; exact ⟨rfl, rfl⟩
  · cases h
theorem spec_l1Cur_of.sim (X : Wd) (n : Nat) (a5 : Nat) (a0 : List Go.Ab.AV) (a1 : Nat) (a2 : Int) (a3 : Int) (a6 : List Go.Ab.AV) (r : (ByteArray × (List Go.Ab.AV) × Nat × Int × Int × (List Go.Ab.AV))) (h : spec_l1Cur_of.f n a5 a0 a1 a2 a3 a6 = some r) : Go.Ab.Sim (En X) 70 [Go.Ab.AV.ptr 0 0, Go.Ab.AV.sref 1 0 a5 1] [Go.Ab.AObj.cells Bool.true [Go.Ab.AV.sval a0 a1 Bool.false, Go.Ab.AV.int Go.IntKind.i64 a2, Go.Ab.AV.int Go.IntKind.u64 a3], Go.Ab.AObj.cells Bool.true a6] (Go.Ab.AV.str (r.1)) [Go.Ab.AObj.cells Bool.true [Go.Ab.AV.sval (r.2.1) (r.2.2.1) Bool.false, Go.Ab.AV.int Go.IntKind.i64 (r.2.2.2.1), Go.Ab.AV.int Go.IntKind.u64 (r.2.2.2.2.1)], Go.Ab.AObj.cells Bool.true (r.2.2.2.2.2)] :=
  Go.Ab.sim_of (E := En X) (spec_l1Cur_of.gok X n) mix (fn := Go.Proofs.Tryd.f70) (c := (bodyOf Go.Proofs.Tryd.f70)) (by kernel_rfl) (by kernel_rfl) (by kernel_rfl) (spec_l1Cur_of.loops n) (spec_l1Cur_of.cuts n) ((spec_l1Cur_of.eq n a5 a0 a1 a2 a3 a6).trans h) (spec_l1Cur_of.hdec r)
noncomputable def spec_l1Cur_of.ctr (n : Nat) {R : Type} : List Go.Ab.AV → List Go.Ab.AObj → (Go.Ab.AV → List Go.Ab.AObj → Option R) → Option R
  | [Go.Ab.AV.ptr 0 0, Go.Ab.AV.sref 1 0 a5 1], [Go.Ab.AObj.cells Bool.true [Go.Ab.AV.sval a0 a1 Bool.false, Go.Ab.AV.int Go.IntKind.i64 a2, Go.Ab.AV.int Go.IntKind.u64 a3], Go.Ab.AObj.cells Bool.true a6], k => (spec_l1Cur_of.f n a5 a0 a1 a2 a3 a6).bind fun r => k (Go.Ab.AV.str (r.1)) [Go.Ab.AObj.cells Bool.true [Go.Ab.AV.sval (r.2.1) (r.2.2.1) Bool.false, Go.Ab.AV.int Go.IntKind.i64 (r.2.2.2.1), Go.Ab.AV.int Go.IntKind.u64 (r.2.2.2.2.1)], Go.Ab.AObj.cells Bool.true (r.2.2.2.2.2)]
  | _, _, _ => none
noncomputable def spec_l1Cur_of.fits : List Go.Ab.AV → List Go.Ab.AObj → Bool
  | [Go.Ab.AV.ptr 0 0, Go.Ab.AV.sref 1 0 a5 1], [Go.Ab.AObj.cells Bool.true [Go.Ab.AV.sval a0 a1 Bool.false, Go.Ab.AV.int Go.IntKind.i64 a2, Go.Ab.AV.int Go.IntKind.u64 a3], Go.Ab.AObj.cells Bool.true a6] => true
  | _, _ => false
theorem spec_l1Cur_of.ok (X : Wd) (n : Nat) {R : Type} (args : List Go.Ab.AV) (objs : List Go.Ab.AObj) (k : Go.Ab.AV → List Go.Ab.AObj → Option R) (r : R) (h : spec_l1Cur_of.ctr n args objs k = some r) :
    Go.Ab.Enters Go.Proofs.Tryd.prog 70 ∧ ∃ v objs', Go.Ab.Sim (En X) 70 args objs v objs' ∧ k v objs' = some r := by
  unfold spec_l1Cur_of.ctr at h
  split at h
  · obtain ⟨x, h1, h2⟩ := Option.bind_eq_some_iff.1 h
    exact ⟨⟨Go.Proofs.Tryd.f70, by kernel_rfl, by kernel_rfl, by kernel_rfl⟩, _, _, spec_l1Cur_of.sim X n _ _ _ _ _ _ x h1, h2⟩
  · cases h

noncomputable def spec_l1Cur_logRecord.dec (v : Go.Ab.AV) (o : List Go.Ab.AObj) : Option (ByteArray × ByteArray × (List Go.Ab.AV) × Nat × Int × Int) := match v, o with
  | Go.Ab.AV.agg [Go.Ab.AV.str a4, Go.Ab.AV.str a5], [Go.Ab.AObj.cells Bool.true [Go.Ab.AV.sval a6 a7 Bool.false, Go.Ab.AV.int Go.IntKind.i64 a8, Go.Ab.AV.int Go.IntKind.u64 a9]] => some (a4, a5, a6, a7, a8, a9)
  | _, _ => none
noncomputable def spec_l1Cur_logRecord.A : Go.Ab.Ann := { live := fun _ => [], out := fun _ => [], cut := fun _ => none }
noncomputable def spec_l1Cur_logRecord.G (n : Nat) {R : Type} : Go.Ab.Ctr R := fun g args objs k => match g with | 70 => spec_l1Cur_of.ctr n args objs k | 58 => spec_l1Cur_pick.ctr n args objs k | _ => none
noncomputable def spec_l1Cur_logRecord.B (i : Nat) : Go.Code := (Go.Ab.loopsOf (bodyOf Go.Proofs.Tryd.f49)).getD i Go.Code.skip
noncomputable def spec_l1Cur_logRecord.H (n : Nat) : Go.Ab.Hnd (ByteArray × ByteArray × (List Go.Ab.AV) × Nat × Int × Int) := { loop := fun key _ v o K => none, cut := fun _ _ _ _ _ => none }
theorem spec_l1Cur_logRecord.loops (n0 : Nat) : ∀ b ∈ Go.Ab.loopsOf (bodyOf Go.Proofs.Tryd.f49), Go.Ab.LoopOk Go.Proofs.Tryd.prog (spec_l1Cur_logRecord.G n0) spec_l1Cur_logRecord.A (spec_l1Cur_logRecord.H n0) 28 1 b := Go.Ab.forall_nil (by kernel_rfl)
theorem spec_l1Cur_logRecord.cuts (n0 : Nat) : ∀ b ∈ Go.Ab.cutsOf spec_l1Cur_logRecord.A (bodyOf Go.Proofs.Tryd.f49), Go.Ab.CutOk Go.Proofs.Tryd.prog (spec_l1Cur_logRecord.G n0) spec_l1Cur_logRecord.A (spec_l1Cur_logRecord.H n0) 28 1 b := Go.Ab.forall_nil (by kernel_rfl)
theorem spec_l1Cur_logRecord.eq (n : Nat) (a0 : List Go.Ab.AV) (a1 : Nat) (a2 : Int) (a3 : Int) : Go.Ab.funK Go.Proofs.Tryd.prog (spec_l1Cur_logRecord.G n) spec_l1Cur_logRecord.A (spec_l1Cur_logRecord.H n) false Go.Proofs.Tryd.f49 (bodyOf Go.Proofs.Tryd.f49) [Go.Ab.AV.ptr 0 0] [Go.Ab.AObj.cells Bool.true [Go.Ab.AV.sval a0 a1 Bool.false, Go.Ab.AV.int Go.IntKind.i64 a2, Go.Ab.AV.int Go.IntKind.u64 a3]] spec_l1Cur_logRecord.dec = spec_l1Cur_logRecord.f n a0 a1 a2 a3 := by kernel_rfl
theorem spec_l1Cur_logRecord.gok (X : Wd) (n : Nat) {R : Type} : Go.Ab.CtrOk (En X) (spec_l1Cur_logRecord.G n : Go.Ab.Ctr R) := by
  intro g args objs k r h
  unfold spec_l1Cur_logRecord.G at h
  split at h
  · exact spec_l1Cur_of.ok X _ args objs k r h
  · exact spec_l1Cur_pick.ok X _ args objs k r h
  · cases h
theorem spec_l1Cur_logRecord.hdec (r : (ByteArray × ByteArray × (List Go.Ab.AV) × Nat × Int × Int)) (v : Go.Ab.AV) (o : List Go.Ab.AObj) (h : spec_l1Cur_logRecord.dec v o = some r) : v = Go.Ab.AV.agg [Go.Ab.AV.str (r.1), Go.Ab.AV.str (r.2.1)] ∧ o = [Go.Ab.AObj.cells Bool.true [Go.Ab.AV.sval (r.2.2.1) (r.2.2.2.1) Bool.false, Go.Ab.AV.int Go.IntKind.i64 (r.2.2.2.2.1), Go.Ab.AV.int Go.IntKind.u64 (r.2.2.2.2.2)]] := by
  unfold spec_l1Cur_logRecord.dec at h
  split at h
  · cases h; exact ⟨rfl, rfl⟩
  · cases h
theorem spec_l1Cur_logRecord.sim (X : Wd) (n : Nat) (a0 : List Go.Ab.AV) (a1 : Nat) (a2 : Int) (a3 : Int) (r : (ByteArray × ByteArray × (List Go.Ab.AV) × Nat × Int × Int)) (h : spec_l1Cur_logRecord.f n a0 a1 a2 a3 = some r) : Go.Ab.Sim (En X) 49 [Go.Ab.AV.ptr 0 0] [Go.Ab.AObj.cells Bool.true [Go.Ab.AV.sval a0 a1 Bool.false, Go.Ab.AV.int Go.IntKind.i64 a2, Go.Ab.AV.int Go.IntKind.u64 a3]] (Go.Ab.AV.agg [Go.Ab.AV.str (r.1), Go.Ab.AV.str (r.2.1)]) [Go.Ab.AObj.cells Bool.true [Go.Ab.AV.sval (r.2.2.1) (r.2.2.2.1) Bool.false, Go.Ab.AV.int Go.IntKind.i64 (r.2.2.2.2.1), Go.Ab.AV.int Go.IntKind.u64 (r.2.2.2.2.2)]] :=
  Go.Ab.sim_of (E := En X) (spec_l1Cur_logRecord.gok X n) mix (fn := Go.Proofs.Tryd.f49) (c := (bodyOf Go.Proofs.Tryd.f49)) (by kernel_rfl) (by kernel_rfl) (by kernel_rfl) (spec_l1Cur_logRecord.loops n) (spec_l1Cur_logRecord.cuts n) ((spec_l1Cur_logRecord.eq n a0 a1 a2 a3).trans h) (spec_l1Cur_logRecord.hdec r)
noncomputable def spec_l1Cur_logRecord.ctr (n : Nat) {R : Type} : List Go.Ab.AV → List Go.Ab.AObj → (Go.Ab.AV → List Go.Ab.AObj → Option R) → Option R
  | [Go.Ab.AV.ptr 0 0], [Go.Ab.AObj.cells Bool.true [Go.Ab.AV.sval a0 a1 Bool.false, Go.Ab.AV.int Go.IntKind.i64 a2, Go.Ab.AV.int Go.IntKind.u64 a3]], k => (spec_l1Cur_logRecord.f n a0 a1 a2 a3).bind fun r => k (Go.Ab.AV.agg [Go.Ab.AV.str (r.1), Go.Ab.AV.str (r.2.1)]) [Go.Ab.AObj.cells Bool.true [Go.Ab.AV.sval (r.2.2.1) (r.2.2.2.1) Bool.false, Go.Ab.AV.int Go.IntKind.i64 (r.2.2.2.2.1), Go.Ab.AV.int Go.IntKind.u64 (r.2.2.2.2.2)]]
  | _, _, _ => none
noncomputable def spec_l1Cur_logRecord.fits : List Go.Ab.AV → List Go.Ab.AObj → Bool
  | [Go.Ab.AV.ptr 0 0], [Go.Ab.AObj.cells Bool.true [Go.Ab.AV.sval a0 a1 Bool.false, Go.Ab.AV.int Go.IntKind.i64 a2, Go.Ab.AV.int Go.IntKind.u64 a3]] => true
  | _, _ => false
theorem spec_l1Cur_logRecord.ok (X : Wd) (n : Nat) {R : Type} (args : List Go.Ab.AV) (objs : List Go.Ab.AObj) (k : Go.Ab.AV → List Go.Ab.AObj → Option R) (r : R) (h : spec_l1Cur_logRecord.ctr n args objs k = some r) :
    Go.Ab.Enters Go.Proofs.Tryd.prog 49 ∧ ∃ v objs', Go.Ab.Sim (En X) 49 args objs v objs' ∧ k v objs' = some r := by
  unfold spec_l1Cur_logRecord.ctr at h
  split at h
  · obtain ⟨x, h1, h2⟩ := Option.bind_eq_some_iff.1 h
    exact ⟨⟨Go.Proofs.Tryd.f49, by kernel_rfl, by kernel_rfl, by kernel_rfl⟩, _, _, spec_l1Cur_logRecord.sim X n _ _ _ _ x h1, h2⟩
  · cases h

noncomputable def spec_DrawIsValidRecord.dec (v : Go.Ab.AV) (o : List Go.Ab.AObj) : Option (ByteArray × ByteArray) := match v, o with
  | Go.Ab.AV.agg [Go.Ab.AV.str a2, Go.Ab.AV.str a3], [] => some (a2, a3)
  | _, _ => none
noncomputable def spec_DrawIsValidRecord.A : Go.Ab.Ann := { live := fun _ => [], out := fun _ => [], cut := fun _ => none }
noncomputable def spec_DrawIsValidRecord.G (n : Nat) {R : Type} : Go.Ab.Ctr R := fun g args objs k => match g with | 49 => spec_l1Cur_logRecord.ctr n args objs k | _ => none
noncomputable def spec_DrawIsValidRecord.B (i : Nat) : Go.Code := (Go.Ab.loopsOf (bodyOf Go.Proofs.Tryd.f19)).getD i Go.Code.skip
noncomputable def spec_DrawIsValidRecord.H (n : Nat) : Go.Ab.Hnd (ByteArray × ByteArray) := { loop := fun key _ v o K => none, cut := fun _ _ _ _ _ => none }
theorem spec_DrawIsValidRecord.loops (n0 : Nat) : ∀ b ∈ Go.Ab.loopsOf (bodyOf Go.Proofs.Tryd.f19), Go.Ab.LoopOk Go.Proofs.Tryd.prog (spec_DrawIsValidRecord.G n0) spec_DrawIsValidRecord.A (spec_DrawIsValidRecord.H n0) 9 0 b := Go.Ab.forall_nil (by kernel_rfl)
theorem spec_DrawIsValidRecord.cuts (n0 : Nat) : ∀ b ∈ Go.Ab.cutsOf spec_DrawIsValidRecord.A (bodyOf Go.Proofs.Tryd.f19), Go.Ab.CutOk Go.Proofs.Tryd.prog (spec_DrawIsValidRecord.G n0) spec_DrawIsValidRecord.A (spec_DrawIsValidRecord.H n0) 9 0 b := Go.Ab.forall_nil (by kernel_rfl)
theorem spec_DrawIsValidRecord.eq (n : Nat) (a0 : List Go.Ab.AV) (a1 : Nat) : Go.Ab.funK Go.Proofs.Tryd.prog (spec_DrawIsValidRecord.G n) spec_DrawIsValidRecord.A (spec_DrawIsValidRecord.H n) false Go.Proofs.Tryd.f19 (bodyOf Go.Proofs.Tryd.f19) [Go.Ab.AV.sval a0 a1 Bool.false] [] spec_DrawIsValidRecord.dec = spec_DrawIsValidRecord.f n a0 a1 := by kernel_rfl
theorem spec_DrawIsValidRecord.gok (X : Wd) (n : Nat) {R : Type} : Go.Ab.CtrOk (En X) (spec_DrawIsValidRecord.G n : Go.Ab.Ctr R) := by
  intro g args objs k r h
  unfold spec_DrawIsValidRecord.G at h
  split at h
  · exact spec_l1Cur_logRecord.ok X _ args objs k r h
  · cases h
theorem spec_DrawIsValidRecord.hdec (r : (ByteArray × ByteArray)) (v : Go.Ab.AV) (o : List Go.Ab.AObj) (h : spec_DrawIsValidRecord.dec v o = some r) : v = Go.Ab.AV.agg [Go.Ab.AV.str (r.1), Go.Ab.AV.str (r.2)] ∧ o = [] := by
  unfold spec_DrawIsValidRecord.dec at h
  split at h
  · cases h; exact ⟨rfl, rfl⟩
  · cases h
theorem spec_DrawIsValidRecord.sim (X : Wd) (n : Nat) (a0 : List Go.Ab.AV) (a1 : Nat) (r : (ByteArray × ByteArray)) (h : spec_DrawIsValidRecord.f n a0 a1 = some r) : Go.Ab.Sim (En X) 19 [Go.Ab.AV.sval a0 a1 Bool.false] [] (Go.Ab.AV.agg [Go.Ab.AV.str (r.1), Go.Ab.AV.str (r.2)]) [] :=
  Go.Ab.sim_of (E := En X) (spec_DrawIsValidRecord.gok X n) mix (fn := Go.Proofs.Tryd.f19) (c := (bodyOf Go.Proofs.Tryd.f19)) (by kernel_rfl) (by kernel_rfl) (by kernel_rfl) (spec_DrawIsValidRecord.loops n) (spec_DrawIsValidRecord.cuts n) ((spec_DrawIsValidRecord.eq n a0 a1).trans h) (spec_DrawIsValidRecord.hdec r)
noncomputable def spec_DrawIsValidRecord.ctr (n : Nat) {R : Type} : List Go.Ab.AV → List Go.Ab.AObj → (Go.Ab.AV → List Go.Ab.AObj → Option R) → Option R
  | [Go.Ab.AV.sval a0 a1 Bool.false], [], k => (spec_DrawIsValidRecord.f n a0 a1).bind fun r => k (Go.Ab.AV.agg [Go.Ab.AV.str (r.1), Go.Ab.AV.str (r.2)]) []
  | _, _, _ => none
noncomputable def spec_DrawIsValidRecord.fits : List Go.Ab.AV → List Go.Ab.AObj → Bool
  | [Go.Ab.AV.sval a0 a1 Bool.false], [] => true
  | _, _ => false
theorem spec_DrawIsValidRecord.ok (X : Wd) (n : Nat) {R : Type} (args : List Go.Ab.AV) (objs : List Go.Ab.AObj) (k : Go.Ab.AV → List Go.Ab.AObj → Option R) (r : R) (h : spec_DrawIsValidRecord.ctr n args objs k = some r) :
    Go.Ab.Enters Go.Proofs.Tryd.prog 19 ∧ ∃ v objs', Go.Ab.Sim (En X) 19 args objs v objs' ∧ k v objs' = some r := by
  unfold spec_DrawIsValidRecord.ctr at h
  split at h
  · obtain ⟨x, h1, h2⟩ := Option.bind_eq_some_iff.1 h
    exact ⟨⟨Go.Proofs.Tryd.f19, by kernel_rfl, by kernel_rfl, by kernel_rfl⟩, _, _, spec_DrawIsValidRecord.sim X n _ _ x h1, h2⟩
  · cases h

noncomputable def laws_vCut.dec (v : Go.Ab.AV) (o : List Go.Ab.AObj) : Option ((List Go.Ab.AV) × Nat) := match v, o with
  | Go.Ab.AV.sval a3 a4 Bool.false, [] => some (a3, a4)
  | _, _ => none
noncomputable def laws_vCut.A : Go.Ab.Ann := { live := fun _ => [], out := fun _ => [], cut := fun _ => none }
noncomputable def laws_vCut.G (n : Nat) {R : Type} : Go.Ab.Ctr R := fun g args objs k => none
noncomputable def laws_vCut.B (i : Nat) : Go.Code := (Go.Ab.loopsOf (bodyOf Go.Proofs.Tryd.f21)).getD i Go.Code.skip
noncomputable def laws_vCut.H (n : Nat) : Go.Ab.Hnd ((List Go.Ab.AV) × Nat) := { loop := fun key _ v o K => none, cut := fun _ _ _ _ _ => none }
theorem laws_vCut.loops (n0 : Nat) : ∀ b ∈ Go.Ab.loopsOf (bodyOf Go.Proofs.Tryd.f21), Go.Ab.LoopOk Go.Proofs.Tryd.prog (laws_vCut.G n0) laws_vCut.A (laws_vCut.H n0) 20 0 b := Go.Ab.forall_nil (by kernel_rfl)
theorem laws_vCut.cuts (n0 : Nat) : ∀ b ∈ Go.Ab.cutsOf laws_vCut.A (bodyOf Go.Proofs.Tryd.f21), Go.Ab.CutOk Go.Proofs.Tryd.prog (laws_vCut.G n0) laws_vCut.A (laws_vCut.H n0) 20 0 b := Go.Ab.forall_nil (by kernel_rfl)
theorem laws_vCut.eq (n : Nat) (a0 : List Go.Ab.AV) (a1 : Nat) (a2 : Int) : Go.Ab.funK Go.Proofs.Tryd.prog (laws_vCut.G n) laws_vCut.A (laws_vCut.H n) false Go.Proofs.Tryd.f21 (bodyOf Go.Proofs.Tryd.f21) [Go.Ab.AV.sval a0 a1 Bool.false, Go.Ab.AV.int Go.IntKind.i64 a2] [] laws_vCut.dec = laws_vCut.f n a0 a1 a2 := by kernel_rfl
theorem laws_vCut.gok (X : Wd) (n : Nat) {R : Type} : Go.Ab.CtrOk (En X) (laws_vCut.G n : Go.Ab.Ctr R) := by
  intro g args objs k r h
  cases h
theorem laws_vCut.hdec (r : ((List Go.Ab.AV) × Nat)) (v : Go.Ab.AV) (o : List Go.Ab.AObj) (h : laws_vCut.dec v o = some r) : v = Go.Ab.AV.sval (r.1) (r.2) Bool.false ∧ o = [] := by
  unfold laws_vCut.dec at h
  split at h
  · cases h; exact ⟨rfl, rfl⟩
  · cases h
theorem laws_vCut.sim (X : Wd) (n : Nat) (a0 : List Go.Ab.AV) (a1 : Nat) (a2 : Int) (r : ((List Go.Ab.AV) × Nat)) (h : laws_vCut.f n a0 a1 a2 = some r) : Go.Ab.Sim (En X) 21 [Go.Ab.AV.sval a0 a1 Bool.false, Go.Ab.AV.int Go.IntKind.i64 a2] [] (Go.Ab.AV.sval (r.1) (r.2) Bool.false) [] :=
  Go.Ab.sim_of (E := En X) (laws_vCut.gok X n) mix (fn := Go.Proofs.Tryd.f21) (c := (bodyOf Go.Proofs.Tryd.f21)) (by kernel_rfl) (by kernel_rfl) (by kernel_rfl) (laws_vCut.loops n) (laws_vCut.cuts n) ((laws_vCut.eq n a0 a1 a2).trans h) (laws_vCut.hdec r)
noncomputable def laws_vCut.ctr (n : Nat) {R : Type} : List Go.Ab.AV → List Go.Ab.AObj → (Go.Ab.AV → List Go.Ab.AObj → Option R) → Option R
  | [Go.Ab.AV.sval a0 a1 Bool.false, Go.Ab.AV.int Go.IntKind.i64 a2], [], k => (laws_vCut.f n a0 a1 a2).bind fun r => k (Go.Ab.AV.sval (r.1) (r.2) Bool.false) []
  | _, _, _ => none
noncomputable def laws_vCut.fits : List Go.Ab.AV → List Go.Ab.AObj → Bool
  | [Go.Ab.AV.sval a0 a1 Bool.false, Go.Ab.AV.int Go.IntKind.i64 a2], [] => true
  | _, _ => false
theorem laws_vCut.ok (X : Wd) (n : Nat) {R : Type} (args : List Go.Ab.AV) (objs : List Go.Ab.AObj) (k : Go.Ab.AV → List Go.Ab.AObj → Option R) (r : R) (h : laws_vCut.ctr n args objs k = some r) :
    Go.Ab.Enters Go.Proofs.Tryd.prog 21 ∧ ∃ v objs', Go.Ab.Sim (En X) 21 args objs v objs' ∧ k v objs' = some r := by
  unfold laws_vCut.ctr at h
  split at h
  · obtain ⟨x, h1, h2⟩ := Option.bind_eq_some_iff.1 h
    exact ⟨⟨Go.Proofs.Tryd.f21, by kernel_rfl, by kernel_rfl, by kernel_rfl⟩, _, _, laws_vCut.sim X n _ _ _ x h1, h2⟩
  · cases h

noncomputable def spec_l1Cur_among.dec (v : Go.Ab.AV) (o : List Go.Ab.AObj) : Option (Int × (List Go.Ab.AV) × Nat × Int × Int × (List Go.Ab.AV)) := match v, o with
  | Go.Ab.AV.int Go.IntKind.i64 a7, [Go.Ab.AObj.cells Bool.true [Go.Ab.AV.sval a8 a9 Bool.false, Go.Ab.AV.int Go.IntKind.i64 a10, Go.Ab.AV.int Go.IntKind.u64 a11], Go.Ab.AObj.cells Bool.true a14] => some (a7, a8, a9, a10, a11, a14)
  | _, _ => none
noncomputable def spec_l1Cur_among.A : Go.Ab.Ann := { live := fun _ => [], out := fun _ => [], cut := fun _ => none }
noncomputable def spec_l1Cur_among.G (n : Nat) {R : Type} : Go.Ab.Ctr R := fun g args objs k => match g with | 58 => spec_l1Cur_pick.ctr n args objs k | _ => none
noncomputable def spec_l1Cur_among.B (i : Nat) : Go.Code := (Go.Ab.loopsOf (bodyOf Go.Proofs.Tryd.f50)).getD i Go.Code.skip
noncomputable def spec_l1Cur_among.H (n : Nat) : Go.Ab.Hnd (Int × (List Go.Ab.AV) × Nat × Int × Int × (List Go.Ab.AV)) := { loop := fun key _ v o K => none, cut := fun _ _ _ _ _ => none }
theorem spec_l1Cur_among.loops (n0 : Nat) : ∀ b ∈ Go.Ab.loopsOf (bodyOf Go.Proofs.Tryd.f50), Go.Ab.LoopOk Go.Proofs.Tryd.prog (spec_l1Cur_among.G n0) spec_l1Cur_among.A (spec_l1Cur_among.H n0) 12 2 b := Go.Ab.forall_nil (by kernel_rfl)
theorem spec_l1Cur_among.cuts (n0 : Nat) : ∀ b ∈ Go.Ab.cutsOf spec_l1Cur_among.A (bodyOf Go.Proofs.Tryd.f50), Go.Ab.CutOk Go.Proofs.Tryd.prog (spec_l1Cur_among.G n0) spec_l1Cur_among.A (spec_l1Cur_among.H n0) 12 2 b := Go.Ab.forall_nil (by kernel_rfl)
theorem spec_l1Cur_among.eq (n : Nat) (a5 : Nat) (a0 : List Go.Ab.AV) (a1 : Nat) (a2 : Int) (a3 : Int) (a6 : List Go.Ab.AV) : Go.Ab.funK Go.Proofs.Tryd.prog (spec_l1Cur_among.G n) spec_l1Cur_among.A (spec_l1Cur_among.H n) false Go.Proofs.Tryd.f50 (bodyOf Go.Proofs.Tryd.f50) [Go.Ab.AV.ptr 0 0, Go.Ab.AV.sref 1 0 a5 1] [Go.Ab.AObj.cells Bool.true [Go.Ab.AV.sval a0 a1 Bool.false, Go.Ab.AV.int Go.IntKind.i64 a2, Go.Ab.AV.int Go.IntKind.u64 a3], Go.Ab.AObj.cells Bool.true a6] spec_l1Cur_among.dec = spec_l1Cur_among.f n a5 a0 a1 a2 a3 a6 := by kernel_rfl
theorem spec_l1Cur_among.gok (X : Wd) (n : Nat) {R : Type} : Go.Ab.CtrOk (En X) (spec_l1Cur_among.G n : Go.Ab.Ctr R) := by
  intro g args objs k r h
  unfold spec_l1Cur_among.G at h
  split at h
  · exact spec_l1Cur_pick.ok X _ args objs k r h
  · cases h
theorem spec_l1Cur_among.hdec (r : (Int × (List Go.Ab.AV) × Nat × Int × Int × (List Go.Ab.AV))) (v : Go.Ab.AV) (o : List Go.Ab.AObj) (h : spec_l1Cur_among.dec v o = some r) : v = Go.Ab.AV.int Go.IntKind.i64 (r.1) ∧ o = [Go.Ab.AObj.cells Bool.true [Go.Ab.AV.sval (r.2.1) (r.2.2.1) Bool.false, Go.Ab.AV.int Go.IntKind.i64 (r.2.2.2.1), Go.Ab.AV.int Go.IntKind.u64 (r.2.2.2.2.1)], Go.Ab.AObj.cells Bool.true (r.2.2.2.2.2)] := by
  unfold spec_l1Cur_among.dec at h
  split at h
  · cases h; exact ⟨rfl, rfl⟩
  · cases h
theorem spec_l1Cur_among.sim (X : Wd) (n : Nat) (a5 : Nat) (a0 : List Go.Ab.AV) (a1 : Nat) (a2 : Int) (a3 : Int) (a6 : List Go.Ab.AV) (r : (Int × (List Go.Ab.AV) × Nat × Int × Int × (List Go.Ab.AV))) (h : spec_l1Cur_among.f n a5 a0 a1 a2 a3 a6 = some r) : Go.Ab.Sim (En X) 50 [Go.Ab.AV.ptr 0 0, Go.Ab.AV.sref 1 0 a5 1] [Go.Ab.AObj.cells Bool.true [Go.Ab.AV.sval a0 a1 Bool.false, Go.Ab.AV.int Go.IntKind.i64 a2, Go.Ab.AV.int Go.IntKind.u64 a3], Go.Ab.AObj.cells Bool.true a6] (Go.Ab.AV.int Go.IntKind.i64 (r.1)) [Go.Ab.AObj.cells Bool.true [Go.Ab.AV.sval (r.2.1) (r.2.2.1) Bool.false, Go.Ab.AV.int Go.IntKind.i64 (r.2.2.2.1), Go.Ab.AV.int Go.IntKind.u64 (r.2.2.2.2.1)], Go.Ab.AObj.cells Bool.true (r.2.2.2.2.2)] :=
  Go.Ab.sim_of (E := En X) (spec_l1Cur_among.gok X n) mix (fn := Go.Proofs.Tryd.f50) (c := (bodyOf Go.Proofs.Tryd.f50)) (by kernel_rfl) (by kernel_rfl) (by kernel_rfl) (spec_l1Cur_among.loops n) (spec_l1Cur_among.cuts n) ((spec_l1Cur_among.eq n a5 a0 a1 a2 a3 a6).trans h) (spec_l1Cur_among.hdec r)
noncomputable def spec_l1Cur_among.ctr (n : Nat) {R : Type} : List Go.Ab.AV → List Go.Ab.AObj → (Go.Ab.AV → List Go.Ab.AObj → Option R) → Option R
  | [Go.Ab.AV.ptr 0 0, Go.Ab.AV.sref 1 0 a5 1], [Go.Ab.AObj.cells Bool.true [Go.Ab.AV.sval a0 a1 Bool.false, Go.Ab.AV.int Go.IntKind.i64 a2, Go.Ab.AV.int Go.IntKind.u64 a3], Go.Ab.AObj.cells Bool.true a6], k => (spec_l1Cur_among.f n a5 a0 a1 a2 a3 a6).bind fun r => k (Go.Ab.AV.int Go.IntKind.i64 (r.1)) [Go.Ab.AObj.cells Bool.true [Go.Ab.AV.sval (r.2.1) (r.2.2.1) Bool.false, Go.Ab.AV.int Go.IntKind.i64 (r.2.2.2.1), Go.Ab.AV.int Go.IntKind.u64 (r.2.2.2.2.1)], Go.Ab.AObj.cells Bool.true (r.2.2.2.2.2)]
  | _, _, _ => none
noncomputable def spec_l1Cur_among.fits : List Go.Ab.AV → List Go.Ab.AObj → Bool
  | [Go.Ab.AV.ptr 0 0, Go.Ab.AV.sref 1 0 a5 1], [Go.Ab.AObj.cells Bool.true [Go.Ab.AV.sval a0 a1 Bool.false, Go.Ab.AV.int Go.IntKind.i64 a2, Go.Ab.AV.int Go.IntKind.u64 a3], Go.Ab.AObj.cells Bool.true a6] => true
  | _, _ => false
theorem spec_l1Cur_among.ok (X : Wd) (n : Nat) {R : Type} (args : List Go.Ab.AV) (objs : List Go.Ab.AObj) (k : Go.Ab.AV → List Go.Ab.AObj → Option R) (r : R) (h : spec_l1Cur_among.ctr n args objs k = some r) :
    Go.Ab.Enters Go.Proofs.Tryd.prog 50 ∧ ∃ v objs', Go.Ab.Sim (En X) 50 args objs v objs' ∧ k v objs' = some r := by
  unfold spec_l1Cur_among.ctr at h
  split at h
  · obtain ⟨x, h1, h2⟩ := Option.bind_eq_some_iff.1 h
    exact ⟨⟨Go.Proofs.Tryd.f50, by kernel_rfl, by kernel_rfl, by kernel_rfl⟩, _, _, spec_l1Cur_among.sim X n _ _ _ _ _ _ x h1, h2⟩
  · cases h

noncomputable def spec_DrawEncodeRecord.dec (v : Go.Ab.AV) (o : List Go.Ab.AObj) : Option (Int × ByteArray × ByteArray) := match v, o with
  | Go.Ab.AV.tup [Go.Ab.AV.int Go.IntKind.i64 a2, Go.Ab.AV.agg [Go.Ab.AV.str a3, Go.Ab.AV.str a4]], [] => some (a2, a3, a4)
  | _, _ => none
noncomputable def spec_DrawEncodeRecord.A : Go.Ab.Ann := { live := fun _ => [], out := fun _ => [], cut := fun _ => none }
noncomputable def spec_DrawEncodeRecord.G (n : Nat) {R : Type} : Go.Ab.Ctr R := fun g args objs k => match g with | 50 => spec_l1Cur_among.ctr n args objs k | 49 => spec_l1Cur_logRecord.ctr n args objs k | _ => none
noncomputable def spec_DrawEncodeRecord.B (i : Nat) : Go.Code := (Go.Ab.loopsOf (bodyOf Go.Proofs.Tryd.f20)).getD i Go.Code.skip
noncomputable def spec_DrawEncodeRecord.H (n : Nat) : Go.Ab.Hnd (Int × ByteArray × ByteArray) := { loop := fun key _ v o K => none, cut := fun _ _ _ _ _ => none }
theorem spec_DrawEncodeRecord.loops (n0 : Nat) : ∀ b ∈ Go.Ab.loopsOf (bodyOf Go.Proofs.Tryd.f20), Go.Ab.LoopOk Go.Proofs.Tryd.prog (spec_DrawEncodeRecord.G n0) spec_DrawEncodeRecord.A (spec_DrawEncodeRecord.H n0) 15 0 b := Go.Ab.forall_nil (by kernel_rfl)
theorem spec_DrawEncodeRecord.cuts (n0 : Nat) : ∀ b ∈ Go.Ab.cutsOf spec_DrawEncodeRecord.A (bodyOf Go.Proofs.Tryd.f20), Go.Ab.CutOk Go.Proofs.Tryd.prog (spec_DrawEncodeRecord.G n0) spec_DrawEncodeRecord.A (spec_DrawEncodeRecord.H n0) 15 0 b := Go.Ab.forall_nil (by kernel_rfl)
theorem spec_DrawEncodeRecord.eq (n : Nat) (a0 : List Go.Ab.AV) (a1 : Nat) : Go.Ab.funK Go.Proofs.Tryd.prog (spec_DrawEncodeRecord.G n) spec_DrawEncodeRecord.A (spec_DrawEncodeRecord.H n) false Go.Proofs.Tryd.f20 (bodyOf Go.Proofs.Tryd.f20) [Go.Ab.AV.sval a0 a1 Bool.false] [] spec_DrawEncodeRecord.dec = spec_DrawEncodeRecord.f n a0 a1 := by kernel_rfl
theorem spec_DrawEncodeRecord.gok (X : Wd) (n : Nat) {R : Type} : Go.Ab.CtrOk (En X) (spec_DrawEncodeRecord.G n : Go.Ab.Ctr R) := by
  intro g args objs k r h
  unfold spec_DrawEncodeRecord.G at h
  split at h
  · exact spec_l1Cur_among.ok X _ args objs k r h
  · exact spec_l1Cur_logRecord.ok X _ args objs k r h
  · cases h
theorem spec_DrawEncodeRecord.hdec (r : (Int × ByteArray × ByteArray)) (v : Go.Ab.AV) (o : List Go.Ab.AObj) (h : spec_DrawEncodeRecord.dec v o = some r) : v = Go.Ab.AV.tup [Go.Ab.AV.int Go.IntKind.i64 (r.1), Go.Ab.AV.agg [Go.Ab.AV.str (r.2.1), Go.Ab.AV.str (r.2.2)]] ∧ o = [] := by
  unfold spec_DrawEncodeRecord.dec at h
  split at h
  · cases h; exact ⟨rfl, rfl⟩
  · cases h
theorem spec_DrawEncodeRecord.sim (X : Wd) (n : Nat) (a0 : List Go.Ab.AV) (a1 : Nat) (r : (Int × ByteArray × ByteArray)) (h : spec_DrawEncodeRecord.f n a0 a1 = some r) : Go.Ab.Sim (En X) 20 [Go.Ab.AV.sval a0 a1 Bool.false] [] (Go.Ab.AV.tup [Go.Ab.AV.int Go.IntKind.i64 (r.1), Go.Ab.AV.agg [Go.Ab.AV.str (r.2.1), Go.Ab.AV.str (r.2.2)]]) [] :=
  Go.Ab.sim_of (E := En X) (spec_DrawEncodeRecord.gok X n) mix (fn := Go.Proofs.Tryd.f20) (c := (bodyOf Go.Proofs.Tryd.f20)) (by kernel_rfl) (by kernel_rfl) (by kernel_rfl) (spec_DrawEncodeRecord.loops n) (spec_DrawEncodeRecord.cuts n) ((spec_DrawEncodeRecord.eq n a0 a1).trans h) (spec_DrawEncodeRecord.hdec r)
noncomputable def spec_DrawEncodeRecord.ctr (n : Nat) {R : Type} : List Go.Ab.AV → List Go.Ab.AObj → (Go.Ab.AV → List Go.Ab.AObj → Option R) → Option R
  | [Go.Ab.AV.sval a0 a1 Bool.false], [], k => (spec_DrawEncodeRecord.f n a0 a1).bind fun r => k (Go.Ab.AV.tup [Go.Ab.AV.int Go.IntKind.i64 (r.1), Go.Ab.AV.agg [Go.Ab.AV.str (r.2.1), Go.Ab.AV.str (r.2.2)]]) []
  | _, _, _ => none
noncomputable def spec_DrawEncodeRecord.fits : List Go.Ab.AV → List Go.Ab.AObj → Bool
  | [Go.Ab.AV.sval a0 a1 Bool.false], [] => true
  | _, _ => false
theorem spec_DrawEncodeRecord.ok (X : Wd) (n : Nat) {R : Type} (args : List Go.Ab.AV) (objs : List Go.Ab.AObj) (k : Go.Ab.AV → List Go.Ab.AObj → Option R) (r : R) (h : spec_DrawEncodeRecord.ctr n args objs k = some r) :
    Go.Ab.Enters Go.Proofs.Tryd.prog 20 ∧ ∃ v objs', Go.Ab.Sim (En X) 20 args objs v objs' ∧ k v objs' = some r := by
  unfold spec_DrawEncodeRecord.ctr at h
  split at h
  · obtain ⟨x, h1, h2⟩ := Option.bind_eq_some_iff.1 h
    exact ⟨⟨Go.Proofs.Tryd.f20, by kernel_rfl, by kernel_rfl, by kernel_rfl⟩, _, _, spec_DrawEncodeRecord.sim X n _ _ x h1, h2⟩
  · cases h

noncomputable def spec_EncodeRecord.dec (v : Go.Ab.AV) (o : List Go.Ab.AObj) : Option (ByteArray × Bool) := match v, o with
  | Go.Ab.AV.tup [Go.Ab.AV.str a3, Go.Ab.AV.bool a4], [] => some (a3, a4)
  | _, _ => none
noncomputable def spec_EncodeRecord.A : Go.Ab.Ann := { live := fun _ => [], out := fun _ => [], cut := fun _ => none }
noncomputable def spec_EncodeRecord.G (n : Nat) {R : Type} : Go.Ab.Ctr R := fun g args objs k => match g with | 53 => spec_l1In.ctr n args objs k | 54 => spec_l12Record.ctr n args objs k | 55 => spec_l12Line.ctr n args objs k | _ => none
noncomputable def spec_EncodeRecord.B (i : Nat) : Go.Code := (Go.Ab.loopsOf (bodyOf Go.Proofs.Tryd.f23)).getD i Go.Code.skip
noncomputable def spec_EncodeRecord.H (n : Nat) : Go.Ab.Hnd (ByteArray × Bool) := { loop := fun key _ v o K => none, cut := fun _ _ _ _ _ => none }
theorem spec_EncodeRecord.loops (n0 : Nat) : ∀ b ∈ Go.Ab.loopsOf (bodyOf Go.Proofs.Tryd.f23), Go.Ab.LoopOk Go.Proofs.Tryd.prog (spec_EncodeRecord.G n0) spec_EncodeRecord.A (spec_EncodeRecord.H n0) 17 0 b := Go.Ab.forall_nil (by kernel_rfl)
theorem spec_EncodeRecord.cuts (n0 : Nat) : ∀ b ∈ Go.Ab.cutsOf spec_EncodeRecord.A (bodyOf Go.Proofs.Tryd.f23), Go.Ab.CutOk Go.Proofs.Tryd.prog (spec_EncodeRecord.G n0) spec_EncodeRecord.A (spec_EncodeRecord.H n0) 17 0 b := Go.Ab.forall_nil (by kernel_rfl)
theorem spec_EncodeRecord.eq (n : Nat) (a0 : Int) (a1 : ByteArray) (a2 : ByteArray) : Go.Ab.funK Go.Proofs.Tryd.prog (spec_EncodeRecord.G n) spec_EncodeRecord.A (spec_EncodeRecord.H n) false Go.Proofs.Tryd.f23 (bodyOf Go.Proofs.Tryd.f23) [Go.Ab.AV.int Go.IntKind.i64 a0, Go.Ab.AV.agg [Go.Ab.AV.str a1, Go.Ab.AV.str a2]] [] spec_EncodeRecord.dec = spec_EncodeRecord.f n a0 a1 a2 := by kernel_rfl
theorem spec_EncodeRecord.gok (X : Wd) (n : Nat) {R : Type} : Go.Ab.CtrOk (En X) (spec_EncodeRecord.G n : Go.Ab.Ctr R) := by
  intro g args objs k r h
  unfold spec_EncodeRecord.G at h
  split at h
  · exact spec_l1In.ok X _ args objs k r h
  · exact spec_l12Record.ok X _ args objs k r h
  · exact spec_l12Line.ok X _ args objs k r h
  · cases h
theorem spec_EncodeRecord.hdec (r : (ByteArray × Bool)) (v : Go.Ab.AV) (o : List Go.Ab.AObj) (h : spec_EncodeRecord.dec v o = some r) : v = Go.Ab.AV.tup [Go.Ab.AV.str (r.1), Go.Ab.AV.bool (r.2)] ∧ o = [] := by
  unfold spec_EncodeRecord.dec at h
  split at h
  · cases h; exact ⟨rfl, rfl⟩
  · cases h
theorem spec_EncodeRecord.sim (X : Wd) (n : Nat) (a0 : Int) (a1 : ByteArray) (a2 : ByteArray) (r : (ByteArray × Bool)) (h : spec_EncodeRecord.f n a0 a1 a2 = some r) : Go.Ab.Sim (En X) 23 [Go.Ab.AV.int Go.IntKind.i64 a0, Go.Ab.AV.agg [Go.Ab.AV.str a1, Go.Ab.AV.str a2]] [] (Go.Ab.AV.tup [Go.Ab.AV.str (r.1), Go.Ab.AV.bool (r.2)]) [] :=
  Go.Ab.sim_of (E := En X) (spec_EncodeRecord.gok X n) mix (fn := Go.Proofs.Tryd.f23) (c := (bodyOf Go.Proofs.Tryd.f23)) (by kernel_rfl) (by kernel_rfl) (by kernel_rfl) (spec_EncodeRecord.loops n) (spec_EncodeRecord.cuts n) ((spec_EncodeRecord.eq n a0 a1 a2).trans h) (spec_EncodeRecord.hdec r)
noncomputable def spec_EncodeRecord.ctr (n : Nat) {R : Type} : List Go.Ab.AV → List Go.Ab.AObj → (Go.Ab.AV → List Go.Ab.AObj → Option R) → Option R
  | [Go.Ab.AV.int Go.IntKind.i64 a0, Go.Ab.AV.agg [Go.Ab.AV.str a1, Go.Ab.AV.str a2]], [], k => (spec_EncodeRecord.f n a0 a1 a2).bind fun r => k (Go.Ab.AV.tup [Go.Ab.AV.str (r.1), Go.Ab.AV.bool (r.2)]) []
  | _, _, _ => none
noncomputable def spec_EncodeRecord.fits : List Go.Ab.AV → List Go.Ab.AObj → Bool
  | [Go.Ab.AV.int Go.IntKind.i64 a0, Go.Ab.AV.agg [Go.Ab.AV.str a1, Go.Ab.AV.str a2]], [] => true
  | _, _ => false
theorem spec_EncodeRecord.ok (X : Wd) (n : Nat) {R : Type} (args : List Go.Ab.AV) (objs : List Go.Ab.AObj) (k : Go.Ab.AV → List Go.Ab.AObj → Option R) (r : R) (h : spec_EncodeRecord.ctr n args objs k = some r) :
    Go.Ab.Enters Go.Proofs.Tryd.prog 23 ∧ ∃ v objs', Go.Ab.Sim (En X) 23 args objs v objs' ∧ k v objs' = some r := by
  unfold spec_EncodeRecord.ctr at h
  split at h
  · obtain ⟨x, h1, h2⟩ := Option.bind_eq_some_iff.1 h
    exact ⟨⟨Go.Proofs.Tryd.f23, by kernel_rfl, by kernel_rfl, by kernel_rfl⟩, _, _, spec_EncodeRecord.sim X n _ _ _ x h1, h2⟩
  · cases h

noncomputable def spec_AppendRecord.dec (v : Go.Ab.AV) (o : List Go.Ab.AObj) : Option (ByteArray × ByteArray × Int × Int) := match v, o with
  | Go.Ab.AV.tup [Go.Ab.AV.agg [Go.Ab.AV.str a5, Go.Ab.AV.str a6, Go.Ab.AV.int Go.IntKind.i64 a7], Go.Ab.AV.int Go.IntKind.i64 a8], [] => some (a5, a6, a7, a8)
  | _, _ => none
noncomputable def spec_AppendRecord.A : Go.Ab.Ann := { live := fun _ => [], out := fun _ => [], cut := fun _ => none }
noncomputable def spec_AppendRecord.G (n : Nat) {R : Type} : Go.Ab.Ctr R := fun g args objs k => match g with | 41 => spec_l12Valid.ctr n args objs k | 54 => spec_l12Record.ctr n args objs k | 55 => spec_l12Line.ctr n args objs k | _ => none
noncomputable def spec_AppendRecord.B (i : Nat) : Go.Code := (Go.Ab.loopsOf (bodyOf Go.Proofs.Tryd.f27)).getD i Go.Code.skip
noncomputable def spec_AppendRecord.H (n : Nat) : Go.Ab.Hnd (ByteArray × ByteArray × Int × Int) := { loop := fun key _ v o K => none, cut := fun _ _ _ _ _ => none }
theorem spec_AppendRecord.loops (n0 : Nat) : ∀ b ∈ Go.Ab.loopsOf (bodyOf Go.Proofs.Tryd.f27), Go.Ab.LoopOk Go.Proofs.Tryd.prog (spec_AppendRecord.G n0) spec_AppendRecord.A (spec_AppendRecord.H n0) 32 0 b := Go.Ab.forall_nil (by kernel_rfl)
theorem spec_AppendRecord.cuts (n0 : Nat) : ∀ b ∈ Go.Ab.cutsOf spec_AppendRecord.A (bodyOf Go.Proofs.Tryd.f27), Go.Ab.CutOk Go.Proofs.Tryd.prog (spec_AppendRecord.G n0) spec_AppendRecord.A (spec_AppendRecord.H n0) 32 0 b := Go.Ab.forall_nil (by kernel_rfl)
theorem spec_AppendRecord.eq (n : Nat) (a0 : ByteArray) (a1 : ByteArray) (a2 : Int) (a3 : ByteArray) (a4 : ByteArray) : Go.Ab.funK Go.Proofs.Tryd.prog (spec_AppendRecord.G n) spec_AppendRecord.A (spec_AppendRecord.H n) false Go.Proofs.Tryd.f27 (bodyOf Go.Proofs.Tryd.f27) [Go.Ab.AV.agg [Go.Ab.AV.str a0, Go.Ab.AV.str a1, Go.Ab.AV.int Go.IntKind.i64 a2], Go.Ab.AV.agg [Go.Ab.AV.str a3, Go.Ab.AV.str a4]] [] spec_AppendRecord.dec = spec_AppendRecord.f n a0 a1 a2 a3 a4 := by kernel_rfl
theorem spec_AppendRecord.gok (X : Wd) (n : Nat) {R : Type} : Go.Ab.CtrOk (En X) (spec_AppendRecord.G n : Go.Ab.Ctr R) := by
  intro g args objs k r h
  unfold spec_AppendRecord.G at h
  split at h
  · exact spec_l12Valid.ok X _ args objs k r h
  · exact spec_l12Record.ok X _ args objs k r h
  · exact spec_l12Line.ok X _ args objs k r h
  · cases h
theorem spec_AppendRecord.hdec (r : (ByteArray × ByteArray × Int × Int)) (v : Go.Ab.AV) (o : List Go.Ab.AObj) (h : spec_AppendRecord.dec v o = some r) : v = Go.Ab.AV.tup [Go.Ab.AV.agg [Go.Ab.AV.str (r.1), Go.Ab.AV.str (r.2.1), Go.Ab.AV.int Go.IntKind.i64 (r.2.2.1)], Go.Ab.AV.int Go.IntKind.i64 (r.2.2.2)] ∧ o = [] := by
  unfold spec_AppendRecord.dec at h
  split at h
  · cases h; exact ⟨rfl, rfl⟩
  · cases h
theorem spec_AppendRecord.sim (X : Wd) (n : Nat) (a0 : ByteArray) (a1 : ByteArray) (a2 : Int) (a3 : ByteArray) (a4 : ByteArray) (r : (ByteArray × ByteArray × Int × Int)) (h : spec_AppendRecord.f n a0 a1 a2 a3 a4 = some r) : Go.Ab.Sim (En X) 27 [Go.Ab.AV.agg [Go.Ab.AV.str a0, Go.Ab.AV.str a1, Go.Ab.AV.int Go.IntKind.i64 a2], Go.Ab.AV.agg [Go.Ab.AV.str a3, Go.Ab.AV.str a4]] [] (Go.Ab.AV.tup [Go.Ab.AV.agg [Go.Ab.AV.str (r.1), Go.Ab.AV.str (r.2.1), Go.Ab.AV.int Go.IntKind.i64 (r.2.2.1)], Go.Ab.AV.int Go.IntKind.i64 (r.2.2.2)]) [] :=
  Go.Ab.sim_of (E := En X) (spec_AppendRecord.gok X n) mix (fn := Go.Proofs.Tryd.f27) (c := (bodyOf Go.Proofs.Tryd.f27)) (by kernel_rfl) (by kernel_rfl) (by kernel_rfl) (spec_AppendRecord.loops n) (spec_AppendRecord.cuts n) ((spec_AppendRecord.eq n a0 a1 a2 a3 a4).trans h) (spec_AppendRecord.hdec r)
noncomputable def spec_AppendRecord.ctr (n : Nat) {R : Type} : List Go.Ab.AV → List Go.Ab.AObj → (Go.Ab.AV → List Go.Ab.AObj → Option R) → Option R
  | [Go.Ab.AV.agg [Go.Ab.AV.str a0, Go.Ab.AV.str a1, Go.Ab.AV.int Go.IntKind.i64 a2], Go.Ab.AV.agg [Go.Ab.AV.str a3, Go.Ab.AV.str a4]], [], k => (spec_AppendRecord.f n a0 a1 a2 a3 a4).bind fun r => k (Go.Ab.AV.tup [Go.Ab.AV.agg [Go.Ab.AV.str (r.1), Go.Ab.AV.str (r.2.1), Go.Ab.AV.int Go.IntKind.i64 (r.2.2.1)], Go.Ab.AV.int Go.IntKind.i64 (r.2.2.2)]) []
  | _, _, _ => none
noncomputable def spec_AppendRecord.fits : List Go.Ab.AV → List Go.Ab.AObj → Bool
  | [Go.Ab.AV.agg [Go.Ab.AV.str a0, Go.Ab.AV.str a1, Go.Ab.AV.int Go.IntKind.i64 a2], Go.Ab.AV.agg [Go.Ab.AV.str a3, Go.Ab.AV.str a4]], [] => true
  | _, _ => false
theorem spec_AppendRecord.ok (X : Wd) (n : Nat) {R : Type} (args : List Go.Ab.AV) (objs : List Go.Ab.AObj) (k : Go.Ab.AV → List Go.Ab.AObj → Option R) (r : R) (h : spec_AppendRecord.ctr n args objs k = some r) :
    Go.Ab.Enters Go.Proofs.Tryd.prog 27 ∧ ∃ v objs', Go.Ab.Sim (En X) 27 args objs v objs' ∧ k v objs' = some r := by
  unfold spec_AppendRecord.ctr at h
  split at h
  · obtain ⟨x, h1, h2⟩ := Option.bind_eq_some_iff.1 h
    exact ⟨⟨Go.Proofs.Tryd.f27, by kernel_rfl, by kernel_rfl, by kernel_rfl⟩, _, _, spec_AppendRecord.sim X n _ _ _ _ _ x h1, h2⟩
  · cases h

noncomputable def spec_l1Cur_one.dec (v : Go.Ab.AV) (o : List Go.Ab.AObj) : Option (Bool × (List Go.Ab.AV) × Nat × Int × Int) := match v, o with
  | Go.Ab.AV.bool a5, [Go.Ab.AObj.cells Bool.true [Go.Ab.AV.sval a6 a7 Bool.false, Go.Ab.AV.int Go.IntKind.i64 a8, Go.Ab.AV.int Go.IntKind.u64 a9]] => some (a5, a6, a7, a8, a9)
  | _, _ => none
noncomputable def spec_l1Cur_one.A : Go.Ab.Ann := { live := fun _ => [], out := fun _ => [], cut := fun _ => none }
noncomputable def spec_l1Cur_one.G (n : Nat) {R : Type} : Go.Ab.Ctr R := fun g args objs k => match g with | 58 => spec_l1Cur_pick.ctr n args objs k | _ => none
noncomputable def spec_l1Cur_one.B (i : Nat) : Go.Code := (Go.Ab.loopsOf (bodyOf Go.Proofs.Tryd.f57)).getD i Go.Code.skip
noncomputable def spec_l1Cur_one.H (n : Nat) : Go.Ab.Hnd (Bool × (List Go.Ab.AV) × Nat × Int × Int) := { loop := fun key _ v o K => none, cut := fun _ _ _ _ _ => none }
theorem spec_l1Cur_one.loops (n0 : Nat) : ∀ b ∈ Go.Ab.loopsOf (bodyOf Go.Proofs.Tryd.f57), Go.Ab.LoopOk Go.Proofs.Tryd.prog (spec_l1Cur_one.G n0) spec_l1Cur_one.A (spec_l1Cur_one.H n0) 9 1 b := Go.Ab.forall_nil (by kernel_rfl)
theorem spec_l1Cur_one.cuts (n0 : Nat) : ∀ b ∈ Go.Ab.cutsOf spec_l1Cur_one.A (bodyOf Go.Proofs.Tryd.f57), Go.Ab.CutOk Go.Proofs.Tryd.prog (spec_l1Cur_one.G n0) spec_l1Cur_one.A (spec_l1Cur_one.H n0) 9 1 b := Go.Ab.forall_nil (by kernel_rfl)
theorem spec_l1Cur_one.eq (n : Nat) (a4 : Int) (a0 : List Go.Ab.AV) (a1 : Nat) (a2 : Int) (a3 : Int) : Go.Ab.funK Go.Proofs.Tryd.prog (spec_l1Cur_one.G n) spec_l1Cur_one.A (spec_l1Cur_one.H n) false Go.Proofs.Tryd.f57 (bodyOf Go.Proofs.Tryd.f57) [Go.Ab.AV.ptr 0 0, Go.Ab.AV.int Go.IntKind.i64 a4] [Go.Ab.AObj.cells Bool.true [Go.Ab.AV.sval a0 a1 Bool.false, Go.Ab.AV.int Go.IntKind.i64 a2, Go.Ab.AV.int Go.IntKind.u64 a3]] spec_l1Cur_one.dec = spec_l1Cur_one.f n a4 a0 a1 a2 a3 := by kernel_rfl
theorem spec_l1Cur_one.gok (X : Wd) (n : Nat) {R : Type} : Go.Ab.CtrOk (En X) (spec_l1Cur_one.G n : Go.Ab.Ctr R) := by
  intro g args objs k r h
  unfold spec_l1Cur_one.G at h
  split at h
  · exact spec_l1Cur_pick.ok X _ args objs k r h
  · cases h
theorem spec_l1Cur_one.hdec (r : (Bool × (List Go.Ab.AV) × Nat × Int × Int)) (v : Go.Ab.AV) (o : List Go.Ab.AObj) (h : spec_l1Cur_one.dec v o = some r) : v = Go.Ab.AV.bool (r.1) ∧ o = [Go.Ab.AObj.cells Bool.true [Go.Ab.AV.sval (r.2.1) (r.2.2.1) Bool.false, Go.Ab.AV.int Go.IntKind.i64 (r.2.2.2.1), Go.Ab.AV.int Go.IntKind.u64 (r.2.2.2.2)]] := by
  unfold spec_l1Cur_one.dec at h
  split at h
  · cases h; exact ⟨rfl, rfl⟩
  · cases h
theorem spec_l1Cur_one.sim (X : Wd) (n : Nat) (a4 : Int) (a0 : List Go.Ab.AV) (a1 : Nat) (a2 : Int) (a3 : Int) (r : (Bool × (List Go.Ab.AV) × Nat × Int × Int)) (h : spec_l1Cur_one.f n a4 a0 a1 a2 a3 = some r) : Go.Ab.Sim (En X) 57 [Go.Ab.AV.ptr 0 0, Go.Ab.AV.int Go.IntKind.i64 a4] [Go.Ab.AObj.cells Bool.true [Go.Ab.AV.sval a0 a1 Bool.false, Go.Ab.AV.int Go.IntKind.i64 a2, Go.Ab.AV.int Go.IntKind.u64 a3]] (Go.Ab.AV.bool (r.1)) [Go.Ab.AObj.cells Bool.true [Go.Ab.AV.sval (r.2.1) (r.2.2.1) Bool.false, Go.Ab.AV.int Go.IntKind.i64 (r.2.2.2.1), Go.Ab.AV.int Go.IntKind.u64 (r.2.2.2.2)]] :=
  Go.Ab.sim_of (E := En X) (spec_l1Cur_one.gok X n) mix (fn := Go.Proofs.Tryd.f57) (c := (bodyOf Go.Proofs.Tryd.f57)) (by kernel_rfl) (by kernel_rfl) (by kernel_rfl) (spec_l1Cur_one.loops n) (spec_l1Cur_one.cuts n) ((spec_l1Cur_one.eq n a4 a0 a1 a2 a3).trans h) (spec_l1Cur_one.hdec r)
noncomputable def spec_l1Cur_one.ctr (n : Nat) {R : Type} : List Go.Ab.AV → List Go.Ab.AObj → (Go.Ab.AV → List Go.Ab.AObj → Option R) → Option R
  | [Go.Ab.AV.ptr 0 0, Go.Ab.AV.int Go.IntKind.i64 a4], [Go.Ab.AObj.cells Bool.true [Go.Ab.AV.sval a0 a1 Bool.false, Go.Ab.AV.int Go.IntKind.i64 a2, Go.Ab.AV.int Go.IntKind.u64 a3]], k => (spec_l1Cur_one.f n a4 a0 a1 a2 a3).bind fun r => k (Go.Ab.AV.bool (r.1)) [Go.Ab.AObj.cells Bool.true [Go.Ab.AV.sval (r.2.1) (r.2.2.1) Bool.false, Go.Ab.AV.int Go.IntKind.i64 (r.2.2.2.1), Go.Ab.AV.int Go.IntKind.u64 (r.2.2.2.2)]]
  | _, _, _ => none
noncomputable def spec_l1Cur_one.fits : List Go.Ab.AV → List Go.Ab.AObj → Bool
  | [Go.Ab.AV.ptr 0 0, Go.Ab.AV.int Go.IntKind.i64 a4], [Go.Ab.AObj.cells Bool.true [Go.Ab.AV.sval a0 a1 Bool.false, Go.Ab.AV.int Go.IntKind.i64 a2, Go.Ab.AV.int Go.IntKind.u64 a3]] => true
  | _, _ => false
theorem spec_l1Cur_one.ok (X : Wd) (n : Nat) {R : Type} (args : List Go.Ab.AV) (objs : List Go.Ab.AObj) (k : Go.Ab.AV → List Go.Ab.AObj → Option R) (r : R) (h : spec_l1Cur_one.ctr n args objs k = some r) :
    Go.Ab.Enters Go.Proofs.Tryd.prog 57 ∧ ∃ v objs', Go.Ab.Sim (En X) 57 args objs v objs' ∧ k v objs' = some r := by
  unfold spec_l1Cur_one.ctr at h
  split at h
  · obtain ⟨x, h1, h2⟩ := Option.bind_eq_some_iff.1 h
    exact ⟨⟨Go.Proofs.Tryd.f57, by kernel_rfl, by kernel_rfl, by kernel_rfl⟩, _, _, spec_l1Cur_one.sim X n _ _ _ _ _ x h1, h2⟩
  · cases h

noncomputable def spec_SyncLog.dec (v : Go.Ab.AV) (o : List Go.Ab.AObj) : Option (ByteArray × ByteArray × Int × Bool) := match v, o with
  | Go.Ab.AV.tup [Go.Ab.AV.agg [Go.Ab.AV.str a3, Go.Ab.AV.str a4, Go.Ab.AV.int Go.IntKind.i64 a5], Go.Ab.AV.bool a6], [] => some (a3, a4, a5, a6)
  | _, _ => none
noncomputable def spec_SyncLog.A : Go.Ab.Ann := { live := fun _ => [], out := fun _ => [], cut := fun _ => none }
noncomputable def spec_SyncLog.G (n : Nat) {R : Type} : Go.Ab.Ctr R := fun g args objs k => match g with | 41 => spec_l12Valid.ctr n args objs k | _ => none
noncomputable def spec_SyncLog.B (i : Nat) : Go.Code := (Go.Ab.loopsOf (bodyOf Go.Proofs.Tryd.f33)).getD i Go.Code.skip
noncomputable def spec_SyncLog.H (n : Nat) : Go.Ab.Hnd (ByteArray × ByteArray × Int × Bool) := { loop := fun key _ v o K => none, cut := fun _ _ _ _ _ => none }
theorem spec_SyncLog.loops (n0 : Nat) : ∀ b ∈ Go.Ab.loopsOf (bodyOf Go.Proofs.Tryd.f33), Go.Ab.LoopOk Go.Proofs.Tryd.prog (spec_SyncLog.G n0) spec_SyncLog.A (spec_SyncLog.H n0) 16 0 b := Go.Ab.forall_nil (by kernel_rfl)
theorem spec_SyncLog.cuts (n0 : Nat) : ∀ b ∈ Go.Ab.cutsOf spec_SyncLog.A (bodyOf Go.Proofs.Tryd.f33), Go.Ab.CutOk Go.Proofs.Tryd.prog (spec_SyncLog.G n0) spec_SyncLog.A (spec_SyncLog.H n0) 16 0 b := Go.Ab.forall_nil (by kernel_rfl)
theorem spec_SyncLog.eq (n : Nat) (a0 : ByteArray) (a1 : ByteArray) (a2 : Int) : Go.Ab.funK Go.Proofs.Tryd.prog (spec_SyncLog.G n) spec_SyncLog.A (spec_SyncLog.H n) false Go.Proofs.Tryd.f33 (bodyOf Go.Proofs.Tryd.f33) [Go.Ab.AV.agg [Go.Ab.AV.str a0, Go.Ab.AV.str a1, Go.Ab.AV.int Go.IntKind.i64 a2]] [] spec_SyncLog.dec = spec_SyncLog.f n a0 a1 a2 := by kernel_rfl
theorem spec_SyncLog.gok (X : Wd) (n : Nat) {R : Type} : Go.Ab.CtrOk (En X) (spec_SyncLog.G n : Go.Ab.Ctr R) := by
  intro g args objs k r h
  unfold spec_SyncLog.G at h
  split at h
  · exact spec_l12Valid.ok X _ args objs k r h
  · cases h
theorem spec_SyncLog.hdec (r : (ByteArray × ByteArray × Int × Bool)) (v : Go.Ab.AV) (o : List Go.Ab.AObj) (h : spec_SyncLog.dec v o = some r) : v = Go.Ab.AV.tup [Go.Ab.AV.agg [Go.Ab.AV.str (r.1), Go.Ab.AV.str (r.2.1), Go.Ab.AV.int Go.IntKind.i64 (r.2.2.1)], Go.Ab.AV.bool (r.2.2.2)] ∧ o = [] := by
  unfold spec_SyncLog.dec at h
  split at h
  · cases h; exact ⟨rfl, rfl⟩
  · cases h
theorem spec_SyncLog.sim (X : Wd) (n : Nat) (a0 : ByteArray) (a1 : ByteArray) (a2 : Int) (r : (ByteArray × ByteArray × Int × Bool)) (h : spec_SyncLog.f n a0 a1 a2 = some r) : Go.Ab.Sim (En X) 33 [Go.Ab.AV.agg [Go.Ab.AV.str a0, Go.Ab.AV.str a1, Go.Ab.AV.int Go.IntKind.i64 a2]] [] (Go.Ab.AV.tup [Go.Ab.AV.agg [Go.Ab.AV.str (r.1), Go.Ab.AV.str (r.2.1), Go.Ab.AV.int Go.IntKind.i64 (r.2.2.1)], Go.Ab.AV.bool (r.2.2.2)]) [] :=
  Go.Ab.sim_of (E := En X) (spec_SyncLog.gok X n) mix (fn := Go.Proofs.Tryd.f33) (c := (bodyOf Go.Proofs.Tryd.f33)) (by kernel_rfl) (by kernel_rfl) (by kernel_rfl) (spec_SyncLog.loops n) (spec_SyncLog.cuts n) ((spec_SyncLog.eq n a0 a1 a2).trans h) (spec_SyncLog.hdec r)
noncomputable def spec_SyncLog.ctr (n : Nat) {R : Type} : List Go.Ab.AV → List Go.Ab.AObj → (Go.Ab.AV → List Go.Ab.AObj → Option R) → Option R
  | [Go.Ab.AV.agg [Go.Ab.AV.str a0, Go.Ab.AV.str a1, Go.Ab.AV.int Go.IntKind.i64 a2]], [], k => (spec_SyncLog.f n a0 a1 a2).bind fun r => k (Go.Ab.AV.tup [Go.Ab.AV.agg [Go.Ab.AV.str (r.1), Go.Ab.AV.str (r.2.1), Go.Ab.AV.int Go.IntKind.i64 (r.2.2.1)], Go.Ab.AV.bool (r.2.2.2)]) []
  | _, _, _ => none
noncomputable def spec_SyncLog.fits : List Go.Ab.AV → List Go.Ab.AObj → Bool
  | [Go.Ab.AV.agg [Go.Ab.AV.str a0, Go.Ab.AV.str a1, Go.Ab.AV.int Go.IntKind.i64 a2]], [] => true
  | _, _ => false
theorem spec_SyncLog.ok (X : Wd) (n : Nat) {R : Type} (args : List Go.Ab.AV) (objs : List Go.Ab.AObj) (k : Go.Ab.AV → List Go.Ab.AObj → Option R) (r : R) (h : spec_SyncLog.ctr n args objs k = some r) :
    Go.Ab.Enters Go.Proofs.Tryd.prog 33 ∧ ∃ v objs', Go.Ab.Sim (En X) 33 args objs v objs' ∧ k v objs' = some r := by
  unfold spec_SyncLog.ctr at h
  split at h
  · obtain ⟨x, h1, h2⟩ := Option.bind_eq_some_iff.1 h
    exact ⟨⟨Go.Proofs.Tryd.f33, by kernel_rfl, by kernel_rfl, by kernel_rfl⟩, _, _, spec_SyncLog.sim X n _ _ _ x h1, h2⟩
  · cases h

noncomputable def spec_l1Cur_log12.dec (v : Go.Ab.AV) (o : List Go.Ab.AObj) : Option (ByteArray × ByteArray × Int × (List Go.Ab.AV) × Nat × Int × Int) := match v, o with
  | Go.Ab.AV.agg [Go.Ab.AV.str a4, Go.Ab.AV.str a5, Go.Ab.AV.int Go.IntKind.i64 a6], [Go.Ab.AObj.cells Bool.true [Go.Ab.AV.sval a7 a8 Bool.false, Go.Ab.AV.int Go.IntKind.i64 a9, Go.Ab.AV.int Go.IntKind.u64 a10]] => some (a4, a5, a6, a7, a8, a9, a10)
  | _, _ => none
noncomputable def spec_l1Cur_log12.A : Go.Ab.Ann := { live := fun k => match k with | 3 => [0, 2, 3, 4] | _ => [], out := fun k => match k with | 3 => [2, 3] | _ => [], cut := fun _ => none }
noncomputable def spec_l1Cur_log12.G (n : Nat) {R : Type} : Go.Ab.Ctr R := fun g args objs k => match g with | 58 => spec_l1Cur_pick.ctr n args objs k | 49 => spec_l1Cur_logRecord.ctr n args objs k | 27 => spec_AppendRecord.ctr n args objs k | 57 => spec_l1Cur_one.ctr n args objs k | 33 => spec_SyncLog.ctr n args objs k | _ => none
noncomputable def spec_l1Cur_log12.B (i : Nat) : Go.Code := (Go.Ab.loopsOf (bodyOf Go.Proofs.Tryd.f62)).getD i Go.Code.skip
noncomputable def spec_l1Cur_log12.h3 (n : Nat) (v : List Go.Ab.AV) (o : List Go.Ab.AObj) (K : Go.Ab.Kont (ByteArray × ByteArray × Int × (List Go.Ab.AV) × Nat × Int × Int)) : Option (ByteArray × ByteArray × Int × (List Go.Ab.AV) × Nat × Int × Int) := match v, o with
  | [Go.Ab.AV.ptr 0 0, Go.Ab.AV.ptr 1 0, Go.Ab.AV.ptr 2 0, Go.Ab.AV.int Go.IntKind.i64 x19], [Go.Ab.AObj.cells Bool.true [Go.Ab.AV.sval x20 x21 Bool.false, Go.Ab.AV.int Go.IntKind.i64 x22, Go.Ab.AV.int Go.IntKind.u64 x23], Go.Ab.AObj.cells Bool.true [Go.Ab.AV.str x24, Go.Ab.AV.str x25, Go.Ab.AV.int Go.IntKind.i64 x26], Go.Ab.AObj.cells Bool.true [Go.Ab.AV.str x27, Go.Ab.AV.str x28, Go.Ab.AV.int Go.IntKind.i64 x29]] => spec_l1Cur_log12.l3 n (fun y55 y56 y57 y58 y59 y60 y61 y62 y63 y64 => K (Go.Ab.Ex.exit 0) [Go.Ab.AV.ptr 1 0, Go.Ab.AV.ptr 2 0] [Go.Ab.AObj.cells Bool.true [Go.Ab.AV.sval y55 y56 Bool.false, Go.Ab.AV.int Go.IntKind.i64 y57, Go.Ab.AV.int Go.IntKind.u64 y58], Go.Ab.AObj.cells Bool.true [Go.Ab.AV.str y59, Go.Ab.AV.str y60, Go.Ab.AV.int Go.IntKind.i64 y61], Go.Ab.AObj.cells Bool.true [Go.Ab.AV.str y62, Go.Ab.AV.str y63, Go.Ab.AV.int Go.IntKind.i64 y64]]) n x19 x20 x21 x22 x23 x24 x25 x26 x27 x28 x29
  | _, _ => none
noncomputable def spec_l1Cur_log12.H (n : Nat) : Go.Ab.Hnd (ByteArray × ByteArray × Int × (List Go.Ab.AV) × Nat × Int × Int) := { loop := fun key _ v o K => match key with | 3 => spec_l1Cur_log12.h3 n v o K | _ => none, cut := fun _ _ _ _ _ => none }
theorem spec_l1Cur_log12.loop3 (n0 : Nat) (K : Go.Ab.Kont (ByteArray × ByteArray × Int × (List Go.Ab.AV) × Nat × Int × Int)) : ∀ (n : Nat) (x19 : Int) (x20 : List Go.Ab.AV) (x21 : Nat) (x22 : Int) (x23 : Int) (x24 : ByteArray) (x25 : ByteArray) (x26 : Int) (x27 : ByteArray) (x28 : ByteArray) (x29 : Int), Go.Ab.loopK 27 1 (spec_l1Cur_log12.A.live 3) (spec_l1Cur_log12.A.out 3) (fun t o k => Go.Ab.denK Go.Proofs.Tryd.prog (spec_l1Cur_log12.G n0) spec_l1Cur_log12.A (spec_l1Cur_log12.H n0) 27 1 (spec_l1Cur_log12.B 0) t o k) n [Go.Ab.AV.ptr 0 0, Go.Ab.AV.ptr 1 0, Go.Ab.AV.ptr 2 0, Go.Ab.AV.int Go.IntKind.i64 x19] [Go.Ab.AObj.cells Bool.true [Go.Ab.AV.sval x20 x21 Bool.false, Go.Ab.AV.int Go.IntKind.i64 x22, Go.Ab.AV.int Go.IntKind.u64 x23], Go.Ab.AObj.cells Bool.true [Go.Ab.AV.str x24, Go.Ab.AV.str x25, Go.Ab.AV.int Go.IntKind.i64 x26], Go.Ab.AObj.cells Bool.true [Go.Ab.AV.str x27, Go.Ab.AV.str x28, Go.Ab.AV.int Go.IntKind.i64 x29]] K = spec_l1Cur_log12.l3 n0 (fun y55 y56 y57 y58 y59 y60 y61 y62 y63 y64 => K (Go.Ab.Ex.exit 0) [Go.Ab.AV.ptr 1 0, Go.Ab.AV.ptr 2 0] [Go.Ab.AObj.cells Bool.true [Go.Ab.AV.sval y55 y56 Bool.false, Go.Ab.AV.int Go.IntKind.i64 y57, Go.Ab.AV.int Go.IntKind.u64 y58], Go.Ab.AObj.cells Bool.true [Go.Ab.AV.str y59, Go.Ab.AV.str y60, Go.Ab.AV.int Go.IntKind.i64 y61], Go.Ab.AObj.cells Bool.true [Go.Ab.AV.str y62, Go.Ab.AV.str y63, Go.Ab.AV.int Go.IntKind.i64 y64]]) n x19 x20 x21 x22 x23 x24 x25 x26 x27 x28 x29
  | 0, _, _, _, _, _, _, _, _, _, _, _ => rfl
  | n + 1, x19, x20, x21, x22, x23, x24, x25, x26, x27, x28, x29 => by
    have ih : (fun (x19 : Int) (x20 : List Go.Ab.AV) (x21 : Nat) (x22 : Int) (x23 : Int) (x24 : ByteArray) (x25 : ByteArray) (x26 : Int) (x27 : ByteArray) (x28 : ByteArray) (x29 : Int) => Go.Ab.loopK 27 1 (spec_l1Cur_log12.A.live 3) (spec_l1Cur_log12.A.out 3) (fun t o k => Go.Ab.denK Go.Proofs.Tryd.prog (spec_l1Cur_log12.G n0) spec_l1Cur_log12.A (spec_l1Cur_log12.H n0) 27 1 (spec_l1Cur_log12.B 0) t o k) n [Go.Ab.AV.ptr 0 0, Go.Ab.AV.ptr 1 0, Go.Ab.AV.ptr 2 0, Go.Ab.AV.int Go.IntKind.i64 x19] [Go.Ab.AObj.cells Bool.true [Go.Ab.AV.sval x20 x21 Bool.false, Go.Ab.AV.int Go.IntKind.i64 x22, Go.Ab.AV.int Go.IntKind.u64 x23], Go.Ab.AObj.cells Bool.true [Go.Ab.AV.str x24, Go.Ab.AV.str x25, Go.Ab.AV.int Go.IntKind.i64 x26], Go.Ab.AObj.cells Bool.true [Go.Ab.AV.str x27, Go.Ab.AV.str x28, Go.Ab.AV.int Go.IntKind.i64 x29]] K) = spec_l1Cur_log12.l3 n0 (fun y55 y56 y57 y58 y59 y60 y61 y62 y63 y64 => K (Go.Ab.Ex.exit 0) [Go.Ab.AV.ptr 1 0, Go.Ab.AV.ptr 2 0] [Go.Ab.AObj.cells Bool.true [Go.Ab.AV.sval y55 y56 Bool.false, Go.Ab.AV.int Go.IntKind.i64 y57, Go.Ab.AV.int Go.IntKind.u64 y58], Go.Ab.AObj.cells Bool.true [Go.Ab.AV.str y59, Go.Ab.AV.str y60, Go.Ab.AV.int Go.IntKind.i64 y61], Go.Ab.AObj.cells Bool.true [Go.Ab.AV.str y62, Go.Ab.AV.str y63, Go.Ab.AV.int Go.IntKind.i64 y64]]) n := by funext x19 x20 x21 x22 x23 x24 x25 x26 x27 x28 x29; exact spec_l1Cur_log12.loop3 n0 K n x19 x20 x21 x22 x23 x24 x25 x26 x27 x28 x29
    have st : Go.Ab.loopK 27 1 (spec_l1Cur_log12.A.live 3) (spec_l1Cur_log12.A.out 3) (fun t o k => Go.Ab.denK Go.Proofs.Tryd.prog (spec_l1Cur_log12.G n0) spec_l1Cur_log12.A (spec_l1Cur_log12.H n0) 27 1 (spec_l1Cur_log12.B 0) t o k) (n + 1) [Go.Ab.AV.ptr 0 0, Go.Ab.AV.ptr 1 0, Go.Ab.AV.ptr 2 0, Go.Ab.AV.int Go.IntKind.i64 x19] [Go.Ab.AObj.cells Bool.true [Go.Ab.AV.sval x20 x21 Bool.false, Go.Ab.AV.int Go.IntKind.i64 x22, Go.Ab.AV.int Go.IntKind.u64 x23], Go.Ab.AObj.cells Bool.true [Go.Ab.AV.str x24, Go.Ab.AV.str x25, Go.Ab.AV.int Go.IntKind.i64 x26], Go.Ab.AObj.cells Bool.true [Go.Ab.AV.str x27, Go.Ab.AV.str x28, Go.Ab.AV.int Go.IntKind.i64 x29]] K = spec_l1Cur_log12.l3S n0 (fun (x19 : Int) (x20 : List Go.Ab.AV) (x21 : Nat) (x22 : Int) (x23 : Int) (x24 : ByteArray) (x25 : ByteArray) (x26 : Int) (x27 : ByteArray) (x28 : ByteArray) (x29 : Int) => Go.Ab.loopK 27 1 (spec_l1Cur_log12.A.live 3) (spec_l1Cur_log12.A.out 3) (fun t o k => Go.Ab.denK Go.Proofs.Tryd.prog (spec_l1Cur_log12.G n0) spec_l1Cur_log12.A (spec_l1Cur_log12.H n0) 27 1 (spec_l1Cur_log12.B 0) t o k) n [Go.Ab.AV.ptr 0 0, Go.Ab.AV.ptr 1 0, Go.Ab.AV.ptr 2 0, Go.Ab.AV.int Go.IntKind.i64 x19] [Go.Ab.AObj.cells Bool.true [Go.Ab.AV.sval x20 x21 Bool.false, Go.Ab.AV.int Go.IntKind.i64 x22, Go.Ab.AV.int Go.IntKind.u64 x23], Go.Ab.AObj.cells Bool.true [Go.Ab.AV.str x24, Go.Ab.AV.str x25, Go.Ab.AV.int Go.IntKind.i64 x26], Go.Ab.AObj.cells Bool.true [Go.Ab.AV.str x27, Go.Ab.AV.str x28, Go.Ab.AV.int Go.IntKind.i64 x29]] K) (fun y55 y56 y57 y58 y59 y60 y61 y62 y63 y64 => K (Go.Ab.Ex.exit 0) [Go.Ab.AV.ptr 1 0, Go.Ab.AV.ptr 2 0] [Go.Ab.AObj.cells Bool.true [Go.Ab.AV.sval y55 y56 Bool.false, Go.Ab.AV.int Go.IntKind.i64 y57, Go.Ab.AV.int Go.IntKind.u64 y58], Go.Ab.AObj.cells Bool.true [Go.Ab.AV.str y59, Go.Ab.AV.str y60, Go.Ab.AV.int Go.IntKind.i64 y61], Go.Ab.AObj.cells Bool.true [Go.Ab.AV.str y62, Go.Ab.AV.str y63, Go.Ab.AV.int Go.IntKind.i64 y64]]) x19 x20 x21 x22 x23 x24 x25 x26 x27 x28 x29 := by kernel_rfl
    rw [st, ih]; rfl
theorem spec_l1Cur_log12.lok3 (n0 : Nat) : Go.Ab.LoopOk Go.Proofs.Tryd.prog (spec_l1Cur_log12.G n0) spec_l1Cur_log12.A (spec_l1Cur_log12.H n0) 27 1 (spec_l1Cur_log12.B 0) := by
  intro v o K r h
  have hk : Go.Ab.key (spec_l1Cur_log12.B 0) = 3 := by kernel_rfl
  rw [hk] at h ⊢
  change spec_l1Cur_log12.h3 n0 v o K = some r at h
  unfold spec_l1Cur_log12.h3 at h
  split at h
  · exact ⟨n0, by rw [spec_l1Cur_log12.loop3]; exact h⟩
  · cases h
theorem spec_l1Cur_log12.loops (n0 : Nat) : ∀ b ∈ Go.Ab.loopsOf (bodyOf Go.Proofs.Tryd.f62), Go.Ab.LoopOk Go.Proofs.Tryd.prog (spec_l1Cur_log12.G n0) spec_l1Cur_log12.A (spec_l1Cur_log12.H n0) 27 1 b :=
  Go.Ab.forall_getD 1 (by kernel_rfl) Go.Code.skip fun i hi => match i, hi with
    | 0, _ => spec_l1Cur_log12.lok3 n0
    | j + 1, hj => absurd hj (by omega)
theorem spec_l1Cur_log12.cuts (n0 : Nat) : ∀ b ∈ Go.Ab.cutsOf spec_l1Cur_log12.A (bodyOf Go.Proofs.Tryd.f62), Go.Ab.CutOk Go.Proofs.Tryd.prog (spec_l1Cur_log12.G n0) spec_l1Cur_log12.A (spec_l1Cur_log12.H n0) 27 1 b := Go.Ab.forall_nil (by kernel_rfl)
theorem spec_l1Cur_log12.eq (n : Nat) (a0 : List Go.Ab.AV) (a1 : Nat) (a2 : Int) (a3 : Int) : Go.Ab.funK Go.Proofs.Tryd.prog (spec_l1Cur_log12.G n) spec_l1Cur_log12.A (spec_l1Cur_log12.H n) false Go.Proofs.Tryd.f62 (bodyOf Go.Proofs.Tryd.f62) [Go.Ab.AV.ptr 0 0] [Go.Ab.AObj.cells Bool.true [Go.Ab.AV.sval a0 a1 Bool.false, Go.Ab.AV.int Go.IntKind.i64 a2, Go.Ab.AV.int Go.IntKind.u64 a3]] spec_l1Cur_log12.dec = spec_l1Cur_log12.f n a0 a1 a2 a3 := by kernel_rfl
theorem spec_l1Cur_log12.gok (X : Wd) (n : Nat) {R : Type} : Go.Ab.CtrOk (En X) (spec_l1Cur_log12.G n : Go.Ab.Ctr R) := by
  intro g args objs k r h
  unfold spec_l1Cur_log12.G at h
  split at h
  · exact spec_l1Cur_pick.ok X _ args objs k r h
  · exact spec_l1Cur_logRecord.ok X _ args objs k r h
  · exact spec_AppendRecord.ok X _ args objs k r h
  · exact spec_l1Cur_one.ok X _ args objs k r h
  · exact spec_SyncLog.ok X _ args objs k r h
  · cases h
theorem spec_l1Cur_log12.hdec (r : (ByteArray × ByteArray × Int × (List Go.Ab.AV) × Nat × Int × Int)) (v : Go.Ab.AV) (o : List Go.Ab.AObj) (h : spec_l1Cur_log12.dec v o = some r) : v = Go.Ab.AV.agg [Go.Ab.AV.str (r.1), Go.Ab.AV.str (r.2.1), Go.Ab.AV.int Go.IntKind.i64 (r.2.2.1)] ∧ o = [Go.Ab.AObj.cells Bool.true [Go.Ab.AV.sval (r.2.2.2.1) (r.2.2.2.2.1) Bool.false, Go.Ab.AV.int Go.IntKind.i64 (r.2.2.2.2.2.1), Go.Ab.AV.int Go.IntKind.u64 (r.2.2.2.2.2.2)]] := by
  unfold spec_l1Cur_log12.dec at h
  split at h
  · cases h; exact ⟨rfl, rfl⟩
  · cases h
theorem spec_l1Cur_log12.sim (X : Wd) (n : Nat) (a0 : List Go.Ab.AV) (a1 : Nat) (a2 : Int) (a3 : Int) (r : (ByteArray × ByteArray × Int × (List Go.Ab.AV) × Nat × Int × Int)) (h : spec_l1Cur_log12.f n a0 a1 a2 a3 = some r) : Go.Ab.Sim (En X) 62 [Go.Ab.AV.ptr 0 0] [Go.Ab.AObj.cells Bool.true [Go.Ab.AV.sval a0 a1 Bool.false, Go.Ab.AV.int Go.IntKind.i64 a2, Go.Ab.AV.int Go.IntKind.u64 a3]] (Go.Ab.AV.agg [Go.Ab.AV.str (r.1), Go.Ab.AV.str (r.2.1), Go.Ab.AV.int Go.IntKind.i64 (r.2.2.1)]) [Go.Ab.AObj.cells Bool.true [Go.Ab.AV.sval (r.2.2.2.1) (r.2.2.2.2.1) Bool.false, Go.Ab.AV.int Go.IntKind.i64 (r.2.2.2.2.2.1), Go.Ab.AV.int Go.IntKind.u64 (r.2.2.2.2.2.2)]] :=
  Go.Ab.sim_of (E := En X) (spec_l1Cur_log12.gok X n) mix (fn := Go.Proofs.Tryd.f62) (c := (bodyOf Go.Proofs.Tryd.f62)) (by kernel_rfl) (by kernel_rfl) (by kernel_rfl) (spec_l1Cur_log12.loops n) (spec_l1Cur_log12.cuts n) ((spec_l1Cur_log12.eq n a0 a1 a2 a3).trans h) (spec_l1Cur_log12.hdec r)
noncomputable def spec_l1Cur_log12.ctr (n : Nat) {R : Type} : List Go.Ab.AV → List Go.Ab.AObj → (Go.Ab.AV → List Go.Ab.AObj → Option R) → Option R
  | [Go.Ab.AV.ptr 0 0], [Go.Ab.AObj.cells Bool.true [Go.Ab.AV.sval a0 a1 Bool.false, Go.Ab.AV.int Go.IntKind.i64 a2, Go.Ab.AV.int Go.IntKind.u64 a3]], k => (spec_l1Cur_log12.f n a0 a1 a2 a3).bind fun r => k (Go.Ab.AV.agg [Go.Ab.AV.str (r.1), Go.Ab.AV.str (r.2.1), Go.Ab.AV.int Go.IntKind.i64 (r.2.2.1)]) [Go.Ab.AObj.cells Bool.true [Go.Ab.AV.sval (r.2.2.2.1) (r.2.2.2.2.1) Bool.false, Go.Ab.AV.int Go.IntKind.i64 (r.2.2.2.2.2.1), Go.Ab.AV.int Go.IntKind.u64 (r.2.2.2.2.2.2)]]
  | _, _, _ => none
noncomputable def spec_l1Cur_log12.fits : List Go.Ab.AV → List Go.Ab.AObj → Bool
  | [Go.Ab.AV.ptr 0 0], [Go.Ab.AObj.cells Bool.true [Go.Ab.AV.sval a0 a1 Bool.false, Go.Ab.AV.int Go.IntKind.i64 a2, Go.Ab.AV.int Go.IntKind.u64 a3]] => true
  | _, _ => false
theorem spec_l1Cur_log12.ok (X : Wd) (n : Nat) {R : Type} (args : List Go.Ab.AV) (objs : List Go.Ab.AObj) (k : Go.Ab.AV → List Go.Ab.AObj → Option R) (r : R) (h : spec_l1Cur_log12.ctr n args objs k = some r) :
    Go.Ab.Enters Go.Proofs.Tryd.prog 62 ∧ ∃ v objs', Go.Ab.Sim (En X) 62 args objs v objs' ∧ k v objs' = some r := by
  unfold spec_l1Cur_log12.ctr at h
  split at h
  · obtain ⟨x, h1, h2⟩ := Option.bind_eq_some_iff.1 h
    exact ⟨⟨Go.Proofs.Tryd.f62, by kernel_rfl, by kernel_rfl, by kernel_rfl⟩, _, _, spec_l1Cur_log12.sim X n _ _ _ _ x h1, h2⟩
  · cases h

noncomputable def spec_l1Cur_spoilt.dec (v : Go.Ab.AV) (o : List Go.Ab.AObj) : Option (ByteArray × (List Go.Ab.AV) × Nat × Int × Int) := match v, o with
  | Go.Ab.AV.str a6, [Go.Ab.AObj.cells Bool.true [Go.Ab.AV.sval a7 a8 Bool.false, Go.Ab.AV.int Go.IntKind.i64 a9, Go.Ab.AV.int Go.IntKind.u64 a10]] => some (a6, a7, a8, a9, a10)
  | _, _ => none
noncomputable def spec_l1Cur_spoilt.A : Go.Ab.Ann := { live := fun _ => [], out := fun _ => [], cut := fun _ => none }
noncomputable def spec_l1Cur_spoilt.G (n : Nat) {R : Type} : Go.Ab.Ctr R := fun g args objs k => match g with | 58 => spec_l1Cur_pick.ctr n args objs k | _ => none
noncomputable def spec_l1Cur_spoilt.B (i : Nat) : Go.Code := (Go.Ab.loopsOf (bodyOf Go.Proofs.Tryd.f63)).getD i Go.Code.skip
noncomputable def spec_l1Cur_spoilt.H (n : Nat) : Go.Ab.Hnd (ByteArray × (List Go.Ab.AV) × Nat × Int × Int) := { loop := fun key _ v o K => none, cut := fun _ _ _ _ _ => none }
theorem spec_l1Cur_spoilt.loops (n0 : Nat) : ∀ b ∈ Go.Ab.loopsOf (bodyOf Go.Proofs.Tryd.f63), Go.Ab.LoopOk Go.Proofs.Tryd.prog (spec_l1Cur_spoilt.G n0) spec_l1Cur_spoilt.A (spec_l1Cur_spoilt.H n0) 57 1 b := Go.Ab.forall_nil (by kernel_rfl)
theorem spec_l1Cur_spoilt.cuts (n0 : Nat) : ∀ b ∈ Go.Ab.cutsOf spec_l1Cur_spoilt.A (bodyOf Go.Proofs.Tryd.f63), Go.Ab.CutOk Go.Proofs.Tryd.prog (spec_l1Cur_spoilt.G n0) spec_l1Cur_spoilt.A (spec_l1Cur_spoilt.H n0) 57 1 b := Go.Ab.forall_nil (by kernel_rfl)
theorem spec_l1Cur_spoilt.eq (n : Nat) (a4 : ByteArray) (a5 : ByteArray) (a0 : List Go.Ab.AV) (a1 : Nat) (a2 : Int) (a3 : Int) : Go.Ab.funK Go.Proofs.Tryd.prog (spec_l1Cur_spoilt.G n) spec_l1Cur_spoilt.A (spec_l1Cur_spoilt.H n) false Go.Proofs.Tryd.f63 (bodyOf Go.Proofs.Tryd.f63) [Go.Ab.AV.ptr 0 0, Go.Ab.AV.str a4, Go.Ab.AV.str a5] [Go.Ab.AObj.cells Bool.true [Go.Ab.AV.sval a0 a1 Bool.false, Go.Ab.AV.int Go.IntKind.i64 a2, Go.Ab.AV.int Go.IntKind.u64 a3]] spec_l1Cur_spoilt.dec = spec_l1Cur_spoilt.f n a4 a5 a0 a1 a2 a3 := by kernel_rfl
theorem spec_l1Cur_spoilt.gok (X : Wd) (n : Nat) {R : Type} : Go.Ab.CtrOk (En X) (spec_l1Cur_spoilt.G n : Go.Ab.Ctr R) := by
  intro g args objs k r h
  unfold spec_l1Cur_spoilt.G at h
  split at h
  · exact spec_l1Cur_pick.ok X _ args objs k r h
  · cases h
theorem spec_l1Cur_spoilt.hdec (r : (ByteArray × (List Go.Ab.AV) × Nat × Int × Int)) (v : Go.Ab.AV) (o : List Go.Ab.AObj) (h : spec_l1Cur_spoilt.dec v o = some r) : v = Go.Ab.AV.str (r.1) ∧ o = [Go.Ab.AObj.cells Bool.true [Go.Ab.AV.sval (r.2.1) (r.2.2.1) Bool.false, Go.Ab.AV.int Go.IntKind.i64 (r.2.2.2.1), Go.Ab.AV.int Go.IntKind.u64 (r.2.2.2.2)]] := by
  unfold spec_l1Cur_spoilt.dec at h
  split at h
  · cases h; exact ⟨rfl, rfl⟩
  · cases h
theorem spec_l1Cur_spoilt.sim (X : Wd) (n : Nat) (a4 : ByteArray) (a5 : ByteArray) (a0 : List Go.Ab.AV) (a1 : Nat) (a2 : Int) (a3 : Int) (r : (ByteArray × (List Go.Ab.AV) × Nat × Int × Int)) (h : spec_l1Cur_spoilt.f n a4 a5 a0 a1 a2 a3 = some r) : Go.Ab.Sim (En X) 63 [Go.Ab.AV.ptr 0 0, Go.Ab.AV.str a4, Go.Ab.AV.str a5] [Go.Ab.AObj.cells Bool.true [Go.Ab.AV.sval a0 a1 Bool.false, Go.Ab.AV.int Go.IntKind.i64 a2, Go.Ab.AV.int Go.IntKind.u64 a3]] (Go.Ab.AV.str (r.1)) [Go.Ab.AObj.cells Bool.true [Go.Ab.AV.sval (r.2.1) (r.2.2.1) Bool.false, Go.Ab.AV.int Go.IntKind.i64 (r.2.2.2.1), Go.Ab.AV.int Go.IntKind.u64 (r.2.2.2.2)]] :=
  Go.Ab.sim_of (E := En X) (spec_l1Cur_spoilt.gok X n) mix (fn := Go.Proofs.Tryd.f63) (c := (bodyOf Go.Proofs.Tryd.f63)) (by kernel_rfl) (by kernel_rfl) (by kernel_rfl) (spec_l1Cur_spoilt.loops n) (spec_l1Cur_spoilt.cuts n) ((spec_l1Cur_spoilt.eq n a4 a5 a0 a1 a2 a3).trans h) (spec_l1Cur_spoilt.hdec r)
noncomputable def spec_l1Cur_spoilt.ctr (n : Nat) {R : Type} : List Go.Ab.AV → List Go.Ab.AObj → (Go.Ab.AV → List Go.Ab.AObj → Option R) → Option R
  | [Go.Ab.AV.ptr 0 0, Go.Ab.AV.str a4, Go.Ab.AV.str a5], [Go.Ab.AObj.cells Bool.true [Go.Ab.AV.sval a0 a1 Bool.false, Go.Ab.AV.int Go.IntKind.i64 a2, Go.Ab.AV.int Go.IntKind.u64 a3]], k => (spec_l1Cur_spoilt.f n a4 a5 a0 a1 a2 a3).bind fun r => k (Go.Ab.AV.str (r.1)) [Go.Ab.AObj.cells Bool.true [Go.Ab.AV.sval (r.2.1) (r.2.2.1) Bool.false, Go.Ab.AV.int Go.IntKind.i64 (r.2.2.2.1), Go.Ab.AV.int Go.IntKind.u64 (r.2.2.2.2)]]
  | _, _, _ => none
noncomputable def spec_l1Cur_spoilt.fits : List Go.Ab.AV → List Go.Ab.AObj → Bool
  | [Go.Ab.AV.ptr 0 0, Go.Ab.AV.str a4, Go.Ab.AV.str a5], [Go.Ab.AObj.cells Bool.true [Go.Ab.AV.sval a0 a1 Bool.false, Go.Ab.AV.int Go.IntKind.i64 a2, Go.Ab.AV.int Go.IntKind.u64 a3]] => true
  | _, _ => false
theorem spec_l1Cur_spoilt.ok (X : Wd) (n : Nat) {R : Type} (args : List Go.Ab.AV) (objs : List Go.Ab.AObj) (k : Go.Ab.AV → List Go.Ab.AObj → Option R) (r : R) (h : spec_l1Cur_spoilt.ctr n args objs k = some r) :
    Go.Ab.Enters Go.Proofs.Tryd.prog 63 ∧ ∃ v objs', Go.Ab.Sim (En X) 63 args objs v objs' ∧ k v objs' = some r := by
  unfold spec_l1Cur_spoilt.ctr at h
  split at h
  · obtain ⟨x, h1, h2⟩ := Option.bind_eq_some_iff.1 h
    exact ⟨⟨Go.Proofs.Tryd.f63, by kernel_rfl, by kernel_rfl, by kernel_rfl⟩, _, _, spec_l1Cur_spoilt.sim X n _ _ _ _ _ _ x h1, h2⟩
  · cases h

noncomputable def spec_l1Cur_anyLog.dec (v : Go.Ab.AV) (o : List Go.Ab.AObj) : Option (ByteArray × ByteArray × Int × (List Go.Ab.AV) × Nat × Int × Int) := match v, o with
  | Go.Ab.AV.agg [Go.Ab.AV.str a4, Go.Ab.AV.str a5, Go.Ab.AV.int Go.IntKind.i64 a6], [Go.Ab.AObj.cells Bool.true [Go.Ab.AV.sval a7 a8 Bool.false, Go.Ab.AV.int Go.IntKind.i64 a9, Go.Ab.AV.int Go.IntKind.u64 a10]] => some (a4, a5, a6, a7, a8, a9, a10)
  | _, _ => none
noncomputable def spec_l1Cur_anyLog.A : Go.Ab.Ann := { live := fun _ => [], out := fun _ => [], cut := fun _ => none }
noncomputable def spec_l1Cur_anyLog.G (n : Nat) {R : Type} : Go.Ab.Ctr R := fun g args objs k => match g with | 62 => spec_l1Cur_log12.ctr n args objs k | 58 => spec_l1Cur_pick.ctr n args objs k | 63 => spec_l1Cur_spoilt.ctr n args objs k | _ => none
noncomputable def spec_l1Cur_anyLog.B (i : Nat) : Go.Code := (Go.Ab.loopsOf (bodyOf Go.Proofs.Tryd.f56)).getD i Go.Code.skip
noncomputable def spec_l1Cur_anyLog.H (n : Nat) : Go.Ab.Hnd (ByteArray × ByteArray × Int × (List Go.Ab.AV) × Nat × Int × Int) := { loop := fun key _ v o K => none, cut := fun _ _ _ _ _ => none }
theorem spec_l1Cur_anyLog.loops (n0 : Nat) : ∀ b ∈ Go.Ab.loopsOf (bodyOf Go.Proofs.Tryd.f56), Go.Ab.LoopOk Go.Proofs.Tryd.prog (spec_l1Cur_anyLog.G n0) spec_l1Cur_anyLog.A (spec_l1Cur_anyLog.H n0) 30 1 b := Go.Ab.forall_nil (by kernel_rfl)
theorem spec_l1Cur_anyLog.cuts (n0 : Nat) : ∀ b ∈ Go.Ab.cutsOf spec_l1Cur_anyLog.A (bodyOf Go.Proofs.Tryd.f56), Go.Ab.CutOk Go.Proofs.Tryd.prog (spec_l1Cur_anyLog.G n0) spec_l1Cur_anyLog.A (spec_l1Cur_anyLog.H n0) 30 1 b := Go.Ab.forall_nil (by kernel_rfl)
theorem spec_l1Cur_anyLog.eq (n : Nat) (a0 : List Go.Ab.AV) (a1 : Nat) (a2 : Int) (a3 : Int) : Go.Ab.funK Go.Proofs.Tryd.prog (spec_l1Cur_anyLog.G n) spec_l1Cur_anyLog.A (spec_l1Cur_anyLog.H n) false Go.Proofs.Tryd.f56 (bodyOf Go.Proofs.Tryd.f56) [Go.Ab.AV.ptr 0 0] [Go.Ab.AObj.cells Bool.true [Go.Ab.AV.sval a0 a1 Bool.false, Go.Ab.AV.int Go.IntKind.i64 a2, Go.Ab.AV.int Go.IntKind.u64 a3]] spec_l1Cur_anyLog.dec = spec_l1Cur_anyLog.f n a0 a1 a2 a3 := by kernel_rfl
theorem spec_l1Cur_anyLog.gok (X : Wd) (n : Nat) {R : Type} : Go.Ab.CtrOk (En X) (spec_l1Cur_anyLog.G n : Go.Ab.Ctr R) := by
  intro g args objs k r h
  unfold spec_l1Cur_anyLog.G at h
  split at h
  · exact spec_l1Cur_log12.ok X _ args objs k r h
  · exact spec_l1Cur_pick.ok X _ args objs k r h
  · exact spec_l1Cur_spoilt.ok X _ args objs k r h
  · cases h
theorem spec_l1Cur_anyLog.hdec (r : (ByteArray × ByteArray × Int × (List Go.Ab.AV) × Nat × Int × Int)) (v : Go.Ab.AV) (o : List Go.Ab.AObj) (h : spec_l1Cur_anyLog.dec v o = some r) : v = Go.Ab.AV.agg [Go.Ab.AV.str (r.1), Go.Ab.AV.str (r.2.1), Go.Ab.AV.int Go.IntKind.i64 (r.2.2.1)] ∧ o = [Go.Ab.AObj.cells Bool.true [Go.Ab.AV.sval (r.2.2.2.1) (r.2.2.2.2.1) Bool.false, Go.Ab.AV.int Go.IntKind.i64 (r.2.2.2.2.2.1), Go.Ab.AV.int Go.IntKind.u64 (r.2.2.2.2.2.2)]] := by
  unfold spec_l1Cur_anyLog.dec at h
  split at h
  · cases h; exact ⟨rfl, rfl⟩
  · cases h
theorem spec_l1Cur_anyLog.sim (X : Wd) (n : Nat) (a0 : List Go.Ab.AV) (a1 : Nat) (a2 : Int) (a3 : Int) (r : (ByteArray × ByteArray × Int × (List Go.Ab.AV) × Nat × Int × Int)) (h : spec_l1Cur_anyLog.f n a0 a1 a2 a3 = some r) : Go.Ab.Sim (En X) 56 [Go.Ab.AV.ptr 0 0] [Go.Ab.AObj.cells Bool.true [Go.Ab.AV.sval a0 a1 Bool.false, Go.Ab.AV.int Go.IntKind.i64 a2, Go.Ab.AV.int Go.IntKind.u64 a3]] (Go.Ab.AV.agg [Go.Ab.AV.str (r.1), Go.Ab.AV.str (r.2.1), Go.Ab.AV.int Go.IntKind.i64 (r.2.2.1)]) [Go.Ab.AObj.cells Bool.true [Go.Ab.AV.sval (r.2.2.2.1) (r.2.2.2.2.1) Bool.false, Go.Ab.AV.int Go.IntKind.i64 (r.2.2.2.2.2.1), Go.Ab.AV.int Go.IntKind.u64 (r.2.2.2.2.2.2)]] :=
  Go.Ab.sim_of (E := En X) (spec_l1Cur_anyLog.gok X n) mix (fn := Go.Proofs.Tryd.f56) (c := (bodyOf Go.Proofs.Tryd.f56)) (by kernel_rfl) (by kernel_rfl) (by kernel_rfl) (spec_l1Cur_anyLog.loops n) (spec_l1Cur_anyLog.cuts n) ((spec_l1Cur_anyLog.eq n a0 a1 a2 a3).trans h) (spec_l1Cur_anyLog.hdec r)
noncomputable def spec_l1Cur_anyLog.ctr (n : Nat) {R : Type} : List Go.Ab.AV → List Go.Ab.AObj → (Go.Ab.AV → List Go.Ab.AObj → Option R) → Option R
  | [Go.Ab.AV.ptr 0 0], [Go.Ab.AObj.cells Bool.true [Go.Ab.AV.sval a0 a1 Bool.false, Go.Ab.AV.int Go.IntKind.i64 a2, Go.Ab.AV.int Go.IntKind.u64 a3]], k => (spec_l1Cur_anyLog.f n a0 a1 a2 a3).bind fun r => k (Go.Ab.AV.agg [Go.Ab.AV.str (r.1), Go.Ab.AV.str (r.2.1), Go.Ab.AV.int Go.IntKind.i64 (r.2.2.1)]) [Go.Ab.AObj.cells Bool.true [Go.Ab.AV.sval (r.2.2.2.1) (r.2.2.2.2.1) Bool.false, Go.Ab.AV.int Go.IntKind.i64 (r.2.2.2.2.2.1), Go.Ab.AV.int Go.IntKind.u64 (r.2.2.2.2.2.2)]]
  | _, _, _ => none
noncomputable def spec_l1Cur_anyLog.fits : List Go.Ab.AV → List Go.Ab.AObj → Bool
  | [Go.Ab.AV.ptr 0 0], [Go.Ab.AObj.cells Bool.true [Go.Ab.AV.sval a0 a1 Bool.false, Go.Ab.AV.int Go.IntKind.i64 a2, Go.Ab.AV.int Go.IntKind.u64 a3]] => true
  | _, _ => false
theorem spec_l1Cur_anyLog.ok (X : Wd) (n : Nat) {R : Type} (args : List Go.Ab.AV) (objs : List Go.Ab.AObj) (k : Go.Ab.AV → List Go.Ab.AObj → Option R) (r : R) (h : spec_l1Cur_anyLog.ctr n args objs k = some r) :
    Go.Ab.Enters Go.Proofs.Tryd.prog 56 ∧ ∃ v objs', Go.Ab.Sim (En X) 56 args objs v objs' ∧ k v objs' = some r := by
  unfold spec_l1Cur_anyLog.ctr at h
  split at h
  · obtain ⟨x, h1, h2⟩ := Option.bind_eq_some_iff.1 h
    exact ⟨⟨Go.Proofs.Tryd.f56, by kernel_rfl, by kernel_rfl, by kernel_rfl⟩, _, _, spec_l1Cur_anyLog.sim X n _ _ _ _ x h1, h2⟩
  · cases h

noncomputable def spec_DrawIsValidLog.dec (v : Go.Ab.AV) (o : List Go.Ab.AObj) : Option (ByteArray × ByteArray × Int) := match v, o with
  | Go.Ab.AV.agg [Go.Ab.AV.str a2, Go.Ab.AV.str a3, Go.Ab.AV.int Go.IntKind.i64 a4], [] => some (a2, a3, a4)
  | _, _ => none
noncomputable def spec_DrawIsValidLog.A : Go.Ab.Ann := { live := fun _ => [], out := fun _ => [], cut := fun _ => none }
noncomputable def spec_DrawIsValidLog.G (n : Nat) {R : Type} : Go.Ab.Ctr R := fun g args objs k => match g with | 56 => spec_l1Cur_anyLog.ctr n args objs k | _ => none
noncomputable def spec_DrawIsValidLog.B (i : Nat) : Go.Code := (Go.Ab.loopsOf (bodyOf Go.Proofs.Tryd.f24)).getD i Go.Code.skip
noncomputable def spec_DrawIsValidLog.H (n : Nat) : Go.Ab.Hnd (ByteArray × ByteArray × Int) := { loop := fun key _ v o K => none, cut := fun _ _ _ _ _ => none }
theorem spec_DrawIsValidLog.loops (n0 : Nat) : ∀ b ∈ Go.Ab.loopsOf (bodyOf Go.Proofs.Tryd.f24), Go.Ab.LoopOk Go.Proofs.Tryd.prog (spec_DrawIsValidLog.G n0) spec_DrawIsValidLog.A (spec_DrawIsValidLog.H n0) 9 0 b := Go.Ab.forall_nil (by kernel_rfl)
theorem spec_DrawIsValidLog.cuts (n0 : Nat) : ∀ b ∈ Go.Ab.cutsOf spec_DrawIsValidLog.A (bodyOf Go.Proofs.Tryd.f24), Go.Ab.CutOk Go.Proofs.Tryd.prog (spec_DrawIsValidLog.G n0) spec_DrawIsValidLog.A (spec_DrawIsValidLog.H n0) 9 0 b := Go.Ab.forall_nil (by kernel_rfl)
theorem spec_DrawIsValidLog.eq (n : Nat) (a0 : List Go.Ab.AV) (a1 : Nat) : Go.Ab.funK Go.Proofs.Tryd.prog (spec_DrawIsValidLog.G n) spec_DrawIsValidLog.A (spec_DrawIsValidLog.H n) false Go.Proofs.Tryd.f24 (bodyOf Go.Proofs.Tryd.f24) [Go.Ab.AV.sval a0 a1 Bool.false] [] spec_DrawIsValidLog.dec = spec_DrawIsValidLog.f n a0 a1 := by kernel_rfl
theorem spec_DrawIsValidLog.gok (X : Wd) (n : Nat) {R : Type} : Go.Ab.CtrOk (En X) (spec_DrawIsValidLog.G n : Go.Ab.Ctr R) := by
  intro g args objs k r h
  unfold spec_DrawIsValidLog.G at h
  split at h
  · exact spec_l1Cur_anyLog.ok X _ args objs k r h
  · cases h
theorem spec_DrawIsValidLog.hdec (r : (ByteArray × ByteArray × Int)) (v : Go.Ab.AV) (o : List Go.Ab.AObj) (h : spec_DrawIsValidLog.dec v o = some r) : v = Go.Ab.AV.agg [Go.Ab.AV.str (r.1), Go.Ab.AV.str (r.2.1), Go.Ab.AV.int Go.IntKind.i64 (r.2.2)] ∧ o = [] := by
  unfold spec_DrawIsValidLog.dec at h
  split at h
  · cases h; exact ⟨rfl, rfl⟩
  · cases h
theorem spec_DrawIsValidLog.sim (X : Wd) (n : Nat) (a0 : List Go.Ab.AV) (a1 : Nat) (r : (ByteArray × ByteArray × Int)) (h : spec_DrawIsValidLog.f n a0 a1 = some r) : Go.Ab.Sim (En X) 24 [Go.Ab.AV.sval a0 a1 Bool.false] [] (Go.Ab.AV.agg [Go.Ab.AV.str (r.1), Go.Ab.AV.str (r.2.1), Go.Ab.AV.int Go.IntKind.i64 (r.2.2)]) [] :=
  Go.Ab.sim_of (E := En X) (spec_DrawIsValidLog.gok X n) mix (fn := Go.Proofs.Tryd.f24) (c := (bodyOf Go.Proofs.Tryd.f24)) (by kernel_rfl) (by kernel_rfl) (by kernel_rfl) (spec_DrawIsValidLog.loops n) (spec_DrawIsValidLog.cuts n) ((spec_DrawIsValidLog.eq n a0 a1).trans h) (spec_DrawIsValidLog.hdec r)
noncomputable def spec_DrawIsValidLog.ctr (n : Nat) {R : Type} : List Go.Ab.AV → List Go.Ab.AObj → (Go.Ab.AV → List Go.Ab.AObj → Option R) → Option R
  | [Go.Ab.AV.sval a0 a1 Bool.false], [], k => (spec_DrawIsValidLog.f n a0 a1).bind fun r => k (Go.Ab.AV.agg [Go.Ab.AV.str (r.1), Go.Ab.AV.str (r.2.1), Go.Ab.AV.int Go.IntKind.i64 (r.2.2)]) []
  | _, _, _ => none
noncomputable def spec_DrawIsValidLog.fits : List Go.Ab.AV → List Go.Ab.AObj → Bool
  | [Go.Ab.AV.sval a0 a1 Bool.false], [] => true
  | _, _ => false
theorem spec_DrawIsValidLog.ok (X : Wd) (n : Nat) {R : Type} (args : List Go.Ab.AV) (objs : List Go.Ab.AObj) (k : Go.Ab.AV → List Go.Ab.AObj → Option R) (r : R) (h : spec_DrawIsValidLog.ctr n args objs k = some r) :
    Go.Ab.Enters Go.Proofs.Tryd.prog 24 ∧ ∃ v objs', Go.Ab.Sim (En X) 24 args objs v objs' ∧ k v objs' = some r := by
  unfold spec_DrawIsValidLog.ctr at h
  split at h
  · obtain ⟨x, h1, h2⟩ := Option.bind_eq_some_iff.1 h
    exact ⟨⟨Go.Proofs.Tryd.f24, by kernel_rfl, by kernel_rfl, by kernel_rfl⟩, _, _, spec_DrawIsValidLog.sim X n _ _ x h1, h2⟩
  · cases h

noncomputable def spec_DrawAppendRecord.dec (v : Go.Ab.AV) (o : List Go.Ab.AObj) : Option (ByteArray × ByteArray × Int × ByteArray × ByteArray) := match v, o with
  | Go.Ab.AV.tup [Go.Ab.AV.agg [Go.Ab.AV.str a2, Go.Ab.AV.str a3, Go.Ab.AV.int Go.IntKind.i64 a4], Go.Ab.AV.agg [Go.Ab.AV.str a5, Go.Ab.AV.str a6]], [] => some (a2, a3, a4, a5, a6)
  | _, _ => none
noncomputable def spec_DrawAppendRecord.A : Go.Ab.Ann := { live := fun k => match k with | 6 => [2, 3, 4, 5, 6] | _ => [], out := fun k => match k with | 6 => [2, 3, 4, 5] | _ => [], cut := fun _ => none }
noncomputable def spec_DrawAppendRecord.G (n : Nat) {R : Type} : Go.Ab.Ctr R := fun g args objs k => match g with | 56 => spec_l1Cur_anyLog.ctr n args objs k | 57 => spec_l1Cur_one.ctr n args objs k | 58 => spec_l1Cur_pick.ctr n args objs k | 27 => spec_AppendRecord.ctr n args objs k | 49 => spec_l1Cur_logRecord.ctr n args objs k | _ => none
noncomputable def spec_DrawAppendRecord.B (i : Nat) : Go.Code := (Go.Ab.loopsOf (bodyOf Go.Proofs.Tryd.f25)).getD i Go.Code.skip
noncomputable def spec_DrawAppendRecord.h6 (n : Nat) (v : List Go.Ab.AV) (o : List Go.Ab.AObj) (K : Go.Ab.Kont (ByteArray × ByteArray × Int × ByteArray × ByteArray)) : Option (ByteArray × ByteArray × Int × ByteArray × ByteArray) := match v, o with
  | [Go.Ab.AV.ptr 0 0, Go.Ab.AV.ptr 1 0, Go.Ab.AV.ptr 2 0, Go.Ab.AV.ptr 3 0, Go.Ab.AV.int Go.IntKind.i64 x23], [Go.Ab.AObj.cells Bool.true [Go.Ab.AV.str x24, Go.Ab.AV.str x25, Go.Ab.AV.int Go.IntKind.i64 x26], Go.Ab.AObj.cells Bool.true [Go.Ab.AV.str x27, Go.Ab.AV.str x28], Go.Ab.AObj.cells Bool.true [Go.Ab.AV.sval x29 x30 Bool.false, Go.Ab.AV.int Go.IntKind.i64 x31, Go.Ab.AV.int Go.IntKind.u64 x32], Go.Ab.AObj.cells Bool.true [Go.Ab.AV.str x33, Go.Ab.AV.str x34, Go.Ab.AV.int Go.IntKind.i64 x35]] => spec_DrawAppendRecord.l6 n (fun y59 y60 y61 y62 y63 y64 y65 y66 y67 y68 y69 y70 => K (Go.Ab.Ex.exit 0) [Go.Ab.AV.ptr 0 0, Go.Ab.AV.ptr 1 0, Go.Ab.AV.ptr 2 0, Go.Ab.AV.ptr 3 0] [Go.Ab.AObj.cells Bool.true [Go.Ab.AV.str y59, Go.Ab.AV.str y60, Go.Ab.AV.int Go.IntKind.i64 y61], Go.Ab.AObj.cells Bool.true [Go.Ab.AV.str y62, Go.Ab.AV.str y63], Go.Ab.AObj.cells Bool.true [Go.Ab.AV.sval y64 y65 Bool.false, Go.Ab.AV.int Go.IntKind.i64 y66, Go.Ab.AV.int Go.IntKind.u64 y67], Go.Ab.AObj.cells Bool.true [Go.Ab.AV.str y68, Go.Ab.AV.str y69, Go.Ab.AV.int Go.IntKind.i64 y70]]) n x23 x24 x25 x26 x27 x28 x29 x30 x31 x32 x33 x34 x35
  | _, _ => none
noncomputable def spec_DrawAppendRecord.H (n : Nat) : Go.Ab.Hnd (ByteArray × ByteArray × Int × ByteArray × ByteArray) := { loop := fun key _ v o K => match key with | 6 => spec_DrawAppendRecord.h6 n v o K | _ => none, cut := fun _ _ _ _ _ => none }
theorem spec_DrawAppendRecord.loop6 (n0 : Nat) (K : Go.Ab.Kont (ByteArray × ByteArray × Int × ByteArray × ByteArray)) : ∀ (n : Nat) (x23 : Int) (x24 : ByteArray) (x25 : ByteArray) (x26 : Int) (x27 : ByteArray) (x28 : ByteArray) (x29 : List Go.Ab.AV) (x30 : Nat) (x31 : Int) (x32 : Int) (x33 : ByteArray) (x34 : ByteArray) (x35 : Int), Go.Ab.loopK 31 0 (spec_DrawAppendRecord.A.live 6) (spec_DrawAppendRecord.A.out 6) (fun t o k => Go.Ab.denK Go.Proofs.Tryd.prog (spec_DrawAppendRecord.G n0) spec_DrawAppendRecord.A (spec_DrawAppendRecord.H n0) 31 0 (spec_DrawAppendRecord.B 0) t o k) n [Go.Ab.AV.ptr 0 0, Go.Ab.AV.ptr 1 0, Go.Ab.AV.ptr 2 0, Go.Ab.AV.ptr 3 0, Go.Ab.AV.int Go.IntKind.i64 x23] [Go.Ab.AObj.cells Bool.true [Go.Ab.AV.str x24, Go.Ab.AV.str x25, Go.Ab.AV.int Go.IntKind.i64 x26], Go.Ab.AObj.cells Bool.true [Go.Ab.AV.str x27, Go.Ab.AV.str x28], Go.Ab.AObj.cells Bool.true [Go.Ab.AV.sval x29 x30 Bool.false, Go.Ab.AV.int Go.IntKind.i64 x31, Go.Ab.AV.int Go.IntKind.u64 x32], Go.Ab.AObj.cells Bool.true [Go.Ab.AV.str x33, Go.Ab.AV.str x34, Go.Ab.AV.int Go.IntKind.i64 x35]] K = spec_DrawAppendRecord.l6 n0 (fun y59 y60 y61 y62 y63 y64 y65 y66 y67 y68 y69 y70 => K (Go.Ab.Ex.exit 0) [Go.Ab.AV.ptr 0 0, Go.Ab.AV.ptr 1 0, Go.Ab.AV.ptr 2 0, Go.Ab.AV.ptr 3 0] [Go.Ab.AObj.cells Bool.true [Go.Ab.AV.str y59, Go.Ab.AV.str y60, Go.Ab.AV.int Go.IntKind.i64 y61], Go.Ab.AObj.cells Bool.true [Go.Ab.AV.str y62, Go.Ab.AV.str y63], Go.Ab.AObj.cells Bool.true [Go.Ab.AV.sval y64 y65 Bool.false, Go.Ab.AV.int Go.IntKind.i64 y66, Go.Ab.AV.int Go.IntKind.u64 y67], Go.Ab.AObj.cells Bool.true [Go.Ab.AV.str y68, Go.Ab.AV.str y69, Go.Ab.AV.int Go.IntKind.i64 y70]]) n x23 x24 x25 x26 x27 x28 x29 x30 x31 x32 x33 x34 x35
  | 0, _, _, _, _, _, _, _, _, _, _, _, _, _ => rfl
  | n + 1, x23, x24, x25, x26, x27, x28, x29, x30, x31, x32, x33, x34, x35 => by
    have ih : (fun (x23 : Int) (x24 : ByteArray) (x25 : ByteArray) (x26 : Int) (x27 : ByteArray) (x28 : ByteArray) (x29 : List Go.Ab.AV) (x30 : Nat) (x31 : Int) (x32 : Int) (x33 : ByteArray) (x34 : ByteArray) (x35 : Int) => Go.Ab.loopK 31 0 (spec_DrawAppendRecord.A.live 6) (spec_DrawAppendRecord.A.out 6) (fun t o k => Go.Ab.denK Go.Proofs.Tryd.prog (spec_DrawAppendRecord.G n0) spec_DrawAppendRecord.A (spec_DrawAppendRecord.H n0) 31 0 (spec_DrawAppendRecord.B 0) t o k) n [Go.Ab.AV.ptr 0 0, Go.Ab.AV.ptr 1 0, Go.Ab.AV.ptr 2 0, Go.Ab.AV.ptr 3 0, Go.Ab.AV.int Go.IntKind.i64 x23] [Go.Ab.AObj.cells Bool.true [Go.Ab.AV.str x24, Go.Ab.AV.str x25, Go.Ab.AV.int Go.IntKind.i64 x26], Go.Ab.AObj.cells Bool.true [Go.Ab.AV.str x27, Go.Ab.AV.str x28], Go.Ab.AObj.cells Bool.true [Go.Ab.AV.sval x29 x30 Bool.false, Go.Ab.AV.int Go.IntKind.i64 x31, Go.Ab.AV.int Go.IntKind.u64 x32], Go.Ab.AObj.cells Bool.true [Go.Ab.AV.str x33, Go.Ab.AV.str x34, Go.Ab.AV.int Go.IntKind.i64 x35]] K) = spec_DrawAppendRecord.l6 n0 (fun y59 y60 y61 y62 y63 y64 y65 y66 y67 y68 y69 y70 => K (Go.Ab.Ex.exit 0) [Go.Ab.AV.ptr 0 0, Go.Ab.AV.ptr 1 0, Go.Ab.AV.ptr 2 0, Go.Ab.AV.ptr 3 0] [Go.Ab.AObj.cells Bool.true [Go.Ab.AV.str y59, Go.Ab.AV.str y60, Go.Ab.AV.int Go.IntKind.i64 y61], Go.Ab.AObj.cells Bool.true [Go.Ab.AV.str y62, Go.Ab.AV.str y63], Go.Ab.AObj.cells Bool.true [Go.Ab.AV.sval y64 y65 Bool.false, Go.Ab.AV.int Go.IntKind.i64 y66, Go.Ab.AV.int Go.IntKind.u64 y67], Go.Ab.AObj.cells Bool.true [Go.Ab.AV.str y68, Go.Ab.AV.str y69, Go.Ab.AV.int Go.IntKind.i64 y70]]) n := by funext x23 x24 x25 x26 x27 x28 x29 x30 x31 x32 x33 x34 x35; exact spec_DrawAppendRecord.loop6 n0 K n x23 x24 x25 x26 x27 x28 x29 x30 x31 x32 x33 x34 x35
    have st : Go.Ab.loopK 31 0 (spec_DrawAppendRecord.A.live 6) (spec_DrawAppendRecord.A.out 6) (fun t o k => Go.Ab.denK Go.Proofs.Tryd.prog (spec_DrawAppendRecord.G n0) spec_DrawAppendRecord.A (spec_DrawAppendRecord.H n0) 31 0 (spec_DrawAppendRecord.B 0) t o k) (n + 1) [Go.Ab.AV.ptr 0 0, Go.Ab.AV.ptr 1 0, Go.Ab.AV.ptr 2 0, Go.Ab.AV.ptr 3 0, Go.Ab.AV.int Go.IntKind.i64 x23] [Go.Ab.AObj.cells Bool.true [Go.Ab.AV.str x24, Go.Ab.AV.str x25, Go.Ab.AV.int Go.IntKind.i64 x26], Go.Ab.AObj.cells Bool.true [Go.Ab.AV.str x27, Go.Ab.AV.str x28], Go.Ab.AObj.cells Bool.true [Go.Ab.AV.sval x29 x30 Bool.false, Go.Ab.AV.int Go.IntKind.i64 x31, Go.Ab.AV.int Go.IntKind.u64 x32], Go.Ab.AObj.cells Bool.true [Go.Ab.AV.str x33, Go.Ab.AV.str x34, Go.Ab.AV.int Go.IntKind.i64 x35]] K = spec_DrawAppendRecord.l6S n0 (fun (x23 : Int) (x24 : ByteArray) (x25 : ByteArray) (x26 : Int) (x27 : ByteArray) (x28 : ByteArray) (x29 : List Go.Ab.AV) (x30 : Nat) (x31 : Int) (x32 : Int) (x33 : ByteArray) (x34 : ByteArray) (x35 : Int) => Go.Ab.loopK 31 0 (spec_DrawAppendRecord.A.live 6) (spec_DrawAppendRecord.A.out 6) (fun t o k => Go.Ab.denK Go.Proofs.Tryd.prog (spec_DrawAppendRecord.G n0) spec_DrawAppendRecord.A (spec_DrawAppendRecord.H n0) 31 0 (spec_DrawAppendRecord.B 0) t o k) n [Go.Ab.AV.ptr 0 0, Go.Ab.AV.ptr 1 0, Go.Ab.AV.ptr 2 0, Go.Ab.AV.ptr 3 0, Go.Ab.AV.int Go.IntKind.i64 x23] [Go.Ab.AObj.cells Bool.true [Go.Ab.AV.str x24, Go.Ab.AV.str x25, Go.Ab.AV.int Go.IntKind.i64 x26], Go.Ab.AObj.cells Bool.true [Go.Ab.AV.str x27, Go.Ab.AV.str x28], Go.Ab.AObj.cells Bool.true [Go.Ab.AV.sval x29 x30 Bool.false, Go.Ab.AV.int Go.IntKind.i64 x31, Go.Ab.AV.int Go.IntKind.u64 x32], Go.Ab.AObj.cells Bool.true [Go.Ab.AV.str x33, Go.Ab.AV.str x34, Go.Ab.AV.int Go.IntKind.i64 x35]] K) (fun y59 y60 y61 y62 y63 y64 y65 y66 y67 y68 y69 y70 => K (Go.Ab.Ex.exit 0) [Go.Ab.AV.ptr 0 0, Go.Ab.AV.ptr 1 0, Go.Ab.AV.ptr 2 0, Go.Ab.AV.ptr 3 0] [Go.Ab.AObj.cells Bool.true [Go.Ab.AV.str y59, Go.Ab.AV.str y60, Go.Ab.AV.int Go.IntKind.i64 y61], Go.Ab.AObj.cells Bool.true [Go.Ab.AV.str y62, Go.Ab.AV.str y63], Go.Ab.AObj.cells Bool.true [Go.Ab.AV.sval y64 y65 Bool.false, Go.Ab.AV.int Go.IntKind.i64 y66, Go.Ab.AV.int Go.IntKind.u64 y67], Go.Ab.AObj.cells Bool.true [Go.Ab.AV.str y68, Go.Ab.AV.str y69, Go.Ab.AV.int Go.IntKind.i64 y70]]) x23 x24 x25 x26 x27 x28 x29 x30 x31 x32 x33 x34 x35 := by kernel_rfl
    rw [st, ih]; rfl
theorem spec_DrawAppendRecord.lok6 (n0 : Nat) : Go.Ab.LoopOk Go.Proofs.Tryd.prog (spec_DrawAppendRecord.G n0) spec_DrawAppendRecord.A (spec_DrawAppendRecord.H n0) 31 0 (spec_DrawAppendRecord.B 0) := by
  intro v o K r h
  have hk : Go.Ab.key (spec_DrawAppendRecord.B 0) = 6 := by kernel_rfl
  rw [hk] at h ⊢
  change spec_DrawAppendRecord.h6 n0 v o K = some r at h
  unfold spec_DrawAppendRecord.h6 at h
  split at h
  · exact ⟨n0, by rw [spec_DrawAppendRecord.loop6]; exact h⟩
  · cases h
theorem spec_DrawAppendRecord.loops (n0 : Nat) : ∀ b ∈ Go.Ab.loopsOf (bodyOf Go.Proofs.Tryd.f25), Go.Ab.LoopOk Go.Proofs.Tryd.prog (spec_DrawAppendRecord.G n0) spec_DrawAppendRecord.A (spec_DrawAppendRecord.H n0) 31 0 b :=
  Go.Ab.forall_getD 1 (by kernel_rfl) Go.Code.skip fun i hi => match i, hi with
    | 0, _ => spec_DrawAppendRecord.lok6 n0
    | j + 1, hj => absurd hj (by omega)
theorem spec_DrawAppendRecord.cuts (n0 : Nat) : ∀ b ∈ Go.Ab.cutsOf spec_DrawAppendRecord.A (bodyOf Go.Proofs.Tryd.f25), Go.Ab.CutOk Go.Proofs.Tryd.prog (spec_DrawAppendRecord.G n0) spec_DrawAppendRecord.A (spec_DrawAppendRecord.H n0) 31 0 b := Go.Ab.forall_nil (by kernel_rfl)
theorem spec_DrawAppendRecord.eq (n : Nat) (a0 : List Go.Ab.AV) (a1 : Nat) : Go.Ab.funK Go.Proofs.Tryd.prog (spec_DrawAppendRecord.G n) spec_DrawAppendRecord.A (spec_DrawAppendRecord.H n) false Go.Proofs.Tryd.f25 (bodyOf Go.Proofs.Tryd.f25) [Go.Ab.AV.sval a0 a1 Bool.false] [] spec_DrawAppendRecord.dec = spec_DrawAppendRecord.f n a0 a1 := by kernel_rfl
theorem spec_DrawAppendRecord.gok (X : Wd) (n : Nat) {R : Type} : Go.Ab.CtrOk (En X) (spec_DrawAppendRecord.G n : Go.Ab.Ctr R) := by
  intro g args objs k r h
  unfold spec_DrawAppendRecord.G at h
  split at h
  · exact spec_l1Cur_anyLog.ok X _ args objs k r h
  · exact spec_l1Cur_one.ok X _ args objs k r h
  · exact spec_l1Cur_pick.ok X _ args objs k r h
  · exact spec_AppendRecord.ok X _ args objs k r h
  · exact spec_l1Cur_logRecord.ok X _ args objs k r h
  · cases h
theorem spec_DrawAppendRecord.hdec (r : (ByteArray × ByteArray × Int × ByteArray × ByteArray)) (v : Go.Ab.AV) (o : List Go.Ab.AObj) (h : spec_DrawAppendRecord.dec v o = some r) : v = Go.Ab.AV.tup [Go.Ab.AV.agg [Go.Ab.AV.str (r.1), Go.Ab.AV.str (r.2.1), Go.Ab.AV.int Go.IntKind.i64 (r.2.2.1)], Go.Ab.AV.agg [Go.Ab.AV.str (r.2.2.2.1), Go.Ab.AV.str (r.2.2.2.2)]] ∧ o = [] := by
  unfold spec_DrawAppendRecord.dec at h
  split at h
  · cases h; exact ⟨rfl, rfl⟩
  · cases h
theorem spec_DrawAppendRecord.sim (X : Wd) (n : Nat) (a0 : List Go.Ab.AV) (a1 : Nat) (r : (ByteArray × ByteArray × Int × ByteArray × ByteArray)) (h : spec_DrawAppendRecord.f n a0 a1 = some r) : Go.Ab.Sim (En X) 25 [Go.Ab.AV.sval a0 a1 Bool.false] [] (Go.Ab.AV.tup [Go.Ab.AV.agg [Go.Ab.AV.str (r.1), Go.Ab.AV.str (r.2.1), Go.Ab.AV.int Go.IntKind.i64 (r.2.2.1)], Go.Ab.AV.agg [Go.Ab.AV.str (r.2.2.2.1), Go.Ab.AV.str (r.2.2.2.2)]]) [] :=
  Go.Ab.sim_of (E := En X) (spec_DrawAppendRecord.gok X n) mix (fn := Go.Proofs.Tryd.f25) (c := (bodyOf Go.Proofs.Tryd.f25)) (by kernel_rfl) (by kernel_rfl) (by kernel_rfl) (spec_DrawAppendRecord.loops n) (spec_DrawAppendRecord.cuts n) ((spec_DrawAppendRecord.eq n a0 a1).trans h) (spec_DrawAppendRecord.hdec r)
noncomputable def spec_DrawAppendRecord.ctr (n : Nat) {R : Type} : List Go.Ab.AV → List Go.Ab.AObj → (Go.Ab.AV → List Go.Ab.AObj → Option R) → Option R
  | [Go.Ab.AV.sval a0 a1 Bool.false], [], k => (spec_DrawAppendRecord.f n a0 a1).bind fun r => k (Go.Ab.AV.tup [Go.Ab.AV.agg [Go.Ab.AV.str (r.1), Go.Ab.AV.str (r.2.1), Go.Ab.AV.int Go.IntKind.i64 (r.2.2.1)], Go.Ab.AV.agg [Go.Ab.AV.str (r.2.2.2.1), Go.Ab.AV.str (r.2.2.2.2)]]) []
  | _, _, _ => none
noncomputable def spec_DrawAppendRecord.fits : List Go.Ab.AV → List Go.Ab.AObj → Bool
  | [Go.Ab.AV.sval a0 a1 Bool.false], [] => true
  | _, _ => false
theorem spec_DrawAppendRecord.ok (X : Wd) (n : Nat) {R : Type} (args : List Go.Ab.AV) (objs : List Go.Ab.AObj) (k : Go.Ab.AV → List Go.Ab.AObj → Option R) (r : R) (h : spec_DrawAppendRecord.ctr n args objs k = some r) :
    Go.Ab.Enters Go.Proofs.Tryd.prog 25 ∧ ∃ v objs', Go.Ab.Sim (En X) 25 args objs v objs' ∧ k v objs' = some r := by
  unfold spec_DrawAppendRecord.ctr at h
  split at h
  · obtain ⟨x, h1, h2⟩ := Option.bind_eq_some_iff.1 h
    exact ⟨⟨Go.Proofs.Tryd.f25, by kernel_rfl, by kernel_rfl, by kernel_rfl⟩, _, _, spec_DrawAppendRecord.sim X n _ _ x h1, h2⟩
  · cases h

noncomputable def impl_AppendRecord.dec (v : Go.Ab.AV) (o : List Go.Ab.AObj) : Option (ByteArray × ByteArray × Int × Int) := match v, o with
  | Go.Ab.AV.tup [Go.Ab.AV.agg [Go.Ab.AV.str a5, Go.Ab.AV.str a6, Go.Ab.AV.int Go.IntKind.i64 a7], Go.Ab.AV.int Go.IntKind.i64 a8], [] => some (a5, a6, a7, a8)
  | _, _ => none
noncomputable def impl_AppendRecord.A : Go.Ab.Ann := { live := fun _ => [], out := fun _ => [], cut := fun _ => none }
noncomputable def impl_AppendRecord.G (n : Nat) {R : Type} : Go.Ab.Ctr R := fun g args objs k => match g with | 30 => impl_IsValidLog.ctr n args objs k | 28 => impl_IsValidRecord.ctr n args objs k | 22 => impl_EncodeRecord.ctr n args objs k | _ => none
noncomputable def impl_AppendRecord.B (i : Nat) : Go.Code := (Go.Ab.loopsOf (bodyOf Go.Proofs.Tryd.f26)).getD i Go.Code.skip
noncomputable def impl_AppendRecord.H (n : Nat) : Go.Ab.Hnd (ByteArray × ByteArray × Int × Int) := { loop := fun key _ v o K => none, cut := fun _ _ _ _ _ => none }
theorem impl_AppendRecord.loops (n0 : Nat) : ∀ b ∈ Go.Ab.loopsOf (bodyOf Go.Proofs.Tryd.f26), Go.Ab.LoopOk Go.Proofs.Tryd.prog (impl_AppendRecord.G n0) impl_AppendRecord.A (impl_AppendRecord.H n0) 40 0 b := Go.Ab.forall_nil (by kernel_rfl)
theorem impl_AppendRecord.cuts (n0 : Nat) : ∀ b ∈ Go.Ab.cutsOf impl_AppendRecord.A (bodyOf Go.Proofs.Tryd.f26), Go.Ab.CutOk Go.Proofs.Tryd.prog (impl_AppendRecord.G n0) impl_AppendRecord.A (impl_AppendRecord.H n0) 40 0 b := Go.Ab.forall_nil (by kernel_rfl)
theorem impl_AppendRecord.eq (n : Nat) (a0 : ByteArray) (a1 : ByteArray) (a2 : Int) (a3 : ByteArray) (a4 : ByteArray) : Go.Ab.funK Go.Proofs.Tryd.prog (impl_AppendRecord.G n) impl_AppendRecord.A (impl_AppendRecord.H n) false Go.Proofs.Tryd.f26 (bodyOf Go.Proofs.Tryd.f26) [Go.Ab.AV.agg [Go.Ab.AV.str a0, Go.Ab.AV.str a1, Go.Ab.AV.int Go.IntKind.i64 a2], Go.Ab.AV.agg [Go.Ab.AV.str a3, Go.Ab.AV.str a4]] [] impl_AppendRecord.dec = impl_AppendRecord.f n a0 a1 a2 a3 a4 := by kernel_rfl
theorem impl_AppendRecord.gok (X : Wd) (n : Nat) {R : Type} : Go.Ab.CtrOk (En X) (impl_AppendRecord.G n : Go.Ab.Ctr R) := by
  intro g args objs k r h
  unfold impl_AppendRecord.G at h
  split at h
  · exact impl_IsValidLog.ok X _ args objs k r h
  · exact impl_IsValidRecord.ok X _ args objs k r h
  · exact impl_EncodeRecord.ok X _ args objs k r h
  · cases h
theorem impl_AppendRecord.hdec (r : (ByteArray × ByteArray × Int × Int)) (v : Go.Ab.AV) (o : List Go.Ab.AObj) (h : impl_AppendRecord.dec v o = some r) : v = Go.Ab.AV.tup [Go.Ab.AV.agg [Go.Ab.AV.str (r.1), Go.Ab.AV.str (r.2.1), Go.Ab.AV.int Go.IntKind.i64 (r.2.2.1)], Go.Ab.AV.int Go.IntKind.i64 (r.2.2.2)] ∧ o = [] := by
  unfold impl_AppendRecord.dec at h
  split at h
  · cases h; exact ⟨rfl, rfl⟩
  · cases h
theorem impl_AppendRecord.sim (X : Wd) (n : Nat) (a0 : ByteArray) (a1 : ByteArray) (a2 : Int) (a3 : ByteArray) (a4 : ByteArray) (r : (ByteArray × ByteArray × Int × Int)) (h : impl_AppendRecord.f n a0 a1 a2 a3 a4 = some r) : Go.Ab.Sim (En X) 26 [Go.Ab.AV.agg [Go.Ab.AV.str a0, Go.Ab.AV.str a1, Go.Ab.AV.int Go.IntKind.i64 a2], Go.Ab.AV.agg [Go.Ab.AV.str a3, Go.Ab.AV.str a4]] [] (Go.Ab.AV.tup [Go.Ab.AV.agg [Go.Ab.AV.str (r.1), Go.Ab.AV.str (r.2.1), Go.Ab.AV.int Go.IntKind.i64 (r.2.2.1)], Go.Ab.AV.int Go.IntKind.i64 (r.2.2.2)]) [] :=
  Go.Ab.sim_of (E := En X) (impl_AppendRecord.gok X n) mix (fn := Go.Proofs.Tryd.f26) (c := (bodyOf Go.Proofs.Tryd.f26)) (by kernel_rfl) (by kernel_rfl) (by kernel_rfl) (impl_AppendRecord.loops n) (impl_AppendRecord.cuts n) ((impl_AppendRecord.eq n a0 a1 a2 a3 a4).trans h) (impl_AppendRecord.hdec r)
noncomputable def impl_AppendRecord.ctr (n : Nat) {R : Type} : List Go.Ab.AV → List Go.Ab.AObj → (Go.Ab.AV → List Go.Ab.AObj → Option R) → Option R
  | [Go.Ab.AV.agg [Go.Ab.AV.str a0, Go.Ab.AV.str a1, Go.Ab.AV.int Go.IntKind.i64 a2], Go.Ab.AV.agg [Go.Ab.AV.str a3, Go.Ab.AV.str a4]], [], k => (impl_AppendRecord.f n a0 a1 a2 a3 a4).bind fun r => k (Go.Ab.AV.tup [Go.Ab.AV.agg [Go.Ab.AV.str (r.1), Go.Ab.AV.str (r.2.1), Go.Ab.AV.int Go.IntKind.i64 (r.2.2.1)], Go.Ab.AV.int Go.IntKind.i64 (r.2.2.2)]) []
  | _, _, _ => none
noncomputable def impl_AppendRecord.fits : List Go.Ab.AV → List Go.Ab.AObj → Bool
  | [Go.Ab.AV.agg [Go.Ab.AV.str a0, Go.Ab.AV.str a1, Go.Ab.AV.int Go.IntKind.i64 a2], Go.Ab.AV.agg [Go.Ab.AV.str a3, Go.Ab.AV.str a4]], [] => true
  | _, _ => false
theorem impl_AppendRecord.ok (X : Wd) (n : Nat) {R : Type} (args : List Go.Ab.AV) (objs : List Go.Ab.AObj) (k : Go.Ab.AV → List Go.Ab.AObj → Option R) (r : R) (h : impl_AppendRecord.ctr n args objs k = some r) :
    Go.Ab.Enters Go.Proofs.Tryd.prog 26 ∧ ∃ v objs', Go.Ab.Sim (En X) 26 args objs v objs' ∧ k v objs' = some r := by
  unfold impl_AppendRecord.ctr at h
  split at h
  · obtain ⟨x, h1, h2⟩ := Option.bind_eq_some_iff.1 h
    exact ⟨⟨Go.Proofs.Tryd.f26, by kernel_rfl, by kernel_rfl, by kernel_rfl⟩, _, _, impl_AppendRecord.sim X n _ _ _ _ _ x h1, h2⟩
  · cases h

noncomputable def spec_IsValidRecord.dec (v : Go.Ab.AV) (o : List Go.Ab.AObj) : Option Bool := match v, o with
  | Go.Ab.AV.bool a2, [] => some (a2)
  | _, _ => none
noncomputable def spec_IsValidRecord.A : Go.Ab.Ann := { live := fun _ => [], out := fun _ => [], cut := fun _ => none }
noncomputable def spec_IsValidRecord.G (n : Nat) {R : Type} : Go.Ab.Ctr R := fun g args objs k => match g with | 54 => spec_l12Record.ctr n args objs k | _ => none
noncomputable def spec_IsValidRecord.B (i : Nat) : Go.Code := (Go.Ab.loopsOf (bodyOf Go.Proofs.Tryd.f29)).getD i Go.Code.skip
noncomputable def spec_IsValidRecord.H (n : Nat) : Go.Ab.Hnd Bool := { loop := fun key _ v o K => none, cut := fun _ _ _ _ _ => none }
theorem spec_IsValidRecord.loops (n0 : Nat) : ∀ b ∈ Go.Ab.loopsOf (bodyOf Go.Proofs.Tryd.f29), Go.Ab.LoopOk Go.Proofs.Tryd.prog (spec_IsValidRecord.G n0) spec_IsValidRecord.A (spec_IsValidRecord.H n0) 5 0 b := Go.Ab.forall_nil (by kernel_rfl)
theorem spec_IsValidRecord.cuts (n0 : Nat) : ∀ b ∈ Go.Ab.cutsOf spec_IsValidRecord.A (bodyOf Go.Proofs.Tryd.f29), Go.Ab.CutOk Go.Proofs.Tryd.prog (spec_IsValidRecord.G n0) spec_IsValidRecord.A (spec_IsValidRecord.H n0) 5 0 b := Go.Ab.forall_nil (by kernel_rfl)
theorem spec_IsValidRecord.eq (n : Nat) (a0 : ByteArray) (a1 : ByteArray) : Go.Ab.funK Go.Proofs.Tryd.prog (spec_IsValidRecord.G n) spec_IsValidRecord.A (spec_IsValidRecord.H n) false Go.Proofs.Tryd.f29 (bodyOf Go.Proofs.Tryd.f29) [Go.Ab.AV.agg [Go.Ab.AV.str a0, Go.Ab.AV.str a1]] [] spec_IsValidRecord.dec = spec_IsValidRecord.f n a0 a1 := by kernel_rfl
theorem spec_IsValidRecord.gok (X : Wd) (n : Nat) {R : Type} : Go.Ab.CtrOk (En X) (spec_IsValidRecord.G n : Go.Ab.Ctr R) := by
  intro g args objs k r h
  unfold spec_IsValidRecord.G at h
  split at h
  · exact spec_l12Record.ok X _ args objs k r h
  · cases h
theorem spec_IsValidRecord.hdec (r : Bool) (v : Go.Ab.AV) (o : List Go.Ab.AObj) (h : spec_IsValidRecord.dec v o = some r) : v = Go.Ab.AV.bool (r) ∧ o = [] := by
  unfold spec_IsValidRecord.dec at h
  split at h
  · cases h; exact ⟨rfl, rfl⟩
  · cases h
theorem spec_IsValidRecord.sim (X : Wd) (n : Nat) (a0 : ByteArray) (a1 : ByteArray) (r : Bool) (h : spec_IsValidRecord.f n a0 a1 = some r) : Go.Ab.Sim (En X) 29 [Go.Ab.AV.agg [Go.Ab.AV.str a0, Go.Ab.AV.str a1]] [] (Go.Ab.AV.bool (r)) [] :=
  Go.Ab.sim_of (E := En X) (spec_IsValidRecord.gok X n) mix (fn := Go.Proofs.Tryd.f29) (c := (bodyOf Go.Proofs.Tryd.f29)) (by kernel_rfl) (by kernel_rfl) (by kernel_rfl) (spec_IsValidRecord.loops n) (spec_IsValidRecord.cuts n) ((spec_IsValidRecord.eq n a0 a1).trans h) (spec_IsValidRecord.hdec r)
noncomputable def spec_IsValidRecord.ctr (n : Nat) {R : Type} : List Go.Ab.AV → List Go.Ab.AObj → (Go.Ab.AV → List Go.Ab.AObj → Option R) → Option R
  | [Go.Ab.AV.agg [Go.Ab.AV.str a0, Go.Ab.AV.str a1]], [], k => (spec_IsValidRecord.f n a0 a1).bind fun r => k (Go.Ab.AV.bool (r)) []
  | _, _, _ => none
noncomputable def spec_IsValidRecord.fits : List Go.Ab.AV → List Go.Ab.AObj → Bool
  | [Go.Ab.AV.agg [Go.Ab.AV.str a0, Go.Ab.AV.str a1]], [] => true
  | _, _ => false
theorem spec_IsValidRecord.ok (X : Wd) (n : Nat) {R : Type} (args : List Go.Ab.AV) (objs : List Go.Ab.AObj) (k : Go.Ab.AV → List Go.Ab.AObj → Option R) (r : R) (h : spec_IsValidRecord.ctr n args objs k = some r) :
    Go.Ab.Enters Go.Proofs.Tryd.prog 29 ∧ ∃ v objs', Go.Ab.Sim (En X) 29 args objs v objs' ∧ k v objs' = some r := by
  unfold spec_IsValidRecord.ctr at h
  split at h
  · obtain ⟨x, h1, h2⟩ := Option.bind_eq_some_iff.1 h
    exact ⟨⟨Go.Proofs.Tryd.f29, by kernel_rfl, by kernel_rfl, by kernel_rfl⟩, _, _, spec_IsValidRecord.sim X n _ _ x h1, h2⟩
  · cases h

noncomputable def spec_IsValidLog.dec (v : Go.Ab.AV) (o : List Go.Ab.AObj) : Option Bool := match v, o with
  | Go.Ab.AV.bool a3, [] => some (a3)
  | _, _ => none
noncomputable def spec_IsValidLog.A : Go.Ab.Ann := { live := fun _ => [], out := fun _ => [], cut := fun _ => none }
noncomputable def spec_IsValidLog.G (n : Nat) {R : Type} : Go.Ab.Ctr R := fun g args objs k => match g with | 41 => spec_l12Valid.ctr n args objs k | _ => none
noncomputable def spec_IsValidLog.B (i : Nat) : Go.Code := (Go.Ab.loopsOf (bodyOf Go.Proofs.Tryd.f31)).getD i Go.Code.skip
noncomputable def spec_IsValidLog.H (n : Nat) : Go.Ab.Hnd Bool := { loop := fun key _ v o K => none, cut := fun _ _ _ _ _ => none }
theorem spec_IsValidLog.loops (n0 : Nat) : ∀ b ∈ Go.Ab.loopsOf (bodyOf Go.Proofs.Tryd.f31), Go.Ab.LoopOk Go.Proofs.Tryd.prog (spec_IsValidLog.G n0) spec_IsValidLog.A (spec_IsValidLog.H n0) 5 0 b := Go.Ab.forall_nil (by kernel_rfl)
theorem spec_IsValidLog.cuts (n0 : Nat) : ∀ b ∈ Go.Ab.cutsOf spec_IsValidLog.A (bodyOf Go.Proofs.Tryd.f31), Go.Ab.CutOk Go.Proofs.Tryd.prog (spec_IsValidLog.G n0) spec_IsValidLog.A (spec_IsValidLog.H n0) 5 0 b := Go.Ab.forall_nil (by kernel_rfl)
theorem spec_IsValidLog.eq (n : Nat) (a0 : ByteArray) (a1 : ByteArray) (a2 : Int) : Go.Ab.funK Go.Proofs.Tryd.prog (spec_IsValidLog.G n) spec_IsValidLog.A (spec_IsValidLog.H n) false Go.Proofs.Tryd.f31 (bodyOf Go.Proofs.Tryd.f31) [Go.Ab.AV.agg [Go.Ab.AV.str a0, Go.Ab.AV.str a1, Go.Ab.AV.int Go.IntKind.i64 a2]] [] spec_IsValidLog.dec = spec_IsValidLog.f n a0 a1 a2 := by kernel_rfl
theorem spec_IsValidLog.gok (X : Wd) (n : Nat) {R : Type} : Go.Ab.CtrOk (En X) (spec_IsValidLog.G n : Go.Ab.Ctr R) := by
  intro g args objs k r h
  unfold spec_IsValidLog.G at h
  split at h
  · exact spec_l12Valid.ok X _ args objs k r h
  · cases h
theorem spec_IsValidLog.hdec (r : Bool) (v : Go.Ab.AV) (o : List Go.Ab.AObj) (h : spec_IsValidLog.dec v o = some r) : v = Go.Ab.AV.bool (r) ∧ o = [] := by
  unfold spec_IsValidLog.dec at h
  split at h
  · cases h; exact ⟨rfl, rfl⟩
  · cases h
theorem spec_IsValidLog.sim (X : Wd) (n : Nat) (a0 : ByteArray) (a1 : ByteArray) (a2 : Int) (r : Bool) (h : spec_IsValidLog.f n a0 a1 a2 = some r) : Go.Ab.Sim (En X) 31 [Go.Ab.AV.agg [Go.Ab.AV.str a0, Go.Ab.AV.str a1, Go.Ab.AV.int Go.IntKind.i64 a2]] [] (Go.Ab.AV.bool (r)) [] :=
  Go.Ab.sim_of (E := En X) (spec_IsValidLog.gok X n) mix (fn := Go.Proofs.Tryd.f31) (c := (bodyOf Go.Proofs.Tryd.f31)) (by kernel_rfl) (by kernel_rfl) (by kernel_rfl) (spec_IsValidLog.loops n) (spec_IsValidLog.cuts n) ((spec_IsValidLog.eq n a0 a1 a2).trans h) (spec_IsValidLog.hdec r)
noncomputable def spec_IsValidLog.ctr (n : Nat) {R : Type} : List Go.Ab.AV → List Go.Ab.AObj → (Go.Ab.AV → List Go.Ab.AObj → Option R) → Option R
  | [Go.Ab.AV.agg [Go.Ab.AV.str a0, Go.Ab.AV.str a1, Go.Ab.AV.int Go.IntKind.i64 a2]], [], k => (spec_IsValidLog.f n a0 a1 a2).bind fun r => k (Go.Ab.AV.bool (r)) []
  | _, _, _ => none
noncomputable def spec_IsValidLog.fits : List Go.Ab.AV → List Go.Ab.AObj → Bool
  | [Go.Ab.AV.agg [Go.Ab.AV.str a0, Go.Ab.AV.str a1, Go.Ab.AV.int Go.IntKind.i64 a2]], [] => true
  | _, _ => false
theorem spec_IsValidLog.ok (X : Wd) (n : Nat) {R : Type} (args : List Go.Ab.AV) (objs : List Go.Ab.AObj) (k : Go.Ab.AV → List Go.Ab.AObj → Option R) (r : R) (h : spec_IsValidLog.ctr n args objs k = some r) :
    Go.Ab.Enters Go.Proofs.Tryd.prog 31 ∧ ∃ v objs', Go.Ab.Sim (En X) 31 args objs v objs' ∧ k v objs' = some r := by
  unfold spec_IsValidLog.ctr at h
  split at h
  · obtain ⟨x, h1, h2⟩ := Option.bind_eq_some_iff.1 h
    exact ⟨⟨Go.Proofs.Tryd.f31, by kernel_rfl, by kernel_rfl, by kernel_rfl⟩, _, _, spec_IsValidLog.sim X n _ _ _ x h1, h2⟩
  · cases h

noncomputable def impl_SyncLog.dec (v : Go.Ab.AV) (o : List Go.Ab.AObj) : Option (ByteArray × ByteArray × Int × Bool) := match v, o with
  | Go.Ab.AV.tup [Go.Ab.AV.agg [Go.Ab.AV.str a3, Go.Ab.AV.str a4, Go.Ab.AV.int Go.IntKind.i64 a5], Go.Ab.AV.bool a6], [] => some (a3, a4, a5, a6)
  | _, _ => none
noncomputable def impl_SyncLog.A : Go.Ab.Ann := { live := fun _ => [], out := fun _ => [], cut := fun _ => none }
noncomputable def impl_SyncLog.G (n : Nat) {R : Type} : Go.Ab.Ctr R := fun g args objs k => match g with | 30 => impl_IsValidLog.ctr n args objs k | _ => none
noncomputable def impl_SyncLog.B (i : Nat) : Go.Code := (Go.Ab.loopsOf (bodyOf Go.Proofs.Tryd.f32)).getD i Go.Code.skip
noncomputable def impl_SyncLog.H (n : Nat) : Go.Ab.Hnd (ByteArray × ByteArray × Int × Bool) := { loop := fun key _ v o K => none, cut := fun _ _ _ _ _ => none }
theorem impl_SyncLog.loops (n0 : Nat) : ∀ b ∈ Go.Ab.loopsOf (bodyOf Go.Proofs.Tryd.f32), Go.Ab.LoopOk Go.Proofs.Tryd.prog (impl_SyncLog.G n0) impl_SyncLog.A (impl_SyncLog.H n0) 16 0 b := Go.Ab.forall_nil (by kernel_rfl)
theorem impl_SyncLog.cuts (n0 : Nat) : ∀ b ∈ Go.Ab.cutsOf impl_SyncLog.A (bodyOf Go.Proofs.Tryd.f32), Go.Ab.CutOk Go.Proofs.Tryd.prog (impl_SyncLog.G n0) impl_SyncLog.A (impl_SyncLog.H n0) 16 0 b := Go.Ab.forall_nil (by kernel_rfl)
theorem impl_SyncLog.eq (n : Nat) (a0 : ByteArray) (a1 : ByteArray) (a2 : Int) : Go.Ab.funK Go.Proofs.Tryd.prog (impl_SyncLog.G n) impl_SyncLog.A (impl_SyncLog.H n) false Go.Proofs.Tryd.f32 (bodyOf Go.Proofs.Tryd.f32) [Go.Ab.AV.agg [Go.Ab.AV.str a0, Go.Ab.AV.str a1, Go.Ab.AV.int Go.IntKind.i64 a2]] [] impl_SyncLog.dec = impl_SyncLog.f n a0 a1 a2 := by kernel_rfl
theorem impl_SyncLog.gok (X : Wd) (n : Nat) {R : Type} : Go.Ab.CtrOk (En X) (impl_SyncLog.G n : Go.Ab.Ctr R) := by
  intro g args objs k r h
  unfold impl_SyncLog.G at h
  split at h
  · exact impl_IsValidLog.ok X _ args objs k r h
  · cases h
theorem impl_SyncLog.hdec (r : (ByteArray × ByteArray × Int × Bool)) (v : Go.Ab.AV) (o : List Go.Ab.AObj) (h : impl_SyncLog.dec v o = some r) : v = Go.Ab.AV.tup [Go.Ab.AV.agg [Go.Ab.AV.str (r.1), Go.Ab.AV.str (r.2.1), Go.Ab.AV.int Go.IntKind.i64 (r.2.2.1)], Go.Ab.AV.bool (r.2.2.2)] ∧ o = [] := by
  unfold impl_SyncLog.dec at h
  split at h
  · cases h; exact ⟨rfl, rfl⟩
  · cases h
theorem impl_SyncLog.sim (X : Wd) (n : Nat) (a0 : ByteArray) (a1 : ByteArray) (a2 : Int) (r : (ByteArray × ByteArray × Int × Bool)) (h : impl_SyncLog.f n a0 a1 a2 = some r) : Go.Ab.Sim (En X) 32 [Go.Ab.AV.agg [Go.Ab.AV.str a0, Go.Ab.AV.str a1, Go.Ab.AV.int Go.IntKind.i64 a2]] [] (Go.Ab.AV.tup [Go.Ab.AV.agg [Go.Ab.AV.str (r.1), Go.Ab.AV.str (r.2.1), Go.Ab.AV.int Go.IntKind.i64 (r.2.2.1)], Go.Ab.AV.bool (r.2.2.2)]) [] :=
  Go.Ab.sim_of (E := En X) (impl_SyncLog.gok X n) mix (fn := Go.Proofs.Tryd.f32) (c := (bodyOf Go.Proofs.Tryd.f32)) (by kernel_rfl) (by kernel_rfl) (by kernel_rfl) (impl_SyncLog.loops n) (impl_SyncLog.cuts n) ((impl_SyncLog.eq n a0 a1 a2).trans h) (impl_SyncLog.hdec r)
noncomputable def impl_SyncLog.ctr (n : Nat) {R : Type} : List Go.Ab.AV → List Go.Ab.AObj → (Go.Ab.AV → List Go.Ab.AObj → Option R) → Option R
  | [Go.Ab.AV.agg [Go.Ab.AV.str a0, Go.Ab.AV.str a1, Go.Ab.AV.int Go.IntKind.i64 a2]], [], k => (impl_SyncLog.f n a0 a1 a2).bind fun r => k (Go.Ab.AV.tup [Go.Ab.AV.agg [Go.Ab.AV.str (r.1), Go.Ab.AV.str (r.2.1), Go.Ab.AV.int Go.IntKind.i64 (r.2.2.1)], Go.Ab.AV.bool (r.2.2.2)]) []
  | _, _, _ => none
noncomputable def impl_SyncLog.fits : List Go.Ab.AV → List Go.Ab.AObj → Bool
  | [Go.Ab.AV.agg [Go.Ab.AV.str a0, Go.Ab.AV.str a1, Go.Ab.AV.int Go.IntKind.i64 a2]], [] => true
  | _, _ => false
theorem impl_SyncLog.ok (X : Wd) (n : Nat) {R : Type} (args : List Go.Ab.AV) (objs : List Go.Ab.AObj) (k : Go.Ab.AV → List Go.Ab.AObj → Option R) (r : R) (h : impl_SyncLog.ctr n args objs k = some r) :
    Go.Ab.Enters Go.Proofs.Tryd.prog 32 ∧ ∃ v objs', Go.Ab.Sim (En X) 32 args objs v objs' ∧ k v objs' = some r := by
  unfold impl_SyncLog.ctr at h
  split at h
  · obtain ⟨x, h1, h2⟩ := Option.bind_eq_some_iff.1 h
    exact ⟨⟨Go.Proofs.Tryd.f32, by kernel_rfl, by kernel_rfl, by kernel_rfl⟩, _, _, impl_SyncLog.sim X n _ _ _ x h1, h2⟩
  · cases h

noncomputable def laws_vRecords.dec (v : Go.Ab.AV) (o : List Go.Ab.AObj) : Option Bool := match v, o with
  | Go.Ab.AV.bool a4, [] => some (a4)
  | _, _ => none
noncomputable def laws_vRecords.A : Go.Ab.Ann := { live := fun k => match k with | 4 => [0, 1, 5] | _ => [], out := fun k => match k with | 4 => [4] | _ => [], cut := fun _ => none }
noncomputable def laws_vRecords.G (n : Nat) {R : Type} : Go.Ab.Ctr R := fun g args objs k => none
noncomputable def laws_vRecords.B (i : Nat) : Go.Code := (Go.Ab.loopsOf (bodyOf Go.Proofs.Tryd.f34)).getD i Go.Code.skip
noncomputable def laws_vRecords.h4 (n : Nat) (v : List Go.Ab.AV) (o : List Go.Ab.AObj) (K : Go.Ab.Kont Bool) : Option Bool := match v, o with
  | [Go.Ab.AV.sval x18 x19 Bool.false, Go.Ab.AV.sval x20 x21 Bool.false, Go.Ab.AV.int Go.IntKind.i64 x22], [] => laws_vRecords.l4 n (fun y37 => K (Go.Ab.Ex.ret) [Go.Ab.AV.bool y37] []) (K (Go.Ab.Ex.exit 0) [Go.Ab.AV.undef] []) n x18 x19 x20 x21 x22
  | _, _ => none
noncomputable def laws_vRecords.H (n : Nat) : Go.Ab.Hnd Bool := { loop := fun key _ v o K => match key with | 4 => laws_vRecords.h4 n v o K | _ => none, cut := fun _ _ _ _ _ => none }
theorem laws_vRecords.loop4 (n0 : Nat) (K : Go.Ab.Kont Bool) : ∀ (n : Nat) (x18 : List Go.Ab.AV) (x19 : Nat) (x20 : List Go.Ab.AV) (x21 : Nat) (x22 : Int), Go.Ab.loopK 26 0 (laws_vRecords.A.live 4) (laws_vRecords.A.out 4) (fun t o k => Go.Ab.denK Go.Proofs.Tryd.prog (laws_vRecords.G n0) laws_vRecords.A (laws_vRecords.H n0) 26 0 (laws_vRecords.B 0) t o k) n [Go.Ab.AV.sval x18 x19 Bool.false, Go.Ab.AV.sval x20 x21 Bool.false, Go.Ab.AV.int Go.IntKind.i64 x22] [] K = laws_vRecords.l4 n0 (fun y37 => K (Go.Ab.Ex.ret) [Go.Ab.AV.bool y37] []) (K (Go.Ab.Ex.exit 0) [Go.Ab.AV.undef] []) n x18 x19 x20 x21 x22
  | 0, _, _, _, _, _ => rfl
  | n + 1, x18, x19, x20, x21, x22 => by
    have ih : (fun (x18 : List Go.Ab.AV) (x19 : Nat) (x20 : List Go.Ab.AV) (x21 : Nat) (x22 : Int) => Go.Ab.loopK 26 0 (laws_vRecords.A.live 4) (laws_vRecords.A.out 4) (fun t o k => Go.Ab.denK Go.Proofs.Tryd.prog (laws_vRecords.G n0) laws_vRecords.A (laws_vRecords.H n0) 26 0 (laws_vRecords.B 0) t o k) n [Go.Ab.AV.sval x18 x19 Bool.false, Go.Ab.AV.sval x20 x21 Bool.false, Go.Ab.AV.int Go.IntKind.i64 x22] [] K) = laws_vRecords.l4 n0 (fun y37 => K (Go.Ab.Ex.ret) [Go.Ab.AV.bool y37] []) (K (Go.Ab.Ex.exit 0) [Go.Ab.AV.undef] []) n := by funext x18 x19 x20 x21 x22; exact laws_vRecords.loop4 n0 K n x18 x19 x20 x21 x22
    have st : Go.Ab.loopK 26 0 (laws_vRecords.A.live 4) (laws_vRecords.A.out 4) (fun t o k => Go.Ab.denK Go.Proofs.Tryd.prog (laws_vRecords.G n0) laws_vRecords.A (laws_vRecords.H n0) 26 0 (laws_vRecords.B 0) t o k) (n + 1) [Go.Ab.AV.sval x18 x19 Bool.false, Go.Ab.AV.sval x20 x21 Bool.false, Go.Ab.AV.int Go.IntKind.i64 x22] [] K = laws_vRecords.l4S n0 (fun (x18 : List Go.Ab.AV) (x19 : Nat) (x20 : List Go.Ab.AV) (x21 : Nat) (x22 : Int) => Go.Ab.loopK 26 0 (laws_vRecords.A.live 4) (laws_vRecords.A.out 4) (fun t o k => Go.Ab.denK Go.Proofs.Tryd.prog (laws_vRecords.G n0) laws_vRecords.A (laws_vRecords.H n0) 26 0 (laws_vRecords.B 0) t o k) n [Go.Ab.AV.sval x18 x19 Bool.false, Go.Ab.AV.sval x20 x21 Bool.false, Go.Ab.AV.int Go.IntKind.i64 x22] [] K) (fun y37 => K (Go.Ab.Ex.ret) [Go.Ab.AV.bool y37] []) (K (Go.Ab.Ex.exit 0) [Go.Ab.AV.undef] []) x18 x19 x20 x21 x22 := by kernel_rfl
    rw [st, ih]; rfl
theorem laws_vRecords.lok4 (n0 : Nat) : Go.Ab.LoopOk Go.Proofs.Tryd.prog (laws_vRecords.G n0) laws_vRecords.A (laws_vRecords.H n0) 26 0 (laws_vRecords.B 0) := by
  intro v o K r h
  have hk : Go.Ab.key (laws_vRecords.B 0) = 4 := by kernel_rfl
  rw [hk] at h ⊢
  change laws_vRecords.h4 n0 v o K = some r at h
  unfold laws_vRecords.h4 at h
  split at h
  · exact ⟨n0, by rw [laws_vRecords.loop4]; exact h⟩
  · cases h
theorem laws_vRecords.loops (n0 : Nat) : ∀ b ∈ Go.Ab.loopsOf (bodyOf Go.Proofs.Tryd.f34), Go.Ab.LoopOk Go.Proofs.Tryd.prog (laws_vRecords.G n0) laws_vRecords.A (laws_vRecords.H n0) 26 0 b :=
  Go.Ab.forall_getD 1 (by kernel_rfl) Go.Code.skip fun i hi => match i, hi with
    | 0, _ => laws_vRecords.lok4 n0
    | j + 1, hj => absurd hj (by omega)
theorem laws_vRecords.cuts (n0 : Nat) : ∀ b ∈ Go.Ab.cutsOf laws_vRecords.A (bodyOf Go.Proofs.Tryd.f34), Go.Ab.CutOk Go.Proofs.Tryd.prog (laws_vRecords.G n0) laws_vRecords.A (laws_vRecords.H n0) 26 0 b := Go.Ab.forall_nil (by kernel_rfl)
theorem laws_vRecords.eq (n : Nat) (a0 : List Go.Ab.AV) (a1 : Nat) (a2 : List Go.Ab.AV) (a3 : Nat) : Go.Ab.funK Go.Proofs.Tryd.prog (laws_vRecords.G n) laws_vRecords.A (laws_vRecords.H n) false Go.Proofs.Tryd.f34 (bodyOf Go.Proofs.Tryd.f34) [Go.Ab.AV.sval a0 a1 Bool.false, Go.Ab.AV.sval a2 a3 Bool.false] [] laws_vRecords.dec = laws_vRecords.f n a0 a1 a2 a3 := by kernel_rfl
theorem laws_vRecords.gok (X : Wd) (n : Nat) {R : Type} : Go.Ab.CtrOk (En X) (laws_vRecords.G n : Go.Ab.Ctr R) := by
  intro g args objs k r h
  cases h
theorem laws_vRecords.hdec (r : Bool) (v : Go.Ab.AV) (o : List Go.Ab.AObj) (h : laws_vRecords.dec v o = some r) : v = Go.Ab.AV.bool (r) ∧ o = [] := by
  unfold laws_vRecords.dec at h
  split at h
  · cases h; exact ⟨rfl, rfl⟩
  · cases h
theorem laws_vRecords.sim (X : Wd) (n : Nat) (a0 : List Go.Ab.AV) (a1 : Nat) (a2 : List Go.Ab.AV) (a3 : Nat) (r : Bool) (h : laws_vRecords.f n a0 a1 a2 a3 = some r) : Go.Ab.Sim (En X) 34 [Go.Ab.AV.sval a0 a1 Bool.false, Go.Ab.AV.sval a2 a3 Bool.false] [] (Go.Ab.AV.bool (r)) [] :=
  Go.Ab.sim_of (E := En X) (laws_vRecords.gok X n) mix (fn := Go.Proofs.Tryd.f34) (c := (bodyOf Go.Proofs.Tryd.f34)) (by kernel_rfl) (by kernel_rfl) (by kernel_rfl) (laws_vRecords.loops n) (laws_vRecords.cuts n) ((laws_vRecords.eq n a0 a1 a2 a3).trans h) (laws_vRecords.hdec r)
noncomputable def laws_vRecords.ctr (n : Nat) {R : Type} : List Go.Ab.AV → List Go.Ab.AObj → (Go.Ab.AV → List Go.Ab.AObj → Option R) → Option R
  | [Go.Ab.AV.sval a0 a1 Bool.false, Go.Ab.AV.sval a2 a3 Bool.false], [], k => (laws_vRecords.f n a0 a1 a2 a3).bind fun r => k (Go.Ab.AV.bool (r)) []
  | _, _, _ => none
noncomputable def laws_vRecords.fits : List Go.Ab.AV → List Go.Ab.AObj → Bool
  | [Go.Ab.AV.sval a0 a1 Bool.false, Go.Ab.AV.sval a2 a3 Bool.false], [] => true
  | _, _ => false
theorem laws_vRecords.ok (X : Wd) (n : Nat) {R : Type} (args : List Go.Ab.AV) (objs : List Go.Ab.AObj) (k : Go.Ab.AV → List Go.Ab.AObj → Option R) (r : R) (h : laws_vRecords.ctr n args objs k = some r) :
    Go.Ab.Enters Go.Proofs.Tryd.prog 34 ∧ ∃ v objs', Go.Ab.Sim (En X) 34 args objs v objs' ∧ k v objs' = some r := by
  unfold laws_vRecords.ctr at h
  split at h
  · obtain ⟨x, h1, h2⟩ := Option.bind_eq_some_iff.1 h
    exact ⟨⟨Go.Proofs.Tryd.f34, by kernel_rfl, by kernel_rfl, by kernel_rfl⟩, _, _, laws_vRecords.sim X n _ _ _ _ x h1, h2⟩
  · cases h

noncomputable def laws_FnLogs.dec (v : Go.Ab.AV) (o : List Go.Ab.AObj) : Option Bool := match v, o with
  | Go.Ab.AV.bool a2, [] => some (a2)
  | _, _ => none
noncomputable def laws_FnLogs.A : Go.Ab.Ann := { live := fun _ => [], out := fun _ => [], cut := fun _ => none }
noncomputable def laws_FnLogs.G (n : Nat) {R : Type} : Go.Ab.Ctr R := fun g args objs k => match g with | 18 => laws_vBig.ctr n args objs k | 19 => spec_DrawIsValidRecord.ctr n args objs k | 21 => laws_vCut.ctr n args objs k | 20 => spec_DrawEncodeRecord.ctr n args objs k | 22 => impl_EncodeRecord.ctr n args objs k | 23 => spec_EncodeRecord.ctr n args objs k | 24 => spec_DrawIsValidLog.ctr n args objs k | 25 => spec_DrawAppendRecord.ctr n args objs k | 26 => impl_AppendRecord.ctr n args objs k | 27 => spec_AppendRecord.ctr n args objs k | 28 => impl_IsValidRecord.ctr n args objs k | 29 => spec_IsValidRecord.ctr n args objs k | 30 => impl_IsValidLog.ctr n args objs k | 31 => spec_IsValidLog.ctr n args objs k | 32 => impl_SyncLog.ctr n args objs k | 33 => spec_SyncLog.ctr n args objs k | 10 => impl_LogRecords.ctr n args objs k | 8 => spec_LogRecords.ctr n args objs k | 34 => laws_vRecords.ctr n args objs k | _ => none
noncomputable def laws_FnLogs.B (i : Nat) : Go.Code := (Go.Ab.loopsOf (bodyOf Go.Proofs.Tryd.f5)).getD i Go.Code.skip
noncomputable def laws_FnLogs.H (n : Nat) : Go.Ab.Hnd Bool := { loop := fun key _ v o K => none, cut := fun _ _ _ _ _ => none }
theorem laws_FnLogs.loops (n0 : Nat) : ∀ b ∈ Go.Ab.loopsOf (bodyOf Go.Proofs.Tryd.f5), Go.Ab.LoopOk Go.Proofs.Tryd.prog (laws_FnLogs.G n0) laws_FnLogs.A (laws_FnLogs.H n0) 192 0 b := Go.Ab.forall_nil (by kernel_rfl)
theorem laws_FnLogs.cuts (n0 : Nat) : ∀ b ∈ Go.Ab.cutsOf laws_FnLogs.A (bodyOf Go.Proofs.Tryd.f5), Go.Ab.CutOk Go.Proofs.Tryd.prog (laws_FnLogs.G n0) laws_FnLogs.A (laws_FnLogs.H n0) 192 0 b := Go.Ab.forall_nil (by kernel_rfl)
theorem laws_FnLogs.eq (n : Nat) (a0 : List Go.Ab.AV) (a1 : Nat) : Go.Ab.funK Go.Proofs.Tryd.prog (laws_FnLogs.G n) laws_FnLogs.A (laws_FnLogs.H n) false Go.Proofs.Tryd.f5 (bodyOf Go.Proofs.Tryd.f5) [Go.Ab.AV.sval a0 a1 Bool.false] [] laws_FnLogs.dec = laws_FnLogs.f n a0 a1 := by kernel_rfl
theorem laws_FnLogs.gok (X : Wd) (n : Nat) {R : Type} : Go.Ab.CtrOk (En X) (laws_FnLogs.G n : Go.Ab.Ctr R) := by
  intro g args objs k r h
  unfold laws_FnLogs.G at h
  split at h
  · exact laws_vBig.ok X _ args objs k r h
  · exact spec_DrawIsValidRecord.ok X _ args objs k r h
  · exact laws_vCut.ok X _ args objs k r h
  · exact spec_DrawEncodeRecord.ok X _ args objs k r h
  · exact impl_EncodeRecord.ok X _ args objs k r h
  · exact spec_EncodeRecord.ok X _ args objs k r h
  · exact spec_DrawIsValidLog.ok X _ args objs k r h
  · exact spec_DrawAppendRecord.ok X _ args objs k r h
  · exact impl_AppendRecord.ok X _ args objs k r h
  · exact spec_AppendRecord.ok X _ args objs k r h
  · exact impl_IsValidRecord.ok X _ args objs k r h
  · exact spec_IsValidRecord.ok X _ args objs k r h
  · exact impl_IsValidLog.ok X _ args objs k r h
  · exact spec_IsValidLog.ok X _ args objs k r h
  · exact impl_SyncLog.ok X _ args objs k r h
  · exact spec_SyncLog.ok X _ args objs k r h
  · exact impl_LogRecords.ok X _ args objs k r h
  · exact spec_LogRecords.ok X _ args objs k r h
  · exact laws_vRecords.ok X _ args objs k r h
  · cases h
theorem laws_FnLogs.hdec (r : Bool) (v : Go.Ab.AV) (o : List Go.Ab.AObj) (h : laws_FnLogs.dec v o = some r) : v = Go.Ab.AV.bool (r) ∧ o = [] := by
  unfold laws_FnLogs.dec at h
  split at h
  · cases h; exact ⟨rfl, rfl⟩
  · cases h
theorem laws_FnLogs.sim (X : Wd) (n : Nat) (a0 : List Go.Ab.AV) (a1 : Nat) (r : Bool) (h : laws_FnLogs.f n a0 a1 = some r) : Go.Ab.Sim (En X) 5 [Go.Ab.AV.sval a0 a1 Bool.false] [] (Go.Ab.AV.bool (r)) [] :=
  Go.Ab.sim_of (E := En X) (laws_FnLogs.gok X n) mix (fn := Go.Proofs.Tryd.f5) (c := (bodyOf Go.Proofs.Tryd.f5)) (by kernel_rfl) (by kernel_rfl) (by kernel_rfl) (laws_FnLogs.loops n) (laws_FnLogs.cuts n) ((laws_FnLogs.eq n a0 a1).trans h) (laws_FnLogs.hdec r)
noncomputable def laws_FnLogs.ctr (n : Nat) {R : Type} : List Go.Ab.AV → List Go.Ab.AObj → (Go.Ab.AV → List Go.Ab.AObj → Option R) → Option R
  | [Go.Ab.AV.sval a0 a1 Bool.false], [], k => (laws_FnLogs.f n a0 a1).bind fun r => k (Go.Ab.AV.bool (r)) []
  | _, _, _ => none
noncomputable def laws_FnLogs.fits : List Go.Ab.AV → List Go.Ab.AObj → Bool
  | [Go.Ab.AV.sval a0 a1 Bool.false], [] => true
  | _, _ => false
theorem laws_FnLogs.ok (X : Wd) (n : Nat) {R : Type} (args : List Go.Ab.AV) (objs : List Go.Ab.AObj) (k : Go.Ab.AV → List Go.Ab.AObj → Option R) (r : R) (h : laws_FnLogs.ctr n args objs k = some r) :
    Go.Ab.Enters Go.Proofs.Tryd.prog 5 ∧ ∃ v objs', Go.Ab.Sim (En X) 5 args objs v objs' ∧ k v objs' = some r := by
  unfold laws_FnLogs.ctr at h
  split at h
  · obtain ⟨x, h1, h2⟩ := Option.bind_eq_some_iff.1 h
    exact ⟨⟨Go.Proofs.Tryd.f5, by kernel_rfl, by kernel_rfl, by kernel_rfl⟩, _, _, laws_FnLogs.sim X n _ _ x h1, h2⟩
  · cases h

noncomputable def spec_DrawCrashLog.dec (v : Go.Ab.AV) (o : List Go.Ab.AObj) : Option (ByteArray × ByteArray × Int × Int × Bool) := match v, o with
  | Go.Ab.AV.tup [Go.Ab.AV.agg [Go.Ab.AV.str a2, Go.Ab.AV.str a3, Go.Ab.AV.int Go.IntKind.i64 a4], Go.Ab.AV.int Go.IntKind.i64 a5, Go.Ab.AV.bool a6], [] => some (a2, a3, a4, a5, a6)
  | _, _ => none
noncomputable def spec_DrawCrashLog.A : Go.Ab.Ann := { live := fun _ => [], out := fun _ => [], cut := fun _ => none }
noncomputable def spec_DrawCrashLog.G (n : Nat) {R : Type} : Go.Ab.Ctr R := fun g args objs k => match g with | 56 => spec_l1Cur_anyLog.ctr n args objs k | 58 => spec_l1Cur_pick.ctr n args objs k | 57 => spec_l1Cur_one.ctr n args objs k | _ => none
noncomputable def spec_DrawCrashLog.B (i : Nat) : Go.Code := (Go.Ab.loopsOf (bodyOf Go.Proofs.Tryd.f35)).getD i Go.Code.skip
noncomputable def spec_DrawCrashLog.H (n : Nat) : Go.Ab.Hnd (ByteArray × ByteArray × Int × Int × Bool) := { loop := fun key _ v o K => none, cut := fun _ _ _ _ _ => none }
theorem spec_DrawCrashLog.loops (n0 : Nat) : ∀ b ∈ Go.Ab.loopsOf (bodyOf Go.Proofs.Tryd.f35), Go.Ab.LoopOk Go.Proofs.Tryd.prog (spec_DrawCrashLog.G n0) spec_DrawCrashLog.A (spec_DrawCrashLog.H n0) 24 0 b := Go.Ab.forall_nil (by kernel_rfl)
theorem spec_DrawCrashLog.cuts (n0 : Nat) : ∀ b ∈ Go.Ab.cutsOf spec_DrawCrashLog.A (bodyOf Go.Proofs.Tryd.f35), Go.Ab.CutOk Go.Proofs.Tryd.prog (spec_DrawCrashLog.G n0) spec_DrawCrashLog.A (spec_DrawCrashLog.H n0) 24 0 b := Go.Ab.forall_nil (by kernel_rfl)
theorem spec_DrawCrashLog.eq (n : Nat) (a0 : List Go.Ab.AV) (a1 : Nat) : Go.Ab.funK Go.Proofs.Tryd.prog (spec_DrawCrashLog.G n) spec_DrawCrashLog.A (spec_DrawCrashLog.H n) false Go.Proofs.Tryd.f35 (bodyOf Go.Proofs.Tryd.f35) [Go.Ab.AV.sval a0 a1 Bool.false] [] spec_DrawCrashLog.dec = spec_DrawCrashLog.f n a0 a1 := by kernel_rfl
theorem spec_DrawCrashLog.gok (X : Wd) (n : Nat) {R : Type} : Go.Ab.CtrOk (En X) (spec_DrawCrashLog.G n : Go.Ab.Ctr R) := by
  intro g args objs k r h
  unfold spec_DrawCrashLog.G at h
  split at h
  · exact spec_l1Cur_anyLog.ok X _ args objs k r h
  · exact spec_l1Cur_pick.ok X _ args objs k r h
  · exact spec_l1Cur_one.ok X _ args objs k r h
  · cases h
theorem spec_DrawCrashLog.hdec (r : (ByteArray × ByteArray × Int × Int × Bool)) (v : Go.Ab.AV) (o : List Go.Ab.AObj) (h : spec_DrawCrashLog.dec v o = some r) : v = Go.Ab.AV.tup [Go.Ab.AV.agg [Go.Ab.AV.str (r.1), Go.Ab.AV.str (r.2.1), Go.Ab.AV.int Go.IntKind.i64 (r.2.2.1)], Go.Ab.AV.int Go.IntKind.i64 (r.2.2.2.1), Go.Ab.AV.bool (r.2.2.2.2)] ∧ o = [] := by
  unfold spec_DrawCrashLog.dec at h
  split at h
  · cases h; exact ⟨rfl, rfl⟩
  · cases h
theorem spec_DrawCrashLog.sim (X : Wd) (n : Nat) (a0 : List Go.Ab.AV) (a1 : Nat) (r : (ByteArray × ByteArray × Int × Int × Bool)) (h : spec_DrawCrashLog.f n a0 a1 = some r) : Go.Ab.Sim (En X) 35 [Go.Ab.AV.sval a0 a1 Bool.false] [] (Go.Ab.AV.tup [Go.Ab.AV.agg [Go.Ab.AV.str (r.1), Go.Ab.AV.str (r.2.1), Go.Ab.AV.int Go.IntKind.i64 (r.2.2.1)], Go.Ab.AV.int Go.IntKind.i64 (r.2.2.2.1), Go.Ab.AV.bool (r.2.2.2.2)]) [] :=
  Go.Ab.sim_of (E := En X) (spec_DrawCrashLog.gok X n) mix (fn := Go.Proofs.Tryd.f35) (c := (bodyOf Go.Proofs.Tryd.f35)) (by kernel_rfl) (by kernel_rfl) (by kernel_rfl) (spec_DrawCrashLog.loops n) (spec_DrawCrashLog.cuts n) ((spec_DrawCrashLog.eq n a0 a1).trans h) (spec_DrawCrashLog.hdec r)
noncomputable def spec_DrawCrashLog.ctr (n : Nat) {R : Type} : List Go.Ab.AV → List Go.Ab.AObj → (Go.Ab.AV → List Go.Ab.AObj → Option R) → Option R
  | [Go.Ab.AV.sval a0 a1 Bool.false], [], k => (spec_DrawCrashLog.f n a0 a1).bind fun r => k (Go.Ab.AV.tup [Go.Ab.AV.agg [Go.Ab.AV.str (r.1), Go.Ab.AV.str (r.2.1), Go.Ab.AV.int Go.IntKind.i64 (r.2.2.1)], Go.Ab.AV.int Go.IntKind.i64 (r.2.2.2.1), Go.Ab.AV.bool (r.2.2.2.2)]) []
  | _, _, _ => none
noncomputable def spec_DrawCrashLog.fits : List Go.Ab.AV → List Go.Ab.AObj → Bool
  | [Go.Ab.AV.sval a0 a1 Bool.false], [] => true
  | _, _ => false
theorem spec_DrawCrashLog.ok (X : Wd) (n : Nat) {R : Type} (args : List Go.Ab.AV) (objs : List Go.Ab.AObj) (k : Go.Ab.AV → List Go.Ab.AObj → Option R) (r : R) (h : spec_DrawCrashLog.ctr n args objs k = some r) :
    Go.Ab.Enters Go.Proofs.Tryd.prog 35 ∧ ∃ v objs', Go.Ab.Sim (En X) 35 args objs v objs' ∧ k v objs' = some r := by
  unfold spec_DrawCrashLog.ctr at h
  split at h
  · obtain ⟨x, h1, h2⟩ := Option.bind_eq_some_iff.1 h
    exact ⟨⟨Go.Proofs.Tryd.f35, by kernel_rfl, by kernel_rfl, by kernel_rfl⟩, _, _, spec_DrawCrashLog.sim X n _ _ x h1, h2⟩
  · cases h

noncomputable def impl_CrashLog.dec (v : Go.Ab.AV) (o : List Go.Ab.AObj) : Option (ByteArray × Bool) := match v, o with
  | Go.Ab.AV.tup [Go.Ab.AV.str a5, Go.Ab.AV.bool a6], [] => some (a5, a6)
  | _, _ => none
noncomputable def impl_CrashLog.A : Go.Ab.Ann := { live := fun _ => [], out := fun _ => [], cut := fun _ => none }
noncomputable def impl_CrashLog.G (n : Nat) {R : Type} : Go.Ab.Ctr R := fun g args objs k => match g with | 30 => impl_IsValidLog.ctr n args objs k | _ => none
noncomputable def impl_CrashLog.B (i : Nat) : Go.Code := (Go.Ab.loopsOf (bodyOf Go.Proofs.Tryd.f36)).getD i Go.Code.skip
noncomputable def impl_CrashLog.H (n : Nat) : Go.Ab.Hnd (ByteArray × Bool) := { loop := fun key _ v o K => none, cut := fun _ _ _ _ _ => none }
theorem impl_CrashLog.loops (n0 : Nat) : ∀ b ∈ Go.Ab.loopsOf (bodyOf Go.Proofs.Tryd.f36), Go.Ab.LoopOk Go.Proofs.Tryd.prog (impl_CrashLog.G n0) impl_CrashLog.A (impl_CrashLog.H n0) 50 0 b := Go.Ab.forall_nil (by kernel_rfl)
theorem impl_CrashLog.cuts (n0 : Nat) : ∀ b ∈ Go.Ab.cutsOf impl_CrashLog.A (bodyOf Go.Proofs.Tryd.f36), Go.Ab.CutOk Go.Proofs.Tryd.prog (impl_CrashLog.G n0) impl_CrashLog.A (impl_CrashLog.H n0) 50 0 b := Go.Ab.forall_nil (by kernel_rfl)
theorem impl_CrashLog.eq (n : Nat) (a0 : ByteArray) (a1 : ByteArray) (a2 : Int) (a3 : Int) (a4 : Bool) : Go.Ab.funK Go.Proofs.Tryd.prog (impl_CrashLog.G n) impl_CrashLog.A (impl_CrashLog.H n) false Go.Proofs.Tryd.f36 (bodyOf Go.Proofs.Tryd.f36) [Go.Ab.AV.agg [Go.Ab.AV.str a0, Go.Ab.AV.str a1, Go.Ab.AV.int Go.IntKind.i64 a2], Go.Ab.AV.int Go.IntKind.i64 a3, Go.Ab.AV.bool a4] [] impl_CrashLog.dec = impl_CrashLog.f n a0 a1 a2 a3 a4 := by kernel_rfl
theorem impl_CrashLog.gok (X : Wd) (n : Nat) {R : Type} : Go.Ab.CtrOk (En X) (impl_CrashLog.G n : Go.Ab.Ctr R) := by
  intro g args objs k r h
  unfold impl_CrashLog.G at h
  split at h
  · exact impl_IsValidLog.ok X _ args objs k r h
  · cases h
theorem impl_CrashLog.hdec (r : (ByteArray × Bool)) (v : Go.Ab.AV) (o : List Go.Ab.AObj) (h : impl_CrashLog.dec v o = some r) : v = Go.Ab.AV.tup [Go.Ab.AV.str (r.1), Go.Ab.AV.bool (r.2)] ∧ o = [] := by
  unfold impl_CrashLog.dec at h
  split at h
  · cases h; exact ⟨rfl, rfl⟩
  · cases h
theorem impl_CrashLog.sim (X : Wd) (n : Nat) (a0 : ByteArray) (a1 : ByteArray) (a2 : Int) (a3 : Int) (a4 : Bool) (r : (ByteArray × Bool)) (h : impl_CrashLog.f n a0 a1 a2 a3 a4 = some r) : Go.Ab.Sim (En X) 36 [Go.Ab.AV.agg [Go.Ab.AV.str a0, Go.Ab.AV.str a1, Go.Ab.AV.int Go.IntKind.i64 a2], Go.Ab.AV.int Go.IntKind.i64 a3, Go.Ab.AV.bool a4] [] (Go.Ab.AV.tup [Go.Ab.AV.str (r.1), Go.Ab.AV.bool (r.2)]) [] :=
  Go.Ab.sim_of (E := En X) (impl_CrashLog.gok X n) mix (fn := Go.Proofs.Tryd.f36) (c := (bodyOf Go.Proofs.Tryd.f36)) (by kernel_rfl) (by kernel_rfl) (by kernel_rfl) (impl_CrashLog.loops n) (impl_CrashLog.cuts n) ((impl_CrashLog.eq n a0 a1 a2 a3 a4).trans h) (impl_CrashLog.hdec r)
noncomputable def impl_CrashLog.ctr (n : Nat) {R : Type} : List Go.Ab.AV → List Go.Ab.AObj → (Go.Ab.AV → List Go.Ab.AObj → Option R) → Option R
  | [Go.Ab.AV.agg [Go.Ab.AV.str a0, Go.Ab.AV.str a1, Go.Ab.AV.int Go.IntKind.i64 a2], Go.Ab.AV.int Go.IntKind.i64 a3, Go.Ab.AV.bool a4], [], k => (impl_CrashLog.f n a0 a1 a2 a3 a4).bind fun r => k (Go.Ab.AV.tup [Go.Ab.AV.str (r.1), Go.Ab.AV.bool (r.2)]) []
  | _, _, _ => none
noncomputable def impl_CrashLog.fits : List Go.Ab.AV → List Go.Ab.AObj → Bool
  | [Go.Ab.AV.agg [Go.Ab.AV.str a0, Go.Ab.AV.str a1, Go.Ab.AV.int Go.IntKind.i64 a2], Go.Ab.AV.int Go.IntKind.i64 a3, Go.Ab.AV.bool a4], [] => true
  | _, _ => false
theorem impl_CrashLog.ok (X : Wd) (n : Nat) {R : Type} (args : List Go.Ab.AV) (objs : List Go.Ab.AObj) (k : Go.Ab.AV → List Go.Ab.AObj → Option R) (r : R) (h : impl_CrashLog.ctr n args objs k = some r) :
    Go.Ab.Enters Go.Proofs.Tryd.prog 36 ∧ ∃ v objs', Go.Ab.Sim (En X) 36 args objs v objs' ∧ k v objs' = some r := by
  unfold impl_CrashLog.ctr at h
  split at h
  · obtain ⟨x, h1, h2⟩ := Option.bind_eq_some_iff.1 h
    exact ⟨⟨Go.Proofs.Tryd.f36, by kernel_rfl, by kernel_rfl, by kernel_rfl⟩, _, _, impl_CrashLog.sim X n _ _ _ _ _ x h1, h2⟩
  · cases h

noncomputable def spec_CrashLog.dec (v : Go.Ab.AV) (o : List Go.Ab.AObj) : Option (ByteArray × Bool) := match v, o with
  | Go.Ab.AV.tup [Go.Ab.AV.str a5, Go.Ab.AV.bool a6], [] => some (a5, a6)
  | _, _ => none
noncomputable def spec_CrashLog.A : Go.Ab.Ann := { live := fun _ => [], out := fun _ => [], cut := fun _ => none }
noncomputable def spec_CrashLog.G (n : Nat) {R : Type} : Go.Ab.Ctr R := fun g args objs k => match g with | 41 => spec_l12Valid.ctr n args objs k | 53 => spec_l1In.ctr n args objs k | _ => none
noncomputable def spec_CrashLog.B (i : Nat) : Go.Code := (Go.Ab.loopsOf (bodyOf Go.Proofs.Tryd.f37)).getD i Go.Code.skip
noncomputable def spec_CrashLog.H (n : Nat) : Go.Ab.Hnd (ByteArray × Bool) := { loop := fun key _ v o K => none, cut := fun _ _ _ _ _ => none }
theorem spec_CrashLog.loops (n0 : Nat) : ∀ b ∈ Go.Ab.loopsOf (bodyOf Go.Proofs.Tryd.f37), Go.Ab.LoopOk Go.Proofs.Tryd.prog (spec_CrashLog.G n0) spec_CrashLog.A (spec_CrashLog.H n0) 45 0 b := Go.Ab.forall_nil (by kernel_rfl)
theorem spec_CrashLog.cuts (n0 : Nat) : ∀ b ∈ Go.Ab.cutsOf spec_CrashLog.A (bodyOf Go.Proofs.Tryd.f37), Go.Ab.CutOk Go.Proofs.Tryd.prog (spec_CrashLog.G n0) spec_CrashLog.A (spec_CrashLog.H n0) 45 0 b := Go.Ab.forall_nil (by kernel_rfl)
theorem spec_CrashLog.eq (n : Nat) (a0 : ByteArray) (a1 : ByteArray) (a2 : Int) (a3 : Int) (a4 : Bool) : Go.Ab.funK Go.Proofs.Tryd.prog (spec_CrashLog.G n) spec_CrashLog.A (spec_CrashLog.H n) false Go.Proofs.Tryd.f37 (bodyOf Go.Proofs.Tryd.f37) [Go.Ab.AV.agg [Go.Ab.AV.str a0, Go.Ab.AV.str a1, Go.Ab.AV.int Go.IntKind.i64 a2], Go.Ab.AV.int Go.IntKind.i64 a3, Go.Ab.AV.bool a4] [] spec_CrashLog.dec = spec_CrashLog.f n a0 a1 a2 a3 a4 := by kernel_rfl
theorem spec_CrashLog.gok (X : Wd) (n : Nat) {R : Type} : Go.Ab.CtrOk (En X) (spec_CrashLog.G n : Go.Ab.Ctr R) := by
  intro g args objs k r h
  unfold spec_CrashLog.G at h
  split at h
  · exact spec_l12Valid.ok X _ args objs k r h
  · exact spec_l1In.ok X _ args objs k r h
  · cases h
theorem spec_CrashLog.hdec (r : (ByteArray × Bool)) (v : Go.Ab.AV) (o : List Go.Ab.AObj) (h : spec_CrashLog.dec v o = some r) : v = Go.Ab.AV.tup [Go.Ab.AV.str (r.1), Go.Ab.AV.bool (r.2)] ∧ o = [] := by
  unfold spec_CrashLog.dec at h
  split at h
  · cases h; exact ⟨rfl, rfl⟩
  · cases h
theorem spec_CrashLog.sim (X : Wd) (n : Nat) (a0 : ByteArray) (a1 : ByteArray) (a2 : Int) (a3 : Int) (a4 : Bool) (r : (ByteArray × Bool)) (h : spec_CrashLog.f n a0 a1 a2 a3 a4 = some r) : Go.Ab.Sim (En X) 37 [Go.Ab.AV.agg [Go.Ab.AV.str a0, Go.Ab.AV.str a1, Go.Ab.AV.int Go.IntKind.i64 a2], Go.Ab.AV.int Go.IntKind.i64 a3, Go.Ab.AV.bool a4] [] (Go.Ab.AV.tup [Go.Ab.AV.str (r.1), Go.Ab.AV.bool (r.2)]) [] :=
  Go.Ab.sim_of (E := En X) (spec_CrashLog.gok X n) mix (fn := Go.Proofs.Tryd.f37) (c := (bodyOf Go.Proofs.Tryd.f37)) (by kernel_rfl) (by kernel_rfl) (by kernel_rfl) (spec_CrashLog.loops n) (spec_CrashLog.cuts n) ((spec_CrashLog.eq n a0 a1 a2 a3 a4).trans h) (spec_CrashLog.hdec r)
noncomputable def spec_CrashLog.ctr (n : Nat) {R : Type} : List Go.Ab.AV → List Go.Ab.AObj → (Go.Ab.AV → List Go.Ab.AObj → Option R) → Option R
  | [Go.Ab.AV.agg [Go.Ab.AV.str a0, Go.Ab.AV.str a1, Go.Ab.AV.int Go.IntKind.i64 a2], Go.Ab.AV.int Go.IntKind.i64 a3, Go.Ab.AV.bool a4], [], k => (spec_CrashLog.f n a0 a1 a2 a3 a4).bind fun r => k (Go.Ab.AV.tup [Go.Ab.AV.str (r.1), Go.Ab.AV.bool (r.2)]) []
  | _, _, _ => none
noncomputable def spec_CrashLog.fits : List Go.Ab.AV → List Go.Ab.AObj → Bool
  | [Go.Ab.AV.agg [Go.Ab.AV.str a0, Go.Ab.AV.str a1, Go.Ab.AV.int Go.IntKind.i64 a2], Go.Ab.AV.int Go.IntKind.i64 a3, Go.Ab.AV.bool a4], [] => true
  | _, _ => false
theorem spec_CrashLog.ok (X : Wd) (n : Nat) {R : Type} (args : List Go.Ab.AV) (objs : List Go.Ab.AObj) (k : Go.Ab.AV → List Go.Ab.AObj → Option R) (r : R) (h : spec_CrashLog.ctr n args objs k = some r) :
    Go.Ab.Enters Go.Proofs.Tryd.prog 37 ∧ ∃ v objs', Go.Ab.Sim (En X) 37 args objs v objs' ∧ k v objs' = some r := by
  unfold spec_CrashLog.ctr at h
  split at h
  · obtain ⟨x, h1, h2⟩ := Option.bind_eq_some_iff.1 h
    exact ⟨⟨Go.Proofs.Tryd.f37, by kernel_rfl, by kernel_rfl, by kernel_rfl⟩, _, _, spec_CrashLog.sim X n _ _ _ _ _ x h1, h2⟩
  · cases h

noncomputable def spec_DrawRecoverLog.dec (v : Go.Ab.AV) (o : List Go.Ab.AObj) : Option ByteArray := match v, o with
  | Go.Ab.AV.str a2, [] => some (a2)
  | _, _ => none
noncomputable def spec_DrawRecoverLog.A : Go.Ab.Ann := { live := fun _ => [], out := fun _ => [], cut := fun _ => none }
noncomputable def spec_DrawRecoverLog.G (n : Nat) {R : Type} : Go.Ab.Ctr R := fun g args objs k => match g with | 62 => spec_l1Cur_log12.ctr n args objs k | 58 => spec_l1Cur_pick.ctr n args objs k | 63 => spec_l1Cur_spoilt.ctr n args objs k | 57 => spec_l1Cur_one.ctr n args objs k | 49 => spec_l1Cur_logRecord.ctr n args objs k | 55 => spec_l12Line.ctr n args objs k | _ => none
noncomputable def spec_DrawRecoverLog.B (i : Nat) : Go.Code := (Go.Ab.loopsOf (bodyOf Go.Proofs.Tryd.f38)).getD i Go.Code.skip
noncomputable def spec_DrawRecoverLog.H (n : Nat) : Go.Ab.Hnd ByteArray := { loop := fun key _ v o K => none, cut := fun _ _ _ _ _ => none }
theorem spec_DrawRecoverLog.loops (n0 : Nat) : ∀ b ∈ Go.Ab.loopsOf (bodyOf Go.Proofs.Tryd.f38), Go.Ab.LoopOk Go.Proofs.Tryd.prog (spec_DrawRecoverLog.G n0) spec_DrawRecoverLog.A (spec_DrawRecoverLog.H n0) 49 0 b := Go.Ab.forall_nil (by kernel_rfl)
theorem spec_DrawRecoverLog.cuts (n0 : Nat) : ∀ b ∈ Go.Ab.cutsOf spec_DrawRecoverLog.A (bodyOf Go.Proofs.Tryd.f38), Go.Ab.CutOk Go.Proofs.Tryd.prog (spec_DrawRecoverLog.G n0) spec_DrawRecoverLog.A (spec_DrawRecoverLog.H n0) 49 0 b := Go.Ab.forall_nil (by kernel_rfl)
theorem spec_DrawRecoverLog.eq (n : Nat) (a0 : List Go.Ab.AV) (a1 : Nat) : Go.Ab.funK Go.Proofs.Tryd.prog (spec_DrawRecoverLog.G n) spec_DrawRecoverLog.A (spec_DrawRecoverLog.H n) false Go.Proofs.Tryd.f38 (bodyOf Go.Proofs.Tryd.f38) [Go.Ab.AV.sval a0 a1 Bool.false] [] spec_DrawRecoverLog.dec = spec_DrawRecoverLog.f n a0 a1 := by kernel_rfl
theorem spec_DrawRecoverLog.gok (X : Wd) (n : Nat) {R : Type} : Go.Ab.CtrOk (En X) (spec_DrawRecoverLog.G n : Go.Ab.Ctr R) := by
  intro g args objs k r h
  unfold spec_DrawRecoverLog.G at h
  split at h
  · exact spec_l1Cur_log12.ok X _ args objs k r h
  · exact spec_l1Cur_pick.ok X _ args objs k r h
  · exact spec_l1Cur_spoilt.ok X _ args objs k r h
  · exact spec_l1Cur_one.ok X _ args objs k r h
  · exact spec_l1Cur_logRecord.ok X _ args objs k r h
  · exact spec_l12Line.ok X _ args objs k r h
  · cases h
theorem spec_DrawRecoverLog.hdec (r : ByteArray) (v : Go.Ab.AV) (o : List Go.Ab.AObj) (h : spec_DrawRecoverLog.dec v o = some r) : v = Go.Ab.AV.str (r) ∧ o = [] := by
  unfold spec_DrawRecoverLog.dec at h
  split at h
  · cases h; exact ⟨rfl, rfl⟩
  · cases h
theorem spec_DrawRecoverLog.sim (X : Wd) (n : Nat) (a0 : List Go.Ab.AV) (a1 : Nat) (r : ByteArray) (h : spec_DrawRecoverLog.f n a0 a1 = some r) : Go.Ab.Sim (En X) 38 [Go.Ab.AV.sval a0 a1 Bool.false] [] (Go.Ab.AV.str (r)) [] :=
  Go.Ab.sim_of (E := En X) (spec_DrawRecoverLog.gok X n) mix (fn := Go.Proofs.Tryd.f38) (c := (bodyOf Go.Proofs.Tryd.f38)) (by kernel_rfl) (by kernel_rfl) (by kernel_rfl) (spec_DrawRecoverLog.loops n) (spec_DrawRecoverLog.cuts n) ((spec_DrawRecoverLog.eq n a0 a1).trans h) (spec_DrawRecoverLog.hdec r)
noncomputable def spec_DrawRecoverLog.ctr (n : Nat) {R : Type} : List Go.Ab.AV → List Go.Ab.AObj → (Go.Ab.AV → List Go.Ab.AObj → Option R) → Option R
  | [Go.Ab.AV.sval a0 a1 Bool.false], [], k => (spec_DrawRecoverLog.f n a0 a1).bind fun r => k (Go.Ab.AV.str (r)) []
  | _, _, _ => none
noncomputable def spec_DrawRecoverLog.fits : List Go.Ab.AV → List Go.Ab.AObj → Bool
  | [Go.Ab.AV.sval a0 a1 Bool.false], [] => true
  | _, _ => false
theorem spec_DrawRecoverLog.ok (X : Wd) (n : Nat) {R : Type} (args : List Go.Ab.AV) (objs : List Go.Ab.AObj) (k : Go.Ab.AV → List Go.Ab.AObj → Option R) (r : R) (h : spec_DrawRecoverLog.ctr n args objs k = some r) :
    Go.Ab.Enters Go.Proofs.Tryd.prog 38 ∧ ∃ v objs', Go.Ab.Sim (En X) 38 args objs v objs' ∧ k v objs' = some r := by
  unfold spec_DrawRecoverLog.ctr at h
  split at h
  · obtain ⟨x, h1, h2⟩ := Option.bind_eq_some_iff.1 h
    exact ⟨⟨Go.Proofs.Tryd.f38, by kernel_rfl, by kernel_rfl, by kernel_rfl⟩, _, _, spec_DrawRecoverLog.sim X n _ _ x h1, h2⟩
  · cases h

noncomputable def impl_RecoverLog.dec (v : Go.Ab.AV) (o : List Go.Ab.AObj) : Option (ByteArray × ByteArray × Int × Int × Bool) := match v, o with
  | Go.Ab.AV.tup [Go.Ab.AV.agg [Go.Ab.AV.str a1, Go.Ab.AV.str a2, Go.Ab.AV.int Go.IntKind.i64 a3], Go.Ab.AV.int Go.IntKind.i64 a4, Go.Ab.AV.bool a5], [] => some (a1, a2, a3, a4, a5)
  | _, _ => none
noncomputable def impl_RecoverLog.A : Go.Ab.Ann := { live := fun _ => [], out := fun _ => [], cut := fun _ => none }
noncomputable def impl_RecoverLog.G (n : Nat) {R : Type} : Go.Ab.Ctr R := fun g args objs k => match g with | 43 => impl_recordsOf.ctr n args objs k | _ => none
noncomputable def impl_RecoverLog.B (i : Nat) : Go.Code := (Go.Ab.loopsOf (bodyOf Go.Proofs.Tryd.f39)).getD i Go.Code.skip
noncomputable def impl_RecoverLog.H (n : Nat) : Go.Ab.Hnd (ByteArray × ByteArray × Int × Int × Bool) := { loop := fun key _ v o K => none, cut := fun _ _ _ _ _ => none }
theorem impl_RecoverLog.loops (n0 : Nat) : ∀ b ∈ Go.Ab.loopsOf (bodyOf Go.Proofs.Tryd.f39), Go.Ab.LoopOk Go.Proofs.Tryd.prog (impl_RecoverLog.G n0) impl_RecoverLog.A (impl_RecoverLog.H n0) 29 0 b := Go.Ab.forall_nil (by kernel_rfl)
theorem impl_RecoverLog.cuts (n0 : Nat) : ∀ b ∈ Go.Ab.cutsOf impl_RecoverLog.A (bodyOf Go.Proofs.Tryd.f39), Go.Ab.CutOk Go.Proofs.Tryd.prog (impl_RecoverLog.G n0) impl_RecoverLog.A (impl_RecoverLog.H n0) 29 0 b := Go.Ab.forall_nil (by kernel_rfl)
theorem impl_RecoverLog.eq (n : Nat) (a0 : ByteArray) : Go.Ab.funK Go.Proofs.Tryd.prog (impl_RecoverLog.G n) impl_RecoverLog.A (impl_RecoverLog.H n) false Go.Proofs.Tryd.f39 (bodyOf Go.Proofs.Tryd.f39) [Go.Ab.AV.str a0] [] impl_RecoverLog.dec = impl_RecoverLog.f n a0 := by kernel_rfl
theorem impl_RecoverLog.gok (X : Wd) (n : Nat) {R : Type} : Go.Ab.CtrOk (En X) (impl_RecoverLog.G n : Go.Ab.Ctr R) := by
  intro g args objs k r h
  unfold impl_RecoverLog.G at h
  split at h
  · exact impl_recordsOf.ok X _ args objs k r h
  · cases h
theorem impl_RecoverLog.hdec (r : (ByteArray × ByteArray × Int × Int × Bool)) (v : Go.Ab.AV) (o : List Go.Ab.AObj) (h : impl_RecoverLog.dec v o = some r) : v = Go.Ab.AV.tup [Go.Ab.AV.agg [Go.Ab.AV.str (r.1), Go.Ab.AV.str (r.2.1), Go.Ab.AV.int Go.IntKind.i64 (r.2.2.1)], Go.Ab.AV.int Go.IntKind.i64 (r.2.2.2.1), Go.Ab.AV.bool (r.2.2.2.2)] ∧ o = [] := by
  unfold impl_RecoverLog.dec at h
  split at h
  · cases h; exact ⟨rfl, rfl⟩
  · cases h
theorem impl_RecoverLog.sim (X : Wd) (n : Nat) (a0 : ByteArray) (r : (ByteArray × ByteArray × Int × Int × Bool)) (h : impl_RecoverLog.f n a0 = some r) : Go.Ab.Sim (En X) 39 [Go.Ab.AV.str a0] [] (Go.Ab.AV.tup [Go.Ab.AV.agg [Go.Ab.AV.str (r.1), Go.Ab.AV.str (r.2.1), Go.Ab.AV.int Go.IntKind.i64 (r.2.2.1)], Go.Ab.AV.int Go.IntKind.i64 (r.2.2.2.1), Go.Ab.AV.bool (r.2.2.2.2)]) [] :=
  Go.Ab.sim_of (E := En X) (impl_RecoverLog.gok X n) mix (fn := Go.Proofs.Tryd.f39) (c := (bodyOf Go.Proofs.Tryd.f39)) (by kernel_rfl) (by kernel_rfl) (by kernel_rfl) (impl_RecoverLog.loops n) (impl_RecoverLog.cuts n) ((impl_RecoverLog.eq n a0).trans h) (impl_RecoverLog.hdec r)
noncomputable def impl_RecoverLog.ctr (n : Nat) {R : Type} : List Go.Ab.AV → List Go.Ab.AObj → (Go.Ab.AV → List Go.Ab.AObj → Option R) → Option R
  | [Go.Ab.AV.str a0], [], k => (impl_RecoverLog.f n a0).bind fun r => k (Go.Ab.AV.tup [Go.Ab.AV.agg [Go.Ab.AV.str (r.1), Go.Ab.AV.str (r.2.1), Go.Ab.AV.int Go.IntKind.i64 (r.2.2.1)], Go.Ab.AV.int Go.IntKind.i64 (r.2.2.2.1), Go.Ab.AV.bool (r.2.2.2.2)]) []
  | _, _, _ => none
noncomputable def impl_RecoverLog.fits : List Go.Ab.AV → List Go.Ab.AObj → Bool
  | [Go.Ab.AV.str a0], [] => true
  | _, _ => false
theorem impl_RecoverLog.ok (X : Wd) (n : Nat) {R : Type} (args : List Go.Ab.AV) (objs : List Go.Ab.AObj) (k : Go.Ab.AV → List Go.Ab.AObj → Option R) (r : R) (h : impl_RecoverLog.ctr n args objs k = some r) :
    Go.Ab.Enters Go.Proofs.Tryd.prog 39 ∧ ∃ v objs', Go.Ab.Sim (En X) 39 args objs v objs' ∧ k v objs' = some r := by
  unfold impl_RecoverLog.ctr at h
  split at h
  · obtain ⟨x, h1, h2⟩ := Option.bind_eq_some_iff.1 h
    exact ⟨⟨Go.Proofs.Tryd.f39, by kernel_rfl, by kernel_rfl, by kernel_rfl⟩, _, _, impl_RecoverLog.sim X n _ x h1, h2⟩
  · cases h

noncomputable def spec_RecoverLog.dec (v : Go.Ab.AV) (o : List Go.Ab.AObj) : Option (ByteArray × ByteArray × Int × Int × Bool) := match v, o with
  | Go.Ab.AV.tup [Go.Ab.AV.agg [Go.Ab.AV.str a1, Go.Ab.AV.str a2, Go.Ab.AV.int Go.IntKind.i64 a3], Go.Ab.AV.int Go.IntKind.i64 a4, Go.Ab.AV.bool a5], [] => some (a1, a2, a3, a4, a5)
  | _, _ => none
noncomputable def spec_RecoverLog.A : Go.Ab.Ann := { live := fun _ => [], out := fun _ => [], cut := fun _ => none }
noncomputable def spec_RecoverLog.G (n : Nat) {R : Type} : Go.Ab.Ctr R := fun g args objs k => match g with | 42 => spec_l12Open.ctr n args objs k | _ => none
noncomputable def spec_RecoverLog.B (i : Nat) : Go.Code := (Go.Ab.loopsOf (bodyOf Go.Proofs.Tryd.f40)).getD i Go.Code.skip
noncomputable def spec_RecoverLog.H (n : Nat) : Go.Ab.Hnd (ByteArray × ByteArray × Int × Int × Bool) := { loop := fun key _ v o K => none, cut := fun _ _ _ _ _ => none }
theorem spec_RecoverLog.loops (n0 : Nat) : ∀ b ∈ Go.Ab.loopsOf (bodyOf Go.Proofs.Tryd.f40), Go.Ab.LoopOk Go.Proofs.Tryd.prog (spec_RecoverLog.G n0) spec_RecoverLog.A (spec_RecoverLog.H n0) 23 0 b := Go.Ab.forall_nil (by kernel_rfl)
theorem spec_RecoverLog.cuts (n0 : Nat) : ∀ b ∈ Go.Ab.cutsOf spec_RecoverLog.A (bodyOf Go.Proofs.Tryd.f40), Go.Ab.CutOk Go.Proofs.Tryd.prog (spec_RecoverLog.G n0) spec_RecoverLog.A (spec_RecoverLog.H n0) 23 0 b := Go.Ab.forall_nil (by kernel_rfl)
theorem spec_RecoverLog.eq (n : Nat) (a0 : ByteArray) : Go.Ab.funK Go.Proofs.Tryd.prog (spec_RecoverLog.G n) spec_RecoverLog.A (spec_RecoverLog.H n) false Go.Proofs.Tryd.f40 (bodyOf Go.Proofs.Tryd.f40) [Go.Ab.AV.str a0] [] spec_RecoverLog.dec = spec_RecoverLog.f n a0 := by kernel_rfl
theorem spec_RecoverLog.gok (X : Wd) (n : Nat) {R : Type} : Go.Ab.CtrOk (En X) (spec_RecoverLog.G n : Go.Ab.Ctr R) := by
  intro g args objs k r h
  unfold spec_RecoverLog.G at h
  split at h
  · exact spec_l12Open.ok X _ args objs k r h
  · cases h
theorem spec_RecoverLog.hdec (r : (ByteArray × ByteArray × Int × Int × Bool)) (v : Go.Ab.AV) (o : List Go.Ab.AObj) (h : spec_RecoverLog.dec v o = some r) : v = Go.Ab.AV.tup [Go.Ab.AV.agg [Go.Ab.AV.str (r.1), Go.Ab.AV.str (r.2.1), Go.Ab.AV.int Go.IntKind.i64 (r.2.2.1)], Go.Ab.AV.int Go.IntKind.i64 (r.2.2.2.1), Go.Ab.AV.bool (r.2.2.2.2)] ∧ o = [] := by
  unfold spec_RecoverLog.dec at h
  split at h
  · cases h; exact ⟨rfl, rfl⟩
  · cases h
theorem spec_RecoverLog.sim (X : Wd) (n : Nat) (a0 : ByteArray) (r : (ByteArray × ByteArray × Int × Int × Bool)) (h : spec_RecoverLog.f n a0 = some r) : Go.Ab.Sim (En X) 40 [Go.Ab.AV.str a0] [] (Go.Ab.AV.tup [Go.Ab.AV.agg [Go.Ab.AV.str (r.1), Go.Ab.AV.str (r.2.1), Go.Ab.AV.int Go.IntKind.i64 (r.2.2.1)], Go.Ab.AV.int Go.IntKind.i64 (r.2.2.2.1), Go.Ab.AV.bool (r.2.2.2.2)]) [] :=
  Go.Ab.sim_of (E := En X) (spec_RecoverLog.gok X n) mix (fn := Go.Proofs.Tryd.f40) (c := (bodyOf Go.Proofs.Tryd.f40)) (by kernel_rfl) (by kernel_rfl) (by kernel_rfl) (spec_RecoverLog.loops n) (spec_RecoverLog.cuts n) ((spec_RecoverLog.eq n a0).trans h) (spec_RecoverLog.hdec r)
noncomputable def spec_RecoverLog.ctr (n : Nat) {R : Type} : List Go.Ab.AV → List Go.Ab.AObj → (Go.Ab.AV → List Go.Ab.AObj → Option R) → Option R
  | [Go.Ab.AV.str a0], [], k => (spec_RecoverLog.f n a0).bind fun r => k (Go.Ab.AV.tup [Go.Ab.AV.agg [Go.Ab.AV.str (r.1), Go.Ab.AV.str (r.2.1), Go.Ab.AV.int Go.IntKind.i64 (r.2.2.1)], Go.Ab.AV.int Go.IntKind.i64 (r.2.2.2.1), Go.Ab.AV.bool (r.2.2.2.2)]) []
  | _, _, _ => none
noncomputable def spec_RecoverLog.fits : List Go.Ab.AV → List Go.Ab.AObj → Bool
  | [Go.Ab.AV.str a0], [] => true
  | _, _ => false
theorem spec_RecoverLog.ok (X : Wd) (n : Nat) {R : Type} (args : List Go.Ab.AV) (objs : List Go.Ab.AObj) (k : Go.Ab.AV → List Go.Ab.AObj → Option R) (r : R) (h : spec_RecoverLog.ctr n args objs k = some r) :
    Go.Ab.Enters Go.Proofs.Tryd.prog 40 ∧ ∃ v objs', Go.Ab.Sim (En X) 40 args objs v objs' ∧ k v objs' = some r := by
  unfold spec_RecoverLog.ctr at h
  split at h
  · obtain ⟨x, h1, h2⟩ := Option.bind_eq_some_iff.1 h
    exact ⟨⟨Go.Proofs.Tryd.f40, by kernel_rfl, by kernel_rfl, by kernel_rfl⟩, _, _, spec_RecoverLog.sim X n _ x h1, h2⟩
  · cases h

noncomputable def laws_FnCrashes.dec (v : Go.Ab.AV) (o : List Go.Ab.AObj) : Option Bool := match v, o with
  | Go.Ab.AV.bool a2, [] => some (a2)
  | _, _ => none
noncomputable def laws_FnCrashes.A : Go.Ab.Ann := { live := fun _ => [], out := fun _ => [], cut := fun _ => none }
noncomputable def laws_FnCrashes.G (n : Nat) {R : Type} : Go.Ab.Ctr R := fun g args objs k => match g with | 18 => laws_vBig.ctr n args objs k | 35 => spec_DrawCrashLog.ctr n args objs k | 36 => impl_CrashLog.ctr n args objs k | 37 => spec_CrashLog.ctr n args objs k | 21 => laws_vCut.ctr n args objs k | 38 => spec_DrawRecoverLog.ctr n args objs k | 39 => impl_RecoverLog.ctr n args objs k | 40 => spec_RecoverLog.ctr n args objs k | 30 => impl_IsValidLog.ctr n args objs k | 10 => impl_LogRecords.ctr n args objs k | 34 => laws_vRecords.ctr n args objs k | _ => none
noncomputable def laws_FnCrashes.B (i : Nat) : Go.Code := (Go.Ab.loopsOf (bodyOf Go.Proofs.Tryd.f6)).getD i Go.Code.skip
noncomputable def laws_FnCrashes.H (n : Nat) : Go.Ab.Hnd Bool := { loop := fun key _ v o K => none, cut := fun _ _ _ _ _ => none }
theorem laws_FnCrashes.loops (n0 : Nat) : ∀ b ∈ Go.Ab.loopsOf (bodyOf Go.Proofs.Tryd.f6), Go.Ab.LoopOk Go.Proofs.Tryd.prog (laws_FnCrashes.G n0) laws_FnCrashes.A (laws_FnCrashes.H n0) 153 0 b := Go.Ab.forall_nil (by kernel_rfl)
theorem laws_FnCrashes.cuts (n0 : Nat) : ∀ b ∈ Go.Ab.cutsOf laws_FnCrashes.A (bodyOf Go.Proofs.Tryd.f6), Go.Ab.CutOk Go.Proofs.Tryd.prog (laws_FnCrashes.G n0) laws_FnCrashes.A (laws_FnCrashes.H n0) 153 0 b := Go.Ab.forall_nil (by kernel_rfl)
theorem laws_FnCrashes.eq (n : Nat) (a0 : List Go.Ab.AV) (a1 : Nat) : Go.Ab.funK Go.Proofs.Tryd.prog (laws_FnCrashes.G n) laws_FnCrashes.A (laws_FnCrashes.H n) false Go.Proofs.Tryd.f6 (bodyOf Go.Proofs.Tryd.f6) [Go.Ab.AV.sval a0 a1 Bool.false] [] laws_FnCrashes.dec = laws_FnCrashes.f n a0 a1 := by kernel_rfl
theorem laws_FnCrashes.gok (X : Wd) (n : Nat) {R : Type} : Go.Ab.CtrOk (En X) (laws_FnCrashes.G n : Go.Ab.Ctr R) := by
  intro g args objs k r h
  unfold laws_FnCrashes.G at h
  split at h
  · exact laws_vBig.ok X _ args objs k r h
  · exact spec_DrawCrashLog.ok X _ args objs k r h
  · exact impl_CrashLog.ok X _ args objs k r h
  · exact spec_CrashLog.ok X _ args objs k r h
  · exact laws_vCut.ok X _ args objs k r h
  · exact spec_DrawRecoverLog.ok X _ args objs k r h
  · exact impl_RecoverLog.ok X _ args objs k r h
  · exact spec_RecoverLog.ok X _ args objs k r h
  · exact impl_IsValidLog.ok X _ args objs k r h
  · exact impl_LogRecords.ok X _ args objs k r h
  · exact laws_vRecords.ok X _ args objs k r h
  · cases h
theorem laws_FnCrashes.hdec (r : Bool) (v : Go.Ab.AV) (o : List Go.Ab.AObj) (h : laws_FnCrashes.dec v o = some r) : v = Go.Ab.AV.bool (r) ∧ o = [] := by
  unfold laws_FnCrashes.dec at h
  split at h
  · cases h; exact ⟨rfl, rfl⟩
  · cases h
theorem laws_FnCrashes.sim (X : Wd) (n : Nat) (a0 : List Go.Ab.AV) (a1 : Nat) (r : Bool) (h : laws_FnCrashes.f n a0 a1 = some r) : Go.Ab.Sim (En X) 6 [Go.Ab.AV.sval a0 a1 Bool.false] [] (Go.Ab.AV.bool (r)) [] :=
  Go.Ab.sim_of (E := En X) (laws_FnCrashes.gok X n) mix (fn := Go.Proofs.Tryd.f6) (c := (bodyOf Go.Proofs.Tryd.f6)) (by kernel_rfl) (by kernel_rfl) (by kernel_rfl) (laws_FnCrashes.loops n) (laws_FnCrashes.cuts n) ((laws_FnCrashes.eq n a0 a1).trans h) (laws_FnCrashes.hdec r)
noncomputable def laws_FnCrashes.ctr (n : Nat) {R : Type} : List Go.Ab.AV → List Go.Ab.AObj → (Go.Ab.AV → List Go.Ab.AObj → Option R) → Option R
  | [Go.Ab.AV.sval a0 a1 Bool.false], [], k => (laws_FnCrashes.f n a0 a1).bind fun r => k (Go.Ab.AV.bool (r)) []
  | _, _, _ => none
noncomputable def laws_FnCrashes.fits : List Go.Ab.AV → List Go.Ab.AObj → Bool
  | [Go.Ab.AV.sval a0 a1 Bool.false], [] => true
  | _, _ => false
theorem laws_FnCrashes.ok (X : Wd) (n : Nat) {R : Type} (args : List Go.Ab.AV) (objs : List Go.Ab.AObj) (k : Go.Ab.AV → List Go.Ab.AObj → Option R) (r : R) (h : laws_FnCrashes.ctr n args objs k = some r) :
    Go.Ab.Enters Go.Proofs.Tryd.prog 6 ∧ ∃ v objs', Go.Ab.Sim (En X) 6 args objs v objs' ∧ k v objs' = some r := by
  unfold laws_FnCrashes.ctr at h
  split at h
  · obtain ⟨x, h1, h2⟩ := Option.bind_eq_some_iff.1 h
    exact ⟨⟨Go.Proofs.Tryd.f6, by kernel_rfl, by kernel_rfl, by kernel_rfl⟩, _, _, laws_FnCrashes.sim X n _ _ x h1, h2⟩
  · cases h
