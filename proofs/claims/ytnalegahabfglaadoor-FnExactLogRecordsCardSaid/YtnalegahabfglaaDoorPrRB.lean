/- The Go functions as Lean functions, further. No condition. -/
import Derived.Test.YtnalegahabfglaaDoorPrRA
set_option linter.all false
set_option linter.unusedVariables false
set_option linter.unusedSimpArgs false
set_option maxRecDepth 1000000
set_option maxHeartbeats 0
set_option linter.unusedVariables false
open Go Go.Ab
noncomputable section
noncomputable def laws_eqLogRecord.dec (v : Go.Ab.AV) (o : List Go.Ab.AObj) : Option Bool := match v, o with
  | Go.Ab.AV.bool a4, [] => some (a4)
  | _, _ => none
noncomputable def laws_eqLogRecord.A : Go.Ab.Ann := { live := fun _ => [], out := fun _ => [], cut := fun _ => none }
noncomputable def laws_eqLogRecord.G (n : Nat) {R : Type} : Go.Ab.Ctr R := fun g args objs k => none
noncomputable def laws_eqLogRecord.B (i : Nat) : Go.Code := (Go.Ab.loopsOf (bodyOf Go.Proofs.Tryd.f44)).getD i Go.Code.skip
noncomputable def laws_eqLogRecord.H (n : Nat) : Go.Ab.Hnd Bool := { loop := fun key _ v o K => none, cut := fun _ _ _ _ _ => none }
theorem laws_eqLogRecord.loops (n0 : Nat) : ∀ b ∈ Go.Ab.loopsOf (bodyOf Go.Proofs.Tryd.f44), Go.Ab.LoopOk Go.Proofs.Tryd.prog (laws_eqLogRecord.G n0) laws_eqLogRecord.A (laws_eqLogRecord.H n0) 15 0 b := Go.Ab.forall_nil (by kernel_rfl)
theorem laws_eqLogRecord.cuts (n0 : Nat) : ∀ b ∈ Go.Ab.cutsOf laws_eqLogRecord.A (bodyOf Go.Proofs.Tryd.f44), Go.Ab.CutOk Go.Proofs.Tryd.prog (laws_eqLogRecord.G n0) laws_eqLogRecord.A (laws_eqLogRecord.H n0) 15 0 b := Go.Ab.forall_nil (by kernel_rfl)
theorem laws_eqLogRecord.eq (n : Nat) (a0 : ByteArray) (a1 : ByteArray) (a2 : ByteArray) (a3 : ByteArray) : Go.Ab.funK Go.Proofs.Tryd.prog (laws_eqLogRecord.G n) laws_eqLogRecord.A (laws_eqLogRecord.H n) false Go.Proofs.Tryd.f44 (bodyOf Go.Proofs.Tryd.f44) [Go.Ab.AV.agg [Go.Ab.AV.str a0, Go.Ab.AV.str a1], Go.Ab.AV.agg [Go.Ab.AV.str a2, Go.Ab.AV.str a3]] [] laws_eqLogRecord.dec = laws_eqLogRecord.f n a0 a1 a2 a3 := by kernel_rfl
theorem laws_eqLogRecord.gok (X : Wd) (n : Nat) {R : Type} : Go.Ab.CtrOk (En X) (laws_eqLogRecord.G n : Go.Ab.Ctr R) := by
  intro g args objs k r h
  cases h
theorem laws_eqLogRecord.hdec (r : Bool) (v : Go.Ab.AV) (o : List Go.Ab.AObj) (h : laws_eqLogRecord.dec v o = some r) : v = Go.Ab.AV.bool (r) ∧ o = [] := by
  unfold laws_eqLogRecord.dec at h
  split at h
  · cases h; exact ⟨rfl, rfl⟩
  · cases h
theorem laws_eqLogRecord.sim (X : Wd) (n : Nat) (a0 : ByteArray) (a1 : ByteArray) (a2 : ByteArray) (a3 : ByteArray) (r : Bool) (h : laws_eqLogRecord.f n a0 a1 a2 a3 = some r) : Go.Ab.Sim (En X) 44 [Go.Ab.AV.agg [Go.Ab.AV.str a0, Go.Ab.AV.str a1], Go.Ab.AV.agg [Go.Ab.AV.str a2, Go.Ab.AV.str a3]] [] (Go.Ab.AV.bool (r)) [] :=
  Go.Ab.sim_of (E := En X) (laws_eqLogRecord.gok X n) mix (fn := Go.Proofs.Tryd.f44) (c := (bodyOf Go.Proofs.Tryd.f44)) (by kernel_rfl) (by kernel_rfl) (by kernel_rfl) (laws_eqLogRecord.loops n) (laws_eqLogRecord.cuts n) ((laws_eqLogRecord.eq n a0 a1 a2 a3).trans h) (laws_eqLogRecord.hdec r)
noncomputable def laws_eqLogRecord.ctr (n : Nat) {R : Type} : List Go.Ab.AV → List Go.Ab.AObj → (Go.Ab.AV → List Go.Ab.AObj → Option R) → Option R
  | [Go.Ab.AV.agg [Go.Ab.AV.str a0, Go.Ab.AV.str a1], Go.Ab.AV.agg [Go.Ab.AV.str a2, Go.Ab.AV.str a3]], [], k => (laws_eqLogRecord.f n a0 a1 a2 a3).bind fun r => k (Go.Ab.AV.bool (r)) []
  | _, _, _ => none
noncomputable def laws_eqLogRecord.fits : List Go.Ab.AV → List Go.Ab.AObj → Bool
  | [Go.Ab.AV.agg [Go.Ab.AV.str a0, Go.Ab.AV.str a1], Go.Ab.AV.agg [Go.Ab.AV.str a2, Go.Ab.AV.str a3]], [] => true
  | _, _ => false
theorem laws_eqLogRecord.ok (X : Wd) (n : Nat) {R : Type} (args : List Go.Ab.AV) (objs : List Go.Ab.AObj) (k : Go.Ab.AV → List Go.Ab.AObj → Option R) (r : R) (h : laws_eqLogRecord.ctr n args objs k = some r) :
    Go.Ab.Enters Go.Proofs.Tryd.prog 44 ∧ ∃ v objs', Go.Ab.Sim (En X) 44 args objs v objs' ∧ k v objs' = some r := by
  unfold laws_eqLogRecord.ctr at h
  split at h
  · obtain ⟨x, h1, h2⟩ := Option.bind_eq_some_iff.1 h
    exact ⟨⟨Go.Proofs.Tryd.f44, by kernel_rfl, by kernel_rfl, by kernel_rfl⟩, _, _, laws_eqLogRecord.sim X n _ _ _ _ x h1, h2⟩
  · cases h

noncomputable def laws_eqLogRecordS.dec (v : Go.Ab.AV) (o : List Go.Ab.AObj) : Option Bool := match v, o with
  | Go.Ab.AV.bool a4, [] => some (a4)
  | _, _ => none
noncomputable def laws_eqLogRecordS.A : Go.Ab.Ann := { live := fun k => match k with | 4 => [0, 1, 5] | _ => [], out := fun k => match k with | 4 => [4] | _ => [], cut := fun _ => none }
noncomputable def laws_eqLogRecordS.G (n : Nat) {R : Type} : Go.Ab.Ctr R := fun g args objs k => match g with | 44 => laws_eqLogRecord.ctr n args objs k | _ => none
noncomputable def laws_eqLogRecordS.B (i : Nat) : Go.Code := (Go.Ab.loopsOf (bodyOf Go.Proofs.Tryd.f11)).getD i Go.Code.skip
noncomputable def laws_eqLogRecordS.h4 (n : Nat) (v : List Go.Ab.AV) (o : List Go.Ab.AObj) (K : Go.Ab.Kont Bool) : Option Bool := match v, o with
  | [Go.Ab.AV.sval x18 x19 Bool.false, Go.Ab.AV.sval x20 x21 Bool.false, Go.Ab.AV.int Go.IntKind.i64 x22], [] => laws_eqLogRecordS.l4 n (fun y38 => K (Go.Ab.Ex.ret) [Go.Ab.AV.bool y38] []) (K (Go.Ab.Ex.exit 0) [Go.Ab.AV.undef] []) n x18 x19 x20 x21 x22
  | _, _ => none
noncomputable def laws_eqLogRecordS.H (n : Nat) : Go.Ab.Hnd Bool := { loop := fun key _ v o K => match key with | 4 => laws_eqLogRecordS.h4 n v o K | _ => none, cut := fun _ _ _ _ _ => none }
theorem laws_eqLogRecordS.loop4 (n0 : Nat) (K : Go.Ab.Kont Bool) : ∀ (n : Nat) (x18 : List Go.Ab.AV) (x19 : Nat) (x20 : List Go.Ab.AV) (x21 : Nat) (x22 : Int), Go.Ab.loopK 27 0 (laws_eqLogRecordS.A.live 4) (laws_eqLogRecordS.A.out 4) (fun t o k => Go.Ab.denK Go.Proofs.Tryd.prog (laws_eqLogRecordS.G n0) laws_eqLogRecordS.A (laws_eqLogRecordS.H n0) 27 0 (laws_eqLogRecordS.B 0) t o k) n [Go.Ab.AV.sval x18 x19 Bool.false, Go.Ab.AV.sval x20 x21 Bool.false, Go.Ab.AV.int Go.IntKind.i64 x22] [] K = laws_eqLogRecordS.l4 n0 (fun y38 => K (Go.Ab.Ex.ret) [Go.Ab.AV.bool y38] []) (K (Go.Ab.Ex.exit 0) [Go.Ab.AV.undef] []) n x18 x19 x20 x21 x22
  | 0, _, _, _, _, _ => rfl
  | n + 1, x18, x19, x20, x21, x22 => by
    have ih : (fun (x18 : List Go.Ab.AV) (x19 : Nat) (x20 : List Go.Ab.AV) (x21 : Nat) (x22 : Int) => Go.Ab.loopK 27 0 (laws_eqLogRecordS.A.live 4) (laws_eqLogRecordS.A.out 4) (fun t o k => Go.Ab.denK Go.Proofs.Tryd.prog (laws_eqLogRecordS.G n0) laws_eqLogRecordS.A (laws_eqLogRecordS.H n0) 27 0 (laws_eqLogRecordS.B 0) t o k) n [Go.Ab.AV.sval x18 x19 Bool.false, Go.Ab.AV.sval x20 x21 Bool.false, Go.Ab.AV.int Go.IntKind.i64 x22] [] K) = laws_eqLogRecordS.l4 n0 (fun y38 => K (Go.Ab.Ex.ret) [Go.Ab.AV.bool y38] []) (K (Go.Ab.Ex.exit 0) [Go.Ab.AV.undef] []) n := by funext x18 x19 x20 x21 x22; exact laws_eqLogRecordS.loop4 n0 K n x18 x19 x20 x21 x22
    have st : Go.Ab.loopK 27 0 (laws_eqLogRecordS.A.live 4) (laws_eqLogRecordS.A.out 4) (fun t o k => Go.Ab.denK Go.Proofs.Tryd.prog (laws_eqLogRecordS.G n0) laws_eqLogRecordS.A (laws_eqLogRecordS.H n0) 27 0 (laws_eqLogRecordS.B 0) t o k) (n + 1) [Go.Ab.AV.sval x18 x19 Bool.false, Go.Ab.AV.sval x20 x21 Bool.false, Go.Ab.AV.int Go.IntKind.i64 x22] [] K = laws_eqLogRecordS.l4S n0 (fun (x18 : List Go.Ab.AV) (x19 : Nat) (x20 : List Go.Ab.AV) (x21 : Nat) (x22 : Int) => Go.Ab.loopK 27 0 (laws_eqLogRecordS.A.live 4) (laws_eqLogRecordS.A.out 4) (fun t o k => Go.Ab.denK Go.Proofs.Tryd.prog (laws_eqLogRecordS.G n0) laws_eqLogRecordS.A (laws_eqLogRecordS.H n0) 27 0 (laws_eqLogRecordS.B 0) t o k) n [Go.Ab.AV.sval x18 x19 Bool.false, Go.Ab.AV.sval x20 x21 Bool.false, Go.Ab.AV.int Go.IntKind.i64 x22] [] K) (fun y38 => K (Go.Ab.Ex.ret) [Go.Ab.AV.bool y38] []) (K (Go.Ab.Ex.exit 0) [Go.Ab.AV.undef] []) x18 x19 x20 x21 x22 := by kernel_rfl
    rw [st, ih]; rfl
theorem laws_eqLogRecordS.lok4 (n0 : Nat) : Go.Ab.LoopOk Go.Proofs.Tryd.prog (laws_eqLogRecordS.G n0) laws_eqLogRecordS.A (laws_eqLogRecordS.H n0) 27 0 (laws_eqLogRecordS.B 0) := by
  intro v o K r h
  have hk : Go.Ab.key (laws_eqLogRecordS.B 0) = 4 := by kernel_rfl
  rw [hk] at h ⊢
  change laws_eqLogRecordS.h4 n0 v o K = some r at h
  unfold laws_eqLogRecordS.h4 at h
  split at h
  · exact ⟨n0, by rw [laws_eqLogRecordS.loop4]; exact h⟩
  · cases h
theorem laws_eqLogRecordS.loops (n0 : Nat) : ∀ b ∈ Go.Ab.loopsOf (bodyOf Go.Proofs.Tryd.f11), Go.Ab.LoopOk Go.Proofs.Tryd.prog (laws_eqLogRecordS.G n0) laws_eqLogRecordS.A (laws_eqLogRecordS.H n0) 27 0 b :=
  Go.Ab.forall_getD 1 (by kernel_rfl) Go.Code.skip fun i hi => match i, hi with
    | 0, _ => laws_eqLogRecordS.lok4 n0
    | j + 1, hj => absurd hj (by omega)
theorem laws_eqLogRecordS.cuts (n0 : Nat) : ∀ b ∈ Go.Ab.cutsOf laws_eqLogRecordS.A (bodyOf Go.Proofs.Tryd.f11), Go.Ab.CutOk Go.Proofs.Tryd.prog (laws_eqLogRecordS.G n0) laws_eqLogRecordS.A (laws_eqLogRecordS.H n0) 27 0 b := Go.Ab.forall_nil (by kernel_rfl)
theorem laws_eqLogRecordS.eq (n : Nat) (a0 : List Go.Ab.AV) (a1 : Nat) (a2 : List Go.Ab.AV) (a3 : Nat) : Go.Ab.funK Go.Proofs.Tryd.prog (laws_eqLogRecordS.G n) laws_eqLogRecordS.A (laws_eqLogRecordS.H n) false Go.Proofs.Tryd.f11 (bodyOf Go.Proofs.Tryd.f11) [Go.Ab.AV.sval a0 a1 Bool.false, Go.Ab.AV.sval a2 a3 Bool.false] [] laws_eqLogRecordS.dec = laws_eqLogRecordS.f n a0 a1 a2 a3 := by kernel_rfl
theorem laws_eqLogRecordS.gok (X : Wd) (n : Nat) {R : Type} : Go.Ab.CtrOk (En X) (laws_eqLogRecordS.G n : Go.Ab.Ctr R) := by
  intro g args objs k r h
  unfold laws_eqLogRecordS.G at h
  split at h
  · exact laws_eqLogRecord.ok X _ args objs k r h
  · cases h
theorem laws_eqLogRecordS.hdec (r : Bool) (v : Go.Ab.AV) (o : List Go.Ab.AObj) (h : laws_eqLogRecordS.dec v o = some r) : v = Go.Ab.AV.bool (r) ∧ o = [] := by
  unfold laws_eqLogRecordS.dec at h
  split at h
  · cases h; exact ⟨rfl, rfl⟩
  · cases h
theorem laws_eqLogRecordS.sim (X : Wd) (n : Nat) (a0 : List Go.Ab.AV) (a1 : Nat) (a2 : List Go.Ab.AV) (a3 : Nat) (r : Bool) (h : laws_eqLogRecordS.f n a0 a1 a2 a3 = some r) : Go.Ab.Sim (En X) 11 [Go.Ab.AV.sval a0 a1 Bool.false, Go.Ab.AV.sval a2 a3 Bool.false] [] (Go.Ab.AV.bool (r)) [] :=
  Go.Ab.sim_of (E := En X) (laws_eqLogRecordS.gok X n) mix (fn := Go.Proofs.Tryd.f11) (c := (bodyOf Go.Proofs.Tryd.f11)) (by kernel_rfl) (by kernel_rfl) (by kernel_rfl) (laws_eqLogRecordS.loops n) (laws_eqLogRecordS.cuts n) ((laws_eqLogRecordS.eq n a0 a1 a2 a3).trans h) (laws_eqLogRecordS.hdec r)
noncomputable def laws_eqLogRecordS.ctr (n : Nat) {R : Type} : List Go.Ab.AV → List Go.Ab.AObj → (Go.Ab.AV → List Go.Ab.AObj → Option R) → Option R
  | [Go.Ab.AV.sval a0 a1 Bool.false, Go.Ab.AV.sval a2 a3 Bool.false], [], k => (laws_eqLogRecordS.f n a0 a1 a2 a3).bind fun r => k (Go.Ab.AV.bool (r)) []
  | _, _, _ => none
noncomputable def laws_eqLogRecordS.fits : List Go.Ab.AV → List Go.Ab.AObj → Bool
  | [Go.Ab.AV.sval a0 a1 Bool.false, Go.Ab.AV.sval a2 a3 Bool.false], [] => true
  | _, _ => false
theorem laws_eqLogRecordS.ok (X : Wd) (n : Nat) {R : Type} (args : List Go.Ab.AV) (objs : List Go.Ab.AObj) (k : Go.Ab.AV → List Go.Ab.AObj → Option R) (r : R) (h : laws_eqLogRecordS.ctr n args objs k = some r) :
    Go.Ab.Enters Go.Proofs.Tryd.prog 11 ∧ ∃ v objs', Go.Ab.Sim (En X) 11 args objs v objs' ∧ k v objs' = some r := by
  unfold laws_eqLogRecordS.ctr at h
  split at h
  · obtain ⟨x, h1, h2⟩ := Option.bind_eq_some_iff.1 h
    exact ⟨⟨Go.Proofs.Tryd.f11, by kernel_rfl, by kernel_rfl, by kernel_rfl⟩, _, _, laws_eqLogRecordS.sim X n _ _ _ _ x h1, h2⟩
  · cases h

noncomputable def laws_markText.dec (v : Go.Ab.AV) (o : List Go.Ab.AObj) : Option ByteArray := match v, o with
  | Go.Ab.AV.str a1, [] => some (a1)
  | _, _ => none
noncomputable def laws_markText.A : Go.Ab.Ann := { live := fun k => match k with | 4 => [0, 3] | _ => [], out := fun k => match k with | 4 => [3] | _ => [], cut := fun _ => none }
noncomputable def laws_markText.G (n : Nat) {R : Type} : Go.Ab.Ctr R := fun g args objs k => none
noncomputable def laws_markText.B (i : Nat) : Go.Code := (Go.Ab.loopsOf (bodyOf Go.Proofs.Tryd.f45)).getD i Go.Code.skip
noncomputable def laws_markText.h4 (n : Nat) (v : List Go.Ab.AV) (o : List Go.Ab.AObj) (K : Go.Ab.Kont ByteArray) : Option ByteArray := match v, o with
  | [Go.Ab.AV.int Go.IntKind.i64 x12, Go.Ab.AV.str x13], [] => laws_markText.l4 n (fun y22 => K (Go.Ab.Ex.exit 0) [Go.Ab.AV.str y22] []) n x12 x13
  | _, _ => none
noncomputable def laws_markText.H (n : Nat) : Go.Ab.Hnd ByteArray := { loop := fun key _ v o K => match key with | 4 => laws_markText.h4 n v o K | _ => none, cut := fun _ _ _ _ _ => none }
theorem laws_markText.loop4 (n0 : Nat) (K : Go.Ab.Kont ByteArray) : ∀ (n : Nat) (x12 : Int) (x13 : ByteArray), Go.Ab.loopK 20 0 (laws_markText.A.live 4) (laws_markText.A.out 4) (fun t o k => Go.Ab.denK Go.Proofs.Tryd.prog (laws_markText.G n0) laws_markText.A (laws_markText.H n0) 20 0 (laws_markText.B 0) t o k) n [Go.Ab.AV.int Go.IntKind.i64 x12, Go.Ab.AV.str x13] [] K = laws_markText.l4 n0 (fun y22 => K (Go.Ab.Ex.exit 0) [Go.Ab.AV.str y22] []) n x12 x13
  | 0, _, _ => rfl
  | n + 1, x12, x13 => by
    have ih : (fun (x12 : Int) (x13 : ByteArray) => Go.Ab.loopK 20 0 (laws_markText.A.live 4) (laws_markText.A.out 4) (fun t o k => Go.Ab.denK Go.Proofs.Tryd.prog (laws_markText.G n0) laws_markText.A (laws_markText.H n0) 20 0 (laws_markText.B 0) t o k) n [Go.Ab.AV.int Go.IntKind.i64 x12, Go.Ab.AV.str x13] [] K) = laws_markText.l4 n0 (fun y22 => K (Go.Ab.Ex.exit 0) [Go.Ab.AV.str y22] []) n := by funext x12 x13; exact laws_markText.loop4 n0 K n x12 x13
    have st : Go.Ab.loopK 20 0 (laws_markText.A.live 4) (laws_markText.A.out 4) (fun t o k => Go.Ab.denK Go.Proofs.Tryd.prog (laws_markText.G n0) laws_markText.A (laws_markText.H n0) 20 0 (laws_markText.B 0) t o k) (n + 1) [Go.Ab.AV.int Go.IntKind.i64 x12, Go.Ab.AV.str x13] [] K = laws_markText.l4S n0 (fun (x12 : Int) (x13 : ByteArray) => Go.Ab.loopK 20 0 (laws_markText.A.live 4) (laws_markText.A.out 4) (fun t o k => Go.Ab.denK Go.Proofs.Tryd.prog (laws_markText.G n0) laws_markText.A (laws_markText.H n0) 20 0 (laws_markText.B 0) t o k) n [Go.Ab.AV.int Go.IntKind.i64 x12, Go.Ab.AV.str x13] [] K) (fun y22 => K (Go.Ab.Ex.exit 0) [Go.Ab.AV.str y22] []) x12 x13 := by kernel_rfl
    rw [st, ih]; rfl
theorem laws_markText.lok4 (n0 : Nat) : Go.Ab.LoopOk Go.Proofs.Tryd.prog (laws_markText.G n0) laws_markText.A (laws_markText.H n0) 20 0 (laws_markText.B 0) := by
  intro v o K r h
  have hk : Go.Ab.key (laws_markText.B 0) = 4 := by kernel_rfl
  rw [hk] at h ⊢
  change laws_markText.h4 n0 v o K = some r at h
  unfold laws_markText.h4 at h
  split at h
  · exact ⟨n0, by rw [laws_markText.loop4]; exact h⟩
  · cases h
theorem laws_markText.loops (n0 : Nat) : ∀ b ∈ Go.Ab.loopsOf (bodyOf Go.Proofs.Tryd.f45), Go.Ab.LoopOk Go.Proofs.Tryd.prog (laws_markText.G n0) laws_markText.A (laws_markText.H n0) 20 0 b :=
  Go.Ab.forall_getD 1 (by kernel_rfl) Go.Code.skip fun i hi => match i, hi with
    | 0, _ => laws_markText.lok4 n0
    | j + 1, hj => absurd hj (by omega)
theorem laws_markText.cuts (n0 : Nat) : ∀ b ∈ Go.Ab.cutsOf laws_markText.A (bodyOf Go.Proofs.Tryd.f45), Go.Ab.CutOk Go.Proofs.Tryd.prog (laws_markText.G n0) laws_markText.A (laws_markText.H n0) 20 0 b := Go.Ab.forall_nil (by kernel_rfl)
theorem laws_markText.eq (n : Nat) (a0 : Int) : Go.Ab.funK Go.Proofs.Tryd.prog (laws_markText.G n) laws_markText.A (laws_markText.H n) false Go.Proofs.Tryd.f45 (bodyOf Go.Proofs.Tryd.f45) [Go.Ab.AV.int Go.IntKind.i64 a0] [] laws_markText.dec = laws_markText.f n a0 := by kernel_rfl
theorem laws_markText.gok (X : Wd) (n : Nat) {R : Type} : Go.Ab.CtrOk (En X) (laws_markText.G n : Go.Ab.Ctr R) := by
  intro g args objs k r h
  cases h
theorem laws_markText.hdec (r : ByteArray) (v : Go.Ab.AV) (o : List Go.Ab.AObj) (h : laws_markText.dec v o = some r) : v = Go.Ab.AV.str (r) ∧ o = [] := by
  unfold laws_markText.dec at h
  split at h
  · cases h; exact ⟨rfl, rfl⟩
  · cases h
theorem laws_markText.sim (X : Wd) (n : Nat) (a0 : Int) (r : ByteArray) (h : laws_markText.f n a0 = some r) : Go.Ab.Sim (En X) 45 [Go.Ab.AV.int Go.IntKind.i64 a0] [] (Go.Ab.AV.str (r)) [] :=
  Go.Ab.sim_of (E := En X) (laws_markText.gok X n) mix (fn := Go.Proofs.Tryd.f45) (c := (bodyOf Go.Proofs.Tryd.f45)) (by kernel_rfl) (by kernel_rfl) (by kernel_rfl) (laws_markText.loops n) (laws_markText.cuts n) ((laws_markText.eq n a0).trans h) (laws_markText.hdec r)
noncomputable def laws_markText.ctr (n : Nat) {R : Type} : List Go.Ab.AV → List Go.Ab.AObj → (Go.Ab.AV → List Go.Ab.AObj → Option R) → Option R
  | [Go.Ab.AV.int Go.IntKind.i64 a0], [], k => (laws_markText.f n a0).bind fun r => k (Go.Ab.AV.str (r)) []
  | _, _, _ => none
noncomputable def laws_markText.fits : List Go.Ab.AV → List Go.Ab.AObj → Bool
  | [Go.Ab.AV.int Go.IntKind.i64 a0], [] => true
  | _, _ => false
theorem laws_markText.ok (X : Wd) (n : Nat) {R : Type} (args : List Go.Ab.AV) (objs : List Go.Ab.AObj) (k : Go.Ab.AV → List Go.Ab.AObj → Option R) (r : R) (h : laws_markText.ctr n args objs k = some r) :
    Go.Ab.Enters Go.Proofs.Tryd.prog 45 ∧ ∃ v objs', Go.Ab.Sim (En X) 45 args objs v objs' ∧ k v objs' = some r := by
  unfold laws_markText.ctr at h
  split at h
  · obtain ⟨x, h1, h2⟩ := Option.bind_eq_some_iff.1 h
    exact ⟨⟨Go.Proofs.Tryd.f45, by kernel_rfl, by kernel_rfl, by kernel_rfl⟩, _, _, laws_markText.sim X n _ x h1, h2⟩
  · cases h

noncomputable def laws_markLogRecordS.dec (v : Go.Ab.AV) (o : List Go.Ab.AObj) : Option Int := match v, o with
  | Go.Ab.AV.int Go.IntKind.i64 a3, [] => some (a3)
  | _, _ => none
noncomputable def laws_markLogRecordS.A : Go.Ab.Ann := { live := fun k => match k with | 2 => [0, 1, 5] | _ => [], out := fun k => match k with | 2 => [1] | _ => [], cut := fun _ => none }
noncomputable def laws_markLogRecordS.G (n : Nat) {R : Type} : Go.Ab.Ctr R := fun g args objs k => match g with | 45 => laws_markText.ctr n args objs k | _ => none
noncomputable def laws_markLogRecordS.B (i : Nat) : Go.Code := (Go.Ab.loopsOf (bodyOf Go.Proofs.Tryd.f12)).getD i Go.Code.skip
noncomputable def laws_markLogRecordS.h2 (n : Nat) (v : List Go.Ab.AV) (o : List Go.Ab.AObj) (K : Go.Ab.Kont Int) : Option Int := match v, o with
  | [Go.Ab.AV.sval x13 x14 Bool.false, Go.Ab.AV.int Go.IntKind.i64 x15, Go.Ab.AV.int Go.IntKind.i64 x16], [] => laws_markLogRecordS.l2 n (fun y25 => K (Go.Ab.Ex.exit 0) [Go.Ab.AV.int Go.IntKind.i64 y25] []) n x13 x14 x15 x16
  | _, _ => none
noncomputable def laws_markLogRecordS.H (n : Nat) : Go.Ab.Hnd Int := { loop := fun key _ v o K => match key with | 2 => laws_markLogRecordS.h2 n v o K | _ => none, cut := fun _ _ _ _ _ => none }
theorem laws_markLogRecordS.loop2 (n0 : Nat) (K : Go.Ab.Kont Int) : ∀ (n : Nat) (x13 : List Go.Ab.AV) (x14 : Nat) (x15 : Int) (x16 : Int), Go.Ab.loopK 29 0 (laws_markLogRecordS.A.live 2) (laws_markLogRecordS.A.out 2) (fun t o k => Go.Ab.denK Go.Proofs.Tryd.prog (laws_markLogRecordS.G n0) laws_markLogRecordS.A (laws_markLogRecordS.H n0) 29 0 (laws_markLogRecordS.B 0) t o k) n [Go.Ab.AV.sval x13 x14 Bool.false, Go.Ab.AV.int Go.IntKind.i64 x15, Go.Ab.AV.int Go.IntKind.i64 x16] [] K = laws_markLogRecordS.l2 n0 (fun y25 => K (Go.Ab.Ex.exit 0) [Go.Ab.AV.int Go.IntKind.i64 y25] []) n x13 x14 x15 x16
  | 0, _, _, _, _ => rfl
  | n + 1, x13, x14, x15, x16 => by
    have ih : (fun (x13 : List Go.Ab.AV) (x14 : Nat) (x15 : Int) (x16 : Int) => Go.Ab.loopK 29 0 (laws_markLogRecordS.A.live 2) (laws_markLogRecordS.A.out 2) (fun t o k => Go.Ab.denK Go.Proofs.Tryd.prog (laws_markLogRecordS.G n0) laws_markLogRecordS.A (laws_markLogRecordS.H n0) 29 0 (laws_markLogRecordS.B 0) t o k) n [Go.Ab.AV.sval x13 x14 Bool.false, Go.Ab.AV.int Go.IntKind.i64 x15, Go.Ab.AV.int Go.IntKind.i64 x16] [] K) = laws_markLogRecordS.l2 n0 (fun y25 => K (Go.Ab.Ex.exit 0) [Go.Ab.AV.int Go.IntKind.i64 y25] []) n := by funext x13 x14 x15 x16; exact laws_markLogRecordS.loop2 n0 K n x13 x14 x15 x16
    have st : Go.Ab.loopK 29 0 (laws_markLogRecordS.A.live 2) (laws_markLogRecordS.A.out 2) (fun t o k => Go.Ab.denK Go.Proofs.Tryd.prog (laws_markLogRecordS.G n0) laws_markLogRecordS.A (laws_markLogRecordS.H n0) 29 0 (laws_markLogRecordS.B 0) t o k) (n + 1) [Go.Ab.AV.sval x13 x14 Bool.false, Go.Ab.AV.int Go.IntKind.i64 x15, Go.Ab.AV.int Go.IntKind.i64 x16] [] K = laws_markLogRecordS.l2S n0 (fun (x13 : List Go.Ab.AV) (x14 : Nat) (x15 : Int) (x16 : Int) => Go.Ab.loopK 29 0 (laws_markLogRecordS.A.live 2) (laws_markLogRecordS.A.out 2) (fun t o k => Go.Ab.denK Go.Proofs.Tryd.prog (laws_markLogRecordS.G n0) laws_markLogRecordS.A (laws_markLogRecordS.H n0) 29 0 (laws_markLogRecordS.B 0) t o k) n [Go.Ab.AV.sval x13 x14 Bool.false, Go.Ab.AV.int Go.IntKind.i64 x15, Go.Ab.AV.int Go.IntKind.i64 x16] [] K) (fun y25 => K (Go.Ab.Ex.exit 0) [Go.Ab.AV.int Go.IntKind.i64 y25] []) x13 x14 x15 x16 := by kernel_rfl
    rw [st, ih]; rfl
theorem laws_markLogRecordS.lok2 (n0 : Nat) : Go.Ab.LoopOk Go.Proofs.Tryd.prog (laws_markLogRecordS.G n0) laws_markLogRecordS.A (laws_markLogRecordS.H n0) 29 0 (laws_markLogRecordS.B 0) := by
  intro v o K r h
  have hk : Go.Ab.key (laws_markLogRecordS.B 0) = 2 := by kernel_rfl
  rw [hk] at h ⊢
  change laws_markLogRecordS.h2 n0 v o K = some r at h
  unfold laws_markLogRecordS.h2 at h
  split at h
  · exact ⟨n0, by rw [laws_markLogRecordS.loop2]; exact h⟩
  · cases h
theorem laws_markLogRecordS.loops (n0 : Nat) : ∀ b ∈ Go.Ab.loopsOf (bodyOf Go.Proofs.Tryd.f12), Go.Ab.LoopOk Go.Proofs.Tryd.prog (laws_markLogRecordS.G n0) laws_markLogRecordS.A (laws_markLogRecordS.H n0) 29 0 b :=
  Go.Ab.forall_getD 1 (by kernel_rfl) Go.Code.skip fun i hi => match i, hi with
    | 0, _ => laws_markLogRecordS.lok2 n0
    | j + 1, hj => absurd hj (by omega)
theorem laws_markLogRecordS.cuts (n0 : Nat) : ∀ b ∈ Go.Ab.cutsOf laws_markLogRecordS.A (bodyOf Go.Proofs.Tryd.f12), Go.Ab.CutOk Go.Proofs.Tryd.prog (laws_markLogRecordS.G n0) laws_markLogRecordS.A (laws_markLogRecordS.H n0) 29 0 b := Go.Ab.forall_nil (by kernel_rfl)
theorem laws_markLogRecordS.eq (n : Nat) (a0 : List Go.Ab.AV) (a1 : Nat) (a2 : Int) : Go.Ab.funK Go.Proofs.Tryd.prog (laws_markLogRecordS.G n) laws_markLogRecordS.A (laws_markLogRecordS.H n) false Go.Proofs.Tryd.f12 (bodyOf Go.Proofs.Tryd.f12) [Go.Ab.AV.sval a0 a1 Bool.false, Go.Ab.AV.int Go.IntKind.i64 a2] [] laws_markLogRecordS.dec = laws_markLogRecordS.f n a0 a1 a2 := by kernel_rfl
theorem laws_markLogRecordS.gok (X : Wd) (n : Nat) {R : Type} : Go.Ab.CtrOk (En X) (laws_markLogRecordS.G n : Go.Ab.Ctr R) := by
  intro g args objs k r h
  unfold laws_markLogRecordS.G at h
  split at h
  · exact laws_markText.ok X _ args objs k r h
  · cases h
theorem laws_markLogRecordS.hdec (r : Int) (v : Go.Ab.AV) (o : List Go.Ab.AObj) (h : laws_markLogRecordS.dec v o = some r) : v = Go.Ab.AV.int Go.IntKind.i64 (r) ∧ o = [] := by
  unfold laws_markLogRecordS.dec at h
  split at h
  · cases h; exact ⟨rfl, rfl⟩
  · cases h
theorem laws_markLogRecordS.sim (X : Wd) (n : Nat) (a0 : List Go.Ab.AV) (a1 : Nat) (a2 : Int) (r : Int) (h : laws_markLogRecordS.f n a0 a1 a2 = some r) : Go.Ab.Sim (En X) 12 [Go.Ab.AV.sval a0 a1 Bool.false, Go.Ab.AV.int Go.IntKind.i64 a2] [] (Go.Ab.AV.int Go.IntKind.i64 (r)) [] :=
  Go.Ab.sim_of (E := En X) (laws_markLogRecordS.gok X n) mix (fn := Go.Proofs.Tryd.f12) (c := (bodyOf Go.Proofs.Tryd.f12)) (by kernel_rfl) (by kernel_rfl) (by kernel_rfl) (laws_markLogRecordS.loops n) (laws_markLogRecordS.cuts n) ((laws_markLogRecordS.eq n a0 a1 a2).trans h) (laws_markLogRecordS.hdec r)
noncomputable def laws_markLogRecordS.ctr (n : Nat) {R : Type} : List Go.Ab.AV → List Go.Ab.AObj → (Go.Ab.AV → List Go.Ab.AObj → Option R) → Option R
  | [Go.Ab.AV.sval a0 a1 Bool.false, Go.Ab.AV.int Go.IntKind.i64 a2], [], k => (laws_markLogRecordS.f n a0 a1 a2).bind fun r => k (Go.Ab.AV.int Go.IntKind.i64 (r)) []
  | _, _, _ => none
noncomputable def laws_markLogRecordS.fits : List Go.Ab.AV → List Go.Ab.AObj → Bool
  | [Go.Ab.AV.sval a0 a1 Bool.false, Go.Ab.AV.int Go.IntKind.i64 a2], [] => true
  | _, _ => false
theorem laws_markLogRecordS.ok (X : Wd) (n : Nat) {R : Type} (args : List Go.Ab.AV) (objs : List Go.Ab.AObj) (k : Go.Ab.AV → List Go.Ab.AObj → Option R) (r : R) (h : laws_markLogRecordS.ctr n args objs k = some r) :
    Go.Ab.Enters Go.Proofs.Tryd.prog 12 ∧ ∃ v objs', Go.Ab.Sim (En X) 12 args objs v objs' ∧ k v objs' = some r := by
  unfold laws_markLogRecordS.ctr at h
  split at h
  · obtain ⟨x, h1, h2⟩ := Option.bind_eq_some_iff.1 h
    exact ⟨⟨Go.Proofs.Tryd.f12, by kernel_rfl, by kernel_rfl, by kernel_rfl⟩, _, _, laws_markLogRecordS.sim X n _ _ _ x h1, h2⟩
  · cases h

noncomputable def laws_heldLogRecordS.dec (v : Go.Ab.AV) (o : List Go.Ab.AObj) : Option Int := match v, o with
  | Go.Ab.AV.int Go.IntKind.i64 a3, [] => some (a3)
  | _, _ => none
noncomputable def laws_heldLogRecordS.A : Go.Ab.Ann := { live := fun k => match k with | 2 => [0, 1, 5] | _ => [], out := fun k => match k with | 2 => [1, 4] | _ => [], cut := fun _ => none }
noncomputable def laws_heldLogRecordS.G (n : Nat) {R : Type} : Go.Ab.Ctr R := fun g args objs k => match g with | 45 => laws_markText.ctr n args objs k | _ => none
noncomputable def laws_heldLogRecordS.B (i : Nat) : Go.Code := (Go.Ab.loopsOf (bodyOf Go.Proofs.Tryd.f13)).getD i Go.Code.skip
noncomputable def laws_heldLogRecordS.h2 (n : Nat) (v : List Go.Ab.AV) (o : List Go.Ab.AObj) (K : Go.Ab.Kont Int) : Option Int := match v, o with
  | [Go.Ab.AV.sval x13 x14 Bool.false, Go.Ab.AV.int Go.IntKind.i64 x15, Go.Ab.AV.int Go.IntKind.i64 x16], [] => laws_heldLogRecordS.l2 n (fun y38 y39 => K (Go.Ab.Ex.ret) [Go.Ab.AV.int Go.IntKind.i64 y38, Go.Ab.AV.int Go.IntKind.i64 y39] []) (fun y38 => K (Go.Ab.Ex.exit 0) [Go.Ab.AV.int Go.IntKind.i64 y38, Go.Ab.AV.undef] []) n x13 x14 x15 x16
  | _, _ => none
noncomputable def laws_heldLogRecordS.H (n : Nat) : Go.Ab.Hnd Int := { loop := fun key _ v o K => match key with | 2 => laws_heldLogRecordS.h2 n v o K | _ => none, cut := fun _ _ _ _ _ => none }
theorem laws_heldLogRecordS.loop2 (n0 : Nat) (K : Go.Ab.Kont Int) : ∀ (n : Nat) (x13 : List Go.Ab.AV) (x14 : Nat) (x15 : Int) (x16 : Int), Go.Ab.loopK 33 0 (laws_heldLogRecordS.A.live 2) (laws_heldLogRecordS.A.out 2) (fun t o k => Go.Ab.denK Go.Proofs.Tryd.prog (laws_heldLogRecordS.G n0) laws_heldLogRecordS.A (laws_heldLogRecordS.H n0) 33 0 (laws_heldLogRecordS.B 0) t o k) n [Go.Ab.AV.sval x13 x14 Bool.false, Go.Ab.AV.int Go.IntKind.i64 x15, Go.Ab.AV.int Go.IntKind.i64 x16] [] K = laws_heldLogRecordS.l2 n0 (fun y38 y39 => K (Go.Ab.Ex.ret) [Go.Ab.AV.int Go.IntKind.i64 y38, Go.Ab.AV.int Go.IntKind.i64 y39] []) (fun y38 => K (Go.Ab.Ex.exit 0) [Go.Ab.AV.int Go.IntKind.i64 y38, Go.Ab.AV.undef] []) n x13 x14 x15 x16
  | 0, _, _, _, _ => rfl
  | n + 1, x13, x14, x15, x16 => by
    have ih : (fun (x13 : List Go.Ab.AV) (x14 : Nat) (x15 : Int) (x16 : Int) => Go.Ab.loopK 33 0 (laws_heldLogRecordS.A.live 2) (laws_heldLogRecordS.A.out 2) (fun t o k => Go.Ab.denK Go.Proofs.Tryd.prog (laws_heldLogRecordS.G n0) laws_heldLogRecordS.A (laws_heldLogRecordS.H n0) 33 0 (laws_heldLogRecordS.B 0) t o k) n [Go.Ab.AV.sval x13 x14 Bool.false, Go.Ab.AV.int Go.IntKind.i64 x15, Go.Ab.AV.int Go.IntKind.i64 x16] [] K) = laws_heldLogRecordS.l2 n0 (fun y38 y39 => K (Go.Ab.Ex.ret) [Go.Ab.AV.int Go.IntKind.i64 y38, Go.Ab.AV.int Go.IntKind.i64 y39] []) (fun y38 => K (Go.Ab.Ex.exit 0) [Go.Ab.AV.int Go.IntKind.i64 y38, Go.Ab.AV.undef] []) n := by funext x13 x14 x15 x16; exact laws_heldLogRecordS.loop2 n0 K n x13 x14 x15 x16
    have st : Go.Ab.loopK 33 0 (laws_heldLogRecordS.A.live 2) (laws_heldLogRecordS.A.out 2) (fun t o k => Go.Ab.denK Go.Proofs.Tryd.prog (laws_heldLogRecordS.G n0) laws_heldLogRecordS.A (laws_heldLogRecordS.H n0) 33 0 (laws_heldLogRecordS.B 0) t o k) (n + 1) [Go.Ab.AV.sval x13 x14 Bool.false, Go.Ab.AV.int Go.IntKind.i64 x15, Go.Ab.AV.int Go.IntKind.i64 x16] [] K = laws_heldLogRecordS.l2S n0 (fun (x13 : List Go.Ab.AV) (x14 : Nat) (x15 : Int) (x16 : Int) => Go.Ab.loopK 33 0 (laws_heldLogRecordS.A.live 2) (laws_heldLogRecordS.A.out 2) (fun t o k => Go.Ab.denK Go.Proofs.Tryd.prog (laws_heldLogRecordS.G n0) laws_heldLogRecordS.A (laws_heldLogRecordS.H n0) 33 0 (laws_heldLogRecordS.B 0) t o k) n [Go.Ab.AV.sval x13 x14 Bool.false, Go.Ab.AV.int Go.IntKind.i64 x15, Go.Ab.AV.int Go.IntKind.i64 x16] [] K) (fun y38 y39 => K (Go.Ab.Ex.ret) [Go.Ab.AV.int Go.IntKind.i64 y38, Go.Ab.AV.int Go.IntKind.i64 y39] []) (fun y38 => K (Go.Ab.Ex.exit 0) [Go.Ab.AV.int Go.IntKind.i64 y38, Go.Ab.AV.undef] []) x13 x14 x15 x16 := by kernel_rfl
    rw [st, ih]; rfl
theorem laws_heldLogRecordS.lok2 (n0 : Nat) : Go.Ab.LoopOk Go.Proofs.Tryd.prog (laws_heldLogRecordS.G n0) laws_heldLogRecordS.A (laws_heldLogRecordS.H n0) 33 0 (laws_heldLogRecordS.B 0) := by
  intro v o K r h
  have hk : Go.Ab.key (laws_heldLogRecordS.B 0) = 2 := by kernel_rfl
  rw [hk] at h ⊢
  change laws_heldLogRecordS.h2 n0 v o K = some r at h
  unfold laws_heldLogRecordS.h2 at h
  split at h
  · exact ⟨n0, by rw [laws_heldLogRecordS.loop2]; exact h⟩
  · cases h
theorem laws_heldLogRecordS.loops (n0 : Nat) : ∀ b ∈ Go.Ab.loopsOf (bodyOf Go.Proofs.Tryd.f13), Go.Ab.LoopOk Go.Proofs.Tryd.prog (laws_heldLogRecordS.G n0) laws_heldLogRecordS.A (laws_heldLogRecordS.H n0) 33 0 b :=
  Go.Ab.forall_getD 1 (by kernel_rfl) Go.Code.skip fun i hi => match i, hi with
    | 0, _ => laws_heldLogRecordS.lok2 n0
    | j + 1, hj => absurd hj (by omega)
theorem laws_heldLogRecordS.cuts (n0 : Nat) : ∀ b ∈ Go.Ab.cutsOf laws_heldLogRecordS.A (bodyOf Go.Proofs.Tryd.f13), Go.Ab.CutOk Go.Proofs.Tryd.prog (laws_heldLogRecordS.G n0) laws_heldLogRecordS.A (laws_heldLogRecordS.H n0) 33 0 b := Go.Ab.forall_nil (by kernel_rfl)
theorem laws_heldLogRecordS.eq (n : Nat) (a0 : List Go.Ab.AV) (a1 : Nat) (a2 : Int) : Go.Ab.funK Go.Proofs.Tryd.prog (laws_heldLogRecordS.G n) laws_heldLogRecordS.A (laws_heldLogRecordS.H n) false Go.Proofs.Tryd.f13 (bodyOf Go.Proofs.Tryd.f13) [Go.Ab.AV.sval a0 a1 Bool.false, Go.Ab.AV.int Go.IntKind.i64 a2] [] laws_heldLogRecordS.dec = laws_heldLogRecordS.f n a0 a1 a2 := by kernel_rfl
theorem laws_heldLogRecordS.gok (X : Wd) (n : Nat) {R : Type} : Go.Ab.CtrOk (En X) (laws_heldLogRecordS.G n : Go.Ab.Ctr R) := by
  intro g args objs k r h
  unfold laws_heldLogRecordS.G at h
  split at h
  · exact laws_markText.ok X _ args objs k r h
  · cases h
theorem laws_heldLogRecordS.hdec (r : Int) (v : Go.Ab.AV) (o : List Go.Ab.AObj) (h : laws_heldLogRecordS.dec v o = some r) : v = Go.Ab.AV.int Go.IntKind.i64 (r) ∧ o = [] := by
  unfold laws_heldLogRecordS.dec at h
  split at h
  · cases h; exact ⟨rfl, rfl⟩
  · cases h
theorem laws_heldLogRecordS.sim (X : Wd) (n : Nat) (a0 : List Go.Ab.AV) (a1 : Nat) (a2 : Int) (r : Int) (h : laws_heldLogRecordS.f n a0 a1 a2 = some r) : Go.Ab.Sim (En X) 13 [Go.Ab.AV.sval a0 a1 Bool.false, Go.Ab.AV.int Go.IntKind.i64 a2] [] (Go.Ab.AV.int Go.IntKind.i64 (r)) [] :=
  Go.Ab.sim_of (E := En X) (laws_heldLogRecordS.gok X n) mix (fn := Go.Proofs.Tryd.f13) (c := (bodyOf Go.Proofs.Tryd.f13)) (by kernel_rfl) (by kernel_rfl) (by kernel_rfl) (laws_heldLogRecordS.loops n) (laws_heldLogRecordS.cuts n) ((laws_heldLogRecordS.eq n a0 a1 a2).trans h) (laws_heldLogRecordS.hdec r)
noncomputable def laws_heldLogRecordS.ctr (n : Nat) {R : Type} : List Go.Ab.AV → List Go.Ab.AObj → (Go.Ab.AV → List Go.Ab.AObj → Option R) → Option R
  | [Go.Ab.AV.sval a0 a1 Bool.false, Go.Ab.AV.int Go.IntKind.i64 a2], [], k => (laws_heldLogRecordS.f n a0 a1 a2).bind fun r => k (Go.Ab.AV.int Go.IntKind.i64 (r)) []
  | _, _, _ => none
noncomputable def laws_heldLogRecordS.fits : List Go.Ab.AV → List Go.Ab.AObj → Bool
  | [Go.Ab.AV.sval a0 a1 Bool.false, Go.Ab.AV.int Go.IntKind.i64 a2], [] => true
  | _, _ => false
theorem laws_heldLogRecordS.ok (X : Wd) (n : Nat) {R : Type} (args : List Go.Ab.AV) (objs : List Go.Ab.AObj) (k : Go.Ab.AV → List Go.Ab.AObj → Option R) (r : R) (h : laws_heldLogRecordS.ctr n args objs k = some r) :
    Go.Ab.Enters Go.Proofs.Tryd.prog 13 ∧ ∃ v objs', Go.Ab.Sim (En X) 13 args objs v objs' ∧ k v objs' = some r := by
  unfold laws_heldLogRecordS.ctr at h
  split at h
  · obtain ⟨x, h1, h2⟩ := Option.bind_eq_some_iff.1 h
    exact ⟨⟨Go.Proofs.Tryd.f13, by kernel_rfl, by kernel_rfl, by kernel_rfl⟩, _, _, laws_heldLogRecordS.sim X n _ _ _ x h1, h2⟩
  · cases h

noncomputable def spec_l1Cur_next.dec (v : Go.Ab.AV) (o : List Go.Ab.AObj) : Option (Int × (List Go.Ab.AV) × Nat × Int × Int) := match v, o with
  | Go.Ab.AV.int Go.IntKind.i64 a4, [Go.Ab.AObj.cells Bool.true [Go.Ab.AV.sval a5 a6 Bool.false, Go.Ab.AV.int Go.IntKind.i64 a7, Go.Ab.AV.int Go.IntKind.u64 a8]] => some (a4, a5, a6, a7, a8)
  | _, _ => none
noncomputable def spec_l1Cur_next.A : Go.Ab.Ann := { live := fun _ => [], out := fun _ => [], cut := fun _ => none }
noncomputable def spec_l1Cur_next.G (n : Nat) {R : Type} : Go.Ab.Ctr R := fun g args objs k => none
noncomputable def spec_l1Cur_next.B (i : Nat) : Go.Code := (Go.Ab.loopsOf (bodyOf Go.Proofs.Tryd.f78)).getD i Go.Code.skip
noncomputable def spec_l1Cur_next.H (n : Nat) : Go.Ab.Hnd (Int × (List Go.Ab.AV) × Nat × Int × Int) := { loop := fun key _ v o K => none, cut := fun _ _ _ _ _ => none }
theorem spec_l1Cur_next.loops (n0 : Nat) : ∀ b ∈ Go.Ab.loopsOf (bodyOf Go.Proofs.Tryd.f78), Go.Ab.LoopOk Go.Proofs.Tryd.prog (spec_l1Cur_next.G n0) spec_l1Cur_next.A (spec_l1Cur_next.H n0) 62 1 b := Go.Ab.forall_nil (by kernel_rfl)
theorem spec_l1Cur_next.cuts (n0 : Nat) : ∀ b ∈ Go.Ab.cutsOf spec_l1Cur_next.A (bodyOf Go.Proofs.Tryd.f78), Go.Ab.CutOk Go.Proofs.Tryd.prog (spec_l1Cur_next.G n0) spec_l1Cur_next.A (spec_l1Cur_next.H n0) 62 1 b := Go.Ab.forall_nil (by kernel_rfl)
theorem spec_l1Cur_next.eq (n : Nat) (a0 : List Go.Ab.AV) (a1 : Nat) (a2 : Int) (a3 : Int) : Go.Ab.funK Go.Proofs.Tryd.prog (spec_l1Cur_next.G n) spec_l1Cur_next.A (spec_l1Cur_next.H n) false Go.Proofs.Tryd.f78 (bodyOf Go.Proofs.Tryd.f78) [Go.Ab.AV.ptr 0 0] [Go.Ab.AObj.cells Bool.true [Go.Ab.AV.sval a0 a1 Bool.false, Go.Ab.AV.int Go.IntKind.i64 a2, Go.Ab.AV.int Go.IntKind.u64 a3]] spec_l1Cur_next.dec = spec_l1Cur_next.f n a0 a1 a2 a3 := by kernel_rfl
theorem spec_l1Cur_next.gok (X : Wd) (n : Nat) {R : Type} : Go.Ab.CtrOk (En X) (spec_l1Cur_next.G n : Go.Ab.Ctr R) := by
  intro g args objs k r h
  cases h
theorem spec_l1Cur_next.hdec (r : (Int × (List Go.Ab.AV) × Nat × Int × Int)) (v : Go.Ab.AV) (o : List Go.Ab.AObj) (h : spec_l1Cur_next.dec v o = some r) : v = Go.Ab.AV.int Go.IntKind.i64 (r.1) ∧ o = [Go.Ab.AObj.cells Bool.true [Go.Ab.AV.sval (r.2.1) (r.2.2.1) Bool.false, Go.Ab.AV.int Go.IntKind.i64 (r.2.2.2.1), Go.Ab.AV.int Go.IntKind.u64 (r.2.2.2.2)]] := by
  unfold spec_l1Cur_next.dec at h
  split at h
  · cases h; exact ⟨rfl, rfl⟩
  · cases h
theorem spec_l1Cur_next.sim (X : Wd) (n : Nat) (a0 : List Go.Ab.AV) (a1 : Nat) (a2 : Int) (a3 : Int) (r : (Int × (List Go.Ab.AV) × Nat × Int × Int)) (h : spec_l1Cur_next.f n a0 a1 a2 a3 = some r) : Go.Ab.Sim (En X) 78 [Go.Ab.AV.ptr 0 0] [Go.Ab.AObj.cells Bool.true [Go.Ab.AV.sval a0 a1 Bool.false, Go.Ab.AV.int Go.IntKind.i64 a2, Go.Ab.AV.int Go.IntKind.u64 a3]] (Go.Ab.AV.int Go.IntKind.i64 (r.1)) [Go.Ab.AObj.cells Bool.true [Go.Ab.AV.sval (r.2.1) (r.2.2.1) Bool.false, Go.Ab.AV.int Go.IntKind.i64 (r.2.2.2.1), Go.Ab.AV.int Go.IntKind.u64 (r.2.2.2.2)]] :=
  Go.Ab.sim_of (E := En X) (spec_l1Cur_next.gok X n) mix (fn := Go.Proofs.Tryd.f78) (c := (bodyOf Go.Proofs.Tryd.f78)) (by kernel_rfl) (by kernel_rfl) (by kernel_rfl) (spec_l1Cur_next.loops n) (spec_l1Cur_next.cuts n) ((spec_l1Cur_next.eq n a0 a1 a2 a3).trans h) (spec_l1Cur_next.hdec r)
noncomputable def spec_l1Cur_next.ctr (n : Nat) {R : Type} : List Go.Ab.AV → List Go.Ab.AObj → (Go.Ab.AV → List Go.Ab.AObj → Option R) → Option R
  | [Go.Ab.AV.ptr 0 0], [Go.Ab.AObj.cells Bool.true [Go.Ab.AV.sval a0 a1 Bool.false, Go.Ab.AV.int Go.IntKind.i64 a2, Go.Ab.AV.int Go.IntKind.u64 a3]], k => (spec_l1Cur_next.f n a0 a1 a2 a3).bind fun r => k (Go.Ab.AV.int Go.IntKind.i64 (r.1)) [Go.Ab.AObj.cells Bool.true [Go.Ab.AV.sval (r.2.1) (r.2.2.1) Bool.false, Go.Ab.AV.int Go.IntKind.i64 (r.2.2.2.1), Go.Ab.AV.int Go.IntKind.u64 (r.2.2.2.2)]]
  | _, _, _ => none
noncomputable def spec_l1Cur_next.fits : List Go.Ab.AV → List Go.Ab.AObj → Bool
  | [Go.Ab.AV.ptr 0 0], [Go.Ab.AObj.cells Bool.true [Go.Ab.AV.sval a0 a1 Bool.false, Go.Ab.AV.int Go.IntKind.i64 a2, Go.Ab.AV.int Go.IntKind.u64 a3]] => true
  | _, _ => false
theorem spec_l1Cur_next.ok (X : Wd) (n : Nat) {R : Type} (args : List Go.Ab.AV) (objs : List Go.Ab.AObj) (k : Go.Ab.AV → List Go.Ab.AObj → Option R) (r : R) (h : spec_l1Cur_next.ctr n args objs k = some r) :
    Go.Ab.Enters Go.Proofs.Tryd.prog 78 ∧ ∃ v objs', Go.Ab.Sim (En X) 78 args objs v objs' ∧ k v objs' = some r := by
  unfold spec_l1Cur_next.ctr at h
  split at h
  · obtain ⟨x, h1, h2⟩ := Option.bind_eq_some_iff.1 h
    exact ⟨⟨Go.Proofs.Tryd.f78, by kernel_rfl, by kernel_rfl, by kernel_rfl⟩, _, _, spec_l1Cur_next.sim X n _ _ _ _ x h1, h2⟩
  · cases h

noncomputable def spec_l1Cur_pick.dec (v : Go.Ab.AV) (o : List Go.Ab.AObj) : Option (Int × (List Go.Ab.AV) × Nat × Int × Int) := match v, o with
  | Go.Ab.AV.int Go.IntKind.i64 a5, [Go.Ab.AObj.cells Bool.true [Go.Ab.AV.sval a6 a7 Bool.false, Go.Ab.AV.int Go.IntKind.i64 a8, Go.Ab.AV.int Go.IntKind.u64 a9]] => some (a5, a6, a7, a8, a9)
  | _, _ => none
noncomputable def spec_l1Cur_pick.A : Go.Ab.Ann := { live := fun _ => [], out := fun _ => [], cut := fun _ => none }
noncomputable def spec_l1Cur_pick.G (n : Nat) {R : Type} : Go.Ab.Ctr R := fun g args objs k => match g with | 78 => spec_l1Cur_next.ctr n args objs k | _ => none
noncomputable def spec_l1Cur_pick.B (i : Nat) : Go.Code := (Go.Ab.loopsOf (bodyOf Go.Proofs.Tryd.f58)).getD i Go.Code.skip
noncomputable def spec_l1Cur_pick.H (n : Nat) : Go.Ab.Hnd (Int × (List Go.Ab.AV) × Nat × Int × Int) := { loop := fun key _ v o K => none, cut := fun _ _ _ _ _ => none }
theorem spec_l1Cur_pick.loops (n0 : Nat) : ∀ b ∈ Go.Ab.loopsOf (bodyOf Go.Proofs.Tryd.f58), Go.Ab.LoopOk Go.Proofs.Tryd.prog (spec_l1Cur_pick.G n0) spec_l1Cur_pick.A (spec_l1Cur_pick.H n0) 20 1 b := Go.Ab.forall_nil (by kernel_rfl)
theorem spec_l1Cur_pick.cuts (n0 : Nat) : ∀ b ∈ Go.Ab.cutsOf spec_l1Cur_pick.A (bodyOf Go.Proofs.Tryd.f58), Go.Ab.CutOk Go.Proofs.Tryd.prog (spec_l1Cur_pick.G n0) spec_l1Cur_pick.A (spec_l1Cur_pick.H n0) 20 1 b := Go.Ab.forall_nil (by kernel_rfl)
theorem spec_l1Cur_pick.eq (n : Nat) (a4 : Int) (a0 : List Go.Ab.AV) (a1 : Nat) (a2 : Int) (a3 : Int) : Go.Ab.funK Go.Proofs.Tryd.prog (spec_l1Cur_pick.G n) spec_l1Cur_pick.A (spec_l1Cur_pick.H n) false Go.Proofs.Tryd.f58 (bodyOf Go.Proofs.Tryd.f58) [Go.Ab.AV.ptr 0 0, Go.Ab.AV.int Go.IntKind.i64 a4] [Go.Ab.AObj.cells Bool.true [Go.Ab.AV.sval a0 a1 Bool.false, Go.Ab.AV.int Go.IntKind.i64 a2, Go.Ab.AV.int Go.IntKind.u64 a3]] spec_l1Cur_pick.dec = spec_l1Cur_pick.f n a4 a0 a1 a2 a3 := by kernel_rfl
theorem spec_l1Cur_pick.gok (X : Wd) (n : Nat) {R : Type} : Go.Ab.CtrOk (En X) (spec_l1Cur_pick.G n : Go.Ab.Ctr R) := by
  intro g args objs k r h
  unfold spec_l1Cur_pick.G at h
  split at h
  · exact spec_l1Cur_next.ok X _ args objs k r h
  · cases h
theorem spec_l1Cur_pick.hdec (r : (Int × (List Go.Ab.AV) × Nat × Int × Int)) (v : Go.Ab.AV) (o : List Go.Ab.AObj) (h : spec_l1Cur_pick.dec v o = some r) : v = Go.Ab.AV.int Go.IntKind.i64 (r.1) ∧ o = [Go.Ab.AObj.cells Bool.true [Go.Ab.AV.sval (r.2.1) (r.2.2.1) Bool.false, Go.Ab.AV.int Go.IntKind.i64 (r.2.2.2.1), Go.Ab.AV.int Go.IntKind.u64 (r.2.2.2.2)]] := by
  unfold spec_l1Cur_pick.dec at h
  split at h
  · cases h; exact ⟨rfl, rfl⟩
  · cases h
theorem spec_l1Cur_pick.sim (X : Wd) (n : Nat) (a4 : Int) (a0 : List Go.Ab.AV) (a1 : Nat) (a2 : Int) (a3 : Int) (r : (Int × (List Go.Ab.AV) × Nat × Int × Int)) (h : spec_l1Cur_pick.f n a4 a0 a1 a2 a3 = some r) : Go.Ab.Sim (En X) 58 [Go.Ab.AV.ptr 0 0, Go.Ab.AV.int Go.IntKind.i64 a4] [Go.Ab.AObj.cells Bool.true [Go.Ab.AV.sval a0 a1 Bool.false, Go.Ab.AV.int Go.IntKind.i64 a2, Go.Ab.AV.int Go.IntKind.u64 a3]] (Go.Ab.AV.int Go.IntKind.i64 (r.1)) [Go.Ab.AObj.cells Bool.true [Go.Ab.AV.sval (r.2.1) (r.2.2.1) Bool.false, Go.Ab.AV.int Go.IntKind.i64 (r.2.2.2.1), Go.Ab.AV.int Go.IntKind.u64 (r.2.2.2.2)]] :=
  Go.Ab.sim_of (E := En X) (spec_l1Cur_pick.gok X n) mix (fn := Go.Proofs.Tryd.f58) (c := (bodyOf Go.Proofs.Tryd.f58)) (by kernel_rfl) (by kernel_rfl) (by kernel_rfl) (spec_l1Cur_pick.loops n) (spec_l1Cur_pick.cuts n) ((spec_l1Cur_pick.eq n a4 a0 a1 a2 a3).trans h) (spec_l1Cur_pick.hdec r)
noncomputable def spec_l1Cur_pick.ctr (n : Nat) {R : Type} : List Go.Ab.AV → List Go.Ab.AObj → (Go.Ab.AV → List Go.Ab.AObj → Option R) → Option R
  | [Go.Ab.AV.ptr 0 0, Go.Ab.AV.int Go.IntKind.i64 a4], [Go.Ab.AObj.cells Bool.true [Go.Ab.AV.sval a0 a1 Bool.false, Go.Ab.AV.int Go.IntKind.i64 a2, Go.Ab.AV.int Go.IntKind.u64 a3]], k => (spec_l1Cur_pick.f n a4 a0 a1 a2 a3).bind fun r => k (Go.Ab.AV.int Go.IntKind.i64 (r.1)) [Go.Ab.AObj.cells Bool.true [Go.Ab.AV.sval (r.2.1) (r.2.2.1) Bool.false, Go.Ab.AV.int Go.IntKind.i64 (r.2.2.2.1), Go.Ab.AV.int Go.IntKind.u64 (r.2.2.2.2)]]
  | _, _, _ => none
noncomputable def spec_l1Cur_pick.fits : List Go.Ab.AV → List Go.Ab.AObj → Bool
  | [Go.Ab.AV.ptr 0 0, Go.Ab.AV.int Go.IntKind.i64 a4], [Go.Ab.AObj.cells Bool.true [Go.Ab.AV.sval a0 a1 Bool.false, Go.Ab.AV.int Go.IntKind.i64 a2, Go.Ab.AV.int Go.IntKind.u64 a3]] => true
  | _, _ => false
theorem spec_l1Cur_pick.ok (X : Wd) (n : Nat) {R : Type} (args : List Go.Ab.AV) (objs : List Go.Ab.AObj) (k : Go.Ab.AV → List Go.Ab.AObj → Option R) (r : R) (h : spec_l1Cur_pick.ctr n args objs k = some r) :
    Go.Ab.Enters Go.Proofs.Tryd.prog 58 ∧ ∃ v objs', Go.Ab.Sim (En X) 58 args objs v objs' ∧ k v objs' = some r := by
  unfold spec_l1Cur_pick.ctr at h
  split at h
  · obtain ⟨x, h1, h2⟩ := Option.bind_eq_some_iff.1 h
    exact ⟨⟨Go.Proofs.Tryd.f58, by kernel_rfl, by kernel_rfl, by kernel_rfl⟩, _, _, spec_l1Cur_pick.sim X n _ _ _ _ _ x h1, h2⟩
  · cases h

noncomputable def spec_l1Cur_of.dec (v : Go.Ab.AV) (o : List Go.Ab.AObj) : Option (ByteArray × (List Go.Ab.AV) × Nat × Int × Int × (List Go.Ab.AV)) := match v, o with
  | Go.Ab.AV.str a7, [Go.Ab.AObj.cells Bool.true [Go.Ab.AV.sval a8 a9 Bool.false, Go.Ab.AV.int Go.IntKind.i64 a10, Go.Ab.AV.int Go.IntKind.u64 a11], Go.Ab.AObj.cells Bool.true a14] => some (a7, a8, a9, a10, a11, a14)
  | _, _ => none
noncomputable def spec_l1Cur_of.A : Go.Ab.Ann := { live := fun _ => [], out := fun _ => [], cut := fun _ => none }
noncomputable def spec_l1Cur_of.G (n : Nat) {R : Type} : Go.Ab.Ctr R := fun g args objs k => match g with | 58 => spec_l1Cur_pick.ctr n args objs k | _ => none
noncomputable def spec_l1Cur_of.B (i : Nat) : Go.Code := (Go.Ab.loopsOf (bodyOf Go.Proofs.Tryd.f70)).getD i Go.Code.skip
noncomputable def spec_l1Cur_of.H (n : Nat) : Go.Ab.Hnd (ByteArray × (List Go.Ab.AV) × Nat × Int × Int × (List Go.Ab.AV)) := { loop := fun key _ v o K => none, cut := fun _ _ _ _ _ => none }
theorem spec_l1Cur_of.loops (n0 : Nat) : ∀ b ∈ Go.Ab.loopsOf (bodyOf Go.Proofs.Tryd.f70), Go.Ab.LoopOk Go.Proofs.Tryd.prog (spec_l1Cur_of.G n0) spec_l1Cur_of.A (spec_l1Cur_of.H n0) 12 2 b := Go.Ab.forall_nil (by kernel_rfl)
theorem spec_l1Cur_of.cuts (n0 : Nat) : ∀ b ∈ Go.Ab.cutsOf spec_l1Cur_of.A (bodyOf Go.Proofs.Tryd.f70), Go.Ab.CutOk Go.Proofs.Tryd.prog (spec_l1Cur_of.G n0) spec_l1Cur_of.A (spec_l1Cur_of.H n0) 12 2 b := Go.Ab.forall_nil (by kernel_rfl)
theorem spec_l1Cur_of.eq (n : Nat) (a5 : Nat) (a0 : List Go.Ab.AV) (a1 : Nat) (a2 : Int) (a3 : Int) (a6 : List Go.Ab.AV) : Go.Ab.funK Go.Proofs.Tryd.prog (spec_l1Cur_of.G n) spec_l1Cur_of.A (spec_l1Cur_of.H n) false Go.Proofs.Tryd.f70 (bodyOf Go.Proofs.Tryd.f70) [Go.Ab.AV.ptr 0 0, Go.Ab.AV.sref 1 0 a5 1] [Go.Ab.AObj.cells Bool.true [Go.Ab.AV.sval a0 a1 Bool.false, Go.Ab.AV.int Go.IntKind.i64 a2, Go.Ab.AV.int Go.IntKind.u64 a3], Go.Ab.AObj.cells Bool.true a6] spec_l1Cur_of.dec = spec_l1Cur_of.f n a5 a0 a1 a2 a3 a6 := by kernel_rfl
theorem spec_l1Cur_of.gok (X : Wd) (n : Nat) {R : Type} : Go.Ab.CtrOk (En X) (spec_l1Cur_of.G n : Go.Ab.Ctr R) := by
  intro g args objs k r h
  unfold spec_l1Cur_of.G at h
  split at h
  · exact spec_l1Cur_pick.ok X _ args objs k r h
  · cases h
theorem spec_l1Cur_of.hdec (r : (ByteArray × (List Go.Ab.AV) × Nat × Int × Int × (List Go.Ab.AV))) (v : Go.Ab.AV) (o : List Go.Ab.AObj) (h : spec_l1Cur_of.dec v o = some r) : v = Go.Ab.AV.str (r.1) ∧ o = [Go.Ab.AObj.cells Bool.true [Go.Ab.AV.sval (r.2.1) (r.2.2.1) Bool.false, Go.Ab.AV.int Go.IntKind.i64 (r.2.2.2.1), Go.Ab.AV.int Go.IntKind.u64 (r.2.2.2.2.1)], Go.Ab.AObj.cells Bool.true (r.2.2.2.2.2)] := by
  unfold spec_l1Cur_of.dec at h
  split at h
  · cases h; exact ⟨rfl, rfl⟩
  · cases h
theorem spec_l1Cur_of.sim (X : Wd) (n : Nat) (a5 : Nat) (a0 : List Go.Ab.AV) (a1 : Nat) (a2 : Int) (a3 : Int) (a6 : List Go.Ab.AV) (r : (ByteArray × (List Go.Ab.AV) × Nat × Int × Int × (List Go.Ab.AV))) (h : spec_l1Cur_of.f n a5 a0 a1 a2 a3 a6 = some r) : Go.Ab.Sim (En X) 70 [Go.Ab.AV.ptr 0 0, Go.Ab.AV.sref 1 0 a5 1] [Go.Ab.AObj.cells Bool.true [Go.Ab.AV.sval a0 a1 Bool.false, Go.Ab.AV.int Go.IntKind.i64 a2, Go.Ab.AV.int Go.IntKind.u64 a3], Go.Ab.AObj.cells Bool.true a6] (Go.Ab.AV.str (r.1)) [Go.Ab.AObj.cells Bool.true [Go.Ab.AV.sval (r.2.1) (r.2.2.1) Bool.false, Go.Ab.AV.int Go.IntKind.i64 (r.2.2.2.1), Go.Ab.AV.int Go.IntKind.u64 (r.2.2.2.2.1)], Go.Ab.AObj.cells Bool.true (r.2.2.2.2.2)] :=
  Go.Ab.sim_of (E := En X) (spec_l1Cur_of.gok X n) mix (fn := Go.Proofs.Tryd.f70) (c := (bodyOf Go.Proofs.Tryd.f70)) (by kernel_rfl) (by kernel_rfl) (by kernel_rfl) (spec_l1Cur_of.loops n) (spec_l1Cur_of.cuts n) ((spec_l1Cur_of.eq n a5 a0 a1 a2 a3 a6).trans h) (spec_l1Cur_of.hdec r)
noncomputable def spec_l1Cur_of.ctr (n : Nat) {R : Type} : List Go.Ab.AV → List Go.Ab.AObj → (Go.Ab.AV → List Go.Ab.AObj → Option R) → Option R
  | [Go.Ab.AV.ptr 0 0, Go.Ab.AV.sref 1 0 a5 1], [Go.Ab.AObj.cells Bool.true [Go.Ab.AV.sval a0 a1 Bool.false, Go.Ab.AV.int Go.IntKind.i64 a2, Go.Ab.AV.int Go.IntKind.u64 a3], Go.Ab.AObj.cells Bool.true a6], k => (spec_l1Cur_of.f n a5 a0 a1 a2 a3 a6).bind fun r => k (Go.Ab.AV.str (r.1)) [Go.Ab.AObj.cells Bool.true [Go.Ab.AV.sval (r.2.1) (r.2.2.1) Bool.false, Go.Ab.AV.int Go.IntKind.i64 (r.2.2.2.1), Go.Ab.AV.int Go.IntKind.u64 (r.2.2.2.2.1)], Go.Ab.AObj.cells Bool.true (r.2.2.2.2.2)]
  | _, _, _ => none
noncomputable def spec_l1Cur_of.fits : List Go.Ab.AV → List Go.Ab.AObj → Bool
  | [Go.Ab.AV.ptr 0 0, Go.Ab.AV.sref 1 0 a5 1], [Go.Ab.AObj.cells Bool.true [Go.Ab.AV.sval a0 a1 Bool.false, Go.Ab.AV.int Go.IntKind.i64 a2, Go.Ab.AV.int Go.IntKind.u64 a3], Go.Ab.AObj.cells Bool.true a6] => true
  | _, _ => false
theorem spec_l1Cur_of.ok (X : Wd) (n : Nat) {R : Type} (args : List Go.Ab.AV) (objs : List Go.Ab.AObj) (k : Go.Ab.AV → List Go.Ab.AObj → Option R) (r : R) (h : spec_l1Cur_of.ctr n args objs k = some r) :
    Go.Ab.Enters Go.Proofs.Tryd.prog 70 ∧ ∃ v objs', Go.Ab.Sim (En X) 70 args objs v objs' ∧ k v objs' = some r := by
  unfold spec_l1Cur_of.ctr at h
  split at h
  · obtain ⟨x, h1, h2⟩ := Option.bind_eq_some_iff.1 h
    exact ⟨⟨Go.Proofs.Tryd.f70, by kernel_rfl, by kernel_rfl, by kernel_rfl⟩, _, _, spec_l1Cur_of.sim X n _ _ _ _ _ _ x h1, h2⟩
  · cases h

noncomputable def spec_l1Cur_among.dec (v : Go.Ab.AV) (o : List Go.Ab.AObj) : Option (Int × (List Go.Ab.AV) × Nat × Int × Int × (List Go.Ab.AV)) := match v, o with
  | Go.Ab.AV.int Go.IntKind.i64 a7, [Go.Ab.AObj.cells Bool.true [Go.Ab.AV.sval a8 a9 Bool.false, Go.Ab.AV.int Go.IntKind.i64 a10, Go.Ab.AV.int Go.IntKind.u64 a11], Go.Ab.AObj.cells Bool.true a14] => some (a7, a8, a9, a10, a11, a14)
  | _, _ => none
noncomputable def spec_l1Cur_among.A : Go.Ab.Ann := { live := fun _ => [], out := fun _ => [], cut := fun _ => none }
noncomputable def spec_l1Cur_among.G (n : Nat) {R : Type} : Go.Ab.Ctr R := fun g args objs k => match g with | 58 => spec_l1Cur_pick.ctr n args objs k | _ => none
noncomputable def spec_l1Cur_among.B (i : Nat) : Go.Code := (Go.Ab.loopsOf (bodyOf Go.Proofs.Tryd.f50)).getD i Go.Code.skip
noncomputable def spec_l1Cur_among.H (n : Nat) : Go.Ab.Hnd (Int × (List Go.Ab.AV) × Nat × Int × Int × (List Go.Ab.AV)) := { loop := fun key _ v o K => none, cut := fun _ _ _ _ _ => none }
theorem spec_l1Cur_among.loops (n0 : Nat) : ∀ b ∈ Go.Ab.loopsOf (bodyOf Go.Proofs.Tryd.f50), Go.Ab.LoopOk Go.Proofs.Tryd.prog (spec_l1Cur_among.G n0) spec_l1Cur_among.A (spec_l1Cur_among.H n0) 12 2 b := Go.Ab.forall_nil (by kernel_rfl)
theorem spec_l1Cur_among.cuts (n0 : Nat) : ∀ b ∈ Go.Ab.cutsOf spec_l1Cur_among.A (bodyOf Go.Proofs.Tryd.f50), Go.Ab.CutOk Go.Proofs.Tryd.prog (spec_l1Cur_among.G n0) spec_l1Cur_among.A (spec_l1Cur_among.H n0) 12 2 b := Go.Ab.forall_nil (by kernel_rfl)
theorem spec_l1Cur_among.eq (n : Nat) (a5 : Nat) (a0 : List Go.Ab.AV) (a1 : Nat) (a2 : Int) (a3 : Int) (a6 : List Go.Ab.AV) : Go.Ab.funK Go.Proofs.Tryd.prog (spec_l1Cur_among.G n) spec_l1Cur_among.A (spec_l1Cur_among.H n) false Go.Proofs.Tryd.f50 (bodyOf Go.Proofs.Tryd.f50) [Go.Ab.AV.ptr 0 0, Go.Ab.AV.sref 1 0 a5 1] [Go.Ab.AObj.cells Bool.true [Go.Ab.AV.sval a0 a1 Bool.false, Go.Ab.AV.int Go.IntKind.i64 a2, Go.Ab.AV.int Go.IntKind.u64 a3], Go.Ab.AObj.cells Bool.true a6] spec_l1Cur_among.dec = spec_l1Cur_among.f n a5 a0 a1 a2 a3 a6 := by kernel_rfl
theorem spec_l1Cur_among.gok (X : Wd) (n : Nat) {R : Type} : Go.Ab.CtrOk (En X) (spec_l1Cur_among.G n : Go.Ab.Ctr R) := by
  intro g args objs k r h
  unfold spec_l1Cur_among.G at h
  split at h
  · exact spec_l1Cur_pick.ok X _ args objs k r h
  · cases h
theorem spec_l1Cur_among.hdec (r : (Int × (List Go.Ab.AV) × Nat × Int × Int × (List Go.Ab.AV))) (v : Go.Ab.AV) (o : List Go.Ab.AObj) (h : spec_l1Cur_among.dec v o = some r) : v = Go.Ab.AV.int Go.IntKind.i64 (r.1) ∧ o = [Go.Ab.AObj.cells Bool.true [Go.Ab.AV.sval (r.2.1) (r.2.2.1) Bool.false, Go.Ab.AV.int Go.IntKind.i64 (r.2.2.2.1), Go.Ab.AV.int Go.IntKind.u64 (r.2.2.2.2.1)], Go.Ab.AObj.cells Bool.true (r.2.2.2.2.2)] := by
  unfold spec_l1Cur_among.dec at h
  split at h
  · cases h; exact ⟨rfl, rfl⟩
  · cases h
theorem spec_l1Cur_among.sim (X : Wd) (n : Nat) (a5 : Nat) (a0 : List Go.Ab.AV) (a1 : Nat) (a2 : Int) (a3 : Int) (a6 : List Go.Ab.AV) (r : (Int × (List Go.Ab.AV) × Nat × Int × Int × (List Go.Ab.AV))) (h : spec_l1Cur_among.f n a5 a0 a1 a2 a3 a6 = some r) : Go.Ab.Sim (En X) 50 [Go.Ab.AV.ptr 0 0, Go.Ab.AV.sref 1 0 a5 1] [Go.Ab.AObj.cells Bool.true [Go.Ab.AV.sval a0 a1 Bool.false, Go.Ab.AV.int Go.IntKind.i64 a2, Go.Ab.AV.int Go.IntKind.u64 a3], Go.Ab.AObj.cells Bool.true a6] (Go.Ab.AV.int Go.IntKind.i64 (r.1)) [Go.Ab.AObj.cells Bool.true [Go.Ab.AV.sval (r.2.1) (r.2.2.1) Bool.false, Go.Ab.AV.int Go.IntKind.i64 (r.2.2.2.1), Go.Ab.AV.int Go.IntKind.u64 (r.2.2.2.2.1)], Go.Ab.AObj.cells Bool.true (r.2.2.2.2.2)] :=
  Go.Ab.sim_of (E := En X) (spec_l1Cur_among.gok X n) mix (fn := Go.Proofs.Tryd.f50) (c := (bodyOf Go.Proofs.Tryd.f50)) (by kernel_rfl) (by kernel_rfl) (by kernel_rfl) (spec_l1Cur_among.loops n) (spec_l1Cur_among.cuts n) ((spec_l1Cur_among.eq n a5 a0 a1 a2 a3 a6).trans h) (spec_l1Cur_among.hdec r)
noncomputable def spec_l1Cur_among.ctr (n : Nat) {R : Type} : List Go.Ab.AV → List Go.Ab.AObj → (Go.Ab.AV → List Go.Ab.AObj → Option R) → Option R
  | [Go.Ab.AV.ptr 0 0, Go.Ab.AV.sref 1 0 a5 1], [Go.Ab.AObj.cells Bool.true [Go.Ab.AV.sval a0 a1 Bool.false, Go.Ab.AV.int Go.IntKind.i64 a2, Go.Ab.AV.int Go.IntKind.u64 a3], Go.Ab.AObj.cells Bool.true a6], k => (spec_l1Cur_among.f n a5 a0 a1 a2 a3 a6).bind fun r => k (Go.Ab.AV.int Go.IntKind.i64 (r.1)) [Go.Ab.AObj.cells Bool.true [Go.Ab.AV.sval (r.2.1) (r.2.2.1) Bool.false, Go.Ab.AV.int Go.IntKind.i64 (r.2.2.2.1), Go.Ab.AV.int Go.IntKind.u64 (r.2.2.2.2.1)], Go.Ab.AObj.cells Bool.true (r.2.2.2.2.2)]
  | _, _, _ => none
noncomputable def spec_l1Cur_among.fits : List Go.Ab.AV → List Go.Ab.AObj → Bool
  | [Go.Ab.AV.ptr 0 0, Go.Ab.AV.sref 1 0 a5 1], [Go.Ab.AObj.cells Bool.true [Go.Ab.AV.sval a0 a1 Bool.false, Go.Ab.AV.int Go.IntKind.i64 a2, Go.Ab.AV.int Go.IntKind.u64 a3], Go.Ab.AObj.cells Bool.true a6] => true
  | _, _ => false
theorem spec_l1Cur_among.ok (X : Wd) (n : Nat) {R : Type} (args : List Go.Ab.AV) (objs : List Go.Ab.AObj) (k : Go.Ab.AV → List Go.Ab.AObj → Option R) (r : R) (h : spec_l1Cur_among.ctr n args objs k = some r) :
    Go.Ab.Enters Go.Proofs.Tryd.prog 50 ∧ ∃ v objs', Go.Ab.Sim (En X) 50 args objs v objs' ∧ k v objs' = some r := by
  unfold spec_l1Cur_among.ctr at h
  split at h
  · obtain ⟨x, h1, h2⟩ := Option.bind_eq_some_iff.1 h
    exact ⟨⟨Go.Proofs.Tryd.f50, by kernel_rfl, by kernel_rfl, by kernel_rfl⟩, _, _, spec_l1Cur_among.sim X n _ _ _ _ _ _ x h1, h2⟩
  · cases h

noncomputable def spec_EncodeRecord.dec (v : Go.Ab.AV) (o : List Go.Ab.AObj) : Option (ByteArray × Bool) := match v, o with
  | Go.Ab.AV.tup [Go.Ab.AV.str a3, Go.Ab.AV.bool a4], [] => some (a3, a4)
  | _, _ => none
noncomputable def spec_EncodeRecord.A : Go.Ab.Ann := { live := fun _ => [], out := fun _ => [], cut := fun _ => none }
noncomputable def spec_EncodeRecord.G (n : Nat) {R : Type} : Go.Ab.Ctr R := fun g args objs k => match g with | 53 => spec_l1In.ctr n args objs k | 54 => spec_l12Record.ctr n args objs k | 55 => spec_l12Line.ctr n args objs k | _ => none
noncomputable def spec_EncodeRecord.B (i : Nat) : Go.Code := (Go.Ab.loopsOf (bodyOf Go.Proofs.Tryd.f23)).getD i Go.Code.skip
noncomputable def spec_EncodeRecord.H (n : Nat) : Go.Ab.Hnd (ByteArray × Bool) := { loop := fun key _ v o K => none, cut := fun _ _ _ _ _ => none }
theorem spec_EncodeRecord.loops (n0 : Nat) : ∀ b ∈ Go.Ab.loopsOf (bodyOf Go.Proofs.Tryd.f23), Go.Ab.LoopOk Go.Proofs.Tryd.prog (spec_EncodeRecord.G n0) spec_EncodeRecord.A (spec_EncodeRecord.H n0) 17 0 b := Go.Ab.forall_nil (by kernel_rfl)
theorem spec_EncodeRecord.cuts (n0 : Nat) : ∀ b ∈ Go.Ab.cutsOf spec_EncodeRecord.A (bodyOf Go.Proofs.Tryd.f23), Go.Ab.CutOk Go.Proofs.Tryd.prog (spec_EncodeRecord.G n0) spec_EncodeRecord.A (spec_EncodeRecord.H n0) 17 0 b := Go.Ab.forall_nil (by kernel_rfl)
theorem spec_EncodeRecord.eq (n : Nat) (a0 : Int) (a1 : ByteArray) (a2 : ByteArray) : Go.Ab.funK Go.Proofs.Tryd.prog (spec_EncodeRecord.G n) spec_EncodeRecord.A (spec_EncodeRecord.H n) false Go.Proofs.Tryd.f23 (bodyOf Go.Proofs.Tryd.f23) [Go.Ab.AV.int Go.IntKind.i64 a0, Go.Ab.AV.agg [Go.Ab.AV.str a1, Go.Ab.AV.str a2]] [] spec_EncodeRecord.dec = spec_EncodeRecord.f n a0 a1 a2 := by kernel_rfl
theorem spec_EncodeRecord.gok (X : Wd) (n : Nat) {R : Type} : Go.Ab.CtrOk (En X) (spec_EncodeRecord.G n : Go.Ab.Ctr R) := by
  intro g args objs k r h
  unfold spec_EncodeRecord.G at h
  split at h
  · exact spec_l1In.ok X _ args objs k r h
  · exact spec_l12Record.ok X _ args objs k r h
  · exact spec_l12Line.ok X _ args objs k r h
  · cases h
theorem spec_EncodeRecord.hdec (r : (ByteArray × Bool)) (v : Go.Ab.AV) (o : List Go.Ab.AObj) (h : spec_EncodeRecord.dec v o = some r) : v = Go.Ab.AV.tup [Go.Ab.AV.str (r.1), Go.Ab.AV.bool (r.2)] ∧ o = [] := by
  unfold spec_EncodeRecord.dec at h
  split at h
  · cases h; exact ⟨rfl, rfl⟩
  · cases h
theorem spec_EncodeRecord.sim (X : Wd) (n : Nat) (a0 : Int) (a1 : ByteArray) (a2 : ByteArray) (r : (ByteArray × Bool)) (h : spec_EncodeRecord.f n a0 a1 a2 = some r) : Go.Ab.Sim (En X) 23 [Go.Ab.AV.int Go.IntKind.i64 a0, Go.Ab.AV.agg [Go.Ab.AV.str a1, Go.Ab.AV.str a2]] [] (Go.Ab.AV.tup [Go.Ab.AV.str (r.1), Go.Ab.AV.bool (r.2)]) [] :=
  Go.Ab.sim_of (E := En X) (spec_EncodeRecord.gok X n) mix (fn := Go.Proofs.Tryd.f23) (c := (bodyOf Go.Proofs.Tryd.f23)) (by kernel_rfl) (by kernel_rfl) (by kernel_rfl) (spec_EncodeRecord.loops n) (spec_EncodeRecord.cuts n) ((spec_EncodeRecord.eq n a0 a1 a2).trans h) (spec_EncodeRecord.hdec r)
noncomputable def spec_EncodeRecord.ctr (n : Nat) {R : Type} : List Go.Ab.AV → List Go.Ab.AObj → (Go.Ab.AV → List Go.Ab.AObj → Option R) → Option R
  | [Go.Ab.AV.int Go.IntKind.i64 a0, Go.Ab.AV.agg [Go.Ab.AV.str a1, Go.Ab.AV.str a2]], [], k => (spec_EncodeRecord.f n a0 a1 a2).bind fun r => k (Go.Ab.AV.tup [Go.Ab.AV.str (r.1), Go.Ab.AV.bool (r.2)]) []
  | _, _, _ => none
noncomputable def spec_EncodeRecord.fits : List Go.Ab.AV → List Go.Ab.AObj → Bool
  | [Go.Ab.AV.int Go.IntKind.i64 a0, Go.Ab.AV.agg [Go.Ab.AV.str a1, Go.Ab.AV.str a2]], [] => true
  | _, _ => false
theorem spec_EncodeRecord.ok (X : Wd) (n : Nat) {R : Type} (args : List Go.Ab.AV) (objs : List Go.Ab.AObj) (k : Go.Ab.AV → List Go.Ab.AObj → Option R) (r : R) (h : spec_EncodeRecord.ctr n args objs k = some r) :
    Go.Ab.Enters Go.Proofs.Tryd.prog 23 ∧ ∃ v objs', Go.Ab.Sim (En X) 23 args objs v objs' ∧ k v objs' = some r := by
  unfold spec_EncodeRecord.ctr at h
  split at h
  · obtain ⟨x, h1, h2⟩ := Option.bind_eq_some_iff.1 h
    exact ⟨⟨Go.Proofs.Tryd.f23, by kernel_rfl, by kernel_rfl, by kernel_rfl⟩, _, _, spec_EncodeRecord.sim X n _ _ _ x h1, h2⟩
  · cases h

noncomputable def spec_l1Cur_one.dec (v : Go.Ab.AV) (o : List Go.Ab.AObj) : Option (Bool × (List Go.Ab.AV) × Nat × Int × Int) := match v, o with
  | Go.Ab.AV.bool a5, [Go.Ab.AObj.cells Bool.true [Go.Ab.AV.sval a6 a7 Bool.false, Go.Ab.AV.int Go.IntKind.i64 a8, Go.Ab.AV.int Go.IntKind.u64 a9]] => some (a5, a6, a7, a8, a9)
  | _, _ => none
noncomputable def spec_l1Cur_one.A : Go.Ab.Ann := { live := fun _ => [], out := fun _ => [], cut := fun _ => none }
noncomputable def spec_l1Cur_one.G (n : Nat) {R : Type} : Go.Ab.Ctr R := fun g args objs k => match g with | 58 => spec_l1Cur_pick.ctr n args objs k | _ => none
noncomputable def spec_l1Cur_one.B (i : Nat) : Go.Code := (Go.Ab.loopsOf (bodyOf Go.Proofs.Tryd.f57)).getD i Go.Code.skip
noncomputable def spec_l1Cur_one.H (n : Nat) : Go.Ab.Hnd (Bool × (List Go.Ab.AV) × Nat × Int × Int) := { loop := fun key _ v o K => none, cut := fun _ _ _ _ _ => none }
theorem spec_l1Cur_one.loops (n0 : Nat) : ∀ b ∈ Go.Ab.loopsOf (bodyOf Go.Proofs.Tryd.f57), Go.Ab.LoopOk Go.Proofs.Tryd.prog (spec_l1Cur_one.G n0) spec_l1Cur_one.A (spec_l1Cur_one.H n0) 9 1 b := Go.Ab.forall_nil (by kernel_rfl)
theorem spec_l1Cur_one.cuts (n0 : Nat) : ∀ b ∈ Go.Ab.cutsOf spec_l1Cur_one.A (bodyOf Go.Proofs.Tryd.f57), Go.Ab.CutOk Go.Proofs.Tryd.prog (spec_l1Cur_one.G n0) spec_l1Cur_one.A (spec_l1Cur_one.H n0) 9 1 b := Go.Ab.forall_nil (by kernel_rfl)
theorem spec_l1Cur_one.eq (n : Nat) (a4 : Int) (a0 : List Go.Ab.AV) (a1 : Nat) (a2 : Int) (a3 : Int) : Go.Ab.funK Go.Proofs.Tryd.prog (spec_l1Cur_one.G n) spec_l1Cur_one.A (spec_l1Cur_one.H n) false Go.Proofs.Tryd.f57 (bodyOf Go.Proofs.Tryd.f57) [Go.Ab.AV.ptr 0 0, Go.Ab.AV.int Go.IntKind.i64 a4] [Go.Ab.AObj.cells Bool.true [Go.Ab.AV.sval a0 a1 Bool.false, Go.Ab.AV.int Go.IntKind.i64 a2, Go.Ab.AV.int Go.IntKind.u64 a3]] spec_l1Cur_one.dec = spec_l1Cur_one.f n a4 a0 a1 a2 a3 := by kernel_rfl
theorem spec_l1Cur_one.gok (X : Wd) (n : Nat) {R : Type} : Go.Ab.CtrOk (En X) (spec_l1Cur_one.G n : Go.Ab.Ctr R) := by
  intro g args objs k r h
  unfold spec_l1Cur_one.G at h
  split at h
  · exact spec_l1Cur_pick.ok X _ args objs k r h
  · cases h
theorem spec_l1Cur_one.hdec (r : (Bool × (List Go.Ab.AV) × Nat × Int × Int)) (v : Go.Ab.AV) (o : List Go.Ab.AObj) (h : spec_l1Cur_one.dec v o = some r) : v = Go.Ab.AV.bool (r.1) ∧ o = [Go.Ab.AObj.cells Bool.true [Go.Ab.AV.sval (r.2.1) (r.2.2.1) Bool.false, Go.Ab.AV.int Go.IntKind.i64 (r.2.2.2.1), Go.Ab.AV.int Go.IntKind.u64 (r.2.2.2.2)]] := by
  unfold spec_l1Cur_one.dec at h
  split at h
  · cases h; exact ⟨rfl, rfl⟩
  · cases h
theorem spec_l1Cur_one.sim (X : Wd) (n : Nat) (a4 : Int) (a0 : List Go.Ab.AV) (a1 : Nat) (a2 : Int) (a3 : Int) (r : (Bool × (List Go.Ab.AV) × Nat × Int × Int)) (h : spec_l1Cur_one.f n a4 a0 a1 a2 a3 = some r) : Go.Ab.Sim (En X) 57 [Go.Ab.AV.ptr 0 0, Go.Ab.AV.int Go.IntKind.i64 a4] [Go.Ab.AObj.cells Bool.true [Go.Ab.AV.sval a0 a1 Bool.false, Go.Ab.AV.int Go.IntKind.i64 a2, Go.Ab.AV.int Go.IntKind.u64 a3]] (Go.Ab.AV.bool (r.1)) [Go.Ab.AObj.cells Bool.true [Go.Ab.AV.sval (r.2.1) (r.2.2.1) Bool.false, Go.Ab.AV.int Go.IntKind.i64 (r.2.2.2.1), Go.Ab.AV.int Go.IntKind.u64 (r.2.2.2.2)]] :=
  Go.Ab.sim_of (E := En X) (spec_l1Cur_one.gok X n) mix (fn := Go.Proofs.Tryd.f57) (c := (bodyOf Go.Proofs.Tryd.f57)) (by kernel_rfl) (by kernel_rfl) (by kernel_rfl) (spec_l1Cur_one.loops n) (spec_l1Cur_one.cuts n) ((spec_l1Cur_one.eq n a4 a0 a1 a2 a3).trans h) (spec_l1Cur_one.hdec r)
noncomputable def spec_l1Cur_one.ctr (n : Nat) {R : Type} : List Go.Ab.AV → List Go.Ab.AObj → (Go.Ab.AV → List Go.Ab.AObj → Option R) → Option R
  | [Go.Ab.AV.ptr 0 0, Go.Ab.AV.int Go.IntKind.i64 a4], [Go.Ab.AObj.cells Bool.true [Go.Ab.AV.sval a0 a1 Bool.false, Go.Ab.AV.int Go.IntKind.i64 a2, Go.Ab.AV.int Go.IntKind.u64 a3]], k => (spec_l1Cur_one.f n a4 a0 a1 a2 a3).bind fun r => k (Go.Ab.AV.bool (r.1)) [Go.Ab.AObj.cells Bool.true [Go.Ab.AV.sval (r.2.1) (r.2.2.1) Bool.false, Go.Ab.AV.int Go.IntKind.i64 (r.2.2.2.1), Go.Ab.AV.int Go.IntKind.u64 (r.2.2.2.2)]]
  | _, _, _ => none
noncomputable def spec_l1Cur_one.fits : List Go.Ab.AV → List Go.Ab.AObj → Bool
  | [Go.Ab.AV.ptr 0 0, Go.Ab.AV.int Go.IntKind.i64 a4], [Go.Ab.AObj.cells Bool.true [Go.Ab.AV.sval a0 a1 Bool.false, Go.Ab.AV.int Go.IntKind.i64 a2, Go.Ab.AV.int Go.IntKind.u64 a3]] => true
  | _, _ => false
theorem spec_l1Cur_one.ok (X : Wd) (n : Nat) {R : Type} (args : List Go.Ab.AV) (objs : List Go.Ab.AObj) (k : Go.Ab.AV → List Go.Ab.AObj → Option R) (r : R) (h : spec_l1Cur_one.ctr n args objs k = some r) :
    Go.Ab.Enters Go.Proofs.Tryd.prog 57 ∧ ∃ v objs', Go.Ab.Sim (En X) 57 args objs v objs' ∧ k v objs' = some r := by
  unfold spec_l1Cur_one.ctr at h
  split at h
  · obtain ⟨x, h1, h2⟩ := Option.bind_eq_some_iff.1 h
    exact ⟨⟨Go.Proofs.Tryd.f57, by kernel_rfl, by kernel_rfl, by kernel_rfl⟩, _, _, spec_l1Cur_one.sim X n _ _ _ _ _ x h1, h2⟩
  · cases h

noncomputable def spec_SyncLog.dec (v : Go.Ab.AV) (o : List Go.Ab.AObj) : Option (ByteArray × ByteArray × Int × Bool) := match v, o with
  | Go.Ab.AV.tup [Go.Ab.AV.agg [Go.Ab.AV.str a3, Go.Ab.AV.str a4, Go.Ab.AV.int Go.IntKind.i64 a5], Go.Ab.AV.bool a6], [] => some (a3, a4, a5, a6)
  | _, _ => none
noncomputable def spec_SyncLog.A : Go.Ab.Ann := { live := fun _ => [], out := fun _ => [], cut := fun _ => none }
noncomputable def spec_SyncLog.G (n : Nat) {R : Type} : Go.Ab.Ctr R := fun g args objs k => match g with | 41 => spec_l12Valid.ctr n args objs k | _ => none
noncomputable def spec_SyncLog.B (i : Nat) : Go.Code := (Go.Ab.loopsOf (bodyOf Go.Proofs.Tryd.f33)).getD i Go.Code.skip
noncomputable def spec_SyncLog.H (n : Nat) : Go.Ab.Hnd (ByteArray × ByteArray × Int × Bool) := { loop := fun key _ v o K => none, cut := fun _ _ _ _ _ => none }
theorem spec_SyncLog.loops (n0 : Nat) : ∀ b ∈ Go.Ab.loopsOf (bodyOf Go.Proofs.Tryd.f33), Go.Ab.LoopOk Go.Proofs.Tryd.prog (spec_SyncLog.G n0) spec_SyncLog.A (spec_SyncLog.H n0) 16 0 b := Go.Ab.forall_nil (by kernel_rfl)
theorem spec_SyncLog.cuts (n0 : Nat) : ∀ b ∈ Go.Ab.cutsOf spec_SyncLog.A (bodyOf Go.Proofs.Tryd.f33), Go.Ab.CutOk Go.Proofs.Tryd.prog (spec_SyncLog.G n0) spec_SyncLog.A (spec_SyncLog.H n0) 16 0 b := Go.Ab.forall_nil (by kernel_rfl)
theorem spec_SyncLog.eq (n : Nat) (a0 : ByteArray) (a1 : ByteArray) (a2 : Int) : Go.Ab.funK Go.Proofs.Tryd.prog (spec_SyncLog.G n) spec_SyncLog.A (spec_SyncLog.H n) false Go.Proofs.Tryd.f33 (bodyOf Go.Proofs.Tryd.f33) [Go.Ab.AV.agg [Go.Ab.AV.str a0, Go.Ab.AV.str a1, Go.Ab.AV.int Go.IntKind.i64 a2]] [] spec_SyncLog.dec = spec_SyncLog.f n a0 a1 a2 := by kernel_rfl
theorem spec_SyncLog.gok (X : Wd) (n : Nat) {R : Type} : Go.Ab.CtrOk (En X) (spec_SyncLog.G n : Go.Ab.Ctr R) := by
  intro g args objs k r h
  unfold spec_SyncLog.G at h
  split at h
  · exact spec_l12Valid.ok X _ args objs k r h
  · cases h
theorem spec_SyncLog.hdec (r : (ByteArray × ByteArray × Int × Bool)) (v : Go.Ab.AV) (o : List Go.Ab.AObj) (h : spec_SyncLog.dec v o = some r) : v = Go.Ab.AV.tup [Go.Ab.AV.agg [Go.Ab.AV.str (r.1), Go.Ab.AV.str (r.2.1), Go.Ab.AV.int Go.IntKind.i64 (r.2.2.1)], Go.Ab.AV.bool (r.2.2.2)] ∧ o = [] := by
  unfold spec_SyncLog.dec at h
  split at h
  · cases h; exact ⟨rfl, rfl⟩
  · cases h
theorem spec_SyncLog.sim (X : Wd) (n : Nat) (a0 : ByteArray) (a1 : ByteArray) (a2 : Int) (r : (ByteArray × ByteArray × Int × Bool)) (h : spec_SyncLog.f n a0 a1 a2 = some r) : Go.Ab.Sim (En X) 33 [Go.Ab.AV.agg [Go.Ab.AV.str a0, Go.Ab.AV.str a1, Go.Ab.AV.int Go.IntKind.i64 a2]] [] (Go.Ab.AV.tup [Go.Ab.AV.agg [Go.Ab.AV.str (r.1), Go.Ab.AV.str (r.2.1), Go.Ab.AV.int Go.IntKind.i64 (r.2.2.1)], Go.Ab.AV.bool (r.2.2.2)]) [] :=
  Go.Ab.sim_of (E := En X) (spec_SyncLog.gok X n) mix (fn := Go.Proofs.Tryd.f33) (c := (bodyOf Go.Proofs.Tryd.f33)) (by kernel_rfl) (by kernel_rfl) (by kernel_rfl) (spec_SyncLog.loops n) (spec_SyncLog.cuts n) ((spec_SyncLog.eq n a0 a1 a2).trans h) (spec_SyncLog.hdec r)
noncomputable def spec_SyncLog.ctr (n : Nat) {R : Type} : List Go.Ab.AV → List Go.Ab.AObj → (Go.Ab.AV → List Go.Ab.AObj → Option R) → Option R
  | [Go.Ab.AV.agg [Go.Ab.AV.str a0, Go.Ab.AV.str a1, Go.Ab.AV.int Go.IntKind.i64 a2]], [], k => (spec_SyncLog.f n a0 a1 a2).bind fun r => k (Go.Ab.AV.tup [Go.Ab.AV.agg [Go.Ab.AV.str (r.1), Go.Ab.AV.str (r.2.1), Go.Ab.AV.int Go.IntKind.i64 (r.2.2.1)], Go.Ab.AV.bool (r.2.2.2)]) []
  | _, _, _ => none
noncomputable def spec_SyncLog.fits : List Go.Ab.AV → List Go.Ab.AObj → Bool
  | [Go.Ab.AV.agg [Go.Ab.AV.str a0, Go.Ab.AV.str a1, Go.Ab.AV.int Go.IntKind.i64 a2]], [] => true
  | _, _ => false
theorem spec_SyncLog.ok (X : Wd) (n : Nat) {R : Type} (args : List Go.Ab.AV) (objs : List Go.Ab.AObj) (k : Go.Ab.AV → List Go.Ab.AObj → Option R) (r : R) (h : spec_SyncLog.ctr n args objs k = some r) :
    Go.Ab.Enters Go.Proofs.Tryd.prog 33 ∧ ∃ v objs', Go.Ab.Sim (En X) 33 args objs v objs' ∧ k v objs' = some r := by
  unfold spec_SyncLog.ctr at h
  split at h
  · obtain ⟨x, h1, h2⟩ := Option.bind_eq_some_iff.1 h
    exact ⟨⟨Go.Proofs.Tryd.f33, by kernel_rfl, by kernel_rfl, by kernel_rfl⟩, _, _, spec_SyncLog.sim X n _ _ _ x h1, h2⟩
  · cases h

noncomputable def spec_l1Cur_spoilt.dec (v : Go.Ab.AV) (o : List Go.Ab.AObj) : Option (ByteArray × (List Go.Ab.AV) × Nat × Int × Int) := match v, o with
  | Go.Ab.AV.str a6, [Go.Ab.AObj.cells Bool.true [Go.Ab.AV.sval a7 a8 Bool.false, Go.Ab.AV.int Go.IntKind.i64 a9, Go.Ab.AV.int Go.IntKind.u64 a10]] => some (a6, a7, a8, a9, a10)
  | _, _ => none
noncomputable def spec_l1Cur_spoilt.A : Go.Ab.Ann := { live := fun _ => [], out := fun _ => [], cut := fun _ => none }
noncomputable def spec_l1Cur_spoilt.G (n : Nat) {R : Type} : Go.Ab.Ctr R := fun g args objs k => match g with | 58 => spec_l1Cur_pick.ctr n args objs k | _ => none
noncomputable def spec_l1Cur_spoilt.B (i : Nat) : Go.Code := (Go.Ab.loopsOf (bodyOf Go.Proofs.Tryd.f63)).getD i Go.Code.skip
noncomputable def spec_l1Cur_spoilt.H (n : Nat) : Go.Ab.Hnd (ByteArray × (List Go.Ab.AV) × Nat × Int × Int) := { loop := fun key _ v o K => none, cut := fun _ _ _ _ _ => none }
theorem spec_l1Cur_spoilt.loops (n0 : Nat) : ∀ b ∈ Go.Ab.loopsOf (bodyOf Go.Proofs.Tryd.f63), Go.Ab.LoopOk Go.Proofs.Tryd.prog (spec_l1Cur_spoilt.G n0) spec_l1Cur_spoilt.A (spec_l1Cur_spoilt.H n0) 57 1 b := Go.Ab.forall_nil (by kernel_rfl)
theorem spec_l1Cur_spoilt.cuts (n0 : Nat) : ∀ b ∈ Go.Ab.cutsOf spec_l1Cur_spoilt.A (bodyOf Go.Proofs.Tryd.f63), Go.Ab.CutOk Go.Proofs.Tryd.prog (spec_l1Cur_spoilt.G n0) spec_l1Cur_spoilt.A (spec_l1Cur_spoilt.H n0) 57 1 b := Go.Ab.forall_nil (by kernel_rfl)
theorem spec_l1Cur_spoilt.eq (n : Nat) (a4 : ByteArray) (a5 : ByteArray) (a0 : List Go.Ab.AV) (a1 : Nat) (a2 : Int) (a3 : Int) : Go.Ab.funK Go.Proofs.Tryd.prog (spec_l1Cur_spoilt.G n) spec_l1Cur_spoilt.A (spec_l1Cur_spoilt.H n) false Go.Proofs.Tryd.f63 (bodyOf Go.Proofs.Tryd.f63) [Go.Ab.AV.ptr 0 0, Go.Ab.AV.str a4, Go.Ab.AV.str a5] [Go.Ab.AObj.cells Bool.true [Go.Ab.AV.sval a0 a1 Bool.false, Go.Ab.AV.int Go.IntKind.i64 a2, Go.Ab.AV.int Go.IntKind.u64 a3]] spec_l1Cur_spoilt.dec = spec_l1Cur_spoilt.f n a4 a5 a0 a1 a2 a3 := by kernel_rfl
theorem spec_l1Cur_spoilt.gok (X : Wd) (n : Nat) {R : Type} : Go.Ab.CtrOk (En X) (spec_l1Cur_spoilt.G n : Go.Ab.Ctr R) := by
  intro g args objs k r h
  unfold spec_l1Cur_spoilt.G at h
  split at h
  · exact spec_l1Cur_pick.ok X _ args objs k r h
  · cases h
theorem spec_l1Cur_spoilt.hdec (r : (ByteArray × (List Go.Ab.AV) × Nat × Int × Int)) (v : Go.Ab.AV) (o : List Go.Ab.AObj) (h : spec_l1Cur_spoilt.dec v o = some r) : v = Go.Ab.AV.str (r.1) ∧ o = [Go.Ab.AObj.cells Bool.true [Go.Ab.AV.sval (r.2.1) (r.2.2.1) Bool.false, Go.Ab.AV.int Go.IntKind.i64 (r.2.2.2.1), Go.Ab.AV.int Go.IntKind.u64 (r.2.2.2.2)]] := by
  unfold spec_l1Cur_spoilt.dec at h
  split at h
  · cases h; exact ⟨rfl, rfl⟩
  · cases h
theorem spec_l1Cur_spoilt.sim (X : Wd) (n : Nat) (a4 : ByteArray) (a5 : ByteArray) (a0 : List Go.Ab.AV) (a1 : Nat) (a2 : Int) (a3 : Int) (r : (ByteArray × (List Go.Ab.AV) × Nat × Int × Int)) (h : spec_l1Cur_spoilt.f n a4 a5 a0 a1 a2 a3 = some r) : Go.Ab.Sim (En X) 63 [Go.Ab.AV.ptr 0 0, Go.Ab.AV.str a4, Go.Ab.AV.str a5] [Go.Ab.AObj.cells Bool.true [Go.Ab.AV.sval a0 a1 Bool.false, Go.Ab.AV.int Go.IntKind.i64 a2, Go.Ab.AV.int Go.IntKind.u64 a3]] (Go.Ab.AV.str (r.1)) [Go.Ab.AObj.cells Bool.true [Go.Ab.AV.sval (r.2.1) (r.2.2.1) Bool.false, Go.Ab.AV.int Go.IntKind.i64 (r.2.2.2.1), Go.Ab.AV.int Go.IntKind.u64 (r.2.2.2.2)]] :=
  Go.Ab.sim_of (E := En X) (spec_l1Cur_spoilt.gok X n) mix (fn := Go.Proofs.Tryd.f63) (c := (bodyOf Go.Proofs.Tryd.f63)) (by kernel_rfl) (by kernel_rfl) (by kernel_rfl) (spec_l1Cur_spoilt.loops n) (spec_l1Cur_spoilt.cuts n) ((spec_l1Cur_spoilt.eq n a4 a5 a0 a1 a2 a3).trans h) (spec_l1Cur_spoilt.hdec r)
noncomputable def spec_l1Cur_spoilt.ctr (n : Nat) {R : Type} : List Go.Ab.AV → List Go.Ab.AObj → (Go.Ab.AV → List Go.Ab.AObj → Option R) → Option R
  | [Go.Ab.AV.ptr 0 0, Go.Ab.AV.str a4, Go.Ab.AV.str a5], [Go.Ab.AObj.cells Bool.true [Go.Ab.AV.sval a0 a1 Bool.false, Go.Ab.AV.int Go.IntKind.i64 a2, Go.Ab.AV.int Go.IntKind.u64 a3]], k => (spec_l1Cur_spoilt.f n a4 a5 a0 a1 a2 a3).bind fun r => k (Go.Ab.AV.str (r.1)) [Go.Ab.AObj.cells Bool.true [Go.Ab.AV.sval (r.2.1) (r.2.2.1) Bool.false, Go.Ab.AV.int Go.IntKind.i64 (r.2.2.2.1), Go.Ab.AV.int Go.IntKind.u64 (r.2.2.2.2)]]
  | _, _, _ => none
noncomputable def spec_l1Cur_spoilt.fits : List Go.Ab.AV → List Go.Ab.AObj → Bool
  | [Go.Ab.AV.ptr 0 0, Go.Ab.AV.str a4, Go.Ab.AV.str a5], [Go.Ab.AObj.cells Bool.true [Go.Ab.AV.sval a0 a1 Bool.false, Go.Ab.AV.int Go.IntKind.i64 a2, Go.Ab.AV.int Go.IntKind.u64 a3]] => true
  | _, _ => false
theorem spec_l1Cur_spoilt.ok (X : Wd) (n : Nat) {R : Type} (args : List Go.Ab.AV) (objs : List Go.Ab.AObj) (k : Go.Ab.AV → List Go.Ab.AObj → Option R) (r : R) (h : spec_l1Cur_spoilt.ctr n args objs k = some r) :
    Go.Ab.Enters Go.Proofs.Tryd.prog 63 ∧ ∃ v objs', Go.Ab.Sim (En X) 63 args objs v objs' ∧ k v objs' = some r := by
  unfold spec_l1Cur_spoilt.ctr at h
  split at h
  · obtain ⟨x, h1, h2⟩ := Option.bind_eq_some_iff.1 h
    exact ⟨⟨Go.Proofs.Tryd.f63, by kernel_rfl, by kernel_rfl, by kernel_rfl⟩, _, _, spec_l1Cur_spoilt.sim X n _ _ _ _ _ _ x h1, h2⟩
  · cases h

noncomputable def impl_AppendRecord.dec (v : Go.Ab.AV) (o : List Go.Ab.AObj) : Option (ByteArray × ByteArray × Int × Int) := match v, o with
  | Go.Ab.AV.tup [Go.Ab.AV.agg [Go.Ab.AV.str a5, Go.Ab.AV.str a6, Go.Ab.AV.int Go.IntKind.i64 a7], Go.Ab.AV.int Go.IntKind.i64 a8], [] => some (a5, a6, a7, a8)
  | _, _ => none
noncomputable def impl_AppendRecord.A : Go.Ab.Ann := { live := fun _ => [], out := fun _ => [], cut := fun _ => none }
noncomputable def impl_AppendRecord.G (n : Nat) {R : Type} : Go.Ab.Ctr R := fun g args objs k => match g with | 30 => impl_IsValidLog.ctr n args objs k | 28 => impl_IsValidRecord.ctr n args objs k | 22 => impl_EncodeRecord.ctr n args objs k | _ => none
noncomputable def impl_AppendRecord.B (i : Nat) : Go.Code := (Go.Ab.loopsOf (bodyOf Go.Proofs.Tryd.f26)).getD i Go.Code.skip
noncomputable def impl_AppendRecord.H (n : Nat) : Go.Ab.Hnd (ByteArray × ByteArray × Int × Int) := { loop := fun key _ v o K => none, cut := fun _ _ _ _ _ => none }
theorem impl_AppendRecord.loops (n0 : Nat) : ∀ b ∈ Go.Ab.loopsOf (bodyOf Go.Proofs.Tryd.f26), Go.Ab.LoopOk Go.Proofs.Tryd.prog (impl_AppendRecord.G n0) impl_AppendRecord.A (impl_AppendRecord.H n0) 40 0 b := Go.Ab.forall_nil (by kernel_rfl)
theorem impl_AppendRecord.cuts (n0 : Nat) : ∀ b ∈ Go.Ab.cutsOf impl_AppendRecord.A (bodyOf Go.Proofs.Tryd.f26), Go.Ab.CutOk Go.Proofs.Tryd.prog (impl_AppendRecord.G n0) impl_AppendRecord.A (impl_AppendRecord.H n0) 40 0 b := Go.Ab.forall_nil (by kernel_rfl)
theorem impl_AppendRecord.eq (n : Nat) (a0 : ByteArray) (a1 : ByteArray) (a2 : Int) (a3 : ByteArray) (a4 : ByteArray) : Go.Ab.funK Go.Proofs.Tryd.prog (impl_AppendRecord.G n) impl_AppendRecord.A (impl_AppendRecord.H n) false Go.Proofs.Tryd.f26 (bodyOf Go.Proofs.Tryd.f26) [Go.Ab.AV.agg [Go.Ab.AV.str a0, Go.Ab.AV.str a1, Go.Ab.AV.int Go.IntKind.i64 a2], Go.Ab.AV.agg [Go.Ab.AV.str a3, Go.Ab.AV.str a4]] [] impl_AppendRecord.dec = impl_AppendRecord.f n a0 a1 a2 a3 a4 := by kernel_rfl
theorem impl_AppendRecord.gok (X : Wd) (n : Nat) {R : Type} : Go.Ab.CtrOk (En X) (impl_AppendRecord.G n : Go.Ab.Ctr R) := by
  intro g args objs k r h
  unfold impl_AppendRecord.G at h
  split at h
  · exact impl_IsValidLog.ok X _ args objs k r h
  · exact impl_IsValidRecord.ok X _ args objs k r h
  · exact impl_EncodeRecord.ok X _ args objs k r h
  · cases h
theorem impl_AppendRecord.hdec (r : (ByteArray × ByteArray × Int × Int)) (v : Go.Ab.AV) (o : List Go.Ab.AObj) (h : impl_AppendRecord.dec v o = some r) : v = Go.Ab.AV.tup [Go.Ab.AV.agg [Go.Ab.AV.str (r.1), Go.Ab.AV.str (r.2.1), Go.Ab.AV.int Go.IntKind.i64 (r.2.2.1)], Go.Ab.AV.int Go.IntKind.i64 (r.2.2.2)] ∧ o = [] := by
  unfold impl_AppendRecord.dec at h
  split at h
  · cases h; exact ⟨rfl, rfl⟩
  · cases h
theorem impl_AppendRecord.sim (X : Wd) (n : Nat) (a0 : ByteArray) (a1 : ByteArray) (a2 : Int) (a3 : ByteArray) (a4 : ByteArray) (r : (ByteArray × ByteArray × Int × Int)) (h : impl_AppendRecord.f n a0 a1 a2 a3 a4 = some r) : Go.Ab.Sim (En X) 26 [Go.Ab.AV.agg [Go.Ab.AV.str a0, Go.Ab.AV.str a1, Go.Ab.AV.int Go.IntKind.i64 a2], Go.Ab.AV.agg [Go.Ab.AV.str a3, Go.Ab.AV.str a4]] [] (Go.Ab.AV.tup [Go.Ab.AV.agg [Go.Ab.AV.str (r.1), Go.Ab.AV.str (r.2.1), Go.Ab.AV.int Go.IntKind.i64 (r.2.2.1)], Go.Ab.AV.int Go.IntKind.i64 (r.2.2.2)]) [] :=
  Go.Ab.sim_of (E := En X) (impl_AppendRecord.gok X n) mix (fn := Go.Proofs.Tryd.f26) (c := (bodyOf Go.Proofs.Tryd.f26)) (by kernel_rfl) (by kernel_rfl) (by kernel_rfl) (impl_AppendRecord.loops n) (impl_AppendRecord.cuts n) ((impl_AppendRecord.eq n a0 a1 a2 a3 a4).trans h) (impl_AppendRecord.hdec r)
noncomputable def impl_AppendRecord.ctr (n : Nat) {R : Type} : List Go.Ab.AV → List Go.Ab.AObj → (Go.Ab.AV → List Go.Ab.AObj → Option R) → Option R
  | [Go.Ab.AV.agg [Go.Ab.AV.str a0, Go.Ab.AV.str a1, Go.Ab.AV.int Go.IntKind.i64 a2], Go.Ab.AV.agg [Go.Ab.AV.str a3, Go.Ab.AV.str a4]], [], k => (impl_AppendRecord.f n a0 a1 a2 a3 a4).bind fun r => k (Go.Ab.AV.tup [Go.Ab.AV.agg [Go.Ab.AV.str (r.1), Go.Ab.AV.str (r.2.1), Go.Ab.AV.int Go.IntKind.i64 (r.2.2.1)], Go.Ab.AV.int Go.IntKind.i64 (r.2.2.2)]) []
  | _, _, _ => none
noncomputable def impl_AppendRecord.fits : List Go.Ab.AV → List Go.Ab.AObj → Bool
  | [Go.Ab.AV.agg [Go.Ab.AV.str a0, Go.Ab.AV.str a1, Go.Ab.AV.int Go.IntKind.i64 a2], Go.Ab.AV.agg [Go.Ab.AV.str a3, Go.Ab.AV.str a4]], [] => true
  | _, _ => false
theorem impl_AppendRecord.ok (X : Wd) (n : Nat) {R : Type} (args : List Go.Ab.AV) (objs : List Go.Ab.AObj) (k : Go.Ab.AV → List Go.Ab.AObj → Option R) (r : R) (h : impl_AppendRecord.ctr n args objs k = some r) :
    Go.Ab.Enters Go.Proofs.Tryd.prog 26 ∧ ∃ v objs', Go.Ab.Sim (En X) 26 args objs v objs' ∧ k v objs' = some r := by
  unfold impl_AppendRecord.ctr at h
  split at h
  · obtain ⟨x, h1, h2⟩ := Option.bind_eq_some_iff.1 h
    exact ⟨⟨Go.Proofs.Tryd.f26, by kernel_rfl, by kernel_rfl, by kernel_rfl⟩, _, _, impl_AppendRecord.sim X n _ _ _ _ _ x h1, h2⟩
  · cases h

noncomputable def impl_SyncLog.dec (v : Go.Ab.AV) (o : List Go.Ab.AObj) : Option (ByteArray × ByteArray × Int × Bool) := match v, o with
  | Go.Ab.AV.tup [Go.Ab.AV.agg [Go.Ab.AV.str a3, Go.Ab.AV.str a4, Go.Ab.AV.int Go.IntKind.i64 a5], Go.Ab.AV.bool a6], [] => some (a3, a4, a5, a6)
  | _, _ => none
noncomputable def impl_SyncLog.A : Go.Ab.Ann := { live := fun _ => [], out := fun _ => [], cut := fun _ => none }
noncomputable def impl_SyncLog.G (n : Nat) {R : Type} : Go.Ab.Ctr R := fun g args objs k => match g with | 30 => impl_IsValidLog.ctr n args objs k | _ => none
noncomputable def impl_SyncLog.B (i : Nat) : Go.Code := (Go.Ab.loopsOf (bodyOf Go.Proofs.Tryd.f32)).getD i Go.Code.skip
noncomputable def impl_SyncLog.H (n : Nat) : Go.Ab.Hnd (ByteArray × ByteArray × Int × Bool) := { loop := fun key _ v o K => none, cut := fun _ _ _ _ _ => none }
theorem impl_SyncLog.loops (n0 : Nat) : ∀ b ∈ Go.Ab.loopsOf (bodyOf Go.Proofs.Tryd.f32), Go.Ab.LoopOk Go.Proofs.Tryd.prog (impl_SyncLog.G n0) impl_SyncLog.A (impl_SyncLog.H n0) 16 0 b := Go.Ab.forall_nil (by kernel_rfl)
theorem impl_SyncLog.cuts (n0 : Nat) : ∀ b ∈ Go.Ab.cutsOf impl_SyncLog.A (bodyOf Go.Proofs.Tryd.f32), Go.Ab.CutOk Go.Proofs.Tryd.prog (impl_SyncLog.G n0) impl_SyncLog.A (impl_SyncLog.H n0) 16 0 b := Go.Ab.forall_nil (by kernel_rfl)
theorem impl_SyncLog.eq (n : Nat) (a0 : ByteArray) (a1 : ByteArray) (a2 : Int) : Go.Ab.funK Go.Proofs.Tryd.prog (impl_SyncLog.G n) impl_SyncLog.A (impl_SyncLog.H n) false Go.Proofs.Tryd.f32 (bodyOf Go.Proofs.Tryd.f32) [Go.Ab.AV.agg [Go.Ab.AV.str a0, Go.Ab.AV.str a1, Go.Ab.AV.int Go.IntKind.i64 a2]] [] impl_SyncLog.dec = impl_SyncLog.f n a0 a1 a2 := by kernel_rfl
theorem impl_SyncLog.gok (X : Wd) (n : Nat) {R : Type} : Go.Ab.CtrOk (En X) (impl_SyncLog.G n : Go.Ab.Ctr R) := by
  intro g args objs k r h
  unfold impl_SyncLog.G at h
  split at h
  · exact impl_IsValidLog.ok X _ args objs k r h
  · cases h
theorem impl_SyncLog.hdec (r : (ByteArray × ByteArray × Int × Bool)) (v : Go.Ab.AV) (o : List Go.Ab.AObj) (h : impl_SyncLog.dec v o = some r) : v = Go.Ab.AV.tup [Go.Ab.AV.agg [Go.Ab.AV.str (r.1), Go.Ab.AV.str (r.2.1), Go.Ab.AV.int Go.IntKind.i64 (r.2.2.1)], Go.Ab.AV.bool (r.2.2.2)] ∧ o = [] := by
  unfold impl_SyncLog.dec at h
  split at h
  · cases h; exact ⟨rfl, rfl⟩
  · cases h
theorem impl_SyncLog.sim (X : Wd) (n : Nat) (a0 : ByteArray) (a1 : ByteArray) (a2 : Int) (r : (ByteArray × ByteArray × Int × Bool)) (h : impl_SyncLog.f n a0 a1 a2 = some r) : Go.Ab.Sim (En X) 32 [Go.Ab.AV.agg [Go.Ab.AV.str a0, Go.Ab.AV.str a1, Go.Ab.AV.int Go.IntKind.i64 a2]] [] (Go.Ab.AV.tup [Go.Ab.AV.agg [Go.Ab.AV.str (r.1), Go.Ab.AV.str (r.2.1), Go.Ab.AV.int Go.IntKind.i64 (r.2.2.1)], Go.Ab.AV.bool (r.2.2.2)]) [] :=
  Go.Ab.sim_of (E := En X) (impl_SyncLog.gok X n) mix (fn := Go.Proofs.Tryd.f32) (c := (bodyOf Go.Proofs.Tryd.f32)) (by kernel_rfl) (by kernel_rfl) (by kernel_rfl) (impl_SyncLog.loops n) (impl_SyncLog.cuts n) ((impl_SyncLog.eq n a0 a1 a2).trans h) (impl_SyncLog.hdec r)
noncomputable def impl_SyncLog.ctr (n : Nat) {R : Type} : List Go.Ab.AV → List Go.Ab.AObj → (Go.Ab.AV → List Go.Ab.AObj → Option R) → Option R
  | [Go.Ab.AV.agg [Go.Ab.AV.str a0, Go.Ab.AV.str a1, Go.Ab.AV.int Go.IntKind.i64 a2]], [], k => (impl_SyncLog.f n a0 a1 a2).bind fun r => k (Go.Ab.AV.tup [Go.Ab.AV.agg [Go.Ab.AV.str (r.1), Go.Ab.AV.str (r.2.1), Go.Ab.AV.int Go.IntKind.i64 (r.2.2.1)], Go.Ab.AV.bool (r.2.2.2)]) []
  | _, _, _ => none
noncomputable def impl_SyncLog.fits : List Go.Ab.AV → List Go.Ab.AObj → Bool
  | [Go.Ab.AV.agg [Go.Ab.AV.str a0, Go.Ab.AV.str a1, Go.Ab.AV.int Go.IntKind.i64 a2]], [] => true
  | _, _ => false
theorem impl_SyncLog.ok (X : Wd) (n : Nat) {R : Type} (args : List Go.Ab.AV) (objs : List Go.Ab.AObj) (k : Go.Ab.AV → List Go.Ab.AObj → Option R) (r : R) (h : impl_SyncLog.ctr n args objs k = some r) :
    Go.Ab.Enters Go.Proofs.Tryd.prog 32 ∧ ∃ v objs', Go.Ab.Sim (En X) 32 args objs v objs' ∧ k v objs' = some r := by
  unfold impl_SyncLog.ctr at h
  split at h
  · obtain ⟨x, h1, h2⟩ := Option.bind_eq_some_iff.1 h
    exact ⟨⟨Go.Proofs.Tryd.f32, by kernel_rfl, by kernel_rfl, by kernel_rfl⟩, _, _, impl_SyncLog.sim X n _ _ _ x h1, h2⟩
  · cases h

noncomputable def laws_vRecords.dec (v : Go.Ab.AV) (o : List Go.Ab.AObj) : Option Bool := match v, o with
  | Go.Ab.AV.bool a4, [] => some (a4)
  | _, _ => none
noncomputable def laws_vRecords.A : Go.Ab.Ann := { live := fun k => match k with | 4 => [0, 1, 5] | _ => [], out := fun k => match k with | 4 => [4] | _ => [], cut := fun _ => none }
noncomputable def laws_vRecords.G (n : Nat) {R : Type} : Go.Ab.Ctr R := fun g args objs k => none
noncomputable def laws_vRecords.B (i : Nat) : Go.Code := (Go.Ab.loopsOf (bodyOf Go.Proofs.Tryd.f34)).getD i Go.Code.skip
noncomputable def laws_vRecords.h4 (n : Nat) (v : List Go.Ab.AV) (o : List Go.Ab.AObj) (K : Go.Ab.Kont Bool) : Option Bool := match v, o with
  | [Go.Ab.AV.sval x18 x19 Bool.false, Go.Ab.AV.sval x20 x21 Bool.false, Go.Ab.AV.int Go.IntKind.i64 x22], [] => laws_vRecords.l4 n (fun y37 => K (Go.Ab.Ex.ret) [Go.Ab.AV.bool y37] []) (K (Go.Ab.Ex.exit 0) [Go.Ab.AV.undef] []) n x18 x19 x20 x21 x22
  | _, _ => none
noncomputable def laws_vRecords.H (n : Nat) : Go.Ab.Hnd Bool := { loop := fun key _ v o K => match key with | 4 => laws_vRecords.h4 n v o K | _ => none, cut := fun _ _ _ _ _ => none }
theorem laws_vRecords.loop4 (n0 : Nat) (K : Go.Ab.Kont Bool) : ∀ (n : Nat) (x18 : List Go.Ab.AV) (x19 : Nat) (x20 : List Go.Ab.AV) (x21 : Nat) (x22 : Int), Go.Ab.loopK 26 0 (laws_vRecords.A.live 4) (laws_vRecords.A.out 4) (fun t o k => Go.Ab.denK Go.Proofs.Tryd.prog (laws_vRecords.G n0) laws_vRecords.A (laws_vRecords.H n0) 26 0 (laws_vRecords.B 0) t o k) n [Go.Ab.AV.sval x18 x19 Bool.false, Go.Ab.AV.sval x20 x21 Bool.false, Go.Ab.AV.int Go.IntKind.i64 x22] [] K = laws_vRecords.l4 n0 (fun y37 => K (Go.Ab.Ex.ret) [Go.Ab.AV.bool y37] []) (K (Go.Ab.Ex.exit 0) [Go.Ab.AV.undef] []) n x18 x19 x20 x21 x22
  | 0, _, _, _, _, _ => rfl
  | n + 1, x18, x19, x20, x21, x22 => by
    have ih : (fun (x18 : List Go.Ab.AV) (x19 : Nat) (x20 : List Go.Ab.AV) (x21 : Nat) (x22 : Int) => Go.Ab.loopK 26 0 (laws_vRecords.A.live 4) (laws_vRecords.A.out 4) (fun t o k => Go.Ab.denK Go.Proofs.Tryd.prog (laws_vRecords.G n0) laws_vRecords.A (laws_vRecords.H n0) 26 0 (laws_vRecords.B 0) t o k) n [Go.Ab.AV.sval x18 x19 Bool.false, Go.Ab.AV.sval x20 x21 Bool.false, Go.Ab.AV.int Go.IntKind.i64 x22] [] K) = laws_vRecords.l4 n0 (fun y37 => K (Go.Ab.Ex.ret) [Go.Ab.AV.bool y37] []) (K (Go.Ab.Ex.exit 0) [Go.Ab.AV.undef] []) n := by funext x18 x19 x20 x21 x22; exact laws_vRecords.loop4 n0 K n x18 x19 x20 x21 x22
    have st : Go.Ab.loopK 26 0 (laws_vRecords.A.live 4) (laws_vRecords.A.out 4) (fun t o k => Go.Ab.denK Go.Proofs.Tryd.prog (laws_vRecords.G n0) laws_vRecords.A (laws_vRecords.H n0) 26 0 (laws_vRecords.B 0) t o k) (n + 1) [Go.Ab.AV.sval x18 x19 Bool.false, Go.Ab.AV.sval x20 x21 Bool.false, Go.Ab.AV.int Go.IntKind.i64 x22] [] K = laws_vRecords.l4S n0 (fun (x18 : List Go.Ab.AV) (x19 : Nat) (x20 : List Go.Ab.AV) (x21 : Nat) (x22 : Int) => Go.Ab.loopK 26 0 (laws_vRecords.A.live 4) (laws_vRecords.A.out 4) (fun t o k => Go.Ab.denK Go.Proofs.Tryd.prog (laws_vRecords.G n0) laws_vRecords.A (laws_vRecords.H n0) 26 0 (laws_vRecords.B 0) t o k) n [Go.Ab.AV.sval x18 x19 Bool.false, Go.Ab.AV.sval x20 x21 Bool.false, Go.Ab.AV.int Go.IntKind.i64 x22] [] K) (fun y37 => K (Go.Ab.Ex.ret) [Go.Ab.AV.bool y37] []) (K (Go.Ab.Ex.exit 0) [Go.Ab.AV.undef] []) x18 x19 x20 x21 x22 := by kernel_rfl
    rw [st, ih]; rfl
theorem laws_vRecords.lok4 (n0 : Nat) : Go.Ab.LoopOk Go.Proofs.Tryd.prog (laws_vRecords.G n0) laws_vRecords.A (laws_vRecords.H n0) 26 0 (laws_vRecords.B 0) := by
  intro v o K r h
  have hk : Go.Ab.key (laws_vRecords.B 0) = 4 := by kernel_rfl
  rw [hk] at h ⊢
  change laws_vRecords.h4 n0 v o K = some r at h
  unfold laws_vRecords.h4 at h
  split at h
  · exact ⟨n0, by rw [laws_vRecords.loop4]; exact h⟩
  · cases h
theorem laws_vRecords.loops (n0 : Nat) : ∀ b ∈ Go.Ab.loopsOf (bodyOf Go.Proofs.Tryd.f34), Go.Ab.LoopOk Go.Proofs.Tryd.prog (laws_vRecords.G n0) laws_vRecords.A (laws_vRecords.H n0) 26 0 b :=
  Go.Ab.forall_getD 1 (by kernel_rfl) Go.Code.skip fun i hi => match i, hi with
    | 0, _ => laws_vRecords.lok4 n0
    | j + 1, hj => absurd hj (by omega)
theorem laws_vRecords.cuts (n0 : Nat) : ∀ b ∈ Go.Ab.cutsOf laws_vRecords.A (bodyOf Go.Proofs.Tryd.f34), Go.Ab.CutOk Go.Proofs.Tryd.prog (laws_vRecords.G n0) laws_vRecords.A (laws_vRecords.H n0) 26 0 b := Go.Ab.forall_nil (by kernel_rfl)
theorem laws_vRecords.eq (n : Nat) (a0 : List Go.Ab.AV) (a1 : Nat) (a2 : List Go.Ab.AV) (a3 : Nat) : Go.Ab.funK Go.Proofs.Tryd.prog (laws_vRecords.G n) laws_vRecords.A (laws_vRecords.H n) false Go.Proofs.Tryd.f34 (bodyOf Go.Proofs.Tryd.f34) [Go.Ab.AV.sval a0 a1 Bool.false, Go.Ab.AV.sval a2 a3 Bool.false] [] laws_vRecords.dec = laws_vRecords.f n a0 a1 a2 a3 := by kernel_rfl
theorem laws_vRecords.gok (X : Wd) (n : Nat) {R : Type} : Go.Ab.CtrOk (En X) (laws_vRecords.G n : Go.Ab.Ctr R) := by
  intro g args objs k r h
  cases h
theorem laws_vRecords.hdec (r : Bool) (v : Go.Ab.AV) (o : List Go.Ab.AObj) (h : laws_vRecords.dec v o = some r) : v = Go.Ab.AV.bool (r) ∧ o = [] := by
  unfold laws_vRecords.dec at h
  split at h
  · cases h; exact ⟨rfl, rfl⟩
  · cases h
theorem laws_vRecords.sim (X : Wd) (n : Nat) (a0 : List Go.Ab.AV) (a1 : Nat) (a2 : List Go.Ab.AV) (a3 : Nat) (r : Bool) (h : laws_vRecords.f n a0 a1 a2 a3 = some r) : Go.Ab.Sim (En X) 34 [Go.Ab.AV.sval a0 a1 Bool.false, Go.Ab.AV.sval a2 a3 Bool.false] [] (Go.Ab.AV.bool (r)) [] :=
  Go.Ab.sim_of (E := En X) (laws_vRecords.gok X n) mix (fn := Go.Proofs.Tryd.f34) (c := (bodyOf Go.Proofs.Tryd.f34)) (by kernel_rfl) (by kernel_rfl) (by kernel_rfl) (laws_vRecords.loops n) (laws_vRecords.cuts n) ((laws_vRecords.eq n a0 a1 a2 a3).trans h) (laws_vRecords.hdec r)
noncomputable def laws_vRecords.ctr (n : Nat) {R : Type} : List Go.Ab.AV → List Go.Ab.AObj → (Go.Ab.AV → List Go.Ab.AObj → Option R) → Option R
  | [Go.Ab.AV.sval a0 a1 Bool.false, Go.Ab.AV.sval a2 a3 Bool.false], [], k => (laws_vRecords.f n a0 a1 a2 a3).bind fun r => k (Go.Ab.AV.bool (r)) []
  | _, _, _ => none
noncomputable def laws_vRecords.fits : List Go.Ab.AV → List Go.Ab.AObj → Bool
  | [Go.Ab.AV.sval a0 a1 Bool.false, Go.Ab.AV.sval a2 a3 Bool.false], [] => true
  | _, _ => false
theorem laws_vRecords.ok (X : Wd) (n : Nat) {R : Type} (args : List Go.Ab.AV) (objs : List Go.Ab.AObj) (k : Go.Ab.AV → List Go.Ab.AObj → Option R) (r : R) (h : laws_vRecords.ctr n args objs k = some r) :
    Go.Ab.Enters Go.Proofs.Tryd.prog 34 ∧ ∃ v objs', Go.Ab.Sim (En X) 34 args objs v objs' ∧ k v objs' = some r := by
  unfold laws_vRecords.ctr at h
  split at h
  · obtain ⟨x, h1, h2⟩ := Option.bind_eq_some_iff.1 h
    exact ⟨⟨Go.Proofs.Tryd.f34, by kernel_rfl, by kernel_rfl, by kernel_rfl⟩, _, _, laws_vRecords.sim X n _ _ _ _ x h1, h2⟩
  · cases h

noncomputable def impl_recordsOf_o.dec (v : Go.Ab.AV) (o : List Go.Ab.AObj) : Option (Nat × Nat × (List Go.Ab.AV) × (List Go.Ab.AV)) := match v, o with
  | Go.Ab.AV.tup [Go.Ab.AV.sref 0 0 a2 2, Go.Ab.AV.sref 1 0 a4 1], [Go.Ab.AObj.cells Bool.true a1, Go.Ab.AObj.cells Bool.true a3] => some (a2, a4, a1, a3)
  | _, _ => none
noncomputable def impl_recordsOf_o.A : Go.Ab.Ann := { live := fun k => match k with | 2 => [0, 4, 5, 6] | _ => [], out := fun k => match k with | 2 => [2, 3] | _ => [], cut := fun _ => none }
noncomputable def impl_recordsOf_o.G (n : Nat) {R : Type} : Go.Ab.Ctr R := fun g args objs k => match g with | 66 => impl_nextRecord.ctr n args objs k | _ => none
noncomputable def impl_recordsOf_o.B (i : Nat) : Go.Code := (Go.Ab.loopsOf (bodyOf Go.Proofs.Tryd.f43)).getD i Go.Code.skip
noncomputable def impl_recordsOf_o.h2 (n : Nat) (v : List Go.Ab.AV) (o : List Go.Ab.AObj) (K : Go.Ab.Kont (Nat × Nat × (List Go.Ab.AV) × (List Go.Ab.AV))) : Option (Nat × Nat × (List Go.Ab.AV) × (List Go.Ab.AV)) := match v, o with
  | [Go.Ab.AV.str x11, Go.Ab.AV.sref 0 0 x12 2, Go.Ab.AV.sref 1 0 x13 1, Go.Ab.AV.int Go.IntKind.i64 x14], [Go.Ab.AObj.cells Bool.true x15, Go.Ab.AObj.cells Bool.true x16] => impl_recordsOf_o.l2 n (fun y30 y31 y32 y33 => K (Go.Ab.Ex.ret) [Go.Ab.AV.sref 0 0 y30 2, Go.Ab.AV.sref 1 0 y31 1] [Go.Ab.AObj.cells Bool.true y32, Go.Ab.AObj.cells Bool.true y33]) n x11 x12 x13 x14 x15 x16
  | _, _ => none
noncomputable def impl_recordsOf_o.H (n : Nat) : Go.Ab.Hnd (Nat × Nat × (List Go.Ab.AV) × (List Go.Ab.AV)) := { loop := fun key _ v o K => match key with | 2 => impl_recordsOf_o.h2 n v o K | _ => none, cut := fun _ _ _ _ _ => none }
theorem impl_recordsOf_o.loop2 (n0 : Nat) (K : Go.Ab.Kont (Nat × Nat × (List Go.Ab.AV) × (List Go.Ab.AV))) : ∀ (n : Nat) (x11 : ByteArray) (x12 : Nat) (x13 : Nat) (x14 : Int) (x15 : List Go.Ab.AV) (x16 : List Go.Ab.AV), Go.Ab.loopK 38 0 (impl_recordsOf_o.A.live 2) (impl_recordsOf_o.A.out 2) (fun t o k => Go.Ab.denK Go.Proofs.Tryd.prog (impl_recordsOf_o.G n0) impl_recordsOf_o.A (impl_recordsOf_o.H n0) 38 0 (impl_recordsOf_o.B 0) t o k) n [Go.Ab.AV.str x11, Go.Ab.AV.sref 0 0 x12 2, Go.Ab.AV.sref 1 0 x13 1, Go.Ab.AV.int Go.IntKind.i64 x14] [Go.Ab.AObj.cells Bool.true x15, Go.Ab.AObj.cells Bool.true x16] K = impl_recordsOf_o.l2 n0 (fun y30 y31 y32 y33 => K (Go.Ab.Ex.ret) [Go.Ab.AV.sref 0 0 y30 2, Go.Ab.AV.sref 1 0 y31 1] [Go.Ab.AObj.cells Bool.true y32, Go.Ab.AObj.cells Bool.true y33]) n x11 x12 x13 x14 x15 x16
  | 0, _, _, _, _, _, _ => rfl
  | n + 1, x11, x12, x13, x14, x15, x16 => by
    have ih : (fun (x11 : ByteArray) (x12 : Nat) (x13 : Nat) (x14 : Int) (x15 : List Go.Ab.AV) (x16 : List Go.Ab.AV) => Go.Ab.loopK 38 0 (impl_recordsOf_o.A.live 2) (impl_recordsOf_o.A.out 2) (fun t o k => Go.Ab.denK Go.Proofs.Tryd.prog (impl_recordsOf_o.G n0) impl_recordsOf_o.A (impl_recordsOf_o.H n0) 38 0 (impl_recordsOf_o.B 0) t o k) n [Go.Ab.AV.str x11, Go.Ab.AV.sref 0 0 x12 2, Go.Ab.AV.sref 1 0 x13 1, Go.Ab.AV.int Go.IntKind.i64 x14] [Go.Ab.AObj.cells Bool.true x15, Go.Ab.AObj.cells Bool.true x16] K) = impl_recordsOf_o.l2 n0 (fun y30 y31 y32 y33 => K (Go.Ab.Ex.ret) [Go.Ab.AV.sref 0 0 y30 2, Go.Ab.AV.sref 1 0 y31 1] [Go.Ab.AObj.cells Bool.true y32, Go.Ab.AObj.cells Bool.true y33]) n := by funext x11 x12 x13 x14 x15 x16; exact impl_recordsOf_o.loop2 n0 K n x11 x12 x13 x14 x15 x16
    have st : Go.Ab.loopK 38 0 (impl_recordsOf_o.A.live 2) (impl_recordsOf_o.A.out 2) (fun t o k => Go.Ab.denK Go.Proofs.Tryd.prog (impl_recordsOf_o.G n0) impl_recordsOf_o.A (impl_recordsOf_o.H n0) 38 0 (impl_recordsOf_o.B 0) t o k) (n + 1) [Go.Ab.AV.str x11, Go.Ab.AV.sref 0 0 x12 2, Go.Ab.AV.sref 1 0 x13 1, Go.Ab.AV.int Go.IntKind.i64 x14] [Go.Ab.AObj.cells Bool.true x15, Go.Ab.AObj.cells Bool.true x16] K = impl_recordsOf_o.l2S n0 (fun (x11 : ByteArray) (x12 : Nat) (x13 : Nat) (x14 : Int) (x15 : List Go.Ab.AV) (x16 : List Go.Ab.AV) => Go.Ab.loopK 38 0 (impl_recordsOf_o.A.live 2) (impl_recordsOf_o.A.out 2) (fun t o k => Go.Ab.denK Go.Proofs.Tryd.prog (impl_recordsOf_o.G n0) impl_recordsOf_o.A (impl_recordsOf_o.H n0) 38 0 (impl_recordsOf_o.B 0) t o k) n [Go.Ab.AV.str x11, Go.Ab.AV.sref 0 0 x12 2, Go.Ab.AV.sref 1 0 x13 1, Go.Ab.AV.int Go.IntKind.i64 x14] [Go.Ab.AObj.cells Bool.true x15, Go.Ab.AObj.cells Bool.true x16] K) (fun y30 y31 y32 y33 => K (Go.Ab.Ex.ret) [Go.Ab.AV.sref 0 0 y30 2, Go.Ab.AV.sref 1 0 y31 1] [Go.Ab.AObj.cells Bool.true y32, Go.Ab.AObj.cells Bool.true y33]) x11 x12 x13 x14 x15 x16 := by kernel_rfl
    rw [st, ih]; rfl
theorem impl_recordsOf_o.lok2 (n0 : Nat) : Go.Ab.LoopOk Go.Proofs.Tryd.prog (impl_recordsOf_o.G n0) impl_recordsOf_o.A (impl_recordsOf_o.H n0) 38 0 (impl_recordsOf_o.B 0) := by
  intro v o K r h
  have hk : Go.Ab.key (impl_recordsOf_o.B 0) = 2 := by kernel_rfl
  rw [hk] at h ⊢
  change impl_recordsOf_o.h2 n0 v o K = some r at h
  unfold impl_recordsOf_o.h2 at h
  split at h
  · exact ⟨n0, by rw [impl_recordsOf_o.loop2]; exact h⟩
  · cases h
theorem impl_recordsOf_o.loops (n0 : Nat) : ∀ b ∈ Go.Ab.loopsOf (bodyOf Go.Proofs.Tryd.f43), Go.Ab.LoopOk Go.Proofs.Tryd.prog (impl_recordsOf_o.G n0) impl_recordsOf_o.A (impl_recordsOf_o.H n0) 38 0 b :=
  Go.Ab.forall_getD 1 (by kernel_rfl) Go.Code.skip fun i hi => match i, hi with
    | 0, _ => impl_recordsOf_o.lok2 n0
    | j + 1, hj => absurd hj (by omega)
theorem impl_recordsOf_o.cuts (n0 : Nat) : ∀ b ∈ Go.Ab.cutsOf impl_recordsOf_o.A (bodyOf Go.Proofs.Tryd.f43), Go.Ab.CutOk Go.Proofs.Tryd.prog (impl_recordsOf_o.G n0) impl_recordsOf_o.A (impl_recordsOf_o.H n0) 38 0 b := Go.Ab.forall_nil (by kernel_rfl)
theorem impl_recordsOf_o.eq (n : Nat) (a0 : ByteArray) : Go.Ab.funK Go.Proofs.Tryd.prog (impl_recordsOf_o.G n) impl_recordsOf_o.A (impl_recordsOf_o.H n) true Go.Proofs.Tryd.f43 (bodyOf Go.Proofs.Tryd.f43) [Go.Ab.AV.str a0] [] impl_recordsOf_o.dec = impl_recordsOf_o.f n a0 := by kernel_rfl
theorem impl_recordsOf_o.gok (X : Wd) (n : Nat) {R : Type} : Go.Ab.CtrOk (En X) (impl_recordsOf_o.G n : Go.Ab.Ctr R) := by
  intro g args objs k r h
  unfold impl_recordsOf_o.G at h
  split at h
  · exact impl_nextRecord.ok X _ args objs k r h
  · cases h
theorem impl_recordsOf_o.hdec (r : (Nat × Nat × (List Go.Ab.AV) × (List Go.Ab.AV))) (v : Go.Ab.AV) (o : List Go.Ab.AObj) (h : impl_recordsOf_o.dec v o = some r) : v = Go.Ab.AV.tup [Go.Ab.AV.sref 0 0 (r.1) 2, Go.Ab.AV.sref 1 0 (r.2.1) 1] ∧ o = [Go.Ab.AObj.cells Bool.true (r.2.2.1), Go.Ab.AObj.cells Bool.true (r.2.2.2)] := by
  unfold impl_recordsOf_o.dec at h
  split at h
  · cases h; exact ⟨rfl, rfl⟩
  · cases h
theorem impl_recordsOf_o.sim (X : Wd) (n : Nat) (a0 : ByteArray) (r : (Nat × Nat × (List Go.Ab.AV) × (List Go.Ab.AV))) (h : impl_recordsOf_o.f n a0 = some r) : Go.Ab.Sim (En X) 43 [Go.Ab.AV.str a0] [] (Go.Ab.AV.tup [Go.Ab.AV.sref 0 0 (r.1) 2, Go.Ab.AV.sref 1 0 (r.2.1) 1]) [Go.Ab.AObj.cells Bool.true (r.2.2.1), Go.Ab.AObj.cells Bool.true (r.2.2.2)] :=
  Go.Ab.sim_of (E := En X) (impl_recordsOf_o.gok X n) mix (fn := Go.Proofs.Tryd.f43) (c := (bodyOf Go.Proofs.Tryd.f43)) (by kernel_rfl) (by kernel_rfl) (by kernel_rfl) (impl_recordsOf_o.loops n) (impl_recordsOf_o.cuts n) ((impl_recordsOf_o.eq n a0).trans h) (impl_recordsOf_o.hdec r)
noncomputable def impl_recordsOf_o.ctr (n : Nat) {R : Type} : List Go.Ab.AV → List Go.Ab.AObj → (Go.Ab.AV → List Go.Ab.AObj → Option R) → Option R
  | [Go.Ab.AV.str a0], [], k => (impl_recordsOf_o.f n a0).bind fun r => k (Go.Ab.AV.tup [Go.Ab.AV.sref 0 0 (r.1) 2, Go.Ab.AV.sref 1 0 (r.2.1) 1]) [Go.Ab.AObj.cells Bool.true (r.2.2.1), Go.Ab.AObj.cells Bool.true (r.2.2.2)]
  | _, _, _ => none
noncomputable def impl_recordsOf_o.fits : List Go.Ab.AV → List Go.Ab.AObj → Bool
  | [Go.Ab.AV.str a0], [] => true
  | _, _ => false
theorem impl_recordsOf_o.ok (X : Wd) (n : Nat) {R : Type} (args : List Go.Ab.AV) (objs : List Go.Ab.AObj) (k : Go.Ab.AV → List Go.Ab.AObj → Option R) (r : R) (h : impl_recordsOf_o.ctr n args objs k = some r) :
    Go.Ab.Enters Go.Proofs.Tryd.prog 43 ∧ ∃ v objs', Go.Ab.Sim (En X) 43 args objs v objs' ∧ k v objs' = some r := by
  unfold impl_recordsOf_o.ctr at h
  split at h
  · obtain ⟨x, h1, h2⟩ := Option.bind_eq_some_iff.1 h
    exact ⟨⟨Go.Proofs.Tryd.f43, by kernel_rfl, by kernel_rfl, by kernel_rfl⟩, _, _, impl_recordsOf_o.sim X n _ x h1, h2⟩
  · cases h

noncomputable def impl_LogRecords_o.dec (v : Go.Ab.AV) (o : List Go.Ab.AObj) : Option (Sum ((Nat × Bool)) ((Nat × Bool × (List Go.Ab.AV)))) := match v, o with
  | Go.Ab.AV.tup [Go.Ab.AV.sval [] 0 Bool.false, Go.Ab.AV.bool a3], [] => some (Sum.inl (0, a3))
  | Go.Ab.AV.tup [Go.Ab.AV.sref 0 0 a4 2, Go.Ab.AV.bool a5], [Go.Ab.AObj.cells Bool.true a6] => some (Sum.inr (a4, a5, a6))
  | _, _ => none
noncomputable def impl_LogRecords_o.A : Go.Ab.Ann := { live := fun _ => [], out := fun _ => [], cut := fun _ => none }
noncomputable def impl_LogRecords_o.G (n : Nat) {R : Type} : Go.Ab.Ctr R := fun g args objs k => match g with | 30 => impl_IsValidLog.ctr n args objs k | 43 => impl_recordsOf_o.ctr n args objs k | _ => none
noncomputable def impl_LogRecords_o.B (i : Nat) : Go.Code := (Go.Ab.loopsOf (bodyOf Go.Proofs.Tryd.f10)).getD i Go.Code.skip
noncomputable def impl_LogRecords_o.H (n : Nat) : Go.Ab.Hnd (Sum ((Nat × Bool)) ((Nat × Bool × (List Go.Ab.AV)))) := { loop := fun key _ v o K => none, cut := fun _ _ _ _ _ => none }
theorem impl_LogRecords_o.loops (n0 : Nat) : ∀ b ∈ Go.Ab.loopsOf (bodyOf Go.Proofs.Tryd.f10), Go.Ab.LoopOk Go.Proofs.Tryd.prog (impl_LogRecords_o.G n0) impl_LogRecords_o.A (impl_LogRecords_o.H n0) 19 0 b := Go.Ab.forall_nil (by kernel_rfl)
theorem impl_LogRecords_o.cuts (n0 : Nat) : ∀ b ∈ Go.Ab.cutsOf impl_LogRecords_o.A (bodyOf Go.Proofs.Tryd.f10), Go.Ab.CutOk Go.Proofs.Tryd.prog (impl_LogRecords_o.G n0) impl_LogRecords_o.A (impl_LogRecords_o.H n0) 19 0 b := Go.Ab.forall_nil (by kernel_rfl)
theorem impl_LogRecords_o.eq (n : Nat) (a0 : ByteArray) (a1 : ByteArray) (a2 : Int) : Go.Ab.funK Go.Proofs.Tryd.prog (impl_LogRecords_o.G n) impl_LogRecords_o.A (impl_LogRecords_o.H n) true Go.Proofs.Tryd.f10 (bodyOf Go.Proofs.Tryd.f10) [Go.Ab.AV.agg [Go.Ab.AV.str a0, Go.Ab.AV.str a1, Go.Ab.AV.int Go.IntKind.i64 a2]] [] impl_LogRecords_o.dec = impl_LogRecords_o.f n a0 a1 a2 := by kernel_rfl
theorem impl_LogRecords_o.gok (X : Wd) (n : Nat) {R : Type} : Go.Ab.CtrOk (En X) (impl_LogRecords_o.G n : Go.Ab.Ctr R) := by
  intro g args objs k r h
  unfold impl_LogRecords_o.G at h
  split at h
  · exact impl_IsValidLog.ok X _ args objs k r h
  · exact impl_recordsOf_o.ok X _ args objs k r h
  · cases h
theorem impl_LogRecords_o.hdec (r : (Sum ((Nat × Bool)) ((Nat × Bool × (List Go.Ab.AV))))) (v : Go.Ab.AV) (o : List Go.Ab.AObj) (h : impl_LogRecords_o.dec v o = some r) : v = impl_LogRecords_o.V r ∧ o = impl_LogRecords_o.O r := by
  unfold impl_LogRecords_o.dec at h
  split at h
  · cases h; exact ⟨rfl, rfl⟩
  · cases h; exact ⟨rfl, rfl⟩
  · cases h
theorem impl_LogRecords_o.sim (X : Wd) (n : Nat) (a0 : ByteArray) (a1 : ByteArray) (a2 : Int) (r : (Sum ((Nat × Bool)) ((Nat × Bool × (List Go.Ab.AV))))) (h : impl_LogRecords_o.f n a0 a1 a2 = some r) : Go.Ab.Sim (En X) 10 [Go.Ab.AV.agg [Go.Ab.AV.str a0, Go.Ab.AV.str a1, Go.Ab.AV.int Go.IntKind.i64 a2]] [] (impl_LogRecords_o.V r) (impl_LogRecords_o.O r) :=
  Go.Ab.sim_of (E := En X) (impl_LogRecords_o.gok X n) mix (fn := Go.Proofs.Tryd.f10) (c := (bodyOf Go.Proofs.Tryd.f10)) (by kernel_rfl) (by kernel_rfl) (by kernel_rfl) (impl_LogRecords_o.loops n) (impl_LogRecords_o.cuts n) ((impl_LogRecords_o.eq n a0 a1 a2).trans h) (impl_LogRecords_o.hdec r)
noncomputable def impl_LogRecords_o.ctr (n : Nat) {R : Type} : List Go.Ab.AV → List Go.Ab.AObj → (Go.Ab.AV → List Go.Ab.AObj → Option R) → Option R
  | [Go.Ab.AV.agg [Go.Ab.AV.str a0, Go.Ab.AV.str a1, Go.Ab.AV.int Go.IntKind.i64 a2]], [], k => (impl_LogRecords_o.f n a0 a1 a2).bind fun r => Sum.elim (fun r => k (Go.Ab.AV.tup [Go.Ab.AV.sval [] (r.1) Bool.false, Go.Ab.AV.bool (r.2)]) []) (fun r => k (Go.Ab.AV.tup [Go.Ab.AV.sref 0 0 (r.1) 2, Go.Ab.AV.bool (r.2.1)]) [Go.Ab.AObj.cells Bool.true (r.2.2)]) r
  | _, _, _ => none
noncomputable def impl_LogRecords_o.fits : List Go.Ab.AV → List Go.Ab.AObj → Bool
  | [Go.Ab.AV.agg [Go.Ab.AV.str a0, Go.Ab.AV.str a1, Go.Ab.AV.int Go.IntKind.i64 a2]], [] => true
  | _, _ => false
theorem impl_LogRecords_o.ok (X : Wd) (n : Nat) {R : Type} (args : List Go.Ab.AV) (objs : List Go.Ab.AObj) (k : Go.Ab.AV → List Go.Ab.AObj → Option R) (r : R) (h : impl_LogRecords_o.ctr n args objs k = some r) :
    Go.Ab.Enters Go.Proofs.Tryd.prog 10 ∧ ∃ v objs', Go.Ab.Sim (En X) 10 args objs v objs' ∧ k v objs' = some r := by
  unfold impl_LogRecords_o.ctr at h
  split at h
  · obtain ⟨x, h1, h2⟩ := Option.bind_eq_some_iff.1 h
    rcases x with x | x
    · exact ⟨⟨Go.Proofs.Tryd.f10, by kernel_rfl, by kernel_rfl, by kernel_rfl⟩, _, _, impl_LogRecords_o.sim X n _ _ _ (.inl x) h1, h2⟩
    · exact ⟨⟨Go.Proofs.Tryd.f10, by kernel_rfl, by kernel_rfl, by kernel_rfl⟩, _, _, impl_LogRecords_o.sim X n _ _ _ (.inr x) h1, h2⟩
  · cases h

noncomputable def laws_eqLogRecordS_v1.dec (v : Go.Ab.AV) (o : List Go.Ab.AObj) : Option (Bool × (List Go.Ab.AV)) := match v, o with
  | Go.Ab.AV.bool a4, [Go.Ab.AObj.cells Bool.true a5] => some (a4, a5)
  | _, _ => none
noncomputable def laws_eqLogRecordS_v1.A : Go.Ab.Ann := { live := fun k => match k with | 4 => [0, 1, 5] | _ => [], out := fun k => match k with | 4 => [4] | _ => [], cut := fun _ => none }
noncomputable def laws_eqLogRecordS_v1.G (n : Nat) {R : Type} : Go.Ab.Ctr R := fun g args objs k => match g with | 44 => laws_eqLogRecord.ctr n args objs k | _ => none
noncomputable def laws_eqLogRecordS_v1.B (i : Nat) : Go.Code := (Go.Ab.loopsOf (bodyOf Go.Proofs.Tryd.f11)).getD i Go.Code.skip
noncomputable def laws_eqLogRecordS_v1.h4 (n : Nat) (v : List Go.Ab.AV) (o : List Go.Ab.AObj) (K : Go.Ab.Kont (Bool × (List Go.Ab.AV))) : Option (Bool × (List Go.Ab.AV)) := match v, o with
  | [Go.Ab.AV.sref 0 0 x15 2, Go.Ab.AV.sval x16 x17 Bool.false, Go.Ab.AV.int Go.IntKind.i64 x18], [Go.Ab.AObj.cells Bool.true x19] => laws_eqLogRecordS_v1.l4 n (fun y37 y38 => K (Go.Ab.Ex.ret) [Go.Ab.AV.bool y37] [Go.Ab.AObj.cells Bool.true y38]) (fun y37 => K (Go.Ab.Ex.exit 0) [Go.Ab.AV.undef] [Go.Ab.AObj.cells Bool.true y37]) n x15 x16 x17 x18 x19
  | _, _ => none
noncomputable def laws_eqLogRecordS_v1.H (n : Nat) : Go.Ab.Hnd (Bool × (List Go.Ab.AV)) := { loop := fun key _ v o K => match key with | 4 => laws_eqLogRecordS_v1.h4 n v o K | _ => none, cut := fun _ _ _ _ _ => none }
theorem laws_eqLogRecordS_v1.loop4 (n0 : Nat) (K : Go.Ab.Kont (Bool × (List Go.Ab.AV))) : ∀ (n : Nat) (x15 : Nat) (x16 : List Go.Ab.AV) (x17 : Nat) (x18 : Int) (x19 : List Go.Ab.AV), Go.Ab.loopK 27 1 (laws_eqLogRecordS_v1.A.live 4) (laws_eqLogRecordS_v1.A.out 4) (fun t o k => Go.Ab.denK Go.Proofs.Tryd.prog (laws_eqLogRecordS_v1.G n0) laws_eqLogRecordS_v1.A (laws_eqLogRecordS_v1.H n0) 27 1 (laws_eqLogRecordS_v1.B 0) t o k) n [Go.Ab.AV.sref 0 0 x15 2, Go.Ab.AV.sval x16 x17 Bool.false, Go.Ab.AV.int Go.IntKind.i64 x18] [Go.Ab.AObj.cells Bool.true x19] K = laws_eqLogRecordS_v1.l4 n0 (fun y37 y38 => K (Go.Ab.Ex.ret) [Go.Ab.AV.bool y37] [Go.Ab.AObj.cells Bool.true y38]) (fun y37 => K (Go.Ab.Ex.exit 0) [Go.Ab.AV.undef] [Go.Ab.AObj.cells Bool.true y37]) n x15 x16 x17 x18 x19
  | 0, _, _, _, _, _ => rfl
  | n + 1, x15, x16, x17, x18, x19 => by
    have ih : (fun (x15 : Nat) (x16 : List Go.Ab.AV) (x17 : Nat) (x18 : Int) (x19 : List Go.Ab.AV) => Go.Ab.loopK 27 1 (laws_eqLogRecordS_v1.A.live 4) (laws_eqLogRecordS_v1.A.out 4) (fun t o k => Go.Ab.denK Go.Proofs.Tryd.prog (laws_eqLogRecordS_v1.G n0) laws_eqLogRecordS_v1.A (laws_eqLogRecordS_v1.H n0) 27 1 (laws_eqLogRecordS_v1.B 0) t o k) n [Go.Ab.AV.sref 0 0 x15 2, Go.Ab.AV.sval x16 x17 Bool.false, Go.Ab.AV.int Go.IntKind.i64 x18] [Go.Ab.AObj.cells Bool.true x19] K) = laws_eqLogRecordS_v1.l4 n0 (fun y37 y38 => K (Go.Ab.Ex.ret) [Go.Ab.AV.bool y37] [Go.Ab.AObj.cells Bool.true y38]) (fun y37 => K (Go.Ab.Ex.exit 0) [Go.Ab.AV.undef] [Go.Ab.AObj.cells Bool.true y37]) n := by funext x15 x16 x17 x18 x19; exact laws_eqLogRecordS_v1.loop4 n0 K n x15 x16 x17 x18 x19
    have st : Go.Ab.loopK 27 1 (laws_eqLogRecordS_v1.A.live 4) (laws_eqLogRecordS_v1.A.out 4) (fun t o k => Go.Ab.denK Go.Proofs.Tryd.prog (laws_eqLogRecordS_v1.G n0) laws_eqLogRecordS_v1.A (laws_eqLogRecordS_v1.H n0) 27 1 (laws_eqLogRecordS_v1.B 0) t o k) (n + 1) [Go.Ab.AV.sref 0 0 x15 2, Go.Ab.AV.sval x16 x17 Bool.false, Go.Ab.AV.int Go.IntKind.i64 x18] [Go.Ab.AObj.cells Bool.true x19] K = laws_eqLogRecordS_v1.l4S n0 (fun (x15 : Nat) (x16 : List Go.Ab.AV) (x17 : Nat) (x18 : Int) (x19 : List Go.Ab.AV) => Go.Ab.loopK 27 1 (laws_eqLogRecordS_v1.A.live 4) (laws_eqLogRecordS_v1.A.out 4) (fun t o k => Go.Ab.denK Go.Proofs.Tryd.prog (laws_eqLogRecordS_v1.G n0) laws_eqLogRecordS_v1.A (laws_eqLogRecordS_v1.H n0) 27 1 (laws_eqLogRecordS_v1.B 0) t o k) n [Go.Ab.AV.sref 0 0 x15 2, Go.Ab.AV.sval x16 x17 Bool.false, Go.Ab.AV.int Go.IntKind.i64 x18] [Go.Ab.AObj.cells Bool.true x19] K) (fun y37 y38 => K (Go.Ab.Ex.ret) [Go.Ab.AV.bool y37] [Go.Ab.AObj.cells Bool.true y38]) (fun y37 => K (Go.Ab.Ex.exit 0) [Go.Ab.AV.undef] [Go.Ab.AObj.cells Bool.true y37]) x15 x16 x17 x18 x19 := by kernel_rfl
    rw [st, ih]; rfl
theorem laws_eqLogRecordS_v1.lok4 (n0 : Nat) : Go.Ab.LoopOk Go.Proofs.Tryd.prog (laws_eqLogRecordS_v1.G n0) laws_eqLogRecordS_v1.A (laws_eqLogRecordS_v1.H n0) 27 1 (laws_eqLogRecordS_v1.B 0) := by
  intro v o K r h
  have hk : Go.Ab.key (laws_eqLogRecordS_v1.B 0) = 4 := by kernel_rfl
  rw [hk] at h ⊢
  change laws_eqLogRecordS_v1.h4 n0 v o K = some r at h
  unfold laws_eqLogRecordS_v1.h4 at h
  split at h
  · exact ⟨n0, by rw [laws_eqLogRecordS_v1.loop4]; exact h⟩
  · cases h
theorem laws_eqLogRecordS_v1.loops (n0 : Nat) : ∀ b ∈ Go.Ab.loopsOf (bodyOf Go.Proofs.Tryd.f11), Go.Ab.LoopOk Go.Proofs.Tryd.prog (laws_eqLogRecordS_v1.G n0) laws_eqLogRecordS_v1.A (laws_eqLogRecordS_v1.H n0) 27 1 b :=
  Go.Ab.forall_getD 1 (by kernel_rfl) Go.Code.skip fun i hi => match i, hi with
    | 0, _ => laws_eqLogRecordS_v1.lok4 n0
    | j + 1, hj => absurd hj (by omega)
theorem laws_eqLogRecordS_v1.cuts (n0 : Nat) : ∀ b ∈ Go.Ab.cutsOf laws_eqLogRecordS_v1.A (bodyOf Go.Proofs.Tryd.f11), Go.Ab.CutOk Go.Proofs.Tryd.prog (laws_eqLogRecordS_v1.G n0) laws_eqLogRecordS_v1.A (laws_eqLogRecordS_v1.H n0) 27 1 b := Go.Ab.forall_nil (by kernel_rfl)
theorem laws_eqLogRecordS_v1.eq (n : Nat) (a0 : Nat) (a1 : List Go.Ab.AV) (a2 : Nat) (a3 : List Go.Ab.AV) : Go.Ab.funK Go.Proofs.Tryd.prog (laws_eqLogRecordS_v1.G n) laws_eqLogRecordS_v1.A (laws_eqLogRecordS_v1.H n) false Go.Proofs.Tryd.f11 (bodyOf Go.Proofs.Tryd.f11) [Go.Ab.AV.sref 0 0 a0 2, Go.Ab.AV.sval a1 a2 Bool.false] [Go.Ab.AObj.cells Bool.true a3] laws_eqLogRecordS_v1.dec = laws_eqLogRecordS_v1.f n a0 a1 a2 a3 := by kernel_rfl
theorem laws_eqLogRecordS_v1.gok (X : Wd) (n : Nat) {R : Type} : Go.Ab.CtrOk (En X) (laws_eqLogRecordS_v1.G n : Go.Ab.Ctr R) := by
  intro g args objs k r h
  unfold laws_eqLogRecordS_v1.G at h
  split at h
  · exact laws_eqLogRecord.ok X _ args objs k r h
  · cases h
theorem laws_eqLogRecordS_v1.hdec (r : (Bool × (List Go.Ab.AV))) (v : Go.Ab.AV) (o : List Go.Ab.AObj) (h : laws_eqLogRecordS_v1.dec v o = some r) : v = Go.Ab.AV.bool (r.1) ∧ o = [Go.Ab.AObj.cells Bool.true (r.2)] := by
  unfold laws_eqLogRecordS_v1.dec at h
  split at h
  · cases h; exact ⟨rfl, rfl⟩
  · cases h
theorem laws_eqLogRecordS_v1.sim (X : Wd) (n : Nat) (a0 : Nat) (a1 : List Go.Ab.AV) (a2 : Nat) (a3 : List Go.Ab.AV) (r : (Bool × (List Go.Ab.AV))) (h : laws_eqLogRecordS_v1.f n a0 a1 a2 a3 = some r) : Go.Ab.Sim (En X) 11 [Go.Ab.AV.sref 0 0 a0 2, Go.Ab.AV.sval a1 a2 Bool.false] [Go.Ab.AObj.cells Bool.true a3] (Go.Ab.AV.bool (r.1)) [Go.Ab.AObj.cells Bool.true (r.2)] :=
  Go.Ab.sim_of (E := En X) (laws_eqLogRecordS_v1.gok X n) mix (fn := Go.Proofs.Tryd.f11) (c := (bodyOf Go.Proofs.Tryd.f11)) (by kernel_rfl) (by kernel_rfl) (by kernel_rfl) (laws_eqLogRecordS_v1.loops n) (laws_eqLogRecordS_v1.cuts n) ((laws_eqLogRecordS_v1.eq n a0 a1 a2 a3).trans h) (laws_eqLogRecordS_v1.hdec r)
noncomputable def laws_eqLogRecordS_v1.ctr (n : Nat) {R : Type} : List Go.Ab.AV → List Go.Ab.AObj → (Go.Ab.AV → List Go.Ab.AObj → Option R) → Option R
  | [Go.Ab.AV.sref 0 0 a0 2, Go.Ab.AV.sval a1 a2 Bool.false], [Go.Ab.AObj.cells Bool.true a3], k => (laws_eqLogRecordS_v1.f n a0 a1 a2 a3).bind fun r => k (Go.Ab.AV.bool (r.1)) [Go.Ab.AObj.cells Bool.true (r.2)]
  | _, _, _ => none
noncomputable def laws_eqLogRecordS_v1.fits : List Go.Ab.AV → List Go.Ab.AObj → Bool
  | [Go.Ab.AV.sref 0 0 a0 2, Go.Ab.AV.sval a1 a2 Bool.false], [Go.Ab.AObj.cells Bool.true a3] => true
  | _, _ => false
theorem laws_eqLogRecordS_v1.ok (X : Wd) (n : Nat) {R : Type} (args : List Go.Ab.AV) (objs : List Go.Ab.AObj) (k : Go.Ab.AV → List Go.Ab.AObj → Option R) (r : R) (h : laws_eqLogRecordS_v1.ctr n args objs k = some r) :
    Go.Ab.Enters Go.Proofs.Tryd.prog 11 ∧ ∃ v objs', Go.Ab.Sim (En X) 11 args objs v objs' ∧ k v objs' = some r := by
  unfold laws_eqLogRecordS_v1.ctr at h
  split at h
  · obtain ⟨x, h1, h2⟩ := Option.bind_eq_some_iff.1 h
    exact ⟨⟨Go.Proofs.Tryd.f11, by kernel_rfl, by kernel_rfl, by kernel_rfl⟩, _, _, laws_eqLogRecordS_v1.sim X n _ _ _ _ x h1, h2⟩
  · cases h

noncomputable def laws_markLogRecordS_v1.dec (v : Go.Ab.AV) (o : List Go.Ab.AObj) : Option (Int × (List Go.Ab.AV)) := match v, o with
  | Go.Ab.AV.int Go.IntKind.i64 a3, [Go.Ab.AObj.cells Bool.true a4] => some (a3, a4)
  | _, _ => none
noncomputable def laws_markLogRecordS_v1.A : Go.Ab.Ann := { live := fun k => match k with | 2 => [0, 1, 5] | _ => [], out := fun k => match k with | 2 => [1] | _ => [], cut := fun _ => none }
noncomputable def laws_markLogRecordS_v1.G (n : Nat) {R : Type} : Go.Ab.Ctr R := fun g args objs k => match g with | 45 => laws_markText.ctr n args objs k | _ => none
noncomputable def laws_markLogRecordS_v1.B (i : Nat) : Go.Code := (Go.Ab.loopsOf (bodyOf Go.Proofs.Tryd.f12)).getD i Go.Code.skip
noncomputable def laws_markLogRecordS_v1.h2 (n : Nat) (v : List Go.Ab.AV) (o : List Go.Ab.AObj) (K : Go.Ab.Kont (Int × (List Go.Ab.AV))) : Option (Int × (List Go.Ab.AV)) := match v, o with
  | [Go.Ab.AV.sref 0 0 x11 2, Go.Ab.AV.int Go.IntKind.i64 x12, Go.Ab.AV.int Go.IntKind.i64 x13], [Go.Ab.AObj.cells Bool.true x14] => laws_markLogRecordS_v1.l2 n (fun y29 y30 => K (Go.Ab.Ex.exit 0) [Go.Ab.AV.int Go.IntKind.i64 y29] [Go.Ab.AObj.cells Bool.true y30]) n x11 x12 x13 x14
  | _, _ => none
noncomputable def laws_markLogRecordS_v1.H (n : Nat) : Go.Ab.Hnd (Int × (List Go.Ab.AV)) := { loop := fun key _ v o K => match key with | 2 => laws_markLogRecordS_v1.h2 n v o K | _ => none, cut := fun _ _ _ _ _ => none }
theorem laws_markLogRecordS_v1.loop2 (n0 : Nat) (K : Go.Ab.Kont (Int × (List Go.Ab.AV))) : ∀ (n : Nat) (x11 : Nat) (x12 : Int) (x13 : Int) (x14 : List Go.Ab.AV), Go.Ab.loopK 29 1 (laws_markLogRecordS_v1.A.live 2) (laws_markLogRecordS_v1.A.out 2) (fun t o k => Go.Ab.denK Go.Proofs.Tryd.prog (laws_markLogRecordS_v1.G n0) laws_markLogRecordS_v1.A (laws_markLogRecordS_v1.H n0) 29 1 (laws_markLogRecordS_v1.B 0) t o k) n [Go.Ab.AV.sref 0 0 x11 2, Go.Ab.AV.int Go.IntKind.i64 x12, Go.Ab.AV.int Go.IntKind.i64 x13] [Go.Ab.AObj.cells Bool.true x14] K = laws_markLogRecordS_v1.l2 n0 (fun y29 y30 => K (Go.Ab.Ex.exit 0) [Go.Ab.AV.int Go.IntKind.i64 y29] [Go.Ab.AObj.cells Bool.true y30]) n x11 x12 x13 x14
  | 0, _, _, _, _ => rfl
  | n + 1, x11, x12, x13, x14 => by
    have ih : (fun (x11 : Nat) (x12 : Int) (x13 : Int) (x14 : List Go.Ab.AV) => Go.Ab.loopK 29 1 (laws_markLogRecordS_v1.A.live 2) (laws_markLogRecordS_v1.A.out 2) (fun t o k => Go.Ab.denK Go.Proofs.Tryd.prog (laws_markLogRecordS_v1.G n0) laws_markLogRecordS_v1.A (laws_markLogRecordS_v1.H n0) 29 1 (laws_markLogRecordS_v1.B 0) t o k) n [Go.Ab.AV.sref 0 0 x11 2, Go.Ab.AV.int Go.IntKind.i64 x12, Go.Ab.AV.int Go.IntKind.i64 x13] [Go.Ab.AObj.cells Bool.true x14] K) = laws_markLogRecordS_v1.l2 n0 (fun y29 y30 => K (Go.Ab.Ex.exit 0) [Go.Ab.AV.int Go.IntKind.i64 y29] [Go.Ab.AObj.cells Bool.true y30]) n := by funext x11 x12 x13 x14; exact laws_markLogRecordS_v1.loop2 n0 K n x11 x12 x13 x14
    have st : Go.Ab.loopK 29 1 (laws_markLogRecordS_v1.A.live 2) (laws_markLogRecordS_v1.A.out 2) (fun t o k => Go.Ab.denK Go.Proofs.Tryd.prog (laws_markLogRecordS_v1.G n0) laws_markLogRecordS_v1.A (laws_markLogRecordS_v1.H n0) 29 1 (laws_markLogRecordS_v1.B 0) t o k) (n + 1) [Go.Ab.AV.sref 0 0 x11 2, Go.Ab.AV.int Go.IntKind.i64 x12, Go.Ab.AV.int Go.IntKind.i64 x13] [Go.Ab.AObj.cells Bool.true x14] K = laws_markLogRecordS_v1.l2S n0 (fun (x11 : Nat) (x12 : Int) (x13 : Int) (x14 : List Go.Ab.AV) => Go.Ab.loopK 29 1 (laws_markLogRecordS_v1.A.live 2) (laws_markLogRecordS_v1.A.out 2) (fun t o k => Go.Ab.denK Go.Proofs.Tryd.prog (laws_markLogRecordS_v1.G n0) laws_markLogRecordS_v1.A (laws_markLogRecordS_v1.H n0) 29 1 (laws_markLogRecordS_v1.B 0) t o k) n [Go.Ab.AV.sref 0 0 x11 2, Go.Ab.AV.int Go.IntKind.i64 x12, Go.Ab.AV.int Go.IntKind.i64 x13] [Go.Ab.AObj.cells Bool.true x14] K) (fun y29 y30 => K (Go.Ab.Ex.exit 0) [Go.Ab.AV.int Go.IntKind.i64 y29] [Go.Ab.AObj.cells Bool.true y30]) x11 x12 x13 x14 := by kernel_rfl
    rw [st, ih]; rfl
theorem laws_markLogRecordS_v1.lok2 (n0 : Nat) : Go.Ab.LoopOk Go.Proofs.Tryd.prog (laws_markLogRecordS_v1.G n0) laws_markLogRecordS_v1.A (laws_markLogRecordS_v1.H n0) 29 1 (laws_markLogRecordS_v1.B 0) := by
  intro v o K r h
  have hk : Go.Ab.key (laws_markLogRecordS_v1.B 0) = 2 := by kernel_rfl
  rw [hk] at h ⊢
  change laws_markLogRecordS_v1.h2 n0 v o K = some r at h
  unfold laws_markLogRecordS_v1.h2 at h
  split at h
  · exact ⟨n0, by rw [laws_markLogRecordS_v1.loop2]; exact h⟩
  · cases h
theorem laws_markLogRecordS_v1.loops (n0 : Nat) : ∀ b ∈ Go.Ab.loopsOf (bodyOf Go.Proofs.Tryd.f12), Go.Ab.LoopOk Go.Proofs.Tryd.prog (laws_markLogRecordS_v1.G n0) laws_markLogRecordS_v1.A (laws_markLogRecordS_v1.H n0) 29 1 b :=
  Go.Ab.forall_getD 1 (by kernel_rfl) Go.Code.skip fun i hi => match i, hi with
    | 0, _ => laws_markLogRecordS_v1.lok2 n0
    | j + 1, hj => absurd hj (by omega)
theorem laws_markLogRecordS_v1.cuts (n0 : Nat) : ∀ b ∈ Go.Ab.cutsOf laws_markLogRecordS_v1.A (bodyOf Go.Proofs.Tryd.f12), Go.Ab.CutOk Go.Proofs.Tryd.prog (laws_markLogRecordS_v1.G n0) laws_markLogRecordS_v1.A (laws_markLogRecordS_v1.H n0) 29 1 b := Go.Ab.forall_nil (by kernel_rfl)
theorem laws_markLogRecordS_v1.eq (n : Nat) (a0 : Nat) (a1 : Int) (a2 : List Go.Ab.AV) : Go.Ab.funK Go.Proofs.Tryd.prog (laws_markLogRecordS_v1.G n) laws_markLogRecordS_v1.A (laws_markLogRecordS_v1.H n) false Go.Proofs.Tryd.f12 (bodyOf Go.Proofs.Tryd.f12) [Go.Ab.AV.sref 0 0 a0 2, Go.Ab.AV.int Go.IntKind.i64 a1] [Go.Ab.AObj.cells Bool.true a2] laws_markLogRecordS_v1.dec = laws_markLogRecordS_v1.f n a0 a1 a2 := by kernel_rfl
theorem laws_markLogRecordS_v1.gok (X : Wd) (n : Nat) {R : Type} : Go.Ab.CtrOk (En X) (laws_markLogRecordS_v1.G n : Go.Ab.Ctr R) := by
  intro g args objs k r h
  unfold laws_markLogRecordS_v1.G at h
  split at h
  · exact laws_markText.ok X _ args objs k r h
  · cases h
theorem laws_markLogRecordS_v1.hdec (r : (Int × (List Go.Ab.AV))) (v : Go.Ab.AV) (o : List Go.Ab.AObj) (h : laws_markLogRecordS_v1.dec v o = some r) : v = Go.Ab.AV.int Go.IntKind.i64 (r.1) ∧ o = [Go.Ab.AObj.cells Bool.true (r.2)] := by
  unfold laws_markLogRecordS_v1.dec at h
  split at h
  · cases h; exact ⟨rfl, rfl⟩
  · cases h
theorem laws_markLogRecordS_v1.sim (X : Wd) (n : Nat) (a0 : Nat) (a1 : Int) (a2 : List Go.Ab.AV) (r : (Int × (List Go.Ab.AV))) (h : laws_markLogRecordS_v1.f n a0 a1 a2 = some r) : Go.Ab.Sim (En X) 12 [Go.Ab.AV.sref 0 0 a0 2, Go.Ab.AV.int Go.IntKind.i64 a1] [Go.Ab.AObj.cells Bool.true a2] (Go.Ab.AV.int Go.IntKind.i64 (r.1)) [Go.Ab.AObj.cells Bool.true (r.2)] :=
  Go.Ab.sim_of (E := En X) (laws_markLogRecordS_v1.gok X n) mix (fn := Go.Proofs.Tryd.f12) (c := (bodyOf Go.Proofs.Tryd.f12)) (by kernel_rfl) (by kernel_rfl) (by kernel_rfl) (laws_markLogRecordS_v1.loops n) (laws_markLogRecordS_v1.cuts n) ((laws_markLogRecordS_v1.eq n a0 a1 a2).trans h) (laws_markLogRecordS_v1.hdec r)
noncomputable def laws_markLogRecordS_v1.ctr (n : Nat) {R : Type} : List Go.Ab.AV → List Go.Ab.AObj → (Go.Ab.AV → List Go.Ab.AObj → Option R) → Option R
  | [Go.Ab.AV.sref 0 0 a0 2, Go.Ab.AV.int Go.IntKind.i64 a1], [Go.Ab.AObj.cells Bool.true a2], k => (laws_markLogRecordS_v1.f n a0 a1 a2).bind fun r => k (Go.Ab.AV.int Go.IntKind.i64 (r.1)) [Go.Ab.AObj.cells Bool.true (r.2)]
  | _, _, _ => none
noncomputable def laws_markLogRecordS_v1.fits : List Go.Ab.AV → List Go.Ab.AObj → Bool
  | [Go.Ab.AV.sref 0 0 a0 2, Go.Ab.AV.int Go.IntKind.i64 a1], [Go.Ab.AObj.cells Bool.true a2] => true
  | _, _ => false
theorem laws_markLogRecordS_v1.ok (X : Wd) (n : Nat) {R : Type} (args : List Go.Ab.AV) (objs : List Go.Ab.AObj) (k : Go.Ab.AV → List Go.Ab.AObj → Option R) (r : R) (h : laws_markLogRecordS_v1.ctr n args objs k = some r) :
    Go.Ab.Enters Go.Proofs.Tryd.prog 12 ∧ ∃ v objs', Go.Ab.Sim (En X) 12 args objs v objs' ∧ k v objs' = some r := by
  unfold laws_markLogRecordS_v1.ctr at h
  split at h
  · obtain ⟨x, h1, h2⟩ := Option.bind_eq_some_iff.1 h
    exact ⟨⟨Go.Proofs.Tryd.f12, by kernel_rfl, by kernel_rfl, by kernel_rfl⟩, _, _, laws_markLogRecordS_v1.sim X n _ _ _ x h1, h2⟩
  · cases h

noncomputable def laws_heldLogRecordS_v1.dec (v : Go.Ab.AV) (o : List Go.Ab.AObj) : Option (Int × (List Go.Ab.AV)) := match v, o with
  | Go.Ab.AV.int Go.IntKind.i64 a3, [Go.Ab.AObj.cells Bool.true a4] => some (a3, a4)
  | _, _ => none
noncomputable def laws_heldLogRecordS_v1.A : Go.Ab.Ann := { live := fun k => match k with | 2 => [0, 1, 5] | _ => [], out := fun k => match k with | 2 => [1, 4] | _ => [], cut := fun _ => none }
noncomputable def laws_heldLogRecordS_v1.G (n : Nat) {R : Type} : Go.Ab.Ctr R := fun g args objs k => match g with | 45 => laws_markText.ctr n args objs k | _ => none
noncomputable def laws_heldLogRecordS_v1.B (i : Nat) : Go.Code := (Go.Ab.loopsOf (bodyOf Go.Proofs.Tryd.f13)).getD i Go.Code.skip
noncomputable def laws_heldLogRecordS_v1.h2 (n : Nat) (v : List Go.Ab.AV) (o : List Go.Ab.AObj) (K : Go.Ab.Kont (Int × (List Go.Ab.AV))) : Option (Int × (List Go.Ab.AV)) := match v, o with
  | [Go.Ab.AV.sref 0 0 x11 2, Go.Ab.AV.int Go.IntKind.i64 x12, Go.Ab.AV.int Go.IntKind.i64 x13], [Go.Ab.AObj.cells Bool.true x14] => laws_heldLogRecordS_v1.l2 n (fun y38 y39 y40 => K (Go.Ab.Ex.ret) [Go.Ab.AV.int Go.IntKind.i64 y38, Go.Ab.AV.int Go.IntKind.i64 y39] [Go.Ab.AObj.cells Bool.true y40]) (fun y38 y39 => K (Go.Ab.Ex.exit 0) [Go.Ab.AV.int Go.IntKind.i64 y38, Go.Ab.AV.undef] [Go.Ab.AObj.cells Bool.true y39]) n x11 x12 x13 x14
  | _, _ => none
noncomputable def laws_heldLogRecordS_v1.H (n : Nat) : Go.Ab.Hnd (Int × (List Go.Ab.AV)) := { loop := fun key _ v o K => match key with | 2 => laws_heldLogRecordS_v1.h2 n v o K | _ => none, cut := fun _ _ _ _ _ => none }
theorem laws_heldLogRecordS_v1.loop2 (n0 : Nat) (K : Go.Ab.Kont (Int × (List Go.Ab.AV))) : ∀ (n : Nat) (x11 : Nat) (x12 : Int) (x13 : Int) (x14 : List Go.Ab.AV), Go.Ab.loopK 33 1 (laws_heldLogRecordS_v1.A.live 2) (laws_heldLogRecordS_v1.A.out 2) (fun t o k => Go.Ab.denK Go.Proofs.Tryd.prog (laws_heldLogRecordS_v1.G n0) laws_heldLogRecordS_v1.A (laws_heldLogRecordS_v1.H n0) 33 1 (laws_heldLogRecordS_v1.B 0) t o k) n [Go.Ab.AV.sref 0 0 x11 2, Go.Ab.AV.int Go.IntKind.i64 x12, Go.Ab.AV.int Go.IntKind.i64 x13] [Go.Ab.AObj.cells Bool.true x14] K = laws_heldLogRecordS_v1.l2 n0 (fun y38 y39 y40 => K (Go.Ab.Ex.ret) [Go.Ab.AV.int Go.IntKind.i64 y38, Go.Ab.AV.int Go.IntKind.i64 y39] [Go.Ab.AObj.cells Bool.true y40]) (fun y38 y39 => K (Go.Ab.Ex.exit 0) [Go.Ab.AV.int Go.IntKind.i64 y38, Go.Ab.AV.undef] [Go.Ab.AObj.cells Bool.true y39]) n x11 x12 x13 x14
  | 0, _, _, _, _ => rfl
  | n + 1, x11, x12, x13, x14 => by
    have ih : (fun (x11 : Nat) (x12 : Int) (x13 : Int) (x14 : List Go.Ab.AV) => Go.Ab.loopK 33 1 (laws_heldLogRecordS_v1.A.live 2) (laws_heldLogRecordS_v1.A.out 2) (fun t o k => Go.Ab.denK Go.Proofs.Tryd.prog (laws_heldLogRecordS_v1.G n0) laws_heldLogRecordS_v1.A (laws_heldLogRecordS_v1.H n0) 33 1 (laws_heldLogRecordS_v1.B 0) t o k) n [Go.Ab.AV.sref 0 0 x11 2, Go.Ab.AV.int Go.IntKind.i64 x12, Go.Ab.AV.int Go.IntKind.i64 x13] [Go.Ab.AObj.cells Bool.true x14] K) = laws_heldLogRecordS_v1.l2 n0 (fun y38 y39 y40 => K (Go.Ab.Ex.ret) [Go.Ab.AV.int Go.IntKind.i64 y38, Go.Ab.AV.int Go.IntKind.i64 y39] [Go.Ab.AObj.cells Bool.true y40]) (fun y38 y39 => K (Go.Ab.Ex.exit 0) [Go.Ab.AV.int Go.IntKind.i64 y38, Go.Ab.AV.undef] [Go.Ab.AObj.cells Bool.true y39]) n := by funext x11 x12 x13 x14; exact laws_heldLogRecordS_v1.loop2 n0 K n x11 x12 x13 x14
    have st : Go.Ab.loopK 33 1 (laws_heldLogRecordS_v1.A.live 2) (laws_heldLogRecordS_v1.A.out 2) (fun t o k => Go.Ab.denK Go.Proofs.Tryd.prog (laws_heldLogRecordS_v1.G n0) laws_heldLogRecordS_v1.A (laws_heldLogRecordS_v1.H n0) 33 1 (laws_heldLogRecordS_v1.B 0) t o k) (n + 1) [Go.Ab.AV.sref 0 0 x11 2, Go.Ab.AV.int Go.IntKind.i64 x12, Go.Ab.AV.int Go.IntKind.i64 x13] [Go.Ab.AObj.cells Bool.true x14] K = laws_heldLogRecordS_v1.l2S n0 (fun (x11 : Nat) (x12 : Int) (x13 : Int) (x14 : List Go.Ab.AV) => Go.Ab.loopK 33 1 (laws_heldLogRecordS_v1.A.live 2) (laws_heldLogRecordS_v1.A.out 2) (fun t o k => Go.Ab.denK Go.Proofs.Tryd.prog (laws_heldLogRecordS_v1.G n0) laws_heldLogRecordS_v1.A (laws_heldLogRecordS_v1.H n0) 33 1 (laws_heldLogRecordS_v1.B 0) t o k) n [Go.Ab.AV.sref 0 0 x11 2, Go.Ab.AV.int Go.IntKind.i64 x12, Go.Ab.AV.int Go.IntKind.i64 x13] [Go.Ab.AObj.cells Bool.true x14] K) (fun y38 y39 y40 => K (Go.Ab.Ex.ret) [Go.Ab.AV.int Go.IntKind.i64 y38, Go.Ab.AV.int Go.IntKind.i64 y39] [Go.Ab.AObj.cells Bool.true y40]) (fun y38 y39 => K (Go.Ab.Ex.exit 0) [Go.Ab.AV.int Go.IntKind.i64 y38, Go.Ab.AV.undef] [Go.Ab.AObj.cells Bool.true y39]) x11 x12 x13 x14 := by kernel_rfl
    rw [st, ih]; rfl
theorem laws_heldLogRecordS_v1.lok2 (n0 : Nat) : Go.Ab.LoopOk Go.Proofs.Tryd.prog (laws_heldLogRecordS_v1.G n0) laws_heldLogRecordS_v1.A (laws_heldLogRecordS_v1.H n0) 33 1 (laws_heldLogRecordS_v1.B 0) := by
  intro v o K r h
  have hk : Go.Ab.key (laws_heldLogRecordS_v1.B 0) = 2 := by kernel_rfl
  rw [hk] at h ⊢
  change laws_heldLogRecordS_v1.h2 n0 v o K = some r at h
  unfold laws_heldLogRecordS_v1.h2 at h
  split at h
  · exact ⟨n0, by rw [laws_heldLogRecordS_v1.loop2]; exact h⟩
  · cases h
theorem laws_heldLogRecordS_v1.loops (n0 : Nat) : ∀ b ∈ Go.Ab.loopsOf (bodyOf Go.Proofs.Tryd.f13), Go.Ab.LoopOk Go.Proofs.Tryd.prog (laws_heldLogRecordS_v1.G n0) laws_heldLogRecordS_v1.A (laws_heldLogRecordS_v1.H n0) 33 1 b :=
  Go.Ab.forall_getD 1 (by kernel_rfl) Go.Code.skip fun i hi => match i, hi with
    | 0, _ => laws_heldLogRecordS_v1.lok2 n0
    | j + 1, hj => absurd hj (by omega)
theorem laws_heldLogRecordS_v1.cuts (n0 : Nat) : ∀ b ∈ Go.Ab.cutsOf laws_heldLogRecordS_v1.A (bodyOf Go.Proofs.Tryd.f13), Go.Ab.CutOk Go.Proofs.Tryd.prog (laws_heldLogRecordS_v1.G n0) laws_heldLogRecordS_v1.A (laws_heldLogRecordS_v1.H n0) 33 1 b := Go.Ab.forall_nil (by kernel_rfl)
theorem laws_heldLogRecordS_v1.eq (n : Nat) (a0 : Nat) (a1 : Int) (a2 : List Go.Ab.AV) : Go.Ab.funK Go.Proofs.Tryd.prog (laws_heldLogRecordS_v1.G n) laws_heldLogRecordS_v1.A (laws_heldLogRecordS_v1.H n) false Go.Proofs.Tryd.f13 (bodyOf Go.Proofs.Tryd.f13) [Go.Ab.AV.sref 0 0 a0 2, Go.Ab.AV.int Go.IntKind.i64 a1] [Go.Ab.AObj.cells Bool.true a2] laws_heldLogRecordS_v1.dec = laws_heldLogRecordS_v1.f n a0 a1 a2 := by kernel_rfl
theorem laws_heldLogRecordS_v1.gok (X : Wd) (n : Nat) {R : Type} : Go.Ab.CtrOk (En X) (laws_heldLogRecordS_v1.G n : Go.Ab.Ctr R) := by
  intro g args objs k r h
  unfold laws_heldLogRecordS_v1.G at h
  split at h
  · exact laws_markText.ok X _ args objs k r h
  · cases h
theorem laws_heldLogRecordS_v1.hdec (r : (Int × (List Go.Ab.AV))) (v : Go.Ab.AV) (o : List Go.Ab.AObj) (h : laws_heldLogRecordS_v1.dec v o = some r) : v = Go.Ab.AV.int Go.IntKind.i64 (r.1) ∧ o = [Go.Ab.AObj.cells Bool.true (r.2)] := by
  unfold laws_heldLogRecordS_v1.dec at h
  split at h
  · cases h; exact ⟨rfl, rfl⟩
  · cases h
theorem laws_heldLogRecordS_v1.sim (X : Wd) (n : Nat) (a0 : Nat) (a1 : Int) (a2 : List Go.Ab.AV) (r : (Int × (List Go.Ab.AV))) (h : laws_heldLogRecordS_v1.f n a0 a1 a2 = some r) : Go.Ab.Sim (En X) 13 [Go.Ab.AV.sref 0 0 a0 2, Go.Ab.AV.int Go.IntKind.i64 a1] [Go.Ab.AObj.cells Bool.true a2] (Go.Ab.AV.int Go.IntKind.i64 (r.1)) [Go.Ab.AObj.cells Bool.true (r.2)] :=
  Go.Ab.sim_of (E := En X) (laws_heldLogRecordS_v1.gok X n) mix (fn := Go.Proofs.Tryd.f13) (c := (bodyOf Go.Proofs.Tryd.f13)) (by kernel_rfl) (by kernel_rfl) (by kernel_rfl) (laws_heldLogRecordS_v1.loops n) (laws_heldLogRecordS_v1.cuts n) ((laws_heldLogRecordS_v1.eq n a0 a1 a2).trans h) (laws_heldLogRecordS_v1.hdec r)
noncomputable def laws_heldLogRecordS_v1.ctr (n : Nat) {R : Type} : List Go.Ab.AV → List Go.Ab.AObj → (Go.Ab.AV → List Go.Ab.AObj → Option R) → Option R
  | [Go.Ab.AV.sref 0 0 a0 2, Go.Ab.AV.int Go.IntKind.i64 a1], [Go.Ab.AObj.cells Bool.true a2], k => (laws_heldLogRecordS_v1.f n a0 a1 a2).bind fun r => k (Go.Ab.AV.int Go.IntKind.i64 (r.1)) [Go.Ab.AObj.cells Bool.true (r.2)]
  | _, _, _ => none
noncomputable def laws_heldLogRecordS_v1.fits : List Go.Ab.AV → List Go.Ab.AObj → Bool
  | [Go.Ab.AV.sref 0 0 a0 2, Go.Ab.AV.int Go.IntKind.i64 a1], [Go.Ab.AObj.cells Bool.true a2] => true
  | _, _ => false
theorem laws_heldLogRecordS_v1.ok (X : Wd) (n : Nat) {R : Type} (args : List Go.Ab.AV) (objs : List Go.Ab.AObj) (k : Go.Ab.AV → List Go.Ab.AObj → Option R) (r : R) (h : laws_heldLogRecordS_v1.ctr n args objs k = some r) :
    Go.Ab.Enters Go.Proofs.Tryd.prog 13 ∧ ∃ v objs', Go.Ab.Sim (En X) 13 args objs v objs' ∧ k v objs' = some r := by
  unfold laws_heldLogRecordS_v1.ctr at h
  split at h
  · obtain ⟨x, h1, h2⟩ := Option.bind_eq_some_iff.1 h
    exact ⟨⟨Go.Proofs.Tryd.f13, by kernel_rfl, by kernel_rfl, by kernel_rfl⟩, _, _, laws_heldLogRecordS_v1.sim X n _ _ _ x h1, h2⟩
  · cases h

noncomputable def laws_FnExactLogRecords_o.dec (v : Go.Ab.AV) (o : List Go.Ab.AObj) : Option Bool := match v, o with
  | Go.Ab.AV.bool a3, [] => some (a3)
  | _, _ => none
noncomputable def laws_FnExactLogRecords_o.A : Go.Ab.Ann := { live := fun _ => [], out := fun _ => [], cut := fun _ => none }
noncomputable def laws_eqLogRecordS_laws_eqLogRecordS_v1_of_laws_FnExactLogRecords_o.ctr (n : Nat) {R : Type} : List Go.Ab.AV → List Go.Ab.AObj → (Go.Ab.AV → List Go.Ab.AObj → Option R) → Option R := fun args objs k =>
  bif laws_eqLogRecordS.fits args objs then laws_eqLogRecordS.ctr n args objs k else
  laws_eqLogRecordS_v1.ctr n args objs k
theorem laws_eqLogRecordS_laws_eqLogRecordS_v1_of_laws_FnExactLogRecords_o.ok (X : Wd) (n : Nat) {R : Type} (args : List Go.Ab.AV) (objs : List Go.Ab.AObj) (k : Go.Ab.AV → List Go.Ab.AObj → Option R) (r : R) (h : laws_eqLogRecordS_laws_eqLogRecordS_v1_of_laws_FnExactLogRecords_o.ctr n args objs k = some r) :
    Go.Ab.Enters Go.Proofs.Tryd.prog 11 ∧ ∃ v objs', Go.Ab.Sim (En X) 11 args objs v objs' ∧ k v objs' = some r := by
  unfold laws_eqLogRecordS_laws_eqLogRecordS_v1_of_laws_FnExactLogRecords_o.ctr at h
  cases hf : laws_eqLogRecordS.fits args objs
  · simp only [hf, cond_false] at h
    exact laws_eqLogRecordS_v1.ok X n args objs k r h
  · simp only [hf, cond_true] at h
    exact laws_eqLogRecordS.ok X n args objs k r h
noncomputable def laws_markLogRecordS_laws_markLogRecordS_v1_of_laws_FnExactLogRecords_o.ctr (n : Nat) {R : Type} : List Go.Ab.AV → List Go.Ab.AObj → (Go.Ab.AV → List Go.Ab.AObj → Option R) → Option R := fun args objs k =>
  bif laws_markLogRecordS.fits args objs then laws_markLogRecordS.ctr n args objs k else
  laws_markLogRecordS_v1.ctr n args objs k
theorem laws_markLogRecordS_laws_markLogRecordS_v1_of_laws_FnExactLogRecords_o.ok (X : Wd) (n : Nat) {R : Type} (args : List Go.Ab.AV) (objs : List Go.Ab.AObj) (k : Go.Ab.AV → List Go.Ab.AObj → Option R) (r : R) (h : laws_markLogRecordS_laws_markLogRecordS_v1_of_laws_FnExactLogRecords_o.ctr n args objs k = some r) :
    Go.Ab.Enters Go.Proofs.Tryd.prog 12 ∧ ∃ v objs', Go.Ab.Sim (En X) 12 args objs v objs' ∧ k v objs' = some r := by
  unfold laws_markLogRecordS_laws_markLogRecordS_v1_of_laws_FnExactLogRecords_o.ctr at h
  cases hf : laws_markLogRecordS.fits args objs
  · simp only [hf, cond_false] at h
    exact laws_markLogRecordS_v1.ok X n args objs k r h
  · simp only [hf, cond_true] at h
    exact laws_markLogRecordS.ok X n args objs k r h
noncomputable def laws_heldLogRecordS_laws_heldLogRecordS_v1_of_laws_FnExactLogRecords_o.ctr (n : Nat) {R : Type} : List Go.Ab.AV → List Go.Ab.AObj → (Go.Ab.AV → List Go.Ab.AObj → Option R) → Option R := fun args objs k =>
  bif laws_heldLogRecordS.fits args objs then laws_heldLogRecordS.ctr n args objs k else
  laws_heldLogRecordS_v1.ctr n args objs k
theorem laws_heldLogRecordS_laws_heldLogRecordS_v1_of_laws_FnExactLogRecords_o.ok (X : Wd) (n : Nat) {R : Type} (args : List Go.Ab.AV) (objs : List Go.Ab.AObj) (k : Go.Ab.AV → List Go.Ab.AObj → Option R) (r : R) (h : laws_heldLogRecordS_laws_heldLogRecordS_v1_of_laws_FnExactLogRecords_o.ctr n args objs k = some r) :
    Go.Ab.Enters Go.Proofs.Tryd.prog 13 ∧ ∃ v objs', Go.Ab.Sim (En X) 13 args objs v objs' ∧ k v objs' = some r := by
  unfold laws_heldLogRecordS_laws_heldLogRecordS_v1_of_laws_FnExactLogRecords_o.ctr at h
  cases hf : laws_heldLogRecordS.fits args objs
  · simp only [hf, cond_false] at h
    exact laws_heldLogRecordS_v1.ok X n args objs k r h
  · simp only [hf, cond_true] at h
    exact laws_heldLogRecordS.ok X n args objs k r h
noncomputable def laws_FnExactLogRecords_o.G (n : Nat) {R : Type} : Go.Ab.Ctr R := fun g args objs k => match g with | 7 => laws_szLog.ctr n args objs k | 9 => laws_toLog.ctr n args objs k | 8 => spec_LogRecords.ctr n args objs k | 10 => impl_LogRecords_o.ctr n args objs k | 11 => laws_eqLogRecordS_laws_eqLogRecordS_v1_of_laws_FnExactLogRecords_o.ctr n args objs k | 12 => laws_markLogRecordS_laws_markLogRecordS_v1_of_laws_FnExactLogRecords_o.ctr n args objs k | 13 => laws_heldLogRecordS_laws_heldLogRecordS_v1_of_laws_FnExactLogRecords_o.ctr n args objs k | _ => none
noncomputable def laws_FnExactLogRecords_o.B (i : Nat) : Go.Code := (Go.Ab.loopsOf (bodyOf Go.Proofs.Tryd.f3)).getD i Go.Code.skip
noncomputable def laws_FnExactLogRecords_o.H (n : Nat) : Go.Ab.Hnd Bool := { loop := fun key _ v o K => none, cut := fun _ _ _ _ _ => none }
theorem laws_FnExactLogRecords_o.loops (n0 : Nat) : ∀ b ∈ Go.Ab.loopsOf (bodyOf Go.Proofs.Tryd.f3), Go.Ab.LoopOk Go.Proofs.Tryd.prog (laws_FnExactLogRecords_o.G n0) laws_FnExactLogRecords_o.A (laws_FnExactLogRecords_o.H n0) 72 0 b := Go.Ab.forall_nil (by kernel_rfl)
theorem laws_FnExactLogRecords_o.cuts (n0 : Nat) : ∀ b ∈ Go.Ab.cutsOf laws_FnExactLogRecords_o.A (bodyOf Go.Proofs.Tryd.f3), Go.Ab.CutOk Go.Proofs.Tryd.prog (laws_FnExactLogRecords_o.G n0) laws_FnExactLogRecords_o.A (laws_FnExactLogRecords_o.H n0) 72 0 b := Go.Ab.forall_nil (by kernel_rfl)
theorem laws_FnExactLogRecords_o.eq (n : Nat) (a0 : ByteArray) (a1 : ByteArray) (a2 : Int) : Go.Ab.funK Go.Proofs.Tryd.prog (laws_FnExactLogRecords_o.G n) laws_FnExactLogRecords_o.A (laws_FnExactLogRecords_o.H n) false Go.Proofs.Tryd.f3 (bodyOf Go.Proofs.Tryd.f3) [Go.Ab.AV.agg [Go.Ab.AV.str a0, Go.Ab.AV.str a1, Go.Ab.AV.int Go.IntKind.i64 a2]] [] laws_FnExactLogRecords_o.dec = laws_FnExactLogRecords_o.f n a0 a1 a2 := by kernel_rfl
theorem laws_FnExactLogRecords_o.gok (X : Wd) (n : Nat) {R : Type} : Go.Ab.CtrOk (En X) (laws_FnExactLogRecords_o.G n : Go.Ab.Ctr R) := by
  intro g args objs k r h
  unfold laws_FnExactLogRecords_o.G at h
  split at h
  · exact laws_szLog.ok X _ args objs k r h
  · exact laws_toLog.ok X _ args objs k r h
  · exact spec_LogRecords.ok X _ args objs k r h
  · exact impl_LogRecords_o.ok X _ args objs k r h
  · exact laws_eqLogRecordS_laws_eqLogRecordS_v1_of_laws_FnExactLogRecords_o.ok X _ args objs k r h
  · exact laws_markLogRecordS_laws_markLogRecordS_v1_of_laws_FnExactLogRecords_o.ok X _ args objs k r h
  · exact laws_heldLogRecordS_laws_heldLogRecordS_v1_of_laws_FnExactLogRecords_o.ok X _ args objs k r h
  · cases h
theorem laws_FnExactLogRecords_o.hdec (r : Bool) (v : Go.Ab.AV) (o : List Go.Ab.AObj) (h : laws_FnExactLogRecords_o.dec v o = some r) : v = Go.Ab.AV.bool (r) ∧ o = [] := by
  unfold laws_FnExactLogRecords_o.dec at h
  split at h
  · cases h; exact ⟨rfl, rfl⟩
  · cases h
theorem laws_FnExactLogRecords_o.sim (X : Wd) (n : Nat) (a0 : ByteArray) (a1 : ByteArray) (a2 : Int) (r : Bool) (h : laws_FnExactLogRecords_o.f n a0 a1 a2 = some r) : Go.Ab.Sim (En X) 3 [Go.Ab.AV.agg [Go.Ab.AV.str a0, Go.Ab.AV.str a1, Go.Ab.AV.int Go.IntKind.i64 a2]] [] (Go.Ab.AV.bool (r)) [] :=
  Go.Ab.sim_of (E := En X) (laws_FnExactLogRecords_o.gok X n) mix (fn := Go.Proofs.Tryd.f3) (c := (bodyOf Go.Proofs.Tryd.f3)) (by kernel_rfl) (by kernel_rfl) (by kernel_rfl) (laws_FnExactLogRecords_o.loops n) (laws_FnExactLogRecords_o.cuts n) ((laws_FnExactLogRecords_o.eq n a0 a1 a2).trans h) (laws_FnExactLogRecords_o.hdec r)
noncomputable def laws_FnExactLogRecords_o.ctr (n : Nat) {R : Type} : List Go.Ab.AV → List Go.Ab.AObj → (Go.Ab.AV → List Go.Ab.AObj → Option R) → Option R
  | [Go.Ab.AV.agg [Go.Ab.AV.str a0, Go.Ab.AV.str a1, Go.Ab.AV.int Go.IntKind.i64 a2]], [], k => (laws_FnExactLogRecords_o.f n a0 a1 a2).bind fun r => k (Go.Ab.AV.bool (r)) []
  | _, _, _ => none
noncomputable def laws_FnExactLogRecords_o.fits : List Go.Ab.AV → List Go.Ab.AObj → Bool
  | [Go.Ab.AV.agg [Go.Ab.AV.str a0, Go.Ab.AV.str a1, Go.Ab.AV.int Go.IntKind.i64 a2]], [] => true
  | _, _ => false
theorem laws_FnExactLogRecords_o.ok (X : Wd) (n : Nat) {R : Type} (args : List Go.Ab.AV) (objs : List Go.Ab.AObj) (k : Go.Ab.AV → List Go.Ab.AObj → Option R) (r : R) (h : laws_FnExactLogRecords_o.ctr n args objs k = some r) :
    Go.Ab.Enters Go.Proofs.Tryd.prog 3 ∧ ∃ v objs', Go.Ab.Sim (En X) 3 args objs v objs' ∧ k v objs' = some r := by
  unfold laws_FnExactLogRecords_o.ctr at h
  split at h
  · obtain ⟨x, h1, h2⟩ := Option.bind_eq_some_iff.1 h
    exact ⟨⟨Go.Proofs.Tryd.f3, by kernel_rfl, by kernel_rfl, by kernel_rfl⟩, _, _, laws_FnExactLogRecords_o.sim X n _ _ _ x h1, h2⟩
  · cases h
