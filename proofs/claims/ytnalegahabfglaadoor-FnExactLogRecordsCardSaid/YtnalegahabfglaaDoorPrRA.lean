/- The Go functions as Lean functions, and the proofs that they are so: what a program of this session printed. No condition. -/
import Derived.Test.YtnalegahabfglaaDoorAbSeal
import Derived.Test.YtnalegahabfglaaDoorPrFA
import Derived.Test.YtnalegahabfglaaDoorProg
import Derived.KernelRfl
import Derived.Test.YtnalegahabfglaaDoorAbLib
import Derived.Test.YtnalegahabfglaaDoorShelf
set_option linter.all false
set_option linter.unusedVariables false
set_option linter.unusedSimpArgs false
set_option maxRecDepth 1000000
set_option maxHeartbeats 0
set_option linter.unusedVariables false
open Go Go.Ab
noncomputable section
def bodyOf (f : Go.Func) : Go.Code := f.body.getD Go.Code.skip

theorem mix : Go.Proofs.Tryd.prog.follows .mixedOrders = true := by kernel_rfl
open Go.Proofs (Tryd.strings_Cut Tryd.strings_Contains Tryd.strconv_Itoa)
structure Wd where
  nb : Nat
  gl : Nat → Option Go.Obj
  maxLen : ∀ w : World, (∀ b, b < nb → w.heap[b]? = gl b) → ∃ m, w.cell? ⟨0, 0, none⟩ = some (.int .i64 m)
  pow10 : ∀ w : World, (∀ b, b < nb → w.heap[b]? = gl b) → Lib.TabIs Go.Proofs.Tryd.prog w "internal/strconv.uint64pow10" .u64 Lib.pow10Tab
abbrev En (X : Wd) : Env := ⟨Go.Proofs.Tryd.prog, X.nb, X.gl⟩

noncomputable def strings_Cut.ctr (n : Nat) {R : Type} : List AV → List AObj → (AV → List AObj → Option R) → Option R
  | [.str a0, .str a1], [], k => (strings_Cut.f n a0 a1).bind fun r => k (.tup [.str r.1, .str r.2.1, .bool r.2.2]) []
  | _, _, _ => none
theorem strings_Cut.sim (X : Wd) (n : Nat) (a0 : ByteArray) (a1 : ByteArray) (r : ByteArray × ByteArray × Bool) (h : strings_Cut.f n a0 a1 = some r) : Sim (En X) 80 [.str a0, .str a1] [] (.tup [.str r.1, .str r.2.1, .bool r.2.2]) [] := by
  unfold strings_Cut.f at h
  cases hs : decide (a0.size < 4294967281)
  · simp [hs] at h
  · simp only [hs, cond_true, Option.some.injEq] at h
    have hs := of_decide_eq_true hs
    subst h
    refine sim_lib (v' := .tuple #[.string ⟨(Lib.cut a0.data.toList a1.data.toList).1.toArray⟩, .string ⟨(Lib.cut a0.data.toList a1.data.toList).2.1.toArray⟩, .bool (Lib.cut a0.data.toList a1.data.toList).2.2]) (fun G ι => .tupL (.cons (.str _) (.cons (.str _) (.cons (.bool _) .nil)))) (fun w args' G ι hA hg => ?_) []
    obtain ⟨x, y, rfl, h1, h2⟩ := arr2 hA
    cases h1; cases h2
    obtain ⟨m, hm⟩ := X.maxLen w hg
    refine (Go.Proofs.Tryd.strings_Cut a0 a1 m w hs hm).mono fun e w' ⟨he, n, hw⟩ => ?_
    exact ⟨he, n, #[], by rw [grow_nil]; exact hw⟩
theorem strings_Cut.ok (X : Wd) (n : Nat) {R : Type} (args : List AV) (objs : List AObj) (k : AV → List AObj → Option R) (r : R) (h : strings_Cut.ctr n args objs k = some r) :
    Enters Go.Proofs.Tryd.prog 80 ∧ ∃ v objs', Sim (En X) 80 args objs v objs' ∧ k v objs' = some r := by
  unfold strings_Cut.ctr at h
  split at h
  · obtain ⟨x, h1, h2⟩ := Option.bind_eq_some_iff.1 h
    exact ⟨⟨Go.Proofs.Tryd.f80, by kernel_rfl, by kernel_rfl, by kernel_rfl⟩, _, _, strings_Cut.sim X n _ _ x h1, h2⟩
  · cases h

noncomputable def strings_Contains.ctr (n : Nat) {R : Type} : List AV → List AObj → (AV → List AObj → Option R) → Option R
  | [.str a0, .str a1], [], k => (strings_Contains.f n a0 a1).bind fun r => k (.bool r) []
  | _, _, _ => none
theorem strings_Contains.sim (X : Wd) (n : Nat) (a0 : ByteArray) (a1 : ByteArray) (r : Bool) (h : strings_Contains.f n a0 a1 = some r) : Sim (En X) 71 [.str a0, .str a1] [] (.bool r) [] := by
  unfold strings_Contains.f at h
  cases hs : decide (a0.size < 4294967281)
  · simp [hs] at h
  · simp only [hs, cond_true, Option.some.injEq] at h
    have hs := of_decide_eq_true hs
    subst h
    refine sim_lib (v' := .bool (Lib.contains a0.data.toList a1.data.toList)) (fun G ι => .bool _) (fun w args' G ι hA hg => ?_) []
    obtain ⟨x, y, rfl, h1, h2⟩ := arr2 hA
    cases h1; cases h2
    obtain ⟨m, hm⟩ := X.maxLen w hg
    refine (Go.Proofs.Tryd.strings_Contains a0 a1 m w hs hm).mono fun e w' ⟨he, hw⟩ => ?_
    exact ⟨he, 0, #[], by rw [grow_nil]; exact hw⟩
theorem strings_Contains.ok (X : Wd) (n : Nat) {R : Type} (args : List AV) (objs : List AObj) (k : AV → List AObj → Option R) (r : R) (h : strings_Contains.ctr n args objs k = some r) :
    Enters Go.Proofs.Tryd.prog 71 ∧ ∃ v objs', Sim (En X) 71 args objs v objs' ∧ k v objs' = some r := by
  unfold strings_Contains.ctr at h
  split at h
  · obtain ⟨x, h1, h2⟩ := Option.bind_eq_some_iff.1 h
    exact ⟨⟨Go.Proofs.Tryd.f71, by kernel_rfl, by kernel_rfl, by kernel_rfl⟩, _, _, strings_Contains.sim X n _ _ x h1, h2⟩
  · cases h

noncomputable def strconv_Itoa.ctr (n : Nat) {R : Type} : List AV → List AObj → (AV → List AObj → Option R) → Option R
  | [.int .i64 a0], [], k => (strconv_Itoa.f n a0).bind fun r => k (.str r) []
  | _, _, _ => none
theorem strconv_Itoa.sim (X : Wd) (n : Nat) (a0 : Int) (r : ByteArray) (h : strconv_Itoa.f n a0 = some r) : Sim (En X) 52 [.int .i64 a0] [] (.str r) [] := by
  unfold strconv_Itoa.f at h
  cases hs : (decide (-9223372036854775808 ≤ a0) && decide (a0 ≤ 9223372036854775807))
  · simp [hs] at h
  · simp only [hs, cond_true, Option.some.injEq] at h
    simp only [Bool.and_eq_true, decide_eq_true_eq] at hs
    subst h
    refine sim_lib (v' := .string ⟨(Lib.itoa a0).toArray⟩) (fun G ι => .str _) (fun w args' G ι hA hg => ?_) []
    obtain ⟨x, rfl, h1⟩ := arr1 hA
    cases h1
    exact (Go.Proofs.Tryd.strconv_Itoa a0 hs.1 hs.2 w (X.pow10 w hg)).mono fun e w' h => h
theorem strconv_Itoa.ok (X : Wd) (n : Nat) {R : Type} (args : List AV) (objs : List AObj) (k : AV → List AObj → Option R) (r : R) (h : strconv_Itoa.ctr n args objs k = some r) :
    Enters Go.Proofs.Tryd.prog 52 ∧ ∃ v objs', Sim (En X) 52 args objs v objs' ∧ k v objs' = some r := by
  unfold strconv_Itoa.ctr at h
  split at h
  · obtain ⟨x, h1, h2⟩ := Option.bind_eq_some_iff.1 h
    exact ⟨⟨Go.Proofs.Tryd.f52, by kernel_rfl, by kernel_rfl, by kernel_rfl⟩, _, _, strconv_Itoa.sim X n _ x h1, h2⟩
  · cases h
noncomputable def laws_szLog.dec (v : Go.Ab.AV) (o : List Go.Ab.AObj) : Option Int := match v, o with
  | Go.Ab.AV.int Go.IntKind.i64 a4, [] => some (a4)
  | _, _ => none
noncomputable def laws_szLog.A : Go.Ab.Ann := { live := fun _ => [], out := fun _ => [], cut := fun _ => none }
noncomputable def laws_szLog.G (n : Nat) {R : Type} : Go.Ab.Ctr R := fun g args objs k => none
noncomputable def laws_szLog.B (i : Nat) : Go.Code := (Go.Ab.loopsOf (bodyOf Go.Proofs.Tryd.f7)).getD i Go.Code.skip
noncomputable def laws_szLog.H (n : Nat) : Go.Ab.Hnd Int := { loop := fun key _ v o K => none, cut := fun _ _ _ _ _ => none }
theorem laws_szLog.loops (n0 : Nat) : ∀ b ∈ Go.Ab.loopsOf (bodyOf Go.Proofs.Tryd.f7), Go.Ab.LoopOk Go.Proofs.Tryd.prog (laws_szLog.G n0) laws_szLog.A (laws_szLog.H n0) 20 0 b := Go.Ab.forall_nil (by kernel_rfl)
theorem laws_szLog.cuts (n0 : Nat) : ∀ b ∈ Go.Ab.cutsOf laws_szLog.A (bodyOf Go.Proofs.Tryd.f7), Go.Ab.CutOk Go.Proofs.Tryd.prog (laws_szLog.G n0) laws_szLog.A (laws_szLog.H n0) 20 0 b := Go.Ab.forall_nil (by kernel_rfl)
theorem laws_szLog.eq (n : Nat) (a0 : ByteArray) (a1 : ByteArray) (a2 : Int) (a3 : Int) : Go.Ab.funK Go.Proofs.Tryd.prog (laws_szLog.G n) laws_szLog.A (laws_szLog.H n) false Go.Proofs.Tryd.f7 (bodyOf Go.Proofs.Tryd.f7) [Go.Ab.AV.agg [Go.Ab.AV.str a0, Go.Ab.AV.str a1, Go.Ab.AV.int Go.IntKind.i64 a2], Go.Ab.AV.int Go.IntKind.i64 a3] [] laws_szLog.dec = laws_szLog.f n a0 a1 a2 a3 := by kernel_rfl
theorem laws_szLog.gok (X : Wd) (n : Nat) {R : Type} : Go.Ab.CtrOk (En X) (laws_szLog.G n : Go.Ab.Ctr R) := by
  intro g args objs k r h
  cases h
theorem laws_szLog.hdec (r : Int) (v : Go.Ab.AV) (o : List Go.Ab.AObj) (h : laws_szLog.dec v o = some r) : v = Go.Ab.AV.int Go.IntKind.i64 (r) ∧ o = [] := by
  unfold laws_szLog.dec at h
  split at h
  · cases h; exact ⟨rfl, rfl⟩
  · cases h
theorem laws_szLog.sim (X : Wd) (n : Nat) (a0 : ByteArray) (a1 : ByteArray) (a2 : Int) (a3 : Int) (r : Int) (h : laws_szLog.f n a0 a1 a2 a3 = some r) : Go.Ab.Sim (En X) 7 [Go.Ab.AV.agg [Go.Ab.AV.str a0, Go.Ab.AV.str a1, Go.Ab.AV.int Go.IntKind.i64 a2], Go.Ab.AV.int Go.IntKind.i64 a3] [] (Go.Ab.AV.int Go.IntKind.i64 (r)) [] :=
  Go.Ab.sim_of (E := En X) (laws_szLog.gok X n) mix (fn := Go.Proofs.Tryd.f7) (c := (bodyOf Go.Proofs.Tryd.f7)) (by kernel_rfl) (by kernel_rfl) (by kernel_rfl) (laws_szLog.loops n) (laws_szLog.cuts n) ((laws_szLog.eq n a0 a1 a2 a3).trans h) (laws_szLog.hdec r)
noncomputable def laws_szLog.ctr (n : Nat) {R : Type} : List Go.Ab.AV → List Go.Ab.AObj → (Go.Ab.AV → List Go.Ab.AObj → Option R) → Option R
  | [Go.Ab.AV.agg [Go.Ab.AV.str a0, Go.Ab.AV.str a1, Go.Ab.AV.int Go.IntKind.i64 a2], Go.Ab.AV.int Go.IntKind.i64 a3], [], k => (laws_szLog.f n a0 a1 a2 a3).bind fun r => k (Go.Ab.AV.int Go.IntKind.i64 (r)) []
  | _, _, _ => none
noncomputable def laws_szLog.fits : List Go.Ab.AV → List Go.Ab.AObj → Bool
  | [Go.Ab.AV.agg [Go.Ab.AV.str a0, Go.Ab.AV.str a1, Go.Ab.AV.int Go.IntKind.i64 a2], Go.Ab.AV.int Go.IntKind.i64 a3], [] => true
  | _, _ => false
theorem laws_szLog.ok (X : Wd) (n : Nat) {R : Type} (args : List Go.Ab.AV) (objs : List Go.Ab.AObj) (k : Go.Ab.AV → List Go.Ab.AObj → Option R) (r : R) (h : laws_szLog.ctr n args objs k = some r) :
    Go.Ab.Enters Go.Proofs.Tryd.prog 7 ∧ ∃ v objs', Go.Ab.Sim (En X) 7 args objs v objs' ∧ k v objs' = some r := by
  unfold laws_szLog.ctr at h
  split at h
  · obtain ⟨x, h1, h2⟩ := Option.bind_eq_some_iff.1 h
    exact ⟨⟨Go.Proofs.Tryd.f7, by kernel_rfl, by kernel_rfl, by kernel_rfl⟩, _, _, laws_szLog.sim X n _ _ _ _ x h1, h2⟩
  · cases h

noncomputable def laws_szConsole.dec (v : Go.Ab.AV) (o : List Go.Ab.AObj) : Option Int := match v, o with
  | Go.Ab.AV.int Go.IntKind.i64 a18, [] => some (a18)
  | _, _ => none
noncomputable def laws_szConsole.A : Go.Ab.Ann := { live := fun _ => [], out := fun _ => [], cut := fun _ => none }
noncomputable def laws_szConsole.G (n : Nat) {R : Type} : Go.Ab.Ctr R := fun g args objs k => match g with | 7 => laws_szLog.ctr n args objs k | _ => none
noncomputable def laws_szConsole.B (i : Nat) : Go.Code := (Go.Ab.loopsOf (bodyOf Go.Proofs.Tryd.f14)).getD i Go.Code.skip
noncomputable def laws_szConsole.H (n : Nat) : Go.Ab.Hnd Int := { loop := fun key _ v o K => none, cut := fun _ _ _ _ _ => none }
theorem laws_szConsole.loops (n0 : Nat) : ∀ b ∈ Go.Ab.loopsOf (bodyOf Go.Proofs.Tryd.f14), Go.Ab.LoopOk Go.Proofs.Tryd.prog (laws_szConsole.G n0) laws_szConsole.A (laws_szConsole.H n0) 12 0 b := Go.Ab.forall_nil (by kernel_rfl)
theorem laws_szConsole.cuts (n0 : Nat) : ∀ b ∈ Go.Ab.cutsOf laws_szConsole.A (bodyOf Go.Proofs.Tryd.f14), Go.Ab.CutOk Go.Proofs.Tryd.prog (laws_szConsole.G n0) laws_szConsole.A (laws_szConsole.H n0) 12 0 b := Go.Ab.forall_nil (by kernel_rfl)
theorem laws_szConsole.eq (n : Nat) (a0 : Int) (a1 : Int) (a2 : Int) (a3 : Int) (a4 : Int) (a5 : Int) (a6 : Int) (a7 : Int) (a8 : Int) (a9 : Int) (a10 : Int) (a11 : Int) (a12 : Int) (a13 : Int) (a14 : ByteArray) (a15 : ByteArray) (a16 : Int) (a17 : Int) : Go.Ab.funK Go.Proofs.Tryd.prog (laws_szConsole.G n) laws_szConsole.A (laws_szConsole.H n) false Go.Proofs.Tryd.f14 (bodyOf Go.Proofs.Tryd.f14) [Go.Ab.AV.agg [Go.Ab.AV.int Go.IntKind.i64 a0, Go.Ab.AV.int Go.IntKind.i64 a1, Go.Ab.AV.int Go.IntKind.i64 a2, Go.Ab.AV.int Go.IntKind.i64 a3, Go.Ab.AV.int Go.IntKind.i64 a4, Go.Ab.AV.int Go.IntKind.i64 a5, Go.Ab.AV.int Go.IntKind.i64 a6, Go.Ab.AV.int Go.IntKind.i64 a7, Go.Ab.AV.int Go.IntKind.i64 a8, Go.Ab.AV.int Go.IntKind.i64 a9, Go.Ab.AV.int Go.IntKind.i64 a10, Go.Ab.AV.int Go.IntKind.i64 a11, Go.Ab.AV.int Go.IntKind.i64 a12, Go.Ab.AV.int Go.IntKind.i64 a13, Go.Ab.AV.str a14, Go.Ab.AV.str a15, Go.Ab.AV.int Go.IntKind.i64 a16], Go.Ab.AV.int Go.IntKind.i64 a17] [] laws_szConsole.dec = laws_szConsole.f n a0 a1 a2 a3 a4 a5 a6 a7 a8 a9 a10 a11 a12 a13 a14 a15 a16 a17 := by kernel_rfl
theorem laws_szConsole.gok (X : Wd) (n : Nat) {R : Type} : Go.Ab.CtrOk (En X) (laws_szConsole.G n : Go.Ab.Ctr R) := by
  intro g args objs k r h
  unfold laws_szConsole.G at h
  split at h
  · exact laws_szLog.ok X _ args objs k r h
  · cases h
theorem laws_szConsole.hdec (r : Int) (v : Go.Ab.AV) (o : List Go.Ab.AObj) (h : laws_szConsole.dec v o = some r) : v = Go.Ab.AV.int Go.IntKind.i64 (r) ∧ o = [] := by
  unfold laws_szConsole.dec at h
  split at h
  · cases h; exact ⟨rfl, rfl⟩
  · cases h
theorem laws_szConsole.sim (X : Wd) (n : Nat) (a0 : Int) (a1 : Int) (a2 : Int) (a3 : Int) (a4 : Int) (a5 : Int) (a6 : Int) (a7 : Int) (a8 : Int) (a9 : Int) (a10 : Int) (a11 : Int) (a12 : Int) (a13 : Int) (a14 : ByteArray) (a15 : ByteArray) (a16 : Int) (a17 : Int) (r : Int) (h : laws_szConsole.f n a0 a1 a2 a3 a4 a5 a6 a7 a8 a9 a10 a11 a12 a13 a14 a15 a16 a17 = some r) : Go.Ab.Sim (En X) 14 [Go.Ab.AV.agg [Go.Ab.AV.int Go.IntKind.i64 a0, Go.Ab.AV.int Go.IntKind.i64 a1, Go.Ab.AV.int Go.IntKind.i64 a2, Go.Ab.AV.int Go.IntKind.i64 a3, Go.Ab.AV.int Go.IntKind.i64 a4, Go.Ab.AV.int Go.IntKind.i64 a5, Go.Ab.AV.int Go.IntKind.i64 a6, Go.Ab.AV.int Go.IntKind.i64 a7, Go.Ab.AV.int Go.IntKind.i64 a8, Go.Ab.AV.int Go.IntKind.i64 a9, Go.Ab.AV.int Go.IntKind.i64 a10, Go.Ab.AV.int Go.IntKind.i64 a11, Go.Ab.AV.int Go.IntKind.i64 a12, Go.Ab.AV.int Go.IntKind.i64 a13, Go.Ab.AV.str a14, Go.Ab.AV.str a15, Go.Ab.AV.int Go.IntKind.i64 a16], Go.Ab.AV.int Go.IntKind.i64 a17] [] (Go.Ab.AV.int Go.IntKind.i64 (r)) [] :=
  Go.Ab.sim_of (E := En X) (laws_szConsole.gok X n) mix (fn := Go.Proofs.Tryd.f14) (c := (bodyOf Go.Proofs.Tryd.f14)) (by kernel_rfl) (by kernel_rfl) (by kernel_rfl) (laws_szConsole.loops n) (laws_szConsole.cuts n) ((laws_szConsole.eq n a0 a1 a2 a3 a4 a5 a6 a7 a8 a9 a10 a11 a12 a13 a14 a15 a16 a17).trans h) (laws_szConsole.hdec r)
noncomputable def laws_szConsole.ctr (n : Nat) {R : Type} : List Go.Ab.AV → List Go.Ab.AObj → (Go.Ab.AV → List Go.Ab.AObj → Option R) → Option R
  | [Go.Ab.AV.agg [Go.Ab.AV.int Go.IntKind.i64 a0, Go.Ab.AV.int Go.IntKind.i64 a1, Go.Ab.AV.int Go.IntKind.i64 a2, Go.Ab.AV.int Go.IntKind.i64 a3, Go.Ab.AV.int Go.IntKind.i64 a4, Go.Ab.AV.int Go.IntKind.i64 a5, Go.Ab.AV.int Go.IntKind.i64 a6, Go.Ab.AV.int Go.IntKind.i64 a7, Go.Ab.AV.int Go.IntKind.i64 a8, Go.Ab.AV.int Go.IntKind.i64 a9, Go.Ab.AV.int Go.IntKind.i64 a10, Go.Ab.AV.int Go.IntKind.i64 a11, Go.Ab.AV.int Go.IntKind.i64 a12, Go.Ab.AV.int Go.IntKind.i64 a13, Go.Ab.AV.str a14, Go.Ab.AV.str a15, Go.Ab.AV.int Go.IntKind.i64 a16], Go.Ab.AV.int Go.IntKind.i64 a17], [], k => (laws_szConsole.f n a0 a1 a2 a3 a4 a5 a6 a7 a8 a9 a10 a11 a12 a13 a14 a15 a16 a17).bind fun r => k (Go.Ab.AV.int Go.IntKind.i64 (r)) []
  | _, _, _ => none
noncomputable def laws_szConsole.fits : List Go.Ab.AV → List Go.Ab.AObj → Bool
  | [Go.Ab.AV.agg [Go.Ab.AV.int Go.IntKind.i64 a0, Go.Ab.AV.int Go.IntKind.i64 a1, Go.Ab.AV.int Go.IntKind.i64 a2, Go.Ab.AV.int Go.IntKind.i64 a3, Go.Ab.AV.int Go.IntKind.i64 a4, Go.Ab.AV.int Go.IntKind.i64 a5, Go.Ab.AV.int Go.IntKind.i64 a6, Go.Ab.AV.int Go.IntKind.i64 a7, Go.Ab.AV.int Go.IntKind.i64 a8, Go.Ab.AV.int Go.IntKind.i64 a9, Go.Ab.AV.int Go.IntKind.i64 a10, Go.Ab.AV.int Go.IntKind.i64 a11, Go.Ab.AV.int Go.IntKind.i64 a12, Go.Ab.AV.int Go.IntKind.i64 a13, Go.Ab.AV.str a14, Go.Ab.AV.str a15, Go.Ab.AV.int Go.IntKind.i64 a16], Go.Ab.AV.int Go.IntKind.i64 a17], [] => true
  | _, _ => false
theorem laws_szConsole.ok (X : Wd) (n : Nat) {R : Type} (args : List Go.Ab.AV) (objs : List Go.Ab.AObj) (k : Go.Ab.AV → List Go.Ab.AObj → Option R) (r : R) (h : laws_szConsole.ctr n args objs k = some r) :
    Go.Ab.Enters Go.Proofs.Tryd.prog 14 ∧ ∃ v objs', Go.Ab.Sim (En X) 14 args objs v objs' ∧ k v objs' = some r := by
  unfold laws_szConsole.ctr at h
  split at h
  · obtain ⟨x, h1, h2⟩ := Option.bind_eq_some_iff.1 h
    exact ⟨⟨Go.Proofs.Tryd.f14, by kernel_rfl, by kernel_rfl, by kernel_rfl⟩, _, _, laws_szConsole.sim X n _ _ _ _ _ _ _ _ _ _ _ _ _ _ _ _ _ _ x h1, h2⟩
  · cases h

noncomputable def laws_toIntA6.dec (v : Go.Ab.AV) (o : List Go.Ab.AObj) : Option (Int × Int × Int × Int × Int × Int) := match v, o with
  | Go.Ab.AV.agg [Go.Ab.AV.int Go.IntKind.i64 a6, Go.Ab.AV.int Go.IntKind.i64 a7, Go.Ab.AV.int Go.IntKind.i64 a8, Go.Ab.AV.int Go.IntKind.i64 a9, Go.Ab.AV.int Go.IntKind.i64 a10, Go.Ab.AV.int Go.IntKind.i64 a11], [] => some (a6, a7, a8, a9, a10, a11)
  | _, _ => none
noncomputable def laws_toIntA6.A : Go.Ab.Ann := { live := fun k => match k with | 3 => [1, 2, 3, 4] | _ => [], out := fun k => match k with | 3 => [2, 3] | _ => [], cut := fun _ => none }
noncomputable def laws_toIntA6.G (n : Nat) {R : Type} : Go.Ab.Ctr R := fun g args objs k => none
noncomputable def laws_toIntA6.B (i : Nat) : Go.Code := (Go.Ab.loopsOf (bodyOf Go.Proofs.Tryd.f83)).getD i Go.Code.skip
noncomputable def laws_toIntA6.h3 (n : Nat) (v : List Go.Ab.AV) (o : List Go.Ab.AObj) (K : Go.Ab.Kont (Int × Int × Int × Int × Int × Int)) : Option (Int × Int × Int × Int × Int × Int) := match v, o with
  | [Go.Ab.AV.ptr 0 0, Go.Ab.AV.ptr 1 0, Go.Ab.AV.ptr 2 0, Go.Ab.AV.int Go.IntKind.i64 x25], [Go.Ab.AObj.cells Bool.true [Go.Ab.AV.int Go.IntKind.i64 x26, Go.Ab.AV.int Go.IntKind.i64 x27, Go.Ab.AV.int Go.IntKind.i64 x28, Go.Ab.AV.int Go.IntKind.i64 x29, Go.Ab.AV.int Go.IntKind.i64 x30, Go.Ab.AV.int Go.IntKind.i64 x31], Go.Ab.AObj.cells Bool.true [Go.Ab.AV.int Go.IntKind.i64 x32, Go.Ab.AV.int Go.IntKind.i64 x33, Go.Ab.AV.int Go.IntKind.i64 x34, Go.Ab.AV.int Go.IntKind.i64 x35, Go.Ab.AV.int Go.IntKind.i64 x36, Go.Ab.AV.int Go.IntKind.i64 x37], Go.Ab.AObj.cells Bool.true x38] => laws_toIntA6.l3 n (fun y60 y61 y62 y63 y64 y65 y66 => K (Go.Ab.Ex.exit 0) [Go.Ab.AV.ptr 0 0, Go.Ab.AV.ptr 1 0] [Go.Ab.AObj.cells Bool.true [Go.Ab.AV.int Go.IntKind.i64 y60, Go.Ab.AV.int Go.IntKind.i64 y61, Go.Ab.AV.int Go.IntKind.i64 y62, Go.Ab.AV.int Go.IntKind.i64 y63, Go.Ab.AV.int Go.IntKind.i64 y64, Go.Ab.AV.int Go.IntKind.i64 y65], Go.Ab.AObj.cells Bool.true y66]) n x25 x26 x27 x28 x29 x30 x31 x32 x33 x34 x35 x36 x37 x38
  | _, _ => none
noncomputable def laws_toIntA6.H (n : Nat) : Go.Ab.Hnd (Int × Int × Int × Int × Int × Int) := { loop := fun key _ v o K => match key with | 3 => laws_toIntA6.h3 n v o K | _ => none, cut := fun _ _ _ _ _ => none }
theorem laws_toIntA6.loop3 (n0 : Nat) (K : Go.Ab.Kont (Int × Int × Int × Int × Int × Int)) : ∀ (n : Nat) (x25 : Int) (x26 : Int) (x27 : Int) (x28 : Int) (x29 : Int) (x30 : Int) (x31 : Int) (x32 : Int) (x33 : Int) (x34 : Int) (x35 : Int) (x36 : Int) (x37 : Int) (x38 : List Go.Ab.AV), Go.Ab.loopK 15 0 (laws_toIntA6.A.live 3) (laws_toIntA6.A.out 3) (fun t o k => Go.Ab.denK Go.Proofs.Tryd.prog (laws_toIntA6.G n0) laws_toIntA6.A (laws_toIntA6.H n0) 15 0 (laws_toIntA6.B 0) t o k) n [Go.Ab.AV.ptr 0 0, Go.Ab.AV.ptr 1 0, Go.Ab.AV.ptr 2 0, Go.Ab.AV.int Go.IntKind.i64 x25] [Go.Ab.AObj.cells Bool.true [Go.Ab.AV.int Go.IntKind.i64 x26, Go.Ab.AV.int Go.IntKind.i64 x27, Go.Ab.AV.int Go.IntKind.i64 x28, Go.Ab.AV.int Go.IntKind.i64 x29, Go.Ab.AV.int Go.IntKind.i64 x30, Go.Ab.AV.int Go.IntKind.i64 x31], Go.Ab.AObj.cells Bool.true [Go.Ab.AV.int Go.IntKind.i64 x32, Go.Ab.AV.int Go.IntKind.i64 x33, Go.Ab.AV.int Go.IntKind.i64 x34, Go.Ab.AV.int Go.IntKind.i64 x35, Go.Ab.AV.int Go.IntKind.i64 x36, Go.Ab.AV.int Go.IntKind.i64 x37], Go.Ab.AObj.cells Bool.true x38] K = laws_toIntA6.l3 n0 (fun y60 y61 y62 y63 y64 y65 y66 => K (Go.Ab.Ex.exit 0) [Go.Ab.AV.ptr 0 0, Go.Ab.AV.ptr 1 0] [Go.Ab.AObj.cells Bool.true [Go.Ab.AV.int Go.IntKind.i64 y60, Go.Ab.AV.int Go.IntKind.i64 y61, Go.Ab.AV.int Go.IntKind.i64 y62, Go.Ab.AV.int Go.IntKind.i64 y63, Go.Ab.AV.int Go.IntKind.i64 y64, Go.Ab.AV.int Go.IntKind.i64 y65], Go.Ab.AObj.cells Bool.true y66]) n x25 x26 x27 x28 x29 x30 x31 x32 x33 x34 x35 x36 x37 x38
  | 0, _, _, _, _, _, _, _, _, _, _, _, _, _, _ => rfl
  | n + 1, x25, x26, x27, x28, x29, x30, x31, x32, x33, x34, x35, x36, x37, x38 => by
    have ih : (fun (x25 : Int) (x26 : Int) (x27 : Int) (x28 : Int) (x29 : Int) (x30 : Int) (x31 : Int) (x32 : Int) (x33 : Int) (x34 : Int) (x35 : Int) (x36 : Int) (x37 : Int) (x38 : List Go.Ab.AV) => Go.Ab.loopK 15 0 (laws_toIntA6.A.live 3) (laws_toIntA6.A.out 3) (fun t o k => Go.Ab.denK Go.Proofs.Tryd.prog (laws_toIntA6.G n0) laws_toIntA6.A (laws_toIntA6.H n0) 15 0 (laws_toIntA6.B 0) t o k) n [Go.Ab.AV.ptr 0 0, Go.Ab.AV.ptr 1 0, Go.Ab.AV.ptr 2 0, Go.Ab.AV.int Go.IntKind.i64 x25] [Go.Ab.AObj.cells Bool.true [Go.Ab.AV.int Go.IntKind.i64 x26, Go.Ab.AV.int Go.IntKind.i64 x27, Go.Ab.AV.int Go.IntKind.i64 x28, Go.Ab.AV.int Go.IntKind.i64 x29, Go.Ab.AV.int Go.IntKind.i64 x30, Go.Ab.AV.int Go.IntKind.i64 x31], Go.Ab.AObj.cells Bool.true [Go.Ab.AV.int Go.IntKind.i64 x32, Go.Ab.AV.int Go.IntKind.i64 x33, Go.Ab.AV.int Go.IntKind.i64 x34, Go.Ab.AV.int Go.IntKind.i64 x35, Go.Ab.AV.int Go.IntKind.i64 x36, Go.Ab.AV.int Go.IntKind.i64 x37], Go.Ab.AObj.cells Bool.true x38] K) = laws_toIntA6.l3 n0 (fun y60 y61 y62 y63 y64 y65 y66 => K (Go.Ab.Ex.exit 0) [Go.Ab.AV.ptr 0 0, Go.Ab.AV.ptr 1 0] [Go.Ab.AObj.cells Bool.true [Go.Ab.AV.int Go.IntKind.i64 y60, Go.Ab.AV.int Go.IntKind.i64 y61, Go.Ab.AV.int Go.IntKind.i64 y62, Go.Ab.AV.int Go.IntKind.i64 y63, Go.Ab.AV.int Go.IntKind.i64 y64, Go.Ab.AV.int Go.IntKind.i64 y65], Go.Ab.AObj.cells Bool.true y66]) n := by funext x25 x26 x27 x28 x29 x30 x31 x32 x33 x34 x35 x36 x37 x38; exact laws_toIntA6.loop3 n0 K n x25 x26 x27 x28 x29 x30 x31 x32 x33 x34 x35 x36 x37 x38
    have st : Go.Ab.loopK 15 0 (laws_toIntA6.A.live 3) (laws_toIntA6.A.out 3) (fun t o k => Go.Ab.denK Go.Proofs.Tryd.prog (laws_toIntA6.G n0) laws_toIntA6.A (laws_toIntA6.H n0) 15 0 (laws_toIntA6.B 0) t o k) (n + 1) [Go.Ab.AV.ptr 0 0, Go.Ab.AV.ptr 1 0, Go.Ab.AV.ptr 2 0, Go.Ab.AV.int Go.IntKind.i64 x25] [Go.Ab.AObj.cells Bool.true [Go.Ab.AV.int Go.IntKind.i64 x26, Go.Ab.AV.int Go.IntKind.i64 x27, Go.Ab.AV.int Go.IntKind.i64 x28, Go.Ab.AV.int Go.IntKind.i64 x29, Go.Ab.AV.int Go.IntKind.i64 x30, Go.Ab.AV.int Go.IntKind.i64 x31], Go.Ab.AObj.cells Bool.true [Go.Ab.AV.int Go.IntKind.i64 x32, Go.Ab.AV.int Go.IntKind.i64 x33, Go.Ab.AV.int Go.IntKind.i64 x34, Go.Ab.AV.int Go.IntKind.i64 x35, Go.Ab.AV.int Go.IntKind.i64 x36, Go.Ab.AV.int Go.IntKind.i64 x37], Go.Ab.AObj.cells Bool.true x38] K = laws_toIntA6.l3S n0 (fun (x25 : Int) (x26 : Int) (x27 : Int) (x28 : Int) (x29 : Int) (x30 : Int) (x31 : Int) (x32 : Int) (x33 : Int) (x34 : Int) (x35 : Int) (x36 : Int) (x37 : Int) (x38 : List Go.Ab.AV) => Go.Ab.loopK 15 0 (laws_toIntA6.A.live 3) (laws_toIntA6.A.out 3) (fun t o k => Go.Ab.denK Go.Proofs.Tryd.prog (laws_toIntA6.G n0) laws_toIntA6.A (laws_toIntA6.H n0) 15 0 (laws_toIntA6.B 0) t o k) n [Go.Ab.AV.ptr 0 0, Go.Ab.AV.ptr 1 0, Go.Ab.AV.ptr 2 0, Go.Ab.AV.int Go.IntKind.i64 x25] [Go.Ab.AObj.cells Bool.true [Go.Ab.AV.int Go.IntKind.i64 x26, Go.Ab.AV.int Go.IntKind.i64 x27, Go.Ab.AV.int Go.IntKind.i64 x28, Go.Ab.AV.int Go.IntKind.i64 x29, Go.Ab.AV.int Go.IntKind.i64 x30, Go.Ab.AV.int Go.IntKind.i64 x31], Go.Ab.AObj.cells Bool.true [Go.Ab.AV.int Go.IntKind.i64 x32, Go.Ab.AV.int Go.IntKind.i64 x33, Go.Ab.AV.int Go.IntKind.i64 x34, Go.Ab.AV.int Go.IntKind.i64 x35, Go.Ab.AV.int Go.IntKind.i64 x36, Go.Ab.AV.int Go.IntKind.i64 x37], Go.Ab.AObj.cells Bool.true x38] K) (fun y60 y61 y62 y63 y64 y65 y66 => K (Go.Ab.Ex.exit 0) [Go.Ab.AV.ptr 0 0, Go.Ab.AV.ptr 1 0] [Go.Ab.AObj.cells Bool.true [Go.Ab.AV.int Go.IntKind.i64 y60, Go.Ab.AV.int Go.IntKind.i64 y61, Go.Ab.AV.int Go.IntKind.i64 y62, Go.Ab.AV.int Go.IntKind.i64 y63, Go.Ab.AV.int Go.IntKind.i64 y64, Go.Ab.AV.int Go.IntKind.i64 y65], Go.Ab.AObj.cells Bool.true y66]) x25 x26 x27 x28 x29 x30 x31 x32 x33 x34 x35 x36 x37 x38 := by kernel_rfl
    rw [st, ih]; rfl
theorem laws_toIntA6.lok3 (n0 : Nat) : Go.Ab.LoopOk Go.Proofs.Tryd.prog (laws_toIntA6.G n0) laws_toIntA6.A (laws_toIntA6.H n0) 15 0 (laws_toIntA6.B 0) := by
  intro v o K r h
  have hk : Go.Ab.key (laws_toIntA6.B 0) = 3 := by kernel_rfl
  rw [hk] at h ⊢
  change laws_toIntA6.h3 n0 v o K = some r at h
  unfold laws_toIntA6.h3 at h
  split at h
  · exact ⟨n0, by rw [laws_toIntA6.loop3]; exact h⟩
  · cases h
theorem laws_toIntA6.loops (n0 : Nat) : ∀ b ∈ Go.Ab.loopsOf (bodyOf Go.Proofs.Tryd.f83), Go.Ab.LoopOk Go.Proofs.Tryd.prog (laws_toIntA6.G n0) laws_toIntA6.A (laws_toIntA6.H n0) 15 0 b :=
  Go.Ab.forall_getD 1 (by kernel_rfl) Go.Code.skip fun i hi => match i, hi with
    | 0, _ => laws_toIntA6.lok3 n0
    | j + 1, hj => absurd hj (by omega)
theorem laws_toIntA6.cuts (n0 : Nat) : ∀ b ∈ Go.Ab.cutsOf laws_toIntA6.A (bodyOf Go.Proofs.Tryd.f83), Go.Ab.CutOk Go.Proofs.Tryd.prog (laws_toIntA6.G n0) laws_toIntA6.A (laws_toIntA6.H n0) 15 0 b := Go.Ab.forall_nil (by kernel_rfl)
theorem laws_toIntA6.eq (n : Nat) (a0 : Int) (a1 : Int) (a2 : Int) (a3 : Int) (a4 : Int) (a5 : Int) : Go.Ab.funK Go.Proofs.Tryd.prog (laws_toIntA6.G n) laws_toIntA6.A (laws_toIntA6.H n) false Go.Proofs.Tryd.f83 (bodyOf Go.Proofs.Tryd.f83) [Go.Ab.AV.agg [Go.Ab.AV.int Go.IntKind.i64 a0, Go.Ab.AV.int Go.IntKind.i64 a1, Go.Ab.AV.int Go.IntKind.i64 a2, Go.Ab.AV.int Go.IntKind.i64 a3, Go.Ab.AV.int Go.IntKind.i64 a4, Go.Ab.AV.int Go.IntKind.i64 a5]] [] laws_toIntA6.dec = laws_toIntA6.f n a0 a1 a2 a3 a4 a5 := by kernel_rfl
theorem laws_toIntA6.gok (X : Wd) (n : Nat) {R : Type} : Go.Ab.CtrOk (En X) (laws_toIntA6.G n : Go.Ab.Ctr R) := by
  intro g args objs k r h
  cases h
theorem laws_toIntA6.hdec (r : (Int × Int × Int × Int × Int × Int)) (v : Go.Ab.AV) (o : List Go.Ab.AObj) (h : laws_toIntA6.dec v o = some r) : v = Go.Ab.AV.agg [Go.Ab.AV.int Go.IntKind.i64 (r.1), Go.Ab.AV.int Go.IntKind.i64 (r.2.1), Go.Ab.AV.int Go.IntKind.i64 (r.2.2.1), Go.Ab.AV.int Go.IntKind.i64 (r.2.2.2.1), Go.Ab.AV.int Go.IntKind.i64 (r.2.2.2.2.1), Go.Ab.AV.int Go.IntKind.i64 (r.2.2.2.2.2)] ∧ o = [] := by
  unfold laws_toIntA6.dec at h
  split at h
  · cases h; exact ⟨rfl, rfl⟩
  · cases h
theorem laws_toIntA6.sim (X : Wd) (n : Nat) (a0 : Int) (a1 : Int) (a2 : Int) (a3 : Int) (a4 : Int) (a5 : Int) (r : (Int × Int × Int × Int × Int × Int)) (h : laws_toIntA6.f n a0 a1 a2 a3 a4 a5 = some r) : Go.Ab.Sim (En X) 83 [Go.Ab.AV.agg [Go.Ab.AV.int Go.IntKind.i64 a0, Go.Ab.AV.int Go.IntKind.i64 a1, Go.Ab.AV.int Go.IntKind.i64 a2, Go.Ab.AV.int Go.IntKind.i64 a3, Go.Ab.AV.int Go.IntKind.i64 a4, Go.Ab.AV.int Go.IntKind.i64 a5]] [] (Go.Ab.AV.agg [Go.Ab.AV.int Go.IntKind.i64 (r.1), Go.Ab.AV.int Go.IntKind.i64 (r.2.1), Go.Ab.AV.int Go.IntKind.i64 (r.2.2.1), Go.Ab.AV.int Go.IntKind.i64 (r.2.2.2.1), Go.Ab.AV.int Go.IntKind.i64 (r.2.2.2.2.1), Go.Ab.AV.int Go.IntKind.i64 (r.2.2.2.2.2)]) [] :=
  Go.Ab.sim_of (E := En X) (laws_toIntA6.gok X n) mix (fn := Go.Proofs.Tryd.f83) (c := (bodyOf Go.Proofs.Tryd.f83)) (by kernel_rfl) (by kernel_rfl) (by kernel_rfl) (laws_toIntA6.loops n) (laws_toIntA6.cuts n) ((laws_toIntA6.eq n a0 a1 a2 a3 a4 a5).trans h) (laws_toIntA6.hdec r)
noncomputable def laws_toIntA6.ctr (n : Nat) {R : Type} : List Go.Ab.AV → List Go.Ab.AObj → (Go.Ab.AV → List Go.Ab.AObj → Option R) → Option R
  | [Go.Ab.AV.agg [Go.Ab.AV.int Go.IntKind.i64 a0, Go.Ab.AV.int Go.IntKind.i64 a1, Go.Ab.AV.int Go.IntKind.i64 a2, Go.Ab.AV.int Go.IntKind.i64 a3, Go.Ab.AV.int Go.IntKind.i64 a4, Go.Ab.AV.int Go.IntKind.i64 a5]], [], k => (laws_toIntA6.f n a0 a1 a2 a3 a4 a5).bind fun r => k (Go.Ab.AV.agg [Go.Ab.AV.int Go.IntKind.i64 (r.1), Go.Ab.AV.int Go.IntKind.i64 (r.2.1), Go.Ab.AV.int Go.IntKind.i64 (r.2.2.1), Go.Ab.AV.int Go.IntKind.i64 (r.2.2.2.1), Go.Ab.AV.int Go.IntKind.i64 (r.2.2.2.2.1), Go.Ab.AV.int Go.IntKind.i64 (r.2.2.2.2.2)]) []
  | _, _, _ => none
noncomputable def laws_toIntA6.fits : List Go.Ab.AV → List Go.Ab.AObj → Bool
  | [Go.Ab.AV.agg [Go.Ab.AV.int Go.IntKind.i64 a0, Go.Ab.AV.int Go.IntKind.i64 a1, Go.Ab.AV.int Go.IntKind.i64 a2, Go.Ab.AV.int Go.IntKind.i64 a3, Go.Ab.AV.int Go.IntKind.i64 a4, Go.Ab.AV.int Go.IntKind.i64 a5]], [] => true
  | _, _ => false
theorem laws_toIntA6.ok (X : Wd) (n : Nat) {R : Type} (args : List Go.Ab.AV) (objs : List Go.Ab.AObj) (k : Go.Ab.AV → List Go.Ab.AObj → Option R) (r : R) (h : laws_toIntA6.ctr n args objs k = some r) :
    Go.Ab.Enters Go.Proofs.Tryd.prog 83 ∧ ∃ v objs', Go.Ab.Sim (En X) 83 args objs v objs' ∧ k v objs' = some r := by
  unfold laws_toIntA6.ctr at h
  split at h
  · obtain ⟨x, h1, h2⟩ := Option.bind_eq_some_iff.1 h
    exact ⟨⟨Go.Proofs.Tryd.f83, by kernel_rfl, by kernel_rfl, by kernel_rfl⟩, _, _, laws_toIntA6.sim X n _ _ _ _ _ _ x h1, h2⟩
  · cases h

noncomputable def laws_toSheet.dec (v : Go.Ab.AV) (o : List Go.Ab.AObj) : Option (Int × Int × Int × Int × Int × Int) := match v, o with
  | Go.Ab.AV.agg [Go.Ab.AV.int Go.IntKind.i64 a6, Go.Ab.AV.int Go.IntKind.i64 a7, Go.Ab.AV.int Go.IntKind.i64 a8, Go.Ab.AV.int Go.IntKind.i64 a9, Go.Ab.AV.int Go.IntKind.i64 a10, Go.Ab.AV.int Go.IntKind.i64 a11], [] => some (a6, a7, a8, a9, a10, a11)
  | _, _ => none
noncomputable def laws_toSheet.A : Go.Ab.Ann := { live := fun _ => [], out := fun _ => [], cut := fun _ => none }
noncomputable def laws_toSheet.G (n : Nat) {R : Type} : Go.Ab.Ctr R := fun g args objs k => match g with | 83 => laws_toIntA6.ctr n args objs k | _ => none
noncomputable def laws_toSheet.B (i : Nat) : Go.Code := (Go.Ab.loopsOf (bodyOf Go.Proofs.Tryd.f68)).getD i Go.Code.skip
noncomputable def laws_toSheet.H (n : Nat) : Go.Ab.Hnd (Int × Int × Int × Int × Int × Int) := { loop := fun key _ v o K => none, cut := fun _ _ _ _ _ => none }
theorem laws_toSheet.loops (n0 : Nat) : ∀ b ∈ Go.Ab.loopsOf (bodyOf Go.Proofs.Tryd.f68), Go.Ab.LoopOk Go.Proofs.Tryd.prog (laws_toSheet.G n0) laws_toSheet.A (laws_toSheet.H n0) 9 0 b := Go.Ab.forall_nil (by kernel_rfl)
theorem laws_toSheet.cuts (n0 : Nat) : ∀ b ∈ Go.Ab.cutsOf laws_toSheet.A (bodyOf Go.Proofs.Tryd.f68), Go.Ab.CutOk Go.Proofs.Tryd.prog (laws_toSheet.G n0) laws_toSheet.A (laws_toSheet.H n0) 9 0 b := Go.Ab.forall_nil (by kernel_rfl)
theorem laws_toSheet.eq (n : Nat) (a0 : Int) (a1 : Int) (a2 : Int) (a3 : Int) (a4 : Int) (a5 : Int) : Go.Ab.funK Go.Proofs.Tryd.prog (laws_toSheet.G n) laws_toSheet.A (laws_toSheet.H n) false Go.Proofs.Tryd.f68 (bodyOf Go.Proofs.Tryd.f68) [Go.Ab.AV.agg [Go.Ab.AV.int Go.IntKind.i64 a0, Go.Ab.AV.int Go.IntKind.i64 a1, Go.Ab.AV.int Go.IntKind.i64 a2, Go.Ab.AV.int Go.IntKind.i64 a3, Go.Ab.AV.int Go.IntKind.i64 a4, Go.Ab.AV.int Go.IntKind.i64 a5]] [] laws_toSheet.dec = laws_toSheet.f n a0 a1 a2 a3 a4 a5 := by kernel_rfl
theorem laws_toSheet.gok (X : Wd) (n : Nat) {R : Type} : Go.Ab.CtrOk (En X) (laws_toSheet.G n : Go.Ab.Ctr R) := by
  intro g args objs k r h
  unfold laws_toSheet.G at h
  split at h
  · exact laws_toIntA6.ok X _ args objs k r h
  · cases h
theorem laws_toSheet.hdec (r : (Int × Int × Int × Int × Int × Int)) (v : Go.Ab.AV) (o : List Go.Ab.AObj) (h : laws_toSheet.dec v o = some r) : v = Go.Ab.AV.agg [Go.Ab.AV.int Go.IntKind.i64 (r.1), Go.Ab.AV.int Go.IntKind.i64 (r.2.1), Go.Ab.AV.int Go.IntKind.i64 (r.2.2.1), Go.Ab.AV.int Go.IntKind.i64 (r.2.2.2.1), Go.Ab.AV.int Go.IntKind.i64 (r.2.2.2.2.1), Go.Ab.AV.int Go.IntKind.i64 (r.2.2.2.2.2)] ∧ o = [] := by
  unfold laws_toSheet.dec at h
  split at h
  · cases h; exact ⟨rfl, rfl⟩
  · cases h
theorem laws_toSheet.sim (X : Wd) (n : Nat) (a0 : Int) (a1 : Int) (a2 : Int) (a3 : Int) (a4 : Int) (a5 : Int) (r : (Int × Int × Int × Int × Int × Int)) (h : laws_toSheet.f n a0 a1 a2 a3 a4 a5 = some r) : Go.Ab.Sim (En X) 68 [Go.Ab.AV.agg [Go.Ab.AV.int Go.IntKind.i64 a0, Go.Ab.AV.int Go.IntKind.i64 a1, Go.Ab.AV.int Go.IntKind.i64 a2, Go.Ab.AV.int Go.IntKind.i64 a3, Go.Ab.AV.int Go.IntKind.i64 a4, Go.Ab.AV.int Go.IntKind.i64 a5]] [] (Go.Ab.AV.agg [Go.Ab.AV.int Go.IntKind.i64 (r.1), Go.Ab.AV.int Go.IntKind.i64 (r.2.1), Go.Ab.AV.int Go.IntKind.i64 (r.2.2.1), Go.Ab.AV.int Go.IntKind.i64 (r.2.2.2.1), Go.Ab.AV.int Go.IntKind.i64 (r.2.2.2.2.1), Go.Ab.AV.int Go.IntKind.i64 (r.2.2.2.2.2)]) [] :=
  Go.Ab.sim_of (E := En X) (laws_toSheet.gok X n) mix (fn := Go.Proofs.Tryd.f68) (c := (bodyOf Go.Proofs.Tryd.f68)) (by kernel_rfl) (by kernel_rfl) (by kernel_rfl) (laws_toSheet.loops n) (laws_toSheet.cuts n) ((laws_toSheet.eq n a0 a1 a2 a3 a4 a5).trans h) (laws_toSheet.hdec r)
noncomputable def laws_toSheet.ctr (n : Nat) {R : Type} : List Go.Ab.AV → List Go.Ab.AObj → (Go.Ab.AV → List Go.Ab.AObj → Option R) → Option R
  | [Go.Ab.AV.agg [Go.Ab.AV.int Go.IntKind.i64 a0, Go.Ab.AV.int Go.IntKind.i64 a1, Go.Ab.AV.int Go.IntKind.i64 a2, Go.Ab.AV.int Go.IntKind.i64 a3, Go.Ab.AV.int Go.IntKind.i64 a4, Go.Ab.AV.int Go.IntKind.i64 a5]], [], k => (laws_toSheet.f n a0 a1 a2 a3 a4 a5).bind fun r => k (Go.Ab.AV.agg [Go.Ab.AV.int Go.IntKind.i64 (r.1), Go.Ab.AV.int Go.IntKind.i64 (r.2.1), Go.Ab.AV.int Go.IntKind.i64 (r.2.2.1), Go.Ab.AV.int Go.IntKind.i64 (r.2.2.2.1), Go.Ab.AV.int Go.IntKind.i64 (r.2.2.2.2.1), Go.Ab.AV.int Go.IntKind.i64 (r.2.2.2.2.2)]) []
  | _, _, _ => none
noncomputable def laws_toSheet.fits : List Go.Ab.AV → List Go.Ab.AObj → Bool
  | [Go.Ab.AV.agg [Go.Ab.AV.int Go.IntKind.i64 a0, Go.Ab.AV.int Go.IntKind.i64 a1, Go.Ab.AV.int Go.IntKind.i64 a2, Go.Ab.AV.int Go.IntKind.i64 a3, Go.Ab.AV.int Go.IntKind.i64 a4, Go.Ab.AV.int Go.IntKind.i64 a5]], [] => true
  | _, _ => false
theorem laws_toSheet.ok (X : Wd) (n : Nat) {R : Type} (args : List Go.Ab.AV) (objs : List Go.Ab.AObj) (k : Go.Ab.AV → List Go.Ab.AObj → Option R) (r : R) (h : laws_toSheet.ctr n args objs k = some r) :
    Go.Ab.Enters Go.Proofs.Tryd.prog 68 ∧ ∃ v objs', Go.Ab.Sim (En X) 68 args objs v objs' ∧ k v objs' = some r := by
  unfold laws_toSheet.ctr at h
  split at h
  · obtain ⟨x, h1, h2⟩ := Option.bind_eq_some_iff.1 h
    exact ⟨⟨Go.Proofs.Tryd.f68, by kernel_rfl, by kernel_rfl, by kernel_rfl⟩, _, _, laws_toSheet.sim X n _ _ _ _ _ _ x h1, h2⟩
  · cases h

noncomputable def laws_toShop.dec (v : Go.Ab.AV) (o : List Go.Ab.AObj) : Option (Int × Int × Int × Int × Int × Int × Int × Int × Int × Int × Int × Int × Int × Int) := match v, o with
  | Go.Ab.AV.agg [Go.Ab.AV.int Go.IntKind.i64 a14, Go.Ab.AV.int Go.IntKind.i64 a15, Go.Ab.AV.int Go.IntKind.i64 a16, Go.Ab.AV.int Go.IntKind.i64 a17, Go.Ab.AV.int Go.IntKind.i64 a18, Go.Ab.AV.int Go.IntKind.i64 a19, Go.Ab.AV.int Go.IntKind.i64 a20, Go.Ab.AV.int Go.IntKind.i64 a21, Go.Ab.AV.int Go.IntKind.i64 a22, Go.Ab.AV.int Go.IntKind.i64 a23, Go.Ab.AV.int Go.IntKind.i64 a24, Go.Ab.AV.int Go.IntKind.i64 a25, Go.Ab.AV.int Go.IntKind.i64 a26, Go.Ab.AV.int Go.IntKind.i64 a27], [] => some (a14, a15, a16, a17, a18, a19, a20, a21, a22, a23, a24, a25, a26, a27)
  | _, _ => none
noncomputable def laws_toShop.A : Go.Ab.Ann := { live := fun _ => [], out := fun _ => [], cut := fun _ => none }
noncomputable def laws_toShop.G (n : Nat) {R : Type} : Go.Ab.Ctr R := fun g args objs k => match g with | 68 => laws_toSheet.ctr n args objs k | _ => none
noncomputable def laws_toShop.B (i : Nat) : Go.Code := (Go.Ab.loopsOf (bodyOf Go.Proofs.Tryd.f47)).getD i Go.Code.skip
noncomputable def laws_toShop.H (n : Nat) : Go.Ab.Hnd (Int × Int × Int × Int × Int × Int × Int × Int × Int × Int × Int × Int × Int × Int) := { loop := fun key _ v o K => none, cut := fun _ _ _ _ _ => none }
theorem laws_toShop.loops (n0 : Nat) : ∀ b ∈ Go.Ab.loopsOf (bodyOf Go.Proofs.Tryd.f47), Go.Ab.LoopOk Go.Proofs.Tryd.prog (laws_toShop.G n0) laws_toShop.A (laws_toShop.H n0) 19 0 b := Go.Ab.forall_nil (by kernel_rfl)
theorem laws_toShop.cuts (n0 : Nat) : ∀ b ∈ Go.Ab.cutsOf laws_toShop.A (bodyOf Go.Proofs.Tryd.f47), Go.Ab.CutOk Go.Proofs.Tryd.prog (laws_toShop.G n0) laws_toShop.A (laws_toShop.H n0) 19 0 b := Go.Ab.forall_nil (by kernel_rfl)
theorem laws_toShop.eq (n : Nat) (a0 : Int) (a1 : Int) (a2 : Int) (a3 : Int) (a4 : Int) (a5 : Int) (a6 : Int) (a7 : Int) (a8 : Int) (a9 : Int) (a10 : Int) (a11 : Int) (a12 : Int) (a13 : Int) : Go.Ab.funK Go.Proofs.Tryd.prog (laws_toShop.G n) laws_toShop.A (laws_toShop.H n) false Go.Proofs.Tryd.f47 (bodyOf Go.Proofs.Tryd.f47) [Go.Ab.AV.agg [Go.Ab.AV.int Go.IntKind.i64 a0, Go.Ab.AV.int Go.IntKind.i64 a1, Go.Ab.AV.int Go.IntKind.i64 a2, Go.Ab.AV.int Go.IntKind.i64 a3, Go.Ab.AV.int Go.IntKind.i64 a4, Go.Ab.AV.int Go.IntKind.i64 a5, Go.Ab.AV.int Go.IntKind.i64 a6, Go.Ab.AV.int Go.IntKind.i64 a7, Go.Ab.AV.int Go.IntKind.i64 a8, Go.Ab.AV.int Go.IntKind.i64 a9, Go.Ab.AV.int Go.IntKind.i64 a10, Go.Ab.AV.int Go.IntKind.i64 a11, Go.Ab.AV.int Go.IntKind.i64 a12, Go.Ab.AV.int Go.IntKind.i64 a13]] [] laws_toShop.dec = laws_toShop.f n a0 a1 a2 a3 a4 a5 a6 a7 a8 a9 a10 a11 a12 a13 := by kernel_rfl
theorem laws_toShop.gok (X : Wd) (n : Nat) {R : Type} : Go.Ab.CtrOk (En X) (laws_toShop.G n : Go.Ab.Ctr R) := by
  intro g args objs k r h
  unfold laws_toShop.G at h
  split at h
  · exact laws_toSheet.ok X _ args objs k r h
  · cases h
theorem laws_toShop.hdec (r : (Int × Int × Int × Int × Int × Int × Int × Int × Int × Int × Int × Int × Int × Int)) (v : Go.Ab.AV) (o : List Go.Ab.AObj) (h : laws_toShop.dec v o = some r) : v = Go.Ab.AV.agg [Go.Ab.AV.int Go.IntKind.i64 (r.1), Go.Ab.AV.int Go.IntKind.i64 (r.2.1), Go.Ab.AV.int Go.IntKind.i64 (r.2.2.1), Go.Ab.AV.int Go.IntKind.i64 (r.2.2.2.1), Go.Ab.AV.int Go.IntKind.i64 (r.2.2.2.2.1), Go.Ab.AV.int Go.IntKind.i64 (r.2.2.2.2.2.1), Go.Ab.AV.int Go.IntKind.i64 (r.2.2.2.2.2.2.1), Go.Ab.AV.int Go.IntKind.i64 (r.2.2.2.2.2.2.2.1), Go.Ab.AV.int Go.IntKind.i64 (r.2.2.2.2.2.2.2.2.1), Go.Ab.AV.int Go.IntKind.i64 (r.2.2.2.2.2.2.2.2.2.1), Go.Ab.AV.int Go.IntKind.i64 (r.2.2.2.2.2.2.2.2.2.2.1), Go.Ab.AV.int Go.IntKind.i64 (r.2.2.2.2.2.2.2.2.2.2.2.1), Go.Ab.AV.int Go.IntKind.i64 (r.2.2.2.2.2.2.2.2.2.2.2.2.1), Go.Ab.AV.int Go.IntKind.i64 (r.2.2.2.2.2.2.2.2.2.2.2.2.2)] ∧ o = [] := by
  unfold laws_toShop.dec at h
  split at h
  · cases h; exact ⟨rfl, rfl⟩
  · cases h
theorem laws_toShop.sim (X : Wd) (n : Nat) (a0 : Int) (a1 : Int) (a2 : Int) (a3 : Int) (a4 : Int) (a5 : Int) (a6 : Int) (a7 : Int) (a8 : Int) (a9 : Int) (a10 : Int) (a11 : Int) (a12 : Int) (a13 : Int) (r : (Int × Int × Int × Int × Int × Int × Int × Int × Int × Int × Int × Int × Int × Int)) (h : laws_toShop.f n a0 a1 a2 a3 a4 a5 a6 a7 a8 a9 a10 a11 a12 a13 = some r) : Go.Ab.Sim (En X) 47 [Go.Ab.AV.agg [Go.Ab.AV.int Go.IntKind.i64 a0, Go.Ab.AV.int Go.IntKind.i64 a1, Go.Ab.AV.int Go.IntKind.i64 a2, Go.Ab.AV.int Go.IntKind.i64 a3, Go.Ab.AV.int Go.IntKind.i64 a4, Go.Ab.AV.int Go.IntKind.i64 a5, Go.Ab.AV.int Go.IntKind.i64 a6, Go.Ab.AV.int Go.IntKind.i64 a7, Go.Ab.AV.int Go.IntKind.i64 a8, Go.Ab.AV.int Go.IntKind.i64 a9, Go.Ab.AV.int Go.IntKind.i64 a10, Go.Ab.AV.int Go.IntKind.i64 a11, Go.Ab.AV.int Go.IntKind.i64 a12, Go.Ab.AV.int Go.IntKind.i64 a13]] [] (Go.Ab.AV.agg [Go.Ab.AV.int Go.IntKind.i64 (r.1), Go.Ab.AV.int Go.IntKind.i64 (r.2.1), Go.Ab.AV.int Go.IntKind.i64 (r.2.2.1), Go.Ab.AV.int Go.IntKind.i64 (r.2.2.2.1), Go.Ab.AV.int Go.IntKind.i64 (r.2.2.2.2.1), Go.Ab.AV.int Go.IntKind.i64 (r.2.2.2.2.2.1), Go.Ab.AV.int Go.IntKind.i64 (r.2.2.2.2.2.2.1), Go.Ab.AV.int Go.IntKind.i64 (r.2.2.2.2.2.2.2.1), Go.Ab.AV.int Go.IntKind.i64 (r.2.2.2.2.2.2.2.2.1), Go.Ab.AV.int Go.IntKind.i64 (r.2.2.2.2.2.2.2.2.2.1), Go.Ab.AV.int Go.IntKind.i64 (r.2.2.2.2.2.2.2.2.2.2.1), Go.Ab.AV.int Go.IntKind.i64 (r.2.2.2.2.2.2.2.2.2.2.2.1), Go.Ab.AV.int Go.IntKind.i64 (r.2.2.2.2.2.2.2.2.2.2.2.2.1), Go.Ab.AV.int Go.IntKind.i64 (r.2.2.2.2.2.2.2.2.2.2.2.2.2)]) [] :=
  Go.Ab.sim_of (E := En X) (laws_toShop.gok X n) mix (fn := Go.Proofs.Tryd.f47) (c := (bodyOf Go.Proofs.Tryd.f47)) (by kernel_rfl) (by kernel_rfl) (by kernel_rfl) (laws_toShop.loops n) (laws_toShop.cuts n) ((laws_toShop.eq n a0 a1 a2 a3 a4 a5 a6 a7 a8 a9 a10 a11 a12 a13).trans h) (laws_toShop.hdec r)
noncomputable def laws_toShop.ctr (n : Nat) {R : Type} : List Go.Ab.AV → List Go.Ab.AObj → (Go.Ab.AV → List Go.Ab.AObj → Option R) → Option R
  | [Go.Ab.AV.agg [Go.Ab.AV.int Go.IntKind.i64 a0, Go.Ab.AV.int Go.IntKind.i64 a1, Go.Ab.AV.int Go.IntKind.i64 a2, Go.Ab.AV.int Go.IntKind.i64 a3, Go.Ab.AV.int Go.IntKind.i64 a4, Go.Ab.AV.int Go.IntKind.i64 a5, Go.Ab.AV.int Go.IntKind.i64 a6, Go.Ab.AV.int Go.IntKind.i64 a7, Go.Ab.AV.int Go.IntKind.i64 a8, Go.Ab.AV.int Go.IntKind.i64 a9, Go.Ab.AV.int Go.IntKind.i64 a10, Go.Ab.AV.int Go.IntKind.i64 a11, Go.Ab.AV.int Go.IntKind.i64 a12, Go.Ab.AV.int Go.IntKind.i64 a13]], [], k => (laws_toShop.f n a0 a1 a2 a3 a4 a5 a6 a7 a8 a9 a10 a11 a12 a13).bind fun r => k (Go.Ab.AV.agg [Go.Ab.AV.int Go.IntKind.i64 (r.1), Go.Ab.AV.int Go.IntKind.i64 (r.2.1), Go.Ab.AV.int Go.IntKind.i64 (r.2.2.1), Go.Ab.AV.int Go.IntKind.i64 (r.2.2.2.1), Go.Ab.AV.int Go.IntKind.i64 (r.2.2.2.2.1), Go.Ab.AV.int Go.IntKind.i64 (r.2.2.2.2.2.1), Go.Ab.AV.int Go.IntKind.i64 (r.2.2.2.2.2.2.1), Go.Ab.AV.int Go.IntKind.i64 (r.2.2.2.2.2.2.2.1), Go.Ab.AV.int Go.IntKind.i64 (r.2.2.2.2.2.2.2.2.1), Go.Ab.AV.int Go.IntKind.i64 (r.2.2.2.2.2.2.2.2.2.1), Go.Ab.AV.int Go.IntKind.i64 (r.2.2.2.2.2.2.2.2.2.2.1), Go.Ab.AV.int Go.IntKind.i64 (r.2.2.2.2.2.2.2.2.2.2.2.1), Go.Ab.AV.int Go.IntKind.i64 (r.2.2.2.2.2.2.2.2.2.2.2.2.1), Go.Ab.AV.int Go.IntKind.i64 (r.2.2.2.2.2.2.2.2.2.2.2.2.2)]) []
  | _, _, _ => none
noncomputable def laws_toShop.fits : List Go.Ab.AV → List Go.Ab.AObj → Bool
  | [Go.Ab.AV.agg [Go.Ab.AV.int Go.IntKind.i64 a0, Go.Ab.AV.int Go.IntKind.i64 a1, Go.Ab.AV.int Go.IntKind.i64 a2, Go.Ab.AV.int Go.IntKind.i64 a3, Go.Ab.AV.int Go.IntKind.i64 a4, Go.Ab.AV.int Go.IntKind.i64 a5, Go.Ab.AV.int Go.IntKind.i64 a6, Go.Ab.AV.int Go.IntKind.i64 a7, Go.Ab.AV.int Go.IntKind.i64 a8, Go.Ab.AV.int Go.IntKind.i64 a9, Go.Ab.AV.int Go.IntKind.i64 a10, Go.Ab.AV.int Go.IntKind.i64 a11, Go.Ab.AV.int Go.IntKind.i64 a12, Go.Ab.AV.int Go.IntKind.i64 a13]], [] => true
  | _, _ => false
theorem laws_toShop.ok (X : Wd) (n : Nat) {R : Type} (args : List Go.Ab.AV) (objs : List Go.Ab.AObj) (k : Go.Ab.AV → List Go.Ab.AObj → Option R) (r : R) (h : laws_toShop.ctr n args objs k = some r) :
    Go.Ab.Enters Go.Proofs.Tryd.prog 47 ∧ ∃ v objs', Go.Ab.Sim (En X) 47 args objs v objs' ∧ k v objs' = some r := by
  unfold laws_toShop.ctr at h
  split at h
  · obtain ⟨x, h1, h2⟩ := Option.bind_eq_some_iff.1 h
    exact ⟨⟨Go.Proofs.Tryd.f47, by kernel_rfl, by kernel_rfl, by kernel_rfl⟩, _, _, laws_toShop.sim X n _ _ _ _ _ _ _ _ _ _ _ _ _ _ x h1, h2⟩
  · cases h

noncomputable def laws_toLog.dec (v : Go.Ab.AV) (o : List Go.Ab.AObj) : Option (ByteArray × ByteArray × Int) := match v, o with
  | Go.Ab.AV.agg [Go.Ab.AV.str a3, Go.Ab.AV.str a4, Go.Ab.AV.int Go.IntKind.i64 a5], [] => some (a3, a4, a5)
  | _, _ => none
noncomputable def laws_toLog.A : Go.Ab.Ann := { live := fun _ => [], out := fun _ => [], cut := fun _ => none }
noncomputable def laws_toLog.G (n : Nat) {R : Type} : Go.Ab.Ctr R := fun g args objs k => none
noncomputable def laws_toLog.B (i : Nat) : Go.Code := (Go.Ab.loopsOf (bodyOf Go.Proofs.Tryd.f9)).getD i Go.Code.skip
noncomputable def laws_toLog.H (n : Nat) : Go.Ab.Hnd (ByteArray × ByteArray × Int) := { loop := fun key _ v o K => none, cut := fun _ _ _ _ _ => none }
theorem laws_toLog.loops (n0 : Nat) : ∀ b ∈ Go.Ab.loopsOf (bodyOf Go.Proofs.Tryd.f9), Go.Ab.LoopOk Go.Proofs.Tryd.prog (laws_toLog.G n0) laws_toLog.A (laws_toLog.H n0) 14 0 b := Go.Ab.forall_nil (by kernel_rfl)
theorem laws_toLog.cuts (n0 : Nat) : ∀ b ∈ Go.Ab.cutsOf laws_toLog.A (bodyOf Go.Proofs.Tryd.f9), Go.Ab.CutOk Go.Proofs.Tryd.prog (laws_toLog.G n0) laws_toLog.A (laws_toLog.H n0) 14 0 b := Go.Ab.forall_nil (by kernel_rfl)
theorem laws_toLog.eq (n : Nat) (a0 : ByteArray) (a1 : ByteArray) (a2 : Int) : Go.Ab.funK Go.Proofs.Tryd.prog (laws_toLog.G n) laws_toLog.A (laws_toLog.H n) false Go.Proofs.Tryd.f9 (bodyOf Go.Proofs.Tryd.f9) [Go.Ab.AV.agg [Go.Ab.AV.str a0, Go.Ab.AV.str a1, Go.Ab.AV.int Go.IntKind.i64 a2]] [] laws_toLog.dec = laws_toLog.f n a0 a1 a2 := by kernel_rfl
theorem laws_toLog.gok (X : Wd) (n : Nat) {R : Type} : Go.Ab.CtrOk (En X) (laws_toLog.G n : Go.Ab.Ctr R) := by
  intro g args objs k r h
  cases h
theorem laws_toLog.hdec (r : (ByteArray × ByteArray × Int)) (v : Go.Ab.AV) (o : List Go.Ab.AObj) (h : laws_toLog.dec v o = some r) : v = Go.Ab.AV.agg [Go.Ab.AV.str (r.1), Go.Ab.AV.str (r.2.1), Go.Ab.AV.int Go.IntKind.i64 (r.2.2)] ∧ o = [] := by
  unfold laws_toLog.dec at h
  split at h
  · cases h; exact ⟨rfl, rfl⟩
  · cases h
theorem laws_toLog.sim (X : Wd) (n : Nat) (a0 : ByteArray) (a1 : ByteArray) (a2 : Int) (r : (ByteArray × ByteArray × Int)) (h : laws_toLog.f n a0 a1 a2 = some r) : Go.Ab.Sim (En X) 9 [Go.Ab.AV.agg [Go.Ab.AV.str a0, Go.Ab.AV.str a1, Go.Ab.AV.int Go.IntKind.i64 a2]] [] (Go.Ab.AV.agg [Go.Ab.AV.str (r.1), Go.Ab.AV.str (r.2.1), Go.Ab.AV.int Go.IntKind.i64 (r.2.2)]) [] :=
  Go.Ab.sim_of (E := En X) (laws_toLog.gok X n) mix (fn := Go.Proofs.Tryd.f9) (c := (bodyOf Go.Proofs.Tryd.f9)) (by kernel_rfl) (by kernel_rfl) (by kernel_rfl) (laws_toLog.loops n) (laws_toLog.cuts n) ((laws_toLog.eq n a0 a1 a2).trans h) (laws_toLog.hdec r)
noncomputable def laws_toLog.ctr (n : Nat) {R : Type} : List Go.Ab.AV → List Go.Ab.AObj → (Go.Ab.AV → List Go.Ab.AObj → Option R) → Option R
  | [Go.Ab.AV.agg [Go.Ab.AV.str a0, Go.Ab.AV.str a1, Go.Ab.AV.int Go.IntKind.i64 a2]], [], k => (laws_toLog.f n a0 a1 a2).bind fun r => k (Go.Ab.AV.agg [Go.Ab.AV.str (r.1), Go.Ab.AV.str (r.2.1), Go.Ab.AV.int Go.IntKind.i64 (r.2.2)]) []
  | _, _, _ => none
noncomputable def laws_toLog.fits : List Go.Ab.AV → List Go.Ab.AObj → Bool
  | [Go.Ab.AV.agg [Go.Ab.AV.str a0, Go.Ab.AV.str a1, Go.Ab.AV.int Go.IntKind.i64 a2]], [] => true
  | _, _ => false
theorem laws_toLog.ok (X : Wd) (n : Nat) {R : Type} (args : List Go.Ab.AV) (objs : List Go.Ab.AObj) (k : Go.Ab.AV → List Go.Ab.AObj → Option R) (r : R) (h : laws_toLog.ctr n args objs k = some r) :
    Go.Ab.Enters Go.Proofs.Tryd.prog 9 ∧ ∃ v objs', Go.Ab.Sim (En X) 9 args objs v objs' ∧ k v objs' = some r := by
  unfold laws_toLog.ctr at h
  split at h
  · obtain ⟨x, h1, h2⟩ := Option.bind_eq_some_iff.1 h
    exact ⟨⟨Go.Proofs.Tryd.f9, by kernel_rfl, by kernel_rfl, by kernel_rfl⟩, _, _, laws_toLog.sim X n _ _ _ x h1, h2⟩
  · cases h

noncomputable def laws_toConsole.dec (v : Go.Ab.AV) (o : List Go.Ab.AObj) : Option (Int × Int × Int × Int × Int × Int × Int × Int × Int × Int × Int × Int × Int × Int × ByteArray × ByteArray × Int) := match v, o with
  | Go.Ab.AV.agg [Go.Ab.AV.int Go.IntKind.i64 a17, Go.Ab.AV.int Go.IntKind.i64 a18, Go.Ab.AV.int Go.IntKind.i64 a19, Go.Ab.AV.int Go.IntKind.i64 a20, Go.Ab.AV.int Go.IntKind.i64 a21, Go.Ab.AV.int Go.IntKind.i64 a22, Go.Ab.AV.int Go.IntKind.i64 a23, Go.Ab.AV.int Go.IntKind.i64 a24, Go.Ab.AV.int Go.IntKind.i64 a25, Go.Ab.AV.int Go.IntKind.i64 a26, Go.Ab.AV.int Go.IntKind.i64 a27, Go.Ab.AV.int Go.IntKind.i64 a28, Go.Ab.AV.int Go.IntKind.i64 a29, Go.Ab.AV.int Go.IntKind.i64 a30, Go.Ab.AV.str a31, Go.Ab.AV.str a32, Go.Ab.AV.int Go.IntKind.i64 a33], [] => some (a17, a18, a19, a20, a21, a22, a23, a24, a25, a26, a27, a28, a29, a30, a31, a32, a33)
  | _, _ => none
noncomputable def laws_toConsole.A : Go.Ab.Ann := { live := fun _ => [], out := fun _ => [], cut := fun _ => none }
noncomputable def laws_toConsole.G (n : Nat) {R : Type} : Go.Ab.Ctr R := fun g args objs k => match g with | 47 => laws_toShop.ctr n args objs k | 9 => laws_toLog.ctr n args objs k | _ => none
noncomputable def laws_toConsole.B (i : Nat) : Go.Code := (Go.Ab.loopsOf (bodyOf Go.Proofs.Tryd.f16)).getD i Go.Code.skip
noncomputable def laws_toConsole.H (n : Nat) : Go.Ab.Hnd (Int × Int × Int × Int × Int × Int × Int × Int × Int × Int × Int × Int × Int × Int × ByteArray × ByteArray × Int) := { loop := fun key _ v o K => none, cut := fun _ _ _ _ _ => none }
theorem laws_toConsole.loops (n0 : Nat) : ∀ b ∈ Go.Ab.loopsOf (bodyOf Go.Proofs.Tryd.f16), Go.Ab.LoopOk Go.Proofs.Tryd.prog (laws_toConsole.G n0) laws_toConsole.A (laws_toConsole.H n0) 13 0 b := Go.Ab.forall_nil (by kernel_rfl)
theorem laws_toConsole.cuts (n0 : Nat) : ∀ b ∈ Go.Ab.cutsOf laws_toConsole.A (bodyOf Go.Proofs.Tryd.f16), Go.Ab.CutOk Go.Proofs.Tryd.prog (laws_toConsole.G n0) laws_toConsole.A (laws_toConsole.H n0) 13 0 b := Go.Ab.forall_nil (by kernel_rfl)
theorem laws_toConsole.eq (n : Nat) (a0 : Int) (a1 : Int) (a2 : Int) (a3 : Int) (a4 : Int) (a5 : Int) (a6 : Int) (a7 : Int) (a8 : Int) (a9 : Int) (a10 : Int) (a11 : Int) (a12 : Int) (a13 : Int) (a14 : ByteArray) (a15 : ByteArray) (a16 : Int) : Go.Ab.funK Go.Proofs.Tryd.prog (laws_toConsole.G n) laws_toConsole.A (laws_toConsole.H n) false Go.Proofs.Tryd.f16 (bodyOf Go.Proofs.Tryd.f16) [Go.Ab.AV.agg [Go.Ab.AV.int Go.IntKind.i64 a0, Go.Ab.AV.int Go.IntKind.i64 a1, Go.Ab.AV.int Go.IntKind.i64 a2, Go.Ab.AV.int Go.IntKind.i64 a3, Go.Ab.AV.int Go.IntKind.i64 a4, Go.Ab.AV.int Go.IntKind.i64 a5, Go.Ab.AV.int Go.IntKind.i64 a6, Go.Ab.AV.int Go.IntKind.i64 a7, Go.Ab.AV.int Go.IntKind.i64 a8, Go.Ab.AV.int Go.IntKind.i64 a9, Go.Ab.AV.int Go.IntKind.i64 a10, Go.Ab.AV.int Go.IntKind.i64 a11, Go.Ab.AV.int Go.IntKind.i64 a12, Go.Ab.AV.int Go.IntKind.i64 a13, Go.Ab.AV.str a14, Go.Ab.AV.str a15, Go.Ab.AV.int Go.IntKind.i64 a16]] [] laws_toConsole.dec = laws_toConsole.f n a0 a1 a2 a3 a4 a5 a6 a7 a8 a9 a10 a11 a12 a13 a14 a15 a16 := by kernel_rfl
theorem laws_toConsole.gok (X : Wd) (n : Nat) {R : Type} : Go.Ab.CtrOk (En X) (laws_toConsole.G n : Go.Ab.Ctr R) := by
  intro g args objs k r h
  unfold laws_toConsole.G at h
  split at h
  · exact laws_toShop.ok X _ args objs k r h
  · exact laws_toLog.ok X _ args objs k r h
  · cases h
theorem laws_toConsole.hdec (r : (Int × Int × Int × Int × Int × Int × Int × Int × Int × Int × Int × Int × Int × Int × ByteArray × ByteArray × Int)) (v : Go.Ab.AV) (o : List Go.Ab.AObj) (h : laws_toConsole.dec v o = some r) : v = Go.Ab.AV.agg [Go.Ab.AV.int Go.IntKind.i64 (r.1), Go.Ab.AV.int Go.IntKind.i64 (r.2.1), Go.Ab.AV.int Go.IntKind.i64 (r.2.2.1), Go.Ab.AV.int Go.IntKind.i64 (r.2.2.2.1), Go.Ab.AV.int Go.IntKind.i64 (r.2.2.2.2.1), Go.Ab.AV.int Go.IntKind.i64 (r.2.2.2.2.2.1), Go.Ab.AV.int Go.IntKind.i64 (r.2.2.2.2.2.2.1), Go.Ab.AV.int Go.IntKind.i64 (r.2.2.2.2.2.2.2.1), Go.Ab.AV.int Go.IntKind.i64 (r.2.2.2.2.2.2.2.2.1), Go.Ab.AV.int Go.IntKind.i64 (r.2.2.2.2.2.2.2.2.2.1), Go.Ab.AV.int Go.IntKind.i64 (r.2.2.2.2.2.2.2.2.2.2.1), Go.Ab.AV.int Go.IntKind.i64 (r.2.2.2.2.2.2.2.2.2.2.2.1), Go.Ab.AV.int Go.IntKind.i64 (r.2.2.2.2.2.2.2.2.2.2.2.2.1), Go.Ab.AV.int Go.IntKind.i64 (r.2.2.2.2.2.2.2.2.2.2.2.2.2.1), Go.Ab.AV.str (r.2.2.2.2.2.2.2.2.2.2.2.2.2.2.1), Go.Ab.AV.str (r.2.2.2.2.2.2.2.2.2.2.2.2.2.2.2.1), Go.Ab.AV.int Go.IntKind.i64 (r.2.2.2.2.2.2.2.2.2.2.2.2.2.2.2.2)] ∧ o = [] := by
  unfold laws_toConsole.dec at h
  split at h
  · cases h; exact ⟨rfl, rfl⟩
  · cases h
theorem laws_toConsole.sim (X : Wd) (n : Nat) (a0 : Int) (a1 : Int) (a2 : Int) (a3 : Int) (a4 : Int) (a5 : Int) (a6 : Int) (a7 : Int) (a8 : Int) (a9 : Int) (a10 : Int) (a11 : Int) (a12 : Int) (a13 : Int) (a14 : ByteArray) (a15 : ByteArray) (a16 : Int) (r : (Int × Int × Int × Int × Int × Int × Int × Int × Int × Int × Int × Int × Int × Int × ByteArray × ByteArray × Int)) (h : laws_toConsole.f n a0 a1 a2 a3 a4 a5 a6 a7 a8 a9 a10 a11 a12 a13 a14 a15 a16 = some r) : Go.Ab.Sim (En X) 16 [Go.Ab.AV.agg [Go.Ab.AV.int Go.IntKind.i64 a0, Go.Ab.AV.int Go.IntKind.i64 a1, Go.Ab.AV.int Go.IntKind.i64 a2, Go.Ab.AV.int Go.IntKind.i64 a3, Go.Ab.AV.int Go.IntKind.i64 a4, Go.Ab.AV.int Go.IntKind.i64 a5, Go.Ab.AV.int Go.IntKind.i64 a6, Go.Ab.AV.int Go.IntKind.i64 a7, Go.Ab.AV.int Go.IntKind.i64 a8, Go.Ab.AV.int Go.IntKind.i64 a9, Go.Ab.AV.int Go.IntKind.i64 a10, Go.Ab.AV.int Go.IntKind.i64 a11, Go.Ab.AV.int Go.IntKind.i64 a12, Go.Ab.AV.int Go.IntKind.i64 a13, Go.Ab.AV.str a14, Go.Ab.AV.str a15, Go.Ab.AV.int Go.IntKind.i64 a16]] [] (Go.Ab.AV.agg [Go.Ab.AV.int Go.IntKind.i64 (r.1), Go.Ab.AV.int Go.IntKind.i64 (r.2.1), Go.Ab.AV.int Go.IntKind.i64 (r.2.2.1), Go.Ab.AV.int Go.IntKind.i64 (r.2.2.2.1), Go.Ab.AV.int Go.IntKind.i64 (r.2.2.2.2.1), Go.Ab.AV.int Go.IntKind.i64 (r.2.2.2.2.2.1), Go.Ab.AV.int Go.IntKind.i64 (r.2.2.2.2.2.2.1), Go.Ab.AV.int Go.IntKind.i64 (r.2.2.2.2.2.2.2.1), Go.Ab.AV.int Go.IntKind.i64 (r.2.2.2.2.2.2.2.2.1), Go.Ab.AV.int Go.IntKind.i64 (r.2.2.2.2.2.2.2.2.2.1), Go.Ab.AV.int Go.IntKind.i64 (r.2.2.2.2.2.2.2.2.2.2.1), Go.Ab.AV.int Go.IntKind.i64 (r.2.2.2.2.2.2.2.2.2.2.2.1), Go.Ab.AV.int Go.IntKind.i64 (r.2.2.2.2.2.2.2.2.2.2.2.2.1), Go.Ab.AV.int Go.IntKind.i64 (r.2.2.2.2.2.2.2.2.2.2.2.2.2.1), Go.Ab.AV.str (r.2.2.2.2.2.2.2.2.2.2.2.2.2.2.1), Go.Ab.AV.str (r.2.2.2.2.2.2.2.2.2.2.2.2.2.2.2.1), Go.Ab.AV.int Go.IntKind.i64 (r.2.2.2.2.2.2.2.2.2.2.2.2.2.2.2.2)]) [] :=
  Go.Ab.sim_of (E := En X) (laws_toConsole.gok X n) mix (fn := Go.Proofs.Tryd.f16) (c := (bodyOf Go.Proofs.Tryd.f16)) (by kernel_rfl) (by kernel_rfl) (by kernel_rfl) (laws_toConsole.loops n) (laws_toConsole.cuts n) ((laws_toConsole.eq n a0 a1 a2 a3 a4 a5 a6 a7 a8 a9 a10 a11 a12 a13 a14 a15 a16).trans h) (laws_toConsole.hdec r)
noncomputable def laws_toConsole.ctr (n : Nat) {R : Type} : List Go.Ab.AV → List Go.Ab.AObj → (Go.Ab.AV → List Go.Ab.AObj → Option R) → Option R
  | [Go.Ab.AV.agg [Go.Ab.AV.int Go.IntKind.i64 a0, Go.Ab.AV.int Go.IntKind.i64 a1, Go.Ab.AV.int Go.IntKind.i64 a2, Go.Ab.AV.int Go.IntKind.i64 a3, Go.Ab.AV.int Go.IntKind.i64 a4, Go.Ab.AV.int Go.IntKind.i64 a5, Go.Ab.AV.int Go.IntKind.i64 a6, Go.Ab.AV.int Go.IntKind.i64 a7, Go.Ab.AV.int Go.IntKind.i64 a8, Go.Ab.AV.int Go.IntKind.i64 a9, Go.Ab.AV.int Go.IntKind.i64 a10, Go.Ab.AV.int Go.IntKind.i64 a11, Go.Ab.AV.int Go.IntKind.i64 a12, Go.Ab.AV.int Go.IntKind.i64 a13, Go.Ab.AV.str a14, Go.Ab.AV.str a15, Go.Ab.AV.int Go.IntKind.i64 a16]], [], k => (laws_toConsole.f n a0 a1 a2 a3 a4 a5 a6 a7 a8 a9 a10 a11 a12 a13 a14 a15 a16).bind fun r => k (Go.Ab.AV.agg [Go.Ab.AV.int Go.IntKind.i64 (r.1), Go.Ab.AV.int Go.IntKind.i64 (r.2.1), Go.Ab.AV.int Go.IntKind.i64 (r.2.2.1), Go.Ab.AV.int Go.IntKind.i64 (r.2.2.2.1), Go.Ab.AV.int Go.IntKind.i64 (r.2.2.2.2.1), Go.Ab.AV.int Go.IntKind.i64 (r.2.2.2.2.2.1), Go.Ab.AV.int Go.IntKind.i64 (r.2.2.2.2.2.2.1), Go.Ab.AV.int Go.IntKind.i64 (r.2.2.2.2.2.2.2.1), Go.Ab.AV.int Go.IntKind.i64 (r.2.2.2.2.2.2.2.2.1), Go.Ab.AV.int Go.IntKind.i64 (r.2.2.2.2.2.2.2.2.2.1), Go.Ab.AV.int Go.IntKind.i64 (r.2.2.2.2.2.2.2.2.2.2.1), Go.Ab.AV.int Go.IntKind.i64 (r.2.2.2.2.2.2.2.2.2.2.2.1), Go.Ab.AV.int Go.IntKind.i64 (r.2.2.2.2.2.2.2.2.2.2.2.2.1), Go.Ab.AV.int Go.IntKind.i64 (r.2.2.2.2.2.2.2.2.2.2.2.2.2.1), Go.Ab.AV.str (r.2.2.2.2.2.2.2.2.2.2.2.2.2.2.1), Go.Ab.AV.str (r.2.2.2.2.2.2.2.2.2.2.2.2.2.2.2.1), Go.Ab.AV.int Go.IntKind.i64 (r.2.2.2.2.2.2.2.2.2.2.2.2.2.2.2.2)]) []
  | _, _, _ => none
noncomputable def laws_toConsole.fits : List Go.Ab.AV → List Go.Ab.AObj → Bool
  | [Go.Ab.AV.agg [Go.Ab.AV.int Go.IntKind.i64 a0, Go.Ab.AV.int Go.IntKind.i64 a1, Go.Ab.AV.int Go.IntKind.i64 a2, Go.Ab.AV.int Go.IntKind.i64 a3, Go.Ab.AV.int Go.IntKind.i64 a4, Go.Ab.AV.int Go.IntKind.i64 a5, Go.Ab.AV.int Go.IntKind.i64 a6, Go.Ab.AV.int Go.IntKind.i64 a7, Go.Ab.AV.int Go.IntKind.i64 a8, Go.Ab.AV.int Go.IntKind.i64 a9, Go.Ab.AV.int Go.IntKind.i64 a10, Go.Ab.AV.int Go.IntKind.i64 a11, Go.Ab.AV.int Go.IntKind.i64 a12, Go.Ab.AV.int Go.IntKind.i64 a13, Go.Ab.AV.str a14, Go.Ab.AV.str a15, Go.Ab.AV.int Go.IntKind.i64 a16]], [] => true
  | _, _ => false
theorem laws_toConsole.ok (X : Wd) (n : Nat) {R : Type} (args : List Go.Ab.AV) (objs : List Go.Ab.AObj) (k : Go.Ab.AV → List Go.Ab.AObj → Option R) (r : R) (h : laws_toConsole.ctr n args objs k = some r) :
    Go.Ab.Enters Go.Proofs.Tryd.prog 16 ∧ ∃ v objs', Go.Ab.Sim (En X) 16 args objs v objs' ∧ k v objs' = some r := by
  unfold laws_toConsole.ctr at h
  split at h
  · obtain ⟨x, h1, h2⟩ := Option.bind_eq_some_iff.1 h
    exact ⟨⟨Go.Proofs.Tryd.f16, by kernel_rfl, by kernel_rfl, by kernel_rfl⟩, _, _, laws_toConsole.sim X n _ _ _ _ _ _ _ _ _ _ _ _ _ _ _ _ _ x h1, h2⟩
  · cases h

noncomputable def spec_l1In.dec (v : Go.Ab.AV) (o : List Go.Ab.AObj) : Option Bool := match v, o with
  | Go.Ab.AV.bool a3, [] => some (a3)
  | _, _ => none
noncomputable def spec_l1In.A : Go.Ab.Ann := { live := fun _ => [], out := fun _ => [], cut := fun _ => none }
noncomputable def spec_l1In.G (n : Nat) {R : Type} : Go.Ab.Ctr R := fun g args objs k => none
noncomputable def spec_l1In.B (i : Nat) : Go.Code := (Go.Ab.loopsOf (bodyOf Go.Proofs.Tryd.f53)).getD i Go.Code.skip
noncomputable def spec_l1In.H (n : Nat) : Go.Ab.Hnd Bool := { loop := fun key _ v o K => none, cut := fun _ _ _ _ _ => none }
theorem spec_l1In.loops (n0 : Nat) : ∀ b ∈ Go.Ab.loopsOf (bodyOf Go.Proofs.Tryd.f53), Go.Ab.LoopOk Go.Proofs.Tryd.prog (spec_l1In.G n0) spec_l1In.A (spec_l1In.H n0) 15 0 b := Go.Ab.forall_nil (by kernel_rfl)
theorem spec_l1In.cuts (n0 : Nat) : ∀ b ∈ Go.Ab.cutsOf spec_l1In.A (bodyOf Go.Proofs.Tryd.f53), Go.Ab.CutOk Go.Proofs.Tryd.prog (spec_l1In.G n0) spec_l1In.A (spec_l1In.H n0) 15 0 b := Go.Ab.forall_nil (by kernel_rfl)
theorem spec_l1In.eq (n : Nat) (a0 : Int) (a1 : Int) (a2 : Int) : Go.Ab.funK Go.Proofs.Tryd.prog (spec_l1In.G n) spec_l1In.A (spec_l1In.H n) false Go.Proofs.Tryd.f53 (bodyOf Go.Proofs.Tryd.f53) [Go.Ab.AV.int Go.IntKind.i64 a0, Go.Ab.AV.int Go.IntKind.i64 a1, Go.Ab.AV.int Go.IntKind.i64 a2] [] spec_l1In.dec = spec_l1In.f n a0 a1 a2 := by kernel_rfl
theorem spec_l1In.gok (X : Wd) (n : Nat) {R : Type} : Go.Ab.CtrOk (En X) (spec_l1In.G n : Go.Ab.Ctr R) := by
  intro g args objs k r h
  cases h
theorem spec_l1In.hdec (r : Bool) (v : Go.Ab.AV) (o : List Go.Ab.AObj) (h : spec_l1In.dec v o = some r) : v = Go.Ab.AV.bool (r) ∧ o = [] := by
  unfold spec_l1In.dec at h
  split at h
  · cases h; exact ⟨rfl, rfl⟩
  · cases h
theorem spec_l1In.sim (X : Wd) (n : Nat) (a0 : Int) (a1 : Int) (a2 : Int) (r : Bool) (h : spec_l1In.f n a0 a1 a2 = some r) : Go.Ab.Sim (En X) 53 [Go.Ab.AV.int Go.IntKind.i64 a0, Go.Ab.AV.int Go.IntKind.i64 a1, Go.Ab.AV.int Go.IntKind.i64 a2] [] (Go.Ab.AV.bool (r)) [] :=
  Go.Ab.sim_of (E := En X) (spec_l1In.gok X n) mix (fn := Go.Proofs.Tryd.f53) (c := (bodyOf Go.Proofs.Tryd.f53)) (by kernel_rfl) (by kernel_rfl) (by kernel_rfl) (spec_l1In.loops n) (spec_l1In.cuts n) ((spec_l1In.eq n a0 a1 a2).trans h) (spec_l1In.hdec r)
noncomputable def spec_l1In.ctr (n : Nat) {R : Type} : List Go.Ab.AV → List Go.Ab.AObj → (Go.Ab.AV → List Go.Ab.AObj → Option R) → Option R
  | [Go.Ab.AV.int Go.IntKind.i64 a0, Go.Ab.AV.int Go.IntKind.i64 a1, Go.Ab.AV.int Go.IntKind.i64 a2], [], k => (spec_l1In.f n a0 a1 a2).bind fun r => k (Go.Ab.AV.bool (r)) []
  | _, _, _ => none
noncomputable def spec_l1In.fits : List Go.Ab.AV → List Go.Ab.AObj → Bool
  | [Go.Ab.AV.int Go.IntKind.i64 a0, Go.Ab.AV.int Go.IntKind.i64 a1, Go.Ab.AV.int Go.IntKind.i64 a2], [] => true
  | _, _ => false
theorem spec_l1In.ok (X : Wd) (n : Nat) {R : Type} (args : List Go.Ab.AV) (objs : List Go.Ab.AObj) (k : Go.Ab.AV → List Go.Ab.AObj → Option R) (r : R) (h : spec_l1In.ctr n args objs k = some r) :
    Go.Ab.Enters Go.Proofs.Tryd.prog 53 ∧ ∃ v objs', Go.Ab.Sim (En X) 53 args objs v objs' ∧ k v objs' = some r := by
  unfold spec_l1In.ctr at h
  split at h
  · obtain ⟨x, h1, h2⟩ := Option.bind_eq_some_iff.1 h
    exact ⟨⟨Go.Proofs.Tryd.f53, by kernel_rfl, by kernel_rfl, by kernel_rfl⟩, _, _, spec_l1In.sim X n _ _ _ x h1, h2⟩
  · cases h

noncomputable def spec_l2Sheet.dec (v : Go.Ab.AV) (o : List Go.Ab.AObj) : Option Bool := match v, o with
  | Go.Ab.AV.bool a6, [] => some (a6)
  | _, _ => none
noncomputable def spec_l2Sheet.A : Go.Ab.Ann := { live := fun k => match k with | 2 => [1, 3] | _ => [], out := fun k => match k with | 2 => [2] | _ => [], cut := fun _ => none }
noncomputable def spec_l2Sheet.G (n : Nat) {R : Type} : Go.Ab.Ctr R := fun g args objs k => match g with | 53 => spec_l1In.ctr n args objs k | _ => none
noncomputable def spec_l2Sheet.B (i : Nat) : Go.Code := (Go.Ab.loopsOf (bodyOf Go.Proofs.Tryd.f67)).getD i Go.Code.skip
noncomputable def spec_l2Sheet.h2 (n : Nat) (v : List Go.Ab.AV) (o : List Go.Ab.AObj) (K : Go.Ab.Kont Bool) : Option Bool := match v, o with
  | [Go.Ab.AV.ptr 0 0, Go.Ab.AV.int Go.IntKind.i64 x19], [Go.Ab.AObj.cells Bool.true [Go.Ab.AV.int Go.IntKind.i64 x20, Go.Ab.AV.int Go.IntKind.i64 x21, Go.Ab.AV.int Go.IntKind.i64 x22, Go.Ab.AV.int Go.IntKind.i64 x23, Go.Ab.AV.int Go.IntKind.i64 x24, Go.Ab.AV.int Go.IntKind.i64 x25]] => spec_l2Sheet.l2 n (fun y38 => K (Go.Ab.Ex.ret) [Go.Ab.AV.bool y38] []) (K (Go.Ab.Ex.exit 0) [Go.Ab.AV.undef] []) n x19 x20 x21 x22 x23 x24 x25
  | _, _ => none
noncomputable def spec_l2Sheet.H (n : Nat) : Go.Ab.Hnd Bool := { loop := fun key _ v o K => match key with | 2 => spec_l2Sheet.h2 n v o K | _ => none, cut := fun _ _ _ _ _ => none }
theorem spec_l2Sheet.loop2 (n0 : Nat) (K : Go.Ab.Kont Bool) : ∀ (n : Nat) (x19 : Int) (x20 : Int) (x21 : Int) (x22 : Int) (x23 : Int) (x24 : Int) (x25 : Int), Go.Ab.loopK 14 0 (spec_l2Sheet.A.live 2) (spec_l2Sheet.A.out 2) (fun t o k => Go.Ab.denK Go.Proofs.Tryd.prog (spec_l2Sheet.G n0) spec_l2Sheet.A (spec_l2Sheet.H n0) 14 0 (spec_l2Sheet.B 0) t o k) n [Go.Ab.AV.ptr 0 0, Go.Ab.AV.int Go.IntKind.i64 x19] [Go.Ab.AObj.cells Bool.true [Go.Ab.AV.int Go.IntKind.i64 x20, Go.Ab.AV.int Go.IntKind.i64 x21, Go.Ab.AV.int Go.IntKind.i64 x22, Go.Ab.AV.int Go.IntKind.i64 x23, Go.Ab.AV.int Go.IntKind.i64 x24, Go.Ab.AV.int Go.IntKind.i64 x25]] K = spec_l2Sheet.l2 n0 (fun y38 => K (Go.Ab.Ex.ret) [Go.Ab.AV.bool y38] []) (K (Go.Ab.Ex.exit 0) [Go.Ab.AV.undef] []) n x19 x20 x21 x22 x23 x24 x25
  | 0, _, _, _, _, _, _, _ => rfl
  | n + 1, x19, x20, x21, x22, x23, x24, x25 => by
    have ih : (fun (x19 : Int) (x20 : Int) (x21 : Int) (x22 : Int) (x23 : Int) (x24 : Int) (x25 : Int) => Go.Ab.loopK 14 0 (spec_l2Sheet.A.live 2) (spec_l2Sheet.A.out 2) (fun t o k => Go.Ab.denK Go.Proofs.Tryd.prog (spec_l2Sheet.G n0) spec_l2Sheet.A (spec_l2Sheet.H n0) 14 0 (spec_l2Sheet.B 0) t o k) n [Go.Ab.AV.ptr 0 0, Go.Ab.AV.int Go.IntKind.i64 x19] [Go.Ab.AObj.cells Bool.true [Go.Ab.AV.int Go.IntKind.i64 x20, Go.Ab.AV.int Go.IntKind.i64 x21, Go.Ab.AV.int Go.IntKind.i64 x22, Go.Ab.AV.int Go.IntKind.i64 x23, Go.Ab.AV.int Go.IntKind.i64 x24, Go.Ab.AV.int Go.IntKind.i64 x25]] K) = spec_l2Sheet.l2 n0 (fun y38 => K (Go.Ab.Ex.ret) [Go.Ab.AV.bool y38] []) (K (Go.Ab.Ex.exit 0) [Go.Ab.AV.undef] []) n := by funext x19 x20 x21 x22 x23 x24 x25; exact spec_l2Sheet.loop2 n0 K n x19 x20 x21 x22 x23 x24 x25
    have st : Go.Ab.loopK 14 0 (spec_l2Sheet.A.live 2) (spec_l2Sheet.A.out 2) (fun t o k => Go.Ab.denK Go.Proofs.Tryd.prog (spec_l2Sheet.G n0) spec_l2Sheet.A (spec_l2Sheet.H n0) 14 0 (spec_l2Sheet.B 0) t o k) (n + 1) [Go.Ab.AV.ptr 0 0, Go.Ab.AV.int Go.IntKind.i64 x19] [Go.Ab.AObj.cells Bool.true [Go.Ab.AV.int Go.IntKind.i64 x20, Go.Ab.AV.int Go.IntKind.i64 x21, Go.Ab.AV.int Go.IntKind.i64 x22, Go.Ab.AV.int Go.IntKind.i64 x23, Go.Ab.AV.int Go.IntKind.i64 x24, Go.Ab.AV.int Go.IntKind.i64 x25]] K = spec_l2Sheet.l2S n0 (fun (x19 : Int) (x20 : Int) (x21 : Int) (x22 : Int) (x23 : Int) (x24 : Int) (x25 : Int) => Go.Ab.loopK 14 0 (spec_l2Sheet.A.live 2) (spec_l2Sheet.A.out 2) (fun t o k => Go.Ab.denK Go.Proofs.Tryd.prog (spec_l2Sheet.G n0) spec_l2Sheet.A (spec_l2Sheet.H n0) 14 0 (spec_l2Sheet.B 0) t o k) n [Go.Ab.AV.ptr 0 0, Go.Ab.AV.int Go.IntKind.i64 x19] [Go.Ab.AObj.cells Bool.true [Go.Ab.AV.int Go.IntKind.i64 x20, Go.Ab.AV.int Go.IntKind.i64 x21, Go.Ab.AV.int Go.IntKind.i64 x22, Go.Ab.AV.int Go.IntKind.i64 x23, Go.Ab.AV.int Go.IntKind.i64 x24, Go.Ab.AV.int Go.IntKind.i64 x25]] K) (fun y38 => K (Go.Ab.Ex.ret) [Go.Ab.AV.bool y38] []) (K (Go.Ab.Ex.exit 0) [Go.Ab.AV.undef] []) x19 x20 x21 x22 x23 x24 x25 := by kernel_rfl
    rw [st, ih]; rfl
theorem spec_l2Sheet.lok2 (n0 : Nat) : Go.Ab.LoopOk Go.Proofs.Tryd.prog (spec_l2Sheet.G n0) spec_l2Sheet.A (spec_l2Sheet.H n0) 14 0 (spec_l2Sheet.B 0) := by
  intro v o K r h
  have hk : Go.Ab.key (spec_l2Sheet.B 0) = 2 := by kernel_rfl
  rw [hk] at h ⊢
  change spec_l2Sheet.h2 n0 v o K = some r at h
  unfold spec_l2Sheet.h2 at h
  split at h
  · exact ⟨n0, by rw [spec_l2Sheet.loop2]; exact h⟩
  · cases h
theorem spec_l2Sheet.loops (n0 : Nat) : ∀ b ∈ Go.Ab.loopsOf (bodyOf Go.Proofs.Tryd.f67), Go.Ab.LoopOk Go.Proofs.Tryd.prog (spec_l2Sheet.G n0) spec_l2Sheet.A (spec_l2Sheet.H n0) 14 0 b :=
  Go.Ab.forall_getD 1 (by kernel_rfl) Go.Code.skip fun i hi => match i, hi with
    | 0, _ => spec_l2Sheet.lok2 n0
    | j + 1, hj => absurd hj (by omega)
theorem spec_l2Sheet.cuts (n0 : Nat) : ∀ b ∈ Go.Ab.cutsOf spec_l2Sheet.A (bodyOf Go.Proofs.Tryd.f67), Go.Ab.CutOk Go.Proofs.Tryd.prog (spec_l2Sheet.G n0) spec_l2Sheet.A (spec_l2Sheet.H n0) 14 0 b := Go.Ab.forall_nil (by kernel_rfl)
theorem spec_l2Sheet.eq (n : Nat) (a0 : Int) (a1 : Int) (a2 : Int) (a3 : Int) (a4 : Int) (a5 : Int) : Go.Ab.funK Go.Proofs.Tryd.prog (spec_l2Sheet.G n) spec_l2Sheet.A (spec_l2Sheet.H n) false Go.Proofs.Tryd.f67 (bodyOf Go.Proofs.Tryd.f67) [Go.Ab.AV.agg [Go.Ab.AV.int Go.IntKind.i64 a0, Go.Ab.AV.int Go.IntKind.i64 a1, Go.Ab.AV.int Go.IntKind.i64 a2, Go.Ab.AV.int Go.IntKind.i64 a3, Go.Ab.AV.int Go.IntKind.i64 a4, Go.Ab.AV.int Go.IntKind.i64 a5]] [] spec_l2Sheet.dec = spec_l2Sheet.f n a0 a1 a2 a3 a4 a5 := by kernel_rfl
theorem spec_l2Sheet.gok (X : Wd) (n : Nat) {R : Type} : Go.Ab.CtrOk (En X) (spec_l2Sheet.G n : Go.Ab.Ctr R) := by
  intro g args objs k r h
  unfold spec_l2Sheet.G at h
  split at h
  · exact spec_l1In.ok X _ args objs k r h
  · cases h
theorem spec_l2Sheet.hdec (r : Bool) (v : Go.Ab.AV) (o : List Go.Ab.AObj) (h : spec_l2Sheet.dec v o = some r) : v = Go.Ab.AV.bool (r) ∧ o = [] := by
  unfold spec_l2Sheet.dec at h
  split at h
  · cases h; exact ⟨rfl, rfl⟩
  · cases h
theorem spec_l2Sheet.sim (X : Wd) (n : Nat) (a0 : Int) (a1 : Int) (a2 : Int) (a3 : Int) (a4 : Int) (a5 : Int) (r : Bool) (h : spec_l2Sheet.f n a0 a1 a2 a3 a4 a5 = some r) : Go.Ab.Sim (En X) 67 [Go.Ab.AV.agg [Go.Ab.AV.int Go.IntKind.i64 a0, Go.Ab.AV.int Go.IntKind.i64 a1, Go.Ab.AV.int Go.IntKind.i64 a2, Go.Ab.AV.int Go.IntKind.i64 a3, Go.Ab.AV.int Go.IntKind.i64 a4, Go.Ab.AV.int Go.IntKind.i64 a5]] [] (Go.Ab.AV.bool (r)) [] :=
  Go.Ab.sim_of (E := En X) (spec_l2Sheet.gok X n) mix (fn := Go.Proofs.Tryd.f67) (c := (bodyOf Go.Proofs.Tryd.f67)) (by kernel_rfl) (by kernel_rfl) (by kernel_rfl) (spec_l2Sheet.loops n) (spec_l2Sheet.cuts n) ((spec_l2Sheet.eq n a0 a1 a2 a3 a4 a5).trans h) (spec_l2Sheet.hdec r)
noncomputable def spec_l2Sheet.ctr (n : Nat) {R : Type} : List Go.Ab.AV → List Go.Ab.AObj → (Go.Ab.AV → List Go.Ab.AObj → Option R) → Option R
  | [Go.Ab.AV.agg [Go.Ab.AV.int Go.IntKind.i64 a0, Go.Ab.AV.int Go.IntKind.i64 a1, Go.Ab.AV.int Go.IntKind.i64 a2, Go.Ab.AV.int Go.IntKind.i64 a3, Go.Ab.AV.int Go.IntKind.i64 a4, Go.Ab.AV.int Go.IntKind.i64 a5]], [], k => (spec_l2Sheet.f n a0 a1 a2 a3 a4 a5).bind fun r => k (Go.Ab.AV.bool (r)) []
  | _, _, _ => none
noncomputable def spec_l2Sheet.fits : List Go.Ab.AV → List Go.Ab.AObj → Bool
  | [Go.Ab.AV.agg [Go.Ab.AV.int Go.IntKind.i64 a0, Go.Ab.AV.int Go.IntKind.i64 a1, Go.Ab.AV.int Go.IntKind.i64 a2, Go.Ab.AV.int Go.IntKind.i64 a3, Go.Ab.AV.int Go.IntKind.i64 a4, Go.Ab.AV.int Go.IntKind.i64 a5]], [] => true
  | _, _ => false
theorem spec_l2Sheet.ok (X : Wd) (n : Nat) {R : Type} (args : List Go.Ab.AV) (objs : List Go.Ab.AObj) (k : Go.Ab.AV → List Go.Ab.AObj → Option R) (r : R) (h : spec_l2Sheet.ctr n args objs k = some r) :
    Go.Ab.Enters Go.Proofs.Tryd.prog 67 ∧ ∃ v objs', Go.Ab.Sim (En X) 67 args objs v objs' ∧ k v objs' = some r := by
  unfold spec_l2Sheet.ctr at h
  split at h
  · obtain ⟨x, h1, h2⟩ := Option.bind_eq_some_iff.1 h
    exact ⟨⟨Go.Proofs.Tryd.f67, by kernel_rfl, by kernel_rfl, by kernel_rfl⟩, _, _, spec_l2Sheet.sim X n _ _ _ _ _ _ x h1, h2⟩
  · cases h

noncomputable def spec_l12Good.dec (v : Go.Ab.AV) (o : List Go.Ab.AObj) : Option Bool := match v, o with
  | Go.Ab.AV.bool a14, [] => some (a14)
  | _, _ => none
noncomputable def spec_l12Good.A : Go.Ab.Ann := { live := fun _ => [], out := fun _ => [], cut := fun _ => none }
noncomputable def spec_l12Good.G (n : Nat) {R : Type} : Go.Ab.Ctr R := fun g args objs k => match g with | 67 => spec_l2Sheet.ctr n args objs k | 53 => spec_l1In.ctr n args objs k | _ => none
noncomputable def spec_l12Good.B (i : Nat) : Go.Code := (Go.Ab.loopsOf (bodyOf Go.Proofs.Tryd.f46)).getD i Go.Code.skip
noncomputable def spec_l12Good.H (n : Nat) : Go.Ab.Hnd Bool := { loop := fun key _ v o K => none, cut := fun _ _ _ _ _ => none }
theorem spec_l12Good.loops (n0 : Nat) : ∀ b ∈ Go.Ab.loopsOf (bodyOf Go.Proofs.Tryd.f46), Go.Ab.LoopOk Go.Proofs.Tryd.prog (spec_l12Good.G n0) spec_l12Good.A (spec_l12Good.H n0) 21 0 b := Go.Ab.forall_nil (by kernel_rfl)
theorem spec_l12Good.cuts (n0 : Nat) : ∀ b ∈ Go.Ab.cutsOf spec_l12Good.A (bodyOf Go.Proofs.Tryd.f46), Go.Ab.CutOk Go.Proofs.Tryd.prog (spec_l12Good.G n0) spec_l12Good.A (spec_l12Good.H n0) 21 0 b := Go.Ab.forall_nil (by kernel_rfl)
theorem spec_l12Good.eq (n : Nat) (a0 : Int) (a1 : Int) (a2 : Int) (a3 : Int) (a4 : Int) (a5 : Int) (a6 : Int) (a7 : Int) (a8 : Int) (a9 : Int) (a10 : Int) (a11 : Int) (a12 : Int) (a13 : Int) : Go.Ab.funK Go.Proofs.Tryd.prog (spec_l12Good.G n) spec_l12Good.A (spec_l12Good.H n) false Go.Proofs.Tryd.f46 (bodyOf Go.Proofs.Tryd.f46) [Go.Ab.AV.agg [Go.Ab.AV.int Go.IntKind.i64 a0, Go.Ab.AV.int Go.IntKind.i64 a1, Go.Ab.AV.int Go.IntKind.i64 a2, Go.Ab.AV.int Go.IntKind.i64 a3, Go.Ab.AV.int Go.IntKind.i64 a4, Go.Ab.AV.int Go.IntKind.i64 a5, Go.Ab.AV.int Go.IntKind.i64 a6, Go.Ab.AV.int Go.IntKind.i64 a7, Go.Ab.AV.int Go.IntKind.i64 a8, Go.Ab.AV.int Go.IntKind.i64 a9, Go.Ab.AV.int Go.IntKind.i64 a10, Go.Ab.AV.int Go.IntKind.i64 a11, Go.Ab.AV.int Go.IntKind.i64 a12, Go.Ab.AV.int Go.IntKind.i64 a13]] [] spec_l12Good.dec = spec_l12Good.f n a0 a1 a2 a3 a4 a5 a6 a7 a8 a9 a10 a11 a12 a13 := by kernel_rfl
theorem spec_l12Good.gok (X : Wd) (n : Nat) {R : Type} : Go.Ab.CtrOk (En X) (spec_l12Good.G n : Go.Ab.Ctr R) := by
  intro g args objs k r h
  unfold spec_l12Good.G at h
  split at h
  · exact spec_l2Sheet.ok X _ args objs k r h
  · exact spec_l1In.ok X _ args objs k r h
  · cases h
theorem spec_l12Good.hdec (r : Bool) (v : Go.Ab.AV) (o : List Go.Ab.AObj) (h : spec_l12Good.dec v o = some r) : v = Go.Ab.AV.bool (r) ∧ o = [] := by
  unfold spec_l12Good.dec at h
  split at h
  · cases h; exact ⟨rfl, rfl⟩
  · cases h
theorem spec_l12Good.sim (X : Wd) (n : Nat) (a0 : Int) (a1 : Int) (a2 : Int) (a3 : Int) (a4 : Int) (a5 : Int) (a6 : Int) (a7 : Int) (a8 : Int) (a9 : Int) (a10 : Int) (a11 : Int) (a12 : Int) (a13 : Int) (r : Bool) (h : spec_l12Good.f n a0 a1 a2 a3 a4 a5 a6 a7 a8 a9 a10 a11 a12 a13 = some r) : Go.Ab.Sim (En X) 46 [Go.Ab.AV.agg [Go.Ab.AV.int Go.IntKind.i64 a0, Go.Ab.AV.int Go.IntKind.i64 a1, Go.Ab.AV.int Go.IntKind.i64 a2, Go.Ab.AV.int Go.IntKind.i64 a3, Go.Ab.AV.int Go.IntKind.i64 a4, Go.Ab.AV.int Go.IntKind.i64 a5, Go.Ab.AV.int Go.IntKind.i64 a6, Go.Ab.AV.int Go.IntKind.i64 a7, Go.Ab.AV.int Go.IntKind.i64 a8, Go.Ab.AV.int Go.IntKind.i64 a9, Go.Ab.AV.int Go.IntKind.i64 a10, Go.Ab.AV.int Go.IntKind.i64 a11, Go.Ab.AV.int Go.IntKind.i64 a12, Go.Ab.AV.int Go.IntKind.i64 a13]] [] (Go.Ab.AV.bool (r)) [] :=
  Go.Ab.sim_of (E := En X) (spec_l12Good.gok X n) mix (fn := Go.Proofs.Tryd.f46) (c := (bodyOf Go.Proofs.Tryd.f46)) (by kernel_rfl) (by kernel_rfl) (by kernel_rfl) (spec_l12Good.loops n) (spec_l12Good.cuts n) ((spec_l12Good.eq n a0 a1 a2 a3 a4 a5 a6 a7 a8 a9 a10 a11 a12 a13).trans h) (spec_l12Good.hdec r)
noncomputable def spec_l12Good.ctr (n : Nat) {R : Type} : List Go.Ab.AV → List Go.Ab.AObj → (Go.Ab.AV → List Go.Ab.AObj → Option R) → Option R
  | [Go.Ab.AV.agg [Go.Ab.AV.int Go.IntKind.i64 a0, Go.Ab.AV.int Go.IntKind.i64 a1, Go.Ab.AV.int Go.IntKind.i64 a2, Go.Ab.AV.int Go.IntKind.i64 a3, Go.Ab.AV.int Go.IntKind.i64 a4, Go.Ab.AV.int Go.IntKind.i64 a5, Go.Ab.AV.int Go.IntKind.i64 a6, Go.Ab.AV.int Go.IntKind.i64 a7, Go.Ab.AV.int Go.IntKind.i64 a8, Go.Ab.AV.int Go.IntKind.i64 a9, Go.Ab.AV.int Go.IntKind.i64 a10, Go.Ab.AV.int Go.IntKind.i64 a11, Go.Ab.AV.int Go.IntKind.i64 a12, Go.Ab.AV.int Go.IntKind.i64 a13]], [], k => (spec_l12Good.f n a0 a1 a2 a3 a4 a5 a6 a7 a8 a9 a10 a11 a12 a13).bind fun r => k (Go.Ab.AV.bool (r)) []
  | _, _, _ => none
noncomputable def spec_l12Good.fits : List Go.Ab.AV → List Go.Ab.AObj → Bool
  | [Go.Ab.AV.agg [Go.Ab.AV.int Go.IntKind.i64 a0, Go.Ab.AV.int Go.IntKind.i64 a1, Go.Ab.AV.int Go.IntKind.i64 a2, Go.Ab.AV.int Go.IntKind.i64 a3, Go.Ab.AV.int Go.IntKind.i64 a4, Go.Ab.AV.int Go.IntKind.i64 a5, Go.Ab.AV.int Go.IntKind.i64 a6, Go.Ab.AV.int Go.IntKind.i64 a7, Go.Ab.AV.int Go.IntKind.i64 a8, Go.Ab.AV.int Go.IntKind.i64 a9, Go.Ab.AV.int Go.IntKind.i64 a10, Go.Ab.AV.int Go.IntKind.i64 a11, Go.Ab.AV.int Go.IntKind.i64 a12, Go.Ab.AV.int Go.IntKind.i64 a13]], [] => true
  | _, _ => false
theorem spec_l12Good.ok (X : Wd) (n : Nat) {R : Type} (args : List Go.Ab.AV) (objs : List Go.Ab.AObj) (k : Go.Ab.AV → List Go.Ab.AObj → Option R) (r : R) (h : spec_l12Good.ctr n args objs k = some r) :
    Go.Ab.Enters Go.Proofs.Tryd.prog 46 ∧ ∃ v objs', Go.Ab.Sim (En X) 46 args objs v objs' ∧ k v objs' = some r := by
  unfold spec_l12Good.ctr at h
  split at h
  · obtain ⟨x, h1, h2⟩ := Option.bind_eq_some_iff.1 h
    exact ⟨⟨Go.Proofs.Tryd.f46, by kernel_rfl, by kernel_rfl, by kernel_rfl⟩, _, _, spec_l12Good.sim X n _ _ _ _ _ _ _ _ _ _ _ _ _ _ x h1, h2⟩
  · cases h

noncomputable def spec_l1Split.dec (v : Go.Ab.AV) (o : List Go.Ab.AObj) : Option ((List Go.Ab.AV) × Nat) := match v, o with
  | Go.Ab.AV.sval a2 a3 Bool.false, [] => some (a2, a3)
  | _, _ => none
noncomputable def spec_l1Split.A : Go.Ab.Ann := { live := fun k => match k with | 4 => [0, 1, 5, 6, 7] | _ => [], out := fun k => match k with | 4 => [0, 5, 6] | _ => [], cut := fun _ => none }
noncomputable def spec_l1Split.G (n : Nat) {R : Type} : Go.Ab.Ctr R := fun g args objs k => none
noncomputable def spec_l1Split.B (i : Nat) : Go.Code := (Go.Ab.loopsOf (bodyOf Go.Proofs.Tryd.f64)).getD i Go.Code.skip
noncomputable def spec_l1Split.h4 (n : Nat) (v : List Go.Ab.AV) (o : List Go.Ab.AObj) (K : Go.Ab.Kont ((List Go.Ab.AV) × Nat)) : Option ((List Go.Ab.AV) × Nat) := match v, o with
  | [Go.Ab.AV.str x14, Go.Ab.AV.int Go.IntKind.u8 x15, Go.Ab.AV.sref 0 0 x16 1, Go.Ab.AV.int Go.IntKind.i64 x17, Go.Ab.AV.int Go.IntKind.i64 x18], [Go.Ab.AObj.cells Bool.true x19] => spec_l1Split.l4 n (fun y35 y36 y37 y38 => K (Go.Ab.Ex.exit 0) [Go.Ab.AV.str y35, Go.Ab.AV.sref 0 0 y36 1, Go.Ab.AV.int Go.IntKind.i64 y37] [Go.Ab.AObj.cells Bool.true y38]) n x14 x15 x16 x17 x18 x19
  | _, _ => none
noncomputable def spec_l1Split.H (n : Nat) : Go.Ab.Hnd ((List Go.Ab.AV) × Nat) := { loop := fun key _ v o K => match key with | 4 => spec_l1Split.h4 n v o K | _ => none, cut := fun _ _ _ _ _ => none }
theorem spec_l1Split.loop4 (n0 : Nat) (K : Go.Ab.Kont ((List Go.Ab.AV) × Nat)) : ∀ (n : Nat) (x14 : ByteArray) (x15 : Int) (x16 : Nat) (x17 : Int) (x18 : Int) (x19 : List Go.Ab.AV), Go.Ab.loopK 35 0 (spec_l1Split.A.live 4) (spec_l1Split.A.out 4) (fun t o k => Go.Ab.denK Go.Proofs.Tryd.prog (spec_l1Split.G n0) spec_l1Split.A (spec_l1Split.H n0) 35 0 (spec_l1Split.B 0) t o k) n [Go.Ab.AV.str x14, Go.Ab.AV.int Go.IntKind.u8 x15, Go.Ab.AV.sref 0 0 x16 1, Go.Ab.AV.int Go.IntKind.i64 x17, Go.Ab.AV.int Go.IntKind.i64 x18] [Go.Ab.AObj.cells Bool.true x19] K = spec_l1Split.l4 n0 (fun y35 y36 y37 y38 => K (Go.Ab.Ex.exit 0) [Go.Ab.AV.str y35, Go.Ab.AV.sref 0 0 y36 1, Go.Ab.AV.int Go.IntKind.i64 y37] [Go.Ab.AObj.cells Bool.true y38]) n x14 x15 x16 x17 x18 x19
  | 0, _, _, _, _, _, _ => rfl
  | n + 1, x14, x15, x16, x17, x18, x19 => by
    have ih : (fun (x14 : ByteArray) (x15 : Int) (x16 : Nat) (x17 : Int) (x18 : Int) (x19 : List Go.Ab.AV) => Go.Ab.loopK 35 0 (spec_l1Split.A.live 4) (spec_l1Split.A.out 4) (fun t o k => Go.Ab.denK Go.Proofs.Tryd.prog (spec_l1Split.G n0) spec_l1Split.A (spec_l1Split.H n0) 35 0 (spec_l1Split.B 0) t o k) n [Go.Ab.AV.str x14, Go.Ab.AV.int Go.IntKind.u8 x15, Go.Ab.AV.sref 0 0 x16 1, Go.Ab.AV.int Go.IntKind.i64 x17, Go.Ab.AV.int Go.IntKind.i64 x18] [Go.Ab.AObj.cells Bool.true x19] K) = spec_l1Split.l4 n0 (fun y35 y36 y37 y38 => K (Go.Ab.Ex.exit 0) [Go.Ab.AV.str y35, Go.Ab.AV.sref 0 0 y36 1, Go.Ab.AV.int Go.IntKind.i64 y37] [Go.Ab.AObj.cells Bool.true y38]) n := by funext x14 x15 x16 x17 x18 x19; exact spec_l1Split.loop4 n0 K n x14 x15 x16 x17 x18 x19
    have st : Go.Ab.loopK 35 0 (spec_l1Split.A.live 4) (spec_l1Split.A.out 4) (fun t o k => Go.Ab.denK Go.Proofs.Tryd.prog (spec_l1Split.G n0) spec_l1Split.A (spec_l1Split.H n0) 35 0 (spec_l1Split.B 0) t o k) (n + 1) [Go.Ab.AV.str x14, Go.Ab.AV.int Go.IntKind.u8 x15, Go.Ab.AV.sref 0 0 x16 1, Go.Ab.AV.int Go.IntKind.i64 x17, Go.Ab.AV.int Go.IntKind.i64 x18] [Go.Ab.AObj.cells Bool.true x19] K = spec_l1Split.l4S n0 (fun (x14 : ByteArray) (x15 : Int) (x16 : Nat) (x17 : Int) (x18 : Int) (x19 : List Go.Ab.AV) => Go.Ab.loopK 35 0 (spec_l1Split.A.live 4) (spec_l1Split.A.out 4) (fun t o k => Go.Ab.denK Go.Proofs.Tryd.prog (spec_l1Split.G n0) spec_l1Split.A (spec_l1Split.H n0) 35 0 (spec_l1Split.B 0) t o k) n [Go.Ab.AV.str x14, Go.Ab.AV.int Go.IntKind.u8 x15, Go.Ab.AV.sref 0 0 x16 1, Go.Ab.AV.int Go.IntKind.i64 x17, Go.Ab.AV.int Go.IntKind.i64 x18] [Go.Ab.AObj.cells Bool.true x19] K) (fun y35 y36 y37 y38 => K (Go.Ab.Ex.exit 0) [Go.Ab.AV.str y35, Go.Ab.AV.sref 0 0 y36 1, Go.Ab.AV.int Go.IntKind.i64 y37] [Go.Ab.AObj.cells Bool.true y38]) x14 x15 x16 x17 x18 x19 := by kernel_rfl
    rw [st, ih]; rfl
theorem spec_l1Split.lok4 (n0 : Nat) : Go.Ab.LoopOk Go.Proofs.Tryd.prog (spec_l1Split.G n0) spec_l1Split.A (spec_l1Split.H n0) 35 0 (spec_l1Split.B 0) := by
  intro v o K r h
  have hk : Go.Ab.key (spec_l1Split.B 0) = 4 := by kernel_rfl
  rw [hk] at h ⊢
  change spec_l1Split.h4 n0 v o K = some r at h
  unfold spec_l1Split.h4 at h
  split at h
  · exact ⟨n0, by rw [spec_l1Split.loop4]; exact h⟩
  · cases h
theorem spec_l1Split.loops (n0 : Nat) : ∀ b ∈ Go.Ab.loopsOf (bodyOf Go.Proofs.Tryd.f64), Go.Ab.LoopOk Go.Proofs.Tryd.prog (spec_l1Split.G n0) spec_l1Split.A (spec_l1Split.H n0) 35 0 b :=
  Go.Ab.forall_getD 1 (by kernel_rfl) Go.Code.skip fun i hi => match i, hi with
    | 0, _ => spec_l1Split.lok4 n0
    | j + 1, hj => absurd hj (by omega)
theorem spec_l1Split.cuts (n0 : Nat) : ∀ b ∈ Go.Ab.cutsOf spec_l1Split.A (bodyOf Go.Proofs.Tryd.f64), Go.Ab.CutOk Go.Proofs.Tryd.prog (spec_l1Split.G n0) spec_l1Split.A (spec_l1Split.H n0) 35 0 b := Go.Ab.forall_nil (by kernel_rfl)
theorem spec_l1Split.eq (n : Nat) (a0 : ByteArray) (a1 : Int) : Go.Ab.funK Go.Proofs.Tryd.prog (spec_l1Split.G n) spec_l1Split.A (spec_l1Split.H n) false Go.Proofs.Tryd.f64 (bodyOf Go.Proofs.Tryd.f64) [Go.Ab.AV.str a0, Go.Ab.AV.int Go.IntKind.u8 a1] [] spec_l1Split.dec = spec_l1Split.f n a0 a1 := by kernel_rfl
theorem spec_l1Split.gok (X : Wd) (n : Nat) {R : Type} : Go.Ab.CtrOk (En X) (spec_l1Split.G n : Go.Ab.Ctr R) := by
  intro g args objs k r h
  cases h
theorem spec_l1Split.hdec (r : ((List Go.Ab.AV) × Nat)) (v : Go.Ab.AV) (o : List Go.Ab.AObj) (h : spec_l1Split.dec v o = some r) : v = Go.Ab.AV.sval (r.1) (r.2) Bool.false ∧ o = [] := by
  unfold spec_l1Split.dec at h
  split at h
  · cases h; exact ⟨rfl, rfl⟩
  · cases h
theorem spec_l1Split.sim (X : Wd) (n : Nat) (a0 : ByteArray) (a1 : Int) (r : ((List Go.Ab.AV) × Nat)) (h : spec_l1Split.f n a0 a1 = some r) : Go.Ab.Sim (En X) 64 [Go.Ab.AV.str a0, Go.Ab.AV.int Go.IntKind.u8 a1] [] (Go.Ab.AV.sval (r.1) (r.2) Bool.false) [] :=
  Go.Ab.sim_of (E := En X) (spec_l1Split.gok X n) mix (fn := Go.Proofs.Tryd.f64) (c := (bodyOf Go.Proofs.Tryd.f64)) (by kernel_rfl) (by kernel_rfl) (by kernel_rfl) (spec_l1Split.loops n) (spec_l1Split.cuts n) ((spec_l1Split.eq n a0 a1).trans h) (spec_l1Split.hdec r)
noncomputable def spec_l1Split.ctr (n : Nat) {R : Type} : List Go.Ab.AV → List Go.Ab.AObj → (Go.Ab.AV → List Go.Ab.AObj → Option R) → Option R
  | [Go.Ab.AV.str a0, Go.Ab.AV.int Go.IntKind.u8 a1], [], k => (spec_l1Split.f n a0 a1).bind fun r => k (Go.Ab.AV.sval (r.1) (r.2) Bool.false) []
  | _, _, _ => none
noncomputable def spec_l1Split.fits : List Go.Ab.AV → List Go.Ab.AObj → Bool
  | [Go.Ab.AV.str a0, Go.Ab.AV.int Go.IntKind.u8 a1], [] => true
  | _, _ => false
theorem spec_l1Split.ok (X : Wd) (n : Nat) {R : Type} (args : List Go.Ab.AV) (objs : List Go.Ab.AObj) (k : Go.Ab.AV → List Go.Ab.AObj → Option R) (r : R) (h : spec_l1Split.ctr n args objs k = some r) :
    Go.Ab.Enters Go.Proofs.Tryd.prog 64 ∧ ∃ v objs', Go.Ab.Sim (En X) 64 args objs v objs' ∧ k v objs' = some r := by
  unfold spec_l1Split.ctr at h
  split at h
  · obtain ⟨x, h1, h2⟩ := Option.bind_eq_some_iff.1 h
    exact ⟨⟨Go.Proofs.Tryd.f64, by kernel_rfl, by kernel_rfl, by kernel_rfl⟩, _, _, spec_l1Split.sim X n _ _ x h1, h2⟩
  · cases h

noncomputable def spec_l1Num.dec (v : Go.Ab.AV) (o : List Go.Ab.AObj) : Option ByteArray := match v, o with
  | Go.Ab.AV.str a1, [] => some (a1)
  | _, _ => none
noncomputable def spec_l1Num.A : Go.Ab.Ann := { live := fun _ => [], out := fun _ => [], cut := fun _ => none }
noncomputable def spec_l1Num.ctr (n : Nat) {R : Type} : List Go.Ab.AV → List Go.Ab.AObj → (Go.Ab.AV → List Go.Ab.AObj → Option R) → Option R
  | [Go.Ab.AV.int Go.IntKind.i64 a0], [], k => (spec_l1Num.f n a0).bind fun r => k (Go.Ab.AV.str (r)) []
  | _, _, _ => none
noncomputable def spec_l1Num.fits : List Go.Ab.AV → List Go.Ab.AObj → Bool
  | [Go.Ab.AV.int Go.IntKind.i64 a0], [] => true
  | _, _ => false
noncomputable def spec_l1Num.G (n : Nat) {R : Type} : Go.Ab.Ctr R := fun g args objs k => match g with | 77 => (match n with | 0 => none | n + 1 => spec_l1Num.ctr n args objs k) | _ => none
noncomputable def spec_l1Num.B (i : Nat) : Go.Code := (Go.Ab.loopsOf (bodyOf Go.Proofs.Tryd.f77)).getD i Go.Code.skip
noncomputable def spec_l1Num.H (n : Nat) : Go.Ab.Hnd ByteArray := { loop := fun key _ v o K => none, cut := fun _ _ _ _ _ => none }
theorem spec_l1Num.loops (n0 : Nat) : ∀ b ∈ Go.Ab.loopsOf (bodyOf Go.Proofs.Tryd.f77), Go.Ab.LoopOk Go.Proofs.Tryd.prog (spec_l1Num.G n0) spec_l1Num.A (spec_l1Num.H n0) 35 0 b := Go.Ab.forall_nil (by kernel_rfl)
theorem spec_l1Num.cuts (n0 : Nat) : ∀ b ∈ Go.Ab.cutsOf spec_l1Num.A (bodyOf Go.Proofs.Tryd.f77), Go.Ab.CutOk Go.Proofs.Tryd.prog (spec_l1Num.G n0) spec_l1Num.A (spec_l1Num.H n0) 35 0 b := Go.Ab.forall_nil (by kernel_rfl)
theorem spec_l1Num.eq (n : Nat) (a0 : Int) : Go.Ab.funK Go.Proofs.Tryd.prog (spec_l1Num.G (n + 1)) spec_l1Num.A (spec_l1Num.H (n + 1)) false Go.Proofs.Tryd.f77 (bodyOf Go.Proofs.Tryd.f77) [Go.Ab.AV.int Go.IntKind.i64 a0] [] spec_l1Num.dec = spec_l1Num.f (n + 1) a0 := by kernel_rfl
theorem spec_l1Num.okS (X : Wd) (n : Nat) (hs : ∀ (a0 : Int) (r : ByteArray), spec_l1Num.f n a0 = some r → Go.Ab.Sim (En X) 77 [Go.Ab.AV.int Go.IntKind.i64 a0] [] (Go.Ab.AV.str (r)) []) {R : Type} (args : List Go.Ab.AV) (objs : List Go.Ab.AObj) (k : Go.Ab.AV → List Go.Ab.AObj → Option R) (r : R) (h : spec_l1Num.ctr n args objs k = some r) :
    Go.Ab.Enters Go.Proofs.Tryd.prog 77 ∧ ∃ v objs', Go.Ab.Sim (En X) 77 args objs v objs' ∧ k v objs' = some r := by
  unfold spec_l1Num.ctr at h
  split at h
  · obtain ⟨x, h1, h2⟩ := Option.bind_eq_some_iff.1 h
    exact ⟨⟨Go.Proofs.Tryd.f77, by kernel_rfl, by kernel_rfl, by kernel_rfl⟩, _, _, hs _ x h1, h2⟩
  · cases h
theorem spec_l1Num.gok (X : Wd) (n : Nat) (hs : ∀ (a0 : Int) (r : ByteArray), spec_l1Num.f n a0 = some r → Go.Ab.Sim (En X) 77 [Go.Ab.AV.int Go.IntKind.i64 a0] [] (Go.Ab.AV.str (r)) []) {R : Type} : Go.Ab.CtrOk (En X) (spec_l1Num.G (n + 1) : Go.Ab.Ctr R) := by
  intro g args objs k r h
  unfold spec_l1Num.G at h
  split at h
  · exact spec_l1Num.okS X n hs args objs k r h
  · cases h
theorem spec_l1Num.hdec (r : ByteArray) (v : Go.Ab.AV) (o : List Go.Ab.AObj) (h : spec_l1Num.dec v o = some r) : v = Go.Ab.AV.str (r) ∧ o = [] := by
  unfold spec_l1Num.dec at h
  split at h
  · cases h; exact ⟨rfl, rfl⟩
  · cases h
theorem spec_l1Num.sim (X : Wd) : ∀ (n : Nat) (a0 : Int) (r : ByteArray), spec_l1Num.f n a0 = some r → Go.Ab.Sim (En X) 77 [Go.Ab.AV.int Go.IntKind.i64 a0] [] (Go.Ab.AV.str (r)) []
  | 0, _, _, h => by cases h
  | n + 1, a0, r, h =>
    Go.Ab.sim_of (E := En X) (spec_l1Num.gok X n (spec_l1Num.sim X n)) mix (fn := Go.Proofs.Tryd.f77) (c := (bodyOf Go.Proofs.Tryd.f77)) (by kernel_rfl) (by kernel_rfl) (by kernel_rfl) (spec_l1Num.loops (n + 1)) (spec_l1Num.cuts (n + 1)) ((spec_l1Num.eq n a0).trans h) (spec_l1Num.hdec r)
theorem spec_l1Num.ok (X : Wd) (n : Nat) {R : Type} (args : List Go.Ab.AV) (objs : List Go.Ab.AObj) (k : Go.Ab.AV → List Go.Ab.AObj → Option R) (r : R) (h : spec_l1Num.ctr n args objs k = some r) :
    Go.Ab.Enters Go.Proofs.Tryd.prog 77 ∧ ∃ v objs', Go.Ab.Sim (En X) 77 args objs v objs' ∧ k v objs' = some r := by
  unfold spec_l1Num.ctr at h
  split at h
  · obtain ⟨x, h1, h2⟩ := Option.bind_eq_some_iff.1 h
    exact ⟨⟨Go.Proofs.Tryd.f77, by kernel_rfl, by kernel_rfl, by kernel_rfl⟩, _, _, spec_l1Num.sim X n _ x h1, h2⟩
  · cases h

noncomputable def spec_l12Bytes.dec (v : Go.Ab.AV) (o : List Go.Ab.AObj) : Option Bool := match v, o with
  | Go.Ab.AV.bool a2, [] => some (a2)
  | _, _ => none
noncomputable def spec_l12Bytes.A : Go.Ab.Ann := { live := fun k => match k with | 2 => [0, 1, 5] | _ => [], out := fun k => match k with | 2 => [0, 1, 4] | _ => [], cut := fun _ => none }
noncomputable def spec_l12Bytes.G (n : Nat) {R : Type} : Go.Ab.Ctr R := fun g args objs k => match g with | 53 => spec_l1In.ctr n args objs k | _ => none
noncomputable def spec_l12Bytes.B (i : Nat) : Go.Code := (Go.Ab.loopsOf (bodyOf Go.Proofs.Tryd.f74)).getD i Go.Code.skip
noncomputable def spec_l12Bytes.h2 (n : Nat) (v : List Go.Ab.AV) (o : List Go.Ab.AObj) (K : Go.Ab.Kont Bool) : Option Bool := match v, o with
  | [Go.Ab.AV.str x11, Go.Ab.AV.int Go.IntKind.i64 x12, Go.Ab.AV.int Go.IntKind.i64 x13], [] => spec_l12Bytes.l2 n (fun y30 y31 y32 => K (Go.Ab.Ex.ret) [Go.Ab.AV.str y30, Go.Ab.AV.int Go.IntKind.i64 y31, Go.Ab.AV.bool y32] []) (fun y30 y31 => K (Go.Ab.Ex.exit 0) [Go.Ab.AV.str y30, Go.Ab.AV.int Go.IntKind.i64 y31, Go.Ab.AV.undef] []) n x11 x12 x13
  | _, _ => none
noncomputable def spec_l12Bytes.H (n : Nat) : Go.Ab.Hnd Bool := { loop := fun key _ v o K => match key with | 2 => spec_l12Bytes.h2 n v o K | _ => none, cut := fun _ _ _ _ _ => none }
theorem spec_l12Bytes.loop2 (n0 : Nat) (K : Go.Ab.Kont Bool) : ∀ (n : Nat) (x11 : ByteArray) (x12 : Int) (x13 : Int), Go.Ab.loopK 28 0 (spec_l12Bytes.A.live 2) (spec_l12Bytes.A.out 2) (fun t o k => Go.Ab.denK Go.Proofs.Tryd.prog (spec_l12Bytes.G n0) spec_l12Bytes.A (spec_l12Bytes.H n0) 28 0 (spec_l12Bytes.B 0) t o k) n [Go.Ab.AV.str x11, Go.Ab.AV.int Go.IntKind.i64 x12, Go.Ab.AV.int Go.IntKind.i64 x13] [] K = spec_l12Bytes.l2 n0 (fun y30 y31 y32 => K (Go.Ab.Ex.ret) [Go.Ab.AV.str y30, Go.Ab.AV.int Go.IntKind.i64 y31, Go.Ab.AV.bool y32] []) (fun y30 y31 => K (Go.Ab.Ex.exit 0) [Go.Ab.AV.str y30, Go.Ab.AV.int Go.IntKind.i64 y31, Go.Ab.AV.undef] []) n x11 x12 x13
  | 0, _, _, _ => rfl
  | n + 1, x11, x12, x13 => by
    have ih : (fun (x11 : ByteArray) (x12 : Int) (x13 : Int) => Go.Ab.loopK 28 0 (spec_l12Bytes.A.live 2) (spec_l12Bytes.A.out 2) (fun t o k => Go.Ab.denK Go.Proofs.Tryd.prog (spec_l12Bytes.G n0) spec_l12Bytes.A (spec_l12Bytes.H n0) 28 0 (spec_l12Bytes.B 0) t o k) n [Go.Ab.AV.str x11, Go.Ab.AV.int Go.IntKind.i64 x12, Go.Ab.AV.int Go.IntKind.i64 x13] [] K) = spec_l12Bytes.l2 n0 (fun y30 y31 y32 => K (Go.Ab.Ex.ret) [Go.Ab.AV.str y30, Go.Ab.AV.int Go.IntKind.i64 y31, Go.Ab.AV.bool y32] []) (fun y30 y31 => K (Go.Ab.Ex.exit 0) [Go.Ab.AV.str y30, Go.Ab.AV.int Go.IntKind.i64 y31, Go.Ab.AV.undef] []) n := by funext x11 x12 x13; exact spec_l12Bytes.loop2 n0 K n x11 x12 x13
    have st : Go.Ab.loopK 28 0 (spec_l12Bytes.A.live 2) (spec_l12Bytes.A.out 2) (fun t o k => Go.Ab.denK Go.Proofs.Tryd.prog (spec_l12Bytes.G n0) spec_l12Bytes.A (spec_l12Bytes.H n0) 28 0 (spec_l12Bytes.B 0) t o k) (n + 1) [Go.Ab.AV.str x11, Go.Ab.AV.int Go.IntKind.i64 x12, Go.Ab.AV.int Go.IntKind.i64 x13] [] K = spec_l12Bytes.l2S n0 (fun (x11 : ByteArray) (x12 : Int) (x13 : Int) => Go.Ab.loopK 28 0 (spec_l12Bytes.A.live 2) (spec_l12Bytes.A.out 2) (fun t o k => Go.Ab.denK Go.Proofs.Tryd.prog (spec_l12Bytes.G n0) spec_l12Bytes.A (spec_l12Bytes.H n0) 28 0 (spec_l12Bytes.B 0) t o k) n [Go.Ab.AV.str x11, Go.Ab.AV.int Go.IntKind.i64 x12, Go.Ab.AV.int Go.IntKind.i64 x13] [] K) (fun y30 y31 y32 => K (Go.Ab.Ex.ret) [Go.Ab.AV.str y30, Go.Ab.AV.int Go.IntKind.i64 y31, Go.Ab.AV.bool y32] []) (fun y30 y31 => K (Go.Ab.Ex.exit 0) [Go.Ab.AV.str y30, Go.Ab.AV.int Go.IntKind.i64 y31, Go.Ab.AV.undef] []) x11 x12 x13 := by kernel_rfl
    rw [st, ih]; rfl
theorem spec_l12Bytes.lok2 (n0 : Nat) : Go.Ab.LoopOk Go.Proofs.Tryd.prog (spec_l12Bytes.G n0) spec_l12Bytes.A (spec_l12Bytes.H n0) 28 0 (spec_l12Bytes.B 0) := by
  intro v o K r h
  have hk : Go.Ab.key (spec_l12Bytes.B 0) = 2 := by kernel_rfl
  rw [hk] at h ⊢
  change spec_l12Bytes.h2 n0 v o K = some r at h
  unfold spec_l12Bytes.h2 at h
  split at h
  · exact ⟨n0, by rw [spec_l12Bytes.loop2]; exact h⟩
  · cases h
theorem spec_l12Bytes.loops (n0 : Nat) : ∀ b ∈ Go.Ab.loopsOf (bodyOf Go.Proofs.Tryd.f74), Go.Ab.LoopOk Go.Proofs.Tryd.prog (spec_l12Bytes.G n0) spec_l12Bytes.A (spec_l12Bytes.H n0) 28 0 b :=
  Go.Ab.forall_getD 1 (by kernel_rfl) Go.Code.skip fun i hi => match i, hi with
    | 0, _ => spec_l12Bytes.lok2 n0
    | j + 1, hj => absurd hj (by omega)
theorem spec_l12Bytes.cuts (n0 : Nat) : ∀ b ∈ Go.Ab.cutsOf spec_l12Bytes.A (bodyOf Go.Proofs.Tryd.f74), Go.Ab.CutOk Go.Proofs.Tryd.prog (spec_l12Bytes.G n0) spec_l12Bytes.A (spec_l12Bytes.H n0) 28 0 b := Go.Ab.forall_nil (by kernel_rfl)
theorem spec_l12Bytes.eq (n : Nat) (a0 : ByteArray) (a1 : Int) : Go.Ab.funK Go.Proofs.Tryd.prog (spec_l12Bytes.G n) spec_l12Bytes.A (spec_l12Bytes.H n) false Go.Proofs.Tryd.f74 (bodyOf Go.Proofs.Tryd.f74) [Go.Ab.AV.str a0, Go.Ab.AV.int Go.IntKind.i64 a1] [] spec_l12Bytes.dec = spec_l12Bytes.f n a0 a1 := by kernel_rfl
theorem spec_l12Bytes.gok (X : Wd) (n : Nat) {R : Type} : Go.Ab.CtrOk (En X) (spec_l12Bytes.G n : Go.Ab.Ctr R) := by
  intro g args objs k r h
  unfold spec_l12Bytes.G at h
  split at h
  · exact spec_l1In.ok X _ args objs k r h
  · cases h
theorem spec_l12Bytes.hdec (r : Bool) (v : Go.Ab.AV) (o : List Go.Ab.AObj) (h : spec_l12Bytes.dec v o = some r) : v = Go.Ab.AV.bool (r) ∧ o = [] := by
  unfold spec_l12Bytes.dec at h
  split at h
  · cases h; exact ⟨rfl, rfl⟩
  · cases h
theorem spec_l12Bytes.sim (X : Wd) (n : Nat) (a0 : ByteArray) (a1 : Int) (r : Bool) (h : spec_l12Bytes.f n a0 a1 = some r) : Go.Ab.Sim (En X) 74 [Go.Ab.AV.str a0, Go.Ab.AV.int Go.IntKind.i64 a1] [] (Go.Ab.AV.bool (r)) [] :=
  Go.Ab.sim_of (E := En X) (spec_l12Bytes.gok X n) mix (fn := Go.Proofs.Tryd.f74) (c := (bodyOf Go.Proofs.Tryd.f74)) (by kernel_rfl) (by kernel_rfl) (by kernel_rfl) (spec_l12Bytes.loops n) (spec_l12Bytes.cuts n) ((spec_l12Bytes.eq n a0 a1).trans h) (spec_l12Bytes.hdec r)
noncomputable def spec_l12Bytes.ctr (n : Nat) {R : Type} : List Go.Ab.AV → List Go.Ab.AObj → (Go.Ab.AV → List Go.Ab.AObj → Option R) → Option R
  | [Go.Ab.AV.str a0, Go.Ab.AV.int Go.IntKind.i64 a1], [], k => (spec_l12Bytes.f n a0 a1).bind fun r => k (Go.Ab.AV.bool (r)) []
  | _, _, _ => none
noncomputable def spec_l12Bytes.fits : List Go.Ab.AV → List Go.Ab.AObj → Bool
  | [Go.Ab.AV.str a0, Go.Ab.AV.int Go.IntKind.i64 a1], [] => true
  | _, _ => false
theorem spec_l12Bytes.ok (X : Wd) (n : Nat) {R : Type} (args : List Go.Ab.AV) (objs : List Go.Ab.AObj) (k : Go.Ab.AV → List Go.Ab.AObj → Option R) (r : R) (h : spec_l12Bytes.ctr n args objs k = some r) :
    Go.Ab.Enters Go.Proofs.Tryd.prog 74 ∧ ∃ v objs', Go.Ab.Sim (En X) 74 args objs v objs' ∧ k v objs' = some r := by
  unfold spec_l12Bytes.ctr at h
  split at h
  · obtain ⟨x, h1, h2⟩ := Option.bind_eq_some_iff.1 h
    exact ⟨⟨Go.Proofs.Tryd.f74, by kernel_rfl, by kernel_rfl, by kernel_rfl⟩, _, _, spec_l12Bytes.sim X n _ _ x h1, h2⟩
  · cases h

noncomputable def spec_l1Stands.dec (v : Go.Ab.AV) (o : List Go.Ab.AObj) : Option Bool := match v, o with
  | Go.Ab.AV.bool a2, [] => some (a2)
  | _, _ => none
noncomputable def spec_l1Stands.A : Go.Ab.Ann := { live := fun k => match k with | 2 => [0, 1, 5] | _ => [], out := fun k => match k with | 2 => [4] | _ => [], cut := fun _ => none }
noncomputable def spec_l1Stands.G (n : Nat) {R : Type} : Go.Ab.Ctr R := fun g args objs k => none
noncomputable def spec_l1Stands.B (i : Nat) : Go.Code := (Go.Ab.loopsOf (bodyOf Go.Proofs.Tryd.f75)).getD i Go.Code.skip
noncomputable def spec_l1Stands.h2 (n : Nat) (v : List Go.Ab.AV) (o : List Go.Ab.AObj) (K : Go.Ab.Kont Bool) : Option Bool := match v, o with
  | [Go.Ab.AV.str x11, Go.Ab.AV.int Go.IntKind.u8 x12, Go.Ab.AV.int Go.IntKind.i64 x13], [] => spec_l1Stands.l2 n (fun y24 => K (Go.Ab.Ex.ret) [Go.Ab.AV.bool y24] []) (K (Go.Ab.Ex.exit 0) [Go.Ab.AV.undef] []) n x11 x12 x13
  | _, _ => none
noncomputable def spec_l1Stands.H (n : Nat) : Go.Ab.Hnd Bool := { loop := fun key _ v o K => match key with | 2 => spec_l1Stands.h2 n v o K | _ => none, cut := fun _ _ _ _ _ => none }
theorem spec_l1Stands.loop2 (n0 : Nat) (K : Go.Ab.Kont Bool) : ∀ (n : Nat) (x11 : ByteArray) (x12 : Int) (x13 : Int), Go.Ab.loopK 17 0 (spec_l1Stands.A.live 2) (spec_l1Stands.A.out 2) (fun t o k => Go.Ab.denK Go.Proofs.Tryd.prog (spec_l1Stands.G n0) spec_l1Stands.A (spec_l1Stands.H n0) 17 0 (spec_l1Stands.B 0) t o k) n [Go.Ab.AV.str x11, Go.Ab.AV.int Go.IntKind.u8 x12, Go.Ab.AV.int Go.IntKind.i64 x13] [] K = spec_l1Stands.l2 n0 (fun y24 => K (Go.Ab.Ex.ret) [Go.Ab.AV.bool y24] []) (K (Go.Ab.Ex.exit 0) [Go.Ab.AV.undef] []) n x11 x12 x13
  | 0, _, _, _ => rfl
  | n + 1, x11, x12, x13 => by
    have ih : (fun (x11 : ByteArray) (x12 : Int) (x13 : Int) => Go.Ab.loopK 17 0 (spec_l1Stands.A.live 2) (spec_l1Stands.A.out 2) (fun t o k => Go.Ab.denK Go.Proofs.Tryd.prog (spec_l1Stands.G n0) spec_l1Stands.A (spec_l1Stands.H n0) 17 0 (spec_l1Stands.B 0) t o k) n [Go.Ab.AV.str x11, Go.Ab.AV.int Go.IntKind.u8 x12, Go.Ab.AV.int Go.IntKind.i64 x13] [] K) = spec_l1Stands.l2 n0 (fun y24 => K (Go.Ab.Ex.ret) [Go.Ab.AV.bool y24] []) (K (Go.Ab.Ex.exit 0) [Go.Ab.AV.undef] []) n := by funext x11 x12 x13; exact spec_l1Stands.loop2 n0 K n x11 x12 x13
    have st : Go.Ab.loopK 17 0 (spec_l1Stands.A.live 2) (spec_l1Stands.A.out 2) (fun t o k => Go.Ab.denK Go.Proofs.Tryd.prog (spec_l1Stands.G n0) spec_l1Stands.A (spec_l1Stands.H n0) 17 0 (spec_l1Stands.B 0) t o k) (n + 1) [Go.Ab.AV.str x11, Go.Ab.AV.int Go.IntKind.u8 x12, Go.Ab.AV.int Go.IntKind.i64 x13] [] K = spec_l1Stands.l2S n0 (fun (x11 : ByteArray) (x12 : Int) (x13 : Int) => Go.Ab.loopK 17 0 (spec_l1Stands.A.live 2) (spec_l1Stands.A.out 2) (fun t o k => Go.Ab.denK Go.Proofs.Tryd.prog (spec_l1Stands.G n0) spec_l1Stands.A (spec_l1Stands.H n0) 17 0 (spec_l1Stands.B 0) t o k) n [Go.Ab.AV.str x11, Go.Ab.AV.int Go.IntKind.u8 x12, Go.Ab.AV.int Go.IntKind.i64 x13] [] K) (fun y24 => K (Go.Ab.Ex.ret) [Go.Ab.AV.bool y24] []) (K (Go.Ab.Ex.exit 0) [Go.Ab.AV.undef] []) x11 x12 x13 := by kernel_rfl
    rw [st, ih]; rfl
theorem spec_l1Stands.lok2 (n0 : Nat) : Go.Ab.LoopOk Go.Proofs.Tryd.prog (spec_l1Stands.G n0) spec_l1Stands.A (spec_l1Stands.H n0) 17 0 (spec_l1Stands.B 0) := by
  intro v o K r h
  have hk : Go.Ab.key (spec_l1Stands.B 0) = 2 := by kernel_rfl
  rw [hk] at h ⊢
  change spec_l1Stands.h2 n0 v o K = some r at h
  unfold spec_l1Stands.h2 at h
  split at h
  · exact ⟨n0, by rw [spec_l1Stands.loop2]; exact h⟩
  · cases h
theorem spec_l1Stands.loops (n0 : Nat) : ∀ b ∈ Go.Ab.loopsOf (bodyOf Go.Proofs.Tryd.f75), Go.Ab.LoopOk Go.Proofs.Tryd.prog (spec_l1Stands.G n0) spec_l1Stands.A (spec_l1Stands.H n0) 17 0 b :=
  Go.Ab.forall_getD 1 (by kernel_rfl) Go.Code.skip fun i hi => match i, hi with
    | 0, _ => spec_l1Stands.lok2 n0
    | j + 1, hj => absurd hj (by omega)
theorem spec_l1Stands.cuts (n0 : Nat) : ∀ b ∈ Go.Ab.cutsOf spec_l1Stands.A (bodyOf Go.Proofs.Tryd.f75), Go.Ab.CutOk Go.Proofs.Tryd.prog (spec_l1Stands.G n0) spec_l1Stands.A (spec_l1Stands.H n0) 17 0 b := Go.Ab.forall_nil (by kernel_rfl)
theorem spec_l1Stands.eq (n : Nat) (a0 : ByteArray) (a1 : Int) : Go.Ab.funK Go.Proofs.Tryd.prog (spec_l1Stands.G n) spec_l1Stands.A (spec_l1Stands.H n) false Go.Proofs.Tryd.f75 (bodyOf Go.Proofs.Tryd.f75) [Go.Ab.AV.str a0, Go.Ab.AV.int Go.IntKind.u8 a1] [] spec_l1Stands.dec = spec_l1Stands.f n a0 a1 := by kernel_rfl
theorem spec_l1Stands.gok (X : Wd) (n : Nat) {R : Type} : Go.Ab.CtrOk (En X) (spec_l1Stands.G n : Go.Ab.Ctr R) := by
  intro g args objs k r h
  cases h
theorem spec_l1Stands.hdec (r : Bool) (v : Go.Ab.AV) (o : List Go.Ab.AObj) (h : spec_l1Stands.dec v o = some r) : v = Go.Ab.AV.bool (r) ∧ o = [] := by
  unfold spec_l1Stands.dec at h
  split at h
  · cases h; exact ⟨rfl, rfl⟩
  · cases h
theorem spec_l1Stands.sim (X : Wd) (n : Nat) (a0 : ByteArray) (a1 : Int) (r : Bool) (h : spec_l1Stands.f n a0 a1 = some r) : Go.Ab.Sim (En X) 75 [Go.Ab.AV.str a0, Go.Ab.AV.int Go.IntKind.u8 a1] [] (Go.Ab.AV.bool (r)) [] :=
  Go.Ab.sim_of (E := En X) (spec_l1Stands.gok X n) mix (fn := Go.Proofs.Tryd.f75) (c := (bodyOf Go.Proofs.Tryd.f75)) (by kernel_rfl) (by kernel_rfl) (by kernel_rfl) (spec_l1Stands.loops n) (spec_l1Stands.cuts n) ((spec_l1Stands.eq n a0 a1).trans h) (spec_l1Stands.hdec r)
noncomputable def spec_l1Stands.ctr (n : Nat) {R : Type} : List Go.Ab.AV → List Go.Ab.AObj → (Go.Ab.AV → List Go.Ab.AObj → Option R) → Option R
  | [Go.Ab.AV.str a0, Go.Ab.AV.int Go.IntKind.u8 a1], [], k => (spec_l1Stands.f n a0 a1).bind fun r => k (Go.Ab.AV.bool (r)) []
  | _, _, _ => none
noncomputable def spec_l1Stands.fits : List Go.Ab.AV → List Go.Ab.AObj → Bool
  | [Go.Ab.AV.str a0, Go.Ab.AV.int Go.IntKind.u8 a1], [] => true
  | _, _ => false
theorem spec_l1Stands.ok (X : Wd) (n : Nat) {R : Type} (args : List Go.Ab.AV) (objs : List Go.Ab.AObj) (k : Go.Ab.AV → List Go.Ab.AObj → Option R) (r : R) (h : spec_l1Stands.ctr n args objs k = some r) :
    Go.Ab.Enters Go.Proofs.Tryd.prog 75 ∧ ∃ v objs', Go.Ab.Sim (En X) 75 args objs v objs' ∧ k v objs' = some r := by
  unfold spec_l1Stands.ctr at h
  split at h
  · obtain ⟨x, h1, h2⟩ := Option.bind_eq_some_iff.1 h
    exact ⟨⟨Go.Proofs.Tryd.f75, by kernel_rfl, by kernel_rfl, by kernel_rfl⟩, _, _, spec_l1Stands.sim X n _ _ x h1, h2⟩
  · cases h

noncomputable def spec_l12Record.dec (v : Go.Ab.AV) (o : List Go.Ab.AObj) : Option Bool := match v, o with
  | Go.Ab.AV.bool a2, [] => some (a2)
  | _, _ => none
noncomputable def spec_l12Record.A : Go.Ab.Ann := { live := fun _ => [], out := fun _ => [], cut := fun _ => none }
noncomputable def spec_l12Record.G (n : Nat) {R : Type} : Go.Ab.Ctr R := fun g args objs k => match g with | 74 => spec_l12Bytes.ctr n args objs k | 75 => spec_l1Stands.ctr n args objs k | _ => none
noncomputable def spec_l12Record.B (i : Nat) : Go.Code := (Go.Ab.loopsOf (bodyOf Go.Proofs.Tryd.f54)).getD i Go.Code.skip
noncomputable def spec_l12Record.H (n : Nat) : Go.Ab.Hnd Bool := { loop := fun key _ v o K => none, cut := fun _ _ _ _ _ => none }
theorem spec_l12Record.loops (n0 : Nat) : ∀ b ∈ Go.Ab.loopsOf (bodyOf Go.Proofs.Tryd.f54), Go.Ab.LoopOk Go.Proofs.Tryd.prog (spec_l12Record.G n0) spec_l12Record.A (spec_l12Record.H n0) 22 0 b := Go.Ab.forall_nil (by kernel_rfl)
theorem spec_l12Record.cuts (n0 : Nat) : ∀ b ∈ Go.Ab.cutsOf spec_l12Record.A (bodyOf Go.Proofs.Tryd.f54), Go.Ab.CutOk Go.Proofs.Tryd.prog (spec_l12Record.G n0) spec_l12Record.A (spec_l12Record.H n0) 22 0 b := Go.Ab.forall_nil (by kernel_rfl)
theorem spec_l12Record.eq (n : Nat) (a0 : ByteArray) (a1 : ByteArray) : Go.Ab.funK Go.Proofs.Tryd.prog (spec_l12Record.G n) spec_l12Record.A (spec_l12Record.H n) false Go.Proofs.Tryd.f54 (bodyOf Go.Proofs.Tryd.f54) [Go.Ab.AV.agg [Go.Ab.AV.str a0, Go.Ab.AV.str a1]] [] spec_l12Record.dec = spec_l12Record.f n a0 a1 := by kernel_rfl
theorem spec_l12Record.gok (X : Wd) (n : Nat) {R : Type} : Go.Ab.CtrOk (En X) (spec_l12Record.G n : Go.Ab.Ctr R) := by
  intro g args objs k r h
  unfold spec_l12Record.G at h
  split at h
  · exact spec_l12Bytes.ok X _ args objs k r h
  · exact spec_l1Stands.ok X _ args objs k r h
  · cases h
theorem spec_l12Record.hdec (r : Bool) (v : Go.Ab.AV) (o : List Go.Ab.AObj) (h : spec_l12Record.dec v o = some r) : v = Go.Ab.AV.bool (r) ∧ o = [] := by
  unfold spec_l12Record.dec at h
  split at h
  · cases h; exact ⟨rfl, rfl⟩
  · cases h
theorem spec_l12Record.sim (X : Wd) (n : Nat) (a0 : ByteArray) (a1 : ByteArray) (r : Bool) (h : spec_l12Record.f n a0 a1 = some r) : Go.Ab.Sim (En X) 54 [Go.Ab.AV.agg [Go.Ab.AV.str a0, Go.Ab.AV.str a1]] [] (Go.Ab.AV.bool (r)) [] :=
  Go.Ab.sim_of (E := En X) (spec_l12Record.gok X n) mix (fn := Go.Proofs.Tryd.f54) (c := (bodyOf Go.Proofs.Tryd.f54)) (by kernel_rfl) (by kernel_rfl) (by kernel_rfl) (spec_l12Record.loops n) (spec_l12Record.cuts n) ((spec_l12Record.eq n a0 a1).trans h) (spec_l12Record.hdec r)
noncomputable def spec_l12Record.ctr (n : Nat) {R : Type} : List Go.Ab.AV → List Go.Ab.AObj → (Go.Ab.AV → List Go.Ab.AObj → Option R) → Option R
  | [Go.Ab.AV.agg [Go.Ab.AV.str a0, Go.Ab.AV.str a1]], [], k => (spec_l12Record.f n a0 a1).bind fun r => k (Go.Ab.AV.bool (r)) []
  | _, _, _ => none
noncomputable def spec_l12Record.fits : List Go.Ab.AV → List Go.Ab.AObj → Bool
  | [Go.Ab.AV.agg [Go.Ab.AV.str a0, Go.Ab.AV.str a1]], [] => true
  | _, _ => false
theorem spec_l12Record.ok (X : Wd) (n : Nat) {R : Type} (args : List Go.Ab.AV) (objs : List Go.Ab.AObj) (k : Go.Ab.AV → List Go.Ab.AObj → Option R) (r : R) (h : spec_l12Record.ctr n args objs k = some r) :
    Go.Ab.Enters Go.Proofs.Tryd.prog 54 ∧ ∃ v objs', Go.Ab.Sim (En X) 54 args objs v objs' ∧ k v objs' = some r := by
  unfold spec_l12Record.ctr at h
  split at h
  · obtain ⟨x, h1, h2⟩ := Option.bind_eq_some_iff.1 h
    exact ⟨⟨Go.Proofs.Tryd.f54, by kernel_rfl, by kernel_rfl, by kernel_rfl⟩, _, _, spec_l12Record.sim X n _ _ x h1, h2⟩
  · cases h

noncomputable def spec_l1Sum.dec (v : Go.Ab.AV) (o : List Go.Ab.AObj) : Option Int := match v, o with
  | Go.Ab.AV.int Go.IntKind.i64 a1, [] => some (a1)
  | _, _ => none
noncomputable def spec_l1Sum.A : Go.Ab.Ann := { live := fun k => match k with | 3 => [0, 3, 4] | _ => [], out := fun k => match k with | 3 => [3] | _ => [], cut := fun _ => none }
noncomputable def spec_l1Sum.G (n : Nat) {R : Type} : Go.Ab.Ctr R := fun g args objs k => none
noncomputable def spec_l1Sum.B (i : Nat) : Go.Code := (Go.Ab.loopsOf (bodyOf Go.Proofs.Tryd.f87)).getD i Go.Code.skip
noncomputable def spec_l1Sum.h3 (n : Nat) (v : List Go.Ab.AV) (o : List Go.Ab.AObj) (K : Go.Ab.Kont Int) : Option Int := match v, o with
  | [Go.Ab.AV.str x10, Go.Ab.AV.int Go.IntKind.i64 x11, Go.Ab.AV.int Go.IntKind.i64 x12], [] => spec_l1Sum.l3 n (fun y21 => K (Go.Ab.Ex.exit 0) [Go.Ab.AV.int Go.IntKind.i64 y21] []) n x10 x11 x12
  | _, _ => none
noncomputable def spec_l1Sum.H (n : Nat) : Go.Ab.Hnd Int := { loop := fun key _ v o K => match key with | 3 => spec_l1Sum.h3 n v o K | _ => none, cut := fun _ _ _ _ _ => none }
theorem spec_l1Sum.loop3 (n0 : Nat) (K : Go.Ab.Kont Int) : ∀ (n : Nat) (x10 : ByteArray) (x11 : Int) (x12 : Int), Go.Ab.loopK 21 0 (spec_l1Sum.A.live 3) (spec_l1Sum.A.out 3) (fun t o k => Go.Ab.denK Go.Proofs.Tryd.prog (spec_l1Sum.G n0) spec_l1Sum.A (spec_l1Sum.H n0) 21 0 (spec_l1Sum.B 0) t o k) n [Go.Ab.AV.str x10, Go.Ab.AV.int Go.IntKind.i64 x11, Go.Ab.AV.int Go.IntKind.i64 x12] [] K = spec_l1Sum.l3 n0 (fun y21 => K (Go.Ab.Ex.exit 0) [Go.Ab.AV.int Go.IntKind.i64 y21] []) n x10 x11 x12
  | 0, _, _, _ => rfl
  | n + 1, x10, x11, x12 => by
    have ih : (fun (x10 : ByteArray) (x11 : Int) (x12 : Int) => Go.Ab.loopK 21 0 (spec_l1Sum.A.live 3) (spec_l1Sum.A.out 3) (fun t o k => Go.Ab.denK Go.Proofs.Tryd.prog (spec_l1Sum.G n0) spec_l1Sum.A (spec_l1Sum.H n0) 21 0 (spec_l1Sum.B 0) t o k) n [Go.Ab.AV.str x10, Go.Ab.AV.int Go.IntKind.i64 x11, Go.Ab.AV.int Go.IntKind.i64 x12] [] K) = spec_l1Sum.l3 n0 (fun y21 => K (Go.Ab.Ex.exit 0) [Go.Ab.AV.int Go.IntKind.i64 y21] []) n := by funext x10 x11 x12; exact spec_l1Sum.loop3 n0 K n x10 x11 x12
    have st : Go.Ab.loopK 21 0 (spec_l1Sum.A.live 3) (spec_l1Sum.A.out 3) (fun t o k => Go.Ab.denK Go.Proofs.Tryd.prog (spec_l1Sum.G n0) spec_l1Sum.A (spec_l1Sum.H n0) 21 0 (spec_l1Sum.B 0) t o k) (n + 1) [Go.Ab.AV.str x10, Go.Ab.AV.int Go.IntKind.i64 x11, Go.Ab.AV.int Go.IntKind.i64 x12] [] K = spec_l1Sum.l3S n0 (fun (x10 : ByteArray) (x11 : Int) (x12 : Int) => Go.Ab.loopK 21 0 (spec_l1Sum.A.live 3) (spec_l1Sum.A.out 3) (fun t o k => Go.Ab.denK Go.Proofs.Tryd.prog (spec_l1Sum.G n0) spec_l1Sum.A (spec_l1Sum.H n0) 21 0 (spec_l1Sum.B 0) t o k) n [Go.Ab.AV.str x10, Go.Ab.AV.int Go.IntKind.i64 x11, Go.Ab.AV.int Go.IntKind.i64 x12] [] K) (fun y21 => K (Go.Ab.Ex.exit 0) [Go.Ab.AV.int Go.IntKind.i64 y21] []) x10 x11 x12 := by kernel_rfl
    rw [st, ih]; rfl
theorem spec_l1Sum.lok3 (n0 : Nat) : Go.Ab.LoopOk Go.Proofs.Tryd.prog (spec_l1Sum.G n0) spec_l1Sum.A (spec_l1Sum.H n0) 21 0 (spec_l1Sum.B 0) := by
  intro v o K r h
  have hk : Go.Ab.key (spec_l1Sum.B 0) = 3 := by kernel_rfl
  rw [hk] at h ⊢
  change spec_l1Sum.h3 n0 v o K = some r at h
  unfold spec_l1Sum.h3 at h
  split at h
  · exact ⟨n0, by rw [spec_l1Sum.loop3]; exact h⟩
  · cases h
theorem spec_l1Sum.loops (n0 : Nat) : ∀ b ∈ Go.Ab.loopsOf (bodyOf Go.Proofs.Tryd.f87), Go.Ab.LoopOk Go.Proofs.Tryd.prog (spec_l1Sum.G n0) spec_l1Sum.A (spec_l1Sum.H n0) 21 0 b :=
  Go.Ab.forall_getD 1 (by kernel_rfl) Go.Code.skip fun i hi => match i, hi with
    | 0, _ => spec_l1Sum.lok3 n0
    | j + 1, hj => absurd hj (by omega)
theorem spec_l1Sum.cuts (n0 : Nat) : ∀ b ∈ Go.Ab.cutsOf spec_l1Sum.A (bodyOf Go.Proofs.Tryd.f87), Go.Ab.CutOk Go.Proofs.Tryd.prog (spec_l1Sum.G n0) spec_l1Sum.A (spec_l1Sum.H n0) 21 0 b := Go.Ab.forall_nil (by kernel_rfl)
theorem spec_l1Sum.eq (n : Nat) (a0 : ByteArray) : Go.Ab.funK Go.Proofs.Tryd.prog (spec_l1Sum.G n) spec_l1Sum.A (spec_l1Sum.H n) false Go.Proofs.Tryd.f87 (bodyOf Go.Proofs.Tryd.f87) [Go.Ab.AV.str a0] [] spec_l1Sum.dec = spec_l1Sum.f n a0 := by kernel_rfl
theorem spec_l1Sum.gok (X : Wd) (n : Nat) {R : Type} : Go.Ab.CtrOk (En X) (spec_l1Sum.G n : Go.Ab.Ctr R) := by
  intro g args objs k r h
  cases h
theorem spec_l1Sum.hdec (r : Int) (v : Go.Ab.AV) (o : List Go.Ab.AObj) (h : spec_l1Sum.dec v o = some r) : v = Go.Ab.AV.int Go.IntKind.i64 (r) ∧ o = [] := by
  unfold spec_l1Sum.dec at h
  split at h
  · cases h; exact ⟨rfl, rfl⟩
  · cases h
theorem spec_l1Sum.sim (X : Wd) (n : Nat) (a0 : ByteArray) (r : Int) (h : spec_l1Sum.f n a0 = some r) : Go.Ab.Sim (En X) 87 [Go.Ab.AV.str a0] [] (Go.Ab.AV.int Go.IntKind.i64 (r)) [] :=
  Go.Ab.sim_of (E := En X) (spec_l1Sum.gok X n) mix (fn := Go.Proofs.Tryd.f87) (c := (bodyOf Go.Proofs.Tryd.f87)) (by kernel_rfl) (by kernel_rfl) (by kernel_rfl) (spec_l1Sum.loops n) (spec_l1Sum.cuts n) ((spec_l1Sum.eq n a0).trans h) (spec_l1Sum.hdec r)
noncomputable def spec_l1Sum.ctr (n : Nat) {R : Type} : List Go.Ab.AV → List Go.Ab.AObj → (Go.Ab.AV → List Go.Ab.AObj → Option R) → Option R
  | [Go.Ab.AV.str a0], [], k => (spec_l1Sum.f n a0).bind fun r => k (Go.Ab.AV.int Go.IntKind.i64 (r)) []
  | _, _, _ => none
noncomputable def spec_l1Sum.fits : List Go.Ab.AV → List Go.Ab.AObj → Bool
  | [Go.Ab.AV.str a0], [] => true
  | _, _ => false
theorem spec_l1Sum.ok (X : Wd) (n : Nat) {R : Type} (args : List Go.Ab.AV) (objs : List Go.Ab.AObj) (k : Go.Ab.AV → List Go.Ab.AObj → Option R) (r : R) (h : spec_l1Sum.ctr n args objs k = some r) :
    Go.Ab.Enters Go.Proofs.Tryd.prog 87 ∧ ∃ v objs', Go.Ab.Sim (En X) 87 args objs v objs' ∧ k v objs' = some r := by
  unfold spec_l1Sum.ctr at h
  split at h
  · obtain ⟨x, h1, h2⟩ := Option.bind_eq_some_iff.1 h
    exact ⟨⟨Go.Proofs.Tryd.f87, by kernel_rfl, by kernel_rfl, by kernel_rfl⟩, _, _, spec_l1Sum.sim X n _ x h1, h2⟩
  · cases h

noncomputable def spec_l1Seal.dec (v : Go.Ab.AV) (o : List Go.Ab.AObj) : Option ByteArray := match v, o with
  | Go.Ab.AV.str a1, [] => some (a1)
  | _, _ => none
noncomputable def spec_l1Seal.A : Go.Ab.Ann := { live := fun _ => [], out := fun _ => [], cut := fun _ => none }
noncomputable def spec_l1Seal.G (n : Nat) {R : Type} : Go.Ab.Ctr R := fun g args objs k => match g with | 87 => spec_l1Sum.ctr n args objs k | 77 => spec_l1Num.ctr n args objs k | _ => none
noncomputable def spec_l1Seal.B (i : Nat) : Go.Code := (Go.Ab.loopsOf (bodyOf Go.Proofs.Tryd.f76)).getD i Go.Code.skip
noncomputable def spec_l1Seal.H (n : Nat) : Go.Ab.Hnd ByteArray := { loop := fun key _ v o K => none, cut := fun _ _ _ _ _ => none }
theorem spec_l1Seal.loops (n0 : Nat) : ∀ b ∈ Go.Ab.loopsOf (bodyOf Go.Proofs.Tryd.f76), Go.Ab.LoopOk Go.Proofs.Tryd.prog (spec_l1Seal.G n0) spec_l1Seal.A (spec_l1Seal.H n0) 9 0 b := Go.Ab.forall_nil (by kernel_rfl)
theorem spec_l1Seal.cuts (n0 : Nat) : ∀ b ∈ Go.Ab.cutsOf spec_l1Seal.A (bodyOf Go.Proofs.Tryd.f76), Go.Ab.CutOk Go.Proofs.Tryd.prog (spec_l1Seal.G n0) spec_l1Seal.A (spec_l1Seal.H n0) 9 0 b := Go.Ab.forall_nil (by kernel_rfl)
theorem spec_l1Seal.eq (n : Nat) (a0 : ByteArray) : Go.Ab.funK Go.Proofs.Tryd.prog (spec_l1Seal.G n) spec_l1Seal.A (spec_l1Seal.H n) false Go.Proofs.Tryd.f76 (bodyOf Go.Proofs.Tryd.f76) [Go.Ab.AV.str a0] [] spec_l1Seal.dec = spec_l1Seal.f n a0 := by kernel_rfl
theorem spec_l1Seal.gok (X : Wd) (n : Nat) {R : Type} : Go.Ab.CtrOk (En X) (spec_l1Seal.G n : Go.Ab.Ctr R) := by
  intro g args objs k r h
  unfold spec_l1Seal.G at h
  split at h
  · exact spec_l1Sum.ok X _ args objs k r h
  · exact spec_l1Num.ok X _ args objs k r h
  · cases h
theorem spec_l1Seal.hdec (r : ByteArray) (v : Go.Ab.AV) (o : List Go.Ab.AObj) (h : spec_l1Seal.dec v o = some r) : v = Go.Ab.AV.str (r) ∧ o = [] := by
  unfold spec_l1Seal.dec at h
  split at h
  · cases h; exact ⟨rfl, rfl⟩
  · cases h
theorem spec_l1Seal.sim (X : Wd) (n : Nat) (a0 : ByteArray) (r : ByteArray) (h : spec_l1Seal.f n a0 = some r) : Go.Ab.Sim (En X) 76 [Go.Ab.AV.str a0] [] (Go.Ab.AV.str (r)) [] :=
  Go.Ab.sim_of (E := En X) (spec_l1Seal.gok X n) mix (fn := Go.Proofs.Tryd.f76) (c := (bodyOf Go.Proofs.Tryd.f76)) (by kernel_rfl) (by kernel_rfl) (by kernel_rfl) (spec_l1Seal.loops n) (spec_l1Seal.cuts n) ((spec_l1Seal.eq n a0).trans h) (spec_l1Seal.hdec r)
noncomputable def spec_l1Seal.ctr (n : Nat) {R : Type} : List Go.Ab.AV → List Go.Ab.AObj → (Go.Ab.AV → List Go.Ab.AObj → Option R) → Option R
  | [Go.Ab.AV.str a0], [], k => (spec_l1Seal.f n a0).bind fun r => k (Go.Ab.AV.str (r)) []
  | _, _, _ => none
noncomputable def spec_l1Seal.fits : List Go.Ab.AV → List Go.Ab.AObj → Bool
  | [Go.Ab.AV.str a0], [] => true
  | _, _ => false
theorem spec_l1Seal.ok (X : Wd) (n : Nat) {R : Type} (args : List Go.Ab.AV) (objs : List Go.Ab.AObj) (k : Go.Ab.AV → List Go.Ab.AObj → Option R) (r : R) (h : spec_l1Seal.ctr n args objs k = some r) :
    Go.Ab.Enters Go.Proofs.Tryd.prog 76 ∧ ∃ v objs', Go.Ab.Sim (En X) 76 args objs v objs' ∧ k v objs' = some r := by
  unfold spec_l1Seal.ctr at h
  split at h
  · obtain ⟨x, h1, h2⟩ := Option.bind_eq_some_iff.1 h
    exact ⟨⟨Go.Proofs.Tryd.f76, by kernel_rfl, by kernel_rfl, by kernel_rfl⟩, _, _, spec_l1Seal.sim X n _ x h1, h2⟩
  · cases h

noncomputable def spec_l12Line.dec (v : Go.Ab.AV) (o : List Go.Ab.AObj) : Option ByteArray := match v, o with
  | Go.Ab.AV.str a3, [] => some (a3)
  | _, _ => none
noncomputable def spec_l12Line.A : Go.Ab.Ann := { live := fun _ => [], out := fun _ => [], cut := fun _ => none }
noncomputable def spec_l12Line.G (n : Nat) {R : Type} : Go.Ab.Ctr R := fun g args objs k => match g with | 77 => spec_l1Num.ctr n args objs k | 76 => spec_l1Seal.ctr n args objs k | _ => none
noncomputable def spec_l12Line.B (i : Nat) : Go.Code := (Go.Ab.loopsOf (bodyOf Go.Proofs.Tryd.f55)).getD i Go.Code.skip
noncomputable def spec_l12Line.H (n : Nat) : Go.Ab.Hnd ByteArray := { loop := fun key _ v o K => none, cut := fun _ _ _ _ _ => none }
theorem spec_l12Line.loops (n0 : Nat) : ∀ b ∈ Go.Ab.loopsOf (bodyOf Go.Proofs.Tryd.f55), Go.Ab.LoopOk Go.Proofs.Tryd.prog (spec_l12Line.G n0) spec_l12Line.A (spec_l12Line.H n0) 17 0 b := Go.Ab.forall_nil (by kernel_rfl)
theorem spec_l12Line.cuts (n0 : Nat) : ∀ b ∈ Go.Ab.cutsOf spec_l12Line.A (bodyOf Go.Proofs.Tryd.f55), Go.Ab.CutOk Go.Proofs.Tryd.prog (spec_l12Line.G n0) spec_l12Line.A (spec_l12Line.H n0) 17 0 b := Go.Ab.forall_nil (by kernel_rfl)
theorem spec_l12Line.eq (n : Nat) (a0 : Int) (a1 : ByteArray) (a2 : ByteArray) : Go.Ab.funK Go.Proofs.Tryd.prog (spec_l12Line.G n) spec_l12Line.A (spec_l12Line.H n) false Go.Proofs.Tryd.f55 (bodyOf Go.Proofs.Tryd.f55) [Go.Ab.AV.int Go.IntKind.i64 a0, Go.Ab.AV.agg [Go.Ab.AV.str a1, Go.Ab.AV.str a2]] [] spec_l12Line.dec = spec_l12Line.f n a0 a1 a2 := by kernel_rfl
theorem spec_l12Line.gok (X : Wd) (n : Nat) {R : Type} : Go.Ab.CtrOk (En X) (spec_l12Line.G n : Go.Ab.Ctr R) := by
  intro g args objs k r h
  unfold spec_l12Line.G at h
  split at h
  · exact spec_l1Num.ok X _ args objs k r h
  · exact spec_l1Seal.ok X _ args objs k r h
  · cases h
theorem spec_l12Line.hdec (r : ByteArray) (v : Go.Ab.AV) (o : List Go.Ab.AObj) (h : spec_l12Line.dec v o = some r) : v = Go.Ab.AV.str (r) ∧ o = [] := by
  unfold spec_l12Line.dec at h
  split at h
  · cases h; exact ⟨rfl, rfl⟩
  · cases h
theorem spec_l12Line.sim (X : Wd) (n : Nat) (a0 : Int) (a1 : ByteArray) (a2 : ByteArray) (r : ByteArray) (h : spec_l12Line.f n a0 a1 a2 = some r) : Go.Ab.Sim (En X) 55 [Go.Ab.AV.int Go.IntKind.i64 a0, Go.Ab.AV.agg [Go.Ab.AV.str a1, Go.Ab.AV.str a2]] [] (Go.Ab.AV.str (r)) [] :=
  Go.Ab.sim_of (E := En X) (spec_l12Line.gok X n) mix (fn := Go.Proofs.Tryd.f55) (c := (bodyOf Go.Proofs.Tryd.f55)) (by kernel_rfl) (by kernel_rfl) (by kernel_rfl) (spec_l12Line.loops n) (spec_l12Line.cuts n) ((spec_l12Line.eq n a0 a1 a2).trans h) (spec_l12Line.hdec r)
noncomputable def spec_l12Line.ctr (n : Nat) {R : Type} : List Go.Ab.AV → List Go.Ab.AObj → (Go.Ab.AV → List Go.Ab.AObj → Option R) → Option R
  | [Go.Ab.AV.int Go.IntKind.i64 a0, Go.Ab.AV.agg [Go.Ab.AV.str a1, Go.Ab.AV.str a2]], [], k => (spec_l12Line.f n a0 a1 a2).bind fun r => k (Go.Ab.AV.str (r)) []
  | _, _, _ => none
noncomputable def spec_l12Line.fits : List Go.Ab.AV → List Go.Ab.AObj → Bool
  | [Go.Ab.AV.int Go.IntKind.i64 a0, Go.Ab.AV.agg [Go.Ab.AV.str a1, Go.Ab.AV.str a2]], [] => true
  | _, _ => false
theorem spec_l12Line.ok (X : Wd) (n : Nat) {R : Type} (args : List Go.Ab.AV) (objs : List Go.Ab.AObj) (k : Go.Ab.AV → List Go.Ab.AObj → Option R) (r : R) (h : spec_l12Line.ctr n args objs k = some r) :
    Go.Ab.Enters Go.Proofs.Tryd.prog 55 ∧ ∃ v objs', Go.Ab.Sim (En X) 55 args objs v objs' ∧ k v objs' = some r := by
  unfold spec_l12Line.ctr at h
  split at h
  · obtain ⟨x, h1, h2⟩ := Option.bind_eq_some_iff.1 h
    exact ⟨⟨Go.Proofs.Tryd.f55, by kernel_rfl, by kernel_rfl, by kernel_rfl⟩, _, _, spec_l12Line.sim X n _ _ _ x h1, h2⟩
  · cases h

noncomputable def spec_l12Decode.dec (v : Go.Ab.AV) (o : List Go.Ab.AObj) : Option (ByteArray × ByteArray × Bool) := match v, o with
  | Go.Ab.AV.tup [Go.Ab.AV.agg [Go.Ab.AV.str a2, Go.Ab.AV.str a3], Go.Ab.AV.bool a4], [] => some (a2, a3, a4)
  | _, _ => none
noncomputable def spec_l12Decode.A : Go.Ab.Ann := { live := fun _ => [], out := fun _ => [], cut := fun _ => none }
noncomputable def spec_l12Decode.G (n : Nat) {R : Type} : Go.Ab.Ctr R := fun g args objs k => match g with | 77 => spec_l1Num.ctr n args objs k | 64 => spec_l1Split.ctr n args objs k | 54 => spec_l12Record.ctr n args objs k | 55 => spec_l12Line.ctr n args objs k | _ => none
noncomputable def spec_l12Decode.B (i : Nat) : Go.Code := (Go.Ab.loopsOf (bodyOf Go.Proofs.Tryd.f65)).getD i Go.Code.skip
noncomputable def spec_l12Decode.H (n : Nat) : Go.Ab.Hnd (ByteArray × ByteArray × Bool) := { loop := fun key _ v o K => none, cut := fun _ _ _ _ _ => none }
theorem spec_l12Decode.loops (n0 : Nat) : ∀ b ∈ Go.Ab.loopsOf (bodyOf Go.Proofs.Tryd.f65), Go.Ab.LoopOk Go.Proofs.Tryd.prog (spec_l12Decode.G n0) spec_l12Decode.A (spec_l12Decode.H n0) 64 0 b := Go.Ab.forall_nil (by kernel_rfl)
theorem spec_l12Decode.cuts (n0 : Nat) : ∀ b ∈ Go.Ab.cutsOf spec_l12Decode.A (bodyOf Go.Proofs.Tryd.f65), Go.Ab.CutOk Go.Proofs.Tryd.prog (spec_l12Decode.G n0) spec_l12Decode.A (spec_l12Decode.H n0) 64 0 b := Go.Ab.forall_nil (by kernel_rfl)
theorem spec_l12Decode.eq (n : Nat) (a0 : ByteArray) (a1 : Int) : Go.Ab.funK Go.Proofs.Tryd.prog (spec_l12Decode.G n) spec_l12Decode.A (spec_l12Decode.H n) false Go.Proofs.Tryd.f65 (bodyOf Go.Proofs.Tryd.f65) [Go.Ab.AV.str a0, Go.Ab.AV.int Go.IntKind.i64 a1] [] spec_l12Decode.dec = spec_l12Decode.f n a0 a1 := by kernel_rfl
theorem spec_l12Decode.gok (X : Wd) (n : Nat) {R : Type} : Go.Ab.CtrOk (En X) (spec_l12Decode.G n : Go.Ab.Ctr R) := by
  intro g args objs k r h
  unfold spec_l12Decode.G at h
  split at h
  · exact spec_l1Num.ok X _ args objs k r h
  · exact spec_l1Split.ok X _ args objs k r h
  · exact spec_l12Record.ok X _ args objs k r h
  · exact spec_l12Line.ok X _ args objs k r h
  · cases h
theorem spec_l12Decode.hdec (r : (ByteArray × ByteArray × Bool)) (v : Go.Ab.AV) (o : List Go.Ab.AObj) (h : spec_l12Decode.dec v o = some r) : v = Go.Ab.AV.tup [Go.Ab.AV.agg [Go.Ab.AV.str (r.1), Go.Ab.AV.str (r.2.1)], Go.Ab.AV.bool (r.2.2)] ∧ o = [] := by
  unfold spec_l12Decode.dec at h
  split at h
  · cases h; exact ⟨rfl, rfl⟩
  · cases h
theorem spec_l12Decode.sim (X : Wd) (n : Nat) (a0 : ByteArray) (a1 : Int) (r : (ByteArray × ByteArray × Bool)) (h : spec_l12Decode.f n a0 a1 = some r) : Go.Ab.Sim (En X) 65 [Go.Ab.AV.str a0, Go.Ab.AV.int Go.IntKind.i64 a1] [] (Go.Ab.AV.tup [Go.Ab.AV.agg [Go.Ab.AV.str (r.1), Go.Ab.AV.str (r.2.1)], Go.Ab.AV.bool (r.2.2)]) [] :=
  Go.Ab.sim_of (E := En X) (spec_l12Decode.gok X n) mix (fn := Go.Proofs.Tryd.f65) (c := (bodyOf Go.Proofs.Tryd.f65)) (by kernel_rfl) (by kernel_rfl) (by kernel_rfl) (spec_l12Decode.loops n) (spec_l12Decode.cuts n) ((spec_l12Decode.eq n a0 a1).trans h) (spec_l12Decode.hdec r)
noncomputable def spec_l12Decode.ctr (n : Nat) {R : Type} : List Go.Ab.AV → List Go.Ab.AObj → (Go.Ab.AV → List Go.Ab.AObj → Option R) → Option R
  | [Go.Ab.AV.str a0, Go.Ab.AV.int Go.IntKind.i64 a1], [], k => (spec_l12Decode.f n a0 a1).bind fun r => k (Go.Ab.AV.tup [Go.Ab.AV.agg [Go.Ab.AV.str (r.1), Go.Ab.AV.str (r.2.1)], Go.Ab.AV.bool (r.2.2)]) []
  | _, _, _ => none
noncomputable def spec_l12Decode.fits : List Go.Ab.AV → List Go.Ab.AObj → Bool
  | [Go.Ab.AV.str a0, Go.Ab.AV.int Go.IntKind.i64 a1], [] => true
  | _, _ => false
theorem spec_l12Decode.ok (X : Wd) (n : Nat) {R : Type} (args : List Go.Ab.AV) (objs : List Go.Ab.AObj) (k : Go.Ab.AV → List Go.Ab.AObj → Option R) (r : R) (h : spec_l12Decode.ctr n args objs k = some r) :
    Go.Ab.Enters Go.Proofs.Tryd.prog 65 ∧ ∃ v objs', Go.Ab.Sim (En X) 65 args objs v objs' ∧ k v objs' = some r := by
  unfold spec_l12Decode.ctr at h
  split at h
  · obtain ⟨x, h1, h2⟩ := Option.bind_eq_some_iff.1 h
    exact ⟨⟨Go.Proofs.Tryd.f65, by kernel_rfl, by kernel_rfl, by kernel_rfl⟩, _, _, spec_l12Decode.sim X n _ _ x h1, h2⟩
  · cases h

noncomputable def spec_l12Open.dec (v : Go.Ab.AV) (o : List Go.Ab.AObj) : Option ((List Go.Ab.AV) × Nat × Int) := match v, o with
  | Go.Ab.AV.tup [Go.Ab.AV.sval a1 a2 Bool.false, Go.Ab.AV.int Go.IntKind.i64 a3], [] => some (a1, a2, a3)
  | _, _ => none
noncomputable def spec_l12Open.A : Go.Ab.Ann := { live := fun k => match k with | 3 => [0, 4, 5] | _ => [], out := fun k => match k with | 3 => [4, 5] | _ => [], cut := fun _ => none }
noncomputable def spec_l12Open.G (n : Nat) {R : Type} : Go.Ab.Ctr R := fun g args objs k => match g with | 64 => spec_l1Split.ctr n args objs k | 65 => spec_l12Decode.ctr n args objs k | _ => none
noncomputable def spec_l12Open.B (i : Nat) : Go.Code := (Go.Ab.loopsOf (bodyOf Go.Proofs.Tryd.f42)).getD i Go.Code.skip
noncomputable def spec_l12Open.h3 (n : Nat) (v : List Go.Ab.AV) (o : List Go.Ab.AObj) (K : Go.Ab.Kont ((List Go.Ab.AV) × Nat × Int)) : Option ((List Go.Ab.AV) × Nat × Int) := match v, o with
  | [Go.Ab.AV.str x12, Go.Ab.AV.sref 0 0 x13 2, Go.Ab.AV.int Go.IntKind.i64 x14], [Go.Ab.AObj.cells Bool.true x15] => spec_l12Open.l3 n (fun y34 y35 y36 => K (Go.Ab.Ex.exit 0) [Go.Ab.AV.sref 0 0 y34 2, Go.Ab.AV.int Go.IntKind.i64 y35] [Go.Ab.AObj.cells Bool.true y36]) n x12 x13 x14 x15
  | _, _ => none
noncomputable def spec_l12Open.H (n : Nat) : Go.Ab.Hnd ((List Go.Ab.AV) × Nat × Int) := { loop := fun key _ v o K => match key with | 3 => spec_l12Open.h3 n v o K | _ => none, cut := fun _ _ _ _ _ => none }
theorem spec_l12Open.loop3 (n0 : Nat) (K : Go.Ab.Kont ((List Go.Ab.AV) × Nat × Int)) : ∀ (n : Nat) (x12 : ByteArray) (x13 : Nat) (x14 : Int) (x15 : List Go.Ab.AV), Go.Ab.loopK 52 0 (spec_l12Open.A.live 3) (spec_l12Open.A.out 3) (fun t o k => Go.Ab.denK Go.Proofs.Tryd.prog (spec_l12Open.G n0) spec_l12Open.A (spec_l12Open.H n0) 52 0 (spec_l12Open.B 0) t o k) n [Go.Ab.AV.str x12, Go.Ab.AV.sref 0 0 x13 2, Go.Ab.AV.int Go.IntKind.i64 x14] [Go.Ab.AObj.cells Bool.true x15] K = spec_l12Open.l3 n0 (fun y34 y35 y36 => K (Go.Ab.Ex.exit 0) [Go.Ab.AV.sref 0 0 y34 2, Go.Ab.AV.int Go.IntKind.i64 y35] [Go.Ab.AObj.cells Bool.true y36]) n x12 x13 x14 x15
  | 0, _, _, _, _ => rfl
  | n + 1, x12, x13, x14, x15 => by
    have ih : (fun (x12 : ByteArray) (x13 : Nat) (x14 : Int) (x15 : List Go.Ab.AV) => Go.Ab.loopK 52 0 (spec_l12Open.A.live 3) (spec_l12Open.A.out 3) (fun t o k => Go.Ab.denK Go.Proofs.Tryd.prog (spec_l12Open.G n0) spec_l12Open.A (spec_l12Open.H n0) 52 0 (spec_l12Open.B 0) t o k) n [Go.Ab.AV.str x12, Go.Ab.AV.sref 0 0 x13 2, Go.Ab.AV.int Go.IntKind.i64 x14] [Go.Ab.AObj.cells Bool.true x15] K) = spec_l12Open.l3 n0 (fun y34 y35 y36 => K (Go.Ab.Ex.exit 0) [Go.Ab.AV.sref 0 0 y34 2, Go.Ab.AV.int Go.IntKind.i64 y35] [Go.Ab.AObj.cells Bool.true y36]) n := by funext x12 x13 x14 x15; exact spec_l12Open.loop3 n0 K n x12 x13 x14 x15
    have st : Go.Ab.loopK 52 0 (spec_l12Open.A.live 3) (spec_l12Open.A.out 3) (fun t o k => Go.Ab.denK Go.Proofs.Tryd.prog (spec_l12Open.G n0) spec_l12Open.A (spec_l12Open.H n0) 52 0 (spec_l12Open.B 0) t o k) (n + 1) [Go.Ab.AV.str x12, Go.Ab.AV.sref 0 0 x13 2, Go.Ab.AV.int Go.IntKind.i64 x14] [Go.Ab.AObj.cells Bool.true x15] K = spec_l12Open.l3S n0 (fun (x12 : ByteArray) (x13 : Nat) (x14 : Int) (x15 : List Go.Ab.AV) => Go.Ab.loopK 52 0 (spec_l12Open.A.live 3) (spec_l12Open.A.out 3) (fun t o k => Go.Ab.denK Go.Proofs.Tryd.prog (spec_l12Open.G n0) spec_l12Open.A (spec_l12Open.H n0) 52 0 (spec_l12Open.B 0) t o k) n [Go.Ab.AV.str x12, Go.Ab.AV.sref 0 0 x13 2, Go.Ab.AV.int Go.IntKind.i64 x14] [Go.Ab.AObj.cells Bool.true x15] K) (fun y34 y35 y36 => K (Go.Ab.Ex.exit 0) [Go.Ab.AV.sref 0 0 y34 2, Go.Ab.AV.int Go.IntKind.i64 y35] [Go.Ab.AObj.cells Bool.true y36]) x12 x13 x14 x15 := by kernel_rfl
    rw [st, ih]; rfl
theorem spec_l12Open.lok3 (n0 : Nat) : Go.Ab.LoopOk Go.Proofs.Tryd.prog (spec_l12Open.G n0) spec_l12Open.A (spec_l12Open.H n0) 52 0 (spec_l12Open.B 0) := by
  intro v o K r h
  have hk : Go.Ab.key (spec_l12Open.B 0) = 3 := by kernel_rfl
  rw [hk] at h ⊢
  change spec_l12Open.h3 n0 v o K = some r at h
  unfold spec_l12Open.h3 at h
  split at h
  · exact ⟨n0, by rw [spec_l12Open.loop3]; exact h⟩
  · cases h
theorem spec_l12Open.loops (n0 : Nat) : ∀ b ∈ Go.Ab.loopsOf (bodyOf Go.Proofs.Tryd.f42), Go.Ab.LoopOk Go.Proofs.Tryd.prog (spec_l12Open.G n0) spec_l12Open.A (spec_l12Open.H n0) 52 0 b :=
  Go.Ab.forall_getD 1 (by kernel_rfl) Go.Code.skip fun i hi => match i, hi with
    | 0, _ => spec_l12Open.lok3 n0
    | j + 1, hj => absurd hj (by omega)
theorem spec_l12Open.cuts (n0 : Nat) : ∀ b ∈ Go.Ab.cutsOf spec_l12Open.A (bodyOf Go.Proofs.Tryd.f42), Go.Ab.CutOk Go.Proofs.Tryd.prog (spec_l12Open.G n0) spec_l12Open.A (spec_l12Open.H n0) 52 0 b := Go.Ab.forall_nil (by kernel_rfl)
theorem spec_l12Open.eq (n : Nat) (a0 : ByteArray) : Go.Ab.funK Go.Proofs.Tryd.prog (spec_l12Open.G n) spec_l12Open.A (spec_l12Open.H n) false Go.Proofs.Tryd.f42 (bodyOf Go.Proofs.Tryd.f42) [Go.Ab.AV.str a0] [] spec_l12Open.dec = spec_l12Open.f n a0 := by kernel_rfl
theorem spec_l12Open.gok (X : Wd) (n : Nat) {R : Type} : Go.Ab.CtrOk (En X) (spec_l12Open.G n : Go.Ab.Ctr R) := by
  intro g args objs k r h
  unfold spec_l12Open.G at h
  split at h
  · exact spec_l1Split.ok X _ args objs k r h
  · exact spec_l12Decode.ok X _ args objs k r h
  · cases h
theorem spec_l12Open.hdec (r : ((List Go.Ab.AV) × Nat × Int)) (v : Go.Ab.AV) (o : List Go.Ab.AObj) (h : spec_l12Open.dec v o = some r) : v = Go.Ab.AV.tup [Go.Ab.AV.sval (r.1) (r.2.1) Bool.false, Go.Ab.AV.int Go.IntKind.i64 (r.2.2)] ∧ o = [] := by
  unfold spec_l12Open.dec at h
  split at h
  · cases h; exact ⟨rfl, rfl⟩
  · cases h
theorem spec_l12Open.sim (X : Wd) (n : Nat) (a0 : ByteArray) (r : ((List Go.Ab.AV) × Nat × Int)) (h : spec_l12Open.f n a0 = some r) : Go.Ab.Sim (En X) 42 [Go.Ab.AV.str a0] [] (Go.Ab.AV.tup [Go.Ab.AV.sval (r.1) (r.2.1) Bool.false, Go.Ab.AV.int Go.IntKind.i64 (r.2.2)]) [] :=
  Go.Ab.sim_of (E := En X) (spec_l12Open.gok X n) mix (fn := Go.Proofs.Tryd.f42) (c := (bodyOf Go.Proofs.Tryd.f42)) (by kernel_rfl) (by kernel_rfl) (by kernel_rfl) (spec_l12Open.loops n) (spec_l12Open.cuts n) ((spec_l12Open.eq n a0).trans h) (spec_l12Open.hdec r)
noncomputable def spec_l12Open.ctr (n : Nat) {R : Type} : List Go.Ab.AV → List Go.Ab.AObj → (Go.Ab.AV → List Go.Ab.AObj → Option R) → Option R
  | [Go.Ab.AV.str a0], [], k => (spec_l12Open.f n a0).bind fun r => k (Go.Ab.AV.tup [Go.Ab.AV.sval (r.1) (r.2.1) Bool.false, Go.Ab.AV.int Go.IntKind.i64 (r.2.2)]) []
  | _, _, _ => none
noncomputable def spec_l12Open.fits : List Go.Ab.AV → List Go.Ab.AObj → Bool
  | [Go.Ab.AV.str a0], [] => true
  | _, _ => false
theorem spec_l12Open.ok (X : Wd) (n : Nat) {R : Type} (args : List Go.Ab.AV) (objs : List Go.Ab.AObj) (k : Go.Ab.AV → List Go.Ab.AObj → Option R) (r : R) (h : spec_l12Open.ctr n args objs k = some r) :
    Go.Ab.Enters Go.Proofs.Tryd.prog 42 ∧ ∃ v objs', Go.Ab.Sim (En X) 42 args objs v objs' ∧ k v objs' = some r := by
  unfold spec_l12Open.ctr at h
  split at h
  · obtain ⟨x, h1, h2⟩ := Option.bind_eq_some_iff.1 h
    exact ⟨⟨Go.Proofs.Tryd.f42, by kernel_rfl, by kernel_rfl, by kernel_rfl⟩, _, _, spec_l12Open.sim X n _ x h1, h2⟩
  · cases h

noncomputable def spec_l12Valid.dec (v : Go.Ab.AV) (o : List Go.Ab.AObj) : Option Bool := match v, o with
  | Go.Ab.AV.bool a3, [] => some (a3)
  | _, _ => none
noncomputable def spec_l12Valid.A : Go.Ab.Ann := { live := fun _ => [], out := fun _ => [], cut := fun _ => none }
noncomputable def spec_l12Valid.G (n : Nat) {R : Type} : Go.Ab.Ctr R := fun g args objs k => match g with | 42 => spec_l12Open.ctr n args objs k | _ => none
noncomputable def spec_l12Valid.B (i : Nat) : Go.Code := (Go.Ab.loopsOf (bodyOf Go.Proofs.Tryd.f41)).getD i Go.Code.skip
noncomputable def spec_l12Valid.H (n : Nat) : Go.Ab.Hnd Bool := { loop := fun key _ v o K => none, cut := fun _ _ _ _ _ => none }
theorem spec_l12Valid.loops (n0 : Nat) : ∀ b ∈ Go.Ab.loopsOf (bodyOf Go.Proofs.Tryd.f41), Go.Ab.LoopOk Go.Proofs.Tryd.prog (spec_l12Valid.G n0) spec_l12Valid.A (spec_l12Valid.H n0) 53 0 b := Go.Ab.forall_nil (by kernel_rfl)
theorem spec_l12Valid.cuts (n0 : Nat) : ∀ b ∈ Go.Ab.cutsOf spec_l12Valid.A (bodyOf Go.Proofs.Tryd.f41), Go.Ab.CutOk Go.Proofs.Tryd.prog (spec_l12Valid.G n0) spec_l12Valid.A (spec_l12Valid.H n0) 53 0 b := Go.Ab.forall_nil (by kernel_rfl)
theorem spec_l12Valid.eq (n : Nat) (a0 : ByteArray) (a1 : ByteArray) (a2 : Int) : Go.Ab.funK Go.Proofs.Tryd.prog (spec_l12Valid.G n) spec_l12Valid.A (spec_l12Valid.H n) false Go.Proofs.Tryd.f41 (bodyOf Go.Proofs.Tryd.f41) [Go.Ab.AV.agg [Go.Ab.AV.str a0, Go.Ab.AV.str a1, Go.Ab.AV.int Go.IntKind.i64 a2]] [] spec_l12Valid.dec = spec_l12Valid.f n a0 a1 a2 := by kernel_rfl
theorem spec_l12Valid.gok (X : Wd) (n : Nat) {R : Type} : Go.Ab.CtrOk (En X) (spec_l12Valid.G n : Go.Ab.Ctr R) := by
  intro g args objs k r h
  unfold spec_l12Valid.G at h
  split at h
  · exact spec_l12Open.ok X _ args objs k r h
  · cases h
theorem spec_l12Valid.hdec (r : Bool) (v : Go.Ab.AV) (o : List Go.Ab.AObj) (h : spec_l12Valid.dec v o = some r) : v = Go.Ab.AV.bool (r) ∧ o = [] := by
  unfold spec_l12Valid.dec at h
  split at h
  · cases h; exact ⟨rfl, rfl⟩
  · cases h
theorem spec_l12Valid.sim (X : Wd) (n : Nat) (a0 : ByteArray) (a1 : ByteArray) (a2 : Int) (r : Bool) (h : spec_l12Valid.f n a0 a1 a2 = some r) : Go.Ab.Sim (En X) 41 [Go.Ab.AV.agg [Go.Ab.AV.str a0, Go.Ab.AV.str a1, Go.Ab.AV.int Go.IntKind.i64 a2]] [] (Go.Ab.AV.bool (r)) [] :=
  Go.Ab.sim_of (E := En X) (spec_l12Valid.gok X n) mix (fn := Go.Proofs.Tryd.f41) (c := (bodyOf Go.Proofs.Tryd.f41)) (by kernel_rfl) (by kernel_rfl) (by kernel_rfl) (spec_l12Valid.loops n) (spec_l12Valid.cuts n) ((spec_l12Valid.eq n a0 a1 a2).trans h) (spec_l12Valid.hdec r)
noncomputable def spec_l12Valid.ctr (n : Nat) {R : Type} : List Go.Ab.AV → List Go.Ab.AObj → (Go.Ab.AV → List Go.Ab.AObj → Option R) → Option R
  | [Go.Ab.AV.agg [Go.Ab.AV.str a0, Go.Ab.AV.str a1, Go.Ab.AV.int Go.IntKind.i64 a2]], [], k => (spec_l12Valid.f n a0 a1 a2).bind fun r => k (Go.Ab.AV.bool (r)) []
  | _, _, _ => none
noncomputable def spec_l12Valid.fits : List Go.Ab.AV → List Go.Ab.AObj → Bool
  | [Go.Ab.AV.agg [Go.Ab.AV.str a0, Go.Ab.AV.str a1, Go.Ab.AV.int Go.IntKind.i64 a2]], [] => true
  | _, _ => false
theorem spec_l12Valid.ok (X : Wd) (n : Nat) {R : Type} (args : List Go.Ab.AV) (objs : List Go.Ab.AObj) (k : Go.Ab.AV → List Go.Ab.AObj → Option R) (r : R) (h : spec_l12Valid.ctr n args objs k = some r) :
    Go.Ab.Enters Go.Proofs.Tryd.prog 41 ∧ ∃ v objs', Go.Ab.Sim (En X) 41 args objs v objs' ∧ k v objs' = some r := by
  unfold spec_l12Valid.ctr at h
  split at h
  · obtain ⟨x, h1, h2⟩ := Option.bind_eq_some_iff.1 h
    exact ⟨⟨Go.Proofs.Tryd.f41, by kernel_rfl, by kernel_rfl, by kernel_rfl⟩, _, _, spec_l12Valid.sim X n _ _ _ x h1, h2⟩
  · cases h

noncomputable def spec_IsValidConsole.dec (v : Go.Ab.AV) (o : List Go.Ab.AObj) : Option Bool := match v, o with
  | Go.Ab.AV.bool a17, [] => some (a17)
  | _, _ => none
noncomputable def spec_IsValidConsole.A : Go.Ab.Ann := { live := fun _ => [], out := fun _ => [], cut := fun _ => none }
noncomputable def spec_IsValidConsole.G (n : Nat) {R : Type} : Go.Ab.Ctr R := fun g args objs k => match g with | 46 => spec_l12Good.ctr n args objs k | 41 => spec_l12Valid.ctr n args objs k | _ => none
noncomputable def spec_IsValidConsole.B (i : Nat) : Go.Code := (Go.Ab.loopsOf (bodyOf Go.Proofs.Tryd.f15)).getD i Go.Code.skip
noncomputable def spec_IsValidConsole.H (n : Nat) : Go.Ab.Hnd Bool := { loop := fun key _ v o K => none, cut := fun _ _ _ _ _ => none }
theorem spec_IsValidConsole.loops (n0 : Nat) : ∀ b ∈ Go.Ab.loopsOf (bodyOf Go.Proofs.Tryd.f15), Go.Ab.LoopOk Go.Proofs.Tryd.prog (spec_IsValidConsole.G n0) spec_IsValidConsole.A (spec_IsValidConsole.H n0) 11 0 b := Go.Ab.forall_nil (by kernel_rfl)
theorem spec_IsValidConsole.cuts (n0 : Nat) : ∀ b ∈ Go.Ab.cutsOf spec_IsValidConsole.A (bodyOf Go.Proofs.Tryd.f15), Go.Ab.CutOk Go.Proofs.Tryd.prog (spec_IsValidConsole.G n0) spec_IsValidConsole.A (spec_IsValidConsole.H n0) 11 0 b := Go.Ab.forall_nil (by kernel_rfl)
theorem spec_IsValidConsole.eq (n : Nat) (a0 : Int) (a1 : Int) (a2 : Int) (a3 : Int) (a4 : Int) (a5 : Int) (a6 : Int) (a7 : Int) (a8 : Int) (a9 : Int) (a10 : Int) (a11 : Int) (a12 : Int) (a13 : Int) (a14 : ByteArray) (a15 : ByteArray) (a16 : Int) : Go.Ab.funK Go.Proofs.Tryd.prog (spec_IsValidConsole.G n) spec_IsValidConsole.A (spec_IsValidConsole.H n) false Go.Proofs.Tryd.f15 (bodyOf Go.Proofs.Tryd.f15) [Go.Ab.AV.agg [Go.Ab.AV.int Go.IntKind.i64 a0, Go.Ab.AV.int Go.IntKind.i64 a1, Go.Ab.AV.int Go.IntKind.i64 a2, Go.Ab.AV.int Go.IntKind.i64 a3, Go.Ab.AV.int Go.IntKind.i64 a4, Go.Ab.AV.int Go.IntKind.i64 a5, Go.Ab.AV.int Go.IntKind.i64 a6, Go.Ab.AV.int Go.IntKind.i64 a7, Go.Ab.AV.int Go.IntKind.i64 a8, Go.Ab.AV.int Go.IntKind.i64 a9, Go.Ab.AV.int Go.IntKind.i64 a10, Go.Ab.AV.int Go.IntKind.i64 a11, Go.Ab.AV.int Go.IntKind.i64 a12, Go.Ab.AV.int Go.IntKind.i64 a13, Go.Ab.AV.str a14, Go.Ab.AV.str a15, Go.Ab.AV.int Go.IntKind.i64 a16]] [] spec_IsValidConsole.dec = spec_IsValidConsole.f n a0 a1 a2 a3 a4 a5 a6 a7 a8 a9 a10 a11 a12 a13 a14 a15 a16 := by kernel_rfl
theorem spec_IsValidConsole.gok (X : Wd) (n : Nat) {R : Type} : Go.Ab.CtrOk (En X) (spec_IsValidConsole.G n : Go.Ab.Ctr R) := by
  intro g args objs k r h
  unfold spec_IsValidConsole.G at h
  split at h
  · exact spec_l12Good.ok X _ args objs k r h
  · exact spec_l12Valid.ok X _ args objs k r h
  · cases h
theorem spec_IsValidConsole.hdec (r : Bool) (v : Go.Ab.AV) (o : List Go.Ab.AObj) (h : spec_IsValidConsole.dec v o = some r) : v = Go.Ab.AV.bool (r) ∧ o = [] := by
  unfold spec_IsValidConsole.dec at h
  split at h
  · cases h; exact ⟨rfl, rfl⟩
  · cases h
theorem spec_IsValidConsole.sim (X : Wd) (n : Nat) (a0 : Int) (a1 : Int) (a2 : Int) (a3 : Int) (a4 : Int) (a5 : Int) (a6 : Int) (a7 : Int) (a8 : Int) (a9 : Int) (a10 : Int) (a11 : Int) (a12 : Int) (a13 : Int) (a14 : ByteArray) (a15 : ByteArray) (a16 : Int) (r : Bool) (h : spec_IsValidConsole.f n a0 a1 a2 a3 a4 a5 a6 a7 a8 a9 a10 a11 a12 a13 a14 a15 a16 = some r) : Go.Ab.Sim (En X) 15 [Go.Ab.AV.agg [Go.Ab.AV.int Go.IntKind.i64 a0, Go.Ab.AV.int Go.IntKind.i64 a1, Go.Ab.AV.int Go.IntKind.i64 a2, Go.Ab.AV.int Go.IntKind.i64 a3, Go.Ab.AV.int Go.IntKind.i64 a4, Go.Ab.AV.int Go.IntKind.i64 a5, Go.Ab.AV.int Go.IntKind.i64 a6, Go.Ab.AV.int Go.IntKind.i64 a7, Go.Ab.AV.int Go.IntKind.i64 a8, Go.Ab.AV.int Go.IntKind.i64 a9, Go.Ab.AV.int Go.IntKind.i64 a10, Go.Ab.AV.int Go.IntKind.i64 a11, Go.Ab.AV.int Go.IntKind.i64 a12, Go.Ab.AV.int Go.IntKind.i64 a13, Go.Ab.AV.str a14, Go.Ab.AV.str a15, Go.Ab.AV.int Go.IntKind.i64 a16]] [] (Go.Ab.AV.bool (r)) [] :=
  Go.Ab.sim_of (E := En X) (spec_IsValidConsole.gok X n) mix (fn := Go.Proofs.Tryd.f15) (c := (bodyOf Go.Proofs.Tryd.f15)) (by kernel_rfl) (by kernel_rfl) (by kernel_rfl) (spec_IsValidConsole.loops n) (spec_IsValidConsole.cuts n) ((spec_IsValidConsole.eq n a0 a1 a2 a3 a4 a5 a6 a7 a8 a9 a10 a11 a12 a13 a14 a15 a16).trans h) (spec_IsValidConsole.hdec r)
noncomputable def spec_IsValidConsole.ctr (n : Nat) {R : Type} : List Go.Ab.AV → List Go.Ab.AObj → (Go.Ab.AV → List Go.Ab.AObj → Option R) → Option R
  | [Go.Ab.AV.agg [Go.Ab.AV.int Go.IntKind.i64 a0, Go.Ab.AV.int Go.IntKind.i64 a1, Go.Ab.AV.int Go.IntKind.i64 a2, Go.Ab.AV.int Go.IntKind.i64 a3, Go.Ab.AV.int Go.IntKind.i64 a4, Go.Ab.AV.int Go.IntKind.i64 a5, Go.Ab.AV.int Go.IntKind.i64 a6, Go.Ab.AV.int Go.IntKind.i64 a7, Go.Ab.AV.int Go.IntKind.i64 a8, Go.Ab.AV.int Go.IntKind.i64 a9, Go.Ab.AV.int Go.IntKind.i64 a10, Go.Ab.AV.int Go.IntKind.i64 a11, Go.Ab.AV.int Go.IntKind.i64 a12, Go.Ab.AV.int Go.IntKind.i64 a13, Go.Ab.AV.str a14, Go.Ab.AV.str a15, Go.Ab.AV.int Go.IntKind.i64 a16]], [], k => (spec_IsValidConsole.f n a0 a1 a2 a3 a4 a5 a6 a7 a8 a9 a10 a11 a12 a13 a14 a15 a16).bind fun r => k (Go.Ab.AV.bool (r)) []
  | _, _, _ => none
noncomputable def spec_IsValidConsole.fits : List Go.Ab.AV → List Go.Ab.AObj → Bool
  | [Go.Ab.AV.agg [Go.Ab.AV.int Go.IntKind.i64 a0, Go.Ab.AV.int Go.IntKind.i64 a1, Go.Ab.AV.int Go.IntKind.i64 a2, Go.Ab.AV.int Go.IntKind.i64 a3, Go.Ab.AV.int Go.IntKind.i64 a4, Go.Ab.AV.int Go.IntKind.i64 a5, Go.Ab.AV.int Go.IntKind.i64 a6, Go.Ab.AV.int Go.IntKind.i64 a7, Go.Ab.AV.int Go.IntKind.i64 a8, Go.Ab.AV.int Go.IntKind.i64 a9, Go.Ab.AV.int Go.IntKind.i64 a10, Go.Ab.AV.int Go.IntKind.i64 a11, Go.Ab.AV.int Go.IntKind.i64 a12, Go.Ab.AV.int Go.IntKind.i64 a13, Go.Ab.AV.str a14, Go.Ab.AV.str a15, Go.Ab.AV.int Go.IntKind.i64 a16]], [] => true
  | _, _ => false
theorem spec_IsValidConsole.ok (X : Wd) (n : Nat) {R : Type} (args : List Go.Ab.AV) (objs : List Go.Ab.AObj) (k : Go.Ab.AV → List Go.Ab.AObj → Option R) (r : R) (h : spec_IsValidConsole.ctr n args objs k = some r) :
    Go.Ab.Enters Go.Proofs.Tryd.prog 15 ∧ ∃ v objs', Go.Ab.Sim (En X) 15 args objs v objs' ∧ k v objs' = some r := by
  unfold spec_IsValidConsole.ctr at h
  split at h
  · obtain ⟨x, h1, h2⟩ := Option.bind_eq_some_iff.1 h
    exact ⟨⟨Go.Proofs.Tryd.f15, by kernel_rfl, by kernel_rfl, by kernel_rfl⟩, _, _, spec_IsValidConsole.sim X n _ _ _ _ _ _ _ _ _ _ _ _ _ _ _ _ _ x h1, h2⟩
  · cases h

noncomputable def impl_setOf.dec (v : Go.Ab.AV) (o : List Go.Ab.AObj) : Option (Int × Bool) := match v, o with
  | Go.Ab.AV.tup [Go.Ab.AV.int Go.IntKind.u64 a6, Go.Ab.AV.bool a7], [] => some (a6, a7)
  | _, _ => none
noncomputable def impl_setOf.A : Go.Ab.Ann := { live := fun k => match k with | 3 => [4, 8, 9] | _ => [], out := fun k => match k with | 3 => [2, 3, 4] | _ => [], cut := fun _ => none }
noncomputable def impl_setOf.G (n : Nat) {R : Type} : Go.Ab.Ctr R := fun g args objs k => none
noncomputable def impl_setOf.B (i : Nat) : Go.Code := (Go.Ab.loopsOf (bodyOf Go.Proofs.Tryd.f84)).getD i Go.Code.skip
noncomputable def impl_setOf.h3 (n : Nat) (v : List Go.Ab.AV) (o : List Go.Ab.AObj) (K : Go.Ab.Kont (Int × Bool)) : Option (Int × Bool) := match v, o with
  | [Go.Ab.AV.int Go.IntKind.u64 x21, Go.Ab.AV.agg [Go.Ab.AV.int Go.IntKind.i64 x22, Go.Ab.AV.int Go.IntKind.i64 x23, Go.Ab.AV.int Go.IntKind.i64 x24, Go.Ab.AV.int Go.IntKind.i64 x25, Go.Ab.AV.int Go.IntKind.i64 x26, Go.Ab.AV.int Go.IntKind.i64 x27], Go.Ab.AV.int Go.IntKind.i64 x28], [] => impl_setOf.l3 n (fun y46 y47 y48 => K (Go.Ab.Ex.ret) [Go.Ab.AV.int Go.IntKind.u64 y46, Go.Ab.AV.bool y47, Go.Ab.AV.int Go.IntKind.u64 y48] []) (fun y46 => K (Go.Ab.Ex.exit 0) [Go.Ab.AV.undef, Go.Ab.AV.undef, Go.Ab.AV.int Go.IntKind.u64 y46] []) n x21 x22 x23 x24 x25 x26 x27 x28
  | _, _ => none
noncomputable def impl_setOf.H (n : Nat) : Go.Ab.Hnd (Int × Bool) := { loop := fun key _ v o K => match key with | 3 => impl_setOf.h3 n v o K | _ => none, cut := fun _ _ _ _ _ => none }
theorem impl_setOf.loop3 (n0 : Nat) (K : Go.Ab.Kont (Int × Bool)) : ∀ (n : Nat) (x21 : Int) (x22 : Int) (x23 : Int) (x24 : Int) (x25 : Int) (x26 : Int) (x27 : Int) (x28 : Int), Go.Ab.loopK 28 0 (impl_setOf.A.live 3) (impl_setOf.A.out 3) (fun t o k => Go.Ab.denK Go.Proofs.Tryd.prog (impl_setOf.G n0) impl_setOf.A (impl_setOf.H n0) 28 0 (impl_setOf.B 0) t o k) n [Go.Ab.AV.int Go.IntKind.u64 x21, Go.Ab.AV.agg [Go.Ab.AV.int Go.IntKind.i64 x22, Go.Ab.AV.int Go.IntKind.i64 x23, Go.Ab.AV.int Go.IntKind.i64 x24, Go.Ab.AV.int Go.IntKind.i64 x25, Go.Ab.AV.int Go.IntKind.i64 x26, Go.Ab.AV.int Go.IntKind.i64 x27], Go.Ab.AV.int Go.IntKind.i64 x28] [] K = impl_setOf.l3 n0 (fun y46 y47 y48 => K (Go.Ab.Ex.ret) [Go.Ab.AV.int Go.IntKind.u64 y46, Go.Ab.AV.bool y47, Go.Ab.AV.int Go.IntKind.u64 y48] []) (fun y46 => K (Go.Ab.Ex.exit 0) [Go.Ab.AV.undef, Go.Ab.AV.undef, Go.Ab.AV.int Go.IntKind.u64 y46] []) n x21 x22 x23 x24 x25 x26 x27 x28
  | 0, _, _, _, _, _, _, _, _ => rfl
  | n + 1, x21, x22, x23, x24, x25, x26, x27, x28 => by
    have ih : (fun (x21 : Int) (x22 : Int) (x23 : Int) (x24 : Int) (x25 : Int) (x26 : Int) (x27 : Int) (x28 : Int) => Go.Ab.loopK 28 0 (impl_setOf.A.live 3) (impl_setOf.A.out 3) (fun t o k => Go.Ab.denK Go.Proofs.Tryd.prog (impl_setOf.G n0) impl_setOf.A (impl_setOf.H n0) 28 0 (impl_setOf.B 0) t o k) n [Go.Ab.AV.int Go.IntKind.u64 x21, Go.Ab.AV.agg [Go.Ab.AV.int Go.IntKind.i64 x22, Go.Ab.AV.int Go.IntKind.i64 x23, Go.Ab.AV.int Go.IntKind.i64 x24, Go.Ab.AV.int Go.IntKind.i64 x25, Go.Ab.AV.int Go.IntKind.i64 x26, Go.Ab.AV.int Go.IntKind.i64 x27], Go.Ab.AV.int Go.IntKind.i64 x28] [] K) = impl_setOf.l3 n0 (fun y46 y47 y48 => K (Go.Ab.Ex.ret) [Go.Ab.AV.int Go.IntKind.u64 y46, Go.Ab.AV.bool y47, Go.Ab.AV.int Go.IntKind.u64 y48] []) (fun y46 => K (Go.Ab.Ex.exit 0) [Go.Ab.AV.undef, Go.Ab.AV.undef, Go.Ab.AV.int Go.IntKind.u64 y46] []) n := by funext x21 x22 x23 x24 x25 x26 x27 x28; exact impl_setOf.loop3 n0 K n x21 x22 x23 x24 x25 x26 x27 x28
    have st : Go.Ab.loopK 28 0 (impl_setOf.A.live 3) (impl_setOf.A.out 3) (fun t o k => Go.Ab.denK Go.Proofs.Tryd.prog (impl_setOf.G n0) impl_setOf.A (impl_setOf.H n0) 28 0 (impl_setOf.B 0) t o k) (n + 1) [Go.Ab.AV.int Go.IntKind.u64 x21, Go.Ab.AV.agg [Go.Ab.AV.int Go.IntKind.i64 x22, Go.Ab.AV.int Go.IntKind.i64 x23, Go.Ab.AV.int Go.IntKind.i64 x24, Go.Ab.AV.int Go.IntKind.i64 x25, Go.Ab.AV.int Go.IntKind.i64 x26, Go.Ab.AV.int Go.IntKind.i64 x27], Go.Ab.AV.int Go.IntKind.i64 x28] [] K = impl_setOf.l3S n0 (fun (x21 : Int) (x22 : Int) (x23 : Int) (x24 : Int) (x25 : Int) (x26 : Int) (x27 : Int) (x28 : Int) => Go.Ab.loopK 28 0 (impl_setOf.A.live 3) (impl_setOf.A.out 3) (fun t o k => Go.Ab.denK Go.Proofs.Tryd.prog (impl_setOf.G n0) impl_setOf.A (impl_setOf.H n0) 28 0 (impl_setOf.B 0) t o k) n [Go.Ab.AV.int Go.IntKind.u64 x21, Go.Ab.AV.agg [Go.Ab.AV.int Go.IntKind.i64 x22, Go.Ab.AV.int Go.IntKind.i64 x23, Go.Ab.AV.int Go.IntKind.i64 x24, Go.Ab.AV.int Go.IntKind.i64 x25, Go.Ab.AV.int Go.IntKind.i64 x26, Go.Ab.AV.int Go.IntKind.i64 x27], Go.Ab.AV.int Go.IntKind.i64 x28] [] K) (fun y46 y47 y48 => K (Go.Ab.Ex.ret) [Go.Ab.AV.int Go.IntKind.u64 y46, Go.Ab.AV.bool y47, Go.Ab.AV.int Go.IntKind.u64 y48] []) (fun y46 => K (Go.Ab.Ex.exit 0) [Go.Ab.AV.undef, Go.Ab.AV.undef, Go.Ab.AV.int Go.IntKind.u64 y46] []) x21 x22 x23 x24 x25 x26 x27 x28 := by kernel_rfl
    rw [st, ih]; rfl
theorem impl_setOf.lok3 (n0 : Nat) : Go.Ab.LoopOk Go.Proofs.Tryd.prog (impl_setOf.G n0) impl_setOf.A (impl_setOf.H n0) 28 0 (impl_setOf.B 0) := by
  intro v o K r h
  have hk : Go.Ab.key (impl_setOf.B 0) = 3 := by kernel_rfl
  rw [hk] at h ⊢
  change impl_setOf.h3 n0 v o K = some r at h
  unfold impl_setOf.h3 at h
  split at h
  · exact ⟨n0, by rw [impl_setOf.loop3]; exact h⟩
  · cases h
theorem impl_setOf.loops (n0 : Nat) : ∀ b ∈ Go.Ab.loopsOf (bodyOf Go.Proofs.Tryd.f84), Go.Ab.LoopOk Go.Proofs.Tryd.prog (impl_setOf.G n0) impl_setOf.A (impl_setOf.H n0) 28 0 b :=
  Go.Ab.forall_getD 1 (by kernel_rfl) Go.Code.skip fun i hi => match i, hi with
    | 0, _ => impl_setOf.lok3 n0
    | j + 1, hj => absurd hj (by omega)
theorem impl_setOf.cuts (n0 : Nat) : ∀ b ∈ Go.Ab.cutsOf impl_setOf.A (bodyOf Go.Proofs.Tryd.f84), Go.Ab.CutOk Go.Proofs.Tryd.prog (impl_setOf.G n0) impl_setOf.A (impl_setOf.H n0) 28 0 b := Go.Ab.forall_nil (by kernel_rfl)
theorem impl_setOf.eq (n : Nat) (a0 : Int) (a1 : Int) (a2 : Int) (a3 : Int) (a4 : Int) (a5 : Int) : Go.Ab.funK Go.Proofs.Tryd.prog (impl_setOf.G n) impl_setOf.A (impl_setOf.H n) false Go.Proofs.Tryd.f84 (bodyOf Go.Proofs.Tryd.f84) [Go.Ab.AV.agg [Go.Ab.AV.int Go.IntKind.i64 a0, Go.Ab.AV.int Go.IntKind.i64 a1, Go.Ab.AV.int Go.IntKind.i64 a2, Go.Ab.AV.int Go.IntKind.i64 a3, Go.Ab.AV.int Go.IntKind.i64 a4, Go.Ab.AV.int Go.IntKind.i64 a5]] [] impl_setOf.dec = impl_setOf.f n a0 a1 a2 a3 a4 a5 := by kernel_rfl
theorem impl_setOf.gok (X : Wd) (n : Nat) {R : Type} : Go.Ab.CtrOk (En X) (impl_setOf.G n : Go.Ab.Ctr R) := by
  intro g args objs k r h
  cases h
theorem impl_setOf.hdec (r : (Int × Bool)) (v : Go.Ab.AV) (o : List Go.Ab.AObj) (h : impl_setOf.dec v o = some r) : v = Go.Ab.AV.tup [Go.Ab.AV.int Go.IntKind.u64 (r.1), Go.Ab.AV.bool (r.2)] ∧ o = [] := by
  unfold impl_setOf.dec at h
  split at h
  · cases h; exact ⟨rfl, rfl⟩
  · cases h
theorem impl_setOf.sim (X : Wd) (n : Nat) (a0 : Int) (a1 : Int) (a2 : Int) (a3 : Int) (a4 : Int) (a5 : Int) (r : (Int × Bool)) (h : impl_setOf.f n a0 a1 a2 a3 a4 a5 = some r) : Go.Ab.Sim (En X) 84 [Go.Ab.AV.agg [Go.Ab.AV.int Go.IntKind.i64 a0, Go.Ab.AV.int Go.IntKind.i64 a1, Go.Ab.AV.int Go.IntKind.i64 a2, Go.Ab.AV.int Go.IntKind.i64 a3, Go.Ab.AV.int Go.IntKind.i64 a4, Go.Ab.AV.int Go.IntKind.i64 a5]] [] (Go.Ab.AV.tup [Go.Ab.AV.int Go.IntKind.u64 (r.1), Go.Ab.AV.bool (r.2)]) [] :=
  Go.Ab.sim_of (E := En X) (impl_setOf.gok X n) mix (fn := Go.Proofs.Tryd.f84) (c := (bodyOf Go.Proofs.Tryd.f84)) (by kernel_rfl) (by kernel_rfl) (by kernel_rfl) (impl_setOf.loops n) (impl_setOf.cuts n) ((impl_setOf.eq n a0 a1 a2 a3 a4 a5).trans h) (impl_setOf.hdec r)
noncomputable def impl_setOf.ctr (n : Nat) {R : Type} : List Go.Ab.AV → List Go.Ab.AObj → (Go.Ab.AV → List Go.Ab.AObj → Option R) → Option R
  | [Go.Ab.AV.agg [Go.Ab.AV.int Go.IntKind.i64 a0, Go.Ab.AV.int Go.IntKind.i64 a1, Go.Ab.AV.int Go.IntKind.i64 a2, Go.Ab.AV.int Go.IntKind.i64 a3, Go.Ab.AV.int Go.IntKind.i64 a4, Go.Ab.AV.int Go.IntKind.i64 a5]], [], k => (impl_setOf.f n a0 a1 a2 a3 a4 a5).bind fun r => k (Go.Ab.AV.tup [Go.Ab.AV.int Go.IntKind.u64 (r.1), Go.Ab.AV.bool (r.2)]) []
  | _, _, _ => none
noncomputable def impl_setOf.fits : List Go.Ab.AV → List Go.Ab.AObj → Bool
  | [Go.Ab.AV.agg [Go.Ab.AV.int Go.IntKind.i64 a0, Go.Ab.AV.int Go.IntKind.i64 a1, Go.Ab.AV.int Go.IntKind.i64 a2, Go.Ab.AV.int Go.IntKind.i64 a3, Go.Ab.AV.int Go.IntKind.i64 a4, Go.Ab.AV.int Go.IntKind.i64 a5]], [] => true
  | _, _ => false
theorem impl_setOf.ok (X : Wd) (n : Nat) {R : Type} (args : List Go.Ab.AV) (objs : List Go.Ab.AObj) (k : Go.Ab.AV → List Go.Ab.AObj → Option R) (r : R) (h : impl_setOf.ctr n args objs k = some r) :
    Go.Ab.Enters Go.Proofs.Tryd.prog 84 ∧ ∃ v objs', Go.Ab.Sim (En X) 84 args objs v objs' ∧ k v objs' = some r := by
  unfold impl_setOf.ctr at h
  split at h
  · obtain ⟨x, h1, h2⟩ := Option.bind_eq_some_iff.1 h
    exact ⟨⟨Go.Proofs.Tryd.f84, by kernel_rfl, by kernel_rfl, by kernel_rfl⟩, _, _, impl_setOf.sim X n _ _ _ _ _ _ x h1, h2⟩
  · cases h

noncomputable def impl_IsSheet.dec (v : Go.Ab.AV) (o : List Go.Ab.AObj) : Option Bool := match v, o with
  | Go.Ab.AV.bool a6, [] => some (a6)
  | _, _ => none
noncomputable def impl_IsSheet.A : Go.Ab.Ann := { live := fun _ => [], out := fun _ => [], cut := fun _ => none }
noncomputable def impl_IsSheet.G (n : Nat) {R : Type} : Go.Ab.Ctr R := fun g args objs k => match g with | 84 => impl_setOf.ctr n args objs k | _ => none
noncomputable def impl_IsSheet.B (i : Nat) : Go.Code := (Go.Ab.loopsOf (bodyOf Go.Proofs.Tryd.f69)).getD i Go.Code.skip
noncomputable def impl_IsSheet.H (n : Nat) : Go.Ab.Hnd Bool := { loop := fun key _ v o K => none, cut := fun _ _ _ _ _ => none }
theorem impl_IsSheet.loops (n0 : Nat) : ∀ b ∈ Go.Ab.loopsOf (bodyOf Go.Proofs.Tryd.f69), Go.Ab.LoopOk Go.Proofs.Tryd.prog (impl_IsSheet.G n0) impl_IsSheet.A (impl_IsSheet.H n0) 11 0 b := Go.Ab.forall_nil (by kernel_rfl)
theorem impl_IsSheet.cuts (n0 : Nat) : ∀ b ∈ Go.Ab.cutsOf impl_IsSheet.A (bodyOf Go.Proofs.Tryd.f69), Go.Ab.CutOk Go.Proofs.Tryd.prog (impl_IsSheet.G n0) impl_IsSheet.A (impl_IsSheet.H n0) 11 0 b := Go.Ab.forall_nil (by kernel_rfl)
theorem impl_IsSheet.eq (n : Nat) (a0 : Int) (a1 : Int) (a2 : Int) (a3 : Int) (a4 : Int) (a5 : Int) : Go.Ab.funK Go.Proofs.Tryd.prog (impl_IsSheet.G n) impl_IsSheet.A (impl_IsSheet.H n) false Go.Proofs.Tryd.f69 (bodyOf Go.Proofs.Tryd.f69) [Go.Ab.AV.agg [Go.Ab.AV.int Go.IntKind.i64 a0, Go.Ab.AV.int Go.IntKind.i64 a1, Go.Ab.AV.int Go.IntKind.i64 a2, Go.Ab.AV.int Go.IntKind.i64 a3, Go.Ab.AV.int Go.IntKind.i64 a4, Go.Ab.AV.int Go.IntKind.i64 a5]] [] impl_IsSheet.dec = impl_IsSheet.f n a0 a1 a2 a3 a4 a5 := by kernel_rfl
theorem impl_IsSheet.gok (X : Wd) (n : Nat) {R : Type} : Go.Ab.CtrOk (En X) (impl_IsSheet.G n : Go.Ab.Ctr R) := by
  intro g args objs k r h
  unfold impl_IsSheet.G at h
  split at h
  · exact impl_setOf.ok X _ args objs k r h
  · cases h
theorem impl_IsSheet.hdec (r : Bool) (v : Go.Ab.AV) (o : List Go.Ab.AObj) (h : impl_IsSheet.dec v o = some r) : v = Go.Ab.AV.bool (r) ∧ o = [] := by
  unfold impl_IsSheet.dec at h
  split at h
  · cases h; exact ⟨rfl, rfl⟩
  · cases h
theorem impl_IsSheet.sim (X : Wd) (n : Nat) (a0 : Int) (a1 : Int) (a2 : Int) (a3 : Int) (a4 : Int) (a5 : Int) (r : Bool) (h : impl_IsSheet.f n a0 a1 a2 a3 a4 a5 = some r) : Go.Ab.Sim (En X) 69 [Go.Ab.AV.agg [Go.Ab.AV.int Go.IntKind.i64 a0, Go.Ab.AV.int Go.IntKind.i64 a1, Go.Ab.AV.int Go.IntKind.i64 a2, Go.Ab.AV.int Go.IntKind.i64 a3, Go.Ab.AV.int Go.IntKind.i64 a4, Go.Ab.AV.int Go.IntKind.i64 a5]] [] (Go.Ab.AV.bool (r)) [] :=
  Go.Ab.sim_of (E := En X) (impl_IsSheet.gok X n) mix (fn := Go.Proofs.Tryd.f69) (c := (bodyOf Go.Proofs.Tryd.f69)) (by kernel_rfl) (by kernel_rfl) (by kernel_rfl) (impl_IsSheet.loops n) (impl_IsSheet.cuts n) ((impl_IsSheet.eq n a0 a1 a2 a3 a4 a5).trans h) (impl_IsSheet.hdec r)
noncomputable def impl_IsSheet.ctr (n : Nat) {R : Type} : List Go.Ab.AV → List Go.Ab.AObj → (Go.Ab.AV → List Go.Ab.AObj → Option R) → Option R
  | [Go.Ab.AV.agg [Go.Ab.AV.int Go.IntKind.i64 a0, Go.Ab.AV.int Go.IntKind.i64 a1, Go.Ab.AV.int Go.IntKind.i64 a2, Go.Ab.AV.int Go.IntKind.i64 a3, Go.Ab.AV.int Go.IntKind.i64 a4, Go.Ab.AV.int Go.IntKind.i64 a5]], [], k => (impl_IsSheet.f n a0 a1 a2 a3 a4 a5).bind fun r => k (Go.Ab.AV.bool (r)) []
  | _, _, _ => none
noncomputable def impl_IsSheet.fits : List Go.Ab.AV → List Go.Ab.AObj → Bool
  | [Go.Ab.AV.agg [Go.Ab.AV.int Go.IntKind.i64 a0, Go.Ab.AV.int Go.IntKind.i64 a1, Go.Ab.AV.int Go.IntKind.i64 a2, Go.Ab.AV.int Go.IntKind.i64 a3, Go.Ab.AV.int Go.IntKind.i64 a4, Go.Ab.AV.int Go.IntKind.i64 a5]], [] => true
  | _, _ => false
theorem impl_IsSheet.ok (X : Wd) (n : Nat) {R : Type} (args : List Go.Ab.AV) (objs : List Go.Ab.AObj) (k : Go.Ab.AV → List Go.Ab.AObj → Option R) (r : R) (h : impl_IsSheet.ctr n args objs k = some r) :
    Go.Ab.Enters Go.Proofs.Tryd.prog 69 ∧ ∃ v objs', Go.Ab.Sim (En X) 69 args objs v objs' ∧ k v objs' = some r := by
  unfold impl_IsSheet.ctr at h
  split at h
  · obtain ⟨x, h1, h2⟩ := Option.bind_eq_some_iff.1 h
    exact ⟨⟨Go.Proofs.Tryd.f69, by kernel_rfl, by kernel_rfl, by kernel_rfl⟩, _, _, impl_IsSheet.sim X n _ _ _ _ _ _ x h1, h2⟩
  · cases h

noncomputable def impl_IsShop.dec (v : Go.Ab.AV) (o : List Go.Ab.AObj) : Option Bool := match v, o with
  | Go.Ab.AV.bool a14, [] => some (a14)
  | _, _ => none
noncomputable def impl_IsShop.A : Go.Ab.Ann := { live := fun _ => [], out := fun _ => [], cut := fun _ => none }
noncomputable def impl_IsShop.G (n : Nat) {R : Type} : Go.Ab.Ctr R := fun g args objs k => match g with | 69 => impl_IsSheet.ctr n args objs k | _ => none
noncomputable def impl_IsShop.B (i : Nat) : Go.Code := (Go.Ab.loopsOf (bodyOf Go.Proofs.Tryd.f48)).getD i Go.Code.skip
noncomputable def impl_IsShop.H (n : Nat) : Go.Ab.Hnd Bool := { loop := fun key _ v o K => none, cut := fun _ _ _ _ _ => none }
theorem impl_IsShop.loops (n0 : Nat) : ∀ b ∈ Go.Ab.loopsOf (bodyOf Go.Proofs.Tryd.f48), Go.Ab.LoopOk Go.Proofs.Tryd.prog (impl_IsShop.G n0) impl_IsShop.A (impl_IsShop.H n0) 31 0 b := Go.Ab.forall_nil (by kernel_rfl)
theorem impl_IsShop.cuts (n0 : Nat) : ∀ b ∈ Go.Ab.cutsOf impl_IsShop.A (bodyOf Go.Proofs.Tryd.f48), Go.Ab.CutOk Go.Proofs.Tryd.prog (impl_IsShop.G n0) impl_IsShop.A (impl_IsShop.H n0) 31 0 b := Go.Ab.forall_nil (by kernel_rfl)
theorem impl_IsShop.eq (n : Nat) (a0 : Int) (a1 : Int) (a2 : Int) (a3 : Int) (a4 : Int) (a5 : Int) (a6 : Int) (a7 : Int) (a8 : Int) (a9 : Int) (a10 : Int) (a11 : Int) (a12 : Int) (a13 : Int) : Go.Ab.funK Go.Proofs.Tryd.prog (impl_IsShop.G n) impl_IsShop.A (impl_IsShop.H n) false Go.Proofs.Tryd.f48 (bodyOf Go.Proofs.Tryd.f48) [Go.Ab.AV.agg [Go.Ab.AV.int Go.IntKind.i64 a0, Go.Ab.AV.int Go.IntKind.i64 a1, Go.Ab.AV.int Go.IntKind.i64 a2, Go.Ab.AV.int Go.IntKind.i64 a3, Go.Ab.AV.int Go.IntKind.i64 a4, Go.Ab.AV.int Go.IntKind.i64 a5, Go.Ab.AV.int Go.IntKind.i64 a6, Go.Ab.AV.int Go.IntKind.i64 a7, Go.Ab.AV.int Go.IntKind.i64 a8, Go.Ab.AV.int Go.IntKind.i64 a9, Go.Ab.AV.int Go.IntKind.i64 a10, Go.Ab.AV.int Go.IntKind.i64 a11, Go.Ab.AV.int Go.IntKind.i64 a12, Go.Ab.AV.int Go.IntKind.i64 a13]] [] impl_IsShop.dec = impl_IsShop.f n a0 a1 a2 a3 a4 a5 a6 a7 a8 a9 a10 a11 a12 a13 := by kernel_rfl
theorem impl_IsShop.gok (X : Wd) (n : Nat) {R : Type} : Go.Ab.CtrOk (En X) (impl_IsShop.G n : Go.Ab.Ctr R) := by
  intro g args objs k r h
  unfold impl_IsShop.G at h
  split at h
  · exact impl_IsSheet.ok X _ args objs k r h
  · cases h
theorem impl_IsShop.hdec (r : Bool) (v : Go.Ab.AV) (o : List Go.Ab.AObj) (h : impl_IsShop.dec v o = some r) : v = Go.Ab.AV.bool (r) ∧ o = [] := by
  unfold impl_IsShop.dec at h
  split at h
  · cases h; exact ⟨rfl, rfl⟩
  · cases h
theorem impl_IsShop.sim (X : Wd) (n : Nat) (a0 : Int) (a1 : Int) (a2 : Int) (a3 : Int) (a4 : Int) (a5 : Int) (a6 : Int) (a7 : Int) (a8 : Int) (a9 : Int) (a10 : Int) (a11 : Int) (a12 : Int) (a13 : Int) (r : Bool) (h : impl_IsShop.f n a0 a1 a2 a3 a4 a5 a6 a7 a8 a9 a10 a11 a12 a13 = some r) : Go.Ab.Sim (En X) 48 [Go.Ab.AV.agg [Go.Ab.AV.int Go.IntKind.i64 a0, Go.Ab.AV.int Go.IntKind.i64 a1, Go.Ab.AV.int Go.IntKind.i64 a2, Go.Ab.AV.int Go.IntKind.i64 a3, Go.Ab.AV.int Go.IntKind.i64 a4, Go.Ab.AV.int Go.IntKind.i64 a5, Go.Ab.AV.int Go.IntKind.i64 a6, Go.Ab.AV.int Go.IntKind.i64 a7, Go.Ab.AV.int Go.IntKind.i64 a8, Go.Ab.AV.int Go.IntKind.i64 a9, Go.Ab.AV.int Go.IntKind.i64 a10, Go.Ab.AV.int Go.IntKind.i64 a11, Go.Ab.AV.int Go.IntKind.i64 a12, Go.Ab.AV.int Go.IntKind.i64 a13]] [] (Go.Ab.AV.bool (r)) [] :=
  Go.Ab.sim_of (E := En X) (impl_IsShop.gok X n) mix (fn := Go.Proofs.Tryd.f48) (c := (bodyOf Go.Proofs.Tryd.f48)) (by kernel_rfl) (by kernel_rfl) (by kernel_rfl) (impl_IsShop.loops n) (impl_IsShop.cuts n) ((impl_IsShop.eq n a0 a1 a2 a3 a4 a5 a6 a7 a8 a9 a10 a11 a12 a13).trans h) (impl_IsShop.hdec r)
noncomputable def impl_IsShop.ctr (n : Nat) {R : Type} : List Go.Ab.AV → List Go.Ab.AObj → (Go.Ab.AV → List Go.Ab.AObj → Option R) → Option R
  | [Go.Ab.AV.agg [Go.Ab.AV.int Go.IntKind.i64 a0, Go.Ab.AV.int Go.IntKind.i64 a1, Go.Ab.AV.int Go.IntKind.i64 a2, Go.Ab.AV.int Go.IntKind.i64 a3, Go.Ab.AV.int Go.IntKind.i64 a4, Go.Ab.AV.int Go.IntKind.i64 a5, Go.Ab.AV.int Go.IntKind.i64 a6, Go.Ab.AV.int Go.IntKind.i64 a7, Go.Ab.AV.int Go.IntKind.i64 a8, Go.Ab.AV.int Go.IntKind.i64 a9, Go.Ab.AV.int Go.IntKind.i64 a10, Go.Ab.AV.int Go.IntKind.i64 a11, Go.Ab.AV.int Go.IntKind.i64 a12, Go.Ab.AV.int Go.IntKind.i64 a13]], [], k => (impl_IsShop.f n a0 a1 a2 a3 a4 a5 a6 a7 a8 a9 a10 a11 a12 a13).bind fun r => k (Go.Ab.AV.bool (r)) []
  | _, _, _ => none
noncomputable def impl_IsShop.fits : List Go.Ab.AV → List Go.Ab.AObj → Bool
  | [Go.Ab.AV.agg [Go.Ab.AV.int Go.IntKind.i64 a0, Go.Ab.AV.int Go.IntKind.i64 a1, Go.Ab.AV.int Go.IntKind.i64 a2, Go.Ab.AV.int Go.IntKind.i64 a3, Go.Ab.AV.int Go.IntKind.i64 a4, Go.Ab.AV.int Go.IntKind.i64 a5, Go.Ab.AV.int Go.IntKind.i64 a6, Go.Ab.AV.int Go.IntKind.i64 a7, Go.Ab.AV.int Go.IntKind.i64 a8, Go.Ab.AV.int Go.IntKind.i64 a9, Go.Ab.AV.int Go.IntKind.i64 a10, Go.Ab.AV.int Go.IntKind.i64 a11, Go.Ab.AV.int Go.IntKind.i64 a12, Go.Ab.AV.int Go.IntKind.i64 a13]], [] => true
  | _, _ => false
theorem impl_IsShop.ok (X : Wd) (n : Nat) {R : Type} (args : List Go.Ab.AV) (objs : List Go.Ab.AObj) (k : Go.Ab.AV → List Go.Ab.AObj → Option R) (r : R) (h : impl_IsShop.ctr n args objs k = some r) :
    Go.Ab.Enters Go.Proofs.Tryd.prog 48 ∧ ∃ v objs', Go.Ab.Sim (En X) 48 args objs v objs' ∧ k v objs' = some r := by
  unfold impl_IsShop.ctr at h
  split at h
  · obtain ⟨x, h1, h2⟩ := Option.bind_eq_some_iff.1 h
    exact ⟨⟨Go.Proofs.Tryd.f48, by kernel_rfl, by kernel_rfl, by kernel_rfl⟩, _, _, impl_IsShop.sim X n _ _ _ _ _ _ _ _ _ _ _ _ _ _ x h1, h2⟩
  · cases h

noncomputable def impl_checksum.dec (v : Go.Ab.AV) (o : List Go.Ab.AObj) : Option Int := match v, o with
  | Go.Ab.AV.int Go.IntKind.i64 a1, [] => some (a1)
  | _, _ => none
noncomputable def impl_checksum.A : Go.Ab.Ann := { live := fun k => match k with | 3 => [0, 3, 6, 7] | _ => [], out := fun k => match k with | 3 => [3] | _ => [], cut := fun _ => none }
noncomputable def impl_checksum.G (n : Nat) {R : Type} : Go.Ab.Ctr R := fun g args objs k => none
noncomputable def impl_checksum.B (i : Nat) : Go.Code := (Go.Ab.loopsOf (bodyOf Go.Proofs.Tryd.f72)).getD i Go.Code.skip
noncomputable def impl_checksum.h3 (n : Nat) (v : List Go.Ab.AV) (o : List Go.Ab.AObj) (K : Go.Ab.Kont Int) : Option Int := match v, o with
  | [Go.Ab.AV.str x10, Go.Ab.AV.int Go.IntKind.i64 x11, Go.Ab.AV.int Go.IntKind.i64 x12, Go.Ab.AV.int Go.IntKind.i64 x13], [] => impl_checksum.l3 n (fun y23 => K (Go.Ab.Ex.exit 0) [Go.Ab.AV.int Go.IntKind.i64 y23] []) n x10 x11 x12 x13
  | _, _ => none
noncomputable def impl_checksum.H (n : Nat) : Go.Ab.Hnd Int := { loop := fun key _ v o K => match key with | 3 => impl_checksum.h3 n v o K | _ => none, cut := fun _ _ _ _ _ => none }
theorem impl_checksum.loop3 (n0 : Nat) (K : Go.Ab.Kont Int) : ∀ (n : Nat) (x10 : ByteArray) (x11 : Int) (x12 : Int) (x13 : Int), Go.Ab.loopK 21 0 (impl_checksum.A.live 3) (impl_checksum.A.out 3) (fun t o k => Go.Ab.denK Go.Proofs.Tryd.prog (impl_checksum.G n0) impl_checksum.A (impl_checksum.H n0) 21 0 (impl_checksum.B 0) t o k) n [Go.Ab.AV.str x10, Go.Ab.AV.int Go.IntKind.i64 x11, Go.Ab.AV.int Go.IntKind.i64 x12, Go.Ab.AV.int Go.IntKind.i64 x13] [] K = impl_checksum.l3 n0 (fun y23 => K (Go.Ab.Ex.exit 0) [Go.Ab.AV.int Go.IntKind.i64 y23] []) n x10 x11 x12 x13
  | 0, _, _, _, _ => rfl
  | n + 1, x10, x11, x12, x13 => by
    have ih : (fun (x10 : ByteArray) (x11 : Int) (x12 : Int) (x13 : Int) => Go.Ab.loopK 21 0 (impl_checksum.A.live 3) (impl_checksum.A.out 3) (fun t o k => Go.Ab.denK Go.Proofs.Tryd.prog (impl_checksum.G n0) impl_checksum.A (impl_checksum.H n0) 21 0 (impl_checksum.B 0) t o k) n [Go.Ab.AV.str x10, Go.Ab.AV.int Go.IntKind.i64 x11, Go.Ab.AV.int Go.IntKind.i64 x12, Go.Ab.AV.int Go.IntKind.i64 x13] [] K) = impl_checksum.l3 n0 (fun y23 => K (Go.Ab.Ex.exit 0) [Go.Ab.AV.int Go.IntKind.i64 y23] []) n := by funext x10 x11 x12 x13; exact impl_checksum.loop3 n0 K n x10 x11 x12 x13
    have st : Go.Ab.loopK 21 0 (impl_checksum.A.live 3) (impl_checksum.A.out 3) (fun t o k => Go.Ab.denK Go.Proofs.Tryd.prog (impl_checksum.G n0) impl_checksum.A (impl_checksum.H n0) 21 0 (impl_checksum.B 0) t o k) (n + 1) [Go.Ab.AV.str x10, Go.Ab.AV.int Go.IntKind.i64 x11, Go.Ab.AV.int Go.IntKind.i64 x12, Go.Ab.AV.int Go.IntKind.i64 x13] [] K = impl_checksum.l3S n0 (fun (x10 : ByteArray) (x11 : Int) (x12 : Int) (x13 : Int) => Go.Ab.loopK 21 0 (impl_checksum.A.live 3) (impl_checksum.A.out 3) (fun t o k => Go.Ab.denK Go.Proofs.Tryd.prog (impl_checksum.G n0) impl_checksum.A (impl_checksum.H n0) 21 0 (impl_checksum.B 0) t o k) n [Go.Ab.AV.str x10, Go.Ab.AV.int Go.IntKind.i64 x11, Go.Ab.AV.int Go.IntKind.i64 x12, Go.Ab.AV.int Go.IntKind.i64 x13] [] K) (fun y23 => K (Go.Ab.Ex.exit 0) [Go.Ab.AV.int Go.IntKind.i64 y23] []) x10 x11 x12 x13 := by kernel_rfl
    rw [st, ih]; rfl
theorem impl_checksum.lok3 (n0 : Nat) : Go.Ab.LoopOk Go.Proofs.Tryd.prog (impl_checksum.G n0) impl_checksum.A (impl_checksum.H n0) 21 0 (impl_checksum.B 0) := by
  intro v o K r h
  have hk : Go.Ab.key (impl_checksum.B 0) = 3 := by kernel_rfl
  rw [hk] at h ⊢
  change impl_checksum.h3 n0 v o K = some r at h
  unfold impl_checksum.h3 at h
  split at h
  · exact ⟨n0, by rw [impl_checksum.loop3]; exact h⟩
  · cases h
theorem impl_checksum.loops (n0 : Nat) : ∀ b ∈ Go.Ab.loopsOf (bodyOf Go.Proofs.Tryd.f72), Go.Ab.LoopOk Go.Proofs.Tryd.prog (impl_checksum.G n0) impl_checksum.A (impl_checksum.H n0) 21 0 b :=
  Go.Ab.forall_getD 1 (by kernel_rfl) Go.Code.skip fun i hi => match i, hi with
    | 0, _ => impl_checksum.lok3 n0
    | j + 1, hj => absurd hj (by omega)
theorem impl_checksum.cuts (n0 : Nat) : ∀ b ∈ Go.Ab.cutsOf impl_checksum.A (bodyOf Go.Proofs.Tryd.f72), Go.Ab.CutOk Go.Proofs.Tryd.prog (impl_checksum.G n0) impl_checksum.A (impl_checksum.H n0) 21 0 b := Go.Ab.forall_nil (by kernel_rfl)
theorem impl_checksum.eq (n : Nat) (a0 : ByteArray) : Go.Ab.funK Go.Proofs.Tryd.prog (impl_checksum.G n) impl_checksum.A (impl_checksum.H n) false Go.Proofs.Tryd.f72 (bodyOf Go.Proofs.Tryd.f72) [Go.Ab.AV.str a0] [] impl_checksum.dec = impl_checksum.f n a0 := by kernel_rfl
theorem impl_checksum.gok (X : Wd) (n : Nat) {R : Type} : Go.Ab.CtrOk (En X) (impl_checksum.G n : Go.Ab.Ctr R) := by
  intro g args objs k r h
  cases h
theorem impl_checksum.hdec (r : Int) (v : Go.Ab.AV) (o : List Go.Ab.AObj) (h : impl_checksum.dec v o = some r) : v = Go.Ab.AV.int Go.IntKind.i64 (r) ∧ o = [] := by
  unfold impl_checksum.dec at h
  split at h
  · cases h; exact ⟨rfl, rfl⟩
  · cases h
theorem impl_checksum.sim (X : Wd) (n : Nat) (a0 : ByteArray) (r : Int) (h : impl_checksum.f n a0 = some r) : Go.Ab.Sim (En X) 72 [Go.Ab.AV.str a0] [] (Go.Ab.AV.int Go.IntKind.i64 (r)) [] :=
  Go.Ab.sim_of (E := En X) (impl_checksum.gok X n) mix (fn := Go.Proofs.Tryd.f72) (c := (bodyOf Go.Proofs.Tryd.f72)) (by kernel_rfl) (by kernel_rfl) (by kernel_rfl) (impl_checksum.loops n) (impl_checksum.cuts n) ((impl_checksum.eq n a0).trans h) (impl_checksum.hdec r)
noncomputable def impl_checksum.ctr (n : Nat) {R : Type} : List Go.Ab.AV → List Go.Ab.AObj → (Go.Ab.AV → List Go.Ab.AObj → Option R) → Option R
  | [Go.Ab.AV.str a0], [], k => (impl_checksum.f n a0).bind fun r => k (Go.Ab.AV.int Go.IntKind.i64 (r)) []
  | _, _, _ => none
noncomputable def impl_checksum.fits : List Go.Ab.AV → List Go.Ab.AObj → Bool
  | [Go.Ab.AV.str a0], [] => true
  | _, _ => false
theorem impl_checksum.ok (X : Wd) (n : Nat) {R : Type} (args : List Go.Ab.AV) (objs : List Go.Ab.AObj) (k : Go.Ab.AV → List Go.Ab.AObj → Option R) (r : R) (h : impl_checksum.ctr n args objs k = some r) :
    Go.Ab.Enters Go.Proofs.Tryd.prog 72 ∧ ∃ v objs', Go.Ab.Sim (En X) 72 args objs v objs' ∧ k v objs' = some r := by
  unfold impl_checksum.ctr at h
  split at h
  · obtain ⟨x, h1, h2⟩ := Option.bind_eq_some_iff.1 h
    exact ⟨⟨Go.Proofs.Tryd.f72, by kernel_rfl, by kernel_rfl, by kernel_rfl⟩, _, _, impl_checksum.sim X n _ x h1, h2⟩
  · cases h

noncomputable def impl_AppendChecksum.dec (v : Go.Ab.AV) (o : List Go.Ab.AObj) : Option (ByteArray × Bool) := match v, o with
  | Go.Ab.AV.tup [Go.Ab.AV.str a1, Go.Ab.AV.bool a2], [] => some (a1, a2)
  | _, _ => none
noncomputable def impl_AppendChecksum.A : Go.Ab.Ann := { live := fun _ => [], out := fun _ => [], cut := fun _ => none }
noncomputable def impl_AppendChecksum.G (n : Nat) {R : Type} : Go.Ab.Ctr R := fun g args objs k => match g with | 71 => strings_Contains.ctr n args objs k | 72 => impl_checksum.ctr n args objs k | 52 => strconv_Itoa.ctr n args objs k | _ => none
noncomputable def impl_AppendChecksum.B (i : Nat) : Go.Code := (Go.Ab.loopsOf (bodyOf Go.Proofs.Tryd.f51)).getD i Go.Code.skip
noncomputable def impl_AppendChecksum.H (n : Nat) : Go.Ab.Hnd (ByteArray × Bool) := { loop := fun key _ v o K => none, cut := fun _ _ _ _ _ => none }
theorem impl_AppendChecksum.loops (n0 : Nat) : ∀ b ∈ Go.Ab.loopsOf (bodyOf Go.Proofs.Tryd.f51), Go.Ab.LoopOk Go.Proofs.Tryd.prog (impl_AppendChecksum.G n0) impl_AppendChecksum.A (impl_AppendChecksum.H n0) 22 0 b := Go.Ab.forall_nil (by kernel_rfl)
theorem impl_AppendChecksum.cuts (n0 : Nat) : ∀ b ∈ Go.Ab.cutsOf impl_AppendChecksum.A (bodyOf Go.Proofs.Tryd.f51), Go.Ab.CutOk Go.Proofs.Tryd.prog (impl_AppendChecksum.G n0) impl_AppendChecksum.A (impl_AppendChecksum.H n0) 22 0 b := Go.Ab.forall_nil (by kernel_rfl)
theorem impl_AppendChecksum.eq (n : Nat) (a0 : ByteArray) : Go.Ab.funK Go.Proofs.Tryd.prog (impl_AppendChecksum.G n) impl_AppendChecksum.A (impl_AppendChecksum.H n) false Go.Proofs.Tryd.f51 (bodyOf Go.Proofs.Tryd.f51) [Go.Ab.AV.str a0] [] impl_AppendChecksum.dec = impl_AppendChecksum.f n a0 := by kernel_rfl
theorem impl_AppendChecksum.gok (X : Wd) (n : Nat) {R : Type} : Go.Ab.CtrOk (En X) (impl_AppendChecksum.G n : Go.Ab.Ctr R) := by
  intro g args objs k r h
  unfold impl_AppendChecksum.G at h
  split at h
  · exact strings_Contains.ok X _ args objs k r h
  · exact impl_checksum.ok X _ args objs k r h
  · exact strconv_Itoa.ok X _ args objs k r h
  · cases h
theorem impl_AppendChecksum.hdec (r : (ByteArray × Bool)) (v : Go.Ab.AV) (o : List Go.Ab.AObj) (h : impl_AppendChecksum.dec v o = some r) : v = Go.Ab.AV.tup [Go.Ab.AV.str (r.1), Go.Ab.AV.bool (r.2)] ∧ o = [] := by
  unfold impl_AppendChecksum.dec at h
  split at h
  · cases h; exact ⟨rfl, rfl⟩
  · cases h
theorem impl_AppendChecksum.sim (X : Wd) (n : Nat) (a0 : ByteArray) (r : (ByteArray × Bool)) (h : impl_AppendChecksum.f n a0 = some r) : Go.Ab.Sim (En X) 51 [Go.Ab.AV.str a0] [] (Go.Ab.AV.tup [Go.Ab.AV.str (r.1), Go.Ab.AV.bool (r.2)]) [] :=
  Go.Ab.sim_of (E := En X) (impl_AppendChecksum.gok X n) mix (fn := Go.Proofs.Tryd.f51) (c := (bodyOf Go.Proofs.Tryd.f51)) (by kernel_rfl) (by kernel_rfl) (by kernel_rfl) (impl_AppendChecksum.loops n) (impl_AppendChecksum.cuts n) ((impl_AppendChecksum.eq n a0).trans h) (impl_AppendChecksum.hdec r)
noncomputable def impl_AppendChecksum.ctr (n : Nat) {R : Type} : List Go.Ab.AV → List Go.Ab.AObj → (Go.Ab.AV → List Go.Ab.AObj → Option R) → Option R
  | [Go.Ab.AV.str a0], [], k => (impl_AppendChecksum.f n a0).bind fun r => k (Go.Ab.AV.tup [Go.Ab.AV.str (r.1), Go.Ab.AV.bool (r.2)]) []
  | _, _, _ => none
noncomputable def impl_AppendChecksum.fits : List Go.Ab.AV → List Go.Ab.AObj → Bool
  | [Go.Ab.AV.str a0], [] => true
  | _, _ => false
theorem impl_AppendChecksum.ok (X : Wd) (n : Nat) {R : Type} (args : List Go.Ab.AV) (objs : List Go.Ab.AObj) (k : Go.Ab.AV → List Go.Ab.AObj → Option R) (r : R) (h : impl_AppendChecksum.ctr n args objs k = some r) :
    Go.Ab.Enters Go.Proofs.Tryd.prog 51 ∧ ∃ v objs', Go.Ab.Sim (En X) 51 args objs v objs' ∧ k v objs' = some r := by
  unfold impl_AppendChecksum.ctr at h
  split at h
  · obtain ⟨x, h1, h2⟩ := Option.bind_eq_some_iff.1 h
    exact ⟨⟨Go.Proofs.Tryd.f51, by kernel_rfl, by kernel_rfl, by kernel_rfl⟩, _, _, impl_AppendChecksum.sim X n _ x h1, h2⟩
  · cases h

noncomputable def impl_VerifyChecksum.dec (v : Go.Ab.AV) (o : List Go.Ab.AObj) : Option (ByteArray × Bool) := match v, o with
  | Go.Ab.AV.tup [Go.Ab.AV.str a1, Go.Ab.AV.bool a2], [] => some (a1, a2)
  | _, _ => none
noncomputable def impl_VerifyChecksum.A : Go.Ab.Ann := { live := fun _ => [], out := fun _ => [], cut := fun _ => none }
noncomputable def impl_VerifyChecksum.G (n : Nat) {R : Type} : Go.Ab.Ctr R := fun g args objs k => match g with | 80 => strings_Cut.ctr n args objs k | 51 => impl_AppendChecksum.ctr n args objs k | _ => none
noncomputable def impl_VerifyChecksum.B (i : Nat) : Go.Code := (Go.Ab.loopsOf (bodyOf Go.Proofs.Tryd.f81)).getD i Go.Code.skip
noncomputable def impl_VerifyChecksum.H (n : Nat) : Go.Ab.Hnd (ByteArray × Bool) := { loop := fun key _ v o K => none, cut := fun _ _ _ _ _ => none }
theorem impl_VerifyChecksum.loops (n0 : Nat) : ∀ b ∈ Go.Ab.loopsOf (bodyOf Go.Proofs.Tryd.f81), Go.Ab.LoopOk Go.Proofs.Tryd.prog (impl_VerifyChecksum.G n0) impl_VerifyChecksum.A (impl_VerifyChecksum.H n0) 27 0 b := Go.Ab.forall_nil (by kernel_rfl)
theorem impl_VerifyChecksum.cuts (n0 : Nat) : ∀ b ∈ Go.Ab.cutsOf impl_VerifyChecksum.A (bodyOf Go.Proofs.Tryd.f81), Go.Ab.CutOk Go.Proofs.Tryd.prog (impl_VerifyChecksum.G n0) impl_VerifyChecksum.A (impl_VerifyChecksum.H n0) 27 0 b := Go.Ab.forall_nil (by kernel_rfl)
theorem impl_VerifyChecksum.eq (n : Nat) (a0 : ByteArray) : Go.Ab.funK Go.Proofs.Tryd.prog (impl_VerifyChecksum.G n) impl_VerifyChecksum.A (impl_VerifyChecksum.H n) false Go.Proofs.Tryd.f81 (bodyOf Go.Proofs.Tryd.f81) [Go.Ab.AV.str a0] [] impl_VerifyChecksum.dec = impl_VerifyChecksum.f n a0 := by kernel_rfl
theorem impl_VerifyChecksum.gok (X : Wd) (n : Nat) {R : Type} : Go.Ab.CtrOk (En X) (impl_VerifyChecksum.G n : Go.Ab.Ctr R) := by
  intro g args objs k r h
  unfold impl_VerifyChecksum.G at h
  split at h
  · exact strings_Cut.ok X _ args objs k r h
  · exact impl_AppendChecksum.ok X _ args objs k r h
  · cases h
theorem impl_VerifyChecksum.hdec (r : (ByteArray × Bool)) (v : Go.Ab.AV) (o : List Go.Ab.AObj) (h : impl_VerifyChecksum.dec v o = some r) : v = Go.Ab.AV.tup [Go.Ab.AV.str (r.1), Go.Ab.AV.bool (r.2)] ∧ o = [] := by
  unfold impl_VerifyChecksum.dec at h
  split at h
  · cases h; exact ⟨rfl, rfl⟩
  · cases h
theorem impl_VerifyChecksum.sim (X : Wd) (n : Nat) (a0 : ByteArray) (r : (ByteArray × Bool)) (h : impl_VerifyChecksum.f n a0 = some r) : Go.Ab.Sim (En X) 81 [Go.Ab.AV.str a0] [] (Go.Ab.AV.tup [Go.Ab.AV.str (r.1), Go.Ab.AV.bool (r.2)]) [] :=
  Go.Ab.sim_of (E := En X) (impl_VerifyChecksum.gok X n) mix (fn := Go.Proofs.Tryd.f81) (c := (bodyOf Go.Proofs.Tryd.f81)) (by kernel_rfl) (by kernel_rfl) (by kernel_rfl) (impl_VerifyChecksum.loops n) (impl_VerifyChecksum.cuts n) ((impl_VerifyChecksum.eq n a0).trans h) (impl_VerifyChecksum.hdec r)
noncomputable def impl_VerifyChecksum.ctr (n : Nat) {R : Type} : List Go.Ab.AV → List Go.Ab.AObj → (Go.Ab.AV → List Go.Ab.AObj → Option R) → Option R
  | [Go.Ab.AV.str a0], [], k => (impl_VerifyChecksum.f n a0).bind fun r => k (Go.Ab.AV.tup [Go.Ab.AV.str (r.1), Go.Ab.AV.bool (r.2)]) []
  | _, _, _ => none
noncomputable def impl_VerifyChecksum.fits : List Go.Ab.AV → List Go.Ab.AObj → Bool
  | [Go.Ab.AV.str a0], [] => true
  | _, _ => false
theorem impl_VerifyChecksum.ok (X : Wd) (n : Nat) {R : Type} (args : List Go.Ab.AV) (objs : List Go.Ab.AObj) (k : Go.Ab.AV → List Go.Ab.AObj → Option R) (r : R) (h : impl_VerifyChecksum.ctr n args objs k = some r) :
    Go.Ab.Enters Go.Proofs.Tryd.prog 81 ∧ ∃ v objs', Go.Ab.Sim (En X) 81 args objs v objs' ∧ k v objs' = some r := by
  unfold impl_VerifyChecksum.ctr at h
  split at h
  · obtain ⟨x, h1, h2⟩ := Option.bind_eq_some_iff.1 h
    exact ⟨⟨Go.Proofs.Tryd.f81, by kernel_rfl, by kernel_rfl, by kernel_rfl⟩, _, _, impl_VerifyChecksum.sim X n _ x h1, h2⟩
  · cases h

noncomputable def impl_isPlain.dec (v : Go.Ab.AV) (o : List Go.Ab.AObj) : Option Bool := match v, o with
  | Go.Ab.AV.bool a1, [] => some (a1)
  | _, _ => none
noncomputable def impl_isPlain.A : Go.Ab.Ann := { live := fun k => match k with | 2 => [0, 5, 6] | _ => [], out := fun k => match k with | 2 => [2] | _ => [], cut := fun _ => none }
noncomputable def impl_isPlain.G (n : Nat) {R : Type} : Go.Ab.Ctr R := fun g args objs k => none
noncomputable def impl_isPlain.B (i : Nat) : Go.Code := (Go.Ab.loopsOf (bodyOf Go.Proofs.Tryd.f60)).getD i Go.Code.skip
noncomputable def impl_isPlain.h2 (n : Nat) (v : List Go.Ab.AV) (o : List Go.Ab.AObj) (K : Go.Ab.Kont Bool) : Option Bool := match v, o with
  | [Go.Ab.AV.str x9, Go.Ab.AV.int Go.IntKind.i64 x10, Go.Ab.AV.int Go.IntKind.i64 x11], [] => impl_isPlain.l2 n (fun y25 => K (Go.Ab.Ex.ret) [Go.Ab.AV.bool y25] []) (K (Go.Ab.Ex.exit 0) [Go.Ab.AV.undef] []) n x9 x10 x11
  | _, _ => none
noncomputable def impl_isPlain.H (n : Nat) : Go.Ab.Hnd Bool := { loop := fun key _ v o K => match key with | 2 => impl_isPlain.h2 n v o K | _ => none, cut := fun _ _ _ _ _ => none }
theorem impl_isPlain.loop2 (n0 : Nat) (K : Go.Ab.Kont Bool) : ∀ (n : Nat) (x9 : ByteArray) (x10 : Int) (x11 : Int), Go.Ab.loopK 26 0 (impl_isPlain.A.live 2) (impl_isPlain.A.out 2) (fun t o k => Go.Ab.denK Go.Proofs.Tryd.prog (impl_isPlain.G n0) impl_isPlain.A (impl_isPlain.H n0) 26 0 (impl_isPlain.B 0) t o k) n [Go.Ab.AV.str x9, Go.Ab.AV.int Go.IntKind.i64 x10, Go.Ab.AV.int Go.IntKind.i64 x11] [] K = impl_isPlain.l2 n0 (fun y25 => K (Go.Ab.Ex.ret) [Go.Ab.AV.bool y25] []) (K (Go.Ab.Ex.exit 0) [Go.Ab.AV.undef] []) n x9 x10 x11
  | 0, _, _, _ => rfl
  | n + 1, x9, x10, x11 => by
    have ih : (fun (x9 : ByteArray) (x10 : Int) (x11 : Int) => Go.Ab.loopK 26 0 (impl_isPlain.A.live 2) (impl_isPlain.A.out 2) (fun t o k => Go.Ab.denK Go.Proofs.Tryd.prog (impl_isPlain.G n0) impl_isPlain.A (impl_isPlain.H n0) 26 0 (impl_isPlain.B 0) t o k) n [Go.Ab.AV.str x9, Go.Ab.AV.int Go.IntKind.i64 x10, Go.Ab.AV.int Go.IntKind.i64 x11] [] K) = impl_isPlain.l2 n0 (fun y25 => K (Go.Ab.Ex.ret) [Go.Ab.AV.bool y25] []) (K (Go.Ab.Ex.exit 0) [Go.Ab.AV.undef] []) n := by funext x9 x10 x11; exact impl_isPlain.loop2 n0 K n x9 x10 x11
    have st : Go.Ab.loopK 26 0 (impl_isPlain.A.live 2) (impl_isPlain.A.out 2) (fun t o k => Go.Ab.denK Go.Proofs.Tryd.prog (impl_isPlain.G n0) impl_isPlain.A (impl_isPlain.H n0) 26 0 (impl_isPlain.B 0) t o k) (n + 1) [Go.Ab.AV.str x9, Go.Ab.AV.int Go.IntKind.i64 x10, Go.Ab.AV.int Go.IntKind.i64 x11] [] K = impl_isPlain.l2S n0 (fun (x9 : ByteArray) (x10 : Int) (x11 : Int) => Go.Ab.loopK 26 0 (impl_isPlain.A.live 2) (impl_isPlain.A.out 2) (fun t o k => Go.Ab.denK Go.Proofs.Tryd.prog (impl_isPlain.G n0) impl_isPlain.A (impl_isPlain.H n0) 26 0 (impl_isPlain.B 0) t o k) n [Go.Ab.AV.str x9, Go.Ab.AV.int Go.IntKind.i64 x10, Go.Ab.AV.int Go.IntKind.i64 x11] [] K) (fun y25 => K (Go.Ab.Ex.ret) [Go.Ab.AV.bool y25] []) (K (Go.Ab.Ex.exit 0) [Go.Ab.AV.undef] []) x9 x10 x11 := by kernel_rfl
    rw [st, ih]; rfl
theorem impl_isPlain.lok2 (n0 : Nat) : Go.Ab.LoopOk Go.Proofs.Tryd.prog (impl_isPlain.G n0) impl_isPlain.A (impl_isPlain.H n0) 26 0 (impl_isPlain.B 0) := by
  intro v o K r h
  have hk : Go.Ab.key (impl_isPlain.B 0) = 2 := by kernel_rfl
  rw [hk] at h ⊢
  change impl_isPlain.h2 n0 v o K = some r at h
  unfold impl_isPlain.h2 at h
  split at h
  · exact ⟨n0, by rw [impl_isPlain.loop2]; exact h⟩
  · cases h
theorem impl_isPlain.loops (n0 : Nat) : ∀ b ∈ Go.Ab.loopsOf (bodyOf Go.Proofs.Tryd.f60), Go.Ab.LoopOk Go.Proofs.Tryd.prog (impl_isPlain.G n0) impl_isPlain.A (impl_isPlain.H n0) 26 0 b :=
  Go.Ab.forall_getD 1 (by kernel_rfl) Go.Code.skip fun i hi => match i, hi with
    | 0, _ => impl_isPlain.lok2 n0
    | j + 1, hj => absurd hj (by omega)
theorem impl_isPlain.cuts (n0 : Nat) : ∀ b ∈ Go.Ab.cutsOf impl_isPlain.A (bodyOf Go.Proofs.Tryd.f60), Go.Ab.CutOk Go.Proofs.Tryd.prog (impl_isPlain.G n0) impl_isPlain.A (impl_isPlain.H n0) 26 0 b := Go.Ab.forall_nil (by kernel_rfl)
theorem impl_isPlain.eq (n : Nat) (a0 : ByteArray) : Go.Ab.funK Go.Proofs.Tryd.prog (impl_isPlain.G n) impl_isPlain.A (impl_isPlain.H n) false Go.Proofs.Tryd.f60 (bodyOf Go.Proofs.Tryd.f60) [Go.Ab.AV.str a0] [] impl_isPlain.dec = impl_isPlain.f n a0 := by kernel_rfl
theorem impl_isPlain.gok (X : Wd) (n : Nat) {R : Type} : Go.Ab.CtrOk (En X) (impl_isPlain.G n : Go.Ab.Ctr R) := by
  intro g args objs k r h
  cases h
theorem impl_isPlain.hdec (r : Bool) (v : Go.Ab.AV) (o : List Go.Ab.AObj) (h : impl_isPlain.dec v o = some r) : v = Go.Ab.AV.bool (r) ∧ o = [] := by
  unfold impl_isPlain.dec at h
  split at h
  · cases h; exact ⟨rfl, rfl⟩
  · cases h
theorem impl_isPlain.sim (X : Wd) (n : Nat) (a0 : ByteArray) (r : Bool) (h : impl_isPlain.f n a0 = some r) : Go.Ab.Sim (En X) 60 [Go.Ab.AV.str a0] [] (Go.Ab.AV.bool (r)) [] :=
  Go.Ab.sim_of (E := En X) (impl_isPlain.gok X n) mix (fn := Go.Proofs.Tryd.f60) (c := (bodyOf Go.Proofs.Tryd.f60)) (by kernel_rfl) (by kernel_rfl) (by kernel_rfl) (impl_isPlain.loops n) (impl_isPlain.cuts n) ((impl_isPlain.eq n a0).trans h) (impl_isPlain.hdec r)
noncomputable def impl_isPlain.ctr (n : Nat) {R : Type} : List Go.Ab.AV → List Go.Ab.AObj → (Go.Ab.AV → List Go.Ab.AObj → Option R) → Option R
  | [Go.Ab.AV.str a0], [], k => (impl_isPlain.f n a0).bind fun r => k (Go.Ab.AV.bool (r)) []
  | _, _, _ => none
noncomputable def impl_isPlain.fits : List Go.Ab.AV → List Go.Ab.AObj → Bool
  | [Go.Ab.AV.str a0], [] => true
  | _, _ => false
theorem impl_isPlain.ok (X : Wd) (n : Nat) {R : Type} (args : List Go.Ab.AV) (objs : List Go.Ab.AObj) (k : Go.Ab.AV → List Go.Ab.AObj → Option R) (r : R) (h : impl_isPlain.ctr n args objs k = some r) :
    Go.Ab.Enters Go.Proofs.Tryd.prog 60 ∧ ∃ v objs', Go.Ab.Sim (En X) 60 args objs v objs' ∧ k v objs' = some r := by
  unfold impl_isPlain.ctr at h
  split at h
  · obtain ⟨x, h1, h2⟩ := Option.bind_eq_some_iff.1 h
    exact ⟨⟨Go.Proofs.Tryd.f60, by kernel_rfl, by kernel_rfl, by kernel_rfl⟩, _, _, impl_isPlain.sim X n _ x h1, h2⟩
  · cases h

noncomputable def impl_isCommand.dec (v : Go.Ab.AV) (o : List Go.Ab.AObj) : Option Bool := match v, o with
  | Go.Ab.AV.bool a1, [] => some (a1)
  | _, _ => none
noncomputable def impl_isCommand.A : Go.Ab.Ann := { live := fun _ => [], out := fun _ => [], cut := fun _ => none }
noncomputable def impl_isCommand.G (n : Nat) {R : Type} : Go.Ab.Ctr R := fun g args objs k => match g with | 60 => impl_isPlain.ctr n args objs k | 71 => strings_Contains.ctr n args objs k | _ => none
noncomputable def impl_isCommand.B (i : Nat) : Go.Code := (Go.Ab.loopsOf (bodyOf Go.Proofs.Tryd.f59)).getD i Go.Code.skip
noncomputable def impl_isCommand.H (n : Nat) : Go.Ab.Hnd Bool := { loop := fun key _ v o K => none, cut := fun _ _ _ _ _ => none }
theorem impl_isCommand.loops (n0 : Nat) : ∀ b ∈ Go.Ab.loopsOf (bodyOf Go.Proofs.Tryd.f59), Go.Ab.LoopOk Go.Proofs.Tryd.prog (impl_isCommand.G n0) impl_isCommand.A (impl_isCommand.H n0) 20 0 b := Go.Ab.forall_nil (by kernel_rfl)
theorem impl_isCommand.cuts (n0 : Nat) : ∀ b ∈ Go.Ab.cutsOf impl_isCommand.A (bodyOf Go.Proofs.Tryd.f59), Go.Ab.CutOk Go.Proofs.Tryd.prog (impl_isCommand.G n0) impl_isCommand.A (impl_isCommand.H n0) 20 0 b := Go.Ab.forall_nil (by kernel_rfl)
theorem impl_isCommand.eq (n : Nat) (a0 : ByteArray) : Go.Ab.funK Go.Proofs.Tryd.prog (impl_isCommand.G n) impl_isCommand.A (impl_isCommand.H n) false Go.Proofs.Tryd.f59 (bodyOf Go.Proofs.Tryd.f59) [Go.Ab.AV.str a0] [] impl_isCommand.dec = impl_isCommand.f n a0 := by kernel_rfl
theorem impl_isCommand.gok (X : Wd) (n : Nat) {R : Type} : Go.Ab.CtrOk (En X) (impl_isCommand.G n : Go.Ab.Ctr R) := by
  intro g args objs k r h
  unfold impl_isCommand.G at h
  split at h
  · exact impl_isPlain.ok X _ args objs k r h
  · exact strings_Contains.ok X _ args objs k r h
  · cases h
theorem impl_isCommand.hdec (r : Bool) (v : Go.Ab.AV) (o : List Go.Ab.AObj) (h : impl_isCommand.dec v o = some r) : v = Go.Ab.AV.bool (r) ∧ o = [] := by
  unfold impl_isCommand.dec at h
  split at h
  · cases h; exact ⟨rfl, rfl⟩
  · cases h
theorem impl_isCommand.sim (X : Wd) (n : Nat) (a0 : ByteArray) (r : Bool) (h : impl_isCommand.f n a0 = some r) : Go.Ab.Sim (En X) 59 [Go.Ab.AV.str a0] [] (Go.Ab.AV.bool (r)) [] :=
  Go.Ab.sim_of (E := En X) (impl_isCommand.gok X n) mix (fn := Go.Proofs.Tryd.f59) (c := (bodyOf Go.Proofs.Tryd.f59)) (by kernel_rfl) (by kernel_rfl) (by kernel_rfl) (impl_isCommand.loops n) (impl_isCommand.cuts n) ((impl_isCommand.eq n a0).trans h) (impl_isCommand.hdec r)
noncomputable def impl_isCommand.ctr (n : Nat) {R : Type} : List Go.Ab.AV → List Go.Ab.AObj → (Go.Ab.AV → List Go.Ab.AObj → Option R) → Option R
  | [Go.Ab.AV.str a0], [], k => (impl_isCommand.f n a0).bind fun r => k (Go.Ab.AV.bool (r)) []
  | _, _, _ => none
noncomputable def impl_isCommand.fits : List Go.Ab.AV → List Go.Ab.AObj → Bool
  | [Go.Ab.AV.str a0], [] => true
  | _, _ => false
theorem impl_isCommand.ok (X : Wd) (n : Nat) {R : Type} (args : List Go.Ab.AV) (objs : List Go.Ab.AObj) (k : Go.Ab.AV → List Go.Ab.AObj → Option R) (r : R) (h : impl_isCommand.ctr n args objs k = some r) :
    Go.Ab.Enters Go.Proofs.Tryd.prog 59 ∧ ∃ v objs', Go.Ab.Sim (En X) 59 args objs v objs' ∧ k v objs' = some r := by
  unfold impl_isCommand.ctr at h
  split at h
  · obtain ⟨x, h1, h2⟩ := Option.bind_eq_some_iff.1 h
    exact ⟨⟨Go.Proofs.Tryd.f59, by kernel_rfl, by kernel_rfl, by kernel_rfl⟩, _, _, impl_isCommand.sim X n _ x h1, h2⟩
  · cases h

noncomputable def impl_IsValidRecord.dec (v : Go.Ab.AV) (o : List Go.Ab.AObj) : Option Bool := match v, o with
  | Go.Ab.AV.bool a2, [] => some (a2)
  | _, _ => none
noncomputable def impl_IsValidRecord.A : Go.Ab.Ann := { live := fun _ => [], out := fun _ => [], cut := fun _ => none }
noncomputable def impl_IsValidRecord.G (n : Nat) {R : Type} : Go.Ab.Ctr R := fun g args objs k => match g with | 59 => impl_isCommand.ctr n args objs k | 60 => impl_isPlain.ctr n args objs k | _ => none
noncomputable def impl_IsValidRecord.B (i : Nat) : Go.Code := (Go.Ab.loopsOf (bodyOf Go.Proofs.Tryd.f28)).getD i Go.Code.skip
noncomputable def impl_IsValidRecord.H (n : Nat) : Go.Ab.Hnd Bool := { loop := fun key _ v o K => none, cut := fun _ _ _ _ _ => none }
theorem impl_IsValidRecord.loops (n0 : Nat) : ∀ b ∈ Go.Ab.loopsOf (bodyOf Go.Proofs.Tryd.f28), Go.Ab.LoopOk Go.Proofs.Tryd.prog (impl_IsValidRecord.G n0) impl_IsValidRecord.A (impl_IsValidRecord.H n0) 17 0 b := Go.Ab.forall_nil (by kernel_rfl)
theorem impl_IsValidRecord.cuts (n0 : Nat) : ∀ b ∈ Go.Ab.cutsOf impl_IsValidRecord.A (bodyOf Go.Proofs.Tryd.f28), Go.Ab.CutOk Go.Proofs.Tryd.prog (impl_IsValidRecord.G n0) impl_IsValidRecord.A (impl_IsValidRecord.H n0) 17 0 b := Go.Ab.forall_nil (by kernel_rfl)
theorem impl_IsValidRecord.eq (n : Nat) (a0 : ByteArray) (a1 : ByteArray) : Go.Ab.funK Go.Proofs.Tryd.prog (impl_IsValidRecord.G n) impl_IsValidRecord.A (impl_IsValidRecord.H n) false Go.Proofs.Tryd.f28 (bodyOf Go.Proofs.Tryd.f28) [Go.Ab.AV.agg [Go.Ab.AV.str a0, Go.Ab.AV.str a1]] [] impl_IsValidRecord.dec = impl_IsValidRecord.f n a0 a1 := by kernel_rfl
theorem impl_IsValidRecord.gok (X : Wd) (n : Nat) {R : Type} : Go.Ab.CtrOk (En X) (impl_IsValidRecord.G n : Go.Ab.Ctr R) := by
  intro g args objs k r h
  unfold impl_IsValidRecord.G at h
  split at h
  · exact impl_isCommand.ok X _ args objs k r h
  · exact impl_isPlain.ok X _ args objs k r h
  · cases h
theorem impl_IsValidRecord.hdec (r : Bool) (v : Go.Ab.AV) (o : List Go.Ab.AObj) (h : impl_IsValidRecord.dec v o = some r) : v = Go.Ab.AV.bool (r) ∧ o = [] := by
  unfold impl_IsValidRecord.dec at h
  split at h
  · cases h; exact ⟨rfl, rfl⟩
  · cases h
theorem impl_IsValidRecord.sim (X : Wd) (n : Nat) (a0 : ByteArray) (a1 : ByteArray) (r : Bool) (h : impl_IsValidRecord.f n a0 a1 = some r) : Go.Ab.Sim (En X) 28 [Go.Ab.AV.agg [Go.Ab.AV.str a0, Go.Ab.AV.str a1]] [] (Go.Ab.AV.bool (r)) [] :=
  Go.Ab.sim_of (E := En X) (impl_IsValidRecord.gok X n) mix (fn := Go.Proofs.Tryd.f28) (c := (bodyOf Go.Proofs.Tryd.f28)) (by kernel_rfl) (by kernel_rfl) (by kernel_rfl) (impl_IsValidRecord.loops n) (impl_IsValidRecord.cuts n) ((impl_IsValidRecord.eq n a0 a1).trans h) (impl_IsValidRecord.hdec r)
noncomputable def impl_IsValidRecord.ctr (n : Nat) {R : Type} : List Go.Ab.AV → List Go.Ab.AObj → (Go.Ab.AV → List Go.Ab.AObj → Option R) → Option R
  | [Go.Ab.AV.agg [Go.Ab.AV.str a0, Go.Ab.AV.str a1]], [], k => (impl_IsValidRecord.f n a0 a1).bind fun r => k (Go.Ab.AV.bool (r)) []
  | _, _, _ => none
noncomputable def impl_IsValidRecord.fits : List Go.Ab.AV → List Go.Ab.AObj → Bool
  | [Go.Ab.AV.agg [Go.Ab.AV.str a0, Go.Ab.AV.str a1]], [] => true
  | _, _ => false
theorem impl_IsValidRecord.ok (X : Wd) (n : Nat) {R : Type} (args : List Go.Ab.AV) (objs : List Go.Ab.AObj) (k : Go.Ab.AV → List Go.Ab.AObj → Option R) (r : R) (h : impl_IsValidRecord.ctr n args objs k = some r) :
    Go.Ab.Enters Go.Proofs.Tryd.prog 28 ∧ ∃ v objs', Go.Ab.Sim (En X) 28 args objs v objs' ∧ k v objs' = some r := by
  unfold impl_IsValidRecord.ctr at h
  split at h
  · obtain ⟨x, h1, h2⟩ := Option.bind_eq_some_iff.1 h
    exact ⟨⟨Go.Proofs.Tryd.f28, by kernel_rfl, by kernel_rfl, by kernel_rfl⟩, _, _, impl_IsValidRecord.sim X n _ _ x h1, h2⟩
  · cases h

noncomputable def impl_EncodeRecord.dec (v : Go.Ab.AV) (o : List Go.Ab.AObj) : Option (ByteArray × Bool) := match v, o with
  | Go.Ab.AV.tup [Go.Ab.AV.str a3, Go.Ab.AV.bool a4], [] => some (a3, a4)
  | _, _ => none
noncomputable def impl_EncodeRecord.A : Go.Ab.Ann := { live := fun _ => [], out := fun _ => [], cut := fun _ => none }
noncomputable def impl_EncodeRecord.G (n : Nat) {R : Type} : Go.Ab.Ctr R := fun g args objs k => match g with | 28 => impl_IsValidRecord.ctr n args objs k | 52 => strconv_Itoa.ctr n args objs k | 51 => impl_AppendChecksum.ctr n args objs k | _ => none
noncomputable def impl_EncodeRecord.B (i : Nat) : Go.Code := (Go.Ab.loopsOf (bodyOf Go.Proofs.Tryd.f22)).getD i Go.Code.skip
noncomputable def impl_EncodeRecord.H (n : Nat) : Go.Ab.Hnd (ByteArray × Bool) := { loop := fun key _ v o K => none, cut := fun _ _ _ _ _ => none }
theorem impl_EncodeRecord.loops (n0 : Nat) : ∀ b ∈ Go.Ab.loopsOf (bodyOf Go.Proofs.Tryd.f22), Go.Ab.LoopOk Go.Proofs.Tryd.prog (impl_EncodeRecord.G n0) impl_EncodeRecord.A (impl_EncodeRecord.H n0) 37 0 b := Go.Ab.forall_nil (by kernel_rfl)
theorem impl_EncodeRecord.cuts (n0 : Nat) : ∀ b ∈ Go.Ab.cutsOf impl_EncodeRecord.A (bodyOf Go.Proofs.Tryd.f22), Go.Ab.CutOk Go.Proofs.Tryd.prog (impl_EncodeRecord.G n0) impl_EncodeRecord.A (impl_EncodeRecord.H n0) 37 0 b := Go.Ab.forall_nil (by kernel_rfl)
theorem impl_EncodeRecord.eq (n : Nat) (a0 : Int) (a1 : ByteArray) (a2 : ByteArray) : Go.Ab.funK Go.Proofs.Tryd.prog (impl_EncodeRecord.G n) impl_EncodeRecord.A (impl_EncodeRecord.H n) false Go.Proofs.Tryd.f22 (bodyOf Go.Proofs.Tryd.f22) [Go.Ab.AV.int Go.IntKind.i64 a0, Go.Ab.AV.agg [Go.Ab.AV.str a1, Go.Ab.AV.str a2]] [] impl_EncodeRecord.dec = impl_EncodeRecord.f n a0 a1 a2 := by kernel_rfl
theorem impl_EncodeRecord.gok (X : Wd) (n : Nat) {R : Type} : Go.Ab.CtrOk (En X) (impl_EncodeRecord.G n : Go.Ab.Ctr R) := by
  intro g args objs k r h
  unfold impl_EncodeRecord.G at h
  split at h
  · exact impl_IsValidRecord.ok X _ args objs k r h
  · exact strconv_Itoa.ok X _ args objs k r h
  · exact impl_AppendChecksum.ok X _ args objs k r h
  · cases h
theorem impl_EncodeRecord.hdec (r : (ByteArray × Bool)) (v : Go.Ab.AV) (o : List Go.Ab.AObj) (h : impl_EncodeRecord.dec v o = some r) : v = Go.Ab.AV.tup [Go.Ab.AV.str (r.1), Go.Ab.AV.bool (r.2)] ∧ o = [] := by
  unfold impl_EncodeRecord.dec at h
  split at h
  · cases h; exact ⟨rfl, rfl⟩
  · cases h
theorem impl_EncodeRecord.sim (X : Wd) (n : Nat) (a0 : Int) (a1 : ByteArray) (a2 : ByteArray) (r : (ByteArray × Bool)) (h : impl_EncodeRecord.f n a0 a1 a2 = some r) : Go.Ab.Sim (En X) 22 [Go.Ab.AV.int Go.IntKind.i64 a0, Go.Ab.AV.agg [Go.Ab.AV.str a1, Go.Ab.AV.str a2]] [] (Go.Ab.AV.tup [Go.Ab.AV.str (r.1), Go.Ab.AV.bool (r.2)]) [] :=
  Go.Ab.sim_of (E := En X) (impl_EncodeRecord.gok X n) mix (fn := Go.Proofs.Tryd.f22) (c := (bodyOf Go.Proofs.Tryd.f22)) (by kernel_rfl) (by kernel_rfl) (by kernel_rfl) (impl_EncodeRecord.loops n) (impl_EncodeRecord.cuts n) ((impl_EncodeRecord.eq n a0 a1 a2).trans h) (impl_EncodeRecord.hdec r)
noncomputable def impl_EncodeRecord.ctr (n : Nat) {R : Type} : List Go.Ab.AV → List Go.Ab.AObj → (Go.Ab.AV → List Go.Ab.AObj → Option R) → Option R
  | [Go.Ab.AV.int Go.IntKind.i64 a0, Go.Ab.AV.agg [Go.Ab.AV.str a1, Go.Ab.AV.str a2]], [], k => (impl_EncodeRecord.f n a0 a1 a2).bind fun r => k (Go.Ab.AV.tup [Go.Ab.AV.str (r.1), Go.Ab.AV.bool (r.2)]) []
  | _, _, _ => none
noncomputable def impl_EncodeRecord.fits : List Go.Ab.AV → List Go.Ab.AObj → Bool
  | [Go.Ab.AV.int Go.IntKind.i64 a0, Go.Ab.AV.agg [Go.Ab.AV.str a1, Go.Ab.AV.str a2]], [] => true
  | _, _ => false
theorem impl_EncodeRecord.ok (X : Wd) (n : Nat) {R : Type} (args : List Go.Ab.AV) (objs : List Go.Ab.AObj) (k : Go.Ab.AV → List Go.Ab.AObj → Option R) (r : R) (h : impl_EncodeRecord.ctr n args objs k = some r) :
    Go.Ab.Enters Go.Proofs.Tryd.prog 22 ∧ ∃ v objs', Go.Ab.Sim (En X) 22 args objs v objs' ∧ k v objs' = some r := by
  unfold impl_EncodeRecord.ctr at h
  split at h
  · obtain ⟨x, h1, h2⟩ := Option.bind_eq_some_iff.1 h
    exact ⟨⟨Go.Proofs.Tryd.f22, by kernel_rfl, by kernel_rfl, by kernel_rfl⟩, _, _, impl_EncodeRecord.sim X n _ _ _ x h1, h2⟩
  · cases h

noncomputable def internal_stringslite_HasPrefix.dec (v : Go.Ab.AV) (o : List Go.Ab.AObj) : Option Bool := match v, o with
  | Go.Ab.AV.bool a2, [] => some (a2)
  | _, _ => none
noncomputable def internal_stringslite_HasPrefix.A : Go.Ab.Ann := { live := fun _ => [], out := fun _ => [], cut := fun _ => none }
noncomputable def internal_stringslite_HasPrefix.G (n : Nat) {R : Type} : Go.Ab.Ctr R := fun g args objs k => none
noncomputable def internal_stringslite_HasPrefix.B (i : Nat) : Go.Code := (Go.Ab.loopsOf (bodyOf Go.Proofs.Tryd.f89)).getD i Go.Code.skip
noncomputable def internal_stringslite_HasPrefix.H (n : Nat) : Go.Ab.Hnd Bool := { loop := fun key _ v o K => none, cut := fun _ _ _ _ _ => none }
theorem internal_stringslite_HasPrefix.loops (n0 : Nat) : ∀ b ∈ Go.Ab.loopsOf (bodyOf Go.Proofs.Tryd.f89), Go.Ab.LoopOk Go.Proofs.Tryd.prog (internal_stringslite_HasPrefix.G n0) internal_stringslite_HasPrefix.A (internal_stringslite_HasPrefix.H n0) 18 0 b := Go.Ab.forall_nil (by kernel_rfl)
theorem internal_stringslite_HasPrefix.cuts (n0 : Nat) : ∀ b ∈ Go.Ab.cutsOf internal_stringslite_HasPrefix.A (bodyOf Go.Proofs.Tryd.f89), Go.Ab.CutOk Go.Proofs.Tryd.prog (internal_stringslite_HasPrefix.G n0) internal_stringslite_HasPrefix.A (internal_stringslite_HasPrefix.H n0) 18 0 b := Go.Ab.forall_nil (by kernel_rfl)
theorem internal_stringslite_HasPrefix.eq (n : Nat) (a0 : ByteArray) (a1 : ByteArray) : Go.Ab.funK Go.Proofs.Tryd.prog (internal_stringslite_HasPrefix.G n) internal_stringslite_HasPrefix.A (internal_stringslite_HasPrefix.H n) false Go.Proofs.Tryd.f89 (bodyOf Go.Proofs.Tryd.f89) [Go.Ab.AV.str a0, Go.Ab.AV.str a1] [] internal_stringslite_HasPrefix.dec = internal_stringslite_HasPrefix.f n a0 a1 := by kernel_rfl
theorem internal_stringslite_HasPrefix.gok (X : Wd) (n : Nat) {R : Type} : Go.Ab.CtrOk (En X) (internal_stringslite_HasPrefix.G n : Go.Ab.Ctr R) := by
  intro g args objs k r h
  cases h
theorem internal_stringslite_HasPrefix.hdec (r : Bool) (v : Go.Ab.AV) (o : List Go.Ab.AObj) (h : internal_stringslite_HasPrefix.dec v o = some r) : v = Go.Ab.AV.bool (r) ∧ o = [] := by
  unfold internal_stringslite_HasPrefix.dec at h
  split at h
  · cases h; exact ⟨rfl, rfl⟩
  · cases h
theorem internal_stringslite_HasPrefix.sim (X : Wd) (n : Nat) (a0 : ByteArray) (a1 : ByteArray) (r : Bool) (h : internal_stringslite_HasPrefix.f n a0 a1 = some r) : Go.Ab.Sim (En X) 89 [Go.Ab.AV.str a0, Go.Ab.AV.str a1] [] (Go.Ab.AV.bool (r)) [] :=
  Go.Ab.sim_of (E := En X) (internal_stringslite_HasPrefix.gok X n) mix (fn := Go.Proofs.Tryd.f89) (c := (bodyOf Go.Proofs.Tryd.f89)) (by kernel_rfl) (by kernel_rfl) (by kernel_rfl) (internal_stringslite_HasPrefix.loops n) (internal_stringslite_HasPrefix.cuts n) ((internal_stringslite_HasPrefix.eq n a0 a1).trans h) (internal_stringslite_HasPrefix.hdec r)
noncomputable def internal_stringslite_HasPrefix.ctr (n : Nat) {R : Type} : List Go.Ab.AV → List Go.Ab.AObj → (Go.Ab.AV → List Go.Ab.AObj → Option R) → Option R
  | [Go.Ab.AV.str a0, Go.Ab.AV.str a1], [], k => (internal_stringslite_HasPrefix.f n a0 a1).bind fun r => k (Go.Ab.AV.bool (r)) []
  | _, _, _ => none
noncomputable def internal_stringslite_HasPrefix.fits : List Go.Ab.AV → List Go.Ab.AObj → Bool
  | [Go.Ab.AV.str a0, Go.Ab.AV.str a1], [] => true
  | _, _ => false
theorem internal_stringslite_HasPrefix.ok (X : Wd) (n : Nat) {R : Type} (args : List Go.Ab.AV) (objs : List Go.Ab.AObj) (k : Go.Ab.AV → List Go.Ab.AObj → Option R) (r : R) (h : internal_stringslite_HasPrefix.ctr n args objs k = some r) :
    Go.Ab.Enters Go.Proofs.Tryd.prog 89 ∧ ∃ v objs', Go.Ab.Sim (En X) 89 args objs v objs' ∧ k v objs' = some r := by
  unfold internal_stringslite_HasPrefix.ctr at h
  split at h
  · obtain ⟨x, h1, h2⟩ := Option.bind_eq_some_iff.1 h
    exact ⟨⟨Go.Proofs.Tryd.f89, by kernel_rfl, by kernel_rfl, by kernel_rfl⟩, _, _, internal_stringslite_HasPrefix.sim X n _ _ x h1, h2⟩
  · cases h

noncomputable def strings_HasPrefix.dec (v : Go.Ab.AV) (o : List Go.Ab.AObj) : Option Bool := match v, o with
  | Go.Ab.AV.bool a2, [] => some (a2)
  | _, _ => none
noncomputable def strings_HasPrefix.A : Go.Ab.Ann := { live := fun _ => [], out := fun _ => [], cut := fun _ => none }
noncomputable def strings_HasPrefix.G (n : Nat) {R : Type} : Go.Ab.Ctr R := fun g args objs k => match g with | 89 => internal_stringslite_HasPrefix.ctr n args objs k | _ => none
noncomputable def strings_HasPrefix.B (i : Nat) : Go.Code := (Go.Ab.loopsOf (bodyOf Go.Proofs.Tryd.f82)).getD i Go.Code.skip
noncomputable def strings_HasPrefix.H (n : Nat) : Go.Ab.Hnd Bool := { loop := fun key _ v o K => none, cut := fun _ _ _ _ _ => none }
theorem strings_HasPrefix.loops (n0 : Nat) : ∀ b ∈ Go.Ab.loopsOf (bodyOf Go.Proofs.Tryd.f82), Go.Ab.LoopOk Go.Proofs.Tryd.prog (strings_HasPrefix.G n0) strings_HasPrefix.A (strings_HasPrefix.H n0) 8 0 b := Go.Ab.forall_nil (by kernel_rfl)
theorem strings_HasPrefix.cuts (n0 : Nat) : ∀ b ∈ Go.Ab.cutsOf strings_HasPrefix.A (bodyOf Go.Proofs.Tryd.f82), Go.Ab.CutOk Go.Proofs.Tryd.prog (strings_HasPrefix.G n0) strings_HasPrefix.A (strings_HasPrefix.H n0) 8 0 b := Go.Ab.forall_nil (by kernel_rfl)
theorem strings_HasPrefix.eq (n : Nat) (a0 : ByteArray) (a1 : ByteArray) : Go.Ab.funK Go.Proofs.Tryd.prog (strings_HasPrefix.G n) strings_HasPrefix.A (strings_HasPrefix.H n) false Go.Proofs.Tryd.f82 (bodyOf Go.Proofs.Tryd.f82) [Go.Ab.AV.str a0, Go.Ab.AV.str a1] [] strings_HasPrefix.dec = strings_HasPrefix.f n a0 a1 := by kernel_rfl
theorem strings_HasPrefix.gok (X : Wd) (n : Nat) {R : Type} : Go.Ab.CtrOk (En X) (strings_HasPrefix.G n : Go.Ab.Ctr R) := by
  intro g args objs k r h
  unfold strings_HasPrefix.G at h
  split at h
  · exact internal_stringslite_HasPrefix.ok X _ args objs k r h
  · cases h
theorem strings_HasPrefix.hdec (r : Bool) (v : Go.Ab.AV) (o : List Go.Ab.AObj) (h : strings_HasPrefix.dec v o = some r) : v = Go.Ab.AV.bool (r) ∧ o = [] := by
  unfold strings_HasPrefix.dec at h
  split at h
  · cases h; exact ⟨rfl, rfl⟩
  · cases h
theorem strings_HasPrefix.sim (X : Wd) (n : Nat) (a0 : ByteArray) (a1 : ByteArray) (r : Bool) (h : strings_HasPrefix.f n a0 a1 = some r) : Go.Ab.Sim (En X) 82 [Go.Ab.AV.str a0, Go.Ab.AV.str a1] [] (Go.Ab.AV.bool (r)) [] :=
  Go.Ab.sim_of (E := En X) (strings_HasPrefix.gok X n) mix (fn := Go.Proofs.Tryd.f82) (c := (bodyOf Go.Proofs.Tryd.f82)) (by kernel_rfl) (by kernel_rfl) (by kernel_rfl) (strings_HasPrefix.loops n) (strings_HasPrefix.cuts n) ((strings_HasPrefix.eq n a0 a1).trans h) (strings_HasPrefix.hdec r)
noncomputable def strings_HasPrefix.ctr (n : Nat) {R : Type} : List Go.Ab.AV → List Go.Ab.AObj → (Go.Ab.AV → List Go.Ab.AObj → Option R) → Option R
  | [Go.Ab.AV.str a0, Go.Ab.AV.str a1], [], k => (strings_HasPrefix.f n a0 a1).bind fun r => k (Go.Ab.AV.bool (r)) []
  | _, _, _ => none
noncomputable def strings_HasPrefix.fits : List Go.Ab.AV → List Go.Ab.AObj → Bool
  | [Go.Ab.AV.str a0, Go.Ab.AV.str a1], [] => true
  | _, _ => false
theorem strings_HasPrefix.ok (X : Wd) (n : Nat) {R : Type} (args : List Go.Ab.AV) (objs : List Go.Ab.AObj) (k : Go.Ab.AV → List Go.Ab.AObj → Option R) (r : R) (h : strings_HasPrefix.ctr n args objs k = some r) :
    Go.Ab.Enters Go.Proofs.Tryd.prog 82 ∧ ∃ v objs', Go.Ab.Sim (En X) 82 args objs v objs' ∧ k v objs' = some r := by
  unfold strings_HasPrefix.ctr at h
  split at h
  · obtain ⟨x, h1, h2⟩ := Option.bind_eq_some_iff.1 h
    exact ⟨⟨Go.Proofs.Tryd.f82, by kernel_rfl, by kernel_rfl, by kernel_rfl⟩, _, _, strings_HasPrefix.sim X n _ _ x h1, h2⟩
  · cases h

noncomputable def impl_nextRecord.dec (v : Go.Ab.AV) (o : List Go.Ab.AObj) : Option (ByteArray × ByteArray × ByteArray × Bool) := match v, o with
  | Go.Ab.AV.tup [Go.Ab.AV.agg [Go.Ab.AV.str a2, Go.Ab.AV.str a3], Go.Ab.AV.str a4, Go.Ab.AV.bool a5], [] => some (a2, a3, a4, a5)
  | _, _ => none
noncomputable def impl_nextRecord.A : Go.Ab.Ann := { live := fun _ => [], out := fun _ => [], cut := fun _ => none }
noncomputable def impl_nextRecord.G (n : Nat) {R : Type} : Go.Ab.Ctr R := fun g args objs k => match g with | 80 => strings_Cut.ctr n args objs k | 81 => impl_VerifyChecksum.ctr n args objs k | 22 => impl_EncodeRecord.ctr n args objs k | 82 => strings_HasPrefix.ctr n args objs k | _ => none
noncomputable def impl_nextRecord.B (i : Nat) : Go.Code := (Go.Ab.loopsOf (bodyOf Go.Proofs.Tryd.f66)).getD i Go.Code.skip
noncomputable def impl_nextRecord.H (n : Nat) : Go.Ab.Hnd (ByteArray × ByteArray × ByteArray × Bool) := { loop := fun key _ v o K => none, cut := fun _ _ _ _ _ => none }
theorem impl_nextRecord.loops (n0 : Nat) : ∀ b ∈ Go.Ab.loopsOf (bodyOf Go.Proofs.Tryd.f66), Go.Ab.LoopOk Go.Proofs.Tryd.prog (impl_nextRecord.G n0) impl_nextRecord.A (impl_nextRecord.H n0) 67 0 b := Go.Ab.forall_nil (by kernel_rfl)
theorem impl_nextRecord.cuts (n0 : Nat) : ∀ b ∈ Go.Ab.cutsOf impl_nextRecord.A (bodyOf Go.Proofs.Tryd.f66), Go.Ab.CutOk Go.Proofs.Tryd.prog (impl_nextRecord.G n0) impl_nextRecord.A (impl_nextRecord.H n0) 67 0 b := Go.Ab.forall_nil (by kernel_rfl)
theorem impl_nextRecord.eq (n : Nat) (a0 : ByteArray) (a1 : Int) : Go.Ab.funK Go.Proofs.Tryd.prog (impl_nextRecord.G n) impl_nextRecord.A (impl_nextRecord.H n) false Go.Proofs.Tryd.f66 (bodyOf Go.Proofs.Tryd.f66) [Go.Ab.AV.str a0, Go.Ab.AV.int Go.IntKind.i64 a1] [] impl_nextRecord.dec = impl_nextRecord.f n a0 a1 := by kernel_rfl
theorem impl_nextRecord.gok (X : Wd) (n : Nat) {R : Type} : Go.Ab.CtrOk (En X) (impl_nextRecord.G n : Go.Ab.Ctr R) := by
  intro g args objs k r h
  unfold impl_nextRecord.G at h
  split at h
  · exact strings_Cut.ok X _ args objs k r h
  · exact impl_VerifyChecksum.ok X _ args objs k r h
  · exact impl_EncodeRecord.ok X _ args objs k r h
  · exact strings_HasPrefix.ok X _ args objs k r h
  · cases h
theorem impl_nextRecord.hdec (r : (ByteArray × ByteArray × ByteArray × Bool)) (v : Go.Ab.AV) (o : List Go.Ab.AObj) (h : impl_nextRecord.dec v o = some r) : v = Go.Ab.AV.tup [Go.Ab.AV.agg [Go.Ab.AV.str (r.1), Go.Ab.AV.str (r.2.1)], Go.Ab.AV.str (r.2.2.1), Go.Ab.AV.bool (r.2.2.2)] ∧ o = [] := by
  unfold impl_nextRecord.dec at h
  split at h
  · cases h; exact ⟨rfl, rfl⟩
  · cases h
theorem impl_nextRecord.sim (X : Wd) (n : Nat) (a0 : ByteArray) (a1 : Int) (r : (ByteArray × ByteArray × ByteArray × Bool)) (h : impl_nextRecord.f n a0 a1 = some r) : Go.Ab.Sim (En X) 66 [Go.Ab.AV.str a0, Go.Ab.AV.int Go.IntKind.i64 a1] [] (Go.Ab.AV.tup [Go.Ab.AV.agg [Go.Ab.AV.str (r.1), Go.Ab.AV.str (r.2.1)], Go.Ab.AV.str (r.2.2.1), Go.Ab.AV.bool (r.2.2.2)]) [] :=
  Go.Ab.sim_of (E := En X) (impl_nextRecord.gok X n) mix (fn := Go.Proofs.Tryd.f66) (c := (bodyOf Go.Proofs.Tryd.f66)) (by kernel_rfl) (by kernel_rfl) (by kernel_rfl) (impl_nextRecord.loops n) (impl_nextRecord.cuts n) ((impl_nextRecord.eq n a0 a1).trans h) (impl_nextRecord.hdec r)
noncomputable def impl_nextRecord.ctr (n : Nat) {R : Type} : List Go.Ab.AV → List Go.Ab.AObj → (Go.Ab.AV → List Go.Ab.AObj → Option R) → Option R
  | [Go.Ab.AV.str a0, Go.Ab.AV.int Go.IntKind.i64 a1], [], k => (impl_nextRecord.f n a0 a1).bind fun r => k (Go.Ab.AV.tup [Go.Ab.AV.agg [Go.Ab.AV.str (r.1), Go.Ab.AV.str (r.2.1)], Go.Ab.AV.str (r.2.2.1), Go.Ab.AV.bool (r.2.2.2)]) []
  | _, _, _ => none
noncomputable def impl_nextRecord.fits : List Go.Ab.AV → List Go.Ab.AObj → Bool
  | [Go.Ab.AV.str a0, Go.Ab.AV.int Go.IntKind.i64 a1], [] => true
  | _, _ => false
theorem impl_nextRecord.ok (X : Wd) (n : Nat) {R : Type} (args : List Go.Ab.AV) (objs : List Go.Ab.AObj) (k : Go.Ab.AV → List Go.Ab.AObj → Option R) (r : R) (h : impl_nextRecord.ctr n args objs k = some r) :
    Go.Ab.Enters Go.Proofs.Tryd.prog 66 ∧ ∃ v objs', Go.Ab.Sim (En X) 66 args objs v objs' ∧ k v objs' = some r := by
  unfold impl_nextRecord.ctr at h
  split at h
  · obtain ⟨x, h1, h2⟩ := Option.bind_eq_some_iff.1 h
    exact ⟨⟨Go.Proofs.Tryd.f66, by kernel_rfl, by kernel_rfl, by kernel_rfl⟩, _, _, impl_nextRecord.sim X n _ _ x h1, h2⟩
  · cases h

noncomputable def impl_recordsOf.dec (v : Go.Ab.AV) (o : List Go.Ab.AObj) : Option ((List Go.Ab.AV) × Nat × (List Go.Ab.AV) × Nat) := match v, o with
  | Go.Ab.AV.tup [Go.Ab.AV.sval a1 a2 Bool.false, Go.Ab.AV.sval a3 a4 Bool.false], [] => some (a1, a2, a3, a4)
  | _, _ => none
noncomputable def impl_recordsOf.A : Go.Ab.Ann := { live := fun k => match k with | 2 => [0, 4, 5, 6] | _ => [], out := fun k => match k with | 2 => [2, 3] | _ => [], cut := fun _ => none }
noncomputable def impl_recordsOf.G (n : Nat) {R : Type} : Go.Ab.Ctr R := fun g args objs k => match g with | 66 => impl_nextRecord.ctr n args objs k | _ => none
noncomputable def impl_recordsOf.B (i : Nat) : Go.Code := (Go.Ab.loopsOf (bodyOf Go.Proofs.Tryd.f43)).getD i Go.Code.skip
noncomputable def impl_recordsOf.h2 (n : Nat) (v : List Go.Ab.AV) (o : List Go.Ab.AObj) (K : Go.Ab.Kont ((List Go.Ab.AV) × Nat × (List Go.Ab.AV) × Nat)) : Option ((List Go.Ab.AV) × Nat × (List Go.Ab.AV) × Nat) := match v, o with
  | [Go.Ab.AV.str x12, Go.Ab.AV.sref 0 0 x13 2, Go.Ab.AV.sref 1 0 x14 1, Go.Ab.AV.int Go.IntKind.i64 x15], [Go.Ab.AObj.cells Bool.true x16, Go.Ab.AObj.cells Bool.true x17] => impl_recordsOf.l2 n (fun y31 y32 y33 y34 => K (Go.Ab.Ex.ret) [Go.Ab.AV.sref 0 0 y31 2, Go.Ab.AV.sref 1 0 y32 1] [Go.Ab.AObj.cells Bool.true y33, Go.Ab.AObj.cells Bool.true y34]) n x12 x13 x14 x15 x16 x17
  | _, _ => none
noncomputable def impl_recordsOf.H (n : Nat) : Go.Ab.Hnd ((List Go.Ab.AV) × Nat × (List Go.Ab.AV) × Nat) := { loop := fun key _ v o K => match key with | 2 => impl_recordsOf.h2 n v o K | _ => none, cut := fun _ _ _ _ _ => none }
theorem impl_recordsOf.loop2 (n0 : Nat) (K : Go.Ab.Kont ((List Go.Ab.AV) × Nat × (List Go.Ab.AV) × Nat)) : ∀ (n : Nat) (x12 : ByteArray) (x13 : Nat) (x14 : Nat) (x15 : Int) (x16 : List Go.Ab.AV) (x17 : List Go.Ab.AV), Go.Ab.loopK 38 0 (impl_recordsOf.A.live 2) (impl_recordsOf.A.out 2) (fun t o k => Go.Ab.denK Go.Proofs.Tryd.prog (impl_recordsOf.G n0) impl_recordsOf.A (impl_recordsOf.H n0) 38 0 (impl_recordsOf.B 0) t o k) n [Go.Ab.AV.str x12, Go.Ab.AV.sref 0 0 x13 2, Go.Ab.AV.sref 1 0 x14 1, Go.Ab.AV.int Go.IntKind.i64 x15] [Go.Ab.AObj.cells Bool.true x16, Go.Ab.AObj.cells Bool.true x17] K = impl_recordsOf.l2 n0 (fun y31 y32 y33 y34 => K (Go.Ab.Ex.ret) [Go.Ab.AV.sref 0 0 y31 2, Go.Ab.AV.sref 1 0 y32 1] [Go.Ab.AObj.cells Bool.true y33, Go.Ab.AObj.cells Bool.true y34]) n x12 x13 x14 x15 x16 x17
  | 0, _, _, _, _, _, _ => rfl
  | n + 1, x12, x13, x14, x15, x16, x17 => by
    have ih : (fun (x12 : ByteArray) (x13 : Nat) (x14 : Nat) (x15 : Int) (x16 : List Go.Ab.AV) (x17 : List Go.Ab.AV) => Go.Ab.loopK 38 0 (impl_recordsOf.A.live 2) (impl_recordsOf.A.out 2) (fun t o k => Go.Ab.denK Go.Proofs.Tryd.prog (impl_recordsOf.G n0) impl_recordsOf.A (impl_recordsOf.H n0) 38 0 (impl_recordsOf.B 0) t o k) n [Go.Ab.AV.str x12, Go.Ab.AV.sref 0 0 x13 2, Go.Ab.AV.sref 1 0 x14 1, Go.Ab.AV.int Go.IntKind.i64 x15] [Go.Ab.AObj.cells Bool.true x16, Go.Ab.AObj.cells Bool.true x17] K) = impl_recordsOf.l2 n0 (fun y31 y32 y33 y34 => K (Go.Ab.Ex.ret) [Go.Ab.AV.sref 0 0 y31 2, Go.Ab.AV.sref 1 0 y32 1] [Go.Ab.AObj.cells Bool.true y33, Go.Ab.AObj.cells Bool.true y34]) n := by funext x12 x13 x14 x15 x16 x17; exact impl_recordsOf.loop2 n0 K n x12 x13 x14 x15 x16 x17
    have st : Go.Ab.loopK 38 0 (impl_recordsOf.A.live 2) (impl_recordsOf.A.out 2) (fun t o k => Go.Ab.denK Go.Proofs.Tryd.prog (impl_recordsOf.G n0) impl_recordsOf.A (impl_recordsOf.H n0) 38 0 (impl_recordsOf.B 0) t o k) (n + 1) [Go.Ab.AV.str x12, Go.Ab.AV.sref 0 0 x13 2, Go.Ab.AV.sref 1 0 x14 1, Go.Ab.AV.int Go.IntKind.i64 x15] [Go.Ab.AObj.cells Bool.true x16, Go.Ab.AObj.cells Bool.true x17] K = impl_recordsOf.l2S n0 (fun (x12 : ByteArray) (x13 : Nat) (x14 : Nat) (x15 : Int) (x16 : List Go.Ab.AV) (x17 : List Go.Ab.AV) => Go.Ab.loopK 38 0 (impl_recordsOf.A.live 2) (impl_recordsOf.A.out 2) (fun t o k => Go.Ab.denK Go.Proofs.Tryd.prog (impl_recordsOf.G n0) impl_recordsOf.A (impl_recordsOf.H n0) 38 0 (impl_recordsOf.B 0) t o k) n [Go.Ab.AV.str x12, Go.Ab.AV.sref 0 0 x13 2, Go.Ab.AV.sref 1 0 x14 1, Go.Ab.AV.int Go.IntKind.i64 x15] [Go.Ab.AObj.cells Bool.true x16, Go.Ab.AObj.cells Bool.true x17] K) (fun y31 y32 y33 y34 => K (Go.Ab.Ex.ret) [Go.Ab.AV.sref 0 0 y31 2, Go.Ab.AV.sref 1 0 y32 1] [Go.Ab.AObj.cells Bool.true y33, Go.Ab.AObj.cells Bool.true y34]) x12 x13 x14 x15 x16 x17 := by kernel_rfl
    rw [st, ih]; rfl
theorem impl_recordsOf.lok2 (n0 : Nat) : Go.Ab.LoopOk Go.Proofs.Tryd.prog (impl_recordsOf.G n0) impl_recordsOf.A (impl_recordsOf.H n0) 38 0 (impl_recordsOf.B 0) := by
  intro v o K r h
  have hk : Go.Ab.key (impl_recordsOf.B 0) = 2 := by kernel_rfl
  rw [hk] at h ⊢
  change impl_recordsOf.h2 n0 v o K = some r at h
  unfold impl_recordsOf.h2 at h
  split at h
  · exact ⟨n0, by rw [impl_recordsOf.loop2]; exact h⟩
  · cases h
theorem impl_recordsOf.loops (n0 : Nat) : ∀ b ∈ Go.Ab.loopsOf (bodyOf Go.Proofs.Tryd.f43), Go.Ab.LoopOk Go.Proofs.Tryd.prog (impl_recordsOf.G n0) impl_recordsOf.A (impl_recordsOf.H n0) 38 0 b :=
  Go.Ab.forall_getD 1 (by kernel_rfl) Go.Code.skip fun i hi => match i, hi with
    | 0, _ => impl_recordsOf.lok2 n0
    | j + 1, hj => absurd hj (by omega)
theorem impl_recordsOf.cuts (n0 : Nat) : ∀ b ∈ Go.Ab.cutsOf impl_recordsOf.A (bodyOf Go.Proofs.Tryd.f43), Go.Ab.CutOk Go.Proofs.Tryd.prog (impl_recordsOf.G n0) impl_recordsOf.A (impl_recordsOf.H n0) 38 0 b := Go.Ab.forall_nil (by kernel_rfl)
theorem impl_recordsOf.eq (n : Nat) (a0 : ByteArray) : Go.Ab.funK Go.Proofs.Tryd.prog (impl_recordsOf.G n) impl_recordsOf.A (impl_recordsOf.H n) false Go.Proofs.Tryd.f43 (bodyOf Go.Proofs.Tryd.f43) [Go.Ab.AV.str a0] [] impl_recordsOf.dec = impl_recordsOf.f n a0 := by kernel_rfl
theorem impl_recordsOf.gok (X : Wd) (n : Nat) {R : Type} : Go.Ab.CtrOk (En X) (impl_recordsOf.G n : Go.Ab.Ctr R) := by
  intro g args objs k r h
  unfold impl_recordsOf.G at h
  split at h
  · exact impl_nextRecord.ok X _ args objs k r h
  · cases h
theorem impl_recordsOf.hdec (r : ((List Go.Ab.AV) × Nat × (List Go.Ab.AV) × Nat)) (v : Go.Ab.AV) (o : List Go.Ab.AObj) (h : impl_recordsOf.dec v o = some r) : v = Go.Ab.AV.tup [Go.Ab.AV.sval (r.1) (r.2.1) Bool.false, Go.Ab.AV.sval (r.2.2.1) (r.2.2.2) Bool.false] ∧ o = [] := by
  unfold impl_recordsOf.dec at h
  split at h
  · cases h; exact ⟨rfl, rfl⟩
  · cases h
theorem impl_recordsOf.sim (X : Wd) (n : Nat) (a0 : ByteArray) (r : ((List Go.Ab.AV) × Nat × (List Go.Ab.AV) × Nat)) (h : impl_recordsOf.f n a0 = some r) : Go.Ab.Sim (En X) 43 [Go.Ab.AV.str a0] [] (Go.Ab.AV.tup [Go.Ab.AV.sval (r.1) (r.2.1) Bool.false, Go.Ab.AV.sval (r.2.2.1) (r.2.2.2) Bool.false]) [] :=
  Go.Ab.sim_of (E := En X) (impl_recordsOf.gok X n) mix (fn := Go.Proofs.Tryd.f43) (c := (bodyOf Go.Proofs.Tryd.f43)) (by kernel_rfl) (by kernel_rfl) (by kernel_rfl) (impl_recordsOf.loops n) (impl_recordsOf.cuts n) ((impl_recordsOf.eq n a0).trans h) (impl_recordsOf.hdec r)
noncomputable def impl_recordsOf.ctr (n : Nat) {R : Type} : List Go.Ab.AV → List Go.Ab.AObj → (Go.Ab.AV → List Go.Ab.AObj → Option R) → Option R
  | [Go.Ab.AV.str a0], [], k => (impl_recordsOf.f n a0).bind fun r => k (Go.Ab.AV.tup [Go.Ab.AV.sval (r.1) (r.2.1) Bool.false, Go.Ab.AV.sval (r.2.2.1) (r.2.2.2) Bool.false]) []
  | _, _, _ => none
noncomputable def impl_recordsOf.fits : List Go.Ab.AV → List Go.Ab.AObj → Bool
  | [Go.Ab.AV.str a0], [] => true
  | _, _ => false
theorem impl_recordsOf.ok (X : Wd) (n : Nat) {R : Type} (args : List Go.Ab.AV) (objs : List Go.Ab.AObj) (k : Go.Ab.AV → List Go.Ab.AObj → Option R) (r : R) (h : impl_recordsOf.ctr n args objs k = some r) :
    Go.Ab.Enters Go.Proofs.Tryd.prog 43 ∧ ∃ v objs', Go.Ab.Sim (En X) 43 args objs v objs' ∧ k v objs' = some r := by
  unfold impl_recordsOf.ctr at h
  split at h
  · obtain ⟨x, h1, h2⟩ := Option.bind_eq_some_iff.1 h
    exact ⟨⟨Go.Proofs.Tryd.f43, by kernel_rfl, by kernel_rfl, by kernel_rfl⟩, _, _, impl_recordsOf.sim X n _ x h1, h2⟩
  · cases h

noncomputable def slices_Index_int_int.dec (v : Go.Ab.AV) (o : List Go.Ab.AObj) : Option Int := match v, o with
  | Go.Ab.AV.int Go.IntKind.i64 a3, [] => some (a3)
  | _, _ => none
noncomputable def slices_Index_int_int.A : Go.Ab.Ann := { live := fun k => match k with | 2 => [0, 1, 7, 8] | _ => [], out := fun k => match k with | 2 => [4] | _ => [], cut := fun _ => none }
noncomputable def slices_Index_int_int.G (n : Nat) {R : Type} : Go.Ab.Ctr R := fun g args objs k => none
noncomputable def slices_Index_int_int.B (i : Nat) : Go.Code := (Go.Ab.loopsOf (bodyOf Go.Proofs.Tryd.f79)).getD i Go.Code.skip
noncomputable def slices_Index_int_int.h2 (n : Nat) (v : List Go.Ab.AV) (o : List Go.Ab.AObj) (K : Go.Ab.Kont Int) : Option Int := match v, o with
  | [Go.Ab.AV.sval x13 x14 Bool.false, Go.Ab.AV.int Go.IntKind.i64 x15, Go.Ab.AV.int Go.IntKind.i64 x16, Go.Ab.AV.int Go.IntKind.i64 x17], [] => slices_Index_int_int.l2 n (fun y30 => K (Go.Ab.Ex.ret) [Go.Ab.AV.int Go.IntKind.i64 y30] []) (K (Go.Ab.Ex.exit 0) [Go.Ab.AV.undef] []) n x13 x14 x15 x16 x17
  | _, _ => none
noncomputable def slices_Index_int_int.H (n : Nat) : Go.Ab.Hnd Int := { loop := fun key _ v o K => match key with | 2 => slices_Index_int_int.h2 n v o K | _ => none, cut := fun _ _ _ _ _ => none }
theorem slices_Index_int_int.loop2 (n0 : Nat) (K : Go.Ab.Kont Int) : ∀ (n : Nat) (x13 : List Go.Ab.AV) (x14 : Nat) (x15 : Int) (x16 : Int) (x17 : Int), Go.Ab.loopK 19 0 (slices_Index_int_int.A.live 2) (slices_Index_int_int.A.out 2) (fun t o k => Go.Ab.denK Go.Proofs.Tryd.prog (slices_Index_int_int.G n0) slices_Index_int_int.A (slices_Index_int_int.H n0) 19 0 (slices_Index_int_int.B 0) t o k) n [Go.Ab.AV.sval x13 x14 Bool.false, Go.Ab.AV.int Go.IntKind.i64 x15, Go.Ab.AV.int Go.IntKind.i64 x16, Go.Ab.AV.int Go.IntKind.i64 x17] [] K = slices_Index_int_int.l2 n0 (fun y30 => K (Go.Ab.Ex.ret) [Go.Ab.AV.int Go.IntKind.i64 y30] []) (K (Go.Ab.Ex.exit 0) [Go.Ab.AV.undef] []) n x13 x14 x15 x16 x17
  | 0, _, _, _, _, _ => rfl
  | n + 1, x13, x14, x15, x16, x17 => by
    have ih : (fun (x13 : List Go.Ab.AV) (x14 : Nat) (x15 : Int) (x16 : Int) (x17 : Int) => Go.Ab.loopK 19 0 (slices_Index_int_int.A.live 2) (slices_Index_int_int.A.out 2) (fun t o k => Go.Ab.denK Go.Proofs.Tryd.prog (slices_Index_int_int.G n0) slices_Index_int_int.A (slices_Index_int_int.H n0) 19 0 (slices_Index_int_int.B 0) t o k) n [Go.Ab.AV.sval x13 x14 Bool.false, Go.Ab.AV.int Go.IntKind.i64 x15, Go.Ab.AV.int Go.IntKind.i64 x16, Go.Ab.AV.int Go.IntKind.i64 x17] [] K) = slices_Index_int_int.l2 n0 (fun y30 => K (Go.Ab.Ex.ret) [Go.Ab.AV.int Go.IntKind.i64 y30] []) (K (Go.Ab.Ex.exit 0) [Go.Ab.AV.undef] []) n := by funext x13 x14 x15 x16 x17; exact slices_Index_int_int.loop2 n0 K n x13 x14 x15 x16 x17
    have st : Go.Ab.loopK 19 0 (slices_Index_int_int.A.live 2) (slices_Index_int_int.A.out 2) (fun t o k => Go.Ab.denK Go.Proofs.Tryd.prog (slices_Index_int_int.G n0) slices_Index_int_int.A (slices_Index_int_int.H n0) 19 0 (slices_Index_int_int.B 0) t o k) (n + 1) [Go.Ab.AV.sval x13 x14 Bool.false, Go.Ab.AV.int Go.IntKind.i64 x15, Go.Ab.AV.int Go.IntKind.i64 x16, Go.Ab.AV.int Go.IntKind.i64 x17] [] K = slices_Index_int_int.l2S n0 (fun (x13 : List Go.Ab.AV) (x14 : Nat) (x15 : Int) (x16 : Int) (x17 : Int) => Go.Ab.loopK 19 0 (slices_Index_int_int.A.live 2) (slices_Index_int_int.A.out 2) (fun t o k => Go.Ab.denK Go.Proofs.Tryd.prog (slices_Index_int_int.G n0) slices_Index_int_int.A (slices_Index_int_int.H n0) 19 0 (slices_Index_int_int.B 0) t o k) n [Go.Ab.AV.sval x13 x14 Bool.false, Go.Ab.AV.int Go.IntKind.i64 x15, Go.Ab.AV.int Go.IntKind.i64 x16, Go.Ab.AV.int Go.IntKind.i64 x17] [] K) (fun y30 => K (Go.Ab.Ex.ret) [Go.Ab.AV.int Go.IntKind.i64 y30] []) (K (Go.Ab.Ex.exit 0) [Go.Ab.AV.undef] []) x13 x14 x15 x16 x17 := by kernel_rfl
    rw [st, ih]; rfl
theorem slices_Index_int_int.lok2 (n0 : Nat) : Go.Ab.LoopOk Go.Proofs.Tryd.prog (slices_Index_int_int.G n0) slices_Index_int_int.A (slices_Index_int_int.H n0) 19 0 (slices_Index_int_int.B 0) := by
  intro v o K r h
  have hk : Go.Ab.key (slices_Index_int_int.B 0) = 2 := by kernel_rfl
  rw [hk] at h ⊢
  change slices_Index_int_int.h2 n0 v o K = some r at h
  unfold slices_Index_int_int.h2 at h
  split at h
  · exact ⟨n0, by rw [slices_Index_int_int.loop2]; exact h⟩
  · cases h
theorem slices_Index_int_int.loops (n0 : Nat) : ∀ b ∈ Go.Ab.loopsOf (bodyOf Go.Proofs.Tryd.f79), Go.Ab.LoopOk Go.Proofs.Tryd.prog (slices_Index_int_int.G n0) slices_Index_int_int.A (slices_Index_int_int.H n0) 19 0 b :=
  Go.Ab.forall_getD 1 (by kernel_rfl) Go.Code.skip fun i hi => match i, hi with
    | 0, _ => slices_Index_int_int.lok2 n0
    | j + 1, hj => absurd hj (by omega)
theorem slices_Index_int_int.cuts (n0 : Nat) : ∀ b ∈ Go.Ab.cutsOf slices_Index_int_int.A (bodyOf Go.Proofs.Tryd.f79), Go.Ab.CutOk Go.Proofs.Tryd.prog (slices_Index_int_int.G n0) slices_Index_int_int.A (slices_Index_int_int.H n0) 19 0 b := Go.Ab.forall_nil (by kernel_rfl)
theorem slices_Index_int_int.eq (n : Nat) (a0 : List Go.Ab.AV) (a1 : Nat) (a2 : Int) : Go.Ab.funK Go.Proofs.Tryd.prog (slices_Index_int_int.G n) slices_Index_int_int.A (slices_Index_int_int.H n) false Go.Proofs.Tryd.f79 (bodyOf Go.Proofs.Tryd.f79) [Go.Ab.AV.sval a0 a1 Bool.false, Go.Ab.AV.int Go.IntKind.i64 a2] [] slices_Index_int_int.dec = slices_Index_int_int.f n a0 a1 a2 := by kernel_rfl
theorem slices_Index_int_int.gok (X : Wd) (n : Nat) {R : Type} : Go.Ab.CtrOk (En X) (slices_Index_int_int.G n : Go.Ab.Ctr R) := by
  intro g args objs k r h
  cases h
theorem slices_Index_int_int.hdec (r : Int) (v : Go.Ab.AV) (o : List Go.Ab.AObj) (h : slices_Index_int_int.dec v o = some r) : v = Go.Ab.AV.int Go.IntKind.i64 (r) ∧ o = [] := by
  unfold slices_Index_int_int.dec at h
  split at h
  · cases h; exact ⟨rfl, rfl⟩
  · cases h
theorem slices_Index_int_int.sim (X : Wd) (n : Nat) (a0 : List Go.Ab.AV) (a1 : Nat) (a2 : Int) (r : Int) (h : slices_Index_int_int.f n a0 a1 a2 = some r) : Go.Ab.Sim (En X) 79 [Go.Ab.AV.sval a0 a1 Bool.false, Go.Ab.AV.int Go.IntKind.i64 a2] [] (Go.Ab.AV.int Go.IntKind.i64 (r)) [] :=
  Go.Ab.sim_of (E := En X) (slices_Index_int_int.gok X n) mix (fn := Go.Proofs.Tryd.f79) (c := (bodyOf Go.Proofs.Tryd.f79)) (by kernel_rfl) (by kernel_rfl) (by kernel_rfl) (slices_Index_int_int.loops n) (slices_Index_int_int.cuts n) ((slices_Index_int_int.eq n a0 a1 a2).trans h) (slices_Index_int_int.hdec r)
noncomputable def slices_Index_int_int.ctr (n : Nat) {R : Type} : List Go.Ab.AV → List Go.Ab.AObj → (Go.Ab.AV → List Go.Ab.AObj → Option R) → Option R
  | [Go.Ab.AV.sval a0 a1 Bool.false, Go.Ab.AV.int Go.IntKind.i64 a2], [], k => (slices_Index_int_int.f n a0 a1 a2).bind fun r => k (Go.Ab.AV.int Go.IntKind.i64 (r)) []
  | _, _, _ => none
noncomputable def slices_Index_int_int.fits : List Go.Ab.AV → List Go.Ab.AObj → Bool
  | [Go.Ab.AV.sval a0 a1 Bool.false, Go.Ab.AV.int Go.IntKind.i64 a2], [] => true
  | _, _ => false
theorem slices_Index_int_int.ok (X : Wd) (n : Nat) {R : Type} (args : List Go.Ab.AV) (objs : List Go.Ab.AObj) (k : Go.Ab.AV → List Go.Ab.AObj → Option R) (r : R) (h : slices_Index_int_int.ctr n args objs k = some r) :
    Go.Ab.Enters Go.Proofs.Tryd.prog 79 ∧ ∃ v objs', Go.Ab.Sim (En X) 79 args objs v objs' ∧ k v objs' = some r := by
  unfold slices_Index_int_int.ctr at h
  split at h
  · obtain ⟨x, h1, h2⟩ := Option.bind_eq_some_iff.1 h
    exact ⟨⟨Go.Proofs.Tryd.f79, by kernel_rfl, by kernel_rfl, by kernel_rfl⟩, _, _, slices_Index_int_int.sim X n _ _ _ x h1, h2⟩
  · cases h

noncomputable def slices_Contains_int_int.dec (v : Go.Ab.AV) (o : List Go.Ab.AObj) : Option Bool := match v, o with
  | Go.Ab.AV.bool a3, [] => some (a3)
  | _, _ => none
noncomputable def slices_Contains_int_int.A : Go.Ab.Ann := { live := fun _ => [], out := fun _ => [], cut := fun _ => none }
noncomputable def slices_Contains_int_int.G (n : Nat) {R : Type} : Go.Ab.Ctr R := fun g args objs k => match g with | 79 => slices_Index_int_int.ctr n args objs k | _ => none
noncomputable def slices_Contains_int_int.B (i : Nat) : Go.Code := (Go.Ab.loopsOf (bodyOf Go.Proofs.Tryd.f61)).getD i Go.Code.skip
noncomputable def slices_Contains_int_int.H (n : Nat) : Go.Ab.Hnd Bool := { loop := fun key _ v o K => none, cut := fun _ _ _ _ _ => none }
theorem slices_Contains_int_int.loops (n0 : Nat) : ∀ b ∈ Go.Ab.loopsOf (bodyOf Go.Proofs.Tryd.f61), Go.Ab.LoopOk Go.Proofs.Tryd.prog (slices_Contains_int_int.G n0) slices_Contains_int_int.A (slices_Contains_int_int.H n0) 9 0 b := Go.Ab.forall_nil (by kernel_rfl)
theorem slices_Contains_int_int.cuts (n0 : Nat) : ∀ b ∈ Go.Ab.cutsOf slices_Contains_int_int.A (bodyOf Go.Proofs.Tryd.f61), Go.Ab.CutOk Go.Proofs.Tryd.prog (slices_Contains_int_int.G n0) slices_Contains_int_int.A (slices_Contains_int_int.H n0) 9 0 b := Go.Ab.forall_nil (by kernel_rfl)
theorem slices_Contains_int_int.eq (n : Nat) (a0 : List Go.Ab.AV) (a1 : Nat) (a2 : Int) : Go.Ab.funK Go.Proofs.Tryd.prog (slices_Contains_int_int.G n) slices_Contains_int_int.A (slices_Contains_int_int.H n) false Go.Proofs.Tryd.f61 (bodyOf Go.Proofs.Tryd.f61) [Go.Ab.AV.sval a0 a1 Bool.false, Go.Ab.AV.int Go.IntKind.i64 a2] [] slices_Contains_int_int.dec = slices_Contains_int_int.f n a0 a1 a2 := by kernel_rfl
theorem slices_Contains_int_int.gok (X : Wd) (n : Nat) {R : Type} : Go.Ab.CtrOk (En X) (slices_Contains_int_int.G n : Go.Ab.Ctr R) := by
  intro g args objs k r h
  unfold slices_Contains_int_int.G at h
  split at h
  · exact slices_Index_int_int.ok X _ args objs k r h
  · cases h
theorem slices_Contains_int_int.hdec (r : Bool) (v : Go.Ab.AV) (o : List Go.Ab.AObj) (h : slices_Contains_int_int.dec v o = some r) : v = Go.Ab.AV.bool (r) ∧ o = [] := by
  unfold slices_Contains_int_int.dec at h
  split at h
  · cases h; exact ⟨rfl, rfl⟩
  · cases h
theorem slices_Contains_int_int.sim (X : Wd) (n : Nat) (a0 : List Go.Ab.AV) (a1 : Nat) (a2 : Int) (r : Bool) (h : slices_Contains_int_int.f n a0 a1 a2 = some r) : Go.Ab.Sim (En X) 61 [Go.Ab.AV.sval a0 a1 Bool.false, Go.Ab.AV.int Go.IntKind.i64 a2] [] (Go.Ab.AV.bool (r)) [] :=
  Go.Ab.sim_of (E := En X) (slices_Contains_int_int.gok X n) mix (fn := Go.Proofs.Tryd.f61) (c := (bodyOf Go.Proofs.Tryd.f61)) (by kernel_rfl) (by kernel_rfl) (by kernel_rfl) (slices_Contains_int_int.loops n) (slices_Contains_int_int.cuts n) ((slices_Contains_int_int.eq n a0 a1 a2).trans h) (slices_Contains_int_int.hdec r)
noncomputable def slices_Contains_int_int.ctr (n : Nat) {R : Type} : List Go.Ab.AV → List Go.Ab.AObj → (Go.Ab.AV → List Go.Ab.AObj → Option R) → Option R
  | [Go.Ab.AV.sval a0 a1 Bool.false, Go.Ab.AV.int Go.IntKind.i64 a2], [], k => (slices_Contains_int_int.f n a0 a1 a2).bind fun r => k (Go.Ab.AV.bool (r)) []
  | _, _, _ => none
noncomputable def slices_Contains_int_int.fits : List Go.Ab.AV → List Go.Ab.AObj → Bool
  | [Go.Ab.AV.sval a0 a1 Bool.false, Go.Ab.AV.int Go.IntKind.i64 a2], [] => true
  | _, _ => false
theorem slices_Contains_int_int.ok (X : Wd) (n : Nat) {R : Type} (args : List Go.Ab.AV) (objs : List Go.Ab.AObj) (k : Go.Ab.AV → List Go.Ab.AObj → Option R) (r : R) (h : slices_Contains_int_int.ctr n args objs k = some r) :
    Go.Ab.Enters Go.Proofs.Tryd.prog 61 ∧ ∃ v objs', Go.Ab.Sim (En X) 61 args objs v objs' ∧ k v objs' = some r := by
  unfold slices_Contains_int_int.ctr at h
  split at h
  · obtain ⟨x, h1, h2⟩ := Option.bind_eq_some_iff.1 h
    exact ⟨⟨Go.Proofs.Tryd.f61, by kernel_rfl, by kernel_rfl, by kernel_rfl⟩, _, _, slices_Contains_int_int.sim X n _ _ _ x h1, h2⟩
  · cases h

noncomputable def impl_IsValidLog.dec (v : Go.Ab.AV) (o : List Go.Ab.AObj) : Option Bool := match v, o with
  | Go.Ab.AV.bool a3, [] => some (a3)
  | _, _ => none
noncomputable def impl_IsValidLog.A : Go.Ab.Ann := { live := fun _ => [], out := fun _ => [], cut := fun _ => none }
noncomputable def impl_IsValidLog.G (n : Nat) {R : Type} : Go.Ab.Ctr R := fun g args objs k => match g with | 43 => impl_recordsOf.ctr n args objs k | 61 => slices_Contains_int_int.ctr n args objs k | _ => none
noncomputable def impl_IsValidLog.B (i : Nat) : Go.Code := (Go.Ab.loopsOf (bodyOf Go.Proofs.Tryd.f30)).getD i Go.Code.skip
noncomputable def impl_IsValidLog.H (n : Nat) : Go.Ab.Hnd Bool := { loop := fun key _ v o K => none, cut := fun _ _ _ _ _ => none }
theorem impl_IsValidLog.loops (n0 : Nat) : ∀ b ∈ Go.Ab.loopsOf (bodyOf Go.Proofs.Tryd.f30), Go.Ab.LoopOk Go.Proofs.Tryd.prog (impl_IsValidLog.G n0) impl_IsValidLog.A (impl_IsValidLog.H n0) 45 0 b := Go.Ab.forall_nil (by kernel_rfl)
theorem impl_IsValidLog.cuts (n0 : Nat) : ∀ b ∈ Go.Ab.cutsOf impl_IsValidLog.A (bodyOf Go.Proofs.Tryd.f30), Go.Ab.CutOk Go.Proofs.Tryd.prog (impl_IsValidLog.G n0) impl_IsValidLog.A (impl_IsValidLog.H n0) 45 0 b := Go.Ab.forall_nil (by kernel_rfl)
theorem impl_IsValidLog.eq (n : Nat) (a0 : ByteArray) (a1 : ByteArray) (a2 : Int) : Go.Ab.funK Go.Proofs.Tryd.prog (impl_IsValidLog.G n) impl_IsValidLog.A (impl_IsValidLog.H n) false Go.Proofs.Tryd.f30 (bodyOf Go.Proofs.Tryd.f30) [Go.Ab.AV.agg [Go.Ab.AV.str a0, Go.Ab.AV.str a1, Go.Ab.AV.int Go.IntKind.i64 a2]] [] impl_IsValidLog.dec = impl_IsValidLog.f n a0 a1 a2 := by kernel_rfl
theorem impl_IsValidLog.gok (X : Wd) (n : Nat) {R : Type} : Go.Ab.CtrOk (En X) (impl_IsValidLog.G n : Go.Ab.Ctr R) := by
  intro g args objs k r h
  unfold impl_IsValidLog.G at h
  split at h
  · exact impl_recordsOf.ok X _ args objs k r h
  · exact slices_Contains_int_int.ok X _ args objs k r h
  · cases h
theorem impl_IsValidLog.hdec (r : Bool) (v : Go.Ab.AV) (o : List Go.Ab.AObj) (h : impl_IsValidLog.dec v o = some r) : v = Go.Ab.AV.bool (r) ∧ o = [] := by
  unfold impl_IsValidLog.dec at h
  split at h
  · cases h; exact ⟨rfl, rfl⟩
  · cases h
theorem impl_IsValidLog.sim (X : Wd) (n : Nat) (a0 : ByteArray) (a1 : ByteArray) (a2 : Int) (r : Bool) (h : impl_IsValidLog.f n a0 a1 a2 = some r) : Go.Ab.Sim (En X) 30 [Go.Ab.AV.agg [Go.Ab.AV.str a0, Go.Ab.AV.str a1, Go.Ab.AV.int Go.IntKind.i64 a2]] [] (Go.Ab.AV.bool (r)) [] :=
  Go.Ab.sim_of (E := En X) (impl_IsValidLog.gok X n) mix (fn := Go.Proofs.Tryd.f30) (c := (bodyOf Go.Proofs.Tryd.f30)) (by kernel_rfl) (by kernel_rfl) (by kernel_rfl) (impl_IsValidLog.loops n) (impl_IsValidLog.cuts n) ((impl_IsValidLog.eq n a0 a1 a2).trans h) (impl_IsValidLog.hdec r)
noncomputable def impl_IsValidLog.ctr (n : Nat) {R : Type} : List Go.Ab.AV → List Go.Ab.AObj → (Go.Ab.AV → List Go.Ab.AObj → Option R) → Option R
  | [Go.Ab.AV.agg [Go.Ab.AV.str a0, Go.Ab.AV.str a1, Go.Ab.AV.int Go.IntKind.i64 a2]], [], k => (impl_IsValidLog.f n a0 a1 a2).bind fun r => k (Go.Ab.AV.bool (r)) []
  | _, _, _ => none
noncomputable def impl_IsValidLog.fits : List Go.Ab.AV → List Go.Ab.AObj → Bool
  | [Go.Ab.AV.agg [Go.Ab.AV.str a0, Go.Ab.AV.str a1, Go.Ab.AV.int Go.IntKind.i64 a2]], [] => true
  | _, _ => false
theorem impl_IsValidLog.ok (X : Wd) (n : Nat) {R : Type} (args : List Go.Ab.AV) (objs : List Go.Ab.AObj) (k : Go.Ab.AV → List Go.Ab.AObj → Option R) (r : R) (h : impl_IsValidLog.ctr n args objs k = some r) :
    Go.Ab.Enters Go.Proofs.Tryd.prog 30 ∧ ∃ v objs', Go.Ab.Sim (En X) 30 args objs v objs' ∧ k v objs' = some r := by
  unfold impl_IsValidLog.ctr at h
  split at h
  · obtain ⟨x, h1, h2⟩ := Option.bind_eq_some_iff.1 h
    exact ⟨⟨Go.Proofs.Tryd.f30, by kernel_rfl, by kernel_rfl, by kernel_rfl⟩, _, _, impl_IsValidLog.sim X n _ _ _ x h1, h2⟩
  · cases h

noncomputable def impl_IsValidConsole.dec (v : Go.Ab.AV) (o : List Go.Ab.AObj) : Option Bool := match v, o with
  | Go.Ab.AV.bool a17, [] => some (a17)
  | _, _ => none
noncomputable def impl_IsValidConsole.A : Go.Ab.Ann := { live := fun _ => [], out := fun _ => [], cut := fun _ => none }
noncomputable def impl_IsValidConsole.G (n : Nat) {R : Type} : Go.Ab.Ctr R := fun g args objs k => match g with | 48 => impl_IsShop.ctr n args objs k | 30 => impl_IsValidLog.ctr n args objs k | _ => none
noncomputable def impl_IsValidConsole.B (i : Nat) : Go.Code := (Go.Ab.loopsOf (bodyOf Go.Proofs.Tryd.f17)).getD i Go.Code.skip
noncomputable def impl_IsValidConsole.H (n : Nat) : Go.Ab.Hnd Bool := { loop := fun key _ v o K => none, cut := fun _ _ _ _ _ => none }
theorem impl_IsValidConsole.loops (n0 : Nat) : ∀ b ∈ Go.Ab.loopsOf (bodyOf Go.Proofs.Tryd.f17), Go.Ab.LoopOk Go.Proofs.Tryd.prog (impl_IsValidConsole.G n0) impl_IsValidConsole.A (impl_IsValidConsole.H n0) 11 0 b := Go.Ab.forall_nil (by kernel_rfl)
theorem impl_IsValidConsole.cuts (n0 : Nat) : ∀ b ∈ Go.Ab.cutsOf impl_IsValidConsole.A (bodyOf Go.Proofs.Tryd.f17), Go.Ab.CutOk Go.Proofs.Tryd.prog (impl_IsValidConsole.G n0) impl_IsValidConsole.A (impl_IsValidConsole.H n0) 11 0 b := Go.Ab.forall_nil (by kernel_rfl)
theorem impl_IsValidConsole.eq (n : Nat) (a0 : Int) (a1 : Int) (a2 : Int) (a3 : Int) (a4 : Int) (a5 : Int) (a6 : Int) (a7 : Int) (a8 : Int) (a9 : Int) (a10 : Int) (a11 : Int) (a12 : Int) (a13 : Int) (a14 : ByteArray) (a15 : ByteArray) (a16 : Int) : Go.Ab.funK Go.Proofs.Tryd.prog (impl_IsValidConsole.G n) impl_IsValidConsole.A (impl_IsValidConsole.H n) false Go.Proofs.Tryd.f17 (bodyOf Go.Proofs.Tryd.f17) [Go.Ab.AV.agg [Go.Ab.AV.int Go.IntKind.i64 a0, Go.Ab.AV.int Go.IntKind.i64 a1, Go.Ab.AV.int Go.IntKind.i64 a2, Go.Ab.AV.int Go.IntKind.i64 a3, Go.Ab.AV.int Go.IntKind.i64 a4, Go.Ab.AV.int Go.IntKind.i64 a5, Go.Ab.AV.int Go.IntKind.i64 a6, Go.Ab.AV.int Go.IntKind.i64 a7, Go.Ab.AV.int Go.IntKind.i64 a8, Go.Ab.AV.int Go.IntKind.i64 a9, Go.Ab.AV.int Go.IntKind.i64 a10, Go.Ab.AV.int Go.IntKind.i64 a11, Go.Ab.AV.int Go.IntKind.i64 a12, Go.Ab.AV.int Go.IntKind.i64 a13, Go.Ab.AV.str a14, Go.Ab.AV.str a15, Go.Ab.AV.int Go.IntKind.i64 a16]] [] impl_IsValidConsole.dec = impl_IsValidConsole.f n a0 a1 a2 a3 a4 a5 a6 a7 a8 a9 a10 a11 a12 a13 a14 a15 a16 := by kernel_rfl
theorem impl_IsValidConsole.gok (X : Wd) (n : Nat) {R : Type} : Go.Ab.CtrOk (En X) (impl_IsValidConsole.G n : Go.Ab.Ctr R) := by
  intro g args objs k r h
  unfold impl_IsValidConsole.G at h
  split at h
  · exact impl_IsShop.ok X _ args objs k r h
  · exact impl_IsValidLog.ok X _ args objs k r h
  · cases h
theorem impl_IsValidConsole.hdec (r : Bool) (v : Go.Ab.AV) (o : List Go.Ab.AObj) (h : impl_IsValidConsole.dec v o = some r) : v = Go.Ab.AV.bool (r) ∧ o = [] := by
  unfold impl_IsValidConsole.dec at h
  split at h
  · cases h; exact ⟨rfl, rfl⟩
  · cases h
theorem impl_IsValidConsole.sim (X : Wd) (n : Nat) (a0 : Int) (a1 : Int) (a2 : Int) (a3 : Int) (a4 : Int) (a5 : Int) (a6 : Int) (a7 : Int) (a8 : Int) (a9 : Int) (a10 : Int) (a11 : Int) (a12 : Int) (a13 : Int) (a14 : ByteArray) (a15 : ByteArray) (a16 : Int) (r : Bool) (h : impl_IsValidConsole.f n a0 a1 a2 a3 a4 a5 a6 a7 a8 a9 a10 a11 a12 a13 a14 a15 a16 = some r) : Go.Ab.Sim (En X) 17 [Go.Ab.AV.agg [Go.Ab.AV.int Go.IntKind.i64 a0, Go.Ab.AV.int Go.IntKind.i64 a1, Go.Ab.AV.int Go.IntKind.i64 a2, Go.Ab.AV.int Go.IntKind.i64 a3, Go.Ab.AV.int Go.IntKind.i64 a4, Go.Ab.AV.int Go.IntKind.i64 a5, Go.Ab.AV.int Go.IntKind.i64 a6, Go.Ab.AV.int Go.IntKind.i64 a7, Go.Ab.AV.int Go.IntKind.i64 a8, Go.Ab.AV.int Go.IntKind.i64 a9, Go.Ab.AV.int Go.IntKind.i64 a10, Go.Ab.AV.int Go.IntKind.i64 a11, Go.Ab.AV.int Go.IntKind.i64 a12, Go.Ab.AV.int Go.IntKind.i64 a13, Go.Ab.AV.str a14, Go.Ab.AV.str a15, Go.Ab.AV.int Go.IntKind.i64 a16]] [] (Go.Ab.AV.bool (r)) [] :=
  Go.Ab.sim_of (E := En X) (impl_IsValidConsole.gok X n) mix (fn := Go.Proofs.Tryd.f17) (c := (bodyOf Go.Proofs.Tryd.f17)) (by kernel_rfl) (by kernel_rfl) (by kernel_rfl) (impl_IsValidConsole.loops n) (impl_IsValidConsole.cuts n) ((impl_IsValidConsole.eq n a0 a1 a2 a3 a4 a5 a6 a7 a8 a9 a10 a11 a12 a13 a14 a15 a16).trans h) (impl_IsValidConsole.hdec r)
noncomputable def impl_IsValidConsole.ctr (n : Nat) {R : Type} : List Go.Ab.AV → List Go.Ab.AObj → (Go.Ab.AV → List Go.Ab.AObj → Option R) → Option R
  | [Go.Ab.AV.agg [Go.Ab.AV.int Go.IntKind.i64 a0, Go.Ab.AV.int Go.IntKind.i64 a1, Go.Ab.AV.int Go.IntKind.i64 a2, Go.Ab.AV.int Go.IntKind.i64 a3, Go.Ab.AV.int Go.IntKind.i64 a4, Go.Ab.AV.int Go.IntKind.i64 a5, Go.Ab.AV.int Go.IntKind.i64 a6, Go.Ab.AV.int Go.IntKind.i64 a7, Go.Ab.AV.int Go.IntKind.i64 a8, Go.Ab.AV.int Go.IntKind.i64 a9, Go.Ab.AV.int Go.IntKind.i64 a10, Go.Ab.AV.int Go.IntKind.i64 a11, Go.Ab.AV.int Go.IntKind.i64 a12, Go.Ab.AV.int Go.IntKind.i64 a13, Go.Ab.AV.str a14, Go.Ab.AV.str a15, Go.Ab.AV.int Go.IntKind.i64 a16]], [], k => (impl_IsValidConsole.f n a0 a1 a2 a3 a4 a5 a6 a7 a8 a9 a10 a11 a12 a13 a14 a15 a16).bind fun r => k (Go.Ab.AV.bool (r)) []
  | _, _, _ => none
noncomputable def impl_IsValidConsole.fits : List Go.Ab.AV → List Go.Ab.AObj → Bool
  | [Go.Ab.AV.agg [Go.Ab.AV.int Go.IntKind.i64 a0, Go.Ab.AV.int Go.IntKind.i64 a1, Go.Ab.AV.int Go.IntKind.i64 a2, Go.Ab.AV.int Go.IntKind.i64 a3, Go.Ab.AV.int Go.IntKind.i64 a4, Go.Ab.AV.int Go.IntKind.i64 a5, Go.Ab.AV.int Go.IntKind.i64 a6, Go.Ab.AV.int Go.IntKind.i64 a7, Go.Ab.AV.int Go.IntKind.i64 a8, Go.Ab.AV.int Go.IntKind.i64 a9, Go.Ab.AV.int Go.IntKind.i64 a10, Go.Ab.AV.int Go.IntKind.i64 a11, Go.Ab.AV.int Go.IntKind.i64 a12, Go.Ab.AV.int Go.IntKind.i64 a13, Go.Ab.AV.str a14, Go.Ab.AV.str a15, Go.Ab.AV.int Go.IntKind.i64 a16]], [] => true
  | _, _ => false
theorem impl_IsValidConsole.ok (X : Wd) (n : Nat) {R : Type} (args : List Go.Ab.AV) (objs : List Go.Ab.AObj) (k : Go.Ab.AV → List Go.Ab.AObj → Option R) (r : R) (h : impl_IsValidConsole.ctr n args objs k = some r) :
    Go.Ab.Enters Go.Proofs.Tryd.prog 17 ∧ ∃ v objs', Go.Ab.Sim (En X) 17 args objs v objs' ∧ k v objs' = some r := by
  unfold impl_IsValidConsole.ctr at h
  split at h
  · obtain ⟨x, h1, h2⟩ := Option.bind_eq_some_iff.1 h
    exact ⟨⟨Go.Proofs.Tryd.f17, by kernel_rfl, by kernel_rfl, by kernel_rfl⟩, _, _, impl_IsValidConsole.sim X n _ _ _ _ _ _ _ _ _ _ _ _ _ _ _ _ _ x h1, h2⟩
  · cases h

noncomputable def laws_FnExactIsValidConsole.dec (v : Go.Ab.AV) (o : List Go.Ab.AObj) : Option Bool := match v, o with
  | Go.Ab.AV.bool a17, [] => some (a17)
  | _, _ => none
noncomputable def laws_FnExactIsValidConsole.A : Go.Ab.Ann := { live := fun _ => [], out := fun _ => [], cut := fun _ => none }
noncomputable def laws_FnExactIsValidConsole.G (n : Nat) {R : Type} : Go.Ab.Ctr R := fun g args objs k => match g with | 14 => laws_szConsole.ctr n args objs k | 16 => laws_toConsole.ctr n args objs k | 15 => spec_IsValidConsole.ctr n args objs k | 17 => impl_IsValidConsole.ctr n args objs k | _ => none
noncomputable def laws_FnExactIsValidConsole.B (i : Nat) : Go.Code := (Go.Ab.loopsOf (bodyOf Go.Proofs.Tryd.f4)).getD i Go.Code.skip
noncomputable def laws_FnExactIsValidConsole.H (n : Nat) : Go.Ab.Hnd Bool := { loop := fun key _ v o K => none, cut := fun _ _ _ _ _ => none }
theorem laws_FnExactIsValidConsole.loops (n0 : Nat) : ∀ b ∈ Go.Ab.loopsOf (bodyOf Go.Proofs.Tryd.f4), Go.Ab.LoopOk Go.Proofs.Tryd.prog (laws_FnExactIsValidConsole.G n0) laws_FnExactIsValidConsole.A (laws_FnExactIsValidConsole.H n0) 20 0 b := Go.Ab.forall_nil (by kernel_rfl)
theorem laws_FnExactIsValidConsole.cuts (n0 : Nat) : ∀ b ∈ Go.Ab.cutsOf laws_FnExactIsValidConsole.A (bodyOf Go.Proofs.Tryd.f4), Go.Ab.CutOk Go.Proofs.Tryd.prog (laws_FnExactIsValidConsole.G n0) laws_FnExactIsValidConsole.A (laws_FnExactIsValidConsole.H n0) 20 0 b := Go.Ab.forall_nil (by kernel_rfl)
theorem laws_FnExactIsValidConsole.eq (n : Nat) (a0 : Int) (a1 : Int) (a2 : Int) (a3 : Int) (a4 : Int) (a5 : Int) (a6 : Int) (a7 : Int) (a8 : Int) (a9 : Int) (a10 : Int) (a11 : Int) (a12 : Int) (a13 : Int) (a14 : ByteArray) (a15 : ByteArray) (a16 : Int) : Go.Ab.funK Go.Proofs.Tryd.prog (laws_FnExactIsValidConsole.G n) laws_FnExactIsValidConsole.A (laws_FnExactIsValidConsole.H n) false Go.Proofs.Tryd.f4 (bodyOf Go.Proofs.Tryd.f4) [Go.Ab.AV.agg [Go.Ab.AV.int Go.IntKind.i64 a0, Go.Ab.AV.int Go.IntKind.i64 a1, Go.Ab.AV.int Go.IntKind.i64 a2, Go.Ab.AV.int Go.IntKind.i64 a3, Go.Ab.AV.int Go.IntKind.i64 a4, Go.Ab.AV.int Go.IntKind.i64 a5, Go.Ab.AV.int Go.IntKind.i64 a6, Go.Ab.AV.int Go.IntKind.i64 a7, Go.Ab.AV.int Go.IntKind.i64 a8, Go.Ab.AV.int Go.IntKind.i64 a9, Go.Ab.AV.int Go.IntKind.i64 a10, Go.Ab.AV.int Go.IntKind.i64 a11, Go.Ab.AV.int Go.IntKind.i64 a12, Go.Ab.AV.int Go.IntKind.i64 a13, Go.Ab.AV.str a14, Go.Ab.AV.str a15, Go.Ab.AV.int Go.IntKind.i64 a16]] [] laws_FnExactIsValidConsole.dec = laws_FnExactIsValidConsole.f n a0 a1 a2 a3 a4 a5 a6 a7 a8 a9 a10 a11 a12 a13 a14 a15 a16 := by kernel_rfl
theorem laws_FnExactIsValidConsole.gok (X : Wd) (n : Nat) {R : Type} : Go.Ab.CtrOk (En X) (laws_FnExactIsValidConsole.G n : Go.Ab.Ctr R) := by
  intro g args objs k r h
  unfold laws_FnExactIsValidConsole.G at h
  split at h
  · exact laws_szConsole.ok X _ args objs k r h
  · exact laws_toConsole.ok X _ args objs k r h
  · exact spec_IsValidConsole.ok X _ args objs k r h
  · exact impl_IsValidConsole.ok X _ args objs k r h
  · cases h
theorem laws_FnExactIsValidConsole.hdec (r : Bool) (v : Go.Ab.AV) (o : List Go.Ab.AObj) (h : laws_FnExactIsValidConsole.dec v o = some r) : v = Go.Ab.AV.bool (r) ∧ o = [] := by
  unfold laws_FnExactIsValidConsole.dec at h
  split at h
  · cases h; exact ⟨rfl, rfl⟩
  · cases h
theorem laws_FnExactIsValidConsole.sim (X : Wd) (n : Nat) (a0 : Int) (a1 : Int) (a2 : Int) (a3 : Int) (a4 : Int) (a5 : Int) (a6 : Int) (a7 : Int) (a8 : Int) (a9 : Int) (a10 : Int) (a11 : Int) (a12 : Int) (a13 : Int) (a14 : ByteArray) (a15 : ByteArray) (a16 : Int) (r : Bool) (h : laws_FnExactIsValidConsole.f n a0 a1 a2 a3 a4 a5 a6 a7 a8 a9 a10 a11 a12 a13 a14 a15 a16 = some r) : Go.Ab.Sim (En X) 4 [Go.Ab.AV.agg [Go.Ab.AV.int Go.IntKind.i64 a0, Go.Ab.AV.int Go.IntKind.i64 a1, Go.Ab.AV.int Go.IntKind.i64 a2, Go.Ab.AV.int Go.IntKind.i64 a3, Go.Ab.AV.int Go.IntKind.i64 a4, Go.Ab.AV.int Go.IntKind.i64 a5, Go.Ab.AV.int Go.IntKind.i64 a6, Go.Ab.AV.int Go.IntKind.i64 a7, Go.Ab.AV.int Go.IntKind.i64 a8, Go.Ab.AV.int Go.IntKind.i64 a9, Go.Ab.AV.int Go.IntKind.i64 a10, Go.Ab.AV.int Go.IntKind.i64 a11, Go.Ab.AV.int Go.IntKind.i64 a12, Go.Ab.AV.int Go.IntKind.i64 a13, Go.Ab.AV.str a14, Go.Ab.AV.str a15, Go.Ab.AV.int Go.IntKind.i64 a16]] [] (Go.Ab.AV.bool (r)) [] :=
  Go.Ab.sim_of (E := En X) (laws_FnExactIsValidConsole.gok X n) mix (fn := Go.Proofs.Tryd.f4) (c := (bodyOf Go.Proofs.Tryd.f4)) (by kernel_rfl) (by kernel_rfl) (by kernel_rfl) (laws_FnExactIsValidConsole.loops n) (laws_FnExactIsValidConsole.cuts n) ((laws_FnExactIsValidConsole.eq n a0 a1 a2 a3 a4 a5 a6 a7 a8 a9 a10 a11 a12 a13 a14 a15 a16).trans h) (laws_FnExactIsValidConsole.hdec r)
noncomputable def laws_FnExactIsValidConsole.ctr (n : Nat) {R : Type} : List Go.Ab.AV → List Go.Ab.AObj → (Go.Ab.AV → List Go.Ab.AObj → Option R) → Option R
  | [Go.Ab.AV.agg [Go.Ab.AV.int Go.IntKind.i64 a0, Go.Ab.AV.int Go.IntKind.i64 a1, Go.Ab.AV.int Go.IntKind.i64 a2, Go.Ab.AV.int Go.IntKind.i64 a3, Go.Ab.AV.int Go.IntKind.i64 a4, Go.Ab.AV.int Go.IntKind.i64 a5, Go.Ab.AV.int Go.IntKind.i64 a6, Go.Ab.AV.int Go.IntKind.i64 a7, Go.Ab.AV.int Go.IntKind.i64 a8, Go.Ab.AV.int Go.IntKind.i64 a9, Go.Ab.AV.int Go.IntKind.i64 a10, Go.Ab.AV.int Go.IntKind.i64 a11, Go.Ab.AV.int Go.IntKind.i64 a12, Go.Ab.AV.int Go.IntKind.i64 a13, Go.Ab.AV.str a14, Go.Ab.AV.str a15, Go.Ab.AV.int Go.IntKind.i64 a16]], [], k => (laws_FnExactIsValidConsole.f n a0 a1 a2 a3 a4 a5 a6 a7 a8 a9 a10 a11 a12 a13 a14 a15 a16).bind fun r => k (Go.Ab.AV.bool (r)) []
  | _, _, _ => none
noncomputable def laws_FnExactIsValidConsole.fits : List Go.Ab.AV → List Go.Ab.AObj → Bool
  | [Go.Ab.AV.agg [Go.Ab.AV.int Go.IntKind.i64 a0, Go.Ab.AV.int Go.IntKind.i64 a1, Go.Ab.AV.int Go.IntKind.i64 a2, Go.Ab.AV.int Go.IntKind.i64 a3, Go.Ab.AV.int Go.IntKind.i64 a4, Go.Ab.AV.int Go.IntKind.i64 a5, Go.Ab.AV.int Go.IntKind.i64 a6, Go.Ab.AV.int Go.IntKind.i64 a7, Go.Ab.AV.int Go.IntKind.i64 a8, Go.Ab.AV.int Go.IntKind.i64 a9, Go.Ab.AV.int Go.IntKind.i64 a10, Go.Ab.AV.int Go.IntKind.i64 a11, Go.Ab.AV.int Go.IntKind.i64 a12, Go.Ab.AV.int Go.IntKind.i64 a13, Go.Ab.AV.str a14, Go.Ab.AV.str a15, Go.Ab.AV.int Go.IntKind.i64 a16]], [] => true
  | _, _ => false
theorem laws_FnExactIsValidConsole.ok (X : Wd) (n : Nat) {R : Type} (args : List Go.Ab.AV) (objs : List Go.Ab.AObj) (k : Go.Ab.AV → List Go.Ab.AObj → Option R) (r : R) (h : laws_FnExactIsValidConsole.ctr n args objs k = some r) :
    Go.Ab.Enters Go.Proofs.Tryd.prog 4 ∧ ∃ v objs', Go.Ab.Sim (En X) 4 args objs v objs' ∧ k v objs' = some r := by
  unfold laws_FnExactIsValidConsole.ctr at h
  split at h
  · obtain ⟨x, h1, h2⟩ := Option.bind_eq_some_iff.1 h
    exact ⟨⟨Go.Proofs.Tryd.f4, by kernel_rfl, by kernel_rfl, by kernel_rfl⟩, _, _, laws_FnExactIsValidConsole.sim X n _ _ _ _ _ _ _ _ _ _ _ _ _ _ _ _ _ x h1, h2⟩
  · cases h

noncomputable def spec_LogRecords.dec (v : Go.Ab.AV) (o : List Go.Ab.AObj) : Option ((List Go.Ab.AV) × Nat × Bool) := match v, o with
  | Go.Ab.AV.tup [Go.Ab.AV.sval a3 a4 Bool.false, Go.Ab.AV.bool a5], [] => some (a3, a4, a5)
  | _, _ => none
noncomputable def spec_LogRecords.A : Go.Ab.Ann := { live := fun _ => [], out := fun _ => [], cut := fun _ => none }
noncomputable def spec_LogRecords.G (n : Nat) {R : Type} : Go.Ab.Ctr R := fun g args objs k => match g with | 41 => spec_l12Valid.ctr n args objs k | 42 => spec_l12Open.ctr n args objs k | _ => none
noncomputable def spec_LogRecords.B (i : Nat) : Go.Code := (Go.Ab.loopsOf (bodyOf Go.Proofs.Tryd.f8)).getD i Go.Code.skip
noncomputable def spec_LogRecords.H (n : Nat) : Go.Ab.Hnd ((List Go.Ab.AV) × Nat × Bool) := { loop := fun key _ v o K => none, cut := fun _ _ _ _ _ => none }
theorem spec_LogRecords.loops (n0 : Nat) : ∀ b ∈ Go.Ab.loopsOf (bodyOf Go.Proofs.Tryd.f8), Go.Ab.LoopOk Go.Proofs.Tryd.prog (spec_LogRecords.G n0) spec_LogRecords.A (spec_LogRecords.H n0) 20 0 b := Go.Ab.forall_nil (by kernel_rfl)
theorem spec_LogRecords.cuts (n0 : Nat) : ∀ b ∈ Go.Ab.cutsOf spec_LogRecords.A (bodyOf Go.Proofs.Tryd.f8), Go.Ab.CutOk Go.Proofs.Tryd.prog (spec_LogRecords.G n0) spec_LogRecords.A (spec_LogRecords.H n0) 20 0 b := Go.Ab.forall_nil (by kernel_rfl)
theorem spec_LogRecords.eq (n : Nat) (a0 : ByteArray) (a1 : ByteArray) (a2 : Int) : Go.Ab.funK Go.Proofs.Tryd.prog (spec_LogRecords.G n) spec_LogRecords.A (spec_LogRecords.H n) false Go.Proofs.Tryd.f8 (bodyOf Go.Proofs.Tryd.f8) [Go.Ab.AV.agg [Go.Ab.AV.str a0, Go.Ab.AV.str a1, Go.Ab.AV.int Go.IntKind.i64 a2]] [] spec_LogRecords.dec = spec_LogRecords.f n a0 a1 a2 := by kernel_rfl
theorem spec_LogRecords.gok (X : Wd) (n : Nat) {R : Type} : Go.Ab.CtrOk (En X) (spec_LogRecords.G n : Go.Ab.Ctr R) := by
  intro g args objs k r h
  unfold spec_LogRecords.G at h
  split at h
  · exact spec_l12Valid.ok X _ args objs k r h
  · exact spec_l12Open.ok X _ args objs k r h
  · cases h
theorem spec_LogRecords.hdec (r : ((List Go.Ab.AV) × Nat × Bool)) (v : Go.Ab.AV) (o : List Go.Ab.AObj) (h : spec_LogRecords.dec v o = some r) : v = Go.Ab.AV.tup [Go.Ab.AV.sval (r.1) (r.2.1) Bool.false, Go.Ab.AV.bool (r.2.2)] ∧ o = [] := by
  unfold spec_LogRecords.dec at h
  split at h
  · cases h; exact ⟨rfl, rfl⟩
  · cases h
theorem spec_LogRecords.sim (X : Wd) (n : Nat) (a0 : ByteArray) (a1 : ByteArray) (a2 : Int) (r : ((List Go.Ab.AV) × Nat × Bool)) (h : spec_LogRecords.f n a0 a1 a2 = some r) : Go.Ab.Sim (En X) 8 [Go.Ab.AV.agg [Go.Ab.AV.str a0, Go.Ab.AV.str a1, Go.Ab.AV.int Go.IntKind.i64 a2]] [] (Go.Ab.AV.tup [Go.Ab.AV.sval (r.1) (r.2.1) Bool.false, Go.Ab.AV.bool (r.2.2)]) [] :=
  Go.Ab.sim_of (E := En X) (spec_LogRecords.gok X n) mix (fn := Go.Proofs.Tryd.f8) (c := (bodyOf Go.Proofs.Tryd.f8)) (by kernel_rfl) (by kernel_rfl) (by kernel_rfl) (spec_LogRecords.loops n) (spec_LogRecords.cuts n) ((spec_LogRecords.eq n a0 a1 a2).trans h) (spec_LogRecords.hdec r)
noncomputable def spec_LogRecords.ctr (n : Nat) {R : Type} : List Go.Ab.AV → List Go.Ab.AObj → (Go.Ab.AV → List Go.Ab.AObj → Option R) → Option R
  | [Go.Ab.AV.agg [Go.Ab.AV.str a0, Go.Ab.AV.str a1, Go.Ab.AV.int Go.IntKind.i64 a2]], [], k => (spec_LogRecords.f n a0 a1 a2).bind fun r => k (Go.Ab.AV.tup [Go.Ab.AV.sval (r.1) (r.2.1) Bool.false, Go.Ab.AV.bool (r.2.2)]) []
  | _, _, _ => none
noncomputable def spec_LogRecords.fits : List Go.Ab.AV → List Go.Ab.AObj → Bool
  | [Go.Ab.AV.agg [Go.Ab.AV.str a0, Go.Ab.AV.str a1, Go.Ab.AV.int Go.IntKind.i64 a2]], [] => true
  | _, _ => false
theorem spec_LogRecords.ok (X : Wd) (n : Nat) {R : Type} (args : List Go.Ab.AV) (objs : List Go.Ab.AObj) (k : Go.Ab.AV → List Go.Ab.AObj → Option R) (r : R) (h : spec_LogRecords.ctr n args objs k = some r) :
    Go.Ab.Enters Go.Proofs.Tryd.prog 8 ∧ ∃ v objs', Go.Ab.Sim (En X) 8 args objs v objs' ∧ k v objs' = some r := by
  unfold spec_LogRecords.ctr at h
  split at h
  · obtain ⟨x, h1, h2⟩ := Option.bind_eq_some_iff.1 h
    exact ⟨⟨Go.Proofs.Tryd.f8, by kernel_rfl, by kernel_rfl, by kernel_rfl⟩, _, _, spec_LogRecords.sim X n _ _ _ x h1, h2⟩
  · cases h

noncomputable def impl_LogRecords.dec (v : Go.Ab.AV) (o : List Go.Ab.AObj) : Option ((List Go.Ab.AV) × Nat × Bool) := match v, o with
  | Go.Ab.AV.tup [Go.Ab.AV.sval a3 a4 Bool.false, Go.Ab.AV.bool a5], [] => some (a3, a4, a5)
  | _, _ => none
noncomputable def impl_LogRecords.A : Go.Ab.Ann := { live := fun _ => [], out := fun _ => [], cut := fun _ => none }
noncomputable def impl_LogRecords.G (n : Nat) {R : Type} : Go.Ab.Ctr R := fun g args objs k => match g with | 30 => impl_IsValidLog.ctr n args objs k | 43 => impl_recordsOf.ctr n args objs k | _ => none
noncomputable def impl_LogRecords.B (i : Nat) : Go.Code := (Go.Ab.loopsOf (bodyOf Go.Proofs.Tryd.f10)).getD i Go.Code.skip
noncomputable def impl_LogRecords.H (n : Nat) : Go.Ab.Hnd ((List Go.Ab.AV) × Nat × Bool) := { loop := fun key _ v o K => none, cut := fun _ _ _ _ _ => none }
theorem impl_LogRecords.loops (n0 : Nat) : ∀ b ∈ Go.Ab.loopsOf (bodyOf Go.Proofs.Tryd.f10), Go.Ab.LoopOk Go.Proofs.Tryd.prog (impl_LogRecords.G n0) impl_LogRecords.A (impl_LogRecords.H n0) 19 0 b := Go.Ab.forall_nil (by kernel_rfl)
theorem impl_LogRecords.cuts (n0 : Nat) : ∀ b ∈ Go.Ab.cutsOf impl_LogRecords.A (bodyOf Go.Proofs.Tryd.f10), Go.Ab.CutOk Go.Proofs.Tryd.prog (impl_LogRecords.G n0) impl_LogRecords.A (impl_LogRecords.H n0) 19 0 b := Go.Ab.forall_nil (by kernel_rfl)
theorem impl_LogRecords.eq (n : Nat) (a0 : ByteArray) (a1 : ByteArray) (a2 : Int) : Go.Ab.funK Go.Proofs.Tryd.prog (impl_LogRecords.G n) impl_LogRecords.A (impl_LogRecords.H n) false Go.Proofs.Tryd.f10 (bodyOf Go.Proofs.Tryd.f10) [Go.Ab.AV.agg [Go.Ab.AV.str a0, Go.Ab.AV.str a1, Go.Ab.AV.int Go.IntKind.i64 a2]] [] impl_LogRecords.dec = impl_LogRecords.f n a0 a1 a2 := by kernel_rfl
theorem impl_LogRecords.gok (X : Wd) (n : Nat) {R : Type} : Go.Ab.CtrOk (En X) (impl_LogRecords.G n : Go.Ab.Ctr R) := by
  intro g args objs k r h
  unfold impl_LogRecords.G at h
  split at h
  · exact impl_IsValidLog.ok X _ args objs k r h
  · exact impl_recordsOf.ok X _ args objs k r h
  · cases h
theorem impl_LogRecords.hdec (r : ((List Go.Ab.AV) × Nat × Bool)) (v : Go.Ab.AV) (o : List Go.Ab.AObj) (h : impl_LogRecords.dec v o = some r) : v = Go.Ab.AV.tup [Go.Ab.AV.sval (r.1) (r.2.1) Bool.false, Go.Ab.AV.bool (r.2.2)] ∧ o = [] := by
  unfold impl_LogRecords.dec at h
  split at h
  · cases h; exact ⟨rfl, rfl⟩
  · cases h
theorem impl_LogRecords.sim (X : Wd) (n : Nat) (a0 : ByteArray) (a1 : ByteArray) (a2 : Int) (r : ((List Go.Ab.AV) × Nat × Bool)) (h : impl_LogRecords.f n a0 a1 a2 = some r) : Go.Ab.Sim (En X) 10 [Go.Ab.AV.agg [Go.Ab.AV.str a0, Go.Ab.AV.str a1, Go.Ab.AV.int Go.IntKind.i64 a2]] [] (Go.Ab.AV.tup [Go.Ab.AV.sval (r.1) (r.2.1) Bool.false, Go.Ab.AV.bool (r.2.2)]) [] :=
  Go.Ab.sim_of (E := En X) (impl_LogRecords.gok X n) mix (fn := Go.Proofs.Tryd.f10) (c := (bodyOf Go.Proofs.Tryd.f10)) (by kernel_rfl) (by kernel_rfl) (by kernel_rfl) (impl_LogRecords.loops n) (impl_LogRecords.cuts n) ((impl_LogRecords.eq n a0 a1 a2).trans h) (impl_LogRecords.hdec r)
noncomputable def impl_LogRecords.ctr (n : Nat) {R : Type} : List Go.Ab.AV → List Go.Ab.AObj → (Go.Ab.AV → List Go.Ab.AObj → Option R) → Option R
  | [Go.Ab.AV.agg [Go.Ab.AV.str a0, Go.Ab.AV.str a1, Go.Ab.AV.int Go.IntKind.i64 a2]], [], k => (impl_LogRecords.f n a0 a1 a2).bind fun r => k (Go.Ab.AV.tup [Go.Ab.AV.sval (r.1) (r.2.1) Bool.false, Go.Ab.AV.bool (r.2.2)]) []
  | _, _, _ => none
noncomputable def impl_LogRecords.fits : List Go.Ab.AV → List Go.Ab.AObj → Bool
  | [Go.Ab.AV.agg [Go.Ab.AV.str a0, Go.Ab.AV.str a1, Go.Ab.AV.int Go.IntKind.i64 a2]], [] => true
  | _, _ => false
theorem impl_LogRecords.ok (X : Wd) (n : Nat) {R : Type} (args : List Go.Ab.AV) (objs : List Go.Ab.AObj) (k : Go.Ab.AV → List Go.Ab.AObj → Option R) (r : R) (h : impl_LogRecords.ctr n args objs k = some r) :
    Go.Ab.Enters Go.Proofs.Tryd.prog 10 ∧ ∃ v objs', Go.Ab.Sim (En X) 10 args objs v objs' ∧ k v objs' = some r := by
  unfold impl_LogRecords.ctr at h
  split at h
  · obtain ⟨x, h1, h2⟩ := Option.bind_eq_some_iff.1 h
    exact ⟨⟨Go.Proofs.Tryd.f10, by kernel_rfl, by kernel_rfl, by kernel_rfl⟩, _, _, impl_LogRecords.sim X n _ _ _ x h1, h2⟩
  · cases h

