/- FnCrashes returns true whatever the bytes: a crashed log that is drawn from them, and a text that is read anew, the program answers as the reference, and what it reads anew begins the log that was. Condition: the tables of Go's library that the row lists hold what the program's text lays (the card ties them). -/
import Derived.Test.YtnalegahabfglaaDoorPuPToPuT
import Derived.Test.YtnalegahabfglaaDoorPrRB
import Derived.Test.YtnalegahabfglaaDoorAbArg
import Derived.Test.YtnalegahabfglaaDoorRows
import Derived.Test.YtnalegahabfglaaDoorCards
import Derived.Test.YtnalegahabfglaaDoorTie
import Derived.OpenShut
import Derived.SevenTiedAt
set_option linter.all false
set_option linter.unusedVariables false
set_option linter.unusedSimpArgs false
set_option maxRecDepth 100000
namespace Go.Proofs.YtnalegahabfglaaDoor
open Go Go.ChangeShapes Go.WideShapes Go.ChangeAt Go.RowKit Go.Ab Go.Pu

theorem own : ownKnob Tryd.prog.godebug = none := by kernel_rfl
theorem laidOut : laidOutB Tryd.prog = true := by kernel_rfl
theorem gPow : Tryd.prog.globalNamed "internal/strconv.uint64pow10" = some 1 := by kernel_rfl
theorem gPowType : (Tryd.prog.globals[1]?).map (·.type) = some 129 := by kernel_rfl
theorem cells5 : Tryd.prog.cellsOf 5 = 1 := by kernel_rfl
theorem cells83 : Tryd.prog.cellsOf 83 = 1 := by kernel_rfl
theorem cells129 : Tryd.prog.cellsOf 129 = 20 := by kernel_rfl
abbrev laid3 : List (String × DataW Unit) := [("math/bits.deBruijn32tab", Rows.laid_math_bits_deBruijn32tab), ("math/bits.deBruijn64tab", Rows.laid_math_bits_deBruijn64tab), ("internal/strconv.uint64pow10", Rows.laid_internal_strconv_uint64pow10)]

theorem door_met (os : Os) (args : Array Value) : laidMetH Tryd.prog laid3 ((World.doorLaid Tryd.prog 65 os).forCall (fun _ _ => 0) ⟨#[], args, []⟩).memory :=
  laidMetH_of_parts3 (fuel := 8) (laidMet_of_run' 8 (by kernel_rfl) (by kernel_rfl)) (by kernel_rfl) (by kernel_rfl)

/-- What the walk takes of the first world. -/
theorem wd_of {W : World} (hsh : W.ShapedOpen Tryd.prog) (hL : laidMetH Tryd.prog laid3 W) : ∃ X : Wd, En X = ⟨Tryd.prog, W.heap.size, fun k => W.heap[k]?⟩ := by
  rw [MakeChecks.laidMetH_plain _ _ _ (by kernel_rfl)] at hL
  have hT : Lib.TabIs Tryd.prog W "internal/strconv.uint64pow10" .u64 Lib.pow10Tab :=
    Lib.tabIs_of_head gPow gPowType Tryd.underlying129 Tryd.underlying83 cells83 cells129 (laidMet.tail (laidMet.tail hL))
  obtain ⟨m, hm⟩ : ∃ m, W.cell? ⟨0, 0, none⟩ = some (.int .i64 m) := Tryd.laysM144.s1_3 W hsh
  have h0 : 0 < W.heap.size := block_lt_of_cell hm
  have h1 : 1 < W.heap.size := block_lt_of_cell (hT.cell gPow 0 (by decide))
  refine ⟨⟨W.heap.size, fun k => W.heap[k]?, fun w hw => ⟨m, ?_⟩, fun w hw => ?_⟩, rfl⟩
  · rw [World.cell?_of_block (w := W) (hw 0 h0)]; exact hm
  · unfold Lib.TabIs World.var? at hT ⊢
    rw [gPow] at hT ⊢
    simp only [Option.bind_some] at hT ⊢
    rw [hw 1 h1]; exact hT
theorem codeOk {zs : List Int} (h : ∀ z ∈ zs, (Lit.int .u8 z).wf = true) (hn : zs.length ≤ 65536) : CodeOk (zs.map fun z => AV.int .u8 z) zs.length := by
  refine ⟨by omega, by simp, fun a ha => ?_⟩
  obtain ⟨z, hz, rfl⟩ := List.mem_map.1 ha
  have := h z hz
  simp [Lit.wf, IntKind.min, IntKind.max, IntKind.bits, IntKind.signed] at this
  exact ⟨z, rfl, by omega, by omega⟩

theorem crashes_calls {W : World} {r : Reach} {base : Nat} {v : Value} {H : Type} {enc : TypeId × Value → H} {d : DataW H} {p : List MemPlace} (hsh : W.ShapedOpen Tryd.prog) (hL : laidMetH Tryd.prog laid3 W) (hv : Value.okWide Tryd.prog W r base 49 v)
    (hd : DataW.Trod enc Tryd.prog W 0 (fun _ => true) true 49 v d p) :
    Calls Tryd.prog 6 #[v] W fun e W' => e = .returned (.bool true) ∧ Below W.heap.size W W' := by
  obtain ⟨X, hX⟩ := wd_of hsh hL
  obtain ⟨zs, hz, hrel⟩ := arg_ints hv Tryd.underlying49 Tryd.underlying5 cells5 hd
  have hlaw := crashes_law (2 ^ 40) (Nat.le_refl _) (code := zs.map fun z => AV.int .u8 z) (n := zs.length) (codeOk hz)
  have hs := laws_FnCrashes.sim X (2 ^ 40) _ _ true hlaw
  rw [hX] at hs
  exact calls_of_sim hs (fun _ _ _ h => h) (.cons hrel .nil)

theorem crashes_lifted (os : Os) (started : os.Started) (H : Type) (enc : TypeId × Value → H) (F : Stop.Interp) :
    ReturnsInHanded {} Tryd.checked os 6 .any ((OpenSpec.ofChange Rows.fnCrashesSpec).preRow enc Tryd.prog Tryd.f6 [] false laid3) (((OpenSpec.ofChange Rows.fnCrashesSpec).at F).post enc Tryd.prog Tryd.f6 false true false false) := by
  refine law_lifted (C := Tryd.checked) own started (by kernel_rfl) Tryd.func6 laidOut ?_ (tb := 4) (by kernel_rfl) Tryd.underlying4 rfl ?_ ?_ ?_
  · intro t ht
    rw [Tryd.params6] at ht
    rw [List.mem_singleton.1 ht]
    exact ⟨by kernel_rfl, of_decide_eq_true (by kernel_rfl)⟩
  · intro ds hd
    rw [Tryd.params6] at hd
    match ds, hd with
    | [d], _ => rfl
  · exact ChangeSpec.witness_shaped (enc := enc) (C := Tryd.checked) (os := os) (s := Rows.fnCrashesSpec) (X := fun w _ => laidMetH Tryd.prog laid3 w) false (World.doorLaid Tryd.prog 65 os) #[.slice none 0 0] 8 rfl (World.shaped_of_RefB (by kernel_rfl) (by kernel_rfl)) (by kernel_rfl) (by kernel_rfl) (by kernel_rfl) (door_met os _)
  · intro W base args ds p hval hA _ hL hsh
    rw [Tryd.params6] at hA hval
    obtain ⟨v0, d0, rfl, rfl, ht⟩ := trodAll_one hA
    exact crashes_calls hsh hL (hval 0 49 v0 rfl rfl) ht
theorem crashes_holds : Rows.FnCrashesSaid :=
  OpenClaim.holds_of_cond 6 Tryd.f6 rfl rfl rfl rfl rfl rfl rfl ⟨rfl, rfl, rfl, rfl, rfl⟩ rfl rfl rfl rfl rfl (by kernel_rfl) Tryd.func6 (by kernel_rfl)
    (of_decide_eq_true (by kernel_rfl)) (by unfold Func.isWrapper; first | (rw [if_pos (by decide +kernel)]; kernel_rfl) | (rw [if_neg (by decide +kernel)]; exact ⟨rfl, rfl⟩))
    (fun os started H enc _ F0 => by rw [OpenClaim.pre_eq_preRow]; exact crashes_lifted os started H enc F0)
theorem crashes_card : Rows.FnCrashesCardSaid :=
  Claim7.holds_tied_plain_at .later [] [.data, .data, .data] true (true, "a0d9ad521d6583842a7a762fb9f02fa6639348e0453af89632c898e2b8067496") false
    crashes_holds (fun _ h => by cases h) (by kernel_rfl) (fun _ h => by cases h) fnCrashes_row_tie rfl ⟨rfl, rfl⟩ (by kernel_rfl) rfl
    (fun f fn hf hfn => by
      obtain rfl : f = 6 := Option.some.inj ((show Tryd.prog.funcNamed "loop.example/g01220/laws.FnCrashes" = some 6 by kernel_rfl).symm.trans hf) |>.symm
      obtain rfl : fn = Tryd.f6 := (Option.some.inj (Tryd.func6.symm.trans hfn)).symm
      exact ⟨by kernel_rfl, fun j t ht => by
        rw [Tryd.params6] at ht
        have h3 : t = 49 := by
          rcases j with _ | j
          · simpa using ht.symm
          · simp at ht
        subst h3
        exact (show Tryd.prog.wantsStandIn 49 = false by kernel_rfl)⟩)
    (by kernel_rfl)
end Go.Proofs.YtnalegahabfglaaDoor
