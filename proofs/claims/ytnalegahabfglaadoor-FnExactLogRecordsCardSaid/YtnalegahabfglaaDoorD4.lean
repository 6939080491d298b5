/- FnExactLogRecords returns true for every Log: the program's LogRecords answers what the reference's answers, and hands out memory of its own. Condition: the tables of Go's library that the row lists hold what the program's text lays (the card ties them). -/
import Derived.Test.YtnalegahabfglaaDoorPuU
import Derived.Test.YtnalegahabfglaaDoorPrRB
import Derived.Test.YtnalegahabfglaaDoorAbRow
import Derived.Test.YtnalegahabfglaaDoorRows
import Derived.Test.YtnalegahabfglaaDoorCards
import Derived.Test.YtnalegahabfglaaDoorTie
import Derived.OpenShut
import Derived.SevenTiedAt
set_option linter.all false
set_option linter.unusedVariables false
set_option linter.unusedSimpArgs false
set_option maxRecDepth 100000
namespace Go.Proofs.YtnalegahabfglaaDoor
open Go Go.ChangeShapes Go.WideShapes Go.ChangeAt Go.RowKit Go.Ab Go.Pu

theorem own : ownKnob Tryd.prog.godebug = none := by kernel_rfl
theorem laidOut : laidOutB Tryd.prog = true := by kernel_rfl
theorem gPow : Tryd.prog.globalNamed "internal/strconv.uint64pow10" = some 1 := by kernel_rfl
theorem gPowType : (Tryd.prog.globals[1]?).map (·.type) = some 129 := by kernel_rfl
theorem cells83 : Tryd.prog.cellsOf 83 = 1 := by kernel_rfl
theorem cells129 : Tryd.prog.cellsOf 129 = 20 := by kernel_rfl
abbrev laid3 : List (String × DataW Unit) := [("math/bits.deBruijn32tab", Rows.laid_math_bits_deBruijn32tab), ("math/bits.deBruijn64tab", Rows.laid_math_bits_deBruijn64tab), ("internal/strconv.uint64pow10", Rows.laid_internal_strconv_uint64pow10)]

theorem door_met (os : Os) (args : Array Value) : laidMetH Tryd.prog laid3 ((World.doorLaid Tryd.prog 65 os).forCall (fun _ _ => 0) ⟨#[], args, []⟩).memory :=
  laidMetH_of_parts3 (fuel := 8) (laidMet_of_run' 8 (by kernel_rfl) (by kernel_rfl)) (by kernel_rfl) (by kernel_rfl)

/-- What the walk takes of the first world. -/
theorem wd_of {W : World} (hsh : W.ShapedOpen Tryd.prog) (hL : laidMetH Tryd.prog laid3 W) : ∃ X : Wd, En X = ⟨Tryd.prog, W.heap.size, fun k => W.heap[k]?⟩ := by
  rw [MakeChecks.laidMetH_plain _ _ _ (by kernel_rfl)] at hL
  have hT : Lib.TabIs Tryd.prog W "internal/strconv.uint64pow10" .u64 Lib.pow10Tab :=
    Lib.tabIs_of_head gPow gPowType Tryd.underlying129 Tryd.underlying83 cells83 cells129 (laidMet.tail (laidMet.tail hL))
  obtain ⟨m, hm⟩ : ∃ m, W.cell? ⟨0, 0, none⟩ = some (.int .i64 m) := Tryd.laysM144.s1_3 W hsh
  have h0 : 0 < W.heap.size := block_lt_of_cell hm
  have h1 : 1 < W.heap.size := block_lt_of_cell (hT.cell gPow 0 (by decide))
  refine ⟨⟨W.heap.size, fun k => W.heap[k]?, fun w hw => ⟨m, ?_⟩, fun w hw => ?_⟩, rfl⟩
  · rw [World.cell?_of_block (w := W) (hw 0 h0)]; exact hm
  · unfold Lib.TabIs World.var? at hT ⊢
    rw [gPow] at hT ⊢
    simp only [Option.bind_some] at hT ⊢
    rw [hw 1 h1]; exact hT

theorem logRecords_calls {W : World} {r : Reach} {base : Nat} {v : Value} (hsh : W.ShapedOpen Tryd.prog) (hL : laidMetH Tryd.prog laid3 W) (hv : Value.okWide Tryd.prog W r base 23 v) :
    Calls Tryd.prog 3 #[v] W fun e W' => e = .returned (.bool true) ∧ Below W.heap.size W W' := by
  obtain ⟨X, hX⟩ := wd_of hsh hL
  obtain ⟨xs, hA, hrel⟩ := arg_agg (ts := [9,9,3]) hv (by rw [Tryd.underlying23]) (by kernel_rfl) (by kernel_rfl) (by kernel_rfl)
  obtain ⟨d, xs, rfl, hd, hA⟩ := hA.str Tryd.underlying9
  obtain ⟨q, xs, rfl, hq, hA⟩ := hA.str Tryd.underlying9
  obtain ⟨n, xs, rfl, _, hA⟩ := hA.int Tryd.underlying3
  obtain rfl := hA.nil
  have hmax : IntKind.i64.max = 9223372036854775807 := by decide
  rw [hmax] at hd hq
  have hlaw := logRecords_law (2 ^ 40) (Nat.le_refl _) d q n (by omega) (by omega)
  have hs := laws_FnExactLogRecords_o.sim X (2 ^ 40) d q n true hlaw
  rw [hX] at hs
  exact calls_of_sim (G := fun _ _ => none) hs (fun _ _ _ h => by cases h) (.cons (hrel _ _) .nil)

def zeroLog : Value := .agg #[.string ⟨#[]⟩, .string ⟨#[]⟩, .int .i64 0]
theorem logRecords_lifted (os : Os) (started : os.Started) (H : Type) (enc : TypeId × Value → H) (F : Stop.Interp) :
    ReturnsInHanded {} Tryd.checked os 3 .any ((OpenSpec.ofChange Rows.fnExactLogRecordsSpec).preRow enc Tryd.prog Tryd.f3 [] false laid3) (((OpenSpec.ofChange Rows.fnExactLogRecordsSpec).at F).post enc Tryd.prog Tryd.f3 false true false false) := by
  refine law_lifted (C := Tryd.checked) own started (by kernel_rfl) Tryd.func3 laidOut ?_ (tb := 4) (by kernel_rfl) Tryd.underlying4 rfl ?_ ?_ ?_
  · intro t ht
    rw [Tryd.params3] at ht
    rw [List.mem_singleton.1 ht]
    exact ⟨by kernel_rfl, of_decide_eq_true (by kernel_rfl)⟩
  · intro ds hd
    rw [Tryd.params3] at hd
    match ds, hd with
    | [d], _ => rfl
  · exact ChangeSpec.witness_shaped (enc := enc) (C := Tryd.checked) (os := os) (s := Rows.fnExactLogRecordsSpec) (X := fun w _ => laidMetH Tryd.prog laid3 w) false (World.doorLaid Tryd.prog 65 os) #[zeroLog] 8 rfl (World.shaped_of_RefB (by kernel_rfl) (by kernel_rfl)) (by kernel_rfl) (by kernel_rfl) (by kernel_rfl) (door_met os _)
  · intro W base args ds p hval hA _ hL hsh
    rw [Tryd.params3] at hA hval
    obtain ⟨v0, d0, hargs, rfl, _⟩ := trodAll_one hA
    have hargs' : args = #[v0] := by cases args; simpa using hargs
    subst hargs'
    exact logRecords_calls hsh hL (hval 0 23 v0 rfl rfl)
theorem logRecords_holds : Rows.FnExactLogRecordsSaid :=
  OpenClaim.holds_of_cond 3 Tryd.f3 rfl rfl rfl rfl rfl rfl rfl ⟨rfl, rfl, rfl, rfl, rfl⟩ rfl rfl rfl rfl rfl (by kernel_rfl) Tryd.func3 (by kernel_rfl)
    (of_decide_eq_true (by kernel_rfl)) (by unfold Func.isWrapper; first | (rw [if_pos (by decide +kernel)]; kernel_rfl) | (rw [if_neg (by decide +kernel)]; exact ⟨rfl, rfl⟩))
    (fun os started H enc _ F0 => by rw [OpenClaim.pre_eq_preRow]; exact logRecords_lifted os started H enc F0)
theorem logRecords_card : Rows.FnExactLogRecordsCardSaid :=
  Claim7.holds_tied_plain_at .later [] [.data, .data, .data] true (true, "a0d9ad521d6583842a7a762fb9f02fa6639348e0453af89632c898e2b8067496") false
    logRecords_holds (fun _ h => by cases h) (by kernel_rfl) (fun _ h => by cases h) fnExactLogRecords_row_tie rfl ⟨rfl, rfl⟩ (by kernel_rfl) rfl
    (fun f fn hf hfn => by
      obtain rfl : f = 3 := Option.some.inj ((show Tryd.prog.funcNamed "loop.example/g01220/laws.FnExactLogRecords" = some 3 by kernel_rfl).symm.trans hf) |>.symm
      obtain rfl : fn = Tryd.f3 := (Option.some.inj (Tryd.func3.symm.trans hfn)).symm
      exact ⟨by kernel_rfl, fun j t ht => by
        rw [Tryd.params3] at ht
        have h3 : t = 23 := by
          rcases j with _ | j
          · simpa using ht.symm
          · simp at ht
        subst h3
        exact (show Tryd.prog.wantsStandIn 23 = false by kernel_rfl)⟩)
    (by kernel_rfl)
end Go.Proofs.YtnalegahabfglaaDoor
