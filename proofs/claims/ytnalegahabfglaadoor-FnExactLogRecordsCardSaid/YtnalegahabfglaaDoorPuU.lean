/- Plain lemmas on the pure functions: records as slices of one's own, marked. No condition. -/
import Derived.Test.YtnalegahabfglaaDoorPuBToPuL
set_option linter.all false
set_option linter.unusedVariables false
set_option linter.unusedSimpArgs false
set_option linter.unusedSimpArgs false
open Go Go.Ab
namespace Go.Pu
theorem recordsOfO_loop (n0 : Nat) (s : ByteArray) (hs : s.size < 2 ^ 30) (hn0 : 2 ^ 40 ≤ n0) (K : Nat → Nat → List AV → List AV → Option (Nat × Nat × List AV × List AV)) :
    ∀ (m k a n : Nat) (out ends : List AV), m + k = 60 → a ≤ s.size → m < n → out.length = k * 2 → ends.length = k + 1 →
    impl_recordsOf_o.l2 n0 K n s k (k + 1) (a : Int) out ends =
      K (k + (opens m ((L s).drop a) k).length) (k + 1 + (opens m ((L s).drop a) k).length) (out ++ flatE (opens m ((L s).drop a) k)) (ends ++ (endsE a k (opens m ((L s).drop a) k)).map intA)
  | m, k, a, n + 1, out, ends, hm, ha, hn, ho, he => by
    have hlen : ((L s).drop a).length = s.size - a := by rw [List.length_drop, L_len]
    obtain ⟨c, r, code, h1, h2⟩ := next_eq n0 k ((L s).drop a) (by omega) hn0 (by omega)
    rw [← at_extract] at h1
    match m with
    | 0 =>
      have hk : ¬ k < 60 := by omega
      rw [dF hk, Bool.false_and] at h1
      simp (disch := omega) only [impl_recordsOf_o.l2, impl_recordsOf_o.l2S, dT, Bool.and_self, cond_true, Int.toNat_natCast, h1, bind_some', Bool.not_false, opens, List.length_nil, Nat.add_zero, flatE, List.flatMap_nil, List.append_nil, endsE, List.map_nil]
    | m + 1 =>
      have hk : k < 60 := by omega
      rw [dT hk, Bool.true_and] at h1
      unfold opens
      cases hr : recAt ((L s).drop a) k with
      | none =>
        rw [hr] at h1
        simp (disch := omega) only [impl_recordsOf_o.l2, impl_recordsOf_o.l2S, dT, Bool.and_self, cond_true, Int.toNat_natCast, h1, bind_some', Option.isSome_none, Bool.not_false, List.length_nil, Nat.add_zero, flatE, List.flatMap_nil, List.append_nil, endsE, List.map_nil]
      | some e =>
        obtain ⟨c', r'⟩ := e
        rw [hr] at h1
        obtain ⟨rfl, rfl, rfl⟩ := h2 c' r' hk hr
        have hle := recAt_len hr
        dsimp only at hle ⊢
        have hw : IntKind.wrap .i64 ((a : Int) + ((lineE k c' r').length : Int)) = ((a + (lineE k c' r').length : Nat) : Int) := by rw [w64 (by omega) (by omega)]; omega
        have ih := recordsOfO_loop n0 s hs hn0 K m (k + 1) (a + (lineE k c' r').length) n (out ++ [strA c', strA r']) (ends ++ [intA (a + (lineE k c' r').length)]) (by omega) (by omega) (by omega) (by simp [ho]; omega) (by simp [he])
        rw [← List.drop_drop] at ih
        have e1 : AV.str (B c') = strA c' := rfl
        have e2 : AV.str (B r') = strA r' := rfl
        have e3 : AV.int .i64 ((a + (lineE k c' r').length : Nat) : Int) = intA (a + (lineE k c' r').length) := rfl
        have e4 : ∀ n, oneA (intA n) = true := fun _ => rfl
        have t1 : List.take (k * 2) out = out := List.take_of_length_le (by omega)
        have t2 : List.take ((k + 1) * 1) ends = ends := List.take_of_length_le (by omega)
        simp (disch := omega) only [impl_recordsOf_o.l2, impl_recordsOf_o.l2S, dT, Bool.and_self, cond_true, cond_false, Int.toNat_natCast, h1, bind_some', Option.isSome_some, Bool.not_true, List.length_cons, List.length_nil, List.all_cons, List.all_nil, hw, e1, e2, e3, e4, oneA_strA, B_size, decide_true, ho, he, t1, t2, Nat.zero_add]
        simp only [B_size, hw, e3, ih]
        generalize opens m (List.drop (lineE k c' r').length (List.drop a (L s))) (k + 1) = es
        simp only [flatE, List.flatMap_cons, endsE, List.map_cons, List.append_assoc, List.cons_append, List.nil_append]
        congr 1 <;> omega
theorem recordsOfO_eq (n0 : Nat) (t : List UInt8) (hs : t.length < 2 ^ 30) (hn0 : 2 ^ 40 ≤ n0) :
    impl_recordsOf_o.f n0 (B t) = some ((opens 60 t 0).length, (opens 60 t 0).length + 1, flatE (opens 60 t 0), (0 :: endsE 0 0 (opens 60 t 0)).map intA) := by
  unfold impl_recordsOf_o.f
  refine (recordsOfO_loop n0 (B t) (by rw [B_size]; exact hs) hn0 _ 60 0 0 n0 [] [intA 0] (by omega) (by omega) (by omega) rfl rfl).trans ?_
  rw [L_B, List.drop_zero]
  simp only [Nat.zero_add, List.nil_append]
  rw [Nat.add_comm 1]
  rfl
theorem recordsO_impl (n0 : Nat) (d p : List UInt8) (n : Int) (hd : d.length < 2 ^ 28) (hp : p.length < 2 ^ 28) (hn0 : 2 ^ 40 ≤ n0) :
    impl_LogRecords_o.f n0 (B d) (B p) n = some (if validL d p n then .inr ((recsL d p n).length, true, flatE (recsL d p n)) else .inl (0, false)) := by
  have e1 := valid_impl n0 d p n hd hp hn0
  have e2 := recordsOfO_eq n0 (d ++ p) (by simp; omega) hn0
  cases v : validL d p n
  · rw [v] at e1
    simp only [impl_LogRecords_o.f, e1, bind_some', Bool.not_false, cond_true, Bool.false_eq_true, if_false]
  · rw [v] at e1
    simp (disch := omega) only [impl_LogRecords_o.f, e1, e2, B_size, B_append, dT, bind_some', Bool.not_true, cond_true, cond_false, if_true, recsL, v]
theorem eqO_loop (n0 : Nat) (xs : List Rec) (hs : xs.length < 2 ^ 40) (K0 : Bool → List AV → Option (Bool × List AV)) (K1 : List AV → Option (Bool × List AV)) : ∀ (d i n : Nat), i + d = xs.length → d < n →
    laws_eqLogRecordS_v1.l4 n0 K0 K1 n xs.length (flatE xs) xs.length (i : Int) (flatE xs) = K1 (flatE xs)
  | 0, i, n + 1, hi, hn => by
    simp (disch := omega) only [laws_eqLogRecordS_v1.l4, laws_eqLogRecordS_v1.l4S, dF, cond_false]
  | d + 1, i, n + 1, hi, hn => by
    have hx : i < xs.length := by omega
    have ih := eqO_loop n0 xs hs K0 K1 d (i + 1) n (by omega) (by omega)
    obtain ⟨x1, x2⟩ := flat_get xs i _ (List.getElem?_eq_getElem hx)
    have lx := flatE_len xs
    have hw : IntKind.wrap .i64 ((i : Int) + 1) = ((i + 1 : Nat) : Int) := by rw [w64 (by omega) (by omega)]; omega
    have z1 : 0 + i * 2 = i * 2 := by omega
    simp (disch := omega) only [laws_eqLogRecordS_v1.l4, laws_eqLogRecordS_v1.l4S, dT, Bool.and_self, cond_true, Int.toNat_natCast, z1, x1, x2, bind_some', laws_eqLogRecord.f, beq_self_eq_true, Bool.not_true, cond_false, hw, ih]
theorem eqO_eq (n0 : Nat) (xs : List Rec) (hs : xs.length < 2 ^ 30) (hn0 : 2 ^ 40 ≤ n0) : laws_eqLogRecordS_v1.f n0 xs.length (flatE xs) xs.length (flatE xs) = some (true, flatE xs) := by
  simp only [laws_eqLogRecordS_v1.f, bne_self_eq_false, cond_false]
  exact eqO_loop n0 xs (by omega) _ _ xs.length 0 n0 (by omega) (by omega)
theorem empty_eq (n0 : Nat) (hn0 : 2 ^ 40 ≤ n0) : laws_eqLogRecordS.f n0 [] 0 [] 0 = some true ∧ laws_markLogRecordS.f n0 [] 0 1 = some 1 ∧ laws_heldLogRecordS.f n0 [] 0 1 = some 1 := by
  obtain ⟨m, rfl⟩ : ∃ m, n0 = m + 1 := ⟨n0 - 1, by omega⟩
  refine ⟨?_, ?_, ?_⟩
  · simp (disch := omega) only [laws_eqLogRecordS.f, laws_eqLogRecordS.l4, laws_eqLogRecordS.l4S, bne_self_eq_false, dF, cond_false]
  · simp (disch := omega) only [laws_markLogRecordS.f, laws_markLogRecordS.l2, laws_markLogRecordS.l2S, dF, cond_false]
  · simp (disch := omega) only [laws_heldLogRecordS.f, laws_heldLogRecordS.l2, laws_heldLogRecordS.l2S, dF, cond_false]
theorem markText_loop (n0 : Nat) (K : ByteArray → Option ByteArray) : ∀ (e n : Nat) (k : Int) (out : ByteArray), 0 ≤ k → k ≤ (e : Int) → e ≤ 1000 → e < n → out.size + e ≤ 2000 →
    ∃ o : ByteArray, laws_markText.l4 n0 K n k out = K o ∧ o.size ≤ out.size + e
  | 0, n + 1, k, out, h0, h1, _, hn, hs => by
    refine ⟨out, ?_, by omega⟩
    simp (disch := omega) only [laws_markText.l4, laws_markText.l4S, dF, cond_false]
  | e + 1, n + 1, k, out, h0, h1, h2, hn, hs => by
    by_cases hk : k > 0
    · have hd : Int.tdiv k 10 = k / 10 := Int.tdiv_eq_ediv_of_nonneg h0
      have hw : IntKind.i64.wrap (k / 10) = k / 10 := w64 (by omega) (by omega)
      have hsz : ∀ z : Int, (strOfNums [z]).size = 1 := fun z => strOfNums_size [z]
      obtain ⟨o, h3, h4⟩ := markText_loop n0 K e n (k / 10) (strOfNums [IntKind.wrap .u8 (IntKind.wrap .i64 (48 + Int.tmod k 10))] ++ out) (by omega) (by omega) (by omega) (by omega) (by rw [ByteArray.size_append, hsz]; omega)
      rw [ByteArray.size_append, hsz] at h4
      refine ⟨o, ?_, by omega⟩
      simp (disch := omega) only [laws_markText.l4, laws_markText.l4S, dT, cond_true, hsz, hd, hw, h3]
    · refine ⟨out, ?_, by omega⟩
      simp (disch := omega) only [laws_markText.l4, laws_markText.l4S, dF, cond_false]
theorem markText_ok (n0 : Nat) (hn0 : 2 ^ 40 ≤ n0) (k : Nat) (hk : k ≤ 1000) : ∃ t : List UInt8, laws_markText.f n0 (k : Int) = some (B t) := by
  by_cases h : k = 0
  · subst h
    exact ⟨[109, 48], by simp (disch := omega) only [laws_markText.f, dT, cond_true]⟩
  · obtain ⟨o, h1, h2⟩ := markText_loop n0 (fun y20 => bif Decidable.decide (1 + ByteArray.size y20 ≤ 1099511627776) then (some ({ data := #[109] } ++ y20)) else (none)) 1000 n0 (k : Int) ⟨#[]⟩ (by omega) (by omega) (by omega) (by omega) (by rw [size_mk]; simp)
    have hz : (⟨#[]⟩ : ByteArray).size = 0 := rfl
    rw [hz] at h2
    refine ⟨L (⟨#[109]⟩ ++ o), ?_⟩
    simp (disch := omega) only [laws_markText.f, dF, cond_false, h1, dT, cond_true, B_L]
def Marked (M : Nat → List UInt8) (x : List AV) (n : Nat) : Prop := ∀ j, j < n → x[j]? = some (strA (M (1 + j)))
theorem mark_loop (n0 : Nat) {M : Nat → List UInt8} (hM : ∀ k : Nat, k ≤ 1000 → laws_markText.f n0 (k : Int) = some (B (M k))) (len : Nat) (hl : len ≤ 60) (K : Int → List AV → Option (Int × List AV)) : ∀ (d i n : Nat) (x : List AV), i + d = len → d < n → x.length = len * 2 → Marked M x (i * 2) →
    ∃ x', laws_markLogRecordS_v1.l2 n0 K n len ((1 + i * 2 : Nat) : Int) (i : Int) x = K ((1 + len * 2 : Nat) : Int) x' ∧ x'.length = len * 2 ∧ Marked M x' (len * 2)
  | 0, i, n + 1, x, hi, hn, hx, hm => by
    obtain rfl : i = len := by omega
    refine ⟨x, ?_, hx, hm⟩
    simp (disch := omega) only [laws_markLogRecordS_v1.l2, laws_markLogRecordS_v1.l2S, dF, cond_false]
  | d + 1, i, n + 1, x, hi, hn, hx, hm => by
    have m1 := hM (1 + i * 2) (by omega)
    have m2 := hM (1 + i * 2 + 1) (by omega)
    have w1 : IntKind.wrap .i64 (((1 + i * 2 : Nat) : Int) + 1) = ((1 + i * 2 + 1 : Nat) : Int) := by rw [w64 (by omega) (by omega)]; omega
    have w2 : IntKind.wrap .i64 (((1 + i * 2 + 1 : Nat) : Int) + 1) = ((1 + (i + 1) * 2 : Nat) : Int) := by rw [w64 (by omega) (by omega)]; omega
    have w3 : IntKind.wrap .i64 ((i : Int) + 1) = ((i + 1 : Nat) : Int) := by rw [w64 (by omega) (by omega)]; omega
    obtain ⟨x', h1, h2, h3⟩ := mark_loop n0 hM len hl K d (i + 1) n ((x.set (0 + i * 2 + 0) (AV.str (B (M (1 + i * 2))))).set (0 + i * 2 + 1) (AV.str (B (M (1 + i * 2 + 1))))) (by omega) (by omega) (by rw [List.length_set, List.length_set]; exact hx) (by
      intro j hj
      rw [List.getElem?_set, List.getElem?_set]
      by_cases c1 : 0 + i * 2 + 1 = j
      · rw [if_pos c1, if_pos (by rw [List.length_set]; omega)]
        have : 1 + j = 1 + i * 2 + 1 := by omega
        rw [this]; rfl
      · rw [if_neg c1]
        by_cases c2 : 0 + i * 2 + 0 = j
        · rw [if_pos c2, if_pos (by omega)]
          have : 1 + j = 1 + i * 2 := by omega
          rw [this]; rfl
        · rw [if_neg c2]; exact hm j (by omega))
    refine ⟨x', ?_, h2, h3⟩
    simp (disch := omega) only [laws_markLogRecordS_v1.l2, laws_markLogRecordS_v1.l2S, dT, cond_true, Bool.and_self, m1, m2, bind_some', w1, w2, w3, Int.toNat_natCast, List.length_cons, List.length_nil, List.length_set, hx, h1]
theorem held_loop (n0 : Nat) {M : Nat → List UInt8} (hM : ∀ k : Nat, k ≤ 1000 → laws_markText.f n0 (k : Int) = some (B (M k))) (len : Nat) (hl : len ≤ 60) (K0 : Int → Int → List AV → Option (Int × List AV)) (K : Int → List AV → Option (Int × List AV)) (x : List AV) (hm : Marked M x (len * 2)) : ∀ (d i n : Nat), i + d = len → d < n →
    laws_heldLogRecordS_v1.l2 n0 K0 K n len ((1 + i * 2 : Nat) : Int) (i : Int) x = K ((1 + len * 2 : Nat) : Int) x
  | 0, i, n + 1, hi, hn => by
    obtain rfl : i = len := by omega
    simp (disch := omega) only [laws_heldLogRecordS_v1.l2, laws_heldLogRecordS_v1.l2S, dF, cond_false]
  | d + 1, i, n + 1, hi, hn => by
    have m1 := hM (1 + i * 2) (by omega)
    have m2 := hM (1 + i * 2 + 1) (by omega)
    have w1 : IntKind.wrap .i64 (((1 + i * 2 : Nat) : Int) + 1) = ((1 + i * 2 + 1 : Nat) : Int) := by rw [w64 (by omega) (by omega)]; omega
    have w2 : IntKind.wrap .i64 (((1 + i * 2 + 1 : Nat) : Int) + 1) = ((1 + (i + 1) * 2 : Nat) : Int) := by rw [w64 (by omega) (by omega)]; omega
    have w3 : IntKind.wrap .i64 ((i : Int) + 1) = ((i + 1 : Nat) : Int) := by rw [w64 (by omega) (by omega)]; omega
    have g1 : gStr (List.getD x (0 + i * 2 + 0) .undef) = some (B (M (1 + i * 2))) := by
      rw [List.getD_eq_getElem?_getD, hm _ (by omega)]
      have : 1 + (0 + i * 2 + 0) = 1 + i * 2 := by omega
      rw [this]; rfl
    have g2 : gStr (List.getD x (0 + i * 2 + 1) .undef) = some (B (M (1 + i * 2 + 1))) := by
      rw [List.getD_eq_getElem?_getD, hm _ (by omega)]
      have : 1 + (0 + i * 2 + 1) = 1 + i * 2 + 1 := by omega
      rw [this]; rfl
    have ih := held_loop n0 hM len hl K0 K x hm d (i + 1) n (by omega) (by omega)
    simp (disch := omega) only [laws_heldLogRecordS_v1.l2, laws_heldLogRecordS_v1.l2S, dT, cond_true, cond_false, Bool.and_self, m1, m2, bind_some', w1, w2, w3, Int.toNat_natCast, g1, g2, beq_self_eq_true, Bool.not_true, ih]
theorem logRecords_law (n0 : Nat) (hn0 : 2 ^ 40 ≤ n0) (d p : ByteArray) (n : Int) (hd : d.size < 2 ^ 63) (hp : p.size < 2 ^ 63) : laws_FnExactLogRecords_o.f n0 d p n = some true := by
  by_cases h : (d.size : Int) + (p.size : Int) ≤ 1048576
  · have hL1 := L_len d
    have hL2 := L_len p
    have g : ¬ (1048576 - (d.size : Int) - (p.size : Int) < 0) := by omega
    have e1 := records_spec n0 (L d) (L p) n (by omega) (by omega) hn0
    have e2 := recordsO_impl n0 (L d) (L p) n (by omega) (by omega) hn0
    rw [B_L, B_L] at e1 e2
    cases v : validL (L d) (L p) n
    · obtain ⟨c1, c2, c3⟩ := empty_eq n0 hn0
      have hr : recsL (L d) (L p) n = [] := by unfold recsL; rw [v]; rfl
      rw [v, hr] at e1
      rw [v] at e2
      simp only [Bool.false_eq_true, if_false] at e2
      have f0 : flatE [] = [] := rfl
      simp only [f0, List.length_nil] at e1
      have k1 : ¬ ((1 : Int) < 0) := by omega
      simp only [laws_FnExactLogRecords_o.f, szLog_eq n0 d p n hd hp, bind_some', if_pos h, dF g, cond_false, laws_toLog.f, e1, e2, Sum.elim_inl, c1, c2, c3, beq_self_eq_true, Bool.not_true, dF k1, bne_self_eq_false]
    · rw [v] at e1 e2
      simp only [if_true] at e2
      have hlen : (recsL (L d) (L p) n).length ≤ 60 := by
        unfold recsL; rw [v, if_pos rfl]; exact (opens_pre 60 _ 0).2.1
      generalize recsL (L d) (L p) n = R at *
      have c1 := eqO_eq n0 R (by omega) hn0
      obtain ⟨M, hM⟩ : ∃ M : Nat → List UInt8, ∀ k : Nat, k ≤ 1000 → laws_markText.f n0 (k : Int) = some (B (M k)) := by
        refine ⟨fun k => if hk : k ≤ 1000 then (markText_ok n0 hn0 k hk).choose else [], fun k hk => ?_⟩
        simp only [hk, dif_pos]
        exact (markText_ok n0 hn0 k hk).choose_spec
      obtain ⟨x, m1, m2, m3⟩ := mark_loop n0 hM R.length hlen (fun y26 y27 => some ((y26, y27))) R.length 0 n0 (flatE R) (by omega) (by omega) (flatE_len R) (fun j hj => by omega)
      have c2 : laws_markLogRecordS_v1.f n0 R.length 1 (flatE R) = some (((1 + R.length * 2 : Nat) : Int), x) := m1
      have c3 : laws_heldLogRecordS_v1.f n0 R.length 1 x = some (((1 + R.length * 2 : Nat) : Int), x) := held_loop n0 hM R.length hlen _ _ x m3 R.length 0 n0 (by omega) (by omega)
      have k1 : ¬ (((1 + R.length * 2 : Nat) : Int) < 0) := by omega
      simp only [laws_FnExactLogRecords_o.f, szLog_eq n0 d p n hd hp, bind_some', if_pos h, dF g, cond_false, laws_toLog.f, e1, e2, Sum.elim_inr, c1, c2, c3, beq_self_eq_true, Bool.not_true, dF k1, bne_self_eq_false]
  · simp only [laws_FnExactLogRecords_o.f, szLog_eq n0 d p n hd hp, bind_some', if_neg h]
    rfl
end Go.Pu
