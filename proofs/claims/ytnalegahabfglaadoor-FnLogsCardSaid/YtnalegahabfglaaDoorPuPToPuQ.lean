/- Texts of the claim, merged: PuP, PuQ. No condition. -/
import Derived.Test.YtnalegahabfglaaDoorPuBToPuO
set_option linter.all false
set_option linter.unusedVariables false
set_option linter.unusedSimpArgs false
section
set_option linter.unusedSimpArgs false
open Go Go.Ab
namespace Go.Pu
theorem drawRecord_ok (n0 : Nat) {code : List AV} {n : Nat} (hc : CodeOk code n) :
    ∃ c r, spec_DrawIsValidRecord.f n0 code n = some (B c, B r) ∧ c.length ≤ 7 ∧ r.length ≤ 5 := by
  obtain ⟨c, r, t, s, e1, l1, l2, _, _⟩ := logRecord_ok n0 hc 0 (at' := 0) (by omega) (by omega)
  exact ⟨c, r, by simp only [spec_DrawIsValidRecord.f, e1, bind_some'], l1, l2⟩
theorem drawEncode_ok (n0 : Nat) {code : List AV} {n : Nat} (hc : CodeOk code n) :
    ∃ k c r, spec_DrawEncodeRecord.f n0 code n = some (k, B c, B r) ∧ k ∈ ([0, 1, 12, 59, 60, -1] : List Int) ∧ c.length ≤ 7 ∧ r.length ≤ 5 := by
  obtain ⟨k, t, s, e1, m1, a1, a2⟩ := among_ok n0 hc [0, 1, 12, 59, 60, -1] (by decide) (by decide) 0 (at' := 0) (by omega) (by omega)
  obtain ⟨c, r, t2, s2, e2, l1, l2, _, _⟩ := logRecord_ok n0 hc s (at' := t) (by omega) (by omega)
  have f1 : spec_l1Cur_among.f n0 6 code n 0 0 [Go.Ab.AV.int Go.IntKind.i64 0, Go.Ab.AV.int Go.IntKind.i64 1, Go.Ab.AV.int Go.IntKind.i64 12, Go.Ab.AV.int Go.IntKind.i64 59, Go.Ab.AV.int Go.IntKind.i64 60, Go.Ab.AV.int Go.IntKind.i64 (-1)] = _ := e1
  exact ⟨k, c, r, by simp only [spec_DrawEncodeRecord.f, f1, e2, bind_some'], m1, l1, l2⟩
theorem drawLog_ok (n0 : Nat) (hn0 : 2 ^ 40 ≤ n0) {code : List AV} {n : Nat} (hc : CodeOk code n) :
    ∃ d p c, spec_DrawIsValidLog.f n0 code n = some (B d, B p, c) ∧ d.length + p.length ≤ 1300 := by
  obtain ⟨d, p, c, t, s, e1, l1, _, _⟩ := anyLog_ok n0 hn0 hc 0 (at' := 0) (by omega) (by omega)
  exact ⟨d, p, c, by simp only [spec_DrawIsValidLog.f, e1, bind_some'], l1⟩
theorem drawAppend_loop (n0 : Nat) (hn0 : 2 ^ 40 ≤ n0) (k : ByteArray → ByteArray → Int → ByteArray → ByteArray → List AV → Nat → Int → Int → ByteArray → ByteArray → Int → Option (ByteArray × ByteArray × Int × ByteArray × ByteArray)) (u1 u2 : ByteArray) (u3 : Int) (u4 u5 : ByteArray) (code : List AV) (n : Nat) (t s : Int) :
    ∀ (m fuel : Nat) (d p : List UInt8) (c : Int), m < fuel → m ≤ 60 → d.length + p.length + 100 * m ≤ 10000 →
      ∃ d' p' c', spec_DrawAppendRecord.l6 n0 k fuel (m : Int) u1 u2 u3 u4 u5 code n t s (B d) (B p) c = k u1 u2 u3 u4 u5 code n t s (B d') (B p') c' ∧ d'.length + p'.length ≤ d.length + p.length + 100 * m
  | 0, fuel + 1, d, p, c, hf, _, hl => by
    refine ⟨d, p, c, ?_, by omega⟩
    simp (disch := omega) only [spec_DrawAppendRecord.l6, spec_DrawAppendRecord.l6S, dF, cond_false]
  | m + 1, fuel + 1, d, p, c, hf, hm, hl => by
    have e2 := append_spec n0 d p c [120] [] (by omega) (by omega) (by simp) (by simp) hn0
    have hlen := appendL_len d p c [120] [] (by simp) (by simp)
    have hw : IntKind.wrap .i64 (((m + 1 : Nat) : Int) - 1) = (m : Int) := by rw [w64 (by omega) (by omega)]; omega
    generalize hA : appendL d p c [120] [] = A at *
    obtain ⟨d1, p1, c1, r1⟩ := A
    dsimp only at e2 hlen
    obtain ⟨d', p', c', ih, g1⟩ := drawAppend_loop n0 hn0 k u1 u2 u3 u4 u5 code n t s m fuel d1 p1 c1 (by omega) (by omega) (by omega)
    refine ⟨d', p', c', ?_, by omega⟩
    simp (disch := omega) only [spec_DrawAppendRecord.l6, spec_DrawAppendRecord.l6S, dT, cond_true, e2, bind_some', hw, ih]
theorem drawAppend_ok (n0 : Nat) (hn0 : 2 ^ 40 ≤ n0) {code : List AV} {n : Nat} (hc : CodeOk code n) :
    ∃ d p m c r, spec_DrawAppendRecord.f n0 code n = some (B d, B p, m, B c, B r) ∧ d.length + p.length ≤ 7000 ∧ c.length ≤ 7 ∧ r.length ≤ 5 := by
  obtain ⟨d, p, m, t, s, e1, l1, a1, a2⟩ := anyLog_ok n0 hn0 hc 0 (at' := 0) (by omega) (by omega)
  obtain ⟨b, t2, s2, e2, a3, a4⟩ := one_ok n0 hc 40 s (at' := t) (by omega) (by omega)
  cases b
  · obtain ⟨c, r, t3, s3, e3, l2, l3, _, _⟩ := logRecord_ok n0 hc s2 (at' := t2) (by omega) (by omega)
    exact ⟨d, p, m, c, r, by simp only [spec_DrawAppendRecord.f, e1, e2, e3, bind_some', cond_false], by omega, l2, l3⟩
  · obtain ⟨k, t3, s3, e3, k0, k1, _, a5, a6⟩ := pick_ok n0 hc 2 s2 (at' := t2) (by omega) (by omega)
    obtain ⟨c, r, t4, s4, e4, l2, l3, _, _⟩ := logRecord_ok n0 hc s3 (at' := t3) (by omega) (by omega)
    have hk1 := k1 (by omega)
    have hw : IntKind.wrap .i64 (59 + k) = (((59 + k).toNat : Nat) : Int) := by rw [w64 (by omega) (by omega)]; omega
    obtain ⟨d', p', c', ih, g1⟩ := drawAppend_loop n0 hn0 (fun y43 y44 y45 y46 y47 y48 y49 y50 y51 y52 y53 y54 => (spec_l1Cur_logRecord.f n0 y48 y49 y50 y51).bind fun v56 => some ((y52, y53, y54, Prod.fst v56, Prod.fst (Prod.snd v56)))) (B []) (B []) 0 (B []) (B []) code n t3 s3 (59 + k).toNat n0 [] [] 0 (by omega) (by omega) (by simp; omega)
    refine ⟨d', p', c', c, r, ?_, by simp at g1; omega, l2, l3⟩
    simp only [spec_DrawAppendRecord.f, e1, e2, e3, bind_some', cond_true, hw]
    refine ih.trans ?_
    simp only [e4, bind_some']
end Go.Pu
end

section
set_option linter.unusedSimpArgs false
open Go Go.Ab
namespace Go.Pu
theorem validL_iff {d p : List UInt8} {n : Int} : validL d p n = true ↔ d.length + p.length ≤ 30000 ∧ (linesE 0 (opens 60 (d ++ p) 0)).length = d.length + p.length ∧ (linesE 0 (opens 60 d 0)).length = d.length ∧ ((opens 60 (d ++ p) 0).length : Int) = n := by
  unfold validL
  simp only [Bool.and_eq_true, decide_eq_true_eq, beq_iff_eq]
theorem validL_sync {d p : List UInt8} {n : Int} (h : validL d p n = true) : validL (d ++ p) [] n = true := by
  obtain ⟨h1, h2, _, h4⟩ := validL_iff.1 h
  refine validL_iff.2 ⟨by simpa using h1, ?_, ?_, ?_⟩
  · simpa using h2
  · simpa using h2
  · simpa using h4
theorem recsL_sync {d p : List UInt8} {n : Int} (h : validL d p n = true) : recsL (d ++ p) [] n = recsL d p n := by
  simp only [recsL, validL_sync h, h, if_true, List.append_nil]
theorem append_ok {d p : List UInt8} {n : Int} {c r : List UInt8} (h : validL d p n = true) (hv : validE c r = true) (hn : n ≠ 60) (hl : d.length + p.length ≤ 20000) :
    validL d (p ++ lineE n.toNat c r) (n + 1) = true ∧ opens 60 (d ++ (p ++ lineE n.toNat c r)) 0 = opens 60 (d ++ p) 0 ++ [(c, r)] := by
  obtain ⟨h1, h2, h3, h4⟩ := validL_iff.1 h
  obtain ⟨n1, n2, _, _⟩ := validL_n h
  have hV := validE_iff.1 hv
  have ha := opens_pre 60 (d ++ p) 0
  have hall : linesE 0 (opens 60 (d ++ p) 0) = d ++ p := read_all (by rw [h2, List.length_append])
  have hk : (opens 60 (d ++ p) 0).length = n.toNat := by omega
  have hline : d ++ (p ++ lineE n.toNat c r) = linesE 0 (opens 60 (d ++ p) 0 ++ [(c, r)]) ++ [] := by
    rw [linesE_append, hall, hk]
    simp only [linesE, Nat.zero_add, List.append_nil, List.append_assoc]
  have hop : opens 60 (d ++ (p ++ lineE n.toNat c r)) 0 = opens 60 (d ++ p) 0 ++ [(c, r)] := by
    rw [hline, opens_lines _ 60 0 [] (by
      intro e he
      rcases List.mem_append.1 he with he | he
      · exact ha.1 e he
      · rw [List.mem_singleton] at he; subst he; exact hV) (by simp; omega), opens_nil, List.append_nil]
  refine ⟨validL_iff.2 ⟨?_, ?_, h3, ?_⟩, hop⟩
  · have hl2 := sealL_len (bodyE n.toNat c r)
    have hb := body_len hV (k := n.toNat) (by omega)
    have hll : (lineE n.toNat c r).length ≤ 430 := by simp [lineE]; omega
    rw [List.length_append]; omega
  · rw [hop]
    have : linesE 0 (opens 60 (d ++ p) 0 ++ [(c, r)]) = d ++ (p ++ lineE n.toNat c r) := by rw [hline, List.append_nil]
    rw [this]; simp
  · rw [hop]; simp; omega
theorem encode_both (n0 : Nat) (hn0 : 2 ^ 40 ≤ n0) {k : Int} (hk : k ∈ ([0, 1, 12, 59, 60, -1] : List Int)) (c r : List UInt8) (hc : c.length ≤ 7) (hr : r.length ≤ 5) :
    ∃ x b, impl_EncodeRecord.f n0 k (B c) (B r) = some (B x, b) ∧ spec_EncodeRecord.f n0 k (B c) (B r) = some (B x, b) := by
  by_cases h : k < 0 ∨ 60 ≤ k
  · exact ⟨[], false, (encode_neg n0 k h c r).2, (encode_neg n0 k h c r).1⟩
  · have hkk : ((k.toNat : Nat) : Int) = k := Int.toNat_of_nonneg (by omega)
    have e1 := encode_impl n0 k.toNat c r (by omega) (by omega) hn0 (by omega)
    have e2 := encode_spec n0 k.toNat c r (by omega) (by omega) hn0 (by omega)
    rw [hkk] at e1 e2
    split at e1
    · rename_i hh; rw [if_pos hh] at e2; exact ⟨_, _, e1, e2⟩
    · rename_i hh; rw [if_neg hh] at e2; exact ⟨_, _, e1, e2⟩
theorem logs_law (n0 : Nat) (hn0 : 2 ^ 40 ≤ n0) {code : List AV} {n : Nat} (hc : n ≤ 65536 → CodeOk code n) : laws_FnLogs.f n0 code n = some true := by
  by_cases hb : (n : Int) > 65536
  · simp only [laws_FnLogs.f, laws_vBig.f, dT hb, bind_some', cond_true]
  have hn : n ≤ 65536 := by omega
  replace hc := hc hn
  obtain ⟨c1, r1, e1, l1, l2⟩ := drawRecord_ok n0 hc
  obtain ⟨code1, m1, e2, hc1, _⟩ := vCut_ok n0 hc hn 1 (by omega) (by omega)
  obtain ⟨k, c2, r2, e3, hk, l3, l4⟩ := drawEncode_ok n0 hc1
  obtain ⟨x, b, e4, e5⟩ := encode_both n0 hn0 hk c2 r2 l3 l4
  obtain ⟨code2, m2, e6, hc2, _⟩ := vCut_ok n0 hc hn 2 (by omega) (by omega)
  obtain ⟨d2, p2, n2, e7, l5⟩ := drawLog_ok n0 hn0 hc2
  obtain ⟨code3, m3, e8, hc3, _⟩ := vCut_ok n0 hc hn 3 (by omega) (by omega)
  obtain ⟨d, p, m, c, r, e9, l6, l7, l8⟩ := drawAppend_ok n0 hn0 hc3
  have e10 := append_impl n0 d p m c r (by omega) (by omega) (by omega) (by omega) hn0
  have e11 := append_spec n0 d p m c r (by omega) (by omega) (by omega) (by omega) hn0
  have e12 := record_impl n0 c1 r1 (by omega) (by omega) hn0
  have e13 := record_spec n0 c1 r1 (by omega) (by omega) hn0
  have e14 := valid_impl n0 d2 p2 n2 (by omega) (by omega) hn0
  have e15 := valid_spec n0 d2 p2 n2 (by omega) (by omega) hn0
  have e16 := sync_impl n0 d p m (by omega) (by omega) hn0
  have e17 := sync_spec n0 d p m (by omega) (by omega) hn0
  have e18 := records_impl n0 d p m (by omega) (by omega) hn0
  have e19 := records_spec n0 d p m (by omega) (by omega) hn0
  have hrl : (recsL d p m).length ≤ 60 := by
    unfold recsL; split
    · exact (opens_pre 60 (d ++ p) 0).2.1
    · simp
  have e20 := vRecords_eq n0 (recsL d p m) (recsL d p m) (by omega) hn0
  have hb' : ¬ ((n : Int) > 65536) := hb
  unfold appendL at e10 e11
  cases v : validL d p m
  · simp only [v, Bool.false_and, Bool.false_eq_true, if_false] at e10 e11 e16 e17 e18 e19
    have e21 := records_impl n0 [] [] 0 (by simp) (by simp) hn0
    simp only [laws_FnLogs.f, laws_vBig.f, dF hb', bind_some', cond_false, cond_true, e1, e2, e3, e4, e5, e6, e7, e8, e9, e10, e11, e12, e13, e14, e15, e16, e17, e18, e19, e20, e21, spec_IsValidRecord.f, spec_IsValidLog.f, beq_self_eq_true, Bool.not_true, Bool.and_self, Bool.and_true, bneF, bneT, bne_self_eq_false, decide_true]
    simp
  · have v' := validL_sync v
    have e21 := records_impl n0 (d ++ p) [] m (by simp; omega) (by simp) hn0
    rw [recsL_sync v, v'] at e21
    have hd : (decide (recsL d p m = recsL d p m)) = true := by simp
    rw [hd] at e20
    simp only [v, if_true] at e16 e17 e18 e19
    by_cases w : validE c r = true
    · by_cases h60 : m = 60
      · subst h60
        simp only [v, w, Bool.and_self, if_true, if_pos (rfl : (60 : Int) = 60)] at e10 e11
        simp only [laws_FnLogs.f, laws_vBig.f, dF hb', bind_some', cond_false, cond_true, e1, e2, e3, e4, e5, e6, e7, e8, e9, e10, e11, e12, e13, e14, e15, e16, e17, e18, e19, e20, e21, spec_IsValidRecord.f, spec_IsValidLog.f, beq_self_eq_true, Bool.not_true, Bool.and_self, Bool.and_true, bne_self_eq_false]
        rfl
      · simp only [v, w, if_neg h60, Bool.and_self, if_true] at e10 e11
        obtain ⟨g1, g2⟩ := append_ok v w h60 (by omega)
        obtain ⟨n1, n2, _, _⟩ := validL_n v
        have hl2 := sealL_len (bodyE m.toNat c r)
        have hbl := body_len (validE_iff.1 w) (k := m.toNat) (by omega)
        have hll : (lineE m.toNat c r).length ≤ 430 := by simp [lineE]; omega
        have e22 := records_impl n0 d (p ++ lineE m.toNat c r) (m + 1) (by omega) (by simp; omega) hn0
        have e23 := valid_impl n0 d (p ++ lineE m.toNat c r) (m + 1) (by omega) (by simp; omega) hn0
        rw [g1] at e22 e23
        have hr2 : recsL d (p ++ lineE m.toNat c r) (m + 1) = recsL d p m ++ [(c, r)] := by
          simp only [recsL, g1, v, if_true, g2]
        rw [hr2] at e22
        have hlen : (recsL d p m ++ [(c, r)]).length = (recsL d p m).length + 1 := by simp
        have htake : List.take ((recsL d p m).length * 2) (flatE (recsL d p m ++ [(c, r)])) = flatE (recsL d p m) := by
          have hf : flatE (recsL d p m ++ [(c, r)]) = flatE (recsL d p m) ++ flatE [(c, r)] := by simp [flatE]
          rw [hf, ← flatE_len, List.take_left]
        have hfl : (flatE (recsL d p m ++ [(c, r)])).length = ((recsL d p m).length + 1) * 2 := by rw [flatE_len, hlen]
        obtain ⟨q1, q2⟩ := flat_get (recsL d p m ++ [(c, r)]) (recsL d p m).length (c, r) (by simp)
        have hw : IntKind.i64.wrap (((recsL d p m).length : Int) + 1) = (((recsL d p m).length + 1 : Nat) : Int) := by rw [w64 (by omega) (by omega)]; omega
        have htn : Int.toNat ((recsL d p m).length : Int) = (recsL d p m).length := Int.toNat_natCast _
        simp (disch := omega) only [laws_FnLogs.f, laws_vBig.f, dF hb', bind_some', cond_false, cond_true, e1, e2, e3, e4, e5, e6, e7, e8, e9, e10, e11, e12, e13, e14, e15, e16, e17, e18, e19, e20, e21, e22, e23, spec_IsValidRecord.f, spec_IsValidLog.f, beq_self_eq_true, Bool.not_true, Bool.and_self, Bool.and_true, bne_self_eq_false, hlen, hw, dT, htake, hfl, htn, Nat.sub_zero, q1, q2]
    · have w' : validE c r = false := by simpa using w
      simp only [v, w', Bool.and_false, Bool.false_eq_true, if_false] at e10 e11
      simp only [laws_FnLogs.f, laws_vBig.f, dF hb', bind_some', cond_false, cond_true, e1, e2, e3, e4, e5, e6, e7, e8, e9, e10, e11, e12, e13, e14, e15, e16, e17, e18, e19, e20, e21, spec_IsValidRecord.f, spec_IsValidLog.f, beq_self_eq_true, Bool.not_true, Bool.and_self, Bool.and_true, bne_self_eq_false]
      rfl
end Go.Pu
end
