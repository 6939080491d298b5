/- Texts of the claim, merged: PuP, PuQ, PuR, PuS, PuT. No condition. -/
import Derived.Test.YtnalegahabfglaaDoorPuBToPuO
set_option linter.all false
set_option linter.unusedVariables false
set_option linter.unusedSimpArgs false
section
set_option linter.unusedSimpArgs false
open Go Go.Ab
namespace Go.Pu
theorem drawRecord_ok (n0 : Nat) {code : List AV} {n : Nat} (hc : CodeOk code n) :
    ∃ c r, spec_DrawIsValidRecord.f n0 code n = some (B c, B r) ∧ c.length ≤ 7 ∧ r.length ≤ 5 := by
  obtain ⟨c, r, t, s, e1, l1, l2, _, _⟩ := logRecord_ok n0 hc 0 (at' := 0) (by omega) (by omega)
  exact ⟨c, r, by simp only [spec_DrawIsValidRecord.f, e1, bind_some'], l1, l2⟩
theorem drawEncode_ok (n0 : Nat) {code : List AV} {n : Nat} (hc : CodeOk code n) :
    ∃ k c r, spec_DrawEncodeRecord.f n0 code n = some (k, B c, B r) ∧ k ∈ ([0, 1, 12, 59, 60, -1] : List Int) ∧ c.length ≤ 7 ∧ r.length ≤ 5 := by
  obtain ⟨k, t, s, e1, m1, a1, a2⟩ := among_ok n0 hc [0, 1, 12, 59, 60, -1] (by decide) (by decide) 0 (at' := 0) (by omega) (by omega)
  obtain ⟨c, r, t2, s2, e2, l1, l2, _, _⟩ := logRecord_ok n0 hc s (at' := t) (by omega) (by omega)
  have f1 : spec_l1Cur_among.f n0 6 code n 0 0 [Go.Ab.AV.int Go.IntKind.i64 0, Go.Ab.AV.int Go.IntKind.i64 1, Go.Ab.AV.int Go.IntKind.i64 12, Go.Ab.AV.int Go.IntKind.i64 59, Go.Ab.AV.int Go.IntKind.i64 60, Go.Ab.AV.int Go.IntKind.i64 (-1)] = _ := e1
  exact ⟨k, c, r, by simp only [spec_DrawEncodeRecord.f, f1, e2, bind_some'], m1, l1, l2⟩
theorem drawLog_ok (n0 : Nat) (hn0 : 2 ^ 40 ≤ n0) {code : List AV} {n : Nat} (hc : CodeOk code n) :
    ∃ d p c, spec_DrawIsValidLog.f n0 code n = some (B d, B p, c) ∧ d.length + p.length ≤ 1300 := by
  obtain ⟨d, p, c, t, s, e1, l1, _, _⟩ := anyLog_ok n0 hn0 hc 0 (at' := 0) (by omega) (by omega)
  exact ⟨d, p, c, by simp only [spec_DrawIsValidLog.f, e1, bind_some'], l1⟩
theorem drawAppend_loop (n0 : Nat) (hn0 : 2 ^ 40 ≤ n0) (k : ByteArray → ByteArray → Int → ByteArray → ByteArray → List AV → Nat → Int → Int → ByteArray → ByteArray → Int → Option (ByteArray × ByteArray × Int × ByteArray × ByteArray)) (u1 u2 : ByteArray) (u3 : Int) (u4 u5 : ByteArray) (code : List AV) (n : Nat) (t s : Int) :
    ∀ (m fuel : Nat) (d p : List UInt8) (c : Int), m < fuel → m ≤ 60 → d.length + p.length + 100 * m ≤ 10000 →
      ∃ d' p' c', spec_DrawAppendRecord.l6 n0 k fuel (m : Int) u1 u2 u3 u4 u5 code n t s (B d) (B p) c = k u1 u2 u3 u4 u5 code n t s (B d') (B p') c' ∧ d'.length + p'.length ≤ d.length + p.length + 100 * m
  | 0, fuel + 1, d, p, c, hf, _, hl => by
    refine ⟨d, p, c, ?_, by omega⟩
    simp (disch := omega) only [spec_DrawAppendRecord.l6, spec_DrawAppendRecord.l6S, dF, cond_false]
  | m + 1, fuel + 1, d, p, c, hf, hm, hl => by
    have e2 := append_spec n0 d p c [120] [] (by omega) (by omega) (by simp) (by simp) hn0
    have hlen := appendL_len d p c [120] [] (by simp) (by simp)
    have hw : IntKind.wrap .i64 (((m + 1 : Nat) : Int) - 1) = (m : Int) := by rw [w64 (by omega) (by omega)]; omega
    generalize hA : appendL d p c [120] [] = A at *
    obtain ⟨d1, p1, c1, r1⟩ := A
    dsimp only at e2 hlen
    obtain ⟨d', p', c', ih, g1⟩ := drawAppend_loop n0 hn0 k u1 u2 u3 u4 u5 code n t s m fuel d1 p1 c1 (by omega) (by omega) (by omega)
    refine ⟨d', p', c', ?_, by omega⟩
    simp (disch := omega) only [spec_DrawAppendRecord.l6, spec_DrawAppendRecord.l6S, dT, cond_true, e2, bind_some', hw, ih]
theorem drawAppend_ok (n0 : Nat) (hn0 : 2 ^ 40 ≤ n0) {code : List AV} {n : Nat} (hc : CodeOk code n) :
    ∃ d p m c r, spec_DrawAppendRecord.f n0 code n = some (B d, B p, m, B c, B r) ∧ d.length + p.length ≤ 7000 ∧ c.length ≤ 7 ∧ r.length ≤ 5 := by
  obtain ⟨d, p, m, t, s, e1, l1, a1, a2⟩ := anyLog_ok n0 hn0 hc 0 (at' := 0) (by omega) (by omega)
  obtain ⟨b, t2, s2, e2, a3, a4⟩ := one_ok n0 hc 40 s (at' := t) (by omega) (by omega)
  cases b
  · obtain ⟨c, r, t3, s3, e3, l2, l3, _, _⟩ := logRecord_ok n0 hc s2 (at' := t2) (by omega) (by omega)
    exact ⟨d, p, m, c, r, by simp only [spec_DrawAppendRecord.f, e1, e2, e3, bind_some', cond_false], by omega, l2, l3⟩
  · obtain ⟨k, t3, s3, e3, k0, k1, _, a5, a6⟩ := pick_ok n0 hc 2 s2 (at' := t2) (by omega) (by omega)
    obtain ⟨c, r, t4, s4, e4, l2, l3, _, _⟩ := logRecord_ok n0 hc s3 (at' := t3) (by omega) (by omega)
    have hk1 := k1 (by omega)
    have hw : IntKind.wrap .i64 (59 + k) = (((59 + k).toNat : Nat) : Int) := by rw [w64 (by omega) (by omega)]; omega
    obtain ⟨d', p', c', ih, g1⟩ := drawAppend_loop n0 hn0 (fun y43 y44 y45 y46 y47 y48 y49 y50 y51 y52 y53 y54 => (spec_l1Cur_logRecord.f n0 y48 y49 y50 y51).bind fun v56 => some ((y52, y53, y54, Prod.fst v56, Prod.fst (Prod.snd v56)))) (B []) (B []) 0 (B []) (B []) code n t3 s3 (59 + k).toNat n0 [] [] 0 (by omega) (by omega) (by simp; omega)
    refine ⟨d', p', c', c, r, ?_, by simp at g1; omega, l2, l3⟩
    simp only [spec_DrawAppendRecord.f, e1, e2, e3, bind_some', cond_true, hw]
    refine ih.trans ?_
    simp only [e4, bind_some']
end Go.Pu
end

section
set_option linter.unusedSimpArgs false
open Go Go.Ab
namespace Go.Pu
theorem validL_iff {d p : List UInt8} {n : Int} : validL d p n = true ↔ d.length + p.length ≤ 30000 ∧ (linesE 0 (opens 60 (d ++ p) 0)).length = d.length + p.length ∧ (linesE 0 (opens 60 d 0)).length = d.length ∧ ((opens 60 (d ++ p) 0).length : Int) = n := by
  unfold validL
  simp only [Bool.and_eq_true, decide_eq_true_eq, beq_iff_eq]
theorem validL_sync {d p : List UInt8} {n : Int} (h : validL d p n = true) : validL (d ++ p) [] n = true := by
  obtain ⟨h1, h2, _, h4⟩ := validL_iff.1 h
  refine validL_iff.2 ⟨by simpa using h1, ?_, ?_, ?_⟩
  · simpa using h2
  · simpa using h2
  · simpa using h4
theorem recsL_sync {d p : List UInt8} {n : Int} (h : validL d p n = true) : recsL (d ++ p) [] n = recsL d p n := by
  simp only [recsL, validL_sync h, h, if_true, List.append_nil]
theorem append_ok {d p : List UInt8} {n : Int} {c r : List UInt8} (h : validL d p n = true) (hv : validE c r = true) (hn : n ≠ 60) (hl : d.length + p.length ≤ 20000) :
    validL d (p ++ lineE n.toNat c r) (n + 1) = true ∧ opens 60 (d ++ (p ++ lineE n.toNat c r)) 0 = opens 60 (d ++ p) 0 ++ [(c, r)] := by
  obtain ⟨h1, h2, h3, h4⟩ := validL_iff.1 h
  obtain ⟨n1, n2, _, _⟩ := validL_n h
  have hV := validE_iff.1 hv
  have ha := opens_pre 60 (d ++ p) 0
  have hall : linesE 0 (opens 60 (d ++ p) 0) = d ++ p := read_all (by rw [h2, List.length_append])
  have hk : (opens 60 (d ++ p) 0).length = n.toNat := by omega
  have hline : d ++ (p ++ lineE n.toNat c r) = linesE 0 (opens 60 (d ++ p) 0 ++ [(c, r)]) ++ [] := by
    rw [linesE_append, hall, hk]
    simp only [linesE, Nat.zero_add, List.append_nil, List.append_assoc]
  have hop : opens 60 (d ++ (p ++ lineE n.toNat c r)) 0 = opens 60 (d ++ p) 0 ++ [(c, r)] := by
    rw [hline, opens_lines _ 60 0 [] (by
      intro e he
      rcases List.mem_append.1 he with he | he
      · exact ha.1 e he
      · rw [List.mem_singleton] at he; subst he; exact hV) (by simp; omega), opens_nil, List.append_nil]
  refine ⟨validL_iff.2 ⟨?_, ?_, h3, ?_⟩, hop⟩
  · have hl2 := sealL_len (bodyE n.toNat c r)
    have hb := body_len hV (k := n.toNat) (by omega)
    have hll : (lineE n.toNat c r).length ≤ 430 := by simp [lineE]; omega
    rw [List.length_append]; omega
  · rw [hop]
    have : linesE 0 (opens 60 (d ++ p) 0 ++ [(c, r)]) = d ++ (p ++ lineE n.toNat c r) := by rw [hline, List.append_nil]
    rw [this]; simp
  · rw [hop]; simp; omega
theorem encode_both (n0 : Nat) (hn0 : 2 ^ 40 ≤ n0) {k : Int} (hk : k ∈ ([0, 1, 12, 59, 60, -1] : List Int)) (c r : List UInt8) (hc : c.length ≤ 7) (hr : r.length ≤ 5) :
    ∃ x b, impl_EncodeRecord.f n0 k (B c) (B r) = some (B x, b) ∧ spec_EncodeRecord.f n0 k (B c) (B r) = some (B x, b) := by
  by_cases h : k < 0 ∨ 60 ≤ k
  · exact ⟨[], false, (encode_neg n0 k h c r).2, (encode_neg n0 k h c r).1⟩
  · have hkk : ((k.toNat : Nat) : Int) = k := Int.toNat_of_nonneg (by omega)
    have e1 := encode_impl n0 k.toNat c r (by omega) (by omega) hn0 (by omega)
    have e2 := encode_spec n0 k.toNat c r (by omega) (by omega) hn0 (by omega)
    rw [hkk] at e1 e2
    split at e1
    · rename_i hh; rw [if_pos hh] at e2; exact ⟨_, _, e1, e2⟩
    · rename_i hh; rw [if_neg hh] at e2; exact ⟨_, _, e1, e2⟩
theorem logs_law (n0 : Nat) (hn0 : 2 ^ 40 ≤ n0) {code : List AV} {n : Nat} (hc : n ≤ 65536 → CodeOk code n) : laws_FnLogs.f n0 code n = some true := by
  by_cases hb : (n : Int) > 65536
  · simp only [laws_FnLogs.f, laws_vBig.f, dT hb, bind_some', cond_true]
  have hn : n ≤ 65536 := by omega
  replace hc := hc hn
  obtain ⟨c1, r1, e1, l1, l2⟩ := drawRecord_ok n0 hc
  obtain ⟨code1, m1, e2, hc1, _⟩ := vCut_ok n0 hc hn 1 (by omega) (by omega)
  obtain ⟨k, c2, r2, e3, hk, l3, l4⟩ := drawEncode_ok n0 hc1
  obtain ⟨x, b, e4, e5⟩ := encode_both n0 hn0 hk c2 r2 l3 l4
  obtain ⟨code2, m2, e6, hc2, _⟩ := vCut_ok n0 hc hn 2 (by omega) (by omega)
  obtain ⟨d2, p2, n2, e7, l5⟩ := drawLog_ok n0 hn0 hc2
  obtain ⟨code3, m3, e8, hc3, _⟩ := vCut_ok n0 hc hn 3 (by omega) (by omega)
  obtain ⟨d, p, m, c, r, e9, l6, l7, l8⟩ := drawAppend_ok n0 hn0 hc3
  have e10 := append_impl n0 d p m c r (by omega) (by omega) (by omega) (by omega) hn0
  have e11 := append_spec n0 d p m c r (by omega) (by omega) (by omega) (by omega) hn0
  have e12 := record_impl n0 c1 r1 (by omega) (by omega) hn0
  have e13 := record_spec n0 c1 r1 (by omega) (by omega) hn0
  have e14 := valid_impl n0 d2 p2 n2 (by omega) (by omega) hn0
  have e15 := valid_spec n0 d2 p2 n2 (by omega) (by omega) hn0
  have e16 := sync_impl n0 d p m (by omega) (by omega) hn0
  have e17 := sync_spec n0 d p m (by omega) (by omega) hn0
  have e18 := records_impl n0 d p m (by omega) (by omega) hn0
  have e19 := records_spec n0 d p m (by omega) (by omega) hn0
  have hrl : (recsL d p m).length ≤ 60 := by
    unfold recsL; split
    · exact (opens_pre 60 (d ++ p) 0).2.1
    · simp
  have e20 := vRecords_eq n0 (recsL d p m) (recsL d p m) (by omega) hn0
  have hb' : ¬ ((n : Int) > 65536) := hb
  unfold appendL at e10 e11
  cases v : validL d p m
  · simp only [v, Bool.false_and, Bool.false_eq_true, if_false] at e10 e11 e16 e17 e18 e19
    have e21 := records_impl n0 [] [] 0 (by simp) (by simp) hn0
    simp only [laws_FnLogs.f, laws_vBig.f, dF hb', bind_some', cond_false, cond_true, e1, e2, e3, e4, e5, e6, e7, e8, e9, e10, e11, e12, e13, e14, e15, e16, e17, e18, e19, e20, e21, spec_IsValidRecord.f, spec_IsValidLog.f, beq_self_eq_true, Bool.not_true, Bool.and_self, Bool.and_true, bneF, bneT, bne_self_eq_false, decide_true]
    simp
  · have v' := validL_sync v
    have e21 := records_impl n0 (d ++ p) [] m (by simp; omega) (by simp) hn0
    rw [recsL_sync v, v'] at e21
    have hd : (decide (recsL d p m = recsL d p m)) = true := by simp
    rw [hd] at e20
    simp only [v, if_true] at e16 e17 e18 e19
    by_cases w : validE c r = true
    · by_cases h60 : m = 60
      · subst h60
        simp only [v, w, Bool.and_self, if_true, if_pos (rfl : (60 : Int) = 60)] at e10 e11
        simp only [laws_FnLogs.f, laws_vBig.f, dF hb', bind_some', cond_false, cond_true, e1, e2, e3, e4, e5, e6, e7, e8, e9, e10, e11, e12, e13, e14, e15, e16, e17, e18, e19, e20, e21, spec_IsValidRecord.f, spec_IsValidLog.f, beq_self_eq_true, Bool.not_true, Bool.and_self, Bool.and_true, bne_self_eq_false]
        rfl
      · simp only [v, w, if_neg h60, Bool.and_self, if_true] at e10 e11
        obtain ⟨g1, g2⟩ := append_ok v w h60 (by omega)
        obtain ⟨n1, n2, _, _⟩ := validL_n v
        have hl2 := sealL_len (bodyE m.toNat c r)
        have hbl := body_len (validE_iff.1 w) (k := m.toNat) (by omega)
        have hll : (lineE m.toNat c r).length ≤ 430 := by simp [lineE]; omega
        have e22 := records_impl n0 d (p ++ lineE m.toNat c r) (m + 1) (by omega) (by simp; omega) hn0
        have e23 := valid_impl n0 d (p ++ lineE m.toNat c r) (m + 1) (by omega) (by simp; omega) hn0
        rw [g1] at e22 e23
        have hr2 : recsL d (p ++ lineE m.toNat c r) (m + 1) = recsL d p m ++ [(c, r)] := by
          simp only [recsL, g1, v, if_true, g2]
        rw [hr2] at e22
        have hlen : (recsL d p m ++ [(c, r)]).length = (recsL d p m).length + 1 := by simp
        have htake : List.take ((recsL d p m).length * 2) (flatE (recsL d p m ++ [(c, r)])) = flatE (recsL d p m) := by
          have hf : flatE (recsL d p m ++ [(c, r)]) = flatE (recsL d p m) ++ flatE [(c, r)] := by simp [flatE]
          rw [hf, ← flatE_len, List.take_left]
        have hfl : (flatE (recsL d p m ++ [(c, r)])).length = ((recsL d p m).length + 1) * 2 := by rw [flatE_len, hlen]
        obtain ⟨q1, q2⟩ := flat_get (recsL d p m ++ [(c, r)]) (recsL d p m).length (c, r) (by simp)
        have hw : IntKind.i64.wrap (((recsL d p m).length : Int) + 1) = (((recsL d p m).length + 1 : Nat) : Int) := by rw [w64 (by omega) (by omega)]; omega
        have htn : Int.toNat ((recsL d p m).length : Int) = (recsL d p m).length := Int.toNat_natCast _
        simp (disch := omega) only [laws_FnLogs.f, laws_vBig.f, dF hb', bind_some', cond_false, cond_true, e1, e2, e3, e4, e5, e6, e7, e8, e9, e10, e11, e12, e13, e14, e15, e16, e17, e18, e19, e20, e21, e22, e23, spec_IsValidRecord.f, spec_IsValidLog.f, beq_self_eq_true, Bool.not_true, Bool.and_self, Bool.and_true, bne_self_eq_false, hlen, hw, dT, htake, hfl, htn, Nat.sub_zero, q1, q2]
    · have w' : validE c r = false := by simpa using w
      simp only [v, w', Bool.and_false, Bool.false_eq_true, if_false] at e10 e11
      simp only [laws_FnLogs.f, laws_vBig.f, dF hb', bind_some', cond_false, cond_true, e1, e2, e3, e4, e5, e6, e7, e8, e9, e10, e11, e12, e13, e14, e15, e16, e17, e18, e19, e20, e21, spec_IsValidRecord.f, spec_IsValidLog.f, beq_self_eq_true, Bool.not_true, Bool.and_self, Bool.and_true, bne_self_eq_false]
      rfl
end Go.Pu
end

section
set_option linter.unusedSimpArgs false
open Go Go.Ab
namespace Go.Pu
def natsL (l : List UInt8) : List Int := l.map fun b => (b.toNat : Int)
theorem bytesA_B (l : List UInt8) : bytesA (B l) = l.map fun b => .int .u8 (b.toNat : Int) := rfl
theorem bytesA_len (l : List UInt8) : (bytesA (B l)).length = l.length := by rw [bytesA_B, List.length_map]
theorem bytesL_B : ∀ l : List UInt8, bytesL (bytesA (B l)) = some (natsL l)
  | [] => rfl
  | b :: l => by
    have ih := bytesL_B l
    rw [bytesA_B] at ih ⊢
    simp only [List.map_cons, bytesL, gInt, beq_self_eq_true, ih, natsL, Option.map_some]
    rfl
theorem str_B (l : List UInt8) : strOfNums (natsL l) = B l := by
  unfold strOfNums natsL B
  congr 2
  rw [List.map_map]
  conv => rhs; rw [← List.map_id l]
  refine List.map_congr_left fun b _ => ?_
  simp
theorem take_all {α : Type} (l : List α) (n : Nat) (h : n = l.length) : l.take n = l := by subst h; exact List.take_length
theorem take_bytes (l : List UInt8) (n : Nat) (h : n = l.length) : List.take n (bytesA (B l)) = bytesA (B l) := take_all _ _ (by rw [bytesA_len, h])
theorem flip_get (x : List UInt8) (b : UInt8) : gInt .u8 (List.getD (bytesA (B (x ++ [b]))) x.length .undef) = some (b.toNat : Int) := by
  have : List.getD (bytesA (B (x ++ [b]))) x.length .undef = .int .u8 (b.toNat : Int) := by
    rw [bytesA_B]; simp
  rw [this]; rfl
theorem flip_set (x : List UInt8) (b : UInt8) : List.set (bytesA (B (x ++ [b]))) x.length (.int .u8 (IntKind.wrap .u8 (255 - (b.toNat : Int)))) = bytesA (B (x ++ [255 - b])) := by
  have hb := b.toNat_lt
  have hw : IntKind.wrap .u8 (255 - (b.toNat : Int)) = ((255 - b).toNat : Int) := by
    have h2 : (255 - b).toNat = 255 - b.toNat := by
      rw [UInt8.toNat_sub_of_le]
      · rfl
      · rw [UInt8.le_iff_toNat_le]; show b.toNat ≤ 255; omega
    rw [h2]
    unfold IntKind.wrap
    simp [IntKind.bits, IntKind.signed]
    omega
  rw [hw, bytesA_B, bytesA_B, List.map_append, List.map_append, ← List.length_map (f := fun b : UInt8 => AV.int .u8 (b.toNat : Int)), List.set_append_right _ _ (Nat.le_refl _), Nat.sub_self]
  rfl
def Crashed (d p : List UInt8) (kept : Int) (torn : Bool) (t : List UInt8) : Prop :=
  t = d ++ p.take kept.toNat ∨ torn = true ∧ ∃ y b, p.take kept.toNat = y ++ [b] ∧ t = d ++ y ++ [255 - b]
theorem crash_both (n0 : Nat) (hn0 : 2 ^ 40 ≤ n0) (d p : List UInt8) (m kept : Int) (torn : Bool) (hd : d.length < 2 ^ 28) (hp : p.length < 2 ^ 28) :
    ∃ t ok, impl_CrashLog.f n0 (B d) (B p) m kept torn = some (B t, ok) ∧ spec_CrashLog.f n0 (B d) (B p) m kept torn = some (B t, ok) ∧
      (ok = true → validL d p m = true ∧ 0 ≤ kept ∧ kept ≤ p.length ∧ Crashed d p kept torn t) := by
  have e1 := valid_spec n0 d p m hd hp hn0
  have e2 := valid_impl n0 d p m hd hp hn0
  have e3 := l1In_eq n0 kept 0 (p.length : Int)
  cases v : validL d p m
  · rw [v] at e1 e2
    refine ⟨[], false, ?_, ?_, fun h => by cases h⟩
    · simp only [impl_CrashLog.f, e2, bind_some', Bool.not_false, cond_true]
    · simp only [spec_CrashLog.f, e1, bind_some', Bool.not_false, cond_true]
  · rw [v] at e1 e2
    by_cases k0 : kept < 0
    · refine ⟨[], false, ?_, ?_, fun h => by cases h⟩
      · simp (disch := omega) only [impl_CrashLog.f, e2, bind_some', Bool.not_true, cond_true, cond_false, dT]
      · simp (disch := omega) only [spec_CrashLog.f, e1, B_size, e3, bind_some', Bool.not_true, Bool.not_false, Bool.false_and, Bool.and_false, cond_true, cond_false, dF]
    by_cases k1 : kept > (p.length : Int)
    · refine ⟨[], false, ?_, ?_, fun h => by cases h⟩
      · simp (disch := omega) only [impl_CrashLog.f, e2, bind_some', Bool.not_true, cond_true, cond_false, dT, dF, B_size]
      · simp (disch := omega) only [spec_CrashLog.f, e1, B_size, e3, bind_some', Bool.not_true, Bool.not_false, Bool.false_and, Bool.and_false, cond_true, cond_false, dF]
    have hql : (p.take kept.toNat).length = kept.toNat := by rw [List.length_take]; omega
    have hdq : (d ++ p.take kept.toNat).length = d.length + kept.toNat := by rw [List.length_append, hql]
    have plain : ∀ u : Bool, (u = true → ¬ kept > 0) → impl_CrashLog.f n0 (B d) (B p) m kept u = some (B (d ++ p.take kept.toNat), true) ∧ spec_CrashLog.f n0 (B d) (B p) m kept u = some (B (d ++ p.take kept.toNat), true) := by
      intro u hu
      cases u
      · constructor
        · simp (disch := omega) only [impl_CrashLog.f, e2, bind_some', Bool.not_true, Bool.and_self, cond_true, cond_false, dT, dF, B_size, B_extract, List.drop_zero, B_append, hql, hdq, bytesA_len, take_bytes, decide_true, bytesL_B, str_B]
        · simp (disch := omega) only [spec_CrashLog.f, e1, B_size, e3, bind_some', Bool.not_true, Bool.and_self, cond_true, cond_false, dT, dF, B_extract, List.drop_zero, B_append, hql, hdq, bytesA_len, take_bytes, decide_true, bytesL_B, str_B]
      · have hk := hu rfl
        constructor
        · simp (disch := omega) only [impl_CrashLog.f, e2, bind_some', Bool.not_true, Bool.and_self, cond_true, cond_false, dT, dF, B_size, B_extract, List.drop_zero, B_append, hql, hdq, bytesA_len, take_bytes, decide_true, bytesL_B, str_B]
        · simp (disch := omega) only [spec_CrashLog.f, e1, B_size, e3, bind_some', Bool.not_true, Bool.and_self, cond_true, cond_false, dT, dF, B_extract, List.drop_zero, B_append, hql, hdq, bytesA_len, take_bytes, decide_true, bytesL_B, str_B]
    by_cases hplain : torn = true ∧ kept > 0
    · obtain ⟨rfl, hk⟩ := hplain
      have hne : p.take kept.toNat ≠ [] := fun h => by rw [h] at hql; simp at hql; omega
      obtain ⟨y, b, hq⟩ : ∃ y b, p.take kept.toNat = y ++ [b] := ⟨_, _, (List.dropLast_concat_getLast hne).symm⟩
      have hyl : y.length + 1 = kept.toNat := by rw [← hql, hq]; simp
      have i3 : IntKind.i64.wrap (kept - 1) = (y.length : Int) := by rw [w64 (by omega) (by omega)]; omega
      have l1 : (y ++ [b]).length = y.length + 1 := by simp
      have l2 : (d ++ y ++ [b]).length = d.length + y.length + 1 := by simp; omega
      have l3 : (d ++ y).length = d.length + y.length := by simp
      have l4 : (y ++ [255 - b]).length = y.length + 1 := by simp
      have l5 : (d ++ y ++ [255 - b]).length = d.length + y.length + 1 := by simp; omega
      have i4 : IntKind.i64.wrap (((d ++ y ++ [b]).length : Int) - 1) = ((d ++ y).length : Int) := by rw [l2, l3, w64 (by omega) (by omega)]; omega
      have i2 : 0 + Int.toNat (((d ++ y).length : Int)) * 1 = (d ++ y).length := by omega
      have i5 : 0 + Int.toNat ((y.length : Int)) * 1 = y.length := by omega
      refine ⟨d ++ y ++ [255 - b], true, ?_, ?_, fun _ => ⟨rfl, by omega, by omega, .inr ⟨rfl, y, b, hq, rfl⟩⟩⟩
      · have ha : d ++ (y ++ [b]) = d ++ y ++ [b] := by rw [List.append_assoc]
        simp (disch := omega) only [impl_CrashLog.f, e2, bind_some', Bool.not_true, Bool.and_self, cond_true, cond_false, dT, dF, B_size, B_extract, List.drop_zero, B_append, hq, ha, i4, i2, flip_get, flip_set, bytesA_len, List.length_singleton]
        simp (disch := omega) only [l2, dT, dF, Bool.and_self, cond_true, cond_false, take_bytes, bytesA_len, l5, decide_true, bytesL_B, bind_some', str_B]
      · have ha : d ++ (y ++ [255 - b]) = d ++ y ++ [255 - b] := by rw [List.append_assoc]
        simp (disch := omega) only [spec_CrashLog.f, e1, B_size, e3, bind_some', Bool.not_true, Bool.and_self, cond_true, cond_false, dT, dF, B_extract, List.drop_zero, hq, i3, i5, l1, l4, flip_get, flip_set, bytesA_len, List.length_singleton, take_bytes, decide_true, bytesL_B, str_B, B_append, ha]
    · obtain ⟨h1, h2⟩ := plain torn (fun h hk => hplain ⟨h, hk⟩)
      exact ⟨_, true, h1, h2, fun _ => ⟨rfl, by omega, by omega, .inl rfl⟩⟩
theorem recover_impl (n0 : Nat) (hn0 : 2 ^ 40 ≤ n0) (t : List UInt8) (ht : t.length < 2 ^ 28) :
    impl_RecoverLog.f n0 (B t) = some (if t.length ≤ 30000 then (B (linesE 0 (opens 60 t 0)), B [], ((opens 60 t 0).length : Int), ((linesE 0 (opens 60 t 0)).length : Int), true) else (B [], B [], 0, 0, false)) := by
  by_cases h : t.length ≤ 30000
  · have e1 := recordsOf_eq n0 t (by omega) hn0
    have hp := (opens_pre 60 t 0).2.2
    have hlen := hp.length_le
    have hget : gInt .i64 (List.getD ((0 :: endsE 0 0 (opens 60 t 0)).map intA) ((opens 60 t 0).length * 1) .undef) = some ((linesE 0 (opens 60 t 0)).length : Int) := by
      have := endsE_get 0 0 (opens 60 t 0) (opens 60 t 0).length (Nat.le_refl _)
      rw [Nat.mul_one, List.getD_eq_getElem?_getD, List.getElem?_map, this, List.take_length, Nat.zero_add]; rfl
    have htake : t.take (linesE 0 (opens 60 t 0)).length = linesE 0 (opens 60 t 0) := (List.prefix_iff_eq_take.1 hp).symm
    simp (disch := omega) only [impl_RecoverLog.f, B_size, dF, dT, cond_true, cond_false, e1, bind_some', Bool.and_self, hget, B_extract, List.drop_zero, Int.toNat_natCast, htake, if_pos h]
  · simp (disch := omega) only [impl_RecoverLog.f, B_size, dT, cond_true, if_neg h]
theorem recover_spec (n0 : Nat) (hn0 : 2 ^ 40 ≤ n0) (t : List UInt8) (ht : t.length < 2 ^ 28) :
    spec_RecoverLog.f n0 (B t) = some (if t.length ≤ 30000 then (B (linesE 0 (opens 60 t 0)), B [], ((opens 60 t 0).length : Int), ((linesE 0 (opens 60 t 0)).length : Int), true) else (B [], B [], 0, 0, false)) := by
  by_cases h : t.length ≤ 30000
  · have e1 := l12Open_eq n0 t (by omega) hn0
    have hp := (opens_pre 60 t 0).2.2
    have hlen := hp.length_le
    have htake : t.take (linesE 0 (opens 60 t 0)).length = linesE 0 (opens 60 t 0) := (List.prefix_iff_eq_take.1 hp).symm
    simp (disch := omega) only [spec_RecoverLog.f, B_size, dF, dT, cond_true, cond_false, e1, bind_some', Bool.and_self, B_extract, List.drop_zero, Int.toNat_natCast, htake, if_pos h]
  · simp (disch := omega) only [spec_RecoverLog.f, B_size, dT, cond_true, if_neg h]
end Go.Pu
end

section
set_option linter.unusedSimpArgs false
open Go Go.Ab
namespace Go.Pu
theorem lineE_no245 {k : Nat} {c r : List UInt8} (hv : ValidE c r) : hasB (lineE k c r) 245 = false := by
  unfold lineE sealL
  rw [hasB_append, hasB_append, hasB_append, body_no hv 245 (by omega), hasB_dg _ 245 (by omega)]
  rfl
theorem linesE_no245 : ∀ (es : List Rec) (k : Nat), AllV es → hasB (linesE k es) 245 = false
  | [], k, _ => rfl
  | e :: es, k, h => by
    unfold linesE
    rw [hasB_append, lineE_no245 (h e List.mem_cons_self), linesE_no245 es (k + 1) (fun x hx => h x (List.mem_cons_of_mem _ hx))]
    rfl
theorem hasB_mem {b : UInt8} {n : Nat} : ∀ {l : List UInt8}, hasB l n = false → b ∈ l → b.toNat ≠ n
  | c :: l, h, hb => by
    rw [hasB_cons, Bool.or_eq_false_iff] at h
    rcases List.mem_cons.1 hb with rfl | hb
    · simpa using h.1
    · exact hasB_mem h.2 hb
/-- A text that another begins with, or all of one but for a last byte that ends no line. -/
def Near (t s : List UInt8) : Prop := t <+: s ∨ ∃ x c, t = x ++ [c] ∧ x <+: s ∧ c ≠ 10
theorem near_opens : ∀ (m : Nat) (t s : List UInt8) (k : Nat), Near t s → opens m t k <+: opens m s k
  | 0, t, s, k, _ => by simp [opens]
  | m + 1, t, s, k, h => by
    conv => lhs; unfold opens
    cases ht : recAt t k with
    | none => exact List.nil_prefix
    | some e =>
      obtain ⟨hv, hp⟩ := recAt_some (c := e.1) (r := e.2) ht
      have key : lineE k e.1 e.2 <+: s ∧ Near (t.drop (lineE k e.1 e.2).length) (s.drop (lineE k e.1 e.2).length) := by
        rcases h with h | ⟨x, c, rfl, hx, hc⟩
        · refine ⟨hp.trans h, .inl ?_⟩
          obtain ⟨u, rfl⟩ := h
          rw [List.drop_append_of_le_length hp.length_le]
          exact List.prefix_append _ _
        · by_cases hl : (lineE k e.1 e.2).length ≤ x.length
          · have hp' : lineE k e.1 e.2 <+: x := List.prefix_of_prefix_length_le hp (List.prefix_append _ _) hl
            refine ⟨hp'.trans hx, .inr ⟨x.drop (lineE k e.1 e.2).length, c, List.drop_append_of_le_length hl, ?_, hc⟩⟩
            obtain ⟨u, rfl⟩ := hx
            rw [List.drop_append_of_le_length hl]
            exact List.prefix_append _ _
          · exfalso
            have h1 := hp.length_le
            have h2 : (x ++ [c]).length = x.length + 1 := by simp
            have h3 : lineE k e.1 e.2 = x ++ [c] := hp.eq_of_length (by omega)
            unfold lineE at h3
            have h4 := (List.append_inj' h3 rfl).2
            simp at h4
            exact hc h4.symm
      have hs : recAt s k = some e := recAt_of hv key.1
      conv => rhs; unfold opens
      rw [hs]
      exact (List.prefix_append_right_inj [e]).2 (near_opens m _ _ (k + 1) key.2)
theorem crashed_near {d p t : List UInt8} {m kept : Int} {torn : Bool} (hv : validL d p m = true) (h : Crashed d p kept torn t) : Near t (d ++ p) ∧ d <+: t ∧ t.length ≤ d.length + p.length := by
  rcases h with rfl | ⟨_, y, b, hq, rfl⟩
  · refine ⟨.inl ((List.prefix_append_right_inj d).2 (List.take_prefix _ _)), List.prefix_append _ _, ?_⟩
    rw [List.length_append, List.length_take]; omega
  · have hyb : y ++ [b] <+: p := hq ▸ List.take_prefix _ _
    refine ⟨.inr ⟨d ++ y, 255 - b, rfl, (List.prefix_append_right_inj d).2 ((List.prefix_append y [b]).trans hyb), fun h10 => ?_⟩, by rw [List.append_assoc]; exact List.prefix_append _ _, ?_⟩
    · obtain ⟨h1, h2, _, _⟩ := validL_iff.1 hv
      have hall : linesE 0 (opens 60 (d ++ p) 0) = d ++ p := read_all (by rw [h2, List.length_append])
      have hno := linesE_no245 (opens 60 (d ++ p) 0) 0 (opens_pre 60 (d ++ p) 0).1
      rw [hall] at hno
      have hb : b ∈ d ++ p := List.mem_append_right _ (hyb.subset (List.mem_append_right _ List.mem_cons_self))
      have hne := hasB_mem hno hb
      have hlt := b.toNat_lt
      have h2 : (255 - b).toNat = 255 - b.toNat := by
        rw [UInt8.toNat_sub_of_le]
        · rfl
        · rw [UInt8.le_iff_toNat_le]; show b.toNat ≤ 255; omega
      rw [h10] at h2
      have : (10 : UInt8).toNat = 10 := rfl
      omega
    · have := hyb.length_le
      simp at this ⊢
      omega
theorem recover_len {d p t : List UInt8} {m : Int} (hv : validL d p m = true) (hd : d <+: t) : d.length ≤ (linesE 0 (opens 60 t 0)).length := by
  obtain ⟨_, _, h3, _⟩ := validL_iff.1 hv
  have hall : linesE 0 (opens 60 d 0) = d := read_all h3
  obtain ⟨u, rfl⟩ := hd
  have ho := opens_pre 60 d 0
  have h5 : opens 60 (d ++ u) 0 = opens 60 d 0 ++ opens (60 - (opens 60 d 0).length) u (0 + (opens 60 d 0).length) := by
    conv => lhs; rw [← hall]
    exact opens_lines _ 60 0 u ho.1 ho.2.1
  rw [h5, linesE_append, List.length_append, hall]
  omega
theorem recovered_valid (t : List UInt8) (ht : t.length ≤ 30000) : validL (linesE 0 (opens 60 t 0)) [] ((opens 60 t 0).length : Int) = true ∧ opens 60 (linesE 0 (opens 60 t 0)) 0 = opens 60 t 0 := by
  have ho := opens_pre 60 t 0
  have h1 : opens 60 (linesE 0 (opens 60 t 0)) 0 = opens 60 t 0 := by
    have := opens_lines (opens 60 t 0) 60 0 [] ho.1 ho.2.1
    rw [List.append_nil, opens_nil, List.append_nil] at this
    exact this
  have hlen := ho.2.2.length_le
  refine ⟨validL_iff.2 ⟨by simp; omega, ?_, ?_, ?_⟩, h1⟩
  · rw [List.append_nil, h1]; simp
  · rw [h1]
  · rw [List.append_nil, h1]
theorem zeros_bytes (n : Int) (h0 : 0 ≤ n) : ∃ nums, bytesL (List.take (Int.toNat n) (zerosL [AV.int .u8 0] (Int.toNat n * 1))) = some nums ∧ (List.take (Int.toNat n) (zerosL [AV.int .u8 0] (Int.toNat n * 1))).length = Int.toNat n ∧ strOfNums nums = B (List.replicate n.toNat 0) := by
  have hz : zerosL [AV.int .u8 0] (Int.toNat n * 1) = bytesA (B (List.replicate n.toNat 0)) := by
    rw [bytesA_B, zerosL, Nat.mul_one]
    refine List.ext_getElem (by simp) fun i h1 h2 => ?_
    simp [Nat.mod_one]
  have hl : (List.replicate n.toNat (0 : UInt8)).length = n.toNat := List.length_replicate
  refine ⟨_, by rw [hz, take_bytes _ _ hl.symm]; exact bytesL_B _, by rw [hz, take_bytes _ _ hl.symm, bytesA_len, hl], str_B _⟩
end Go.Pu
end

section
set_option linter.unusedSimpArgs false
open Go Go.Ab
namespace Go.Pu
theorem drawCrash_ok (n0 : Nat) (hn0 : 2 ^ 40 ≤ n0) {code : List AV} {n : Nat} (hc : CodeOk code n) :
    ∃ d p m kept torn, spec_DrawCrashLog.f n0 code n = some (B d, B p, m, kept, torn) ∧ d.length + p.length ≤ 1300 := by
  obtain ⟨d, p, m, t, s, e1, l1, a1, a2⟩ := anyLog_ok n0 hn0 hc 0 (at' := 0) (by omega) (by omega)
  obtain ⟨k, t2, s2, e2, k0, k1, _, a3, a4⟩ := pick_ok n0 hc (IntKind.i64.wrap ((p.length : Int) + 3)) s (at' := t) (by omega) (by omega)
  obtain ⟨b, t3, s3, e3, a5, a6⟩ := one_ok n0 hc 2 s2 (at' := t2) (by omega) (by omega)
  exact ⟨d, p, m, IntKind.i64.wrap (k - 1), b, by simp only [spec_DrawCrashLog.f, e1, B_size, e2, e3, bind_some'], l1⟩
set_option maxHeartbeats 2000000 in
theorem drawRecover_ok (n0 : Nat) (hn0 : 2 ^ 40 ≤ n0) {code : List AV} {n : Nat} (hc : CodeOk code n) :
    ∃ t, spec_DrawRecoverLog.f n0 code n = some (B t) ∧ t.length ≤ 40000 := by
  obtain ⟨d, p, m, t, s, e1, l1, a1, a2⟩ := log12_ok n0 hn0 hc 0 (at' := 0) (by omega) (by omega)
  obtain ⟨k, t2, s2, e2, k0, k1, _, a3, a4⟩ := pick_ok n0 hc 4 s (at' := t) (by omega) (by omega)
  have hk1 := k1 (by omega)
  have hdp : (d ++ p).length = d.length + p.length := List.length_append
  by_cases c0 : k = 0
  · obtain ⟨q, t3, s3, e3, l3, a5, a6⟩ := spoilt_ok n0 hc (d ++ p) [35, 64, 10, 48, 49] (by omega) (by simp) (by simp) s2 (at' := t2) (by omega) (by omega)
    obtain ⟨b, t4, s4, e4, a7, a8⟩ := one_ok n0 hc 40 s3 (at' := t3) (by omega) (by omega)
    cases b
    · exact ⟨q, by simp (disch := omega) only [spec_DrawRecoverLog.f, e1, e2, e3, e4, B_size, B_append, dT, bind_some', beqT, cond_true, cond_false], by omega⟩
    · obtain ⟨j, t5, s5, e5, j0, j1, _, _, _⟩ := pick_ok n0 hc 2 s4 (at' := t4) (by omega) (by omega)
      have hj := j1 (by omega)
      have hw : IntKind.i64.wrap (30000 + j) = 30000 + j := w64 (by omega) (by omega)
      obtain ⟨nums, z1, z2, z3⟩ := zeros_bytes (30000 + j) (by omega)
      exact ⟨List.replicate (30000 + j).toNat 0, by simp (disch := omega) only [spec_DrawRecoverLog.f, e1, e2, e3, e4, e5, B_size, B_append, dT, bind_some', beqT, cond_true, cond_false, hw, z1, z2, z3, Bool.and_self, decide_true], by rw [List.length_replicate]; omega⟩
  by_cases c1 : k = 1
  · have hw0 : IntKind.i64.wrap (((d ++ p).length : Int) + 1) = ((d ++ p).length : Int) + 1 := w64 (by omega) (by omega)
    obtain ⟨i, t3, s3, e3, i0, i1, _, a5, a6⟩ := pick_ok n0 hc (((d ++ p).length : Int) + 1) s2 (at' := t2) (by omega) (by omega)
    have hi := i1 (by omega)
    obtain ⟨b, t4, s4, e4, a7, a8⟩ := one_ok n0 hc 40 s3 (at' := t3) (by omega) (by omega)
    cases b
    · exact ⟨(d ++ p).take i.toNat, by simp (disch := omega) only [spec_DrawRecoverLog.f, e1, e2, e3, e4, hw0, B_size, B_append, B_extract, List.drop_zero, dT, bind_some', beqT, beqF, cond_true, cond_false, Bool.and_self], by rw [List.length_take]; omega⟩
    · obtain ⟨j, t5, s5, e5, j0, j1, _, _, _⟩ := pick_ok n0 hc 2 s4 (at' := t4) (by omega) (by omega)
      have hj := j1 (by omega)
      have hw : IntKind.i64.wrap (30000 + j) = 30000 + j := w64 (by omega) (by omega)
      obtain ⟨nums, z1, z2, z3⟩ := zeros_bytes (30000 + j) (by omega)
      exact ⟨List.replicate (30000 + j).toNat 0, by simp (disch := omega) only [spec_DrawRecoverLog.f, e1, e2, e3, e4, e5, hw0, B_size, B_append, dT, bind_some', beqT, beqF, cond_true, cond_false, hw, z1, z2, z3, Bool.and_self, decide_true], by rw [List.length_replicate]; omega⟩
  by_cases c2 : k = 2
  · obtain ⟨i, t3, s3, e3, i0, i1, _, a5, a6⟩ := pick_ok n0 hc 4 s2 (at' := t2) (by omega) (by omega)
    have hi := i1 (by omega)
    obtain ⟨c, r, t4, s4, e4, l4, l5, a7, a8⟩ := logRecord_ok n0 hc s3 (at' := t3) (by omega) (by omega)
    have hin : ((i.toNat : Nat) : Int) = i := Int.toNat_of_nonneg i0
    have e5 := line_spec n0 i.toNat c r (by omega) (by omega) hn0 (by omega)
    rw [hin] at e5
    have hl : (lineE i.toNat c r).length ≤ 100 := by
      have hs := sealL_len (bodyE i.toNat c r)
      have hd := dg_len 1 i.toNat (by omega)
      have : (bodyE i.toNat c r).length ≤ 20 := by simp [bodyE]; omega
      simp [lineE]; omega
    obtain ⟨b, t6, s6, e6, a9, a10⟩ := one_ok n0 hc 40 s4 (at' := t4) (by omega) (by omega)
    cases b
    · exact ⟨d ++ p ++ lineE i.toNat c r, by simp (disch := omega) only [spec_DrawRecoverLog.f, e1, e2, e3, e4, e5, e6, B_size, B_append, dT, bind_some', beqT, beqF, cond_true, cond_false, hdp], by rw [List.length_append]; omega⟩
    · obtain ⟨j, t7, s7, e7, j0, j1, _, _, _⟩ := pick_ok n0 hc 2 s6 (at' := t6) (by omega) (by omega)
      have hj := j1 (by omega)
      have hw : IntKind.i64.wrap (30000 + j) = 30000 + j := w64 (by omega) (by omega)
      obtain ⟨nums, z1, z2, z3⟩ := zeros_bytes (30000 + j) (by omega)
      exact ⟨List.replicate (30000 + j).toNat 0, by simp (disch := omega) only [spec_DrawRecoverLog.f, e1, e2, e3, e4, e5, e6, e7, B_size, B_append, dT, bind_some', beqT, beqF, cond_true, cond_false, hw, z1, z2, z3, Bool.and_self, decide_true, hdp], by rw [List.length_replicate]; omega⟩
  · obtain ⟨b, t4, s4, e4, a7, a8⟩ := one_ok n0 hc 40 s2 (at' := t2) (by omega) (by omega)
    cases b
    · exact ⟨d ++ p, by simp (disch := omega) only [spec_DrawRecoverLog.f, e1, e2, e4, B_size, B_append, dT, bind_some', beqF, cond_true, cond_false], by omega⟩
    · obtain ⟨j, t5, s5, e5, j0, j1, _, _, _⟩ := pick_ok n0 hc 2 s4 (at' := t4) (by omega) (by omega)
      have hj := j1 (by omega)
      have hw : IntKind.i64.wrap (30000 + j) = 30000 + j := w64 (by omega) (by omega)
      obtain ⟨nums, z1, z2, z3⟩ := zeros_bytes (30000 + j) (by omega)
      exact ⟨List.replicate (30000 + j).toNat 0, by simp (disch := omega) only [spec_DrawRecoverLog.f, e1, e2, e4, e5, B_size, B_append, dT, bind_some', beqF, cond_true, cond_false, hw, z1, z2, z3, Bool.and_self, decide_true], by rw [List.length_replicate]; omega⟩
set_option maxHeartbeats 2000000 in
theorem crashes_law (n0 : Nat) (hn0 : 2 ^ 40 ≤ n0) {code : List AV} {n : Nat} (hc : n ≤ 65536 → CodeOk code n) : laws_FnCrashes.f n0 code n = some true := by
  by_cases hb : (n : Int) > 65536
  · simp only [laws_FnCrashes.f, laws_vBig.f, dT hb, bind_some', cond_true]
  have hn : n ≤ 65536 := by omega
  replace hc := hc hn
  have hb' : ¬ ((n : Int) > 65536) := hb
  obtain ⟨d, p, m, kept, torn, e1, l1⟩ := drawCrash_ok n0 hn0 hc
  obtain ⟨t, ok, e2, e3, hcr⟩ := crash_both n0 hn0 d p m kept torn (by omega) (by omega)
  obtain ⟨code1, m1, e4, hc1, _⟩ := vCut_ok n0 hc hn 1 (by omega) (by omega)
  obtain ⟨q, e5, l2⟩ := drawRecover_ok n0 hn0 hc1
  have e6 := recover_impl n0 hn0 q (by omega)
  have e7 := recover_spec n0 hn0 q (by omega)
  generalize (if q.length ≤ 30000 then (B (linesE 0 (opens 60 q 0)), B [], ((opens 60 q 0).length : Int), ((linesE 0 (opens 60 q 0)).length : Int), true) else (B [], B [], 0, 0, false)) = R at e6 e7
  obtain ⟨r1, r2, r3, r4, r5⟩ := R
  cases ok
  · simp only [laws_FnCrashes.f, laws_vBig.f, dF hb', bind_some', cond_false, cond_true, e1, e2, e3, e4, e5, e6, e7, beq_self_eq_true, Bool.not_true, Bool.not_false, Bool.and_self, Bool.and_true, bne_self_eq_false]
  · obtain ⟨v, k0, k1, hC⟩ := hcr rfl
    obtain ⟨hN, hD, hL⟩ := crashed_near v hC
    have ht : t.length ≤ 30000 := by omega
    have e8 := recover_impl n0 hn0 t (by omega)
    rw [if_pos ht] at e8
    obtain ⟨v2, ho⟩ := recovered_valid t ht
    have hlt := (opens_pre 60 t 0).2.2.length_le
    have e9 := valid_impl n0 (linesE 0 (opens 60 t 0)) [] ((opens 60 t 0).length : Int) (by omega) (by simp) hn0
    have e10 := records_impl n0 d p m (by omega) (by omega) hn0
    have e11 := records_impl n0 (linesE 0 (opens 60 t 0)) [] ((opens 60 t 0).length : Int) (by omega) (by simp) hn0
    have hr1 : recsL d p m = opens 60 (d ++ p) 0 := by unfold recsL; rw [v, if_pos rfl]
    have hr2 : recsL (linesE 0 (opens 60 t 0)) [] ((opens 60 t 0).length : Int) = opens 60 t 0 := by unfold recsL; rw [v2, if_pos rfl, List.append_nil, ho]
    rw [v2] at e9 e11
    rw [hr2] at e11
    rw [v, hr1] at e10
    have hpre := near_opens 60 t (d ++ p) 0 hN
    have hle := hpre.length_le
    have htk : opens 60 t 0 = (opens 60 (d ++ p) 0).take (opens 60 t 0).length := List.prefix_iff_eq_take.1 hpre
    have h60 := (opens_pre 60 (d ++ p) 0).2.1
    have hflat : List.take ((opens 60 t 0).length * 2) (flatE (opens 60 (d ++ p) 0)) = flatE (opens 60 t 0) := by
      obtain ⟨u, hu⟩ := hpre
      rw [← hu]
      have : flatE (opens 60 t 0 ++ u) = flatE (opens 60 t 0) ++ flatE u := by simp [flatE]
      rw [this, ← flatE_len, List.take_left]
    have e12 := vRecords_eq n0 (opens 60 t 0) (opens 60 t 0) (by omega) hn0
    rw [decide_eq_true rfl] at e12
    have hend := recover_len v hD
    have hbase := hc
    cases torn
    · have hT : t = d ++ p.take kept.toNat := by
        rcases hC with h | ⟨h, _⟩
        · exact h
        · cases h
      by_cases hk : kept < (p.length : Int)
      · simp (disch := omega) only [laws_FnCrashes.f, laws_vBig.f, dF hb', bind_some', cond_false, cond_true, e1, e2, e3, e4, e5, e6, e7, e8, e9, e10, e11, B_size, beq_self_eq_true, Bool.not_true, Bool.not_false, Bool.and_self, Bool.and_true, bne_self_eq_false, dF, dT, Int.toNat_natCast, Nat.sub_zero, hflat, e12]
      · have hall : opens 60 t 0 = opens 60 (d ++ p) 0 := by rw [hT, List.take_of_length_le (by omega)]
        have hlen : (opens 60 t 0).length = (opens 60 (d ++ p) 0).length := by rw [hall]
        simp (disch := omega) only [laws_FnCrashes.f, laws_vBig.f, dF hb', bind_some', cond_false, cond_true, e1, e2, e3, e4, e5, e6, e7, e8, e9, e10, e11, B_size, beq_self_eq_true, Bool.not_true, Bool.not_false, Bool.and_self, Bool.and_true, bne_self_eq_false, dF, dT, Int.toNat_natCast, Nat.sub_zero, hflat, e12]
        rw [beqT (by omega)]
    · simp (disch := omega) only [laws_FnCrashes.f, laws_vBig.f, dF hb', bind_some', cond_false, cond_true, e1, e2, e3, e4, e5, e6, e7, e8, e9, e10, e11, B_size, beq_self_eq_true, Bool.not_true, Bool.not_false, Bool.and_self, Bool.and_true, bne_self_eq_false, dF, dT, Int.toNat_natCast, Nat.sub_zero, hflat, e12]
end Go.Pu
end
