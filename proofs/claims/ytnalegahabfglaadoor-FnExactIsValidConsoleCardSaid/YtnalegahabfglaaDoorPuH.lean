/- Plain lemmas on the pure functions: both tests of a log agree. No condition. -/
import Derived.Test.YtnalegahabfglaaDoorPuG
set_option linter.all false
set_option linter.unusedVariables false
set_option linter.unusedSimpArgs false
set_option linter.unusedSimpArgs false
open Go Go.Ab
namespace Go.Pu
def AllV (es : List Rec) : Prop := ∀ e ∈ es, ValidE e.1 e.2
theorem opens_pre : ∀ (m : Nat) (t : List UInt8) (k : Nat), AllV (opens m t k) ∧ (opens m t k).length ≤ m ∧ linesE k (opens m t k) <+: t
  | 0, t, k => ⟨fun e h => by simp [opens] at h, Nat.le_refl _, by simp [opens, linesE]⟩
  | m + 1, t, k => by
    unfold opens
    cases hr : recAt t k with
    | none => exact ⟨fun e h => by simp at h, by simp, by simp [linesE]⟩
    | some e =>
      obtain ⟨c, r⟩ := e
      obtain ⟨hv, y, hy⟩ := recAt_some hr
      obtain ⟨h1, h2, h3⟩ := opens_pre m (t.drop (lineE k c r).length) (k + 1)
      refine ⟨fun e he => ?_, by simp; exact h2, ?_⟩
      · rcases List.mem_cons.1 he with rfl | he
        · exact hv
        · exact h1 e he
      · simp only [linesE]
        have : t = lineE k c r ++ t.drop (lineE k c r).length := by rw [← hy]; simp
        conv => rhs; rw [this]
        rw [List.prefix_append_right_inj]; exact h3
theorem opens_lines : ∀ (es : List Rec) (m k : Nat) (y : List UInt8), AllV es → es.length ≤ m → opens m (linesE k es ++ y) k = es ++ opens (m - es.length) y (k + es.length)
  | [], m, k, y, _, _ => by simp [linesE]
  | e :: es, m + 1, k, y, hv, hm => by
    have he : ValidE e.1 e.2 := hv e (List.mem_cons_self)
    have hr : recAt (linesE k (e :: es) ++ y) k = some (e.1, e.2) := recAt_of he ⟨linesE (k + 1) es ++ y, by simp [linesE]⟩
    have ih := opens_lines es m (k + 1) y (fun x hx => hv x (List.mem_cons_of_mem _ hx)) (by simpa using hm)
    have hd : (linesE k (e :: es) ++ y).drop (lineE k e.1 e.2).length = linesE (k + 1) es ++ y := by simp [linesE]
    conv => lhs; unfold opens
    rw [hr]
    dsimp only
    rw [hd, ih]
    simp only [List.cons_append, List.length_cons, Nat.add_sub_add_right]
    rw [show k + 1 + es.length = k + (es.length + 1) by omega]
theorem opens_nil (m k : Nat) : opens m [] k = [] := by
  cases m with
  | zero => rfl
  | succ m => unfold opens; rw [recAt_nil]
theorem linesE_append : ∀ (k : Nat) (xs ys : List Rec), linesE k (xs ++ ys) = linesE k xs ++ linesE (k + xs.length) ys
  | k, [], ys => by simp [linesE]
  | k, x :: xs, ys => by simp only [List.cons_append, linesE, linesE_append (k + 1) xs ys, List.append_assoc, List.length_cons]; rw [show k + 1 + xs.length = k + (xs.length + 1) by omega]
theorem endsE_get : ∀ (a k : Nat) (es : List Rec) (j : Nat), j ≤ es.length → (a :: endsE a k es)[j]? = some (a + (linesE k (es.take j)).length)
  | a, k, [], j, h => by simp at h; subst h; simp [linesE]
  | a, k, e :: es, 0, h => by simp [linesE]
  | a, k, e :: es, j + 1, h => by
    have := endsE_get (a + (lineE k e.1 e.2).length) (k + 1) es j (by simpa using h)
    simp only [endsE, List.getElem?_cons_succ, List.take_succ_cons, linesE, List.length_append]
    rw [this]; congr 1; omega
theorem endsE_len : ∀ (a k : Nat) (es : List Rec), (endsE a k es).length = es.length
  | _, _, [] => rfl
  | a, k, e :: es => by simp [endsE, endsE_len _ _ es]
theorem mem_ends {x k : Nat} {es : List Rec} : x ∈ (0 :: endsE 0 k es) ↔ ∃ j, j ≤ es.length ∧ x = (linesE k (es.take j)).length := by
  rw [List.mem_iff_getElem?]
  constructor
  · rintro ⟨j, hj⟩
    have hlt := (List.getElem?_eq_some_iff.1 hj).1
    rw [List.length_cons, endsE_len] at hlt
    rw [endsE_get 0 k es j (by omega)] at hj
    exact ⟨j, by omega, by simpa using hj.symm⟩
  · rintro ⟨j, hj, rfl⟩
    exact ⟨j, by rw [endsE_get 0 k es j hj]; simp⟩
/-- All of a text are records. -/
theorem read_all {t : List UInt8} {m k : Nat} (h : (linesE k (opens m t k)).length = t.length) : linesE k (opens m t k) = t :=
  (opens_pre m t k).2.2.eq_of_length h
theorem ends_kept {d p : List UInt8} (h : (linesE 0 (opens 60 (d ++ p) 0)).length = d.length + p.length) :
    d.length ∈ (0 :: endsE 0 0 (opens 60 (d ++ p) 0)) ↔ (linesE 0 (opens 60 d 0)).length = d.length := by
  have hall := read_all (t := d ++ p) (by rw [List.length_append]; exact h)
  obtain ⟨v1, v2, v3⟩ := opens_pre 60 (d ++ p) 0
  rw [mem_ends]
  constructor
  · rintro ⟨j, hj, hd⟩
    generalize hes : opens 60 (d ++ p) 0 = es at *
    have e1 : linesE 0 (es.take j) ++ linesE (0 + (es.take j).length) (es.drop j) = d ++ p := by
      rw [← linesE_append, List.take_append_drop]; exact hall
    obtain ⟨e2, _⟩ := List.append_inj e1 hd.symm
    have e3 := opens_lines (es.take j) 60 0 [] (fun e he => v1 e (List.mem_of_mem_take he)) (by rw [List.length_take]; omega)
    rw [opens_nil, List.append_nil, List.append_nil, e2] at e3
    rw [e3, e2]
  · intro hd
    have e1 := read_all hd
    obtain ⟨u1, u2, u3⟩ := opens_pre 60 d 0
    have e2 := opens_lines (opens 60 d 0) 60 0 p u1 u2
    rw [e1] at e2
    rw [e2]
    refine ⟨(opens 60 d 0).length, by simp, ?_⟩
    rw [List.take_left, hd]
def validL (d p : List UInt8) (n : Int) : Bool :=
  decide (d.length + p.length ≤ 30000) && (((linesE 0 (opens 60 (d ++ p) 0)).length == d.length + p.length) && (((linesE 0 (opens 60 d 0)).length == d.length) && (((opens 60 (d ++ p) 0).length : Int) == n)))
theorem l12Open_eq (n0 : Nat) (t : List UInt8) (hs : t.length < 2 ^ 30) (hn0 : 2 ^ 40 ≤ n0) :
    spec_l12Open.f n0 (B t) = some (flatE (opens 60 t 0), (opens 60 t 0).length, ((linesE 0 (opens 60 t 0)).length : Int)) := by
  unfold spec_l12Open.f
  refine (open_loop n0 (B t) (by rw [B_size]; exact hs) hn0 _ 60 0 0 n0 [] (by omega) (by omega) (by omega) rfl).trans ?_
  rw [L_B, List.drop_zero]
  simp only [Nat.zero_add, List.nil_append]
  rw [List.take_of_length_le (by rw [flatE_len]; exact Nat.le_refl _)]
theorem recordsOf_eq (n0 : Nat) (t : List UInt8) (hs : t.length < 2 ^ 30) (hn0 : 2 ^ 40 ≤ n0) :
    impl_recordsOf.f n0 (B t) = some (flatE (opens 60 t 0), (opens 60 t 0).length, (0 :: endsE 0 0 (opens 60 t 0)).map intA, (opens 60 t 0).length + 1) := by
  unfold impl_recordsOf.f
  refine (recordsOf_loop n0 (B t) (by rw [B_size]; exact hs) hn0 _ 60 0 0 n0 [] [intA 0] (by omega) (by omega) (by omega) rfl rfl).trans ?_
  rw [L_B, List.drop_zero]
  simp only [Nat.zero_add, List.nil_append]
  rw [List.take_of_length_le (by rw [flatE_len]; exact Nat.le_refl _), List.take_of_length_le (by simp [endsE_len]; omega), Nat.add_comm 1]
  rfl
theorem index_loop (n0 : Nat) (x : List Nat) (v : Nat) (hx : x.length < 2 ^ 40) : ∀ (l : List Nat) (i n : Nat), x.drop i = l → i + l.length = x.length → l.length < n →
    ∃ r, slices_Index_int_int.l2 n0 (fun y17 => some y17) (some (-1)) n (x.map intA) x.length (v : Int) (x.length : Int) (i : Int) = some r ∧ decide (r ≥ 0) = l.contains v
  | [], i, n + 1, h, hi, hn => by
    simp only [List.length_nil] at hi
    refine ⟨-1, ?_, rfl⟩
    simp (disch := omega) only [slices_Index_int_int.l2, slices_Index_int_int.l2S, dF, cond_false]
  | c :: l, i, n + 1, h, hi, hn => by
    simp only [List.length_cons] at hi hn
    have hlt : i < x.length := by omega
    rw [List.drop_eq_getElem_cons hlt] at h
    injection h with h1 h2
    have hw : IntKind.wrap .i64 ((i : Int) + 1) = ((i + 1 : Nat) : Int) := by rw [w64 (by omega) (by omega)]; omega
    have hg : gInt .i64 ((x.map intA).getD (i * 1) .undef) = some (c : Int) := by
      rw [Nat.mul_one, List.getD_eq_getElem?_getD, List.getElem?_map, List.getElem?_eq_getElem hlt, h1]; rfl
    obtain ⟨r, ih1, ih2⟩ := index_loop n0 x v hx l (i + 1) n h2 (by omega) (by omega)
    by_cases d : v = c
    · refine ⟨(i : Int), ?_, by rw [dT (by omega), d]; simp⟩
      simp (disch := omega) only [slices_Index_int_int.l2, slices_Index_int_int.l2S, dT, Bool.and_self, cond_true, Int.toNat_natCast, hg, bind_some', beqT]
    · refine ⟨r, ?_, by rw [ih2]; simp [d]⟩
      simp (disch := omega) only [slices_Index_int_int.l2, slices_Index_int_int.l2S, dT, Bool.and_self, cond_true, cond_false, Int.toNat_natCast, hg, bind_some', beqF, hw, ih1]
theorem contains_ints (n0 : Nat) (x : List Nat) (v : Nat) (hx : x.length < 2 ^ 40) (hn : 2 ^ 40 ≤ n0) : slices_Contains_int_int.f n0 (x.map intA) x.length (v : Int) = some (x.contains v) := by
  obtain ⟨r, h1, h2⟩ := index_loop n0 x v hx x 0 n0 rfl (by omega) (by omega)
  have h1' : slices_Index_int_int.f n0 (x.map intA) x.length (v : Int) = some r := h1
  simp only [slices_Contains_int_int.f, h1', bind_some', h2]
theorem valid_spec (n0 : Nat) (d p : List UInt8) (n : Int) (hd : d.length < 2 ^ 28) (hp : p.length < 2 ^ 28) (hn0 : 2 ^ 40 ≤ n0) : spec_l12Valid.f n0 (B d) (B p) n = some (validL d p n) := by
  have e1 := l12Open_eq n0 (d ++ p) (by simp; omega) hn0
  have e2 := l12Open_eq n0 d (by omega) hn0
  have hw : IntKind.wrap .i64 ((d.length : Int) + (p.length : Int)) = ((d.length + p.length : Nat) : Int) := by rw [w64 (by omega) (by omega)]; omega
  unfold validL
  by_cases a : d.length + p.length ≤ 30000
  · simp (disch := omega) only [spec_l12Valid.f, B_size, hw, dF, cond_false, dT, cond_true, B_append, e1, e2, bind_some', Bool.true_and]
    have c1 : (((linesE 0 (opens 60 (d ++ p) 0)).length : Int) == ((d.length + p.length : Nat) : Int)) = ((linesE 0 (opens 60 (d ++ p) 0)).length == d.length + p.length) := by
      rw [Bool.eq_iff_iff, beq_iff_eq, beq_iff_eq]; omega
    have c2 : (((linesE 0 (opens 60 d 0)).length : Int) == (d.length : Int)) = ((linesE 0 (opens 60 d 0)).length == d.length) := by
      rw [Bool.eq_iff_iff, beq_iff_eq, beq_iff_eq]; omega
    rw [c1, c2]
    cases (linesE 0 (opens 60 (d ++ p) 0)).length == d.length + p.length <;> cases (linesE 0 (opens 60 d 0)).length == d.length <;> rfl
  · simp (disch := omega) only [spec_l12Valid.f, B_size, hw, dT, dF, cond_true, Bool.false_and]
theorem valid_impl (n0 : Nat) (d p : List UInt8) (n : Int) (hd : d.length < 2 ^ 28) (hp : p.length < 2 ^ 28) (hn0 : 2 ^ 40 ≤ n0) : impl_IsValidLog.f n0 (B d) (B p) n = some (validL d p n) := by
  have e1 := recordsOf_eq n0 (d ++ p) (by simp; omega) hn0
  have hw : IntKind.wrap .i64 ((d.length : Int) + (p.length : Int)) = ((d.length + p.length : Nat) : Int) := by rw [w64 (by omega) (by omega)]; omega
  have hk := ends_kept (d := d) (p := p)
  have h60 := (opens_pre 60 (d ++ p) 0).2.1
  unfold validL
  by_cases a : d.length + p.length ≤ 30000
  · generalize opens 60 (d ++ p) 0 = es at *
    have hl : (0 :: endsE 0 0 es).length = es.length + 1 := by simp [endsE_len]
    have e2 := contains_ints n0 (0 :: endsE 0 0 es) d.length (by omega) hn0
    rw [hl] at e2
    have hg : gInt .i64 (((0 :: endsE 0 0 es).map intA).getD (es.length * 1) .undef) = some ((linesE 0 es).length : Int) := by
      rw [Nat.mul_one, List.getD_eq_getElem?_getD, List.getElem?_map, endsE_get 0 0 es es.length (Nat.le_refl _), List.take_length]; simp [intA, gInt]
    simp (disch := omega) only [impl_IsValidLog.f, B_size, hw, dF, cond_false, dT, cond_true, B_append, e1, bind_some', Bool.true_and, Bool.and_self, Int.toNat_natCast, hg, e2]
    have c1 : (((linesE 0 es).length : Int) == ((d.length + p.length : Nat) : Int)) = ((linesE 0 es).length == d.length + p.length) := by
      rw [Bool.eq_iff_iff, beq_iff_eq, beq_iff_eq]; omega
    rw [c1]
    cases c : (linesE 0 es).length == d.length + p.length
    · rfl
    · have hk := hk (by simpa using c)
      have c2 : (0 :: endsE 0 0 es).contains d.length = ((linesE 0 (opens 60 d 0)).length == d.length) := by
        rw [Bool.eq_iff_iff, List.contains_iff_mem, beq_iff_eq]; exact hk
      have c3 : (n == (es.length : Int)) = ((es.length : Int) == n) := by
        rw [Bool.eq_iff_iff, beq_iff_eq, beq_iff_eq]; exact eq_comm
      rw [c2, c3]
      simp only [cond_true, Bool.true_and]
      cases (linesE 0 (opens 60 d 0)).length == d.length <;> rfl
  · simp (disch := omega) only [impl_IsValidLog.f, B_size, hw, dT, dF, cond_true, Bool.false_and]
end Go.Pu
