/- The abstract machine, part 7: soundness of every operation that leaves memory alone. No condition. -/
import Derived.Test.YtnalegahabfglaaDoorAbQuietOk
set_option linter.all false
set_option linter.unusedVariables false
set_option linter.unusedSimpArgs false
namespace Go.Ab
open Go
section
variable {E : Env} {G : Gh} {ι : Inj} {R : Type} {k : AV → Option R} {r : R}

theorem ORelO_map {f : Operand → AV} {f' : Operand → Value} (h : ∀ x, VRel G ι (f x) (f' x)) (o : Option Operand) : ORelO G ι (o.map f) (o.map f') := by
  cases o with
  | none => trivial
  | some x => exact h x

theorem fieldAddrK_ok {s : TypeId} {x : AV} {x' : Value} {f : Nat} (h : fieldAddrK E.P s x f k = some r) (hx : VRel G ι x x') :
    ∃ v v', k v = some r ∧ VRel G ι v v' ∧ ∀ w, (Instr.fieldAt s x' f).run E.P w = .ok v' w := by
  unfold fieldAddrK at h
  split at h
  · rename_i fs ht
    split at h
    · rename_i fd hf
      cases hs : szOf E.P fd.type == 0
      · simp only [hs, cond_false] at h
        have hz : ∀ w, (sizeOf fd.type).run E.P w = .ok (szOf E.P fd.type) w := szOf_run hs
        have hz0 : ¬ szOf E.P fd.type = 0 := by simpa using hs
        split at h
        · cases hx with
          | ptr hι =>
            exact ⟨_, _, h, .ptr hι, fun w => by
              simp [Instr.fieldAt, run_underlying ht, hf, Instr.sureAddr, fieldPlace, hz, hz0, Addr.add_lit]⟩
        · cases hx with
          | cptr vf hg hv =>
            exact ⟨_, _, h, .cptr vf hg hv, fun w => by
              simp [Instr.fieldAt, run_underlying ht, hf, Instr.sureAddr, fieldPlace, hz, hz0, Addr.add_lit, Nat.add_assoc]⟩
        · cases h
      · simp [hs] at h
    · cases h
  · cases h

theorem fieldK_ok {t : TypeId} {x : AV} {x' : Value} {f : Nat} (h : fieldK E.P t x f k = some r) (hx : VRel G ι x x') :
    ∃ v v', k v = some r ∧ VRel G ι v v' ∧ ∀ w, (Instr.field t x' f).run E.P w = .ok v' w := by
  unfold fieldK at h
  split at h
  · rename_i fs cs ht
    split at h
    · rename_i fd hf
      obtain ⟨vs, rfl, hl⟩ := hx.agg_inv
      obtain ⟨v, v', h1, h2, h3⟩ := readK_part h hl
      exact ⟨v, v', h1, h2, fun w => by simp [Instr.field, run_underlying ht, hf, asAgg, h3]⟩
    · cases h
  · cases h

theorem indexAddrK_ok {t : TypeId} {x ix : AV} {x' ix' : Value} (h : indexAddrK E.P t x ix k = some r) (hx : VRel G ι x x') (hi : VRel G ι ix ix') :
    ∃ v v', k v = some r ∧ VRel G ι v v' ∧ ∀ w, (Instr.indexAt t x' ix').run E.P w = .ok v' w := by
  unfold indexAddrK at h
  split at h
  · rename_i len e i off kd n ht
    obtain ⟨hc, h⟩ := chk_some h
    simp at hc
    rw [hi.int_inv]
    cases hs : szOf E.P e == 0
    · rename_i h'; clear h'
      simp only [hs, cond_false] at h
      cases hx with
      | ptr hι =>
        exact ⟨_, _, h, .ptr hι, fun w => by
          simp [Instr.indexAt, asIntOf, run_underlying ht, Instr.sureAddr, hc.1, hc.2, szOf_run hs, Addr.add_lit]⟩
    · simp [hs] at h
  · rename_i len e cs off kd n ht
    obtain ⟨hc, h⟩ := chk_some h
    simp at hc
    rw [hi.int_inv]
    cases hs : szOf E.P e == 0
    · simp only [hs, cond_false] at h
      cases hx with
      | cptr vf hg hv =>
        exact ⟨_, _, h, .cptr vf hg hv, fun w => by
          simp [Instr.indexAt, asIntOf, run_underlying ht, Instr.sureAddr, hc.1, hc.2, szOf_run hs, Addr.add_lit, Nat.add_assoc]⟩
    · simp [hs] at h
  · rename_i e i off len sz kd n ht
    obtain ⟨hc, h⟩ := chk_some h
    simp at hc
    rw [hi.int_inv]
    cases hs : szOf E.P e == 0
    · simp only [hs, cond_false] at h
      cases hx with
      | sref hι _ _ =>
        exact ⟨_, _, h, .ptr hι, fun w => by
          simp [Instr.indexAt, asIntOf, run_underlying ht, hc.1, hc.2, szOf_run hs, Addr.add_lit]⟩
    · simp [hs] at h
  · rename_i e cs len full kd n ht
    obtain ⟨hc, h⟩ := chk_some h
    simp at hc
    rw [hi.int_inv]
    cases hs : szOf E.P e == 0
    · simp only [hs, cond_false] at h
      cases hx with
      | svalNil => exact absurd hc.2 (by simp; omega)
      | sval vf hg hv _ _ =>
        exact ⟨_, _, h, .cptr vf hg hv, fun w => by
          simp [Instr.indexAt, asIntOf, run_underlying ht, hc.1, hc.2, szOf_run hs, Addr.add_lit]⟩
    · simp [hs] at h
  · cases h

theorem indexK_ok {t : TypeId} {x ix : AV} {x' ix' : Value} (h : indexK E.P t x ix k = some r) (hx : VRel G ι x x') (hi : VRel G ι ix ix') :
    ∃ v v', k v = some r ∧ VRel G ι v v' ∧ ∀ w, (Instr.index t x' ix').run E.P w = .ok v' w := by
  unfold indexK at h
  split at h
  · rename_i len e cs kd n ht
    obtain ⟨hc, h⟩ := chk_some h
    simp at hc
    rw [hi.int_inv]
    cases hs : szOf E.P e == 0
    · simp only [hs, cond_false] at h
      obtain ⟨vs, rfl, hl⟩ := hx.agg_inv
      obtain ⟨v, v', h1, h2, h3⟩ := readK_part h hl
      exact ⟨v, v', h1, h2, fun w => by simp [Instr.index, asIntOf, run_underlying ht, hc.1, hc.2, szOf_run hs, h3]⟩
    · simp [hs] at h
  · rename_i s kd n ht
    obtain ⟨hc, h⟩ := chk_some h
    simp at hc
    rw [hi.int_inv, hx.str_inv]
    have hlt : n.toNat < s.size := by omega
    refine ⟨_, _, h, .int _ _, fun w => ?_⟩
    have hb : s[n.toNat]? = some (s[n.toNat]'hlt) := by simp [hlt]
    have he : bt s n = ((s[n.toNat]'hlt).toNat : Int) := by
      unfold bt
      have hlt' : n.toNat < s.data.size := hlt
      rw [Array.getD_eq_getD_getElem?, Array.getElem?_eq_getElem hlt']
      rfl
    simp [Instr.index, asIntOf, run_underlying ht, hc.1, hb, he]
  · cases h

theorem lenK_ok {t ty : TypeId} {x : AV} {x' : Value} (h : lenK E.P t x k = some r) (hx : VRel G ι x x') (ts : Array TypeId) (xs : Array Value) (h1 : ts[0]? = some t) (h2 : xs[0]? = some x') :
    ∃ v v', k v = some r ∧ VRel G ι v v' ∧ ∀ w, (Builtin.len_ ts ty xs).run E.P w = .ok v' w := by
  unfold lenK at h
  split at h
  · rename_i s ht
    rw [hx.str_inv] at h2
    exact ⟨_, _, h, .int _ _, fun w => by simp [Builtin.len_, h1, h2, run_underlying ht, goInt]⟩
  · rename_i n e ht
    exact ⟨_, _, h, .int _ _, fun w => by simp [Builtin.len_, h1, h2, run_underlying ht, goInt]⟩
  · rename_i e i off n sz ht
    cases hx with
    | sref _ _ _ => exact ⟨_, _, h, .int _ _, fun w => by simp [Builtin.len_, h1, h2, run_underlying ht, goInt]⟩
  · rename_i e cs n full ht
    cases hx with
    | svalNil => exact ⟨_, _, h, .int _ _, fun w => by simp [Builtin.len_, h1, h2, run_underlying ht, goInt]⟩
    | sval _ _ _ _ _ => exact ⟨_, _, h, .int _ _, fun w => by simp [Builtin.len_, h1, h2, run_underlying ht, goInt]⟩
  · rename_i e ht
    cases hx
    exact ⟨_, _, h, .int _ _, fun w => by simp [Builtin.len_, h1, h2, run_underlying ht, goInt]⟩
  · cases h

theorem loadX_ok {X : Nat → Prop} {objs : List AObj} {w0 : World} {t : TypeId} {x : AV} {x' : Value} (h : loadK E.P objs t x k = some r) (hx : VRel G ι x x') (hR : Rel E G ι objs w0) (hX : NoX X G ι objs) :
    ∃ v v', k v = some r ∧ VRel G ι v v' ∧ ∀ w, AgreeX X w0 w → (Instr.loadAt t x').run E.P w = .ok v' w := by
  unfold loadK at h
  split at h
  · rename_i cs off hm
    obtain ⟨B, o, rfl, hs, hn⟩ := mem_ok hm hx hR
    obtain ⟨v, v', h1, h2, h3⟩ := readK_load h hs (hn X hX)
    exact ⟨v, v', h1, h2, fun w hw => by simp [Instr.loadAt, Instr.sureAddr, h3 w hw]⟩
  · cases h

/-- **An operation that leaves memory alone.** -/
theorem quietX_ok {X : Nat → Prop} {objs : List AObj} {w0 : World} {o : Oper} {ρ : Operand → AV} {ρ' : Operand → Value} (h : quietK E.P objs ρ o.op k = some r)
    (hρ : ∀ x, VRel G ι (ρ x) (ρ' x)) (hR : Rel E G ι objs w0) (hX : NoX X G ι objs) :
    ∃ v v', k v = some r ∧ VRel G ι v v' ∧ ∀ w, AgreeX X w0 w → (execOp ρ' o).run E.P w = .ok (.value v') w := by
  have lift : ∀ (s : Sem Value), (∃ v v', k v = some r ∧ VRel G ι v v' ∧ ∀ w, s.run E.P w = .ok v' w) → (∀ w, (execOp ρ' o).run E.P w = (s >>= fun v => pure (Next.value v)).run E.P w) →
      ∃ v v', k v = some r ∧ VRel G ι v v' ∧ ∀ w, AgreeX X w0 w → (execOp ρ' o).run E.P w = .ok (.value v') w := fun s ⟨v, v', h1, h2, h3⟩ he =>
    ⟨v, v', h1, h2, fun w _ => by rw [he]; simp [h3]⟩
  unfold quietK at h
  split at h
  · rename_i x ho; exact ⟨_, _, h, hρ x, fun w _ => by simp [execOp, ho]⟩
  · rename_i x ho; exact ⟨_, _, h, hρ x, fun w _ => by simp [execOp, ho]⟩
  · rename_i c a b ho
    split at h
    · rename_i t hc
      have hc' := hρ c
      rw [hc] at hc'
      have hc2 := hc'.bool_inv
      refine ⟨_, (if t then ρ' a else ρ' b), h, ?_, fun w _ => by cases t <;> simp [execOp, ho, hc2, asBool]⟩
      have ha := hρ a
      have hb := hρ b
      unfold pickA
      split
      · rename_i x y e1 e2
        rw [e1] at ha; rw [e2] at hb
        rw [ha.bool_inv, hb.bool_inv]
        cases t <;> exact .bool _
      · cases t
        · exact hb
        · exact ha
    · cases h
  · rename_i x ho
    have hx := hρ x
    split at h
    · rename_i i off he
      rw [he] at hx
      cases hv : ρ' x with
      | pointer a =>
        rw [hv] at hx
        cases hx with
        | ptr hι => exact ⟨_, _, h, .ptr hι, fun w _ => by simp [execOp, ho, hv]⟩
      | _ => rw [hv] at hx; cases hx
    · rename_i cs off he
      rw [he] at hx
      cases hv : ρ' x with
      | pointer a =>
        rw [hv] at hx
        cases hx with
        | cptr vf hg hvv => exact ⟨_, _, h, .cptr vf hg hvv, fun w _ => by simp [execOp, ho, hv]⟩
      | _ => rw [hv] at hx; cases hx
    · rename_i f a b he
      rw [he] at hx
      cases hv : ρ' x with
      | func fn us vs =>
        rw [hv] at hx
        cases hx with
        | fn h1 h2 h3 h4 => exact ⟨_, _, h, .fn h1 h2 h3 h4, fun w _ => by simp [execOp, ho, hv]⟩
      | _ => rw [hv] at hx; cases hx
    · cases h
  · rename_i x i ho
    have hx := hρ x
    split at h
    · rename_i vs he
      rw [he] at hx
      obtain ⟨us, hu, hl⟩ := hx.tup_inv
      split at h
      · rename_i v hv
        obtain ⟨u, hu2, hr⟩ := hl.get hv
        have hu3 : us[i]? = some u := by simpa using hu2
        exact ⟨_, _, h, hr, fun w _ => by simp [execOp, ho, hu, Instr.extract, hu3]⟩
      · cases h
    · cases h
  · rename_i f first cap ho
    refine ⟨_, .func f (first.map ρ') (cap.map ρ'), h, ?_, fun w _ => by simp [execOp, ho, Instr.makeFunc]⟩
    have h1 := cell_slot hρ first
    have h2 := cell_slot hρ cap
    exact .fn (by simp) (fun i a v e1 e2 => h1.2 i a v e1 (by simpa using e2)) (by simp) (fun i a v e1 e2 => h2.2 i a v e1 (by simpa using e2))
  · rename_i t x ho
    split at h
    · cases h
    · cases h
    · rename_i d hd ht
      refine ⟨_, _, h, .iface t (hρ x), fun w _ => ?_⟩
      have : (Instr.makeInterface t (ρ' x)).run E.P w = .ok (.iface t (ρ' x)) w := by
        cases d <;> first | (exact absurd rfl (hd _)) | simp [Instr.makeInterface, run_underlying ht]
      simp [execOp, ho, this]
  · rename_i op t x y yt ho
    exact lift _ (binK_ok h (hρ x) (hρ y)) (fun w => by simp [execOp, ho])
  · rename_i op t x ho
    exact lift _ (unK_ok h (hρ x)) (fun w => by simp [execOp, ho])
  · rename_i s d x ho
    exact lift _ (convK_ok h (hρ x)) (fun w => by simp [execOp, ho])
  · rename_i t x lo hi mx ho
    exact lift _ (sliceK_ok h hR (hρ x) (ORelO_map hρ lo) (ORelO_map hρ hi) (ORelO_map hρ mx)) (fun w => by simp [execOp, ho])
  · rename_i s x f ho
    exact lift _ (fieldAddrK_ok h (hρ x)) (fun w => by simp [execOp, ho])
  · rename_i s x f ho
    exact lift _ (fieldK_ok h (hρ x)) (fun w => by simp [execOp, ho])
  · rename_i s x f ho
    exact lift _ (indexAddrK_ok h (hρ x) (hρ f)) (fun w => by simp [execOp, ho])
  · rename_i s x f ho
    exact lift _ (indexK_ok h (hρ x) (hρ f)) (fun w => by simp [execOp, ho])
  · rename_i t x ho
    obtain ⟨v, v', h1, h2, h3⟩ := loadX_ok h (hρ x) hR hX
    exact ⟨v, v', h1, h2, fun w hw => by simp [execOp, ho, h3 w hw]⟩
  · rename_i args ts ho
    split at h
    · rename_i x t hx ht
      obtain ⟨v, v', h1, h2, h3⟩ := lenK_ok (ty := o.type) h (hρ x) ts (args.map ρ') ht (by simp [hx])
      exact ⟨v, v', h1, h2, fun w _ => by simp [execOp, ho, resolve, invoke, builtin, h3]⟩
    · cases h
  · cases h
end
end Go.Ab
