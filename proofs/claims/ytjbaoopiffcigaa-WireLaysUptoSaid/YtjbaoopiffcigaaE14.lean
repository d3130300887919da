/- The engine, part 14: the operations, each against the machine's. Conditions: none. -/
import Derived.Test.YtjbaoopiffcigaaE13
set_option linter.unusedVariables false
set_option linter.unusedSimpArgs false
namespace Go.Eng

def quietO (X : Ctx) : Op → Bool
  | .store .. => false
  | .call c => match c.callee with
    | .builtin .append => false
    | .builtin _ => true
    | .value (.func f) => X.pure f && (X.prim f).isNone
    | _ => false
  | _ => true

theorem wp_val {P : Program} {o : Oper} {a : Act} {w w' : World} {u : Value} {next : Act → World → Prop} {Q : Exit → Act → World → Prop} (he : (execOp a.eval o).run P w = .ok (.value u) w') (h : next (a.put o.dst u) w') : o.wp P a w next Q := by
  unfold Oper.wp
  rw [he]
  exact h

theorem run_value {P : Program} {s : Sem Value} {w w' : World} {u : Value} (h : s.run P w = .ok u w') : (do pure (.value (← s)) : Sem Next).run P w = .ok (.value u) w' := by
  simp only [Sem.run_bind, h, Result.andThen_ok, Sem.run_pure]

theorem val_some {st st' : Store} {x : Option AV} {v : AV} (h : val st x = some (v, st')) : x = some v ∧ st' = st := by
  unfold val at h
  obtain ⟨y, hy, e⟩ := Option.map_eq_some_iff.1 h
  cases e
  exact ⟨hy, rfl⟩

theorem callFunc_enter {P : Program} {f : FuncId} (hE : EnterOk P f) (args : Array Value) (w : World) : (callFunc f args).run P w = .ok (.enter f args) w := by
  obtain ⟨fn, h1, h2, h3⟩ := hE
  have h2' : ¬ fn.name = "runtime.NumGoroutine" := by simpa using h2
  have h3' : ¬ fn.body = none := by intro e; rw [e] at h3; simp at h3
  simp [callFunc, h1, h2', h3']

theorem parts_rep {k : Keep} {M : Mem} {ρ : Operand → AV} {ρ' : Operand → Value} (hρ : ∀ x, RepA k M (ρ x) (ρ' x)) (ps : Array (Nat × Operand)) :
    (ps.toList.map fun p => (p.1, ρ p.2)).length = (ps.map fun (i, x) => (i, ρ' x)).toList.length ∧
    ∀ (i : Nat) p q, (ps.toList.map fun p => (p.1, ρ p.2))[i]? = some p → (ps.map fun (i, x) => (i, ρ' x)).toList[i]? = some q → p.1 = q.1 ∧ RepA k M p.2 q.2 := by
  refine ⟨by simp, fun i p q hp hq => ?_⟩
  simp only [List.getElem?_map, Option.map_eq_some_iff, Array.toList_map] at hp hq
  obtain ⟨y, hy, rfl⟩ := hp
  obtain ⟨z, hz, rfl⟩ := hq
  rw [hy] at hz; cases hz
  exact ⟨rfl, hρ _⟩

theorem args_rep {k : Keep} {M : Mem} {ρ : Operand → AV} {ρ' : Operand → Value} (hρ : ∀ x, RepA k M (ρ x) (ρ' x)) : ∀ l : List Operand, RepAs k M (l.map ρ) (l.map ρ')
  | [] => rfl
  | x :: r => ⟨_, _, rfl, hρ x, args_rep hρ r⟩

theorem opt_rep {k : Keep} {M : Mem} {ρ : Operand → AV} {ρ' : Operand → Value} (hρ : ∀ x, RepA k M (ρ x) (ρ' x)) (x : Option Operand) : RepO k M (x.map ρ) (x.map ρ') := by
  cases x with
  | none => trivial
  | some x => exact hρ x

theorem callV_pure {X : Ctx} {call : Call} (hC : CallOk X call) {k : Keep} {M : Mem} (hI : Inv k M) {wr : Bool} {f : FuncId} {args : List AV} {vs : List Value} {st st' : Store} {v : AV}
    (hp : X.pure f = true) (hprim : X.prim f = none) (ha : RepAs k M args vs) (h : callV X call wr f args st = some (v, st')) (hpre0 : Pre st M.st) (hpre : Pre st' M.st) (hno : ∀ i, st.length ≤ i → i < st'.length → M.m i = none) :
    EnterOk X.P f ∧ Calls X.P f vs.toArray M.w (fun e w' => ∃ m' r, e = .returned r ∧ RepA k ⟨m', M.st, w'⟩ v r ∧ Stp k M ⟨m', M.st, w'⟩ ∧ ∀ i, (i < st.length ∨ st'.length ≤ i) → m' i = M.m i) := by
  unfold callV at h
  rw [hprim] at h
  simp only [hp, cond_true] at h
  split at h
  · rename_i ds hds
    obtain ⟨pr, hpr, hin⟩ := Option.map_eq_some_iff.1 h
    exact pure_sound hC hI hpr (fzAll_sound hI hpre0 ha hds) (.inl rfl) hin hpre hno
  · obtain ⟨ds, hds, h9⟩ := Option.bind_eq_some_iff.1 h
    obtain ⟨pr, hpr, h8⟩ := Option.bind_eq_some_iff.1 h9
    cases hf : pr.flat with
    | false => rw [hf] at h8; simp at h8
    | true =>
      rw [hf] at h8
      simp only [cond_true, Option.some.injEq] at h8
      exact pure_sound hC hI hpr (fzAll_sound hI hpre0 ha hds) (.inr hf) h8 hpre hno

theorem target_sound {k : Keep} {M : Mem} {x : AV} {u : Value} (h : RepA k M x u) {g : FuncId} {cap : List AV} (ht : targetOf x = some (g, cap)) : ∃ cs : List Value, u = .func (.func g) #[] cs.toArray ∧ RepAs k M cap cs := by
  unfold targetOf at ht
  split at ht
  · cases ht; obtain ⟨cs, rfl, hcs⟩ := h; exact ⟨cs, rfl, hcs⟩
  · cases ht; exact ⟨[], h.2, rfl⟩
  · cases ht

theorem run_call {P : Program} {ρ : Operand → Value} {c : Go.Call} {o : Oper} {f : Operand} {g : FuncId} {cs : List Value} (w : World) (hop : o.op = .call c) (hc : c.callee = .value f) (hf : ρ f = .func (.func g) #[] cs.toArray) (hE : EnterOk P g) :
    (execOp ρ o).run P w = .ok (.enter g ((c.args.toList.map ρ ++ cs).toArray)) w := by
  have hr : (resolve ρ c o.type).run P w = .ok { target := .fn (.func g) cs.toArray, args := #[] ++ c.args.map ρ } w := by
    unfold resolve
    rw [hc]
    simp only [hf, Deferred.ofValue]
    rfl
  unfold execOp
  rw [hop]
  simp only [Sem.run_bind, hr, Result.andThen_ok, invoke]
  rw [callFunc_enter hE]
  congr 2
  apply Array.ext'
  simp

theorem lenOp_sound {P : Program} {k : Keep} {M : Mem} {types : Array TypeId} {ty : TypeId} {x r : AV} {u : Value} (hx : RepA k M x u) (w : World) (h : lenOp P types x = some r) :
    ∃ v, (Builtin.len_ types ty #[u]).run P w = .ok v w ∧ RepA k M r v := by
  unfold lenOp at h
  split at h
  case h_2 => cases h
  rename_i i hti
  obtain ⟨t, ht, hti⟩ := Option.bind_eq_some_iff.1 hti
  obtain ⟨info, d, i1, i2, i3, i4, i5, i6⟩ := ti_spec hti
  split at h
  · rename_i e hk
    rw [hk] at i6
    obtain ⟨e', rfl⟩ : ∃ e', d = .slice e' := by cases d <;> simp [kOf] at i6; exact ⟨_, rfl⟩
    have key : ∃ a n c, u = .slice a n c ∧ r = intD n := by
      unfold lenSl at h
      split at h <;> cases h
      · exact ⟨_, _, _, hx, rfl⟩
      · obtain ⟨a, e, _⟩ := hx; exact ⟨_, _, _, e, rfl⟩
      · obtain ⟨a, c, e, _⟩ := hx; exact ⟨_, _, _, e, rfl⟩
      · obtain ⟨_, _, _, ⟨a, c, e, _⟩, _⟩ := hx; exact ⟨_, _, _, e, rfl⟩
    obtain ⟨a, n, c, rfl, rfl⟩ := key
    exact ⟨goInt n, by simp [Builtin.len_, ht, run_underlying i2], RepA.mkInt _ _⟩
  · rename_i hk
    rw [hk] at i6
    obtain rfl : d = .string := by cases d <;> simp [kOf] at i6 <;> rfl
    unfold lenStr at h
    split at h <;> cases h
    obtain ⟨a, rfl, rfl⟩ := hx
    have hsz : a.data.toList.length = a.size := by rw [Array.length_toList]; rfl
    exact ⟨goInt a.size, by simp [Builtin.len_, ht, run_underlying i2], by rw [hsz]; exact RepA.mkInt _ _⟩
  · cases h

theorem opE_quiet {X : Ctx} {an : Ann} {call : Call} (hC : CallOk X call) {k : Keep} {M : Mem} (hI : Inv k M) {o : Oper} {a : Act} {ρ : Operand → AV} {st st' : Store} {v : AV}
    (hq : quietO X o.op = true) (hρ : ∀ x, RepA k M (ρ x) (a.eval x)) (h : opE X an call o ρ st = some (v, st')) (hpre0 : Pre st M.st) (hpre : Pre st' M.st) (hno : ∀ i, st.length ≤ i → i < st'.length → M.m i = none)
    {next : Act → World → Prop} {Q : Exit → Act → World → Prop}
    (hn : ∀ m' w' u, RepA k ⟨m', M.st, w'⟩ v u → Stp k M ⟨m', M.st, w'⟩ → (∀ i, (i < st.length ∨ st'.length ≤ i) → m' i = M.m i) → next (a.put o.dst u) w') : o.wp X.P a M.w next Q := by
  have rd : ∀ u, RepA k M v u → next (a.put o.dst u) M.w := fun u hu => hn M.m M.w u hu (Stp.refl hI) (fun _ _ => rfl)
  have qk : ∀ s : Sem Value, execOp a.eval o = (do pure (.value (← s))) → QOk X.P k M st.length st'.length v s → o.wp X.P a M.w next Q := by
    intro s he ⟨w', m', u, h1, h2, h3, h4⟩
    exact wp_val (by rw [he]; exact run_value h1) (hn m' w' u h2 h3 h4)
  obtain ⟨dst, op, type, pos, after, guard⟩ := o
  unfold opE at h
  simp only at h hq
  cases op with
  | move x =>
    obtain ⟨h1, rfl⟩ := val_some h
    cases h1
    exact wp_val (w' := M.w) (u := a.eval x) rfl (rd _ (hρ x))
  | assign x =>
    cases hvi : flagOf an.virt dst with
    | true =>
      simp only [hvi, cond_true, Option.some.injEq, Prod.mk.injEq] at h
      obtain ⟨rfl, rfl⟩ := h
      refine wp_val (w' := M.w) (u := a.eval x) rfl (rd _ (virtAV_sound (fun i b hb => hpre _ _ ?_) (hρ x)))
      rw [List.getElem?_append_right (by omega), Nat.add_sub_cancel_left]; exact hb
    | false =>
      simp only [hvi, cond_false] at h
      obtain ⟨h1, rfl⟩ := val_some h
      cases h1
      exact wp_val (w' := M.w) (u := a.eval x) rfl (rd _ (hρ x))
  | pick c x y =>
    obtain ⟨h1, rfl⟩ := val_some h
    obtain ⟨t, ht, rfl⟩ := Option.map_eq_some_iff.1 h1
    have hc := hρ c
    rw [asB_some ht] at hc
    have hc' : a.eval c = .bool t := hc.2
    refine wp_val (w' := M.w) (u := if t then a.eval x else a.eval y) ?_ (rd _ (pickV_sound (fun _ => hρ x) (fun _ => hρ y)))
    show (do pure (.value (if ← asBool (a.eval c) then a.eval x else a.eval y)) : Sem Next).run X.P M.w = _
    rw [hc']; simp [asBool]
  | alloc t =>
    obtain ⟨i, hi, h9⟩ := Option.bind_eq_some_iff.1 h
    obtain ⟨z, hz, h8⟩ := Option.bind_eq_some_iff.1 h9
    clear h h9
    by_cases hc : ((constAV z).cells.length == i.size && !(i.size == 0)) = true
    · simp only [hc, cond_true] at h8
      simp only [Bool.and_eq_true, beq_iff_eq, Bool.not_eq_true', beq_eq_false_iff_ne] at hc
      obtain ⟨w', m', u, h1, h2, h3, h4⟩ : QOk X.P k M st.length st'.length v (do pure (.pointer (some (← newVar t z)))) := by
        cases hty : flagOf an.ty dst with
        | false =>
          rw [hty] at h8
          exact newVar_ok (P := X.P) hI (RepA.const k M z) hc.1 hc.2 h8 hpre hno t
        | true =>
          rw [hty] at h8
          obtain ⟨⟨v0, st0⟩, h6, h7⟩ := Option.map_eq_some_iff.1 h8
          cases h7
          obtain ⟨w', m', u, h1, h2, h3, h4⟩ := newVar_ok (P := X.P) hI (RepA.const k M z) hc.1 hc.2 h6 hpre hno t
          obtain ⟨r1, r2⟩ := newVar_ty (P := X.P) (M := M) (M' := ⟨m', M.st, w'⟩) (RepA.const k M z) hc.1 hc.2 h6 h1 h2
          exact ⟨w', m', u, h1, ⟨r1, r2⟩, h3, h4⟩
      refine wp_val (u := u) (w' := w') ?_ (hn m' w' u h2 h3 h4)
      show (do pure (.value (← Instr.alloc t true (.tuple #[]))) : Sem Next).run X.P M.w = _
      refine run_value ?_
      simp only [Instr.alloc, Sem.run_bind, run_zero hi hz, Result.andThen_ok]
      simpa only [Sem.run_bind] using h1
    · simp only [Bool.eq_false_iff.2 hc, cond_false] at h8; cases h8
  | box t x =>
    obtain ⟨i, hi, h8⟩ := Option.bind_eq_some_iff.1 h
    clear h
    by_cases hc : ((ρ x).cells.length == i.size && !(i.size == 0)) = true
    · simp only [hc, cond_true] at h8
      simp only [Bool.and_eq_true, beq_iff_eq, Bool.not_eq_true', beq_eq_false_iff_ne] at hc
      exact qk _ rfl (newVar_ok (P := X.P) hI (hρ x) hc.1 hc.2 h8 hpre hno t)
    · simp only [Bool.eq_false_iff.2 hc, cond_false] at h8; cases h8
  | build t ps =>
    obtain ⟨i, hi, h9⟩ := Option.bind_eq_some_iff.1 h
    obtain ⟨h1, rfl⟩ := val_some h9
    clear h h9
    unfold buildV at h1
    split at h1
    · rename_i fs z hk hz
      obtain ⟨info, d, i1, i2, i3, i4, i5, i6⟩ := ti_spec hi
      rw [hk] at i6
      obtain ⟨fields, rfl, hfs⟩ : ∃ fields, d = .struct fields ∧ fields.toList.mapM (fun f => (X.P.info? f.type).map fun i => (f.offset, i.size)) = some fs := by
        cases d <;> simp [kOf] at i6; exact ⟨_, rfl, i6.symm⟩
      obtain ⟨p1, p2⟩ := parts_rep hρ ps
      by_cases hsz : ((constAV z).cells.length == i.size && !(i.size == 0)) = true
      case neg => simp only [Bool.eq_false_iff.2 hsz, cond_false] at h1; cases h1
      simp only [hsz, cond_true] at h1
      simp only [Bool.and_eq_true, beq_iff_eq, Bool.not_eq_true', beq_eq_false_iff_ne] at hsz
      by_cases hzc : (constAV z).cells = []
      · rw [hzc] at hsz; exact absurd hsz.1.symm hsz.2
      · obtain ⟨zc1, zc2⟩ := const_cells (n := (constAV z).cells.length) (fun e => hzc (List.length_eq_zero_iff.1 e)) rfl
        obtain ⟨_, _, _, _, zc5⟩ := RepA.cells (RepA.const k M z) hzc
        obtain ⟨cs', g1, g2⟩ := buildS_sound (k := k) (M := M) (places := fs.toArray) fs rfl _ _ (constAV z) v z.cells zc1.symm zc5 zc2 p1 p2 h1
        refine wp_val (w' := M.w) (u := .agg cs') ?_ (rd _ g2)
        show (do pure (.value (← Instr.build t (ps.map fun (i, x) => (i, a.eval x)))) : Sem Next).run X.P M.w = _
        refine run_value (run_build M.w t _ cs' ?_)
        unfold Program.built
        simp only [i1, i2, ← i5, hz, hfs]
        exact g1
    · cases h1
  | buildSlice t n ps =>
    obtain ⟨p1, p2⟩ := parts_rep hρ ps
    have := buildSl_sound (P := X.P) hI hpre0 hpre hno p1 p2 h
    exact qk _ rfl this
  | load t x =>
    obtain ⟨i, hi, h9⟩ := Option.bind_eq_some_iff.1 h
    obtain ⟨h1, rfl⟩ := val_some h9
    obtain ⟨ad, vr, e, hrun, hr⟩ := ldPtr_sound (P := X.P) hI hpre0 hi (hρ x) h1
    refine wp_val (w' := M.w) (u := vr) ?_ (rd _ hr)
    show (do pure (.value (← Instr.loadAt t (a.eval x))) : Sem Next).run X.P M.w = _
    refine run_value ?_
    rw [e]
    simpa only [Instr.loadAt, Instr.sureAddr, Sem.run_bind, Sem.run_pure, Result.andThen_ok] using hrun
  | nilCheck x =>
    obtain ⟨h1, rfl⟩ := val_some h
    have hx := hρ x
    have key : ρ x = v ∧ ((∃ ad, a.eval x = .pointer (some ad)) ∨ ∃ f cs, a.eval x = .func (.func f) #[] cs) := by
      unfold nilOk at h1
      split at h1
      · rename_i heq
        rw [heq] at hx
        obtain ⟨⟨_, _, _, _, ad, e⟩, _⟩ := hx
        exact ⟨by cases h1; rfl, .inl ⟨ad, e⟩⟩
      · rename_i heq
        rw [heq] at hx
        obtain ⟨_, _, _, _, ad, e⟩ := hx
        exact ⟨by cases h1; rfl, .inl ⟨ad, e⟩⟩
      · rename_i heq
        rw [heq] at hx
        obtain ⟨_, _, _, e, _⟩ := hx
        exact ⟨by cases h1; rfl, .inl ⟨_, e⟩⟩
      · rename_i heq
        rw [heq] at hx
        obtain ⟨_, e, _⟩ := hx
        exact ⟨by cases h1; rfl, .inr ⟨_, _, e⟩⟩
      · cases h1
    obtain ⟨e1, e2⟩ := key
    rw [e1] at hx
    refine wp_val (w' := M.w) (u := a.eval x) ?_ (rd _ hx)
    rcases e2 with ⟨ad, e⟩ | ⟨f, cs, e⟩ <;> simp [execOp, e]
  | binOp op t x y t' =>
    obtain ⟨h1, rfl⟩ := val_some h
    obtain ⟨vr, g1, g2⟩ := binV_sound (P := X.P) hpre0 (hρ x) (hρ y) h1 x y M.w
    exact qk _ rfl (QOk.read hI g1 g2)
  | unOp op t x =>
    obtain ⟨h1, rfl⟩ := val_some h
    obtain ⟨vr, g1, g2⟩ := unV_sound (P := X.P) (hρ x) h1 M.w
    exact qk _ rfl (QOk.read hI g1 g2)
  | convert s t x => exact qk _ rfl (convV_sound (P := X.P) hI hpre0 hpre hno (hρ x) h)
  | makeFunc fn first cap =>
    cases fn with
    | func f =>
      simp only at h
      by_cases hf : (first.size == 0) = true
      · simp only [hf, cond_true] at h
        obtain ⟨h1, rfl⟩ := val_some h
        cases h1
        have hf0 : first = #[] := Array.size_eq_zero_iff.1 (beq_iff_eq.1 hf)
        subst hf0
        refine wp_val (w' := M.w) (u := .func (.func f) #[] (cap.map a.eval)) ?_ (rd _ ⟨(cap.map a.eval).toList, by rw [Array.toArray_toList], ?_⟩)
        · show (do pure (.value (← Instr.makeFunc (.func f) (#[].map a.eval) (cap.map a.eval))) : Sem Next).run X.P M.w = _
          have e0 : (#[] : Array Operand).map a.eval = #[] := by simp
          rw [e0]
          rfl
        · rw [Array.toList_map]; exact args_rep hρ cap.toList
      · simp only [Bool.eq_false_iff.2 hf, cond_false] at h; cases h
    | _ => cases h
  | slice t x lo hi mx =>
    obtain ⟨i, hi', h9⟩ := Option.bind_eq_some_iff.1 h
    obtain ⟨h1, rfl⟩ := val_some h9
    obtain ⟨vr, g1, g2⟩ := sliceV_sound (P := X.P) hI hpre0 hi' (hρ x) (opt_rep hρ lo) (opt_rep hρ hi) (opt_rep hρ mx) h1 M.w
    exact qk _ rfl (QOk.read hI g1 g2)
  | fieldAddr t x f =>
    obtain ⟨i, hi, h9⟩ := Option.bind_eq_some_iff.1 h
    obtain ⟨h1, rfl⟩ := val_some h9
    obtain ⟨vr, g1, g2⟩ := fieldP_sound (P := X.P) hi (hρ x) h1 M.w
    exact qk _ rfl (QOk.read hI g1 g2)
  | indexAddr t x ix =>
    obtain ⟨i, hi, h9⟩ := Option.bind_eq_some_iff.1 h
    obtain ⟨n, hn', h8⟩ := Option.bind_eq_some_iff.1 h9
    obtain ⟨h1, rfl⟩ := val_some h8
    obtain ⟨q, hq'⟩ := asI_some hn'
    have hix := hρ ix
    rw [hq'] at hix
    obtain ⟨vr, g1, g2⟩ := indexP_sound (P := X.P) hi (hρ x) (q := q) h1 M.w
    have e : a.eval ix = .int q n := hix.2
    exact qk (Instr.indexAt t (a.eval x) (a.eval ix)) rfl (QOk.read hI (by rw [e]; exact g1) g2)
  | index t x ix =>
    obtain ⟨i, hi, h9⟩ := Option.bind_eq_some_iff.1 h
    obtain ⟨n, hn', h8⟩ := Option.bind_eq_some_iff.1 h9
    obtain ⟨h1, rfl⟩ := val_some h8
    obtain ⟨q, hq'⟩ := asI_some hn'
    have hix := hρ ix
    rw [hq'] at hix
    obtain ⟨vr, g1, g2⟩ := indexV_sound (P := X.P) hi (hρ x) (q := q) h1 M.w
    have e : a.eval ix = .int q n := hix.2
    exact qk (Instr.index t (a.eval x) (a.eval ix)) rfl (QOk.read hI (by rw [e]; exact g1) g2)
  | extract x n =>
    simp only at h
    split at h
    · rename_i l heq
      obtain ⟨h1, rfl⟩ := val_some h
      have hx := hρ x
      rw [heq] at hx
      obtain ⟨cs, e, hcs⟩ := hx
      obtain ⟨l1, l2⟩ := (RepAs.iff _ _).1 hcs
      have hlt := (List.getElem?_eq_some_iff.1 h1).1
      obtain ⟨u, hu⟩ : ∃ u, cs[n]? = some u := ⟨_, List.getElem?_eq_getElem (by omega)⟩
      refine wp_val (w' := M.w) (u := u) ?_ (rd _ (l2 n v u h1 hu))
      show (do pure (.value (← Instr.extract (a.eval x) n)) : Sem Next).run X.P M.w = _
      refine run_value ?_
      rw [e]
      simp [Instr.extract, hu]
    · cases h
  | call c =>
    obtain ⟨callee, args, types⟩ := c
    cases callee with
    | builtin b =>
      have hex : execOp a.eval ⟨dst, .call ⟨.builtin b, args, types⟩, type, pos, after, guard⟩ = builtin b types type (args.map fun | .const _ => true | _ => false) (args.map a.eval) := rfl
      simp only at h
      have hargs := args_rep hρ args.toList
      have hxe : ∀ s : Sem Value, builtin b types type (args.map fun | .const _ => true | _ => false) (args.map a.eval) = (do pure (.value (← s))) → execOp a.eval ⟨dst, .call ⟨.builtin b, args, types⟩, type, pos, after, guard⟩ = (do pure (.value (← s))) := fun s e => hex.trans e
      cases b with
      | len =>
        simp only [builtinV] at h
        split at h
        · rename_i x heq
          obtain ⟨h1, rfl⟩ := val_some h
          rw [heq] at hargs
          obtain ⟨u, t, he, hx, ht⟩ := hargs
          have ht : t = [] := ht
          subst ht
          obtain ⟨vr, g1, g2⟩ := lenOp_sound (P := X.P) (ty := type) hx.unt M.w h1
          have hae : args.map a.eval = #[u] := by apply Array.ext'; simpa using he
          refine qk (Builtin.len_ types type #[u]) (hxe _ ?_) (QOk.read hI g1 g2)
          show (do pure (Next.value (← Builtin.len_ types type (args.map a.eval))) : Sem Next) = _
          rw [hae]
        · cases h
      | append => simp [quietO] at hq
      | max =>
        simp only [builtinV] at h
        obtain ⟨h1, rfl⟩ := val_some h
        unfold maxL at h1
        split at h1
        · cases h1
        · rename_i x r heq
          rw [heq] at hargs
          obtain ⟨u, t, he, hx, ht⟩ := hargs
          obtain ⟨vr, g1, g2⟩ := maxF_sound (P := X.P) false r t x v u hx ht h1 M.w
          have hae : (args.map a.eval).toList = u :: t := by simpa using he
          refine qk (Builtin.max_ types type (args.map a.eval)) (hxe _ rfl) (QOk.read hI ?_ g2)
          unfold Builtin.max_
          rw [hae]
          simpa using g1
      | min =>
        simp only [builtinV] at h
        obtain ⟨h1, rfl⟩ := val_some h
        unfold maxL at h1
        split at h1
        · cases h1
        · rename_i x r heq
          rw [heq] at hargs
          obtain ⟨u, t, he, hx, ht⟩ := hargs
          obtain ⟨vr, g1, g2⟩ := maxF_sound (P := X.P) true r t x v u hx ht h1 M.w
          have hae : (args.map a.eval).toList = u :: t := by simpa using he
          refine qk (Builtin.min_ types type (args.map a.eval)) (hxe _ rfl) (QOk.read hI ?_ g2)
          unfold Builtin.min_
          rw [hae]
          simpa using g1
      | _ => simp only [builtinV] at h; cases h
    | value f =>
      simp only [quietO] at hq
      cases f with
      | func g =>
        simp only [Bool.and_eq_true, Option.isNone_iff_eq_none] at hq
        simp only at h
        obtain ⟨⟨g', cap⟩, ht, h9⟩ := Option.bind_eq_some_iff.1 h
        obtain ⟨cs, hcs, hcap⟩ := target_sound (hρ (.func g)) ht
        have hg : g' = g ∧ cs = [] := by
          have e : a.eval (.func g) = .func (.func g) #[] #[] := rfl
          rw [e] at hcs
          injection hcs with e1 e2 e3
          injection e1 with e1
          exact ⟨e1.symm, by have := congrArg Array.toList e3; simpa using this.symm⟩
        obtain ⟨rfl, rfl⟩ := hg
        obtain ⟨hE, hcall⟩ := callV_pure hC hI hq.1 hq.2 (RepAs.append (args_rep hρ args.toList) hcap) h9 hpre0 hpre hno
        unfold Oper.wp
        rw [run_call (o := ⟨dst, .call ⟨.value (.func g'), args, types⟩, type, pos, after, guard⟩) M.w rfl rfl hcs hE]
        exact hcall.mono fun e w' ⟨m', r, he, g1, g2, g3⟩ => by subst he; exact hn m' w' r g1 g2 g3
      | _ => cases hq
    | invoke => simp [quietO] at hq
  | store t x y => simp [quietO] at hq
  | _ => cases h

end Go.Eng
